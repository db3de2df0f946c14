/- Clauses under assumed literals: what the law asks of them, in plain words. The law ClauseUnder, walked. -/
import Derived.Test.YtdllaphnkbnpoaaXw
import Derived.Test.YtdllaphnkbnpoaaXf
import Derived.BigQuiet
namespace Go.Proofs.Ytdllaphnkbnpoaa
open Go.RowKit Go.Proofs

theorem with_sorted (c : List (List Int)) (l : List Int) : satOf (withM c l) [] = satOf (withM c (sortedM l)) [] :=
  (satOf_same fun e => by
    rw [withM_mem, withM_mem]
    constructor
    · rintro (h | ⟨x, h, q⟩)
      · exact .inl h
      · exact .inr ⟨x, (sortedM_has l x).2 h, q⟩
    · rintro (h | ⟨x, h, q⟩)
      · exact .inl h
      · exact .inr ⟨x, (sortedM_has l x).1 h, q⟩).symm

theorem satZ_none {l : List Int} (h1 : l.all isLit = true) (h2 : twiceM l = false) : satisfiesM [] l = (true, 0) := by
  unfold satisfiesM
  rw [if_neg (by simp [refM]), if_neg (by rw [h1]; simp), if_neg (by rw [h2]; simp)]
  rfl
theorem sat_bad {l : List Int} (h : l.all isLit = false ∨ twiceM l = true) : satisfiesM [] l = (false, 1) := by
  unfold satisfiesM
  rw [if_neg (by simp [refM])]
  rcases h with h | h
  · rw [if_pos h]
  · by_cases q : l.all isLit = false
    · rw [if_pos q]
    · rw [if_neg q, if_pos h]

def thereM (vs l : List Int) : List Int := l.filter fun x => vs.contains (x.natAbs : Int)
theorem there_sub (vs l : List Int) : ∀ x ∈ thereM vs l, x ∈ l := fun x hx => (List.mem_filter.1 hx).1

theorem lits_with {c : List (List Int)} {l : List Int} (h : Lits c) (hl : ∀ x ∈ l, x ≠ 0 ∧ x.natAbs ≤ 200) : Lits (withM c l) := fun e he x hx => by
  rcases withM_mem.1 he with z | ⟨y, hy, rfl⟩
  · exact h e z x hx
  · rw [List.mem_singleton] at hx; subst hx; exact hl _ hy
theorem with_len (c : List (List Int)) (l : List Int) : (withM c l).length = c.length + l.length := by unfold withM; simp
theorem with_row {c : List (List Int)} {l : List Int} (h : ∀ e ∈ c, e.length ≤ 12) : ∀ e ∈ withM c l, e.length ≤ 12 := fun e he => by
  rcases withM_mem.1 he with z | ⟨y, hy, rfl⟩
  · exact h e z
  · simp
theorem with_all {c : List (List Int)} {l : List Int} (h : ∀ e ∈ c, e.length ≤ 12) (hc : c.length ≤ 60) (hl : l.length ≤ 12) : (absAll (withM c l)).length ≤ 60000 := by
  have h1 := absAll_len (withM c l) 12 (with_row h)
  rw [with_len] at h1
  have h2 : (c.length + l.length) * 12 ≤ 72 * 12 := Nat.mul_le_mul_right 12 (by omega)
  omega
theorem with_ref {c : List (List Int)} {l : List Int} (h : ∀ e ∈ c, e.length ≤ 12) (hc : c.length ≤ 60) (hl : l.length ≤ 12) (hL : Lits (withM c l)) : refM (withM c l) = 0 := by
  unfold refM
  have h1 : ((withM c l).all fun c => decide (c.length ≤ 30)) = true := List.all_eq_true.2 (fun c hc => decide_eq_true (by have := with_row h c hc; omega))
  have h2 : ((withM c l).all fun c => c.all isLit) = true := List.all_eq_true.2 (fun c hc => lit_big (hL c hc))
  rw [if_neg (by rw [with_len]; omega), if_neg (by rw [h1]; simp), if_neg (by rw [h2]; simp)]
theorem holds_sub {D E : List (List Int)} {T : List Int} (h : ∀ e ∈ E, e ∈ D) (hh : holdsM D T = true) : holdsM E T = true := by
  unfold holdsM at *
  rw [List.all_eq_true] at *
  exact fun e he => hh e (h e he)

theorem there_sat {c : List (List Int)} {l vs T : List Int} (h : ∀ e ∈ c, e.length ≤ 12) (hc : c.length ≤ 60) (hl : l.length ≤ 12) (hL : Lits c) (hll : ∀ x ∈ l, x ≠ 0 ∧ x.natAbs ≤ 200) (hT : ∀ x ∈ T, x ≠ 0 ∧ x.natAbs ≤ 200) (ht : twiceM T = false) (hh : holdsM (withM c (sortedM l)) T = true) :
    satisfiesM (withM c (thereM vs l)) T = (true, 0) := by
  have hlen : (thereM vs l).length ≤ l.length := List.length_filter_le _ _
  have L2 := lits_with (l := thereM vs l) hL (fun x hx => hll x (there_sub vs l x hx))
  unfold satisfiesM
  rw [if_neg (by rw [with_ref h hc (by omega) L2]; simp), if_neg (by rw [lit_big hT]; simp), if_neg (by rw [ht]; simp), holds_sub (with_sub (fun x hx => (sortedM_has l x).2 (there_sub vs l x hx))) hh]

theorem core_in {c : List (List Int)} {l : List Int} : ∀ x ∈ undM c [] (sortedM l), x ∈ l := fun x hx => by
  have := (undM_sub c (sortedM l) []).subset hx
  rw [List.nil_append] at this
  exact (sortedM_has l x).1 this
theorem core_asc {c : List (List Int)} {l : List Int} (ht : twiceM l = false) {i : Nat} (h0 : 0 < i) (hi : i < (undM c [] (sortedM l)).length) : ((undM c [] (sortedM l)).getD (i - 1) 0).natAbs < ((undM c [] (sortedM l)).getD i 0).natAbs := by
  have hp : (sortedM l).Pairwise (fun x y => x.natAbs < y.natAbs) := by
    refine (sortedB l).imp_of_mem (fun {a b} ha hb hab => ?_)
    have ha' := (sortedM_has l a).1 ha
    have hb' := (sortedM_has l b).1 hb
    have hnd : (l.map Int.natAbs).Nodup := by
      unfold twiceM at ht
      have := of_decide_eq_false ht
      exact Classical.byContradiction this
    have hne : a.natAbs ≠ b.natAbs := fun e => by
      have : a = b := by
        rw [List.nodup_iff_pairwise_ne, List.pairwise_map, List.pairwise_iff_getElem] at hnd
        obtain ⟨i1, hi1, rfl⟩ := List.getElem_of_mem ha'
        obtain ⟨j1, hj1, rfl⟩ := List.getElem_of_mem hb'
        rcases Nat.lt_trichotomy i1 j1 with q | q | q
        · exact absurd e (hnd i1 j1 hi1 hj1 q)
        · subst q; rfl
        · exact absurd e.symm (hnd j1 i1 hj1 hi1 q)
      subst this
      rw [bef_irr] at hab
      exact Bool.noConfusion hab
    unfold bef at hab
    rw [if_pos hne] at hab
    exact of_decide_eq_true hab
  have h2 := List.Pairwise.sublist (undM_sub c (sortedM l) []) (by rw [List.nil_append]; exact hp)
  rw [List.pairwise_iff_getElem] at h2
  have := h2 (i - 1) i (by omega) hi (by omega)
  have e1 : (undM c [] (sortedM l)).getD (i - 1) 0 = (undM c [] (sortedM l))[i - 1] := by rw [List.getD_eq_getElem?_getD, List.getElem?_eq_getElem (by omega)]; rfl
  have e2 : (undM c [] (sortedM l)).getD i 0 = (undM c [] (sortedM l))[i] := by rw [List.getD_eq_getElem?_getD, List.getElem?_eq_getElem hi]; rfl
  rw [e1, e2]
  exact this
theorem core_least {c : List (List Int)} {l : List Int} {i : Nat} (hi : i < (undM c [] (sortedM l)).length) : satOf (withM c ((undM c [] (sortedM l)).take i ++ (undM c [] (sortedM l)).drop (i + 1))) [] = true :=
  undM_least c (sortedM l) [] (fun i hi => absurd hi (Nat.not_lt_zero _)) i hi
theorem core_len {c : List (List Int)} {l : List Int} (h : (sortedM l).length = l.length) : (undM c [] (sortedM l)).length ≤ l.length := by
  have := (undM_sub c (sortedM l) []).length_le
  rw [List.nil_append, h] at this
  exact this
theorem ins_le (out : List Int) (x : Int) : (insM out x).length ≤ out.length + 1 := by
  unfold insM
  split
  · omega
  · simp only [List.length_append, List.length_take, List.length_drop, List.length_singleton]; omega
theorem foldIns_le : ∀ (l out : List Int), (l.foldl insM out).length ≤ out.length + l.length
  | [], out => by simp
  | x :: l, out => by
    have h1 := foldIns_le l (insM out x)
    have h2 := ins_le out x
    simp only [List.foldl_cons, List.length_cons]
    omega
theorem core_len2 (c : List (List Int)) (l : List Int) : (undM c [] (sortedM l)).length ≤ l.length := by
  have h1 := (undM_sub c (sortedM l) []).length_le
  rw [List.nil_append] at h1
  have h2 := foldIns_le l []
  unfold sortedM at *
  simp only [List.length_nil] at h2
  omega

theorem lies_take {w : World} {b o : Nat} {xs : List Int} (h : ∀ j, j < xs.length → w.cell? ⟨b, o + j, none⟩ = some (.int .i64 (xs.getD j 0))) (q : Nat) : Reads w (some ⟨b, o, none⟩) (ints (xs.take q)) := by
  refine ⟨fun h => (by cases h), fun a ha j u hu => ?_⟩
  injection ha with ha
  subst ha
  have hj : j < (xs.take q).length := by
    have := (List.getElem?_eq_some_iff.1 hu).1
    rwa [ints_length] at this
  have hu2 := ints_at (xs.take q) hj
  rw [List.length_take] at hj
  rw [hu2] at hu
  rw [← hu, addr_add, at0_take (by omega)]
  exact h j (by omega)
theorem lies_drop {w : World} {b o : Nat} {xs : List Int} (h : ∀ j, j < xs.length → w.cell? ⟨b, o + j, none⟩ = some (.int .i64 (xs.getD j 0))) (q : Nat) {a' : Addr} (ha' : q < xs.length → a' = ⟨b, o + q, none⟩) : Reads w (some a') (ints (xs.drop q)) := by
  refine ⟨fun h => (by cases h), fun a ha j u hu => ?_⟩
  injection ha with ha
  subst ha
  have hj : j < (xs.drop q).length := by
    have := (List.getElem?_eq_some_iff.1 hu).1
    rwa [ints_length] at this
  have hu2 := ints_at (xs.drop q) hj
  rw [List.length_drop] at hj
  rw [hu2] at hu
  have e : at0 (xs.drop q) j = at0 xs (q + j) := by unfold at0; simp
  rw [← hu, ha' (by omega), addr_add, e, Nat.add_assoc]
  exact h (q + j) (by omega)
end Go.Proofs.Ytdllaphnkbnpoaa
namespace Go.Proofs.Ytdllaphnkbnpoaa
open Go.RowKit Go.Proofs

theorem lit_wide2 {D : List (List Int)} (h : Lits D) : ∀ e ∈ D, ∀ x ∈ e, -9223372036854775808 ≤ x ∧ x ≤ 9223372036854775807 := fun e he x hx => by
  have := h e he x hx; omega

def ThRel (w : World) (vs l : List Int) (k : Nat) (x12 x13 : Value) (wr : World) : Prop :=
  ∃ (i : Nat) (th : List Int) (v : Value), x12 = .slice (ad v) th.length (cp v) ∧ x13 = .int .i64 (i : Int) ∧ k + i = l.length ∧ Holds w.heap.size wr (locs (.row v 3 (ints th))) ∧ Below w.heap.size w wr ∧ th ++ thereM vs (l.drop i) = thereM vs l

set_option maxRecDepth 100000 in
set_option maxHeartbeats 4000000 in
theorem underLaw_any {w : World} {A A2 : Option Addr} {D : List (List Int)} {l : List Int} {c c2 : Nat} (hA : LiesR w.heap.size w A D) (hc0 : A = none → c = 0) (h2 : Lies w.heap.size w A2 l) (hn : D.length ≤ 9223372036854775807) (hm : ∀ e ∈ D, e.length ≤ 9223372036854775807) (hw : ∀ e ∈ D, ∀ x ∈ e, -9223372036854775808 ≤ x ∧ x ≤ 9223372036854775807) (hl2 : l.length ≤ 9223372036854775807) (hlw : ∀ x ∈ l, -9223372036854775808 ≤ x ∧ x ≤ 9223372036854775807) :
    Calls Try.prog 7 #[.slice A D.length c, .slice A2 l.length c2] w fun e w' => e = .returned (.bool true) ∧ Below w.heap.size w w' := by
  have LI := light_any (c := c) hA hn
  have RC := refCheck_any (c := c) hA hn hm hw
  by_cases hl : lightM D = true
  · rw [hl] at LI
    by_cases hr : refM D = 0
    · rw [hr] at RC
      have lit := lit_of_ref hr
      have hsmall : D.length ≤ 60 ∧ ∀ e ∈ D, e.length ≤ 12 := by
        unfold lightM at hl
        rw [Bool.and_eq_true] at hl
        exact ⟨of_decide_eq_true hl.1, fun e he => of_decide_eq_true (List.all_eq_true.1 hl.2 e he)⟩
      have hall : (absAll D).length ≤ 60000 := by
        have h1 := absAll_len D 12 hsmall.2
        have h2 := Nat.mul_le_mul_right 12 hsmall.1
        omega
      have RV : Hid (∀ W : World, Below w.heap.size w W → Calls Try.prog 11 #[.slice A D.length c] W fun e w' => ∃ v', e = .returned (.slice (ad v') (refVars D).length (cp v')) ∧ Below W.heap.size W w' ∧ Holds W.heap.size w' (locs (.row v' 3 (ints (refVars D))))) := fun W B =>
        refVars_any (cc := c) (Nat.le_refl _) ((hA.below B).mono B.size) (by omega) (fun i hi => by have := hsmall.2 _ (row_ne D [] hi); omega) hall (fun e he x hx => by have := lit e he x hx; omega)
      have RV0 := RV.out w (Below.refl _ _)
      by_cases hv : 12 < (refVars D).length
      · have g1 : (12 : Int) < ((refVars D).length : Int) := by omega
        clear hA hw hm hl hr lit hsmall hall RV hc0 h2 hlw
        go_enter Try.func7, Try.ntmps7
        go_wp2_with fail
        refine LI.mono ?_
        rintro e w' ⟨rfl, rfl⟩
        go_wp2_with fail
        refine RC.mono ?_
        rintro e w'' ⟨rfl, rfl⟩
        clear LI RC
        go_wp2_with fail
        refine RV0.mono ?_
        rintro e w1 ⟨v', rfl, B1, H1⟩
        have BH : Hid _ := B1
        clear RV0 B1 H1
        go_wp2_with fail
        refine (sane_any _).mono ?_
        rintro e w2 ⟨rfl, B2⟩
        have BE : Hid _ := BH.out.trans (B2.mono BH.out.size)
        clear B2
        go_wp2_with fail
        go_ret
        exact ⟨rfl, BE.out⟩
      · have g1 : ((refVars D).length : Int) ≤ 12 := by omega
        by_cases hq : 12 < l.length
        · have g2 : (12 : Int) < (l.length : Int) := by omega
          clear hA hw hm hl hr lit hsmall hall RV hc0 h2 hlw
          go_enter Try.func7, Try.ntmps7
          go_wp2_with fail
          refine LI.mono ?_
          rintro e w' ⟨rfl, rfl⟩
          go_wp2_with fail
          refine RC.mono ?_
          rintro e w'' ⟨rfl, rfl⟩
          clear LI RC
          go_wp2_with fail
          refine RV0.mono ?_
          rintro e w1 ⟨v', rfl, B1, H1⟩
          have BH : Hid _ := B1
          clear RV0 B1 H1
          go_wp2_with fail
          refine (sane_any _).mono ?_
          rintro e w2 ⟨rfl, B2⟩
          have BE : Hid _ := BH.out.trans (B2.mono BH.out.size)
          clear B2
          go_wp2_with fail
          go_ret
          exact ⟨rfl, BE.out⟩
        · have hq12 : l.length ≤ 12 := by omega
          have g2 : (l.length : Int) ≤ 12 := by omega
          have LG := legal_of hl hr (by omega)
          have hocc : ∀ n ∈ (refVars D).map Int.natAbs, n ≤ 200 := fun n hn' => by
            obtain ⟨y, hy, rfl⟩ := List.mem_map.1 hn'
            obtain ⟨e', he', z, hz, rfl⟩ := refVars_mem.1 hy
            have := lit e' he' z hz
            omega
          have UN : ∀ W, Below w.heap.size w W → Calls Try.prog 23 #[.slice A D.length c, .slice A2 l.length c2, .int .i64 400000] W (UnderRes D l W) := fun W B => under_any LG hocc ((hA.below B).mono B.size) ((h2.below B).mono B.size) hq12
          have S0 : Hid (∀ W, Below w.heap.size w W → Calls Try.prog 15 #[.slice none 0 0, .slice A2 l.length c2] W fun e w' => e = .returned (.tuple #[.bool (satisfiesM [] l).1, .int .i64 (satisfiesM [] l).2]) ∧ Below W.heap.size W w') := fun W B =>
            satisfies_any (D := []) (A := none) (c := 0) (.inl rfl) ((h2.below B).mono B.size) (by simp) (by simp) (by simp) hl2 hlw
          have LW : Hid (∀ (xs : List Int) (W : World) (A9 : Option Addr) (c9 : Nat), Below w.heap.size w W → xs.length ≤ 12 → Lies W.heap.size W A9 xs → Calls Try.prog 24 #[.slice A D.length c, .slice A9 xs.length c9] W (WithRes D xs W)) := fun xs W A9 c9 B hx L =>
            lWith_any ((hA.below B).mono B.size) L hc0 (by omega) (by omega)
          by_cases hbad : l.all isLit = false ∨ twiceM l = true
          · have UNE : Hid (∀ W, Below w.heap.size w W → Calls Try.prog 23 #[.slice A D.length c, .slice A2 l.length c2, .int .i64 400000] W fun e w' => e = .returned (.tuple #[.agg #[.bool false, .slice none 0 0, .slice none 0 0, .int .i64 0], .slice none 0 0, .int .i64 1]) ∧ Below W.heap.size W w') := fun W B => (UN W B).mono fun e w' ⟨b, alt⟩ => by
              rcases alt with ⟨_, h⟩ | ⟨q1, q2, _⟩ | ⟨q1, q2, _⟩
              · exact ⟨h, b⟩
              · rcases hbad with z | z
                · rw [q1] at z; cases z
                · rw [q2] at z; cases z
              · rcases hbad with z | z
                · rw [q1] at z; cases z
                · rw [q2] at z; cases z
            have S0b := S0.out
            rw [sat_bad hbad] at S0b
            have S0h : Hid _ := S0b
            clear hA hw hm hl hr lit hsmall hall RV hc0 h2 hlw UN S0 S0b LW LG hocc hbad hv hq
            go_enter Try.func7, Try.ntmps7
            go_wp2_with fail
            refine LI.mono ?_
            rintro e w' ⟨rfl, rfl⟩
            go_wp2_with fail
            refine RC.mono ?_
            rintro e w'' ⟨rfl, rfl⟩
            clear LI RC
            go_wp2_with fail
            refine RV0.mono ?_
            rintro e w1 ⟨v', rfl, B1, H1⟩
            have BH : Hid _ := B1
            clear RV0 B1 H1
            go_wp2_with fail
            have UC := UNE.out w1 BH.out
            clear UNE
            refine UC.mono ?_
            rintro e w2 ⟨rfl, B2⟩
            have BH2 : Hid _ := BH.out.trans (B2.mono BH.out.size)
            have BA : Hid _ := BH2.out.alloc BH2.out.size (.cells #[.bool false, .slice none 0 0, .slice none 0 0, .int .i64 0] 30)
            have S0c := S0h.out _ BA.out
            clear UC B2 S0h
            go_wp2_with fail
            refine S0c.mono ?_
            rintro e w3 ⟨rfl, B3⟩
            have BF3 : Hid _ := BA.out.trans (B3.mono BA.out.size)
            clear S0c B3
            go_wp2_with fail
            refine (sane_any _).mono ?_
            rintro e w4 ⟨rfl, B4⟩
            have BE : Hid _ := BF3.out.trans (B4.mono BF3.out.size)
            clear B4
            go_wp2_with fail
            go_ret
            exact ⟨rfl, BE.out⟩
          · have hok : l.all isLit = true ∧ twiceM l = false := by
              refine ⟨?_, ?_⟩
              · cases h : l.all isLit with
                | true => rfl
                | false => exact absurd (.inl h) hbad
              · cases h : twiceM l with
                | false => rfl
                | true => exact absurd (.inr h) hbad
            obtain ⟨hok1, hok2⟩ := hok
            have hll := lit_small hok1
            have S0b := S0.out
            rw [satZ_none hok1 hok2] at S0b
            have S0h : Hid _ := S0b
            have hLD : Lits D := lit
            have SATW : Hid (∀ (xs : List Int) (W : World) (A9 : Option Addr) (c9 : Nat), xs.length ≤ 12 → (∀ x ∈ xs, x ≠ 0 ∧ x.natAbs ≤ 200) → LiesR W.heap.size W A9 (withM D xs) → Calls Try.prog 14 #[.slice A9 (withM D xs).length c9] W fun e w' => e = .returned (.bool (satOf (withM D xs) [])) ∧ Below W.heap.size W w') := fun xs W A9 c9 hx hxl L =>
              Sat_any (by rw [with_len]; omega) (fun e he => by have := with_row hsmall.2 e he; omega) (lits_with hLD hxl) (with_all hsmall.2 hsmall.1 hx) L
            have hws := with_sorted D l
            have L2 : Hid _ := h2
            have LLl : Hid (∀ x ∈ l, x ≠ 0 ∧ x.natAbs ≤ 200) := hll
            cases hs : satOf (withM D (sortedM l)) [] with
            | true =>
              rw [hs] at hws
              have UNF : Hid (∀ W, Below w.heap.size w W → Calls Try.prog 23 #[.slice A D.length c, .slice A2 l.length c2, .int .i64 400000] W fun e w' => Below W.heap.size W w' ∧ ∃ (T : List Int) (A1 : Option Addr) (c1 : Nat) (st : Int), e = .returned (.tuple #[.agg #[.bool true, .slice A1 T.length c1, .slice none 0 0, .int .i64 st], .slice none 0 0, .int .i64 0]) ∧ Lies w'.heap.size w' A1 T ∧ T.length ≤ 60000 ∧ (∀ x ∈ T, -9223372036854775808 ≤ x ∧ x ≤ 9223372036854775807) ∧ satisfiesM (withM D (thereM (refVars D) l)) T = (true, 0)) := fun W B => (UN W B).mono fun e w' ⟨b, alt⟩ => by
                rcases alt with ⟨q, _⟩ | ⟨_, _, q, a, he, hA'⟩ | ⟨_, _, q, _⟩
                · exact absurd q hbad
                · rcases hA' with ⟨_, T, A1, c1, st, rfl, h1, h2', h3, h4, h5⟩ | ⟨z, _⟩
                  · exact ⟨b, T, A1, c1, st, he, h1, h3, fun x hx => by have := h2' x hx; omega, there_sat hsmall.2 hsmall.1 hq12 hLD hll h2' h4 h5⟩
                  · rw [hs] at z; cases z
                · rw [hs] at q; cases q
              have SATL : Hid (∀ (W : World) (A9 : Option Addr) (c9 : Nat), LiesR W.heap.size W A9 (withM D l) → Calls Try.prog 14 #[.slice A9 (withM D l).length c9] W fun e w' => e = .returned (.bool true) ∧ Below W.heap.size W w') := fun W A9 c9 L => by
                have := SATW.out l W A9 c9 hq12 hll L
                rwa [hws] at this
              have hthl : (thereM (refVars D) l).length ≤ 12 := Nat.le_trans (List.length_filter_le _ _) hq12
              have THL : Hid _ := hthl
              have SFC : Hid (∀ (T : List Int) (W : World) (A9 : Option Addr) (c9 : Nat) (A1 : Option Addr) (c1 : Nat), T.length ≤ 60000 → (∀ x ∈ T, -9223372036854775808 ≤ x ∧ x ≤ 9223372036854775807) → satisfiesM (withM D (thereM (refVars D) l)) T = (true, 0) → LiesR W.heap.size W A9 (withM D (thereM (refVars D) l)) → Lies W.heap.size W A1 T → Calls Try.prog 15 #[.slice A9 (withM D (thereM (refVars D) l)).length c9, .slice A1 T.length c1] W fun e w' => e = .returned (.tuple #[.bool true, .int .i64 0]) ∧ Below W.heap.size W w') := fun T W A9 c9 A1 c1 h6 hT hS L9 L1 => by
                have := satisfies_any (c := c9) (c2 := c1) L9 L1 (by rw [with_len]; omega) (fun e he => by have := with_row hsmall.2 e he; omega) (lit_wide2 (lits_with hLD (fun x hx => hll x (there_sub _ _ x hx)))) (by omega) hT
                rwa [hS] at this
              clear hA hw hm hl hr lit hsmall hall hc0 h2 hlw UN S0 S0b LG hocc hbad hv hq SATW hok1 hok2 hll hLD hws hs hthl
              go_enter Try.func7, Try.ntmps7
              go_wp2_with fail
              refine LI.mono ?_
              rintro e w' ⟨rfl, rfl⟩
              go_wp2_with fail
              refine RC.mono ?_
              rintro e w'' ⟨rfl, rfl⟩
              clear LI RC
              go_wp2_with fail
              refine RV0.mono ?_
              rintro e w1 ⟨v', rfl, B1, H1⟩
              have BH : Hid _ := B1
              clear RV0 B1 H1
              go_wp2_with fail
              have UC := UNF.out w1 BH.out
              clear UNF
              refine UC.mono ?_
              rintro e w2 ⟨B2, T, A1, c1, st, rfl, hLT, hT6, hTw, hTs⟩
              have BH2 : Hid (Below w''.heap.size w'' w2) := BH.out.trans (B2.mono BH.out.size)
              have TL : Hid _ := hLT
              have TF : Hid (T.length ≤ 60000 ∧ (∀ x ∈ T, -9223372036854775808 ≤ x ∧ x ≤ 9223372036854775807) ∧ satisfiesM (withM D (thereM (refVars D) l)) T = (true, 0)) := ⟨hT6, hTw, hTs⟩
              obtain ⟨ob, hob⟩ : ∃ ob, ob = Obj.cells #[.bool true, .slice A1 T.length c1, .slice none 0 0, .int .i64 st] 30 := ⟨_, rfl⟩
              have S3 := size_alloc w2 ob
              have A3 := alloc_at w2 ob
              have BA : Hid (Below w2.heap.size w2 (w2.alloc ob)) := (Below.refl _ _).alloc (Nat.le_refl _) _
              obtain ⟨w3, hw3⟩ : ∃ w3, w3 = w2.alloc ob := ⟨_, rfl⟩
              rw [← hw3] at S3 A3 BA
              have K5 : Hid (∀ W, Below w3.heap.size w3 W → Holds w2.heap.size W (one w2.heap.size [.bool true, .slice A1 T.length c1, .slice none 0 0, .int .i64 st] 30)) := fun W hW => one_holds (by rw [hW.block w2.heap.size (by omega), A3, hob])
              have W3 : Hid _ := hw3
              have hsz2 : w''.heap.size ≤ w2.heap.size := BH2.out.size
              have B03 : Hid (Below w''.heap.size w'' w3) := BH2.out.trans (BA.out.mono hsz2)
              have S0c := S0h.out w3 B03.out
              subst hob
              clear hw3 A3 UC B2 S0h hLT hT6 hTw hTs
              go_wp2_with fail
              rw [← W3.out]
              refine S0c.mono ?_
              rintro e w4 ⟨rfl, B4⟩
              have B34 : Hid (Below w3.heap.size w3 w4) := B4
              have B04 : Hid (Below w''.heap.size w'' w4) := B03.out.trans (B4.mono B03.out.size)
              have LWC := LW.out l w4 A2 c2 B04.out hq12 (Lies.mono (Lies.below L2.out B04.out) B04.out.size)
              clear S0c B4
              go_wp2_with fail
              refine LWC.mono ?_
              rintro e w5 ⟨B5, A5, c5, rfl, L5, _⟩
              have B35 : Hid (Below w3.heap.size w3 w5) := B34.out.trans (B5.mono B34.out.size)
              have L5h : Hid _ := L5
              have K5b := K5.out w5 B35.out
              have a0 := K5b.cell (k := .st) rfl 0 rfl
              clear LWC B5 L5 K5b
              go_wp2_with fail
              go_region_held3 (fun W => W.cell? ⟨w2.heap.size, 0, none⟩ = some (.bool true))
                (first | go_keep | exact eB)
                (first | (go_at_call 14; refine (SATL.out _ A5 c5 (LiesR.mono (LiesR.below L5h.out (Below.refl _ w5).drew) (Nat.le_refl _))).mono ?_; rintro e w6 ⟨rfl, B6⟩; have B36 : Hid (Below w3.heap.size w3 w6) := B35.out.drew.trans (B6.mono B35.out.drew.size); have B06 : Hid (Below w''.heap.size w'' w6) := B03.out.trans (B36.out.mono B03.out.size); have K6w := K5.out w6 B36.out; have eB := K6w.cell (k := .st) rfl 0 rfl; have K6h : Hid _ := K6w; clear B6 K6w))
              have RV6 := RV.out w6 B06.out
              have b0 := K6h.out.cell (k := .st) rfl 0 rfl
              clear a0
              go_wp2_with fail
              refine RV6.mono ?_
              rintro e w7 ⟨v7, rfl, B7, H7⟩
              have B37 : Hid (Below w3.heap.size w3 w7) := B36.out.trans (B7.mono B36.out.size)
              have LV : Hid (Lies w7.heap.size w7 (ad v7) (refVars D)) := row_lies H7 (k := .loc 0) rfl
              generalize ad v7 = A7 at *
              generalize cp v7 = c7 at *
              have start : Hid (ThRel w7 (refVars D) l l.length (.slice none 0 0) (.int .i64 ((0 : Nat) : Int)) w7) := ⟨0, [], .slice none 0 0, rfl, rfl, by omega, nil_put (Holds.nothing _ _) (Nat.le_refl _) (.loc 0) 3, Below.refl _ _, by simp⟩
              clear RV6 B7 H7 b0
              go_wp2_with fail
              go_loopg [12, 13] l.length (fun k x12 x13 wr => ThRel w7 (refVars D) l k x12 x13 wr)
              case atStart => exact start.out
              case round =>
                clear start
                obtain ⟨i, th, v, rfl, rfl, hki, H, B, hT⟩ := hrel
                have B38 : Hid (Below w3.heap.size w3 wr) := B37.out.trans (B.mono B37.out.size)
                have B08 : Hid (Below w''.heap.size w'' wr) := B03.out.trans (B38.out.mono B03.out.size)
                have HH : Hid _ := H
                have BB : Hid _ := B
                have TH : Hid _ := hT
                by_cases hlt : i < l.length
                · obtain ⟨m, rfl⟩ : ∃ m, gk = m + 1 := ⟨gk - 1, by omega⟩
                  obtain ⟨b, o, rfl, hb, hcell⟩ := lies_at (Lies.below L2.out B08.out) hlt
                  have e1 := hcell i hlt
                  have hd : l.drop i = l.getD i 0 :: l.drop (i + 1) := by
                    rw [List.drop_eq_getElem_cons hlt]; simp [hlt]
                  rw [hd] at hT
                  have hx := LLl.out _ (row_ne l 0 hlt)
                  generalize l.getD i 0 = x at *
                  have HC0 : ∀ (n : Nat) (y : Int), y = (x.natAbs : Int) → Calls Try.prog 25 #[.slice A7 (refVars D).length c7, .int .i64 y] (wr.drewN n) fun e w' => e = .returned (.bool ((refVars D).contains (x.natAbs : Int))) ∧ w' = wr.drewN n := fun n y hy => by
                    subst hy
                    exact has_any (w := wr.drewN n) (c := c7) (Lies.below LV.out (below_drewN_ B n)) (by omega)
                  have hx1 : -200 ≤ x := by omega
                  have hx2 : x ≤ 200 := by omega
                  have EXb : Hid (∀ nq, (wr.drewN nq).cell? ⟨b, o + i, none⟩ = some (.int .i64 x)) := fun nq => e1
                  have hl60 : th.length ≤ 12 := by
                    have := congrArg List.length hT
                    rw [List.length_append] at this
                    have := THL.out
                    omega
                  cases hq : (refVars D).contains (x.natAbs : Int) with
                  | false =>
                    rw [hq] at HC0
                    have hth : thereM (refVars D) (x :: l.drop (i + 1)) = thereM (refVars D) (l.drop (i + 1)) := by
                      unfold thereM
                      rw [List.filter_cons_of_neg (by rw [hq]; simp)]
                    rw [hth] at hT
                    have HC : Hid _ := HC0
                    have CT : Hid _ := hT
                    clear hcell hd hT H B TH hq hth hx HC0
                    go_wp2_with fail
                    go_quiet ((go_at_call 25; exact Calls.quiet_of_same (HC.out _ _ (by first | omega | (split <;> omega)))))
                    have HN : Hid _ := HH.out.drewN nq
                    have BN : Hid _ := below_drewN_ BB.out nq
                    go_wp2_with fail
                    go_roundg m
                    case measure => omega
                    case rel => exact ⟨i + 1, th, v, rfl, by go_num, by omega, HN.out, BN.out, CT.out⟩
                  | true =>
                    rw [hq] at HC0
                    have hth : thereM (refVars D) (x :: l.drop (i + 1)) = x :: thereM (refVars D) (l.drop (i + 1)) := by
                      unfold thereM
                      rw [List.filter_cons_of_pos (by rw [hq])]
                    rw [hth] at hT
                    have HC : Hid _ := HC0
                    have CT : Hid ((th ++ [x]) ++ thereM (refVars D) (l.drop (i + 1)) = thereM (refVars D) l) := by
                      show _ = _
                      rw [← hT]; simp
                    clear hcell hd hT H B TH hq hth hx HC0
                    go_wp2_with fail
                    go_quiet ((go_at_call 25; exact Calls.quiet_of_same (HC.out _ _ (by first | omega | (split <;> omega)))))
                    have HN := HH.out.drewN nq
                    have BN := below_drewN_ BB.out nq
                    have ex := EXb.out nq
                    have LS : Hid _ := HN.alloc (.cells #[.int .i64 x] 3)
                    have BL : Hid _ := BN.alloc BN.size (.cells #[.int .i64 x] 3)
                    have hbz : w7.heap.size ≤ (wr.drewN nq).heap.size := BN.size
                    generalize wr.drewN nq = w8 at *
                    clear HN BN e1 EXb HH BB B38 B08
                    go_wp2_with (at_builtin; refine law_pushAt LS.out (.loc 0) rfl (.tmp 96) (.tmp 101) 26 3 (.int .i64 0) 8 rfl Try.underlying26 info3 rfl (by decide) th.length (.int .i64 x) rfl (ints_length _) rfl w8.heap.size rfl ?hy rfl ?hb ?hl ?_)
                    try (case hy => first | exact cell_new _ _ _ _ (by simp) | exact cell_new_drew _ _ _ _ (by simp))
                    case hb => simp; omega
                    case hl => omega
                    intro A3 c3 w9 H9 B9 _
                    rw [ints_snoc, upd_locs] at H9
                    have H9H : Hid _ := H9
                    have B9H : Hid _ := BL.out.trans B9
                    clear H9 B9
                    go_wp2_with fail
                    go_roundg m
                    case measure => omega
                    case rel => exact ⟨i + 1, th ++ [x], .slice A3 (th.length + 1) c3, by simp [ad, cp], by go_num, by omega, H9H.out, B9H.out, CT.out⟩
                · have hge : decide (i < l.length) = false := decide_eq_false (by omega)
                  have hge2 : l.length ≤ i := by omega
                  have hnil : l.drop i = [] := List.drop_eq_nil_of_le hge2
                  rw [hnil] at hT
                  obtain rfl : th = thereM (refVars D) l := by rw [← hT]; simp [thereM]
                  have K8 := K5.out wr B38.out
                  have b1 := K8.cell (k := .st) rfl 1 rfl
                  have LT : Hid (Lies wr.heap.size wr (ad v) (thereM (refVars D) l)) := row_lies H (k := .loc 0) rfl
                  have TL8 : Hid (Lies wr.heap.size wr A1 T) := Lies.mono (Lies.below TL.out (BA.out.trans (B38.out.mono BA.out.size))) (by have := B38.out.size; omega)
                  generalize thereM (refVars D) l = TT at *
                  generalize ad v = A8 at *
                  generalize cp v = c8 at *
                  clear hlt hnil hT H B HH BB TH K8
                  go_wp2_with fail
                  go_region_held3 (fun W => W.cell? ⟨w2.heap.size, 1, none⟩ = some (.slice A1 T.length c1))
                    (first | go_keep | exact eB | exact eC)
                    (first | (go_at_call 24; refine (LW.out TT _ A8 c8 B08.out.drew THL.out (Lies.mono (Lies.below LT.out (Below.refl _ wr).drew) (Nat.le_refl _))).mono ?_; rintro e w9 ⟨B9, A9, c9, rfl, L9, _⟩; have B99 : Hid (Below wr.heap.size wr w9) := (Below.refl _ wr).drew.trans B9; have B39 : Hid (Below w3.heap.size w3 w9) := B38.out.trans (B99.out.mono B38.out.size); have B09 : Hid (Below w''.heap.size w'' w9) := B03.out.trans (B39.out.mono B03.out.size); have T9 : Hid (Lies w9.heap.size w9 A1 T) := Lies.mono (Lies.below TL8.out B99.out) B99.out.size; have K9w := K5.out w9 B39.out; have eB := K9w.cell (k := .st) rfl 1 rfl; have L9h : Hid _ := L9; clear B9 K9w L9) | (go_at_call 15; refine (SFC.out T _ A9 c9 A1 c1 TF.out.1 TF.out.2.1 TF.out.2.2 L9h.out T9.out).mono ?_; rintro e w10 ⟨rfl, B10⟩; have B010 : Hid (Below w''.heap.size w'' w10) := B09.out.trans (B10.mono B09.out.size); have eC := (K5.out w10 (B39.out.trans (B10.mono B39.out.size))).cell (k := .st) rfl 1 rfl; clear B10))
                  go_wp2_with fail
                  refine (sane_any _).mono ?_
                  rintro e w11 ⟨rfl, B11⟩
                  have BF : Hid _ := B010.out.trans (B11.mono B010.out.size)
                  clear B11
                  go_wp2_with fail
                  go_ret
                  exact ⟨rfl, BF.out⟩
            | false =>
              rw [hs] at hws
              obtain ⟨K, hKd⟩ : ∃ K, K = undM D [] (sortedM l) := ⟨_, rfl⟩
              have UNG : Hid (∀ W, Below w.heap.size w W → Calls Try.prog 23 #[.slice A D.length c, .slice A2 l.length c2, .int .i64 400000] W fun e w' => Below W.heap.size W w' ∧ ∃ (log : List (List Int)) (A3 : Option Addr) (c3 : Nat) (st : Int) (A' : Option Addr) (c' : Nat), e = .returned (.tuple #[.agg #[.bool false, .slice none 0 0, .slice A3 log.length c3, .int .i64 st], .slice A' K.length c', .int .i64 0]) ∧ K.length ≤ c' ∧ Lies w'.heap.size w' A' K ∧ LiesR w'.heap.size w' A3 log ∧ refutesR (withM D K) log = (true, 0) ∧ log.length ≤ 2048 ∧ (∀ e ∈ log, e.length ≤ 12) ∧ Lits log) := fun W B => (UN W B).mono fun e w' ⟨b, alt⟩ => by
                rcases alt with ⟨q, _⟩ | ⟨_, _, q, _⟩ | ⟨_, _, q, a, A', c', he, hc', hK1, hA'⟩
                · exact absurd q hbad
                · rw [hs] at q; cases q
                · rw [← hKd] at he hc' hK1 hA'
                  rcases hA' with ⟨z, _⟩ | ⟨_, log, A3, c3, st, rfl, h1, h2', h3, h4, h5⟩
                  · rw [hKd, undM_false D (sortedM l) [] hs] at z; cases z
                  · exact ⟨b, log, A3, c3, st, A', c', he, hc', hK1, h1, h2', h3, h4, h5⟩
              have SATL : Hid (∀ (W : World) (A9 : Option Addr) (c9 : Nat), LiesR W.heap.size W A9 (withM D l) → Calls Try.prog 14 #[.slice A9 (withM D l).length c9] W fun e w' => e = .returned (.bool false) ∧ Below W.heap.size W w') := fun W A9 c9 L => by
                have := SATW.out l W A9 c9 hq12 hll L
                rwa [hws] at this
              have KIN : Hid (∀ x ∈ K, l.contains x = true ∧ x ≠ 0 ∧ x.natAbs ≤ 200) := fun x hx => by
                have hx2 := core_in (c := D) (l := l) x (by rw [← hKd]; exact hx)
                exact ⟨by rw [List.contains_eq_mem]; exact decide_eq_true hx2, hll x hx2⟩
              have KASC : Hid (∀ j, j + 1 < K.length → (K.getD j 0).natAbs < (K.getD (j + 1) 0).natAbs) := fun j hj => by
                have := core_asc (c := D) (l := l) hok2 (i := j + 1) (by omega) (by rw [← hKd]; exact hj)
                rwa [← hKd] at this
              have hk12 : K.length ≤ 12 := by
                rw [hKd]
                exact Nat.le_trans (core_len2 D l) hq12
              have SATK : Hid (∀ (i : Nat) (less : List Int) (W : World) (A9 : Option Addr) (c9 : Nat), i < K.length → less = K.take i ++ K.drop (i + 1) → LiesR W.heap.size W A9 (withM D less) → Calls Try.prog 14 #[.slice A9 (withM D less).length c9] W fun e w' => e = .returned (.bool true) ∧ Below W.heap.size W w') := fun i less W A9 c9 hi hle L => by
                have hlsub : ∀ x ∈ less, x ∈ K := fun x hx => by
                  rw [hle] at hx
                  rcases List.mem_append.1 hx with z | z
                  · exact List.mem_of_mem_take z
                  · exact List.mem_of_mem_drop z
                have hll2 : less.length ≤ 12 := by rw [hle, List.length_append, List.length_take, List.length_drop]; omega
                have := SATW.out less W A9 c9 hll2 (fun x hx => (KIN.out x (hlsub x hx)).2) L
                have h1 : satOf (withM D less) [] = true := by rw [hle, hKd]; exact core_least (by rw [← hKd]; exact hi)
                rwa [h1] at this
              have RFC : Hid (∀ (log : List (List Int)) (W : World) (A9 : Option Addr) (c9 : Nat) (A3 : Option Addr) (c3 : Nat), refutesR (withM D K) log = (true, 0) → log.length ≤ 2048 → (∀ e ∈ log, e.length ≤ 12) → Lits log → (A9 = none → c9 = 0) → LiesR W.heap.size W A9 (withM D K) → LiesR W.heap.size W A3 log → Calls Try.prog 16 #[.slice A9 (withM D K).length c9, .slice A3 log.length c3] W fun e w' => e = .returned (.tuple #[.bool true, .int .i64 0]) ∧ Below W.heap.size W w') := fun log W A9 c9 A3 c3 hR h2k h12 hLi h90 L9 L3 => by
                have := refutes_any (c := c9) (c2 := c3) (Nat.le_refl W.heap.size) L9 L3 h90 (by rw [with_len]; omega) (fun e he => by have := with_row hsmall.2 e he; omega) (lit_wide2 (lits_with hLD (fun x hx => (KIN.out x hx).2))) (by omega) (fun e he => by have := h12 e he; omega) (lit_wide2 hLi)
                rwa [hR] at this
              clear hA hw hm hl hr lit hsmall hall hc0 h2 hlw UN S0 S0b LG hocc hbad hv hq SATW hok1 hok2 hll hLD hws hs hKd RV LLl
              go_enter Try.func7, Try.ntmps7
              go_wp2_with fail
              refine LI.mono ?_
              rintro e w' ⟨rfl, rfl⟩
              go_wp2_with fail
              refine RC.mono ?_
              rintro e w'' ⟨rfl, rfl⟩
              clear LI RC
              go_wp2_with fail
              refine RV0.mono ?_
              rintro e w1 ⟨v', rfl, B1, H1⟩
              have BH : Hid _ := B1
              clear RV0 B1 H1
              go_wp2_with fail
              have UC := UNG.out w1 BH.out
              clear UNG
              refine UC.mono ?_
              rintro e w2 ⟨B2, log, A3, c3, st, A', c', rfl, hcK, hLK, hLL, hR1, hR2, hR3, hR4⟩
              have BH2 : Hid (Below w''.heap.size w'' w2) := BH.out.trans (B2.mono BH.out.size)
              have KL : Hid _ := hLK
              have GL : Hid _ := hLL
              have KC : Hid (K.length ≤ c') := hcK
              have RF : Hid (refutesR (withM D K) log = (true, 0) ∧ log.length ≤ 2048 ∧ (∀ e ∈ log, e.length ≤ 12) ∧ Lits log) := ⟨hR1, hR2, hR3, hR4⟩
              obtain ⟨ob, hob⟩ : ∃ ob, ob = Obj.cells #[.bool false, .slice none 0 0, .slice A3 log.length c3, .int .i64 st] 30 := ⟨_, rfl⟩
              have S3 := size_alloc w2 ob
              have A4 := alloc_at w2 ob
              have BA : Hid (Below w2.heap.size w2 (w2.alloc ob)) := (Below.refl _ _).alloc (Nat.le_refl _) _
              obtain ⟨w3, hw3⟩ : ∃ w3, w3 = w2.alloc ob := ⟨_, rfl⟩
              rw [← hw3] at S3 A4 BA
              have K5 : Hid (∀ W, Below w3.heap.size w3 W → Holds w2.heap.size W (one w2.heap.size [.bool false, .slice none 0 0, .slice A3 log.length c3, .int .i64 st] 30)) := fun W hW => one_holds (by rw [hW.block w2.heap.size (by omega), A4, hob])
              have W3 : Hid _ := hw3
              have hsz2 : w''.heap.size ≤ w2.heap.size := BH2.out.size
              have B03 : Hid (Below w''.heap.size w'' w3) := BH2.out.trans (BA.out.mono hsz2)
              have S0c := S0h.out w3 B03.out
              subst hob
              clear hw3 A4 UC B2 S0h hcK hLK hLL hR1 hR2 hR3 hR4
              go_wp2_with fail
              rw [← W3.out]
              refine S0c.mono ?_
              rintro e w4 ⟨rfl, B4⟩
              have B34 : Hid (Below w3.heap.size w3 w4) := B4
              have B04 : Hid (Below w''.heap.size w'' w4) := B03.out.trans (B4.mono B03.out.size)
              have LWC := LW.out l w4 A2 c2 B04.out hq12 (Lies.mono (Lies.below L2.out B04.out) B04.out.size)
              clear S0c B4
              go_wp2_with fail
              refine LWC.mono ?_
              rintro e w5 ⟨B5, A5, c5, rfl, L5, _⟩
              have B35 : Hid (Below w3.heap.size w3 w5) := B34.out.trans (B5.mono B34.out.size)
              have L5h : Hid _ := L5
              have K5b := K5.out w5 B35.out
              have a0 := K5b.cell (k := .st) rfl 0 rfl
              clear LWC B5 L5 K5b
              go_wp2_with fail
              go_region_held3 (fun W => W.cell? ⟨w2.heap.size, 0, none⟩ = some (.bool false))
                (first | go_keep | exact eB)
                (first | (go_at_call 14; refine (SATL.out _ A5 c5 (LiesR.mono (LiesR.below L5h.out (Below.refl _ w5).drew) (Nat.le_refl _))).mono ?_; rintro e w6 ⟨rfl, B6⟩; have B36 : Hid (Below w3.heap.size w3 w6) := B35.out.drew.trans (B6.mono B35.out.drew.size); have B06 : Hid (Below w''.heap.size w'' w6) := B03.out.trans (B36.out.mono B03.out.size); have K6w := K5.out w6 B36.out; have eB := K6w.cell (k := .st) rfl 0 rfl; have K6h : Hid _ := K6w; clear B6 K6w))
              have b0 := K6h.out.cell (k := .st) rfl 0 rfl
              have start : Hid (CntRelB w6 K.length (fun _ => True) K.length (.int .i64 ((0 : Nat) : Int)) w6) := ⟨0, rfl, by omega, Below.refl _ _, fun _ _ => trivial⟩
              clear a0
              go_wp2_with fail
              clear b0
              go_loopg [16] K.length (fun k x16 wr => CntRelB w6 K.length (fun _ => True) k x16 wr)
              case atStart => exact start.out
              case round =>
                clear start
                obtain ⟨i, rfl, hki, B, _⟩ := hrel
                have B37 : Hid (Below w3.heap.size w3 wr) := B36.out.trans (B.mono B36.out.size)
                have B07 : Hid (Below w''.heap.size w'' wr) := B03.out.trans (B37.out.mono B03.out.size)
                have B27 : Hid (Below w2.heap.size w2 wr) := BA.out.trans (B37.out.mono BA.out.size)
                have BB : Hid _ := B
                have hge3 : w2.heap.size ≤ wr.heap.size := B27.out.size
                by_cases hlt : i < K.length
                · obtain ⟨m, rfl⟩ : ∃ m, gk = m + 1 := ⟨gk - 1, by omega⟩
                  obtain ⟨b, o, rfl, hb, hcell⟩ := lies_at (Lies.below KL.out B27.out) hlt
                  have e1 := hcell i hlt
                  have HCL : Hid _ := hcell
                  have KI := KIN.out _ (row_ne K 0 hlt)
                  have KA := KASC.out
                  obtain ⟨hx1, hx2, hx3⟩ := KI
                  have HC0 : ∀ (n : Nat), Calls Try.prog 25 #[.slice A2 l.length c2, .int .i64 (K.getD i 0)] (wr.drewN n) fun e w' => e = .returned (.bool true) ∧ w' = wr.drewN n := fun n => by
                    have := has_any (w := wr.drewN n) (x := K.getD i 0) (c := c2) (Lies.below L2.out (below_drewN_ B07.out n)) (by omega)
                    rwa [hx1] at this
                  generalize hxd : K.getD i 0 = x at *
                  have HC : Hid _ := HC0
                  rcases Nat.eq_zero_or_pos i with hi0 | hi0
                  · have hz1 : decide ((0 : Int) < (i : Int)) = false := decide_eq_false (by omega)
                    have hz2 : decide (0 < i) = false := decide_eq_false (by omega)
                    have HI0 : Hid (i = 0) := hi0
                    clear hi0
                    clear hcell hx1 KA HC0 B hxd
                    go_wp2_with fail
                    go_quiet ((go_at_call 25; exact Calls.quiet_of_same (HC.out _)))
                    clear hz1 hz2
                    have hc8 : ∀ j, j < K.length → (wr.drewN nq).cell? ⟨b, o + j, none⟩ = some (.int .i64 (K.getD j 0)) := HCL.out
                    have BN : Below w6.heap.size w6 (wr.drewN nq) := below_drewN_ BB.out nq
                    have BN2 : Hid (Below w''.heap.size w'' (wr.drewN nq)) := below_drewN_ B07.out nq
                    have hb8 : b < (wr.drewN nq).heap.size := Nat.lt_of_lt_of_le hb hge3
                    generalize wr.drewN nq = w8 at *
                    have HK8 : Hid _ := hc8
                    have BNh : Hid _ := BN
                    have KC2 := KC.out
                    have hq2 : (i : Int) ≤ (c' : Int) := by omega
                    have hq3 : (i : Int) + 1 ≤ (K.length : Int) := by omega
                    have hq4 : (K.length : Int) ≤ (c' : Int) := by omega
                    have hq5 : i ≤ c' := by omega
                    have hq6 : (i : Int) ≤ (i : Int) + 1 := by omega
                    have hwi : IntKind.i64.wrap ((i : Int) + 1) = (i : Int) + 1 := IntWalk.i64_in _ (by omega)
                    have hq7 : (0 : Int) ≤ (i : Int) + 1 := by omega
                    have hq8 : i + 1 ≤ K.length := by omega
                    obtain ⟨less, hless⟩ : ∃ less, less = K.take i ++ K.drop (i + 1) := ⟨_, rfl⟩
                    have LS : Hid _ := hless
                    have LEN : Hid (less.length = i + (K.length - (i + 1))) := by
                      show _ = _
                      rw [hless, List.length_append, List.length_take, List.length_drop]; omega
                    have RW : Hid ([] ++ ints (K.take i) ++ ints (K.drop (i + 1)) = ints less) := by
                      show _ = _
                      rw [hless]; simp [ints]
                    have LT : Hid ((ints (K.take i)).length = i) := by show _ = _; rw [ints_length, List.length_take]; omega
                    have LD : Hid ((ints (K.drop (i + 1))).length = K.length - (i + 1)) := by show _ = _; rw [ints_length, List.length_drop]
                    have HL0 : Hid _ := Holds.lit0 (Holds.nothing w8.heap.size w8.drew) (.loc 1) (Nat.le_refl _) 3
                    have BL0 : Hid (Below w8.heap.size w8 (w8.drew.alloc (.cells #[] 3))) := (Below.refl _ w8).drew.alloc (Nat.le_refl _) _
                    have RD : Hid (Reads (w8.drew.alloc (.cells #[] 3)) (some ⟨b, o, none⟩) (ints (K.take i))) := lies_take (fun j hj => cell_alloc_keep w8.drew (.cells #[] 3) _ _ (HK8.out j hj)) i
                    have hbw : w8.heap.size ≤ (w8.drew.alloc (.cells #[] 3)).heap.size := by rw [size_alloc]; exact Nat.le_succ _
                    have HLT : Hid (i < K.length) := hlt
                    clear hless hc8 BN e1
                    rcases Classical.em (c' = i + 1) with hcq | hcq
                    · subst hcq
                      have LD0 : Hid ((ints (K.drop (i + 1))).length = 0) := by
                        show _ = _
                        rw [LD.out]; omega
                      have LEN0 : Hid (less.length = i) := by
                        show _ = _
                        rw [LEN.out]; omega
                      go_wp2_with fail
                      go_region_law (first | (refine step_many2 HL0.out (.loc 1) (by rfl) _ _ 26 3 (.int .i64 0) 8 (by rfl) Try.underlying26 info3 rfl (by decide) 0 (ints (K.take i)) (upd_same _ _ _) (by rfl) (by rfl) (some ⟨b, o, none⟩) i (i + 1) (by rfl) LT.out (by simp) RD.out (ints_one _) hbw (by omega) ?_; intro A8 c8 w9 H9 B9; have HH9 : Hid _ := H9; have BB9 : Hid _ := BL0.out.trans B9; have RD9 : Hid (Reads w9 (some ⟨b, o, none⟩) (ints (K.drop (i + 1)))) := lies_drop (fun j hj => (World.cell?_of_block (a := ⟨b, o + j, none⟩) (BB9.out.block b hb8)).trans (HK8.out j hj)) (i + 1) (fun h => absurd h (by omega)); have hz9 : w8.heap.size ≤ w9.heap.size := BB9.out.size; clear H9 B9) | (refine step_many2 HH9.out (.loc 1) (by rfl) _ _ 26 3 (.int .i64 0) 8 (by rfl) Try.underlying26 info3 rfl (by decide) i (ints (K.drop (i + 1))) (upd_same _ _ _) (by rw [List.length_append, LT.out]; exact Nat.zero_add i) (by rfl) (some ⟨b, o, none⟩) 0 0 (by rfl) LD0.out (by simp) RD9.out (ints_one _) hz9 (by omega) ?_; intro A10 c10 w10 H10 B10; have HH10 : Hid _ := H10; have BB10 : Hid _ := BB9.out.trans B10; clear H10 B10))
                      have BW : Hid (Below w6.heap.size w6 w10) := BNh.out.trans (BB10.out.mono BNh.out.size)
                      have BW2 : Hid (Below w''.heap.size w'' w10) := BN2.out.trans (BB10.out.mono BN2.out.size)
                      have LL10 : Lies w10.heap.size w10 A10 less := row_lies (v := .slice A10 (i + 0) c10) HH10.out (k := .loc 1) (by rw [upd_same, RW.out])
                      have LWC := LW.out less w10 A10 c10 BW2.out (by rw [LEN0.out]; omega) LL10
                      rw [LEN0.out] at LWC
                      clear LL10 HH10
                      go_wp2_with fail
                      refine LWC.mono ?_
                      rintro e w11 ⟨B11, A11, c11, rfl, L11, _⟩
                      have BW11 : Hid (Below w6.heap.size w6 w11) := BW.out.trans (B11.mono BW.out.size)
                      have SC := SATK.out i less w11 A11 c11 HLT.out LS.out L11
                      clear LWC B11 L11
                      go_wp2_with fail
                      refine SC.mono ?_
                      rintro e w12 ⟨rfl, B12⟩
                      have BF : Hid _ := BW11.out.trans (B12.mono BW11.out.size)
                      clear SC B12
                      go_wp2_with fail
                      go_roundg m
                      case measure => omega
                      case rel => exact ⟨i + 1, by go_num, by omega, BF.out, fun _ _ => trivial⟩
                    · go_wp2_with fail
                      go_region_law (first | (refine step_many2 HL0.out (.loc 1) (by rfl) _ _ 26 3 (.int .i64 0) 8 (by rfl) Try.underlying26 info3 rfl (by decide) 0 (ints (K.take i)) (upd_same _ _ _) (by rfl) (by rfl) (some ⟨b, o, none⟩) i c' (by rfl) LT.out (by simp) RD.out (ints_one _) hbw (by omega) ?_; intro A8 c8 w9 H9 B9; have HH9 : Hid _ := H9; have BB9 : Hid _ := BL0.out.trans B9; have RD9 : Hid (Reads w9 (some ⟨b, o + (i + 1), none⟩) (ints (K.drop (i + 1)))) := lies_drop (fun j hj => (World.cell?_of_block (a := ⟨b, o + j, none⟩) (BB9.out.block b hb8)).trans (HK8.out j hj)) (i + 1) (fun h => rfl); have hz9 : w8.heap.size ≤ w9.heap.size := BB9.out.size; clear H9 B9) | (refine step_many2 HH9.out (.loc 1) (by rfl) _ _ 26 3 (.int .i64 0) 8 (by rfl) Try.underlying26 info3 rfl (by decide) i (ints (K.drop (i + 1))) (upd_same _ _ _) (by rw [List.length_append, LT.out]; exact Nat.zero_add i) (by rfl) (some ⟨b, o + (i + 1), none⟩) (K.length - (i + 1)) _ (by rfl) LD.out (by simp) RD9.out (ints_one _) hz9 (by omega) ?_; intro A10 c10 w10 H10 B10; have HH10 : Hid _ := H10; have BB10 : Hid _ := BB9.out.trans B10; clear H10 B10))
                      have BW : Hid (Below w6.heap.size w6 w10) := BNh.out.trans (BB10.out.mono BNh.out.size)
                      have BW2 : Hid (Below w''.heap.size w'' w10) := BN2.out.trans (BB10.out.mono BN2.out.size)
                      have LL10 : Lies w10.heap.size w10 A10 less := row_lies (v := .slice A10 (i + (K.length - (i + 1))) c10) HH10.out (k := .loc 1) (by rw [upd_same, RW.out])
                      have LWC := LW.out less w10 A10 c10 BW2.out (by rw [LEN.out]; omega) LL10
                      rw [LEN.out] at LWC
                      clear LL10 HH10
                      go_wp2_with fail
                      refine LWC.mono ?_
                      rintro e w11 ⟨B11, A11, c11, rfl, L11, _⟩
                      have BW11 : Hid (Below w6.heap.size w6 w11) := BW.out.trans (B11.mono BW.out.size)
                      have SC := SATK.out i less w11 A11 c11 HLT.out LS.out L11
                      clear LWC B11 L11
                      go_wp2_with fail
                      refine SC.mono ?_
                      rintro e w12 ⟨rfl, B12⟩
                      have BF : Hid _ := BW11.out.trans (B12.mono BW11.out.size)
                      clear SC B12
                      go_wp2_with fail
                      go_roundg m
                      case measure => omega
                      case rel => exact ⟨i + 1, by go_num, by omega, BF.out, fun _ _ => trivial⟩
                  · have hz1 : decide ((0 : Int) < (i : Int)) = true := decide_eq_true (by omega)
                    have hz2 : decide (0 < i) = true := decide_eq_true (by omega)
                    have e0 := hcell (i - 1) (by omega)
                    have ka := KA (i - 1) (by omega)
                    rw [show i - 1 + 1 = i by omega, hxd] at ka
                    have KI2 := KIN.out _ (row_ne K 0 (show i - 1 < K.length by omega))
                    obtain ⟨_, hy2, hy3⟩ := KI2
                    generalize K.getD (i - 1) 0 = y at *
                    clear hcell hx1 KA HC0 B hxd
                    go_wp2_with fail
                    go_quiet ((go_at_call 25; exact Calls.quiet_of_same (HC.out _)))
                    have hmn : decide (max x (-x) ≤ max y (-y)) = false := decide_eq_false (by omega)
                    have hmn2 : max y (-y) < max x (-x) := by omega
                    have hmn3 : ¬ max x (-x) ≤ max y (-y) := by omega
                    clear hz1 hz2 e0 ka
                    have hc8 : ∀ j, j < K.length → (wr.drewN nq).cell? ⟨b, o + j, none⟩ = some (.int .i64 (K.getD j 0)) := HCL.out
                    have BN : Below w6.heap.size w6 (wr.drewN nq) := below_drewN_ BB.out nq
                    have BN2 : Hid (Below w''.heap.size w'' (wr.drewN nq)) := below_drewN_ B07.out nq
                    have hb8 : b < (wr.drewN nq).heap.size := Nat.lt_of_lt_of_le hb hge3
                    generalize wr.drewN nq = w8 at *
                    have HK8 : Hid _ := hc8
                    have BNh : Hid _ := BN
                    have KC2 := KC.out
                    have hq2 : (i : Int) ≤ (c' : Int) := by omega
                    have hq3 : (i : Int) + 1 ≤ (K.length : Int) := by omega
                    have hq4 : (K.length : Int) ≤ (c' : Int) := by omega
                    have hq5 : i ≤ c' := by omega
                    have hq6 : (i : Int) ≤ (i : Int) + 1 := by omega
                    have hwi : IntKind.i64.wrap ((i : Int) + 1) = (i : Int) + 1 := IntWalk.i64_in _ (by omega)
                    have hq7 : (0 : Int) ≤ (i : Int) + 1 := by omega
                    have hq8 : i + 1 ≤ K.length := by omega
                    obtain ⟨less, hless⟩ : ∃ less, less = K.take i ++ K.drop (i + 1) := ⟨_, rfl⟩
                    have LS : Hid _ := hless
                    have LEN : Hid (less.length = i + (K.length - (i + 1))) := by
                      show _ = _
                      rw [hless, List.length_append, List.length_take, List.length_drop]; omega
                    have RW : Hid ([] ++ ints (K.take i) ++ ints (K.drop (i + 1)) = ints less) := by
                      show _ = _
                      rw [hless]; simp [ints]
                    have LT : Hid ((ints (K.take i)).length = i) := by show _ = _; rw [ints_length, List.length_take]; omega
                    have LD : Hid ((ints (K.drop (i + 1))).length = K.length - (i + 1)) := by show _ = _; rw [ints_length, List.length_drop]
                    have HL0 : Hid _ := Holds.lit0 (Holds.nothing w8.heap.size w8.drew) (.loc 1) (Nat.le_refl _) 3
                    have BL0 : Hid (Below w8.heap.size w8 (w8.drew.alloc (.cells #[] 3))) := (Below.refl _ w8).drew.alloc (Nat.le_refl _) _
                    have RD : Hid (Reads (w8.drew.alloc (.cells #[] 3)) (some ⟨b, o, none⟩) (ints (K.take i))) := lies_take (fun j hj => cell_alloc_keep w8.drew (.cells #[] 3) _ _ (HK8.out j hj)) i
                    have hbw : w8.heap.size ≤ (w8.drew.alloc (.cells #[] 3)).heap.size := by rw [size_alloc]; exact Nat.le_succ _
                    have HLT : Hid (i < K.length) := hlt
                    clear hless hc8 BN e1
                    rcases Classical.em (c' = i + 1) with hcq | hcq
                    · subst hcq
                      have LD0 : Hid ((ints (K.drop (i + 1))).length = 0) := by
                        show _ = _
                        rw [LD.out]; omega
                      have LEN0 : Hid (less.length = i) := by
                        show _ = _
                        rw [LEN.out]; omega
                      go_wp2_with fail
                      go_region_law (first | (refine step_many2 HL0.out (.loc 1) (by rfl) _ _ 26 3 (.int .i64 0) 8 (by rfl) Try.underlying26 info3 rfl (by decide) 0 (ints (K.take i)) (upd_same _ _ _) (by rfl) (by rfl) (some ⟨b, o, none⟩) i (i + 1) (by rfl) LT.out (by simp) RD.out (ints_one _) hbw (by omega) ?_; intro A8 c8 w9 H9 B9; have HH9 : Hid _ := H9; have BB9 : Hid _ := BL0.out.trans B9; have RD9 : Hid (Reads w9 (some ⟨b, o, none⟩) (ints (K.drop (i + 1)))) := lies_drop (fun j hj => (World.cell?_of_block (a := ⟨b, o + j, none⟩) (BB9.out.block b hb8)).trans (HK8.out j hj)) (i + 1) (fun h => absurd h (by omega)); have hz9 : w8.heap.size ≤ w9.heap.size := BB9.out.size; clear H9 B9) | (refine step_many2 HH9.out (.loc 1) (by rfl) _ _ 26 3 (.int .i64 0) 8 (by rfl) Try.underlying26 info3 rfl (by decide) i (ints (K.drop (i + 1))) (upd_same _ _ _) (by rw [List.length_append, LT.out]; exact Nat.zero_add i) (by rfl) (some ⟨b, o, none⟩) 0 0 (by rfl) LD0.out (by simp) RD9.out (ints_one _) hz9 (by omega) ?_; intro A10 c10 w10 H10 B10; have HH10 : Hid _ := H10; have BB10 : Hid _ := BB9.out.trans B10; clear H10 B10))
                      have BW : Hid (Below w6.heap.size w6 w10) := BNh.out.trans (BB10.out.mono BNh.out.size)
                      have BW2 : Hid (Below w''.heap.size w'' w10) := BN2.out.trans (BB10.out.mono BN2.out.size)
                      have LL10 : Lies w10.heap.size w10 A10 less := row_lies (v := .slice A10 (i + 0) c10) HH10.out (k := .loc 1) (by rw [upd_same, RW.out])
                      have LWC := LW.out less w10 A10 c10 BW2.out (by rw [LEN0.out]; omega) LL10
                      rw [LEN0.out] at LWC
                      clear LL10 HH10
                      go_wp2_with fail
                      refine LWC.mono ?_
                      rintro e w11 ⟨B11, A11, c11, rfl, L11, _⟩
                      have BW11 : Hid (Below w6.heap.size w6 w11) := BW.out.trans (B11.mono BW.out.size)
                      have SC := SATK.out i less w11 A11 c11 HLT.out LS.out L11
                      clear LWC B11 L11
                      go_wp2_with fail
                      refine SC.mono ?_
                      rintro e w12 ⟨rfl, B12⟩
                      have BF : Hid _ := BW11.out.trans (B12.mono BW11.out.size)
                      clear SC B12
                      go_wp2_with fail
                      go_roundg m
                      case measure => omega
                      case rel => exact ⟨i + 1, by go_num, by omega, BF.out, fun _ _ => trivial⟩
                    · go_wp2_with fail
                      go_region_law (first | (refine step_many2 HL0.out (.loc 1) (by rfl) _ _ 26 3 (.int .i64 0) 8 (by rfl) Try.underlying26 info3 rfl (by decide) 0 (ints (K.take i)) (upd_same _ _ _) (by rfl) (by rfl) (some ⟨b, o, none⟩) i c' (by rfl) LT.out (by simp) RD.out (ints_one _) hbw (by omega) ?_; intro A8 c8 w9 H9 B9; have HH9 : Hid _ := H9; have BB9 : Hid _ := BL0.out.trans B9; have RD9 : Hid (Reads w9 (some ⟨b, o + (i + 1), none⟩) (ints (K.drop (i + 1)))) := lies_drop (fun j hj => (World.cell?_of_block (a := ⟨b, o + j, none⟩) (BB9.out.block b hb8)).trans (HK8.out j hj)) (i + 1) (fun h => rfl); have hz9 : w8.heap.size ≤ w9.heap.size := BB9.out.size; clear H9 B9) | (refine step_many2 HH9.out (.loc 1) (by rfl) _ _ 26 3 (.int .i64 0) 8 (by rfl) Try.underlying26 info3 rfl (by decide) i (ints (K.drop (i + 1))) (upd_same _ _ _) (by rw [List.length_append, LT.out]; exact Nat.zero_add i) (by rfl) (some ⟨b, o + (i + 1), none⟩) (K.length - (i + 1)) _ (by rfl) LD.out (by simp) RD9.out (ints_one _) hz9 (by omega) ?_; intro A10 c10 w10 H10 B10; have HH10 : Hid _ := H10; have BB10 : Hid _ := BB9.out.trans B10; clear H10 B10))
                      have BW : Hid (Below w6.heap.size w6 w10) := BNh.out.trans (BB10.out.mono BNh.out.size)
                      have BW2 : Hid (Below w''.heap.size w'' w10) := BN2.out.trans (BB10.out.mono BN2.out.size)
                      have LL10 : Lies w10.heap.size w10 A10 less := row_lies (v := .slice A10 (i + (K.length - (i + 1))) c10) HH10.out (k := .loc 1) (by rw [upd_same, RW.out])
                      have LWC := LW.out less w10 A10 c10 BW2.out (by rw [LEN.out]; omega) LL10
                      rw [LEN.out] at LWC
                      clear LL10 HH10
                      go_wp2_with fail
                      refine LWC.mono ?_
                      rintro e w11 ⟨B11, A11, c11, rfl, L11, _⟩
                      have BW11 : Hid (Below w6.heap.size w6 w11) := BW.out.trans (B11.mono BW.out.size)
                      have SC := SATK.out i less w11 A11 c11 HLT.out LS.out L11
                      clear LWC B11 L11
                      go_wp2_with fail
                      refine SC.mono ?_
                      rintro e w12 ⟨rfl, B12⟩
                      have BF : Hid _ := BW11.out.trans (B12.mono BW11.out.size)
                      clear SC B12
                      go_wp2_with fail
                      go_roundg m
                      case measure => omega
                      case rel => exact ⟨i + 1, by go_num, by omega, BF.out, fun _ _ => trivial⟩
                · have hge : decide (i < K.length) = false := decide_eq_false (by omega)
                  have hge2 : K.length ≤ i := by omega
                  have K8 := K5.out wr B37.out
                  have d2 := K8.cell (k := .st) rfl 2 rfl
                  have LK8 : Hid (Lies wr.heap.size wr A' K) := Lies.mono (Lies.below KL.out B27.out) hge3
                  have GL8 : Hid (LiesR wr.heap.size wr A3 log) := LiesR.mono (LiesR.below GL.out B27.out) hge3
                  clear hlt B K8 hge3
                  go_wp2_with fail
                  go_region_held3 (fun W => W.cell? ⟨w2.heap.size, 2, none⟩ = some (.slice A3 log.length c3))
                    (first | go_keep | exact eB | exact eC)
                    (first | (go_at_call 24; refine (LW.out K _ A' c' B07.out.drew hk12 (Lies.mono (Lies.below LK8.out (Below.refl _ wr).drew) (Nat.le_refl _))).mono ?_; rintro e w9 ⟨B9, A9, c9, rfl, L9, h90⟩; have B99 : Hid (Below wr.heap.size wr w9) := (Below.refl _ wr).drew.trans B9; have B39 : Hid (Below w3.heap.size w3 w9) := B37.out.trans (B99.out.mono B37.out.size); have B09 : Hid (Below w''.heap.size w'' w9) := B03.out.trans (B39.out.mono B03.out.size); have G9 : Hid (LiesR w9.heap.size w9 A3 log) := LiesR.mono (LiesR.below GL8.out B99.out) B99.out.size; have K9w := K5.out w9 B39.out; have eB := K9w.cell (k := .st) rfl 2 rfl; have L9h : Hid _ := L9; have H90 : Hid _ := h90; clear B9 K9w L9 h90) | (go_at_call 16; refine (RFC.out log _ A9 c9 A3 c3 RF.out.1 RF.out.2.1 RF.out.2.2.1 RF.out.2.2.2 H90.out L9h.out G9.out).mono ?_; rintro e w10 ⟨rfl, B10⟩; have B010 : Hid (Below w''.heap.size w'' w10) := B09.out.trans (B10.mono B09.out.size); have eC := (K5.out w10 (B39.out.trans (B10.mono B39.out.size))).cell (k := .st) rfl 2 rfl; clear B10))
                  go_wp2_with fail
                  refine (sane_any _).mono ?_
                  rintro e w11 ⟨rfl, B11⟩
                  have BF : Hid _ := B010.out.trans (B11.mono B010.out.size)
                  clear B11
                  go_wp2_with fail
                  go_ret
                  exact ⟨rfl, BF.out⟩
    · have g1 : (refM D != 0) = true := by simp [hr]
      clear hA hw hm hl hr hc0 h2 hlw
      generalize refM D = r at *
      go_enter Try.func7, Try.ntmps7
      go_wp2_with fail
      refine LI.mono ?_
      rintro e w' ⟨rfl, rfl⟩
      go_wp2_with fail
      refine RC.mono ?_
      rintro e w'' ⟨rfl, rfl⟩
      clear LI RC
      go_wp2_with fail
      refine (sane_any _).mono ?_
      rintro e w2 ⟨rfl, B2⟩
      have BE : Hid _ := B2
      clear B2
      go_wp2_with fail
      go_ret
      exact ⟨rfl, BE.out⟩
  · rw [Bool.eq_false_iff.2 hl] at LI
    clear hA hw hm hl RC hc0 h2 hlw
    go_enter Try.func7, Try.ntmps7
    go_wp2_with fail
    refine LI.mono ?_
    rintro e w' ⟨rfl, rfl⟩
    clear LI
    go_wp2_with fail
    refine (sane_any _).mono ?_
    rintro e w2 ⟨rfl, B2⟩
    have BE : Hid _ := B2
    clear B2
    go_wp2_with fail
    go_ret
    exact ⟨rfl, BE.out⟩
end Go.Proofs.Ytdllaphnkbnpoaa
