/- Walks over the reference: Has, opposites, holds, twice, Satisfies. Walks over the reference: twice, Satisfies. -/
import Derived.Test.YtdllaphnkbnpoaaWy
import Derived.BigQuiet
namespace Go.Proofs.Ytdllaphnkbnpoaa
open Go.RowKit Go.Proofs

theorem contains_yes {xs : List Int} {x : Int} {i : Nat} (hi : i < xs.length) (h : xs.getD i 0 = x) : xs.contains x = true := by
  have := row_ne xs 0 hi
  rw [h] at this
  simpa using this
theorem contains_no {xs : List Int} {x : Int} (h : ∀ j, j < xs.length → xs.getD j 0 ≠ x) : xs.contains x = false := by
  cases e : xs.contains x with
  | false => rfl
  | true =>
    exfalso
    have hm : x ∈ xs := by simpa using e
    obtain ⟨j, hj, rfl⟩ := List.getElem_of_mem hm
    exact h j hj (by simp [hj])

set_option maxHeartbeats 1000000 in
theorem has_any {base : Nat} {w : World} {A : Option Addr} {xs : List Int} {c : Nat} {x : Int} (h : Lies base w A xs) (hn : xs.length ≤ 9223372036854775807) :
    Calls Try.prog 25 #[.slice A xs.length c, .int .i64 x] w fun e w' => e = .returned (.bool (xs.contains x)) ∧ w' = w := by
  have start : Hid (CntRel w xs.length (fun j => xs.getD j 0 ≠ x) xs.length (.int .i64 ((0 : Nat) : Int)) w) := ⟨0, rfl, by omega, rfl, fun j hj => absurd hj (Nat.not_lt_zero _)⟩
  have HH : Hid _ := h
  clear h
  go_enter Try.func25, Try.ntmps25
  go_wp2_with fail
  go_loopg [5] xs.length (fun k x5 wr => CntRel w xs.length (fun j => xs.getD j 0 ≠ x) k x5 wr)
  case atStart => exact start.out
  case round =>
    clear start
    obtain ⟨i, rfl, hki, rfl, hall⟩ := hrel
    by_cases hlt : i < xs.length
    · obtain ⟨b, o, rfl, _, hc⟩ := lies_at HH.out hlt
      have e1 := hc i hlt
      have YES : Hid (xs.getD i 0 = x → xs.contains x = true) := contains_yes hlt
      have NO : Hid (xs.getD i 0 ≠ x → ∀ j, j < i + 1 → xs.getD j 0 ≠ x) := fun h j hj => by
        rcases Nat.lt_or_ge j i with q | q
        · exact hall j q
        · have : j = i := by omega
          subst this; exact h
      clear hall hc
      generalize xs.getD i 0 = y at *
      by_cases hy : y = x
      · have hT : Hid _ := YES.out hy
        subst hy
        clear YES NO
        go_wp2_with fail
        go_ret
        exact ⟨by rw [hT.out]; rfl, rfl⟩
      · have g0 : (y == x) = false := by simp [hy]
        have hT : Hid _ := NO.out hy
        clear YES NO hy
        go_wp2_with fail
        go_roundg (gk - 1)
        case measure => omega
        case rel => exact ⟨i + 1, by go_num, by omega, rfl, hT.out⟩
    · have hge : decide (i < xs.length) = false := decide_eq_false (by omega)
      have hge2 : xs.length ≤ i := by omega
      have hF : Hid _ := contains_no (fun j hj => hall j (by omega))
      clear hall hlt
      go_wp2_with fail
      go_ret
      exact ⟨by rw [hF.out]; rfl, rfl⟩

def negL (c : List Int) : List Int := c.map fun x => -x
def OppRel (base : Nat) (w : World) (c : List Int) (k : Nat) (x3 x4 : Value) (wr : World) : Prop :=
  ∃ (i : Nat) (acc : List Int) (v : Value), x4 = .int .i64 (i : Int) ∧ x3 = .slice (ad v) acc.length (cp v) ∧ k + i = c.length ∧ Holds base wr (locs (.row v 3 (ints acc))) ∧ Below base w wr ∧ acc ++ negL (c.drop i) = negL c

set_option maxRecDepth 100000 in
set_option maxHeartbeats 2000000 in
theorem opposites_any {base : Nat} {w : World} (hbase : base ≤ w.heap.size) {A : Option Addr} {xs : List Int} {cc : Nat} (hA : Lies base w A xs) (hn : xs.length ≤ 60000) (hl : ∀ x ∈ xs, -60000 ≤ x ∧ x ≤ 60000) :
    Calls Try.prog 45 #[.slice A xs.length cc] w fun e w' => ∃ v', e = .returned (.slice (ad v') (negL xs).length (cp v')) ∧ Below base w w' ∧ Holds base w' (locs (.row v' 3 (ints (negL xs)))) := by
  have H0 : Holds base w (fun _ => Res.non) := Holds.nothing _ _
  have H1 := nil_put H0 hbase (.loc 0) 3
  have e1 : upd (fun _ => Res.non) (.loc 0) (.row (.slice none 0 0) 3 []) = locs (.row (.slice none 0 0) 3 (ints [])) := rfl
  rw [e1] at H1
  have start : Hid (OppRel base w xs xs.length (.slice none 0 0) (.int .i64 ((0 : Nat) : Int)) w) := ⟨0, [], .slice none 0 0, rfl, rfl, rfl, H1, Below.refl _ _, by simp⟩
  have LA : Hid _ := hA
  have LL : Hid _ := hl
  clear H0 H1 e1 hA hl
  go_enter Try.func45, Try.ntmps45
  go_wp2_with fail
  go_loopg [3, 4] xs.length (fun k x3 x4 wr => OppRel base w xs k x3 x4 wr)
  case atStart => exact start.out
  case round =>
    clear start
    obtain ⟨i, acc, v, rfl, rfl, hki, H, B, hT⟩ := hrel
    by_cases hlt : i < xs.length
    · obtain ⟨b, o, rfl, hbb, hcell⟩ := lies_at (Lies.below LA.out B) hlt
      have ei := hcell i hlt
      have hd : xs.drop i = xs.getD i 0 :: xs.drop (i + 1) := by
        rw [List.drop_eq_getElem_cons hlt]; simp [hlt]
      have hx := LL.out (xs.getD i 0) (row_ne xs 0 hlt)
      rw [hd] at hT
      generalize xs.getD i 0 = x at *
      have hT2 : (acc ++ [-x]) ++ negL (xs.drop (i + 1)) = negL xs := by rw [← hT]; simp [negL]
      have hl2 : acc.length + 1 ≤ 60000 := by
        have := congrArg List.length hT2
        simp only [List.length_append, List.length_singleton] at this
        have e : (negL xs).length = xs.length := by simp [negL]
        omega
      have XH : Hid _ := hT2
      have hbz : base ≤ wr.heap.size := Nat.le_trans hbase B.size
      have LS : Hid _ := H.alloc (.cells #[.int .i64 (-x)] 3)
      have BL : Hid _ := B.alloc hbz (.cells #[.int .i64 (-x)] 3)
      clear hT hT2 hd hcell H B
      obtain ⟨hx1, hx2⟩ := hx
      go_wp2_with (at_builtin; refine law_pushAt LS.out (.loc 0) rfl (.tmp 11) (.tmp 17) 26 3 (.int .i64 0) 8 rfl Try.underlying26 info3 rfl (by decide) acc.length (.int .i64 (-x)) rfl (ints_length _) rfl wr.heap.size rfl ?hy rfl ?hb ?hl ?_)
      try (case hy => first | exact cell_new _ _ _ _ (by simp) | exact cell_new_drew _ _ _ _ (by simp))
      case hb => simp; omega
      case hl => omega
      intro A3 c3 w6 H6 B6 _
      rw [ints_snoc, upd_locs] at H6
      have H6H : Hid _ := H6
      have B6H : Hid _ := BL.out.trans B6
      clear H6 B6
      go_wp2_with fail
      go_roundg (gk - 1)
      case measure => omega
      case rel => exact ⟨i + 1, acc ++ [-x], .slice A3 (acc.length + 1) c3, by go_num, by simp [ad, cp], by omega, H6H.out, B6H.out, XH.out⟩
    · have hnil : xs.drop i = [] := List.drop_eq_nil_of_le (by omega)
      have hge : decide (i < xs.length) = false := decide_eq_false (by omega)
      have hge2 : xs.length ≤ i := by omega
      rw [hnil] at hT
      have hT5 : acc = negL xs := by rw [← hT]; simp [negL]
      subst hT5
      have HE : Hid _ := H
      have BE : Hid _ := B
      clear hlt hnil hT H B LA LL
      go_wp2_with fail
      go_ret
      exact ⟨v, rfl, BE.out, HE.out⟩

def holdsM (D : List (List Int)) (l : List Int) : Bool := D.all fun c => c.any fun x => l.contains x

def AnyRel (w : World) (c l : List Int) (T : Bool) (k : Nat) (x6 x7 : Value) (wr : World) : Prop :=
  ∃ (j : Nat) (is : Bool), x6 = .bool is ∧ x7 = .int .i64 (j : Int) ∧ k + j = c.length ∧ wr = w ∧ (is || (c.drop j).any fun x => l.contains x) = T

set_option maxHeartbeats 2000000 in
theorem holds_any {base : Nat} {w : World} {A A2 : Option Addr} {D : List (List Int)} {l : List Int} {c c2 : Nat} (h : LiesR base w A D) (h2 : Lies base w A2 l) (hn : D.length ≤ 60000) (hm : ∀ e ∈ D, e.length ≤ 60000) (hl : l.length ≤ 9223372036854775807) :
    Calls Try.prog 37 #[.slice A D.length c, .slice A2 l.length c2] w fun e w' => e = .returned (.bool (holdsM D l)) ∧ w' = w := by
  have HH : Hid _ := h
  have HM : Hid _ := hm
  have HAS : Hid (∀ x, Calls Try.prog 25 #[.slice A2 l.length c2, .int .i64 x] w fun e w' => e = .returned (.bool (l.contains x)) ∧ w' = w) := fun x => has_any h2 hl
  clear h hm h2
  unfold holdsM
  have start : Hid (CntRel w D.length (fun j => ((D.getD j []).any fun x => l.contains x) = true) D.length (.int .i64 ((0 : Nat) : Int)) w) := ⟨0, rfl, by omega, rfl, fun j hj => absurd hj (Nat.not_lt_zero _)⟩
  go_enter Try.func37, Try.ntmps37
  go_wp2_with fail
  go_loopg [5] D.length (fun k x5 wr => CntRel w D.length (fun j => ((D.getD j []).any fun x => l.contains x) = true) k x5 wr)
  case atStart => exact start.out
  case round =>
    clear start
    obtain ⟨i, rfl, hki, rfl, hall⟩ := hrel
    by_cases hlt : i < D.length
    · obtain ⟨m, rfl⟩ : ∃ m, gk = m + 1 := ⟨gk - 1, by omega⟩
      obtain ⟨b, o, rfl, _, hc⟩ := liesR_at HH.out hlt
      obtain ⟨A', c', e1, hc', hli⟩ := hc i hlt
      have hlen := HM.out _ (row_ne D [] hlt)
      have NO : Hid (((D.getD i []).any fun x => l.contains x) = false → (D.all fun c => c.any fun x => l.contains x) = false) := fun h => all_not D [] (fun c => c.any fun x => l.contains x) hlt h
      have YES : Hid (((D.getD i []).any fun x => l.contains x) = true → ∀ j, j < i + 1 → ((D.getD j []).any fun x => l.contains x) = true) := fun h j hj => by
        rcases Nat.lt_or_ge j i with q | q
        · exact hall j q
        · have : j = i := by omega
          subst this; exact h
      clear hall hc
      generalize D.getD i [] = cl at *
      have start2 : Hid (AnyRel wr cl l (cl.any fun x => l.contains x) cl.length (.bool false) (.int .i64 ((0 : Nat) : Int)) wr) := ⟨0, false, rfl, rfl, rfl, rfl, by simp⟩
      generalize hTT : (cl.any fun x => l.contains x) = T at *
      have LI : Hid _ := hli
      clear hTT hli
      go_wp2_with fail
      go_loopg [6, 7] cl.length (fun k x6 x7 w' => AnyRel wr cl l T k x6 x7 w')
      case atStart => exact start2.out
      case round =>
        clear start2
        obtain ⟨j, is, rfl, rfl, hkj, rfl, hT⟩ := hrel
        by_cases hlt2 : j < cl.length
        · obtain ⟨b2, o2, rfl, _, hc2⟩ := lies_at LI.out hlt2
          have e2 := hc2 j hlt2
          have hd2 : cl.drop j = cl.getD j 0 :: cl.drop (j + 1) := by
            rw [List.drop_eq_getElem_cons hlt2]; simp [hlt2]
          rw [hd2, List.any_cons, ← Bool.or_assoc] at hT
          generalize cl.getD j 0 = x at *
          have SX := HAS.out x
          generalize l.contains x = p at *
          have HT : Hid _ := hT
          clear hT hd2 hc2
          cases is with
          | true =>
            go_wp2_with fail
            go_roundg (gk - 1)
            case measure => omega
            case rel => exact ⟨j + 1, true, rfl, by go_num, by omega, rfl, by have := HT.out; simpa using this⟩
          | false =>
            go_wp2_with fail
            refine SX.mono ?_
            rintro e w' ⟨rfl, rfl⟩
            clear SX
            go_wp2_with fail
            go_roundg (gk - 1)
            case measure => omega
            case rel => exact ⟨j + 1, p, rfl, by go_num, by omega, rfl, by have := HT.out; simpa using this⟩
        · have hge : decide (j < cl.length) = false := decide_eq_false (by omega)
          have hge2 : cl.length ≤ j := by omega
          have hnil : cl.drop j = [] := List.drop_eq_nil_of_le hge2
          rw [hnil] at hT
          have hT5 : is = T := by simpa using hT
          subst hT5
          clear hlt2 hnil hT
          cases is with
          | true =>
            have Y2 : Hid _ := YES.out rfl
            clear YES NO
            go_wp2_with fail
            go_roundg m
            case measure => omega
            case rel => exact ⟨i + 1, by go_num, by omega, rfl, Y2.out⟩
          | false =>
            have hF : Hid _ := NO.out rfl
            clear YES NO
            go_wp2_with fail
            go_ret
            exact ⟨by rw [hF.out]; rfl, rfl⟩
    · have hge : decide (i < D.length) = false := decide_eq_false (by omega)
      have hge2 : D.length ≤ i := by omega
      have hT : Hid _ := (all_getD D [] (fun c => c.any fun x => l.contains x)).1 (fun j hj => hall j (by omega))
      clear hall hlt
      go_wp2_with fail
      go_ret
      exact ⟨by rw [hT.out]; rfl, rfl⟩
end Go.Proofs.Ytdllaphnkbnpoaa
namespace Go.Proofs.Ytdllaphnkbnpoaa
open Go.RowKit Go.Proofs

def twiceM (xs : List Int) : Bool := decide (¬ (xs.map Int.natAbs).Nodup)

theorem twice_yes {xs : List Int} {i k : Nat} (hi : i < xs.length) (hk : k < i) (h : (xs.getD i 0).natAbs = (xs.getD k 0).natAbs) : twiceM xs = true := by
  refine decide_eq_true fun nd => ?_
  rw [List.nodup_iff_pairwise_ne, List.pairwise_map, List.pairwise_iff_getElem] at nd
  have := nd k i (by omega) hi hk
  have e1 : xs.getD i 0 = xs[i] := by simp [hi]
  have e2 : xs.getD k 0 = xs[k]'(by omega) := by simp [show k < xs.length by omega]
  rw [e1, e2] at h
  exact this h.symm
theorem twice_no {xs : List Int} (h : ∀ i, i < xs.length → ∀ k, k < i → (xs.getD i 0).natAbs ≠ (xs.getD k 0).natAbs) : twiceM xs = false := by
  refine decide_eq_false fun nd => nd ?_
  rw [List.nodup_iff_pairwise_ne, List.pairwise_map, List.pairwise_iff_getElem]
  intro k i hk hi hki e
  refine h i hi k hki ?_
  have e1 : xs.getD i 0 = xs[i] := by simp [hi]
  have e2 : xs.getD k 0 = xs[k] := by simp [hk]
  rw [e1, e2]; exact e.symm

set_option maxRecDepth 100000 in
set_option maxHeartbeats 2000000 in
theorem twice_any {w : World} {A : Option Addr} {xs : List Int} {c : Nat} (h : Lies w.heap.size w A xs) (hn : xs.length ≤ 9223372036854775807) (hw : ∀ x ∈ xs, -60000 ≤ x ∧ x ≤ 60000) :
    Calls Try.prog 36 #[.slice A xs.length c] w fun e w' => e = .returned (.bool (twiceM xs)) ∧ Below w.heap.size w w' := by
  have start : Hid (CntRelB w xs.length (fun j => ∀ k, k < j → (xs.getD j 0).natAbs ≠ (xs.getD k 0).natAbs) xs.length (.int .i64 ((0 : Nat) : Int)) w) := ⟨0, rfl, by omega, Below.refl _ _, fun j hj => absurd hj (Nat.not_lt_zero _)⟩
  have HH : Hid _ := h
  have WW : Hid _ := hw
  clear h hw
  go_enter Try.func36, Try.ntmps36
  go_wp2_with fail
  go_loopg [3] xs.length (fun k x3 wr => CntRelB w xs.length (fun j => ∀ k, k < j → (xs.getD j 0).natAbs ≠ (xs.getD k 0).natAbs) k x3 wr)
  case atStart => exact start.out
  case round =>
    clear start
    obtain ⟨i, rfl, hki, B0, hall⟩ := hrel
    by_cases hlt : i < xs.length
    · obtain ⟨m, rfl⟩ : ∃ m, gk = m + 1 := ⟨gk - 1, by omega⟩
      have YES : Hid ((∀ k, k < i → (xs.getD i 0).natAbs ≠ (xs.getD k 0).natAbs) → ∀ j, j < i + 1 → ∀ k, k < j → (xs.getD j 0).natAbs ≠ (xs.getD k 0).natAbs) := fun h j hj => by
        rcases Nat.lt_or_ge j i with q | q
        · exact hall j q
        · have : j = i := by omega
          subst this; exact h
      have start2 : Hid (CntRelB wr i (fun k => (xs.getD i 0).natAbs ≠ (xs.getD k 0).natAbs) i (.int .i64 ((0 : Nat) : Int)) wr) := ⟨0, rfl, by omega, Below.refl _ _, fun j hj => absurd hj (Nat.not_lt_zero _)⟩
      have BH : Hid _ := B0
      clear hall B0
      go_wp2_with fail
      go_loopg [4] i (fun k x4 w' => CntRelB wr i (fun k => (xs.getD i 0).natAbs ≠ (xs.getD k 0).natAbs) k x4 w')
      case atStart => exact start2.out
      case round =>
        clear start2
        obtain ⟨j, rfl, hkj, B1, hall⟩ := hrel
        by_cases hlt2 : j < i
        · obtain ⟨b, o, rfl, _, hc⟩ := lies_at (Lies.below HH.out (BH.out.trans (B1.mono BH.out.size))) hlt
          have e1 := hc i hlt
          have e2 := hc j (by omega)
          have h1 := WW.out _ (row_ne xs 0 hlt)
          have h2 := WW.out _ (row_ne xs 0 (show j < xs.length by omega))
          have hjx : j < xs.length := by omega
          have TY : Hid ((xs.getD i 0).natAbs = (xs.getD j 0).natAbs → twiceM xs = true) := fun e => twice_yes hlt hlt2 e
          have Y3 : Hid ((xs.getD i 0).natAbs ≠ (xs.getD j 0).natAbs → ∀ k, k < j + 1 → (xs.getD i 0).natAbs ≠ (xs.getD k 0).natAbs) := fun h k hk => by
            rcases Nat.lt_or_ge k j with q | q
            · exact hall k q
            · have : k = j := by omega
              subst this; exact h
          have YH : Hid _ := YES
          have B1H : Hid _ := BH.out.trans (B1.mono BH.out.size)
          have B2H : Hid _ := B1
          clear hc hall YES B1
          generalize xs.getD i 0 = x at *
          generalize xs.getD j 0 = y at *
          have SX : ∀ W : World, Calls Try.prog 31 #[.int .i64 x] W fun e w' => e = .returned (.int .i64 (x.natAbs : Int)) ∧ w' = W := fun W => (size_any x W h1.1 h1.2).mono (fun _ _ h => ⟨h.1, h.2.symm⟩)
          have SY : ∀ W : World, Calls Try.prog 31 #[.int .i64 y] W fun e w' => e = .returned (.int .i64 (y.natAbs : Int)) ∧ w' = W := fun W => (size_any y W h2.1 h2.2).mono (fun _ _ h => ⟨h.1, h.2.symm⟩)
          clear h1 h2
          generalize x.natAbs = n1 at *
          generalize y.natAbs = n2 at *
          by_cases e : n1 = n2
          · subst e
            have hT : Hid _ := TY.out rfl
            clear TY Y3 YH
            go_wp2_with fail
            go_quiet (first | (go_at_call_of 31 (Value.int .i64 x); refine Calls.quiet_of_same (SX _)) | (go_at_call_of 31 (Value.int .i64 y); refine Calls.quiet_of_same (SY _)))
            go_wp2_with fail
            go_ret
            exact ⟨by rw [hT.out]; rfl, below_drewN_ B1H.out _⟩
          · have hT : Hid _ := Y3.out e
            have g0 : ((n1 : Int) == (n2 : Int)) = false := by simp; omega
            clear TY Y3 e
            go_wp2_with fail
            go_quiet (first | (go_at_call_of 31 (Value.int .i64 x); refine Calls.quiet_of_same (SX _)) | (go_at_call_of 31 (Value.int .i64 y); refine Calls.quiet_of_same (SY _)))
            go_wp2_with fail
            go_roundg (gk - 1)
            case measure => omega
            case rel => exact ⟨j + 1, by go_num, by omega, below_drewN_ B2H.out _, hT.out⟩
        · have hge : decide (j < i) = false := decide_eq_false (by omega)
          have hge2 : i ≤ j := by omega
          have hT : Hid _ := YES.out (fun k hk => hall k (by omega))
          have B9 : Hid _ := BH.out.trans (B1.mono BH.out.size)
          clear hall hlt2 YES B1
          go_wp2_with fail
          go_roundg m
          case measure => omega
          case rel => exact ⟨i + 1, by go_num, by omega, B9.out, hT.out⟩
    · have hge : decide (i < xs.length) = false := decide_eq_false (by omega)
      have hge2 : xs.length ≤ i := by omega
      have hT : Hid _ := twice_no (fun j hj => hall j (by omega))
      have BH : Hid _ := B0
      clear hall hlt B0
      go_wp2_with fail
      go_ret
      exact ⟨by rw [hT.out]; rfl, BH.out⟩
end Go.Proofs.Ytdllaphnkbnpoaa
