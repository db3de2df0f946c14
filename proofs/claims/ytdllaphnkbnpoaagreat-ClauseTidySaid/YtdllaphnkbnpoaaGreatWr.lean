/- Walks over package clause: variable, variables; package search: Value. -/
import Derived.Test.YtdllaphnkbnpoaaGreatWq
import Derived.Lib.OwnBridge
namespace Go.Proofs.YtdllaphnkbnpoaaGreat
open Go.RowKit Go.Proofs

theorem cvariable_any (l : Int) (w : World) (h0 : -60000 ≤ l) (h1 : l ≤ 60000) :
    Calls Tryz.prog 23 #[.int .i64 l] w fun e w' => e = .returned (.int .i64 (l.natAbs : Int)) ∧ w = w' := by
  by_cases h : 0 ≤ l
  · have hm : -l ≤ l := by omega
    have e : l = (l.natAbs : Int) := by omega
    have H : Hid (l = (l.natAbs : Int)) := e
    clear e
    go_enter Tryz.func23, Tryz.ntmps23
    go_wp2_with fail
    go_ret
    exact ⟨ret_int (by omega), rfl⟩
  · go_enter Tryz.func23, Tryz.ntmps23
    go_wp2_with fail
    go_ret
    exact ⟨ret_int (by omega), rfl⟩

/-- A slice of slices of whole numbers that lies below a base. -/
def LiesR (base : Nat) (w : World) (A : Option Addr) (D : List (List Int)) : Prop :=
  D = [] ∨ ∃ b o, A = some ⟨b, o, none⟩ ∧ b < base ∧ ∀ i, i < D.length → ∃ A' c', w.cell? ⟨b, o + i, none⟩ = some (.slice A' (D.getD i []).length c') ∧ (D.getD i []).length ≤ c' ∧ Lies base w A' (D.getD i [])

theorem LiesR.below {base : Nat} {w w' : World} {A : Option Addr} {D : List (List Int)} (h : LiesR base w A D) (B : Below base w w') : LiesR base w' A D := by
  rcases h with h | ⟨b, o, hA, hb, hc⟩
  · exact .inl h
  · refine .inr ⟨b, o, hA, hb, fun i hi => ?_⟩
    obtain ⟨A', c', h1, h2, h3⟩ := hc i hi
    exact ⟨A', c', by rw [World.cell?_of_block (a := ⟨b, o + i, none⟩) (B.block b hb)]; exact h1, h2, h3.below B⟩
theorem Lies.mono {base base' : Nat} {w : World} {A : Option Addr} {xs : List Int} (h : Lies base w A xs) (hb : base ≤ base') : Lies base' w A xs := by
  rcases h with h | ⟨b, o, hA, hb', hc⟩
  · exact .inl h
  · exact .inr ⟨b, o, hA, by omega, hc⟩
theorem LiesR.mono {base base' : Nat} {w : World} {A : Option Addr} {D : List (List Int)} (h : LiesR base w A D) (hb : base ≤ base') : LiesR base' w A D := by
  rcases h with h | ⟨b, o, hA, hb', hc⟩
  · exact .inl h
  · refine .inr ⟨b, o, hA, by omega, fun i hi => ?_⟩
    obtain ⟨A', c', h1, h2, h3⟩ := hc i hi
    exact ⟨A', c', h1, h2, h3.mono hb⟩

def absL (c : List Int) : List Int := c.map fun x => (x.natAbs : Int)
def absAll (D : List (List Int)) : List Int := D.flatMap absL
def varsOf (D : List (List Int)) : List Int := Lib.compact ((absAll D).mergeSort fun x y => decide (x ≤ y))

/-- Only one thing is owned. -/
def locs (r : Res) : Key → Res := fun k => if k = .loc 0 then r else .non
theorem locs_0 (r : Res) : locs r (.loc 0) = r := rfl
theorem upd_locs (r r' : Res) : upd (locs r) (.loc 0) r' = locs r' := by
  funext k; unfold upd locs; split <;> rfl

theorem grownBy_grow (X : World) (os : Array Obj) : X.grownBy (Go.Sort.grow X os) none :=
  ⟨rfl, rfl, rfl, by simp [Go.Sort.grow], fun b hb _ => by simp [Go.Sort.grow, Array.getElem?_append, hb]⟩

/-- slices.Sort, then slices.Compact, of an owned row. -/
theorem sort_own {base : Nat} {w : World} {v : Value} {xs : List Int} (H : Holds base w (locs (.row v 3 (ints xs)))) (hbase : base ≤ w.heap.size) (h6 : xs.length ≤ 60000) :
    Calls Tryz.prog 63 #[.slice (ad v) xs.length (cp v)] w fun e w' => e = .returned (.tuple #[]) ∧ Below base w w' ∧ Holds base w' (locs (.row (.slice (ad v) xs.length (cp v)) 3 (ints (xs.mergeSort fun x y => decide (x ≤ y))))) := by
  have sl := H.sl (k := .loc 0) rfl
  rw [ints_length] at sl
  rcases Nat.eq_zero_or_pos xs.length with h0 | hp
  · obtain rfl := List.eq_nil_of_length_eq_zero h0
    refine (Tryz.slices_Sort_int_none (ad v) (cp v) w).mono ?_
    rintro e w' ⟨rfl, rfl⟩
    refine ⟨rfl, Below.refl _ _, ?_⟩
    rw [List.mergeSort_nil]
    have e : Value.slice (ad v) ([] : List Int).length (cp v) = v := sl.symm
    rw [e]; exact H
  · have ho : w.ownsRow 0 3 1 v (ints xs).length (ints xs) := H.owns (k := .loc 0) rfl
    rw [ints_length] at ho
    have hne : v ≠ .slice none 0 0 := by
      intro e
      have := H.ad_ (k := .loc 0) (t := 3) (xs := ints xs) rfl (by rw [ints_length]; exact hp)
      rw [e] at this; cases this
    have hbk := H.base (.loc 0) (gb v) (H.gb_ (k := .loc 0) (t := 3) (xs := ints xs) rfl (by rw [ints_length]; exact hp))
    obtain ⟨g, cap, hv, _, hg, hc, hm, _, hh⟩ := Go.Lib.holds_of_ownsRow (enc := Value.int .i64) (zs := xs) (by exact ho) hne
    rw [hv]
    have hgb : gb v = g := by rw [hv]; rfl
    rw [hgb] at hbk
    refine (Tryz.slices_Sort_int g 0 cap xs w hh hg (by omega)).mono ?_
    rintro e w' ⟨rfl, n, os, rfl⟩
    rw [hv] at ho
    have o2 := Go.Lib.ownsRow_putRow (enc := Value.int .i64) (q := n) (k := xs.length) (ys := xs.mergeSort fun x y => decide (x ≤ y)) ho (List.length_mergeSort _) (Nat.le_refl _)
    have B1 := Go.Lib.below_putRow (enc := Value.int .i64) (q := n) (d := (xs.mergeSort fun x y => decide (x ≤ y)).toArray) (Below.refl base w) hbk
    have B2 := B1.grown (grownBy_grow _ os) (Nat.le_trans hbase B1.size) (fun b hb => by cases hb)
    refine ⟨rfl, B2, ?_⟩
    rw [List.take_of_length_le (by rw [List.length_mergeSort]; exact Nat.le_refl _)] at o2
    have hs : (xs.mergeSort fun x y => decide (x ≤ y)).length = xs.length := List.length_mergeSort _
    have H2 : Holds base (Go.Sort.putRow (Value.int .i64) (Go.Sort.ahead w n) g 0 (xs.mergeSort fun x y => decide (x ≤ y)).toArray) (locs (.row (.slice (some ⟨g, 0, none⟩) xs.length cap) 3 (ints (xs.mergeSort fun x y => decide (x ≤ y))))) := by
      refine ⟨fun k => ?_, fun k k' b h1 h2 => ?_, fun k b h1 => ?_⟩
      · unfold locs; split
        · show World.ownsRow _ 0 3 1 _ (ints _).length _
          rw [ints_length, hs]; exact o2
        · trivial
      · unfold locs at h1 h2
        split at h1
        · split at h2
          · rename_i a b; rw [a, b]
          · cases h2
        · cases h1
      · unfold locs at h1
        split at h1
        · have : g = b := by simpa [Res.blk, Value.ownBlock] using h1
          omega
        · cases h1
    have e : ad (Value.slice (some ⟨g, 0, none⟩) xs.length cap) = some ⟨g, 0, none⟩ := rfl
    have e2 : cp (Value.slice (some ⟨g, 0, none⟩) xs.length cap) = cap := rfl
    rw [e, e2]
    exact H2.grow (grownBy_grow _ os)

theorem row_facts {base : Nat} {w : World} {v : Value} {xs : List Int} (H : Holds base w (locs (.row v 3 (ints xs)))) (hp : 0 < xs.length) :
    ∃ g cap, v = .slice (some ⟨g, 0, none⟩) xs.length cap ∧ base ≤ g ∧ g < w.heap.size ∧ xs.length ≤ cap ∧ w.ownsRow 0 3 1 v xs.length (xs.map (Value.int .i64)) ∧ Go.Sort.Holds (Value.int .i64) w g 0 xs.toArray := by
  have ho : w.ownsRow 0 3 1 v (ints xs).length (ints xs) := H.owns (k := .loc 0) rfl
  rw [ints_length] at ho
  have hne : v ≠ .slice none 0 0 := by
    intro e
    have := H.ad_ (k := .loc 0) (t := 3) (xs := ints xs) rfl (by rw [ints_length]; exact hp)
    rw [e] at this; cases this
  have hbk := H.base (.loc 0) (gb v) (H.gb_ (k := .loc 0) (t := 3) (xs := ints xs) rfl (by rw [ints_length]; exact hp))
  obtain ⟨g, cap, hv, _, hg, hc, hm, _, hh⟩ := Go.Lib.holds_of_ownsRow (enc := Value.int .i64) (zs := xs) (by exact ho) hne
  have hgb : gb v = g := by rw [hv]; rfl
  rw [hgb] at hbk
  exact ⟨g, cap, hv, hbk, hg, hc, ho, hh⟩

theorem holds_locs {base : Nat} {w : World} {g cap n : Nat} {xs : List Int} (hb : base ≤ g) (h : w.ownsRow 0 3 1 (.slice (some ⟨g, 0, none⟩) n cap) n (xs.map (Value.int .i64))) (hn : n = xs.length) : Holds base w (locs (.row (.slice (some ⟨g, 0, none⟩) n cap) 3 (ints xs))) := by
  refine ⟨fun k => ?_, fun k k' b h1 h2 => ?_, fun k b h1 => ?_⟩
  · unfold locs; split
    · show World.ownsRow _ 0 3 1 _ (ints _).length _
      rw [ints_length, ← hn]; exact h
    · trivial
  · unfold locs at h1 h2
    split at h1
    · split at h2
      · rename_i a b; rw [a, b]
      · cases h2
    · cases h1
  · unfold locs at h1
    split at h1
    · have : g = b := by simpa [Res.blk, Value.ownBlock] using h1
      omega
    · cases h1

theorem compact_own {base : Nat} {w : World} {v : Value} {xs : List Int} (H : Holds base w (locs (.row v 3 (ints xs)))) (h6 : xs.length ≤ 60000) :
    Calls Tryz.prog 55 #[.slice (ad v) xs.length (cp v)] w fun e w' => ∃ v', e = .returned v' ∧ Below base w w' ∧ Holds base w' (locs (.row v' 3 (ints (Lib.compact xs)))) := by
  have sl := H.sl (k := .loc 0) rfl
  rw [ints_length] at sl
  rcases Nat.eq_zero_or_pos xs.length with h0 | hp
  · obtain rfl := List.eq_nil_of_length_eq_zero h0
    refine (Tryz.slices_Compact_int_empty (ad v) (cp v) w).mono ?_
    rintro e w' ⟨rfl, rfl⟩
    refine ⟨v, ?_, Below.refl _ _, H⟩
    have e : Value.slice (ad v) ([] : List Int).length (cp v) = v := sl.symm
    rw [← e]; rfl
  · obtain ⟨g, cap, hv, hbk, hg, hc, ho, hh⟩ := row_facts H hp
    rw [hv]
    refine (Tryz.slices_Compact_int g 0 cap xs w hh (by omega) hc).mono ?_
    rintro e w' ⟨rfl, q, rfl⟩
    rw [hv] at ho
    have hcl := Go.Lib.compact_length_le xs
    have o2 := Go.Lib.ownsRow_putRow (enc := Value.int .i64) (q := q) (k := (Lib.compact xs).length) (ys := Lib.compact xs ++ List.replicate (xs.length - (Lib.compact xs).length) 0) ho (by simp; omega) hcl
    rw [List.take_left] at o2
    refine ⟨_, rfl, Go.Lib.below_putRow (Below.refl base w) hbk, holds_locs hbk o2 rfl⟩

def VarRel (base : Nat) (w : World) (D : List (List Int)) (k : Nat) (x3 x10 : Value) (wr : World) : Prop :=
  ∃ (i : Nat) (acc : List Int) (v : Value), x10 = .int .i64 (i : Int) ∧ x3 = .slice (ad v) acc.length (cp v) ∧ k + i = D.length ∧ Holds base wr (locs (.row v 3 (ints acc))) ∧ Below base w wr ∧ acc ++ absAll (D.drop i) = absAll D
def VarRel2 (base : Nat) (w : World) (c : List Int) (T : List Int) (k : Nat) (x3 x16 : Value) (wr : World) : Prop :=
  ∃ (i : Nat) (acc : List Int) (v : Value), x16 = .int .i64 (i : Int) ∧ x3 = .slice (ad v) acc.length (cp v) ∧ k + i = c.length ∧ Holds base wr (locs (.row v 3 (ints acc))) ∧ Below base w wr ∧ acc ++ absL (c.drop i) = T

set_option maxRecDepth 100000 in
set_option maxHeartbeats 2000000 in
theorem variables_any {base : Nat} {w : World} (hbase : base ≤ w.heap.size) {A : Option Addr} {D : List (List Int)} {cc : Nat} (hA : LiesR base w A D) (hD : D.length ≤ 60000) (hc : ∀ i, i < D.length → (D.getD i []).length ≤ 60000) (hall : (absAll D).length ≤ 60000) (hl : ∀ e ∈ D, ∀ x ∈ e, -60000 ≤ x ∧ x ≤ 60000) :
    Calls Tryz.prog 41 #[.slice A D.length cc] w fun e w' => ∃ v', e = .returned v' ∧ Below base w w' ∧ Holds base w' (locs (.row v' 3 (ints (varsOf D)))) := by
  have H0 : Holds base w (fun _ => Res.non) := Holds.nothing _ _
  have H1 := nil_put H0 hbase (.loc 0) 3
  have e1 : upd (fun _ => Res.non) (.loc 0) (.row (.slice none 0 0) 3 []) = locs (.row (.slice none 0 0) 3 (ints [])) := rfl
  rw [e1] at H1
  have start : Hid (VarRel base w D D.length (.slice none 0 0) (.int .i64 ((0 : Nat) : Int)) w) := ⟨0, [], .slice none 0 0, rfl, rfl, rfl, H1, Below.refl _ _, by simp⟩
  have LA : Hid _ := hA
  have LC : Hid _ := hc
  have LL : Hid _ := hl
  clear H0 H1 e1 hA hc hl
  go_enter Tryz.func41, Tryz.ntmps41
  go_wp2_with fail
  go_loopg [3, 10] D.length (fun k x3 x10 wr => VarRel base w D k x3 x10 wr)
  case atStart => exact start.out
  case round =>
    clear start
    obtain ⟨i, acc, v, rfl, rfl, hki, H, B, hT⟩ := hrel
    by_cases hlt : i < D.length
    · obtain ⟨m, rfl⟩ : ∃ m, gk = m + 1 := ⟨gk - 1, by omega⟩
      have hL := LiesR.below LA.out B
      obtain ⟨b, o, rfl, hbb, hcell⟩ : ∃ b o, A = some ⟨b, o, none⟩ ∧ b < base ∧ ∀ i, i < D.length → ∃ A' c', wr.cell? ⟨b, o + i, none⟩ = some (.slice A' (D.getD i []).length c') ∧ (D.getD i []).length ≤ c' ∧ Lies base wr A' (D.getD i []) := by
        rcases hL with h0 | h0
        · rw [h0] at hlt; exact absurd hlt (Nat.not_lt_zero _)
        · exact h0
      obtain ⟨A', c', ei, hc', hli⟩ := hcell i hlt
      have hd : D.drop i = D.getD i [] :: D.drop (i + 1) := by
        rw [List.drop_eq_getElem_cons hlt]; simp [hlt]
      have hcl := LC.out i hlt
      have hcm : ∀ x ∈ D.getD i [], -60000 ≤ x ∧ x ≤ 60000 := LL.out _ (by have : D.getD i [] = D[i] := by simp [hlt]
                                                                           rw [this]; exact List.getElem_mem _)
      rw [hd] at hT
      generalize D.getD i [] = c at *
      have hT2 : acc ++ absL c ++ absAll (D.drop (i + 1)) = absAll D := by rw [← hT]; simp [absAll]
      have start2 : Hid (VarRel2 base wr c (acc ++ absL c) c.length (.slice (ad v) acc.length (cp v)) (.int .i64 ((0 : Nat) : Int)) wr) := ⟨0, acc, v, rfl, rfl, rfl, H, Below.refl _ _, by simp⟩
      have OB : Hid _ := B
      have hlen : (acc ++ absL c).length ≤ 60000 := by
        have : ((acc ++ absL c) ++ absAll (D.drop (i + 1))).length ≤ 60000 := by rw [hT2]; exact hall
        simp only [List.length_append] at this ⊢; omega
      generalize hTT : acc ++ absL c = T at *
      clear hT hTT hd hcell hL
      have CM : Hid _ := hcm
      have LI : Hid _ := hli
      have HT2 : Hid _ := hT2
      clear hcm hli hT2 H B
      go_wp2_with fail
      go_loopg [3, 16] c.length (fun k x3 x16 w' => VarRel2 base wr c T k x3 x16 w')
      case atStart => exact start2.out
      case round =>
        clear start2
        obtain ⟨j, acc2, v2, rfl, rfl, hkj, H2, B2, hT3⟩ := hrel
        have hbz : base ≤ wr.heap.size := Nat.le_trans (Nat.le_trans hbase OB.out.size) B2.size
        by_cases hlt2 : j < c.length
        · have hL2 := Lies.below LI.out B2
          obtain ⟨b2, o2, rfl, hbb2, hcell2⟩ : ∃ b o, A' = some ⟨b, o, none⟩ ∧ b < base ∧ ∀ j, j < c.length → wr.cell? ⟨b, o + j, none⟩ = some (.int .i64 (c.getD j 0)) := by
            rcases hL2 with h0 | h0
            · rw [h0] at hlt2; exact absurd hlt2 (Nat.not_lt_zero _)
            · exact h0
          have e2 := hcell2 j hlt2
          have hd2 : c.drop j = c.getD j 0 :: c.drop (j + 1) := by
            rw [List.drop_eq_getElem_cons hlt2]; simp [hlt2]
          have hx := CM.out (c.getD j 0) (by have : c.getD j 0 = c[j] := by simp [hlt2]
                                             rw [this]; exact List.getElem_mem _)
          rw [hd2] at hT3
          generalize c.getD j 0 = x at *
          have hT4 : (acc2 ++ [(x.natAbs : Int)]) ++ absL (c.drop (j + 1)) = T := by rw [← hT3]; simp [absL]
          have hl2 : acc2.length + 1 ≤ 60000 := by
            have := congrArg List.length hT4
            simp only [List.length_append, List.length_singleton] at this; omega
          have XH : Hid _ := hT4
          have LS : Hid _ := H2.alloc (.cells #[.int .i64 (x.natAbs : Int)] 3)
          have BL : Hid _ := B2.alloc hbz (.cells #[.int .i64 (x.natAbs : Int)] 3)
          clear hT3 hT4 hd2 hcell2 hL2 H2 B2
          obtain ⟨hx1, hx2⟩ := hx
          go_wp2_with (first | (go_at_call 23; refine (cvariable_any x _ hx1 hx2).mono ?_; rintro e w' ⟨rfl, rfl⟩) | (at_builtin; refine law_pushAt LS.out (.loc 0) rfl (.tmp 20) (.tmp 23) 23 3 (.int .i64 0) 8 rfl Tryz.underlying23 info3 rfl (by decide) acc2.length (.int .i64 (x.natAbs : Int)) rfl (ints_length _) rfl wr.heap.size rfl ?hy rfl ?hb ?hl ?_))
          try (case hy => first | exact cell_new _ _ _ _ (by simp) | exact cell_new_drew _ _ _ _ (by simp))
          case hb => simp; omega
          case hl => omega
          intro A3 c3 w6 H6 B6 _
          rw [ints_snoc, upd_locs] at H6
          have H6H : Hid _ := H6
          have B6H : Hid _ := BL.out.trans B6
          clear H6 B6
          go_wp2_with fail
          go_roundg (gk - 1)
          case measure => omega
          case rel => exact ⟨j + 1, acc2 ++ [(x.natAbs : Int)], .slice A3 (acc2.length + 1) c3, by go_num, by simp [ad, cp], by omega, H6H.out, B6H.out, XH.out⟩
        · have hge : decide (j < c.length) = false := decide_eq_false (by omega)
          have hge2 : c.length ≤ j := by omega
          have hnil : c.drop j = [] := List.drop_eq_nil_of_le hge2
          rw [hnil] at hT3
          have hT5 : acc2 = T := by rw [← hT3]; simp [absL]
          subst hT5
          have HH : Hid _ := H2
          have B9 : Hid _ := OB.out.trans B2
          clear hlt2 hnil hT3 H2 B2
          go_wp2_with fail
          go_roundg m
          case measure => omega
          case rel => exact ⟨i + 1, acc2, v2, by go_num, rfl, by omega, HH.out, B9.out, HT2.out⟩
    · have hnil : D.drop i = [] := List.drop_eq_nil_of_le (by omega)
      have hge : decide (i < D.length) = false := decide_eq_false (by omega)
      have hge2 : D.length ≤ i := by omega
      rw [hnil] at hT
      have hT5 : acc = absAll D := by rw [← hT]; simp [absAll]
      subst hT5
      have hbz : base ≤ wr.heap.size := Nat.le_trans hbase B.size
      have SO := sort_own H hbz hall
      have OB : Hid _ := B
      clear hlt hnil hT H B LA LC LL
      go_wp2_with fail
      refine SO.mono ?_
      rintro e w2 ⟨rfl, B2, H2⟩
      have hl2 : ((absAll D).mergeSort fun x y => decide (x ≤ y)).length = (absAll D).length := List.length_mergeSort _
      have CO := compact_own H2 (by omega)
      rw [hl2] at CO
      have B3 : Hid _ := OB.out.trans B2
      clear SO H2 B2 hl2
      go_wp2_with fail
      refine CO.mono ?_
      rintro e w3 ⟨v', rfl, B4, H4⟩
      have HE : Hid _ := H4
      have BE : Hid _ := B3.out.trans B4
      clear CO H4 B4
      go_wp2_with fail
      go_ret
      exact ⟨v', rfl, BE.out, HE.out⟩
end Go.Proofs.YtdllaphnkbnpoaaGreat
