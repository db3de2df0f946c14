/- Walks over package clause: twice, Satisfies. slices.SortFunc by variables, the positive literal first: the kit's contract laid at this program, the comparison walked, and that what comes is the reference's order. The law ClauseUnits, walked. -/
import Derived.Test.YtdllaphnkbnpoaaXj
import Derived.Test.YtdllaphnkbnpoaaXe
import Derived.Test.YtdllaphnkbnpoaaXa
import Derived.Shelf.SlSortCmp.NoneTotal
import Derived.Test.YtdllaphnkbnpoaaShelf
import Derived.Test.YtdllaphnkbnpoaaXq
namespace Go.Proofs.Ytdllaphnkbnpoaa
open Go.RowKit Go.Proofs

theorem containsI_any {base : Nat} {w : World} {A : Option Addr} {l : List Int} {c : Nat} (h : Lies base w A l) (hn : l.length ≤ 9223372036854775807) (x : Int) :
    Calls Try.prog 56 #[.slice A l.length c, .int .i64 x] w fun e w' => e = .returned (.bool (l.contains x)) ∧ w' = w := by
  rcases Nat.eq_zero_or_pos l.length with h0 | hp
  · obtain rfl := List.eq_nil_of_length_eq_zero h0
    exact Try.slices_Contains_int_empty A c x w
  · obtain ⟨b, o, rfl, _, hc⟩ := lies_at h hp
    refine (Try.slices_Contains_int b o l.length c l x w (Nat.le_refl _) hn hc).mono ?_
    rintro e w' ⟨rfl, rfl⟩
    exact ⟨by rw [List.take_length], rfl⟩

theorem inner_any {w : World} {B c x : _} {A : Option Addr} {l : List Int} (hc : w.cell? ⟨B, 0, none⟩ = some (.slice A l.length c)) (h : Lies w.heap.size w A l) (hn : l.length ≤ 9223372036854775807) :
    Calls Try.prog 55 #[.int .i64 x, .pointer (some ⟨B, 0, none⟩)] w fun e w' => e = .returned (.bool (l.contains x)) ∧ w' = w := by
  have C := containsI_any (c := c) h hn x
  generalize l.contains x = r at *
  clear h
  go_enter Try.func55, Try.ntmps55
  go_wp2_with fail
  refine C.mono ?_
  rintro e w' ⟨rfl, rfl⟩
  clear C
  go_wp2_with fail
  go_ret
  exact ⟨rfl, rfl⟩

theorem outer_any {w : World} {B c c' : Nat} {A A' : Option Addr} {l el : List Int} (hc : w.cell? ⟨B, 0, none⟩ = some (.slice A l.length c)) (hB : B < w.heap.size) (h : Lies w.heap.size w A l) (hn : l.length ≤ 9223372036854775807) (he : Lies w.heap.size w A' el) (hn2 : el.length ≤ 9223372036854775807) :
    Calls Try.prog 53 #[.slice A' el.length c', .pointer (some ⟨B, 0, none⟩)] w fun e w' => e = .returned (.bool (!(el.any fun x => l.contains x))) ∧ Below w.heap.size w w' := by
  have CF := containsFunc_int (c := c') (lb := #[.pointer (some ⟨B, 0, none⟩)]) (b := fun j => l.contains (el.getD j 0)) hn2 (g := 55) (enters_of Try.func55 (by kernel_rfl) rfl) (lies_elems he (Nat.le_refl _)) (fun j hj W hW => by
    refine (inner_any (B := B) (c := c) (x := el.getD j 0) (A := A) (l := l) (by rw [World.cell?_of_block (a := ⟨B, 0, none⟩) (hW.block B hB)]; exact hc) ((h.below hW).mono hW.size) hn).mono ?_
    rintro e w' ⟨rfl, rfl⟩
    exact ⟨rfl, hW⟩)
  rw [anyB_list el (fun x => l.contains x)] at CF
  generalize (el.any fun x => l.contains x) = r at *
  clear h he hc
  go_enter Try.func53, Try.ntmps53
  go_wp2_with fail
  refine CF.mono ?_
  rintro e w' ⟨rfl, B1⟩
  have BH : Hid _ := B1
  clear CF B1
  go_wp2_with fail
  go_ret
  exact ⟨rfl, BH.out⟩

def TwRel (w : World) (xs : List Int) (k : Nat) (x9 : Value) (wr : World) : Prop :=
  ∃ i : Nat, x9 = .int .i64 (i : Int) ∧ k + i = xs.length ∧ MapAt wr w.heap.size (kvs ikey (bm (absL (xs.take i)))) ∧ Below w.heap.size w wr ∧ w.heap.size < wr.heap.size ∧ ∀ j, j < i → ∀ k, k < j → (xs.getD j 0).natAbs ≠ (xs.getD k 0).natAbs

theorem abs_take_mem {xs : List Int} {i : Nat} {n : Nat} (h : (n : Int) ∈ absL (xs.take i)) : ∃ k, k < i ∧ k < xs.length ∧ (xs.getD k 0).natAbs = n := by
  obtain ⟨y, hy, e⟩ := List.mem_map.1 h
  obtain ⟨k, hk, rfl⟩ := List.getElem_of_mem hy
  rw [List.length_take] at hk
  rw [List.getElem_take] at e
  refine ⟨k, by omega, by omega, ?_⟩
  have e1 : xs.getD k 0 = xs[k]'(by omega) := by simp [show k < xs.length by omega]
  rw [e1]; omega
theorem mem_abs_take {xs : List Int} {i k : Nat} (hk : k < i) (hx : k < xs.length) : ((xs.getD k 0).natAbs : Int) ∈ absL (xs.take i) := by
  refine List.mem_map.2 ⟨xs.getD k 0, ?_, rfl⟩
  have e1 : xs.getD k 0 = (xs.take i)[k]'(by rw [List.length_take]; omega) := by rw [List.getElem_take]; simp [hx]
  rw [e1]
  exact List.getElem_mem _

set_option maxRecDepth 100000 in
set_option maxHeartbeats 2000000 in
theorem pTwice_any {w : World} {A : Option Addr} {xs : List Int} {c : Nat} (h : Lies w.heap.size w A xs) (hn : xs.length ≤ 9223372036854775807) (hw : ∀ x ∈ xs, -60000 ≤ x ∧ x ≤ 60000) :
    Calls Try.prog 47 #[.slice A xs.length c] w fun e w' => e = .returned (.bool (twiceM xs)) ∧ Below w.heap.size w w' := by
  have M0 : MapAt (w.alloc (.map #[] 0)) w.heap.size (kvs ikey (bm (absL (xs.take 0)))) := ⟨#[], 0, alloc_at _ _, rfl⟩
  have BA : Below w.heap.size w (w.alloc (.map #[] 0)) := (Below.refl _ _).alloc (Nat.le_refl _) _
  have start : Hid (TwRel w xs xs.length (.int .i64 ((0 : Nat) : Int)) (w.alloc (.map #[] 0))) := ⟨0, rfl, rfl, M0, BA, by rw [size_alloc]; omega, fun j hj => absurd hj (Nat.not_lt_zero _)⟩
  have LA : Hid _ := h
  have LW : Hid _ := hw
  clear h hw M0 BA
  go_enter Try.func47, Try.ntmps47
  go_wp2_with fail
  simp only [run_makeMap]
  go_wp2_with fail
  go_loopg [9] xs.length (fun k x9 wr => TwRel w xs k x9 wr)
  case atStart => exact start.out
  case round =>
    clear start
    obtain ⟨i, rfl, hki, M, B, hsz, hall⟩ := hrel
    by_cases hlt : i < xs.length
    · obtain ⟨b, o, rfl, hbb, hcell⟩ := lies_at (Lies.below LA.out B) hlt
      have ei := hcell i hlt
      have hx := LW.out _ (row_ne xs 0 hlt)
      have TY : Hid ((absL (xs.take i)).contains ((xs.getD i 0).natAbs : Int) = true → twiceM xs = true) := fun hc => by
        obtain ⟨k, hk1, hk2, e⟩ := abs_take_mem (by simpa using hc)
        exact twice_yes hlt hk1 e.symm
      have TN : Hid ((absL (xs.take i)).contains ((xs.getD i 0).natAbs : Int) = false → ∀ j, j < i + 1 → ∀ k, k < j → (xs.getD j 0).natAbs ≠ (xs.getD k 0).natAbs) := fun hc j hj k hk => by
        rcases Nat.lt_or_ge j i with q | q
        · exact hall j q k hk
        · have : j = i := by omega
          subst this
          intro e
          have := mem_abs_take (xs := xs) hk (by omega)
          rw [← e] at this
          rw [List.contains_eq_mem] at hc
          exact of_decide_eq_false hc this
      have TS : Hid (absL (xs.take (i + 1)) = absL (xs.take i) ++ [((xs.getD i 0).natAbs : Int)]) := by
        have e3 : xs[i]?.toList = [xs.getD i 0] := by simp [hlt]
        rw [List.take_add_one, e3]
        show absL _ = _
        unfold absL
        rw [List.map_append]
        rfl
      have r1 := unit_look M ((xs.getD i 0).natAbs : Int)
      obtain ⟨w9, hrun, M9, B9⟩ := unit_put (Nat.le_refl _) B.size M ((xs.getD i 0).natAbs : Int)
      have S9 : Hid (w.heap.size < w9.heap.size) := Nat.lt_of_lt_of_le hsz B9.size
      have M9H : Hid _ := M9
      have BH : Hid _ := B
      have B9H : Hid _ := B.trans B9
      clear hcell hall M B hsz M9 B9
      generalize xs.getD i 0 = x at *
      have CV : ∀ W : World, Calls Try.prog 67 #[.int .i64 x] W fun e w' => e = .returned (.int .i64 (x.natAbs : Int)) ∧ W = w' := fun W => cvariable_any x W hx.1 hx.2
      generalize x.natAbs = v at *
      cases hp : (absL (xs.take i)).contains (v : Int) with
      | true =>
        rw [hp] at r1
        have RT : Hid _ := TY.out hp
        clear hp hrun TY TN
        go_wp2_with fail
        refine (CV _).mono ?_
        rintro e w' ⟨rfl, rfl⟩
        go_wp2_with fail
        go_ret
        exact ⟨by rw [RT.out]; rfl, BH.out⟩
      | false =>
        rw [hp] at r1
        have RT : Hid _ := TN.out hp
        have M9f := M9H.out
        rw [if_neg (by rw [hp]; simp)] at M9f
        rw [← TS.out] at M9f
        have M9K : Hid _ := M9f
        clear hp TY TN M9f M9H TS
        go_wp2_with fail
        refine (CV _).mono ?_
        rintro e w' ⟨rfl, rfl⟩
        go_wp2_with fail
        refine (CV _).mono ?_
        rintro e w' ⟨rfl, rfl⟩
        go_wp2_with fail
        go_roundg (gk - 1)
        case measure => omega
        case rel => exact ⟨i + 1, by go_num, by omega, M9K.out, B9H.out, S9.out, RT.out⟩
    · have hge : decide (i < xs.length) = false := decide_eq_false (by omega)
      have hge2 : xs.length ≤ i := by omega
      have RT : Hid _ := twice_no (fun j hj => hall j (by omega))
      have BH : Hid _ := B
      clear hall hlt M B
      go_wp2_with fail
      go_ret
      exact ⟨by rw [RT.out]; rfl, BH.out⟩

theorem not_any_all (D : List (List Int)) (l : List Int) : (!(D.any fun c => !(c.any fun x => l.contains x))) = holdsM D l := by
  unfold holdsM
  rw [List.all_eq_not_any_not]

set_option maxRecDepth 100000 in
set_option maxHeartbeats 2000000 in
theorem pSat_any {w : World} {A A2 : Option Addr} {D : List (List Int)} {l : List Int} {c c2 : Nat} (h : LiesR w.heap.size w A D) (h2 : Lies w.heap.size w A2 l) (hn : D.length ≤ 9223372036854775807) (hm : ∀ e ∈ D, e.length ≤ 9223372036854775807) (hl : l.length ≤ 9223372036854775807) :
    Calls Try.prog 28 #[.slice A D.length c, .slice A2 l.length c2] w fun e w' => e = .returned (.tuple #[.bool (satisfiesM D l).1, .int .i64 (satisfiesM D l).2]) ∧ Below w.heap.size w w' := by
  obtain ⟨w1, hw1⟩ : ∃ w1, w1 = w.alloc (.cells #[.slice A2 l.length c2] 26) := ⟨_, rfl⟩
  have s1 : w1.heap.size = w.heap.size + 1 := by rw [hw1, size_alloc]
  have B1 : Hid (Below w.heap.size w w1) := by rw [hw1]; exact (Below.refl _ _).alloc (Nat.le_refl _) _
  have k1 : w1.cell? ⟨w.heap.size, 0, none⟩ = some (.slice A2 l.length c2) := by rw [hw1]; exact cell_new _ _ _ _ rfl
  have C1 := Check_any (c := c) ((h.below B1.out).mono B1.out.size) (Nat.le_refl _) hn (fun j hj => hm _ (row_ne D [] hj))
  rw [← refM_eq] at C1
  have KK : Hid (∀ W, Below w1.heap.size w1 W → W.cell? ⟨w.heap.size, 0, none⟩ = some (.slice A2 l.length c2)) := fun W hW => by
    rw [World.cell?_of_block (a := ⟨w.heap.size, 0, none⟩) (hW.block w.heap.size (by omega))]; exact k1
  have C2 : Hid (∀ W, Below w1.heap.size w1 W → Calls Try.prog 46 #[.slice A2 l.length c2] W fun e w' => e = .returned (.bool (l.all isLit)) ∧ Below W.heap.size W w') := fun W hW =>
    areLiterals_any ((h2.below (B1.out.trans (hW.mono B1.out.size))).mono (Nat.le_trans B1.out.size hW.size)) (Nat.le_refl _) hl
  have C3 : Hid ((∀ x ∈ l, -60000 ≤ x ∧ x ≤ 60000) → ∀ W, Below w1.heap.size w1 W → Calls Try.prog 47 #[.slice A2 l.length c2] W fun e w' => e = .returned (.bool (twiceM l)) ∧ Below W.heap.size W w') := fun hb W hW =>
    pTwice_any ((h2.below (B1.out.trans (hW.mono B1.out.size))).mono (Nat.le_trans B1.out.size hW.size)) hl hb
  have C4 : Hid (∀ W, Below w1.heap.size w1 W → Calls Try.prog 52 #[.slice A D.length c, .func (.func 53) #[] #[.pointer (some ⟨w.heap.size, 0, none⟩)]] W fun e w' => e = .returned (.bool (D.any fun c => !(c.any fun x => l.contains x))) ∧ Below W.heap.size W w') := fun W hW => by
    have hB := B1.out.trans (hW.mono B1.out.size)
    have r2 := liesR_rows ((h.below hB).mono hB.size) (Nat.le_refl W.heap.size)
    have CF := containsFunc_row (c := c) (lb := #[.pointer (some ⟨w.heap.size, 0, none⟩)]) (b := fun j => (fun c : List Int => !(c.any fun x => l.contains x)) (D.getD j [])) hn (g := 53) (enters_of Try.func53 (by kernel_rfl) rfl) r2.1 (fun j hj V hV => by
      obtain ⟨A', c', e1, _, hli⟩ := r2.2 j hj
      rw [e1]
      have hVV := hW.trans (hV.mono hW.size)
      refine (outer_any (c := c2) (A := A2) (l := l) (KK.out V hVV) (by have := hVV.size; omega) ((h2.below (hB.trans (hV.mono hB.size))).mono (Nat.le_trans hB.size hV.size)) hl ((hli.below hV).mono hV.size) (hm _ (row_ne D [] hj))).mono ?_
      rintro e w' ⟨rfl, B3⟩
      exact ⟨rfl, hV.trans (B3.mono hV.size)⟩)
    rwa [anyB_rows D (fun c : List Int => !(c.any fun x => l.contains x))] at CF
  have NA := not_any_all D l
  have HW : Hid _ := hw1
  unfold satisfiesM
  clear h h2 hm k1 hw1
  by_cases hr : refM D = 0
  · rw [hr] at C1
    rw [if_neg (by simp [hr])]
    have c2x := C2.out
    cases hq : l.all isLit with
    | false =>
      rw [if_pos rfl]
      rw [hq] at c2x
      have C2h : Hid _ := c2x
      clear C2 c2x C3 C4 hr hq NA
      go_enter Try.func28, Try.ntmps28
      go_wp2_with (rw [← HW.out]; refine C1.mono ?_; rintro e w2 ⟨rfl, B2⟩; have kk := KK.out w2 B2)
      have cc := C2h.out w2 B2
      have B2h : Hid (Below w1.heap.size w1 w2) := B2
      clear C1 B2
      refine cc.mono ?_
      rintro e w3 ⟨rfl, B3⟩
      have BF : Hid (Below w.heap.size w w3) := B1.out.trans ((B2h.out.trans (B3.mono B2h.out.size)).mono B1.out.size)
      clear cc B3 kk
      go_wp2_with fail
      go_ret2
      exact ⟨rfl, BF.out⟩
    | true =>
      rw [if_neg (by simp)]
      rw [hq] at c2x
      have C2h : Hid _ := c2x
      have ll := lit_small hq
      have c3x := C3.out (fun x hx => by have := ll x hx; omega)
      cases ht : twiceM l with
      | true =>
        rw [if_pos rfl]
        rw [ht] at c3x
        have C3h : Hid _ := c3x
        clear C2 c2x C3 C4 hr hq NA ll c3x ht
        go_enter Try.func28, Try.ntmps28
        go_wp2_with (rw [← HW.out]; refine C1.mono ?_; rintro e w2 ⟨rfl, B2⟩; have kk := KK.out w2 B2)
        have cc := C2h.out w2 B2
        have B2h : Hid (Below w1.heap.size w1 w2) := B2
        clear C1 B2
        refine cc.mono ?_
        rintro e w3 ⟨rfl, B3⟩
        have B3h : Hid (Below w1.heap.size w1 w3) := B2h.out.trans (B3.mono B2h.out.size)
        have kk3 := KK.out w3 B3h.out
        have cc3 := C3h.out w3 B3h.out
        clear cc B3 kk
        go_wp2_with fail
        refine cc3.mono ?_
        rintro e w4 ⟨rfl, B4⟩
        have BF : Hid (Below w.heap.size w w4) := B1.out.trans ((B3h.out.trans (B4.mono B3h.out.size)).mono B1.out.size)
        clear cc3 B4 kk3
        go_wp2_with fail
        go_ret2
        exact ⟨rfl, BF.out⟩
      | false =>
        rw [if_neg (by simp)]
        rw [ht] at c3x
        have C3h : Hid _ := c3x
        rw [← NA]
        generalize (D.any fun c => !(c.any fun x => l.contains x)) = r at *
        clear C2 c2x C3 hr hq NA ll c3x ht
        go_enter Try.func28, Try.ntmps28
        go_wp2_with (rw [← HW.out]; refine C1.mono ?_; rintro e w2 ⟨rfl, B2⟩; have kk := KK.out w2 B2)
        have cc := C2h.out w2 B2
        have B2h : Hid (Below w1.heap.size w1 w2) := B2
        clear C1 B2
        refine cc.mono ?_
        rintro e w3 ⟨rfl, B3⟩
        have B3h : Hid (Below w1.heap.size w1 w3) := B2h.out.trans (B3.mono B2h.out.size)
        have kk3 := KK.out w3 B3h.out
        have cc3 := C3h.out w3 B3h.out
        clear cc B3 kk
        go_wp2_with fail
        refine cc3.mono ?_
        rintro e w4 ⟨rfl, B4⟩
        have B4h : Hid (Below w1.heap.size w1 w4) := B3h.out.trans (B4.mono B3h.out.size)
        have cc4 := C4.out w4 B4h.out
        clear cc3 B4 kk3 C4
        go_wp2_with fail
        refine cc4.mono ?_
        rintro e w5 ⟨rfl, B5⟩
        have BF : Hid (Below w.heap.size w w5) := B1.out.trans ((B4h.out.trans (B5.mono B4h.out.size)).mono B1.out.size)
        clear cc4 B5
        go_wp2_with fail
        go_ret2
        exact ⟨rfl, BF.out⟩
  · rw [if_pos hr]
    have g1 : (refM D != 0) = true := by simp [hr]
    clear hr C2 C3 C4 NA
    generalize refM D = r at *
    go_enter Try.func28, Try.ntmps28
    go_wp2_with (rw [← HW.out]; refine C1.mono ?_; rintro e w2 ⟨rfl, B2⟩)
    have BF : Hid (Below w.heap.size w w2) := B1.out.trans (B2.mono B1.out.size)
    clear C1 B2
    go_wp2_with fail
    go_ret2
    exact ⟨rfl, BF.out⟩
end Go.Proofs.Ytdllaphnkbnpoaa
namespace Go.Proofs
open Go.Shelf
def Try.sortL_ren : Go.Shelf.Ren := ⟨fun | 6 => 48 | 15 => 69 | 14 => 68 | 28 => 94 | 29 => 95 | 20 => 86 | 21 => 87 | 22 => 88 | 23 => 89 | 24 => 90 | 25 => 91 | 26 => 92 | 27 => 93 | 46 => 102 | 47 => 103 | 48 => 104 | 49 => 105 | 50 => 106 | 57 => 116 | n => n, fun | 22 => 26 | 24 => 3 | 25 => 61 | 3 => 3 | 39 => 79 | 0 => 0 | 53 => 101 | 55 => 103 | 4 => 4 | 46 => 95 | 45 => 94 | 50 => 91 | 5 => 5 | 9 => 9 | 66 => 108 | 70 => 112 | 76 => 119 | 77 => 120 | n => n, fun | n => n⟩
theorem Try.sortL : Go.Proofs.SlLaysF.n6 Try.prog Try.sortL_ren := {
  mixed := by kernel_rfl
  f6 := ⟨Try.f48.name, by decide, Try.func48.trans (congrArg some (by kernel_rfl))⟩
  f14 := ⟨Try.f68.name, by decide, Try.func68.trans (congrArg some (by kernel_rfl))⟩
  f15 := Try.func69.trans (congrArg some (by kernel_rfl))
  f20 := ⟨Try.f86.name, by decide, Try.func86.trans (congrArg some (by kernel_rfl))⟩
  f21 := ⟨Try.f87.name, by decide, Try.func87.trans (congrArg some (by kernel_rfl))⟩
  f22 := ⟨Try.f88.name, by decide, Try.func88.trans (congrArg some (by kernel_rfl))⟩
  f23 := ⟨Try.f89.name, by decide, Try.func89.trans (congrArg some (by kernel_rfl))⟩
  f24 := ⟨Try.f90.name, by decide, Try.func90.trans (congrArg some (by kernel_rfl))⟩
  f25 := ⟨Try.f91.name, by decide, Try.func91.trans (congrArg some (by kernel_rfl))⟩
  f26 := ⟨Try.f92.name, by decide, Try.func92.trans (congrArg some (by kernel_rfl))⟩
  f27 := ⟨Try.f93.name, by decide, Try.func93.trans (congrArg some (by kernel_rfl))⟩
  f28 := Try.func94.trans (congrArg some (by kernel_rfl))
  f29 := Try.func95.trans (congrArg some (by kernel_rfl))
  f46 := ⟨Try.f102.name, by decide, Try.func102.trans (congrArg some (by kernel_rfl))⟩
  f47 := Try.func103.trans (congrArg some (by kernel_rfl))
  f48 := Try.func104.trans (congrArg some (by kernel_rfl))
  f49 := ⟨Try.f105.name, by decide, Try.func105.trans (congrArg some (by kernel_rfl))⟩
  f50 := ⟨Try.f106.name, by decide, Try.func106.trans (congrArg some (by kernel_rfl))⟩
  f57 := ⟨Try.f116.name, by decide, Try.func116.trans (congrArg some (by kernel_rfl))⟩
  t0 := Try.underlying0
  a0 := Try.isAgg0
  z0 := Try.sizeOf0
  v0 := Try.zeroValue0
  t3 := Try.underlying3
  a3 := Try.isAgg3
  z3 := Try.sizeOf3
  v3 := Try.zeroValue3
  t4 := Try.underlying4
  a4 := Try.isAgg4
  z4 := Try.sizeOf4
  v4 := Try.zeroValue4
  t5 := Try.underlying5
  a5 := Try.isAgg5
  z5 := Try.sizeOf5
  v5 := Try.zeroValue5
  t9 := Try.underlying9
  a9 := Try.isAgg9
  z9 := Try.sizeOf9
  v9 := Try.zeroValue9
  t22 := Try.underlying26
  a22 := Try.isAgg26
  z22 := Try.sizeOf26
  v22 := Try.zeroValue26
  a24 := Try.isAgg3
  z24 := Try.sizeOf3
  t25 := Try.underlying61
  a25 := Try.isAgg61
  z25 := Try.sizeOf61
  v25 := Try.zeroValue61
  t39 := Try.underlying79
  a39 := Try.isAgg79
  z39 := Try.sizeOf79
  v39 := Try.zeroValue79
  t45 := Try.underlying94
  a45 := Try.isAgg94
  z45 := Try.sizeOf94
  v45 := Try.zeroValue94
  t46 := Try.underlying95
  a46 := Try.isAgg95
  z46 := Try.sizeOf95
  v46 := Try.zeroValue95
  t50 := Try.underlying91
  a50 := Try.isAgg91
  z50 := Try.sizeOf91
  v50 := Try.zeroValue91
  t53 := Try.underlying101
  a53 := Try.isAgg101
  z53 := Try.sizeOf101
  v53 := Try.zeroValue101
  t55 := Try.underlying103
  a55 := Try.isAgg103
  z55 := Try.sizeOf103
  v55 := Try.zeroValue103
  t66 := Try.underlying108
  a66 := Try.isAgg108
  z66 := Try.sizeOf108
  v66 := Try.zeroValue108
  t70 := Try.underlying112
  a70 := Try.isAgg112
  z70 := Try.sizeOf112
  v70 := Try.zeroValue112
  t76 := Try.underlying119
  a76 := Try.isAgg119
  z76 := Try.sizeOf119
  v76 := Try.zeroValue119
  t77 := Try.underlying120
  a77 := Try.isAgg120
  z77 := Try.sizeOf120
  v77 := Try.zeroValue120 }
end Go.Proofs
namespace Go.Proofs.Ytdllaphnkbnpoaa
open Go.RowKit Go.Proofs

/-- cmp.Or of two. -/
def OrRel (w : World) (a b : Int) (k : Nat) (x8 : Value) (wr : World) : Prop :=
  ∃ i : Nat, x8 = .int .i64 (i : Int) ∧ k + i = 2 ∧ wr = w ∧ (1 ≤ i → a = 0) ∧ (2 ≤ i → b = 0)
set_option maxHeartbeats 2000000 in
theorem or_any {w : World} {g : Nat} {a b r : Int} (h0 : w.cell? ⟨g, 0, none⟩ = some (.int .i64 a)) (h1 : w.cell? ⟨g, 1, none⟩ = some (.int .i64 b)) (hr1 : a ≠ 0 → r = a) (hr2 : a = 0 → r = b) :
    Calls Try.prog 70 #[.slice (some ⟨g, 0, none⟩) 2 2] w fun e w' => e = .returned (.int .i64 r) ∧ w' = w := by
  have start : Hid (OrRel w a b 2 (.int .i64 ((0 : Nat) : Int)) w) := ⟨0, rfl, rfl, rfl, by omega, by omega⟩
  have R1 : Hid _ := hr1
  have R2 : Hid _ := hr2
  clear hr1 hr2
  go_enter Try.func70, Try.ntmps70
  go_wp2_with fail
  go_loopg [8] 2 (fun k x8 wr => OrRel w a b k x8 wr)
  case atStart => exact start.out
  case round =>
    clear start
    obtain ⟨i, rfl, hki, rfl, ha, hb⟩ := hrel
    rcases Nat.lt_or_ge i 2 with hi | hi
    · rcases Nat.eq_zero_or_pos i with h | h
      · subst h
        by_cases hz : a = 0
        · have HZ : Hid (a = 0) := hz
          have g1 : (a != 0) = false := by simp [hz]
          clear ha hb hz
          go_wp2_with fail
          go_roundg (gk - 1)
          case measure => omega
          case rel => exact ⟨1, by go_num, by omega, rfl, fun _ => HZ.out, by omega⟩
        · have g1 : (a != 0) = true := by simp [hz]
          have R : Hid (r = a) := R1.out hz
          clear ha hb hz R1 R2
          go_wp2_with fail
          go_ret
          exact ⟨by rw [R.out]; rfl, rfl⟩
      · obtain rfl : i = 1 := by omega
        have ha0 := ha (by omega)
        have R : Hid (r = b) := R2.out ha0
        by_cases hz : b = 0
        · have HA : Hid (a = 0) := ha0
          have HZ : Hid (b = 0) := hz
          have g1 : (b != 0) = false := by simp [hz]
          clear ha hb hz ha0
          go_wp2_with fail
          go_roundg (gk - 1)
          case measure => omega
          case rel => exact ⟨2, by go_num, by omega, rfl, fun _ => HA.out, fun _ => HZ.out⟩
        · have g1 : (b != 0) = true := by simp [hz]
          clear ha hb hz ha0 R1 R2
          go_wp2_with fail
          go_ret
          exact ⟨by rw [R.out]; rfl, rfl⟩
    · have R : Hid (r = 0) := (R2.out (ha (by omega))).trans (hb (by omega))
      obtain rfl : i = 2 := by omega
      clear ha hb R1 R2
      go_wp2_with fail
      go_ret
      exact ⟨by rw [R.out]; rfl, rfl⟩

def bvM (a b : Int) : Int := if Lib.compareInt (a.natAbs : Int) (b.natAbs : Int) ≠ 0 then Lib.compareInt (a.natAbs : Int) (b.natAbs : Int) else Lib.compareInt b a
theorem bv_any {a b : Int} (ha : -60000 ≤ a ∧ a ≤ 60000) (hb : -60000 ≤ b ∧ b ≤ 60000) (w : World) :
    Calls Try.prog 49 #[.int .i64 a, .int .i64 b] w fun e w' => e = .returned (.int .i64 (bvM a b)) ∧ w' = w.alloc (.cells #[.int .i64 (Lib.compareInt (a.natAbs : Int) (b.natAbs : Int)), .int .i64 (Lib.compareInt b a)] 3) := by
  have V1 := cvariable_any a w ha.1 ha.2
  have V2 := cvariable_any b w hb.1 hb.2
  have K1 := Try.cmp_Compare_int (a.natAbs : Int) (b.natAbs : Int) w
  have K2 := Try.cmp_Compare_int b a w
  unfold bvM
  generalize Lib.compareInt (a.natAbs : Int) (b.natAbs : Int) = p at *
  generalize Lib.compareInt b a = q at *
  generalize a.natAbs = an at *
  generalize b.natAbs = bn at *
  have O := or_any (w := w.alloc (.cells #[.int .i64 p, .int .i64 q] 3)) (g := w.heap.size) (a := p) (b := q) (r := if p ≠ 0 then p else q) (by simp) (by simp) (fun h => if_pos h) (fun h => if_neg (by simp [h]))
  generalize (if p ≠ 0 then p else q) = r at *
  clear ha hb
  go_enter Try.func49, Try.ntmps49
  go_wp2_with fail
  refine V1.mono ?_
  rintro e w' ⟨rfl, rfl⟩
  go_wp2_with fail
  refine V2.mono ?_
  rintro e w' ⟨rfl, rfl⟩
  go_wp2_with fail
  refine K1.mono ?_
  rintro e w' ⟨rfl, rfl⟩
  go_wp2_with fail
  refine K2.mono ?_
  rintro e w' ⟨rfl, rfl⟩
  go_wp2_with fail
  refine O.mono ?_
  rintro e w' ⟨rfl, rfl⟩
  go_wp2_with fail
  go_ret
  exact ⟨rfl, rfl⟩

/-- Small numbers. -/
abbrev Sm := { x : Int // -60000 ≤ x ∧ x ≤ 60000 }
instance : Inhabited Sm := ⟨⟨0, by omega, by omega⟩⟩
def encS (x : Sm) : Value := .int .i64 x.1
def cfS (x y : Sm) : Int := bvM x.1 y.1

theorem cmp_eq (a b : Int) : Lib.compareInt a b = if a < b then -1 else if b < a then 1 else 0 := by
  unfold Lib.compareInt
  rfl
theorem bvM_lt (a b : Int) : decide (bvM a b < 0) = bef a b := by
  have e1 := cmp_eq (a.natAbs : Int) (b.natAbs : Int)
  have e2 := cmp_eq b a
  unfold bvM bef
  by_cases h1 : a.natAbs = b.natAbs
  · have e3 : Lib.compareInt (a.natAbs : Int) (b.natAbs : Int) = 0 := by rw [e1, if_neg (by omega), if_neg (by omega)]
    rw [if_neg (by simp [e3]), if_neg (by simp [h1]), e2]
    by_cases h2 : b < a
    · rw [if_pos h2, decide_eq_true h2]; rfl
    · rw [if_neg h2, decide_eq_false h2]
      by_cases h3 : a < b
      · rw [if_pos h3]; rfl
      · rw [if_neg h3]; rfl
  · by_cases h2 : a.natAbs < b.natAbs
    · have e3 : Lib.compareInt (a.natAbs : Int) (b.natAbs : Int) = -1 := by rw [e1, if_pos (by omega)]
      rw [if_pos (by rw [e3]; decide), if_pos h1, e3, decide_eq_true h2]; rfl
    · have e3 : Lib.compareInt (a.natAbs : Int) (b.natAbs : Int) = 1 := by rw [e1, if_neg (by omega), if_pos (by omega)]
      rw [if_pos (by rw [e3]; decide), if_pos h1, e3, decide_eq_false h2]; rfl

theorem bef_irr (a : Int) : bef a a = false := by unfold bef; simp
theorem bef_trans {a b c : Int} (h1 : bef a b = true) (h2 : bef b c = true) : bef a c = true := by
  unfold bef at *
  split at h1 <;> split at h2 <;> split <;> simp at * <;> omega
theorem bef_ntrans {a b c : Int} (h1 : bef a b = false) (h2 : bef b c = false) : bef a c = false := by
  unfold bef at *
  split at h1 <;> split at h2 <;> split <;> simp at * <;> omega
theorem bef_tot {a b : Int} (h1 : bef a b = false) (h2 : bef b a = false) : a = b := by
  unfold bef at *
  split at h1 <;> split at h2 <;> simp at * <;> omega

theorem ltS (x y : Sm) : ltOf cfS x y = bef x.1 y.1 := bvM_lt x.1 y.1
theorem swoS : Go.Sort.SWO (ltOf cfS) where
  irrefl x := by rw [ltS]; exact bef_irr _
  trans x y z h1 h2 := by rw [ltS] at *; exact bef_trans h1 h2
  ntrans x y z h1 h2 := by rw [ltS] at *; exact bef_ntrans h1 h2
theorem totS (x y : Sm) (h1 : ltOf cfS x y = false) (h2 : ltOf cfS y x = false) : x = y := by rw [ltS] at *; exact Subtype.ext (bef_tot h1 h2)

theorem alloc_grow (W : World) (o : Obj) : W.alloc o = Go.Sort.grow (W.drewN 0) #[o] := by
  have h : (W.drewN 0).heap ++ #[o] = W.heap.push o := by show W.heap ++ #[o] = _; simp
  unfold Go.Sort.grow
  rw [h]
  rfl
theorem cmpS (blk off size : Nat) (w : World) : CmpLays1 Try.prog 49 #[] encS cfS blk off size w := fun m os dk _ x y => by
  refine (bv_any x.2 y.2 _).mono ?_
  rintro e w' ⟨rfl, rfl⟩
  exact ⟨rfl, 0, _, alloc_grow _ _⟩

theorem strictB_ext : ∀ {a b : List Int}, a.Pairwise (fun x y => bef x y = true) → b.Pairwise (fun x y => bef x y = true) → (∀ x, x ∈ a ↔ x ∈ b) → a = b
  | [], [], _, _, _ => rfl
  | [], y :: b, _, _, h => by have := (h y).2 (by simp); cases this
  | x :: a, [], _, _, h => by have := (h x).1 (by simp); cases this
  | x :: a, y :: b, ha, hb, h => by
    rw [List.pairwise_cons] at ha hb
    have asym : ∀ {p q : Int}, bef p q = true → bef q p = true → False := fun h1 h2 => by
      have := bef_trans h1 h2; rw [bef_irr] at this; cases this
    have hxy : x = y := by
      rcases List.mem_cons.1 ((h x).1 (by simp)) with q | q
      · exact q
      · rcases List.mem_cons.1 ((h y).2 (by simp)) with p | p
        · exact p.symm
        · exact (asym (hb.1 x q) (ha.1 y p)).elim
    subst hxy
    rw [strictB_ext ha.2 hb.2 (fun z => ?_)]
    constructor
    · intro hz
      rcases List.mem_cons.1 ((h z).1 (by simp [hz])) with q | q
      · have := ha.1 z hz; rw [q, bef_irr] at this; cases this
      · exact q
    · intro hz
      rcases List.mem_cons.1 ((h z).2 (by simp [hz])) with q | q
      · have := hb.1 z hz; rw [q, bef_irr] at this; cases this
      · exact q

theorem insB_strict {out : List Int} {x : Int} (h : out.Pairwise (fun a b => bef a b = true)) : (insM out x).Pairwise (fun a b => bef a b = true) := by
  have hpl := posM_le x out
  unfold insM
  split
  · exact h
  · rename_i c
    have low : ∀ a ∈ out.take (posM x out), bef a x = true := by
      intro a ha
      obtain ⟨j, hj, rfl⟩ := List.getElem_of_mem ha
      rw [List.length_take] at hj
      have hbj := posM_bef x out j (by omega)
      have e1 : out.getD j 0 = out[j]'(by omega) := by simp [show j < out.length by omega]
      rw [List.getElem_take, ← e1]; exact hbj
    have high : ∀ a ∈ out.drop (posM x out), bef x a = true := by
      intro a ha
      obtain ⟨j, hj, rfl⟩ := List.getElem_of_mem ha
      rw [List.length_drop] at hj
      have hs := posM_stop x out (by omega)
      have hne : out.getD (posM x out) 0 ≠ x := fun e => c ⟨by omega, e⟩
      have h0 : bef x (out.getD (posM x out) 0) = true := by
        cases q : bef x (out.getD (posM x out) 0) with
        | true => rfl
        | false => exact absurd (bef_tot hs q) hne
      have e1 : out.getD (posM x out) 0 = out[posM x out]'(by omega) := by simp [show posM x out < out.length by omega]
      rw [e1] at h0
      rw [List.getElem_drop]
      cases j with
      | zero => exact h0
      | succ j =>
        have := List.pairwise_iff_getElem.1 h (posM x out) (posM x out + (j + 1)) (by omega) (by omega) (by omega)
        exact bef_trans h0 this
    rw [List.pairwise_append, List.pairwise_append]
    refine ⟨⟨h.sublist (List.take_sublist _ _), by simp, fun a ha b hb => ?_⟩, h.sublist (List.drop_sublist _ _), fun a ha b hb => ?_⟩
    · rw [List.mem_singleton] at hb; rw [hb]; exact low a ha
    · have hbx := high b hb
      rcases List.mem_append.1 ha with z | z
      · exact bef_trans (low a z) hbx
      · rw [List.mem_singleton] at z; rw [z]; exact hbx

theorem foldB_strict : ∀ (l out : List Int), out.Pairwise (fun a b => bef a b = true) → (l.foldl insM out).Pairwise (fun a b => bef a b = true)
  | [], _, h => h
  | x :: l, out, h => by rw [List.foldl_cons]; exact foldB_strict l _ (insB_strict h)
theorem sortedB (l : List Int) : (sortedM l).Pairwise (fun a b => bef a b = true) := foldB_strict l [] List.Pairwise.nil
theorem sortedM_has (l : List Int) (x : Int) : x ∈ sortedM l ↔ x ∈ l := by
  unfold sortedM
  rw [sorted_mem]
  simp
theorem sortedM_perm {l m : List Int} (h : l.Perm m) : sortedM l = sortedM m :=
  strictB_ext (sortedB l) (sortedB m) (fun x => by rw [sortedM_has, sortedM_has, h.mem_iff])

def toS (xs : List Int) (h : ∀ x ∈ xs, -60000 ≤ x ∧ x ≤ 60000) : List Sm := xs.pmap (fun x hx => ⟨x, hx⟩) h
theorem toS_map (xs : List Int) (h : ∀ x ∈ xs, -60000 ≤ x ∧ x ≤ 60000) : (toS xs h).map (·.1) = xs := by
  unfold toS
  rw [List.map_pmap]
  simp

theorem merge_sorted (ds : List Sm) (hn : (ds.map (·.1)).Nodup) : ((ds.mergeSort fun x y => !ltOf cfS y x).map (·.1)) = sortedM (ds.map (·.1)) := by
  have hp := List.mergeSort_perm ds (fun x y => !ltOf cfS y x)
  have hs := List.pairwise_mergeSort (le := fun x y : Sm => !ltOf cfS y x) (fun a b c h1 h2 => by
    simp only [Bool.not_eq_true'] at *
    exact swoS.ntrans c b a h2 h1) (fun a b => by
    cases q : ltOf cfS b a with
    | false => simp
    | true =>
      have : ltOf cfS a b = false := by
        cases q2 : ltOf cfS a b with
        | false => rfl
        | true => have := swoS.trans _ _ _ q q2; rw [swoS.irrefl] at this; cases this
      simp [this]) ds
  refine strictB_ext ?_ (sortedB _) (fun x => ?_)
  · have hnd : ((ds.mergeSort fun x y => !ltOf cfS y x).map (·.1)).Nodup := (hp.map (·.1)).nodup_iff.2 hn
    rw [List.nodup_iff_pairwise_ne, List.pairwise_map] at hnd
    rw [List.pairwise_map]
    refine (hs.and hnd).imp (fun {a b} h => ?_)
    have h1 : ltOf cfS b a = false := by simpa using h.1
    rw [ltS] at h1
    cases q : bef a.1 b.1 with
    | true => rfl
    | false => exact absurd (bef_tot q h1) h.2
  · rw [sortedM_has]
    exact (hp.map (·.1)).mem_iff

theorem sort_bv {base : Nat} {w : World} {v : Value} {xs : List Int} (H : Holds base w (locs (.row v 3 (ints xs)))) (hbase : base ≤ w.heap.size) (hsm : ∀ x ∈ xs, x.natAbs ≤ 200) (hn : (xs.map Int.natAbs).Nodup) (h6 : xs.length ≤ 60000) :
    Calls Try.prog 48 #[.slice (ad v) xs.length (cp v), .func (.func 49) #[] #[]] w fun e w' => e = .returned (.tuple #[]) ∧ Below base w w' ∧ Holds base w' (locs (.row (.slice (ad v) (sortedM xs).length (cp v)) 3 (ints (sortedM xs)))) ∧ (sortedM xs).length = xs.length := by
  have sl := H.sl (k := .loc 0) rfl
  rw [ints_length] at sl
  rcases Nat.eq_zero_or_pos xs.length with h0 | hp
  · obtain rfl := List.eq_nil_of_length_eq_zero h0
    have hS := AnyF.slices_SortFunc_none (P := Try.prog) (ρ := Try.sortL_ren) { Try.sortL with } (ad v) (cp v) (.func (.func 49) #[] #[]) w
    change Calls Try.prog 48 _ _ _ at hS
    refine hS.mono ?_
    rintro e w' ⟨rfl, rfl⟩
    refine ⟨rfl, Below.refl _ _, ?_, rfl⟩
    have e : Value.slice (ad v) (sortedM []).length (cp v) = v := sl.symm
    rw [e]; exact H
  · have hb : ∀ x ∈ xs, -60000 ≤ x ∧ x ≤ 60000 := fun x hx => by have := hsm x hx; omega
    have hnx : xs.Nodup := by
      rw [List.nodup_iff_pairwise_ne, List.pairwise_map] at hn
      rw [List.nodup_iff_pairwise_ne]
      exact hn.imp (fun h e => h (by rw [e]))
    have hm := toS_map xs hb
    have hlen : (toS xs hb).length = xs.length := by have := congrArg List.length hm; rwa [List.length_map] at this
    have ho : w.ownsRow 0 3 1 v (ints xs).length (ints xs) := H.owns (k := .loc 0) rfl
    rw [ints_length] at ho
    have hie : ints xs = (toS xs hb).map encS := by
      have : ints xs = ints ((toS xs hb).map (·.1)) := by rw [hm]
      rw [this]
      unfold ints
      rw [List.map_map]
      rfl
    rw [hie, ← hlen] at ho
    have hne : v ≠ .slice none 0 0 := by
      intro e
      have := H.ad_ (k := .loc 0) (t := 3) (xs := ints xs) rfl (by rw [ints_length]; exact hp)
      rw [e] at this; cases this
    have hbk := H.base (.loc 0) (gb v) (H.gb_ (k := .loc 0) (t := 3) (xs := ints xs) rfl (by rw [ints_length]; exact hp))
    obtain ⟨g, cap, hv, _, hg, hc, hmx, _, hh⟩ := Go.Lib.holds_of_ownsRow (enc := encS) (zs := toS xs hb) (by exact ho) hne
    have hgb : gb v = g := by rw [hv]; rfl
    rw [hgb] at hbk
    have eg : ∀ args w, (callFunc 49 args).run Try.prog w = .ok (.enter 49 args) w := enters_of Try.func49 (by kernel_rfl) rfl
    have hS := Any.slices_SortFunc_total Try.sortL encS (fun _ => rfl) cfS swoS 49 #[] g 0 cap (toS xs hb).toArray w eg (cmpS g 0 _ w) hh hg (by simp; omega) totS
    change Calls Try.prog 48 _ _ _ at hS
    have hms := merge_sorted (toS xs hb) (by rw [hm]; exact hnx)
    rw [hm] at hms
    have hsz : (toS xs hb).toArray.size = xs.length := by simp [hlen]
    have hav : ad v = some ⟨g, 0, none⟩ := by rw [hv]; rfl
    have hcv : cp v = cap := by rw [hv]; rfl
    rw [hsz] at hS
    rw [hav, hcv]
    refine hS.mono ?_
    rintro e w' ⟨rfl, n, os, rfl⟩
    unfold sortWorld
    have hls : ((toS xs hb).mergeSort fun x y => !ltOf cfS y x).length = xs.length := by rw [List.length_mergeSort, hlen]
    have hl9 : (sortedM xs).length = xs.length := by rw [← hms, List.length_map, hls]
    have o2 := Go.Lib.ownsRow_putRow (enc := encS) (q := n) (k := xs.length) (ys := (toS xs hb).mergeSort fun x y => !ltOf cfS y x) (by rw [← hv]; exact ho) (by rw [List.length_mergeSort]) (by omega)
    rw [List.take_of_length_le (by omega)] at o2
    have B1 := Go.Lib.below_putRow (enc := encS) (q := n) (d := ((toS xs hb).mergeSort fun x y => !ltOf cfS y x).toArray) (Below.refl base w) hbk
    have B2 := B1.grown (grownBy_grow _ os) (Nat.le_trans hbase B1.size) (fun b hb => by cases hb)
    have e2 : ((toS xs hb).mergeSort fun x y => !ltOf cfS y x).map encS = (sortedM xs).map (Value.int .i64) := by
      rw [← hms, List.map_map]; rfl
    rw [e2] at o2
    refine ⟨rfl, B2, ?_, hl9⟩
    rw [hl9]
    exact (holds_locs hbk o2 hl9.symm).grow (grownBy_grow _ os)
end Go.Proofs.Ytdllaphnkbnpoaa
namespace Go.Proofs.Ytdllaphnkbnpoaa
open Go.RowKit Go.Proofs

theorem sortBy : SortBy := fun {base w v xs} H hb hs hn => by
  have h6 : xs.length ≤ 60000 := by have := once_len (now := xs) ⟨hn, hs⟩; omega
  refine (sort_bv H hb hs hn h6).mono ?_
  rintro e w' ⟨rfl, B, H2, hl⟩
  exact ⟨rfl, B, cp v, rfl, rfl, H2, hl, fun ys hy => sortedM_perm hy⟩

theorem units_small (D : List (List Int)) (l : List Int) : (unitsM D l).1.length ≤ 9223372036854775807 := by
  unfold unitsM
  split
  · simp
  · split
    · simp
    · rename_i hr hq
      have hr : refM D = 0 := by simpa using hr
      have hq : l.all isLit = true := by simpa using hq
      obtain ⟨d6, dr, dl⟩ := refM_zero hr
      have ll := lit_small hq
      cases hp : propagateT D l with
      | none => simp
      | some now =>
        have ho := (prop_facts dl ll hp).2.2.1
        have hnl := once_len ho
        have hnd : (sortedM now).length = now.length := by
          have h1 : (sortedM now).Nodup := (sortedB now).imp (fun h e => by rw [e, bef_irr] at h; cases h)
          have h2 : now.Nodup := by
            have h3 := ho.1
            rw [List.nodup_iff_pairwise_ne, List.pairwise_map] at h3
            rw [List.nodup_iff_pairwise_ne]
            exact h3.imp (fun h e => h (by rw [e]))
          exact len_eq h1 h2 (fun x => sortedM_has now x)
        show (sortedM now).length ≤ _
        omega

set_option maxRecDepth 100000 in
set_option maxHeartbeats 4000000 in
theorem unitsLaw_any {w : World} {A A2 : Option Addr} {D : List (List Int)} {l : List Int} {c c2 : Nat} (h : LiesR w.heap.size w A D) (h2 : Lies w.heap.size w A2 l) (hn : D.length ≤ 9223372036854775807) (hm : ∀ e ∈ D, e.length ≤ 9223372036854775807) (hw : ∀ e ∈ D, ∀ x ∈ e, -9223372036854775808 ≤ x ∧ x ≤ 9223372036854775807)
    (hn2 : l.length ≤ 9223372036854775807) (hw2 : ∀ x ∈ l, -9223372036854775808 ≤ x ∧ x ≤ 9223372036854775807) :
    Calls Try.prog 8 #[.slice A D.length c, .slice A2 l.length c2] w fun e w' => e = .returned (.bool true) ∧ Below w.heap.size w w' := by
  have L1 := light_any (c := c) h hn
  by_cases hl4 : l.length ≤ 400
  · have q4 : ((l.length : Nat) : Int) ≤ 400 := by omega
    cases hl : lightM D with
    | true =>
      rw [hl] at L1
      have K1 : Hid (∀ W, Below w.heap.size w W → Calls Try.prog 26 #[.slice A D.length c, .slice A2 l.length c2] W (UnitsRes D l W)) := fun W B => pUnits_any sortBy ((h.below B).mono B.size) ((h2.below B).mono B.size) hn hm (by omega)
      have K2 : Hid (∀ W, Below w.heap.size w W → Calls Try.prog 27 #[.slice A D.length c, .slice A2 l.length c2] W (UnitsRes D l W)) := fun W B => rUnits_any ((h.below B).mono B.size) ((h2.below B).mono B.size) hn hm hw (by omega) hw2
      have K3 : Hid (∀ W, Below w.heap.size w W → Calls Try.prog 28 #[.slice A D.length c, .slice A2 l.length c2] W fun e w' => e = .returned (.tuple #[.bool (satisfiesM D l).1, .int .i64 (satisfiesM D l).2]) ∧ Below W.heap.size W w') := fun W B => pSat_any ((h.below B).mono B.size) ((h2.below B).mono B.size) hn hm (by omega)
      have K4 : Hid (∀ W, Below w.heap.size w W → Calls Try.prog 15 #[.slice A D.length c, .slice A2 l.length c2] W fun e w' => e = .returned (.tuple #[.bool (satisfiesM D l).1, .int .i64 (satisfiesM D l).2]) ∧ Below W.heap.size W w') := fun W B => satisfies_any ((h.below B).mono B.size) ((h2.below B).mono B.size) hn hm hw (by omega) hw2
      have K5 : Hid (∀ W, Below w.heap.size w W → Calls Try.prog 29 #[.slice A D.length c] W fun e w' => e = .returned (.int .i64 (refM D)) ∧ Below W.heap.size W w') := fun W B => by
        rw [refM_eq]
        exact Check_any ((h.below B).mono B.size) (Nat.le_refl _) hn (fun j hj => hm _ (row_ne D [] hj))
      have K6 : Hid (∀ W, Below w.heap.size w W → Calls Try.prog 10 #[.slice A D.length c] W fun e w' => e = .returned (.int .i64 (refM D)) ∧ w' = W) := fun W B => refCheck_any ((h.below B).mono B.size) hn hm hw
      have hu : (unitsM D l).1.length ≤ 9223372036854775807 := units_small D l
      unfold UnitsRes at K1 K2
      generalize unitsM D l = u at *
      obtain ⟨u1, u2, u3⟩ := u
      generalize satisfiesM D l = s at *
      obtain ⟨s1, s2⟩ := s
      generalize refM D = r at *
      simp only at K1 K2 K3 K4 hu
      clear h h2 hm hw hw2 hl
      go_enter Try.func8, Try.ntmps8
      go_wp2_with fail
      refine L1.mono ?_
      rintro e w' ⟨rfl, rfl⟩
      have k1 := K1.out w' (Below.refl _ _)
      clear L1 K1
      go_wp2_with fail
      refine k1.mono ?_
      rintro e w1 ⟨B1, A3, c3, rfl, L3⟩
      have B1h : Hid (Below w'.heap.size w' w1) := B1
      have L3h : Hid (Lies w1.heap.size w1 A3 u1) := L3
      have k2 := K2.out w1 B1
      clear k1 B1 L3 K2
      go_wp2_with fail
      refine k2.mono ?_
      rintro e w2 ⟨B2, A4, c4, rfl, L4⟩
      have B12 : Hid (Below w1.heap.size w1 w2) := B2
      have B2h : Hid (Below w'.heap.size w' w2) := B1h.out.trans (B2.mono B1h.out.size)
      have L4h : Hid (Lies w2.heap.size w2 A4 u1) := L4
      have k3 := K3.out w2 B2h.out
      clear k2 B2 L4 K3
      go_wp2_with fail
      refine k3.mono ?_
      rintro e w3 ⟨rfl, B3⟩
      have B23 : Hid (Below w2.heap.size w2 w3) := B3
      have B3h : Hid (Below w'.heap.size w' w3) := B2h.out.trans (B3.mono B2h.out.size)
      have k4 := K4.out w3 B3h.out
      clear k3 B3 K4
      go_wp2_with fail
      refine k4.mono ?_
      rintro e w4 ⟨rfl, B4⟩
      have B24 : Hid (Below w2.heap.size w2 w4) := B23.out.trans (B4.mono B23.out.size)
      have B4h : Hid (Below w'.heap.size w' w4) := B3h.out.trans (B4.mono B3h.out.size)
      have k5 := K5.out w4 B4h.out
      clear k4 B4 K5
      go_wp2_with fail
      refine k5.mono ?_
      rintro e w5 ⟨rfl, B5⟩
      have B25 : Hid (Below w2.heap.size w2 w5) := B24.out.trans (B5.mono B24.out.size)
      have B5h : Hid (Below w'.heap.size w' w5) := B4h.out.trans (B5.mono B4h.out.size)
      have k6 := K6.out w5 B5h.out
      have B15 : Hid (Below w1.heap.size w1 w5) := B12.out.trans (B25.out.mono B12.out.size)
      have nu := numbers_any (w := w5) (c := c3) (d := c4) (Lies.mono (Lies.below L3h.out B15.out) B15.out.size) (Lies.mono (Lies.below L4h.out B25.out) B25.out.size) hu hu
      rw [show numbersM u1 u1 = true from decide_eq_true rfl] at nu
      clear k5 B5 K6
      go_wp2_with fail
      refine k6.mono ?_
      rintro e w6 ⟨rfl, rfl⟩
      clear k6
      go_wp2_with fail
      refine nu.mono ?_
      rintro e w7 ⟨rfl, B7⟩
      have B7h : Hid _ := B5h.out.trans (B7.mono B5h.out.size)
      clear nu B7
      go_wp2_with fail
      refine (sane_any _).mono ?_
      rintro e w2 ⟨rfl, B2⟩
      have BE : Hid _ := B7h.out.trans (B2.mono B7h.out.size)
      clear B2
      go_wp2_with fail
      go_ret
      exact ⟨rfl, BE.out⟩
    | false =>
      rw [hl] at L1
      by_cases h6 : D.length ≤ 600
      · have q6 : ((D.length : Nat) : Int) ≤ 600 := by omega
        clear h h2 hm hw hw2 hl
        go_enter Try.func8, Try.ntmps8
        go_wp2_with fail
        refine L1.mono ?_
        rintro e w' ⟨rfl, rfl⟩
        clear L1
        go_wp2_with fail
        refine (sane_any _).mono ?_
        rintro e w2 ⟨rfl, B2⟩
        have BE : Hid _ := B2
        clear B2
        go_wp2_with fail
        go_ret
        exact ⟨rfl, BE.out⟩
      · have q6 : (600 : Int) < ((D.length : Nat) : Int) := by omega
        have K1 : Hid (∀ W, Below w.heap.size w W → Calls Try.prog 26 #[.slice A D.length c, .slice A2 l.length c2] W (UnitsRes D l W)) := fun W B => pUnits_any sortBy ((h.below B).mono B.size) ((h2.below B).mono B.size) hn hm (by omega)
        have K2 : Hid (∀ W, Below w.heap.size w W → Calls Try.prog 27 #[.slice A D.length c, .slice A2 l.length c2] W (UnitsRes D l W)) := fun W B => rUnits_any ((h.below B).mono B.size) ((h2.below B).mono B.size) hn hm hw (by omega) hw2
        have K3 : Hid (∀ W, Below w.heap.size w W → Calls Try.prog 28 #[.slice A D.length c, .slice A2 l.length c2] W fun e w' => e = .returned (.tuple #[.bool (satisfiesM D l).1, .int .i64 (satisfiesM D l).2]) ∧ Below W.heap.size W w') := fun W B => pSat_any ((h.below B).mono B.size) ((h2.below B).mono B.size) hn hm (by omega)
        have K4 : Hid (∀ W, Below w.heap.size w W → Calls Try.prog 15 #[.slice A D.length c, .slice A2 l.length c2] W fun e w' => e = .returned (.tuple #[.bool (satisfiesM D l).1, .int .i64 (satisfiesM D l).2]) ∧ Below W.heap.size W w') := fun W B => satisfies_any ((h.below B).mono B.size) ((h2.below B).mono B.size) hn hm hw (by omega) hw2
        have K5 : Hid (∀ W, Below w.heap.size w W → Calls Try.prog 29 #[.slice A D.length c] W fun e w' => e = .returned (.int .i64 (refM D)) ∧ Below W.heap.size W w') := fun W B => by
          rw [refM_eq]
          exact Check_any ((h.below B).mono B.size) (Nat.le_refl _) hn (fun j hj => hm _ (row_ne D [] hj))
        have K6 : Hid (∀ W, Below w.heap.size w W → Calls Try.prog 10 #[.slice A D.length c] W fun e w' => e = .returned (.int .i64 (refM D)) ∧ w' = W) := fun W B => refCheck_any ((h.below B).mono B.size) hn hm hw
        have hu : (unitsM D l).1.length ≤ 9223372036854775807 := units_small D l
        unfold UnitsRes at K1 K2
        generalize unitsM D l = u at *
        obtain ⟨u1, u2, u3⟩ := u
        generalize satisfiesM D l = s at *
        obtain ⟨s1, s2⟩ := s
        generalize refM D = r at *
        simp only at K1 K2 K3 K4 hu
        clear h h2 hm hw hw2 hl
        go_enter Try.func8, Try.ntmps8
        go_wp2_with fail
        refine L1.mono ?_
        rintro e w' ⟨rfl, rfl⟩
        have k1 := K1.out w' (Below.refl _ _)
        clear L1 K1
        go_wp2_with fail
        refine k1.mono ?_
        rintro e w1 ⟨B1, A3, c3, rfl, L3⟩
        have B1h : Hid (Below w'.heap.size w' w1) := B1
        have L3h : Hid (Lies w1.heap.size w1 A3 u1) := L3
        have k2 := K2.out w1 B1
        clear k1 B1 L3 K2
        go_wp2_with fail
        refine k2.mono ?_
        rintro e w2 ⟨B2, A4, c4, rfl, L4⟩
        have B12 : Hid (Below w1.heap.size w1 w2) := B2
        have B2h : Hid (Below w'.heap.size w' w2) := B1h.out.trans (B2.mono B1h.out.size)
        have L4h : Hid (Lies w2.heap.size w2 A4 u1) := L4
        have k3 := K3.out w2 B2h.out
        clear k2 B2 L4 K3
        go_wp2_with fail
        refine k3.mono ?_
        rintro e w3 ⟨rfl, B3⟩
        have B23 : Hid (Below w2.heap.size w2 w3) := B3
        have B3h : Hid (Below w'.heap.size w' w3) := B2h.out.trans (B3.mono B2h.out.size)
        have k4 := K4.out w3 B3h.out
        clear k3 B3 K4
        go_wp2_with fail
        refine k4.mono ?_
        rintro e w4 ⟨rfl, B4⟩
        have B24 : Hid (Below w2.heap.size w2 w4) := B23.out.trans (B4.mono B23.out.size)
        have B4h : Hid (Below w'.heap.size w' w4) := B3h.out.trans (B4.mono B3h.out.size)
        have k5 := K5.out w4 B4h.out
        clear k4 B4 K5
        go_wp2_with fail
        refine k5.mono ?_
        rintro e w5 ⟨rfl, B5⟩
        have B25 : Hid (Below w2.heap.size w2 w5) := B24.out.trans (B5.mono B24.out.size)
        have B5h : Hid (Below w'.heap.size w' w5) := B4h.out.trans (B5.mono B4h.out.size)
        have k6 := K6.out w5 B5h.out
        have B15 : Hid (Below w1.heap.size w1 w5) := B12.out.trans (B25.out.mono B12.out.size)
        have nu := numbers_any (w := w5) (c := c3) (d := c4) (Lies.mono (Lies.below L3h.out B15.out) B15.out.size) (Lies.mono (Lies.below L4h.out B25.out) B25.out.size) hu hu
        rw [show numbersM u1 u1 = true from decide_eq_true rfl] at nu
        clear k5 B5 K6
        go_wp2_with fail
        refine k6.mono ?_
        rintro e w6 ⟨rfl, rfl⟩
        clear k6
        go_wp2_with fail
        refine nu.mono ?_
        rintro e w7 ⟨rfl, B7⟩
        have B7h : Hid _ := B5h.out.trans (B7.mono B5h.out.size)
        clear nu B7
        go_wp2_with fail
        refine (sane_any _).mono ?_
        rintro e w2 ⟨rfl, B2⟩
        have BE : Hid _ := B7h.out.trans (B2.mono B7h.out.size)
        clear B2
        go_wp2_with fail
        go_ret
        exact ⟨rfl, BE.out⟩
  · have q4 : (400 : Int) < ((l.length : Nat) : Int) := by omega
    clear hl4
    cases hl : lightM D with
    | true =>
      rw [hl] at L1
      clear h h2 hm hw hw2 hl
      go_enter Try.func8, Try.ntmps8
      go_wp2_with fail
      refine L1.mono ?_
      rintro e w' ⟨rfl, rfl⟩
      clear L1
      go_wp2_with fail
      refine (sane_any _).mono ?_
      rintro e w2 ⟨rfl, B2⟩
      have BE : Hid _ := B2
      clear B2
      go_wp2_with fail
      go_ret
      exact ⟨rfl, BE.out⟩
    | false =>
      rw [hl] at L1
      by_cases h6 : D.length ≤ 600
      · have q6 : ((D.length : Nat) : Int) ≤ 600 := by omega
        clear h h2 hm hw hw2 hl
        go_enter Try.func8, Try.ntmps8
        go_wp2_with fail
        refine L1.mono ?_
        rintro e w' ⟨rfl, rfl⟩
        clear L1
        go_wp2_with fail
        refine (sane_any _).mono ?_
        rintro e w2 ⟨rfl, B2⟩
        have BE : Hid _ := B2
        clear B2
        go_wp2_with fail
        go_ret
        exact ⟨rfl, BE.out⟩
      · have q6 : (600 : Int) < ((D.length : Nat) : Int) := by omega
        clear h h2 hm hw hw2 hl
        go_enter Try.func8, Try.ntmps8
        go_wp2_with fail
        refine L1.mono ?_
        rintro e w' ⟨rfl, rfl⟩
        clear L1
        go_wp2_with fail
        refine (sane_any _).mono ?_
        rintro e w2 ⟨rfl, B2⟩
        have BE : Hid _ := B2
        clear B2
        go_wp2_with fail
        go_ret
        exact ⟨rfl, BE.out⟩
end Go.Proofs.Ytdllaphnkbnpoaa
