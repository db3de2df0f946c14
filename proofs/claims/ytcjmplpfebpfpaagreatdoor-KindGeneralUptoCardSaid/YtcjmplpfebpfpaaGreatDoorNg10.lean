/- Part 10 of what the law's row leans on (Ng): the print's words and functions, cut to what is reached, and own texts. -/
import Derived.Test.YtcjmplpfebpfpaaGreatDoorRows
import Derived.ChangeSame
import Derived.OpenShut
import Derived.Deep.Slices
import Derived.ChangeAt
import Derived.Test.YtcjmplpfebpfpaaGreatDoorNg9
namespace Go.Proofs.YtcjmplpfebpfpaaGreatDoor.PKindInstances
open Go.RowKit Go.Proofs.YtcjmplpfebpfpaaGreatDoorW.PrintWords Go.Proofs.YtcjmplpfebpfpaaGreatDoorW.PrintLast Go.Proofs.YtcjmplpfebpfpaaGreatDoorW.PrintMore
attribute [local go_sem] max2_int min2_int max_two min_two max_three min_three max_four min_four   -- for this text's walks alone
set_option linter.unusedVariables false
set_option linter.unusedSimpArgs false

mutual
def plinthref03_Names.j0 : Nat → List ByteArray → Bool → Int → Int → ByteArray → List (S24) → Option (List ByteArray)
  | 0, _, _, _, _, _, _ => none
  | k + 1, x3, x14, x385000, x385001, x385002, x385003 => if x14 = true then (plinthref03_Names.j1 k (([x385002] : List ByteArray)) x385000 x385001 x385002 x385003) else (plinthref03_Names.j1 k x3 x385000 x385001 x385002 x385003)
def plinthref03_Names.j1 : Nat → List ByteArray → Int → Int → ByteArray → List (S24) → Option (List ByteArray)
  | 0, _, _, _, _, _ => none
  | k + 1, x3, x385000, x385001, x385002, x385003 => plinthref03_Names.l0 k x3 0 x385000 x385001 x385002 x385003
def plinthref03_Names.l0 : Nat → List ByteArray → Int → Int → Int → ByteArray → List (S24) → Option (List ByteArray)
  | 0, _, _, _, _, _, _ => none
  | k + 1, x3, x4, x385000, x385001, x385002, x385003 => if x385000 = 3 then (plinthref03_Names.j3 k x3 x4 (decide (x4 < (x385003.length : Int))) x385000 x385001 x385002 x385003) else (plinthref03_Names.j3 k x3 x4 false x385000 x385001 x385002 x385003)
def plinthref03_Names.j3 : Nat → List ByteArray → Int → Bool → Int → Int → ByteArray → List (S24) → Option (List ByteArray)
  | 0, _, _, _, _, _, _, _ => none
  | k + 1, x3, x4, x27, x385000, x385001, x385002, x385003 => if x27 = true then (if 0 ≤ x4 then (if x4 < (x385003.length : Int) then ((plinthref03_Names.f k ((rd_T24 x385003 x4).f0) ((rd_T24 x385003 x4).f1) ((rd_T24 x385003 x4).f2) ((rd_T24 x385003 x4).f3)).bind fun t391 => (plinthref03_Names.l1 k x3 x4 t391 0 x385000 x385001 x385002 x385003)) else (none)) else (none)) else (some x3)
def plinthref03_Names.l1 : Nat → List ByteArray → Int → List ByteArray → Int → Int → Int → ByteArray → List (S24) → Option (List ByteArray)
  | 0, _, _, _, _, _, _, _, _ => none
  | k + 1, x3, x4, x5, x6, x385000, x385001, x385002, x385003 => if x6 < (x5.length : Int) then (if 0 ≤ x6 then ((plinthref03_put.f k x3 (rdOf ByteArray.empty x5 x6)).bind fun t395 => (plinthref03_Names.l1 k t395 x4 x5 (wrap64 (x6 + 1)) x385000 x385001 x385002 x385003)) else (none)) else (plinthref03_Names.l0 k x3 (wrap64 (x4 + 1)) x385000 x385001 x385002 x385003)
def plinthref03_Names.f : Nat → Int → Int → ByteArray → List (S24) → Option (List ByteArray)
  | 0, _, _, _, _ => none
  | k + 1, a0_0, a0_1, a0_2, l0_3 => (plinthref03_isWord.f a0_0 a0_1 a0_2 l0_3).bind fun t385 => (if t385 = true then ((plinthref03_Reserved.f k a0_2).bind fun t386 => (plinthref03_Names.j0 k ([] : List ByteArray) (!t386) a0_0 a0_1 a0_2 l0_3)) else (plinthref03_Names.j0 k ([] : List ByteArray) false a0_0 a0_1 a0_2 l0_3))
end
set_option maxHeartbeats 8000000 in
set_option maxRecDepth 100000 in
theorem plinthref03_Names.calls (k : Nat) : ∀ (a0_0 : Int) (a0_1 : Int) (a0_2 : ByteArray) (A0_3 : Option Addr) (c0_3 : Nat) (l0_3 : List (S24)) (r : List ByteArray) (w : World) (hr0_3 : Kd.C k24 w A0_3 l0_3.length l0_3) (hc0_3 : l0_3.length ≤ c0_3) (h : plinthref03_Names.f k a0_0 a0_1 a0_2 l0_3 = some r),
    Calls Tryz.prog 25 #[.agg #[.int .i64 a0_0, .int .i64 a0_1, .string a0_2, .slice A0_3 l0_3.length c0_3]] w fun e w' => ∃ v0_ : Value, e = .returned (v0_) ∧ Kd.R Kd.string 9 w' w.heap.size (fun _ => True) v0_ r ∧ Below w.heap.size w w' := by
  induction k using Nat.strongRecOn with
  | _ k ih =>
  intro a0_0 a0_1 a0_2 A0_3 c0_3 l0_3 r w hr0_3 hc0_3 h
  cases k with
  | zero => exact absurd h (by simp [plinthref03_Names.f])
  | succ k =>
  simp only [plinthref03_Names.f] at h
  have hu24 := Tryz.underlying24
  have HR0_3 := Aside0.mk hr0_3
  have HC0_3 := Aside0.mk hc0_3
  clear hr0_3 hc0_3
  have HB := Aside0.mk (Below.refl w.heap.size w)
  have H : ((plinthref03_isWord.f a0_0 a0_1 a0_2 l0_3).bind fun t385 => (if t385 = true then ((plinthref03_Reserved.f k a0_2).bind fun t386 => (plinthref03_Names.j0 k ([] : List ByteArray) (!t386) a0_0 a0_1 a0_2 l0_3)) else (plinthref03_Names.j0 k ([] : List ByteArray) false a0_0 a0_1 a0_2 l0_3))) = some r := h
  clear h
  have HC2 := Aside0.mk H
  clear H
  go_enter Tryz.func25, Tryz.ntmps25
  go_upto_region 2 with (first | ((with_reducible refine gate_dst (N := 1) rfl ?_); (try (refine gate_guard (by rfl) ?_; dsimp only)); refine box_event ?hg (N := 1) ?hd (cs := #[.int .i64 a0_0, .int .i64 a0_1, .string a0_2, .slice A0_3 l0_3.length c0_3]) (t := 24) ?hr ?_; (case hd => rfl); (case hg => rfl); (case hr => first | (go_simp; done) | (go_simp; rfl)); intro gb384 hg w3 hbox hb; have n0_ := Aside0.mk (below_step (by repeat (first | (with_reducible first | exact HB.out | apply below_alloc | apply pw_below_drewN | apply below_drew1) | exact HB.out)) hb); have n1_ := Aside0.mk (hbox); have n2_ := Aside0.mk ((by rw [hg]; exact (below_size (by repeat (first | (with_reducible first | exact HB.out | apply below_alloc | apply pw_below_drewN | apply below_drew1) | exact HB.out))) : w.heap.size ≤ gb384)); have n3_ := Aside0.mk ((by rw [hg]; exact (below_size (by repeat (first | (with_reducible first | exact HB.out | apply below_alloc | apply pw_below_drewN | apply below_drew1) | exact HB.out))) : w.heap.size ≤ gb384)); clear HB; have HB := n0_; have BK384 := n1_; have GW384 := n2_; have GE384 := n3_; clear n0_ n1_ n2_ n3_; clear hb hbox hg))
  (try simp only [Act.put, List.setIfInBounds_toArray, List.set_cons_zero, List.set_cons_succ])
  go_cut [14] (fun v14 wc => ∃ (kq : Nat) (x14_1 : Bool), v14 = .bool x14_1 ∧ Aside0 (plinthref03_Names.j0 kq ([] : List ByteArray) x14_1 a0_0 a0_1 a0_2 l0_3 = some r) ∧ Aside0 (kq ≤ k) ∧ Aside0 (Kd.R Kd.string 9 wc w.heap.size (fun _ => True) (.slice none 0 0) ([] : List ByteArray)) ∧ Aside0 (wc.heap[gb384]? = some (.cells #[.int .i64 a0_0, .int .i64 a0_1, .string a0_2, (.slice A0_3 l0_3.length c0_3)] 24 (0, 0))) ∧ Aside0 (Below w.heap.size w wc))
  case first =>
    have H := HC2.out
    clear HC2
    replace H := Option.bind_eq_some_iff.mp H
    obtain ⟨t385, A40, H⟩ := H
    replace H : (if t385 = true then ((plinthref03_Reserved.f k a0_2).bind fun t386 => (plinthref03_Names.j0 k ([] : List ByteArray) (!t386) a0_0 a0_1 a0_2 l0_3)) else (plinthref03_Names.j0 k ([] : List ByteArray) false a0_0 a0_1 a0_2 l0_3)) = some r := H
    have A4 := Aside0.mk A40
    clear A40
    by_cases c5 : t385 = true
    · subst c5
      have H1 : ((plinthref03_Reserved.f k a0_2).bind fun t386 => (plinthref03_Names.j0 k ([] : List ByteArray) (!t386) a0_0 a0_1 a0_2 l0_3)) = some r := by rw [if_pos rfl] at H; exact H
      clear H
      have H := H1
      clear H1
      replace H := Option.bind_eq_some_iff.mp H
      obtain ⟨t386, A60, H⟩ := H
      replace H : (plinthref03_Names.j0 k ([] : List ByteArray) (!t386) a0_0 a0_1 a0_2 l0_3) = some r := H
      have A6 := Aside0.mk A60
      clear A60
      have H' := Aside0.mk H
      clear H
      have hcz7_0 : w3.cell? ⟨gb384, 0, none⟩ = some (.int .i64 a0_0) := (blk_cell BK384.out 0).trans rfl
      have hcz7_1 : w3.cell? ⟨gb384, 1, none⟩ = some (.int .i64 a0_1) := (blk_cell BK384.out 1).trans rfl
      have hcz7_2 : w3.cell? ⟨gb384, 2, none⟩ = some (.string a0_2) := (blk_cell BK384.out 2).trans rfl
      have hcz7_3 : w3.cell? ⟨gb384, 3, none⟩ = some (.slice A0_3 l0_3.length c0_3) := (blk_cell BK384.out 3).trans rfl
      have hfz7_0 := blk_frozen BK384.out 0
      have hfz7_1 := blk_frozen BK384.out 1
      have hfz7_2 := blk_frozen BK384.out 2
      have hfz7_3 := blk_frozen BK384.out 3
      go_wp2_with (first | ((with_reducible refine gate_callee (f := 61) rfl ?_); refine goesL_ (some 8) rfl rfl Tryz.func61 (by kernel_rfl) rfl #[.agg #[.int .i64 a0_0, .int .i64 a0_1, .string a0_2, .slice A0_3 l0_3.length c0_3]] rfl (by (try simp only [List.map_toArray, List.map_cons, List.map_nil]); first | done | rfl | (simp only [List.length_drop, List.length_take]; rfl)) ?_; (with_reducible refine (plinthref03_isWord.calls a0_0 a0_1 a0_2 _ _ l0_3 true _ ?side1 ?side2 A4.out).mono ?_); (case side1 => repeat (first | exact (Kd.C_below HR0_3.out HB.out) | (with_reducible refine Kd.C_alloc ?_ _) | (with_reducible refine Kd.C_drewN ?_ _) | (with_reducible refine Kd.C_drew ?_))); (case side2 => exact HC0_3.out); rintro e w8 ⟨rfl, hb⟩; refine ⟨_, rfl, ?_⟩; have n0_ := Aside0.mk (blk_below (g := gb384) (o := .cells #[.int .i64 a0_0, .int .i64 a0_1, .string a0_2, .slice A0_3 l0_3.length c0_3] 24 (0, 0)) (by (with_reducible repeat (first | refine blk_drewN ?_ _ | refine blk_drew ?_ | refine blk_alloc ?_ _)); exact BK384.out) hb); have n1_ := Aside0.mk (below_step (by repeat (first | (with_reducible first | exact HB.out | apply below_alloc | apply pw_below_drewN | apply below_drew1 | refine below_set ?_ GE384.out) | exact HB.out)) hb); clear BK384; clear HB; have BK384 := n0_; have HB := n1_; clear n0_ n1_; (try clear hb); (try clear hb2); (try clear hk); (try clear hi); have hcz9_0 : w8.cell? ⟨gb384, 0, none⟩ = some (.int .i64 a0_0) := (blk_cell BK384.out 0).trans rfl; have hcz9_1 : w8.cell? ⟨gb384, 1, none⟩ = some (.int .i64 a0_1) := (blk_cell BK384.out 1).trans rfl; have hcz9_2 : w8.cell? ⟨gb384, 2, none⟩ = some (.string a0_2) := (blk_cell BK384.out 2).trans rfl; have hcz9_3 : w8.cell? ⟨gb384, 3, none⟩ = some (.slice A0_3 l0_3.length c0_3) := (blk_cell BK384.out 3).trans rfl; have hfz9_0 := blk_frozen BK384.out 0; have hfz9_1 := blk_frozen BK384.out 1; have hfz9_2 := blk_frozen BK384.out 2; have hfz9_3 := blk_frozen BK384.out 3) | (go_at_call 62; (with_reducible refine (plinthref03_Reserved.calls k a0_2 t386 _ A6.out).mono ?_); rintro e w10 ⟨rfl, hb⟩; have n0_ := Aside0.mk (blk_below (g := gb384) (o := .cells #[.int .i64 a0_0, .int .i64 a0_1, .string a0_2, .slice A0_3 l0_3.length c0_3] 24 (0, 0)) (by (with_reducible repeat (first | refine blk_drewN ?_ _ | refine blk_drew ?_ | refine blk_alloc ?_ _)); exact BK384.out) hb); have n1_ := Aside0.mk (below_step (by repeat (first | (with_reducible first | exact HB.out | apply below_alloc | apply pw_below_drewN | apply below_drew1 | refine below_set ?_ GE384.out) | exact HB.out)) hb); clear BK384; clear HB; have BK384 := n0_; have HB := n1_; clear n0_ n1_; (try clear hb); (try clear hb2); (try clear hk); (try clear hi)))
      go_meet
      case rel => exact ⟨_, (!t386), (by first | rfl | (simp; done) | (simp [*]; done)), H', ⟨by first | omega | exact Nat.le_refl _⟩, ⟨by first | exact Kd.R_nil _ _ _ _ _ | exact Kd.N_nil _ _ _ _ _ | exact Kd.V_nil _ _ _ _ _ | exact Kd.Q_nil _ _ _ _ _ | exact Kd.S_nil _ _ _ _ _⟩, ⟨by (with_reducible repeat (first | refine blk_drewN ?_ _ | refine blk_drew ?_ | refine blk_alloc ?_ _)); exact BK384.out⟩, ⟨by repeat (first | (with_reducible first | exact HB.out | apply below_alloc | apply pw_below_drewN | apply below_drew1 | refine below_set ?_ GE384.out) | exact HB.out)⟩⟩
    · replace c5 := Bool.eq_false_iff.mpr c5
      subst c5
      have H1 : (plinthref03_Names.j0 k ([] : List ByteArray) false a0_0 a0_1 a0_2 l0_3) = some r := by rw [if_neg (show ¬ (false = true) by decide)] at H; exact H
      clear H
      have H := H1
      clear H1
      have H' := Aside0.mk H
      clear H
      have hcz11_0 : w3.cell? ⟨gb384, 0, none⟩ = some (.int .i64 a0_0) := (blk_cell BK384.out 0).trans rfl
      have hcz11_1 : w3.cell? ⟨gb384, 1, none⟩ = some (.int .i64 a0_1) := (blk_cell BK384.out 1).trans rfl
      have hcz11_2 : w3.cell? ⟨gb384, 2, none⟩ = some (.string a0_2) := (blk_cell BK384.out 2).trans rfl
      have hcz11_3 : w3.cell? ⟨gb384, 3, none⟩ = some (.slice A0_3 l0_3.length c0_3) := (blk_cell BK384.out 3).trans rfl
      have hfz11_0 := blk_frozen BK384.out 0
      have hfz11_1 := blk_frozen BK384.out 1
      have hfz11_2 := blk_frozen BK384.out 2
      have hfz11_3 := blk_frozen BK384.out 3
      go_wp2_with (first | ((with_reducible refine gate_callee (f := 61) rfl ?_); refine goesL_ (some 8) rfl rfl Tryz.func61 (by kernel_rfl) rfl #[.agg #[.int .i64 a0_0, .int .i64 a0_1, .string a0_2, .slice A0_3 l0_3.length c0_3]] rfl (by (try simp only [List.map_toArray, List.map_cons, List.map_nil]); first | done | rfl | (simp only [List.length_drop, List.length_take]; rfl)) ?_; (with_reducible refine (plinthref03_isWord.calls a0_0 a0_1 a0_2 _ _ l0_3 false _ ?side1 ?side2 A4.out).mono ?_); (case side1 => repeat (first | exact (Kd.C_below HR0_3.out HB.out) | (with_reducible refine Kd.C_alloc ?_ _) | (with_reducible refine Kd.C_drewN ?_ _) | (with_reducible refine Kd.C_drew ?_))); (case side2 => exact HC0_3.out); rintro e w12 ⟨rfl, hb⟩; refine ⟨_, rfl, ?_⟩; have n0_ := Aside0.mk (blk_below (g := gb384) (o := .cells #[.int .i64 a0_0, .int .i64 a0_1, .string a0_2, .slice A0_3 l0_3.length c0_3] 24 (0, 0)) (by (with_reducible repeat (first | refine blk_drewN ?_ _ | refine blk_drew ?_ | refine blk_alloc ?_ _)); exact BK384.out) hb); have n1_ := Aside0.mk (below_step (by repeat (first | (with_reducible first | exact HB.out | apply below_alloc | apply pw_below_drewN | apply below_drew1 | refine below_set ?_ GE384.out) | exact HB.out)) hb); clear BK384; clear HB; have BK384 := n0_; have HB := n1_; clear n0_ n1_; (try clear hb); (try clear hb2); (try clear hk); (try clear hi)))
      go_meet
      case rel => exact ⟨_, (false), (by first | rfl | (simp; done) | (simp [*]; done)), H', ⟨by first | omega | exact Nat.le_refl _⟩, ⟨by first | exact Kd.R_nil _ _ _ _ _ | exact Kd.N_nil _ _ _ _ _ | exact Kd.V_nil _ _ _ _ _ | exact Kd.Q_nil _ _ _ _ _ | exact Kd.S_nil _ _ _ _ _⟩, ⟨by (with_reducible repeat (first | refine blk_drewN ?_ _ | refine blk_drew ?_ | refine blk_alloc ?_ _)); exact BK384.out⟩, ⟨by repeat (first | (with_reducible first | exact HB.out | apply below_alloc | apply pw_below_drewN | apply below_drew1 | refine below_set ?_ GE384.out) | exact HB.out)⟩⟩
  case rest =>
    clear HC2
    try clear c2
    try clear p2
    try clear c5
    try clear c6
    try clear hcz11_0
    try clear hcz11_1
    try clear hcz11_2
    try clear hcz11_3
    try clear hcz7_0
    try clear hcz7_1
    try clear hcz7_2
    try clear hcz7_3
    try clear hcz9_0
    try clear hcz9_1
    try clear hcz9_2
    try clear hcz9_3
    try clear hfz11_0
    try clear hfz11_1
    try clear hfz11_2
    try clear hfz11_3
    try clear hfz7_0
    try clear hfz7_1
    try clear hfz7_2
    try clear hfz7_3
    try clear hfz9_0
    try clear hfz9_1
    try clear hfz9_2
    try clear hfz9_3
    obtain ⟨kq, x14_1, rfl, HA, HJ1, HO_3, BK384, HB⟩ := hcut
    cases kq with
    | zero => exact absurd HA.out (by simp [plinthref03_Names.j0])
    | succ kj1 =>
      have H := HA.out
      clear HA
      simp only [plinthref03_Names.j0] at H
      have HC13 := Aside0.mk H
      clear H
      go_upto_if 14 with (fail)
      go_cut [3] (fun v3 wc => ∃ (kq : Nat) (x3_12 : List ByteArray), Aside0 (plinthref03_Names.j1 kq x3_12 a0_0 a0_1 a0_2 l0_3 = some r) ∧ Aside0 (kq ≤ kj1) ∧ Aside0 (Kd.R Kd.string 9 wc w.heap.size (fun _ => True) v3 x3_12) ∧ Aside0 (wc.heap[gb384]? = some (.cells #[.int .i64 a0_0, .int .i64 a0_1, .string a0_2, (.slice A0_3 l0_3.length c0_3)] 24 (0, 0))) ∧ Aside0 (Below w.heap.size w wc))
      case first =>
        have H := HC13.out
        clear HC13
        by_cases c14 : x14_1 = true
        · subst c14
          have H1 : (plinthref03_Names.j1 kj1 (([a0_2] : List ByteArray)) a0_0 a0_1 a0_2 l0_3) = some r := by rw [if_pos rfl] at H; exact H
          clear H
          have H := H1
          clear H1
          obtain ⟨y387, hy387⟩ : ∃ y_ : List ByteArray, y_ = (([a0_2] : List ByteArray)) := ⟨_, rfl⟩
          replace H : (plinthref03_Names.j1 kj1 y387 a0_0 a0_1 a0_2 l0_3) = some r := by first | (rw [hy387]; with_reducible exact H) | (have H2_ := (Option.bind_some _ _).symm.trans H; rw [hy387]; with_reducible exact H2_) | (have H2_ := (Option.bind_some _ _).symm.trans H; with_reducible exact H2_) | with_reducible exact H | (rw [hy387]; exact H) | exact H
          have Ny387 := Aside0.mk hy387
          clear hy387
          have H' := Aside0.mk H
          clear H
          have hcz15_0 : wc.cell? ⟨gb384, 0, none⟩ = some (.int .i64 a0_0) := (blk_cell BK384.out 0).trans rfl
          have hcz15_1 : wc.cell? ⟨gb384, 1, none⟩ = some (.int .i64 a0_1) := (blk_cell BK384.out 1).trans rfl
          have hcz15_2 : wc.cell? ⟨gb384, 2, none⟩ = some (.string a0_2) := (blk_cell BK384.out 2).trans rfl
          have hcz15_3 : wc.cell? ⟨gb384, 3, none⟩ = some (.slice A0_3 l0_3.length c0_3) := (blk_cell BK384.out 3).trans rfl
          have hfz15_0 := blk_frozen BK384.out 0
          have hfz15_1 := blk_frozen BK384.out 1
          have hfz15_2 := blk_frozen BK384.out 2
          have hfz15_3 := blk_frozen BK384.out 3
          go_wp2_with (first | ((with_reducible refine gate_dst (N := 17) rfl ?_); (try (refine gate_guard (by rfl) ?_; dsimp only)); refine Kd.R_lit Kd.string _ 9 ?hg (N := 17) ?hd (xs := ([a0_2] : List ByteArray)) (inner := [.string a0_2]) (ok := fun _ => True) (okp := fun _ => True) ?hr ?hp (fun _ hk => hk) trivial (Below.refl _ _) (Nat.le_refl _) (by simp) ?_; (case hd => rfl); (case hg => rfl); (case hr => first | (go_simp; done) | (go_simp; rfl)); (case hp => exact (Reps.one (show Kd.M Kd.string _ _ _ a0_2 [.string a0_2] from rfl) (Reps.none _ _))); intro v388 w16 ho17 hb hg_ hnew_; clear hg_ hnew_; (first | rw [← Ny387.out] at ho17 | (simp only [Int.reduceToNat] at ho17; rw [← Ny387.out] at ho17)); have n0_ := Aside0.mk (Kd.R_elder' (by (with_reducible repeat (first | apply Kd.R_alloc | apply Kd.R_drewN | apply Kd.R_drew)); exact HO_3.out) (Kd.R_base ho17) hb); have n1_ := Aside0.mk (Kd.R_lower (Kd.R_new' ho17 (Kd.R_lt (by (with_reducible repeat (first | apply Kd.R_alloc | apply Kd.R_drewN | apply Kd.R_drew)); exact HO_3.out))) (below_size (by repeat (first | (with_reducible first | exact HB.out | apply below_alloc | apply pw_below_drewN | apply below_drew1 | refine below_set ?_ GE384.out) | exact HB.out)))); have n2_ := Aside0.mk (blk_below (g := gb384) (o := .cells #[.int .i64 a0_0, .int .i64 a0_1, .string a0_2, .slice A0_3 l0_3.length c0_3] 24 (0, 0)) (by (with_reducible repeat (first | refine blk_drewN ?_ _ | refine blk_drew ?_ | refine blk_alloc ?_ _)); exact BK384.out) hb); have n3_ := Aside0.mk (below_step (by repeat (first | (with_reducible first | exact HB.out | apply below_alloc | apply pw_below_drewN | apply below_drew1 | refine below_set ?_ GE384.out) | exact HB.out)) hb); clear HO_3; clear BK384; clear HB; have HO_3 := n0_; have HO389 := n1_; have BK384 := n2_; have HB := n3_; clear n0_ n1_ n2_ n3_; clear hb ho17))
          go_meet
          case rel => exact ⟨_, (y387), H', ⟨by have := HJ1.out; first | omega | exact Nat.le_refl _⟩, ⟨by (with_reducible repeat (first | apply Kd.R_alloc | apply Kd.R_drewN | apply Kd.R_drew)); exact Kd.R_mono HO389.out (fun _ hk => trivial)⟩, ⟨by (with_reducible repeat (first | refine blk_drewN ?_ _ | refine blk_drew ?_ | refine blk_alloc ?_ _)); exact BK384.out⟩, ⟨by repeat (first | (with_reducible first | exact HB.out | apply below_alloc | apply pw_below_drewN | apply below_drew1 | refine below_set ?_ GE384.out) | exact HB.out)⟩⟩
        · replace c14 := Bool.eq_false_iff.mpr c14
          subst c14
          have H1 : (plinthref03_Names.j1 kj1 ([] : List ByteArray) a0_0 a0_1 a0_2 l0_3) = some r := by rw [if_neg (show ¬ (false = true) by decide)] at H; exact H
          clear H
          have H := H1
          clear H1
          have H' := Aside0.mk H
          clear H
          go_wp2
          go_meet
          case rel => exact ⟨_, (([] : List ByteArray)), H', ⟨by have := HJ1.out; first | omega | exact Nat.le_refl _⟩, ⟨by (with_reducible repeat (first | apply Kd.R_alloc | apply Kd.R_drewN | apply Kd.R_drew)); exact HO_3.out⟩, ⟨by (with_reducible repeat (first | refine blk_drewN ?_ _ | refine blk_drew ?_ | refine blk_alloc ?_ _)); exact BK384.out⟩, ⟨by repeat (first | (with_reducible first | exact HB.out | apply below_alloc | apply pw_below_drewN | apply below_drew1 | refine below_set ?_ GE384.out) | exact HB.out)⟩⟩
      case rest =>
        clear HC13
        try clear c1
        try clear c2
        try clear p2
        try clear c5
        try clear c6
        try clear c14
        try clear hcz11_0
        try clear hcz11_1
        try clear hcz11_2
        try clear hcz11_3
        try clear hcz15_0
        try clear hcz15_1
        try clear hcz15_2
        try clear hcz15_3
        try clear hcz7_0
        try clear hcz7_1
        try clear hcz7_2
        try clear hcz7_3
        try clear hcz9_0
        try clear hcz9_1
        try clear hcz9_2
        try clear hcz9_3
        try clear hfz11_0
        try clear hfz11_1
        try clear hfz11_2
        try clear hfz11_3
        try clear hfz15_0
        try clear hfz15_1
        try clear hfz15_2
        try clear hfz15_3
        try clear hfz7_0
        try clear hfz7_1
        try clear hfz7_2
        try clear hfz7_3
        try clear hfz9_0
        try clear hfz9_1
        try clear hfz9_2
        try clear hfz9_3
        try clear p2
        obtain ⟨kq, x3_12, HA, HJ12, HO_3, BK384, HB⟩ := hcut
        cases kq with
        | zero => exact absurd HA.out (by simp [plinthref03_Names.j1])
        | succ kj12 =>
          have H := HA.out
          clear HA
          simp only [plinthref03_Names.j1] at H
          have H' := Aside0.mk H
          clear H
          go_wp2
          go_loopg [3, 4] kj12 (fun kq v3 v4 w' => ∃ (x3_3 : List ByteArray) (x4_3 : Int), v4 = .int .i64 x4_3 ∧ Aside0 (plinthref03_Names.l0 kq x3_3 x4_3 a0_0 a0_1 a0_2 l0_3 = some r) ∧ Aside0 (kq ≤ kj12) ∧ Aside0 (Kd.R Kd.string 9 w' w.heap.size (fun _ => True) v3 x3_3) ∧ Aside0 (w'.heap[gb384]? = some (.cells #[.int .i64 a0_0, .int .i64 a0_1, .string a0_2, (.slice A0_3 l0_3.length c0_3)] 24 (0, 0))) ∧ Aside0 (Below w.heap.size w w'))
          case atStart => exact ⟨(x3_12), (0), (by first | rfl | (simp; done) | (simp [*]; done)), H', ⟨Nat.le_refl _⟩, ⟨by (with_reducible repeat (first | apply Kd.R_alloc | apply Kd.R_drewN | apply Kd.R_drew)); exact HO_3.out⟩, ⟨by (with_reducible repeat (first | refine blk_drewN ?_ _ | refine blk_drew ?_ | refine blk_alloc ?_ _)); exact BK384.out⟩, ⟨by repeat (first | (with_reducible first | exact HB.out | apply below_alloc | apply pw_below_drewN | apply below_drew1 | refine below_set ?_ GE384.out) | exact HB.out)⟩⟩
          case round =>
            clear H'
            try clear c1
            try clear c2
            try clear p2
            try clear c5
            try clear c6
            try clear c14
            try clear hcz11_0
            try clear hcz11_1
            try clear hcz11_2
            try clear hcz11_3
            try clear hcz15_0
            try clear hcz15_1
            try clear hcz15_2
            try clear hcz15_3
            try clear hcz7_0
            try clear hcz7_1
            try clear hcz7_2
            try clear hcz7_3
            try clear hcz9_0
            try clear hcz9_1
            try clear hcz9_2
            try clear hcz9_3
            try clear hfz11_0
            try clear hfz11_1
            try clear hfz11_2
            try clear hfz11_3
            try clear hfz15_0
            try clear hfz15_1
            try clear hfz15_2
            try clear hfz15_3
            try clear hfz7_0
            try clear hfz7_1
            try clear hfz7_2
            try clear hfz7_3
            try clear hfz9_0
            try clear hfz9_1
            try clear hfz9_2
            try clear hfz9_3
            try clear p2
            obtain ⟨x3_3, x4_3, rfl, HA, HK3, HO_3, BK384, HB⟩ := hrel
            cases gk with
            | zero => exact absurd HA.out (by simp [plinthref03_Names.l0])
            | succ k3 =>
              have H := HA.out
              clear HA
              simp only [plinthref03_Names.l0] at H
              have HC18 := Aside0.mk H
              clear H
              go_upto_region 5 with (fail)
              go_cut [27] (fun v27 wc => ∃ (kq : Nat) (x27_17 : Bool), v27 = .bool x27_17 ∧ Aside0 (plinthref03_Names.j3 kq x3_3 x4_3 x27_17 a0_0 a0_1 a0_2 l0_3 = some r) ∧ Aside0 (kq ≤ k3) ∧ Aside0 (Kd.R Kd.string 9 wc w.heap.size (fun _ => True) u3 x3_3) ∧ Aside0 (wc.heap[gb384]? = some (.cells #[.int .i64 a0_0, .int .i64 a0_1, .string a0_2, (.slice A0_3 l0_3.length c0_3)] 24 (0, 0))) ∧ Aside0 (Below w.heap.size w wc))
              case first =>
                have H := HC18.out
                clear HC18
                by_cases c19 : a0_0 = 3
                · rw [if_pos c19] at H
                  have c19b0 : (a0_0 == 3) = true := beq_iff_eq.mpr c19
                  have c19b1 : (a0_0 != 3) = false := bne_eq_false_iff_eq.mpr c19
                  clear c19
                  (first | rw [c19b0] | (simp only [i64_w, i32_w]; rw [c19b0]) | skip)
                  have H' := Aside0.mk H
                  clear H
                  have hcz20_0 : wr.cell? ⟨gb384, 0, none⟩ = some (.int .i64 a0_0) := (blk_cell BK384.out 0).trans rfl
                  have hcz20_1 : wr.cell? ⟨gb384, 1, none⟩ = some (.int .i64 a0_1) := (blk_cell BK384.out 1).trans rfl
                  have hcz20_2 : wr.cell? ⟨gb384, 2, none⟩ = some (.string a0_2) := (blk_cell BK384.out 2).trans rfl
                  have hcz20_3 : wr.cell? ⟨gb384, 3, none⟩ = some (.slice A0_3 l0_3.length c0_3) := (blk_cell BK384.out 3).trans rfl
                  have hfz20_0 := blk_frozen BK384.out 0
                  have hfz20_1 := blk_frozen BK384.out 1
                  have hfz20_2 := blk_frozen BK384.out 2
                  have hfz20_3 := blk_frozen BK384.out 3
                  go_wp2
                  go_meet
                  case rel => exact ⟨_, (decide (x4_3 < (l0_3.length : Int))), (by first | rfl | (simp; done) | (simp [*]; done)), H', ⟨by have := HJ1.out; have := HJ12.out; have := HK3.out; first | omega | exact Nat.le_refl _⟩, ⟨by (with_reducible repeat (first | apply Kd.R_alloc | apply Kd.R_drewN | apply Kd.R_drew)); exact HO_3.out⟩, ⟨by (with_reducible repeat (first | refine blk_drewN ?_ _ | refine blk_drew ?_ | refine blk_alloc ?_ _)); exact BK384.out⟩, ⟨by repeat (first | (with_reducible first | exact HB.out | apply below_alloc | apply pw_below_drewN | apply below_drew1 | refine below_set ?_ GE384.out) | exact HB.out)⟩⟩
                · rw [if_neg c19] at H
                  have c19b0 : (a0_0 == 3) = false := beq_eq_false_iff_ne.mpr c19
                  have c19b1 : (a0_0 != 3) = true := bne_iff_ne.mpr c19
                  (first | rw [c19b0] | (simp only [i64_w, i32_w]; rw [c19b0]) | skip)
                  have H' := Aside0.mk H
                  clear H
                  have hcz21_0 : wr.cell? ⟨gb384, 0, none⟩ = some (.int .i64 a0_0) := (blk_cell BK384.out 0).trans rfl
                  have hcz21_1 : wr.cell? ⟨gb384, 1, none⟩ = some (.int .i64 a0_1) := (blk_cell BK384.out 1).trans rfl
                  have hcz21_2 : wr.cell? ⟨gb384, 2, none⟩ = some (.string a0_2) := (blk_cell BK384.out 2).trans rfl
                  have hcz21_3 : wr.cell? ⟨gb384, 3, none⟩ = some (.slice A0_3 l0_3.length c0_3) := (blk_cell BK384.out 3).trans rfl
                  have hfz21_0 := blk_frozen BK384.out 0
                  have hfz21_1 := blk_frozen BK384.out 1
                  have hfz21_2 := blk_frozen BK384.out 2
                  have hfz21_3 := blk_frozen BK384.out 3
                  go_wp2
                  go_meet
                  case rel => exact ⟨_, (false), (by first | rfl | (simp; done) | (simp [*]; done)), H', ⟨by have := HJ1.out; have := HJ12.out; have := HK3.out; first | omega | exact Nat.le_refl _⟩, ⟨by (with_reducible repeat (first | apply Kd.R_alloc | apply Kd.R_drewN | apply Kd.R_drew)); exact HO_3.out⟩, ⟨by (with_reducible repeat (first | refine blk_drewN ?_ _ | refine blk_drew ?_ | refine blk_alloc ?_ _)); exact BK384.out⟩, ⟨by repeat (first | (with_reducible first | exact HB.out | apply below_alloc | apply pw_below_drewN | apply below_drew1 | refine below_set ?_ GE384.out) | exact HB.out)⟩⟩
              case rest =>
                clear HC18
                try clear c1
                try clear c2
                try clear p2
                try clear c5
                try clear c6
                try clear c14
                try clear c19
                try clear c19b0
                try clear c19b1
                try clear hcz11_0
                try clear hcz11_1
                try clear hcz11_2
                try clear hcz11_3
                try clear hcz15_0
                try clear hcz15_1
                try clear hcz15_2
                try clear hcz15_3
                try clear hcz20_0
                try clear hcz20_1
                try clear hcz20_2
                try clear hcz20_3
                try clear hcz21_0
                try clear hcz21_1
                try clear hcz21_2
                try clear hcz21_3
                try clear hcz7_0
                try clear hcz7_1
                try clear hcz7_2
                try clear hcz7_3
                try clear hcz9_0
                try clear hcz9_1
                try clear hcz9_2
                try clear hcz9_3
                try clear hfz11_0
                try clear hfz11_1
                try clear hfz11_2
                try clear hfz11_3
                try clear hfz15_0
                try clear hfz15_1
                try clear hfz15_2
                try clear hfz15_3
                try clear hfz20_0
                try clear hfz20_1
                try clear hfz20_2
                try clear hfz20_3
                try clear hfz21_0
                try clear hfz21_1
                try clear hfz21_2
                try clear hfz21_3
                try clear hfz7_0
                try clear hfz7_1
                try clear hfz7_2
                try clear hfz7_3
                try clear hfz9_0
                try clear hfz9_1
                try clear hfz9_2
                try clear hfz9_3
                try clear p2
                obtain ⟨kq, x27_17, rfl, HA, HJ17, HO_3, BK384, HB⟩ := hcut
                cases kq with
                | zero => exact absurd HA.out (by simp [plinthref03_Names.j3])
                | succ kj17 =>
                  have H := HA.out
                  clear HA
                  simp only [plinthref03_Names.j3] at H
                  by_cases c22 : x27_17 = true
                  · subst c22
                    have H1 : (if 0 ≤ x4_3 then (if x4_3 < (l0_3.length : Int) then ((plinthref03_Names.f kj17 ((rd_T24 l0_3 x4_3).f0) ((rd_T24 l0_3 x4_3).f1) ((rd_T24 l0_3 x4_3).f2) ((rd_T24 l0_3 x4_3).f3)).bind fun t391 => (plinthref03_Names.l1 kj17 x3_3 x4_3 t391 0 a0_0 a0_1 a0_2 l0_3)) else (none)) else (none)) = some r := by rw [if_pos rfl] at H; exact H
                    clear H
                    have H := H1
                    clear H1
                    by_cases c23 : 0 ≤ x4_3
                    · rw [if_pos c23] at H
                      have c23b0 : decide (0 ≤ x4_3) = true := decide_eq_true c23
                      clear c23
                      by_cases c24 : x4_3 < (l0_3.length : Int)
                      · rw [if_pos c24] at H
                        have c24b0 : decide (x4_3 < (l0_3.length : Int)) = true := decide_eq_true c24
                        clear c24
                        replace H := Option.bind_eq_some_iff.mp H
                        obtain ⟨t391, A250, H⟩ := H
                        replace H : (plinthref03_Names.l1 kj17 x3_3 x4_3 t391 0 a0_0 a0_1 a0_2 l0_3) = some r := H
                        have A25 := Aside0.mk A250
                        clear A250
                        have H' := Aside0.mk H
                        clear H
                        have hcz26_0 : wc.cell? ⟨gb384, 0, none⟩ = some (.int .i64 a0_0) := (blk_cell BK384.out 0).trans rfl
                        have hcz26_1 : wc.cell? ⟨gb384, 1, none⟩ = some (.int .i64 a0_1) := (blk_cell BK384.out 1).trans rfl
                        have hcz26_2 : wc.cell? ⟨gb384, 2, none⟩ = some (.string a0_2) := (blk_cell BK384.out 2).trans rfl
                        have hcz26_3 : wc.cell? ⟨gb384, 3, none⟩ = some (.slice A0_3 l0_3.length c0_3) := (blk_cell BK384.out 3).trans rfl
                        have hfz26_0 := blk_frozen BK384.out 0
                        have hfz26_1 := blk_frozen BK384.out 1
                        have hfz26_2 := blk_frozen BK384.out 2
                        have hfz26_3 := blk_frozen BK384.out 3
                        have p390 : 0 ≤ (x4_3 : Int) := of_decide_eq_true (by first | (with_reducible assumption) | assumption)
                        have q390 : x4_3 < (l0_3.length : Int) := of_decide_eq_true (by first | (with_reducible assumption) | assumption)
                        obtain ⟨ad390, A390_3, c390_3, e390, hx390_0, hx390_1, hx390_2, hx390_3, hl390_3, hi390_3⟩ := at_T24 HR0_3.out x4_3 p390 q390
                        cases e390
                        replace hx390_0 := (HB.out.cell (World.block_lt_of_cell? w _ hx390_0)).trans hx390_0
                        replace hx390_1 := (HB.out.cell (World.block_lt_of_cell? w _ hx390_1)).trans hx390_1
                        replace hx390_2 := (HB.out.cell (World.block_lt_of_cell? w _ hx390_2)).trans hx390_2
                        replace hx390_3 := (HB.out.cell (World.block_lt_of_cell? w _ hx390_3)).trans hx390_3
                        have HR390_3 := Aside0.mk hi390_3
                        have HC390_3 := Aside0.mk hl390_3
                        clear hi390_3 hl390_3
                        replace p390 := eq_true p390
                        replace q390 := eq_true q390
                        go_wp2_with (first | ((with_reducible refine gate_callee (f := 25) rfl ?_); refine goesL_ (some 35) rfl rfl Tryz.func25 (by kernel_rfl) rfl #[.agg #[.int .i64 ((rd_T24 l0_3 x4_3).f0), .int .i64 ((rd_T24 l0_3 x4_3).f1), .string ((rd_T24 l0_3 x4_3).f2), .slice A390_3 ((rd_T24 l0_3 x4_3).f3).length c390_3]] rfl (by (try simp only [List.map_toArray, List.map_cons, List.map_nil]); first | done | rfl | (simp only [List.length_drop, List.length_take]; rfl)) ?_; (with_reducible refine (ih kj17 (by have := HJ1.out; have := HJ12.out; have := HK3.out; have := HJ17.out; omega) ((rd_T24 l0_3 x4_3).f0) ((rd_T24 l0_3 x4_3).f1) ((rd_T24 l0_3 x4_3).f2) _ _ ((rd_T24 l0_3 x4_3).f3) t391 _ ?side1 ?side2 A25.out).mono ?_); (case side1 => repeat (first | exact (Kd.C_below HR390_3.out HB.out) | (with_reducible refine Kd.C_alloc ?_ _) | (with_reducible refine Kd.C_drewN ?_ _) | (with_reducible refine Kd.C_drew ?_))); (case side2 => exact HC390_3.out); rintro e w27 ⟨v392, rfl, ho0, hb⟩; refine ⟨_, rfl, ?_⟩; have n0_ := Aside0.mk (Kd.R_elder' (by (with_reducible repeat (first | apply Kd.R_alloc | apply Kd.R_drewN | apply Kd.R_drew)); exact HO_3.out) (Kd.R_base ho0) hb); have n1_ := Aside0.mk (Kd.R_lower (Kd.R_new' ho0 (Kd.R_lt (by (with_reducible repeat (first | apply Kd.R_alloc | apply Kd.R_drewN | apply Kd.R_drew)); exact HO_3.out))) (below_size (by repeat (first | (with_reducible first | exact HB.out | apply below_alloc | apply pw_below_drewN | apply below_drew1 | refine below_set ?_ GE384.out) | exact HB.out)))); have n2_ := Aside0.mk (blk_below (g := gb384) (o := .cells #[.int .i64 a0_0, .int .i64 a0_1, .string a0_2, .slice (some ad390) l0_3.length c0_3] 24 (0, 0)) (by (with_reducible repeat (first | refine blk_drewN ?_ _ | refine blk_drew ?_ | refine blk_alloc ?_ _)); exact BK384.out) hb); have n3_ := Aside0.mk (below_step (by repeat (first | (with_reducible first | exact HB.out | apply below_alloc | apply pw_below_drewN | apply below_drew1 | refine below_set ?_ GE384.out) | exact HB.out)) hb); clear HO_3; clear BK384; clear HB; have HO_3 := n0_; have HO393 := n1_; have BK384 := n2_; have HB := n3_; clear n0_ n1_ n2_ n3_; (try clear hb); (try clear hb2); (try clear hk); (try clear hi); (try clear ho0)))
                        go_loopg [3, 6] kj17 (fun kq v3 v6 w' => ∃ (x3_5 : List ByteArray) (x6_5 : Int), v6 = .int .i64 x6_5 ∧ Aside0 (plinthref03_Names.l1 kq x3_5 x4_3 t391 x6_5 a0_0 a0_1 a0_2 l0_3 = some r) ∧ Aside0 (kq ≤ kj17) ∧ Aside0 (Kd.R Kd.string 9 w' w.heap.size (fun k_ => some k_ ≠ (v392 : Value).ownBlock) v3 x3_5) ∧ Aside0 (Kd.R Kd.string 9 w' w.heap.size (fun k_ => some k_ ≠ (v3 : Value).ownBlock) v392 t391) ∧ Aside0 (w'.heap[gb384]? = some (.cells #[.int .i64 a0_0, .int .i64 a0_1, .string a0_2, (.slice (some ad390) l0_3.length c0_3)] 24 (0, 0))) ∧ Aside0 (Below w.heap.size w w'))
                        case atStart => exact ⟨(x3_3), (0), (by first | rfl | (simp; done) | (simp [*]; done)), H', ⟨Nat.le_refl _⟩, ⟨by (with_reducible repeat (first | apply Kd.R_alloc | apply Kd.R_drewN | apply Kd.R_drew)); exact Kd.R_mono HO_3.out (fun _ hk => hk.2)⟩, ⟨by (with_reducible repeat (first | apply Kd.R_alloc | apply Kd.R_drewN | apply Kd.R_drew)); exact Kd.R_mono HO393.out (fun _ hk => hk.2)⟩, ⟨by (with_reducible repeat (first | refine blk_drewN ?_ _ | refine blk_drew ?_ | refine blk_alloc ?_ _)); exact BK384.out⟩, ⟨by repeat (first | (with_reducible first | exact HB.out | apply below_alloc | apply pw_below_drewN | apply below_drew1 | refine below_set ?_ GE384.out) | exact HB.out)⟩⟩
                        case round =>
                          clear H'
                          try clear c1
                          try clear c2
                          try clear p2
                          try clear c3
                          try clear p3
                          try clear q3
                          try clear hx3
                          try clear c5
                          try clear c6
                          try clear c14
                          try clear c19
                          try clear c19b0
                          try clear c19b1
                          try clear c22
                          try clear c23
                          try clear c23b0
                          try clear c24
                          try clear c24b0
                          try clear c25
                          try clear hcz11_0
                          try clear hcz11_1
                          try clear hcz11_2
                          try clear hcz11_3
                          try clear hcz15_0
                          try clear hcz15_1
                          try clear hcz15_2
                          try clear hcz15_3
                          try clear hcz20_0
                          try clear hcz20_1
                          try clear hcz20_2
                          try clear hcz20_3
                          try clear hcz21_0
                          try clear hcz21_1
                          try clear hcz21_2
                          try clear hcz21_3
                          try clear hcz26_0
                          try clear hcz26_1
                          try clear hcz26_2
                          try clear hcz26_3
                          try clear hcz7_0
                          try clear hcz7_1
                          try clear hcz7_2
                          try clear hcz7_3
                          try clear hcz9_0
                          try clear hcz9_1
                          try clear hcz9_2
                          try clear hcz9_3
                          try clear hfz11_0
                          try clear hfz11_1
                          try clear hfz11_2
                          try clear hfz11_3
                          try clear hfz15_0
                          try clear hfz15_1
                          try clear hfz15_2
                          try clear hfz15_3
                          try clear hfz20_0
                          try clear hfz20_1
                          try clear hfz20_2
                          try clear hfz20_3
                          try clear hfz21_0
                          try clear hfz21_1
                          try clear hfz21_2
                          try clear hfz21_3
                          try clear hfz26_0
                          try clear hfz26_1
                          try clear hfz26_2
                          try clear hfz26_3
                          try clear hfz7_0
                          try clear hfz7_1
                          try clear hfz7_2
                          try clear hfz7_3
                          try clear hfz9_0
                          try clear hfz9_1
                          try clear hfz9_2
                          try clear hfz9_3
                          try clear hx390_0
                          try clear hx390_1
                          try clear hx390_2
                          try clear hx390_3
                          try clear p2
                          try clear p390
                          try clear q390
                          obtain ⟨x3_5, x6_5, rfl, HA, HK5, HO_3, HO_5, BK384, HB⟩ := hrel
                          cases gk with
                          | zero => exact absurd HA.out (by simp [plinthref03_Names.l1])
                          | succ k5 =>
                            have H := HA.out
                            clear HA
                            simp only [plinthref03_Names.l1] at H
                            by_cases c28 : x6_5 < (t391.length : Int)
                            · rw [if_pos c28] at H
                              have c28b0 : decide (x6_5 < (t391.length : Int)) = true := decide_eq_true c28
                              clear c28
                              by_cases c29 : 0 ≤ x6_5
                              · rw [if_pos c29] at H
                                have c29b0 : decide (0 ≤ x6_5) = true := decide_eq_true c29
                                clear c29
                                replace H := Option.bind_eq_some_iff.mp H
                                obtain ⟨t395, A300, H⟩ := H
                                replace H : (plinthref03_Names.l1 k5 t395 x4_3 t391 (wrap64 (x6_5 + 1)) a0_0 a0_1 a0_2 l0_3) = some r := H
                                have A30 := Aside0.mk A300
                                clear A300
                                have H' := Aside0.mk H
                                clear H
                                obtain ⟨Ao31, co31, eo31⟩ := Kd.R_slice HO_5.out
                                subst eo31
                                have p394 : 0 ≤ (x6_5 : Int) := of_decide_eq_true (by first | (with_reducible assumption) | assumption)
                                have q394 : x6_5 < (t391.length : Int) := of_decide_eq_true (by first | (with_reducible assumption) | assumption)
                                obtain ⟨ad394, e394, hx394_0⟩ := Kd.at_string (Kd.R_reads' HO_5.out).2.2 x6_5 p394 q394
                                cases e394
                                replace p394 := eq_true p394
                                replace q394 := eq_true q394
                                obtain ⟨Ao32, co32, eo32⟩ := Kd.R_slice HO_3.out
                                subst eo32
                                go_wp2_with (first | ((with_reducible refine gate_callee (f := 48) rfl ?_); refine goesL_ (some 47) rfl rfl Tryz.func48 (by kernel_rfl) rfl #[.slice Ao32 x3_5.length co32, .string (rdOf ByteArray.empty t391 x6_5)] rfl (by (try simp only [List.map_toArray, List.map_cons, List.map_nil]); first | done | rfl | (simp only [List.length_drop, List.length_take]; rfl)) ?_; (with_reducible refine (plinthref03_put.calls k5 (fun k_ => some k_ = (.slice Ao32 x3_5.length co32 : Value).ownBlock) (.slice Ao32 x3_5.length co32) x3_5 (rdOf ByteArray.empty t391 x6_5) t395 w _ ?side1 ?side2 A30.out).mono ?_); (case side1 => repeat (first | (with_reducible first | exact HB.out | apply below_alloc | apply pw_below_drewN | apply below_drew1 | refine below_set ?_ GE384.out) | exact HB.out)); (case side2 => exact Kd.R_tight rfl HO_3.out); rintro e w33 ⟨v396, rfl, ho0, hb, hkp⟩; refine ⟨_, rfl, ?_⟩; have n0_ := Aside0.mk (Kd.R_mono (ok' := fun k_ => some k_ ≠ (v396 : Value).ownBlock) (Kd.R_keptB (HO_5.out) hkp (fun k_ hk_ hs_ => (hk_) hs_)) (fun k_ hk_ => fun e_ => Or.elim (ho0.1 k_ e_.symm) (fun hs_ => hk_.2.1 hs_) (fun hn_ => Nat.not_le.2 hk_.2.2 hn_))); have n1_ := Aside0.mk (blk_kept (by (with_reducible repeat (first | refine blk_drewN ?_ _ | refine blk_drew ?_ | refine blk_alloc ?_ _)); exact BK384.out) hkp (fun hs_ => (fun e_ => (Kd.R_ne HO_3.out BK384.out (by decide)) e_) hs_)); have n2_ := Aside0.mk (Kd.R_mono (ok' := fun k_ => some k_ ≠ (.slice (some ad394) t391.length co31 : Value).ownBlock) ho0 (fun k_ hk_ => Or.elim hk_ (fun hs_ => fun e_ => (((HO_5.out).1 k_ e_.symm)) hs_) (fun hn_ => (Kd.fresh' (Kd.R_lt (by (with_reducible repeat (first | apply Kd.R_alloc | apply Kd.R_drewN | apply Kd.R_drew)); exact HO_5.out)) k_ hn_)))); have n3_ := Aside0.mk (hb); clear HO_5; clear BK384; clear HB; clear HO_3; have HO_5 := n0_; have BK384 := n1_; have HO397 := n2_; have HB := n3_; clear n0_ n1_ n2_ n3_; (try clear hb); (try clear hkp); (try clear ho0)))
                                go_roundg k5
                                case measure => have := HJ1.out; have := HJ12.out; have := HK3.out; have := HJ17.out; have := HK5.out; omega
                                case rel => exact ⟨(t395), (wrap64 (x6_5 + 1)), (by first | rfl | (simp; done) | (simp [*]; done)), H', ⟨by have := HJ1.out; have := HJ12.out; have := HK3.out; have := HJ17.out; have := HK5.out; omega⟩, ⟨by (with_reducible repeat (first | apply Kd.R_alloc | apply Kd.R_drewN | apply Kd.R_drew)); exact HO397.out⟩, ⟨by (with_reducible repeat (first | apply Kd.R_alloc | apply Kd.R_drewN | apply Kd.R_drew)); exact HO_5.out⟩, ⟨by (with_reducible repeat (first | refine blk_drewN ?_ _ | refine blk_drew ?_ | refine blk_alloc ?_ _)); exact BK384.out⟩, ⟨by repeat (first | (with_reducible first | exact HB.out | apply below_alloc | apply pw_below_drewN | apply below_drew1 | refine below_set ?_ GE384.out) | exact HB.out)⟩⟩
                              · rw [if_neg c29] at H
                                exact absurd H (by simp)
                            · rw [if_neg c28] at H
                              have c28b0 : decide (x6_5 < (t391.length : Int)) = false := decide_eq_false c28
                              clear c28
                              have H' := Aside0.mk H
                              clear H
                              obtain ⟨Ao34, co34, eo34⟩ := Kd.R_slice HO_5.out
                              subst eo34
                              go_wp2
                              go_roundg k5
                              case measure => have := HJ1.out; have := HJ12.out; have := HK3.out; have := HJ17.out; have := HK5.out; omega
                              case rel => exact ⟨(x3_5), (wrap64 (x4_3 + 1)), (by first | rfl | (simp; done) | (simp [*]; done)), H', ⟨by have := HJ1.out; have := HJ12.out; have := HK3.out; have := HJ17.out; have := HK5.out; omega⟩, ⟨by (with_reducible repeat (first | apply Kd.R_alloc | apply Kd.R_drewN | apply Kd.R_drew)); exact Kd.R_mono HO_3.out (fun _ hk => trivial)⟩, ⟨by (with_reducible repeat (first | refine blk_drewN ?_ _ | refine blk_drew ?_ | refine blk_alloc ?_ _)); exact BK384.out⟩, ⟨by repeat (first | (with_reducible first | exact HB.out | apply below_alloc | apply pw_below_drewN | apply below_drew1 | refine below_set ?_ GE384.out) | exact HB.out)⟩⟩
                      · rw [if_neg c24] at H
                        exact absurd H (by simp)
                    · rw [if_neg c23] at H
                      exact absurd H (by simp)
                  · replace c22 := Bool.eq_false_iff.mpr c22
                    subst c22
                    have H1 : (some x3_3) = some r := by rw [if_neg (show ¬ (false = true) by decide)] at H; exact H
                    clear H
                    have H := H1
                    clear H1
                    obtain rfl := Option.some.inj H
                    go_wp2
                    go_ret
                    exact ⟨_, by first | rfl | (simp [errW_none, errW_some] <;> rfl) | (simp [*, errW_none, errW_some] <;> rfl), by (with_reducible repeat (first | apply Kd.R_alloc | apply Kd.R_drewN | apply Kd.R_drew)); exact HO_3.out, by repeat (first | (with_reducible first | exact HB.out | apply below_alloc | apply pw_below_drewN | apply below_drew1 | refine below_set ?_ GE384.out) | exact HB.out)⟩

end Go.Proofs.YtcjmplpfebpfpaaGreatDoor.PKindInstances

namespace Go.Proofs.YtcjmplpfebpfpaaGreatDoor.PKindInstances
open Go.RowKit Go.Proofs.YtcjmplpfebpfpaaGreatDoorW.PrintWords Go.Proofs.YtcjmplpfebpfpaaGreatDoorW.PrintLast Go.Proofs.YtcjmplpfebpfpaaGreatDoorW.PrintMore
attribute [local go_sem] max2_int min2_int max_two min_two max_three min_three max_four min_four   -- for this text's walks alone
set_option linter.unusedVariables false
set_option linter.unusedSimpArgs false

def plinthref01_Has.l0 : Nat → List ByteArray → ByteArray → Int → Option (Bool)
  | 0, _, _, _ => none
  | k + 1, x0, x1, x5 => if x5 < (x0.length : Int) then (if 0 ≤ x5 then (if (rdOf ByteArray.empty x0 x5).toList = x1.toList then (some true) else (plinthref01_Has.l0 k x0 x1 (wrap64 (x5 + 1)))) else (none)) else (some false)
def plinthref01_Has.f (k : Nat) (l0 : List ByteArray) (a1 : ByteArray) : Option (Bool) := plinthref01_Has.l0 k l0 a1 0
set_option maxHeartbeats 8000000 in
set_option maxRecDepth 100000 in
theorem plinthref01_Has.calls (k : Nat) (A0 : Option Addr) (c0 : Nat) (l0 : List ByteArray) (a1 : ByteArray) (r : Bool) (w : World) (hr0 : Kd.C Kd.string w A0 l0.length l0) (hc0 : l0.length ≤ c0) (h : plinthref01_Has.f k l0 a1 = some r) :
    Calls Tryz.prog 24 #[.slice A0 l0.length c0, .string a1] w fun e w' => e = .returned (.bool r) ∧ Drawn0 w w' := by
  have HR0 := Aside0.mk hr0
  have HC0 := Aside0.mk hc0
  clear hr0 hc0
  have H : (plinthref01_Has.l0 k l0 a1 0) = some r := h
  clear h
  have H' := Aside0.mk H
  clear H
  go_enter Tryz.func24, Tryz.ntmps24
  go_wp2
  go_loopg [5] k (fun kq v5 w' => ∃ (x5_1 : Int), v5 = .int .i64 x5_1 ∧ Aside0 (plinthref01_Has.l0 kq l0 a1 x5_1 = some r) ∧ Aside0 (kq ≤ k) ∧ Drawn0 w w')
  case atStart => exact ⟨(0), (by first | rfl | (simp; done) | (simp [*]; done)), H', ⟨Nat.le_refl _⟩, by repeat (first | exact Drawn0.refl _ | apply Drawn0.step)⟩
  case round =>
    clear H'
    try clear c2
    try clear p2
    obtain ⟨x5_1, rfl, HA, HK1, ⟨m1, rfl⟩⟩ := hrel
    cases gk with
    | zero => exact absurd HA.out (by simp [plinthref01_Has.l0])
    | succ k1 =>
      have H := HA.out
      clear HA
      simp only [plinthref01_Has.l0] at H
      by_cases c3 : x5_1 < (l0.length : Int)
      · rw [if_pos c3] at H
        have c3b0 : decide (x5_1 < (l0.length : Int)) = true := decide_eq_true c3
        clear c3
        by_cases c4 : 0 ≤ x5_1
        · rw [if_pos c4] at H
          have c4b0 : decide (0 ≤ x5_1) = true := decide_eq_true c4
          clear c4
          by_cases c5 : (rdOf ByteArray.empty l0 x5_1).toList = a1.toList
          · rw [if_pos c5] at H
            have c5b0 : ((rdOf ByteArray.empty l0 x5_1).toList == a1.toList) = true := beq_iff_eq.mpr c5
            have c5b1 : ((rdOf ByteArray.empty l0 x5_1).toList != a1.toList) = false := bne_eq_false_iff_eq.mpr c5
            clear c5
            obtain rfl := Option.some.inj H
            have p335 : 0 ≤ (x5_1 : Int) := of_decide_eq_true (by first | (with_reducible assumption) | assumption)
            have q335 : x5_1 < (l0.length : Int) := of_decide_eq_true (by first | (with_reducible assumption) | assumption)
            obtain ⟨ad335, e335, hx335_0⟩ := Kd.at_string HR0.out x5_1 p335 q335
            cases e335
            replace p335 := eq_true p335
            replace q335 := eq_true q335
            go_wp2
            go_ret
            exact ⟨by first | rfl | (simp; done) | (simp [*]; done), by repeat (first | exact Drawn0.refl _ | apply Drawn0.step)⟩
          · rw [if_neg c5] at H
            have c5b0 : ((rdOf ByteArray.empty l0 x5_1).toList == a1.toList) = false := beq_eq_false_iff_ne.mpr c5
            have c5b1 : ((rdOf ByteArray.empty l0 x5_1).toList != a1.toList) = true := bne_iff_ne.mpr c5
            have H' := Aside0.mk H
            clear H
            have p335 : 0 ≤ (x5_1 : Int) := of_decide_eq_true (by first | (with_reducible assumption) | assumption)
            have q335 : x5_1 < (l0.length : Int) := of_decide_eq_true (by first | (with_reducible assumption) | assumption)
            obtain ⟨ad335, e335, hx335_0⟩ := Kd.at_string HR0.out x5_1 p335 q335
            cases e335
            replace p335 := eq_true p335
            replace q335 := eq_true q335
            go_wp2
            go_roundg k1
            case measure => have := HK1.out; omega
            case rel => exact ⟨(wrap64 (x5_1 + 1)), (by first | rfl | (simp; done) | (simp [*]; done)), H', ⟨by have := HK1.out; omega⟩, by repeat (first | exact Drawn0.refl _ | apply Drawn0.step)⟩
        · rw [if_neg c4] at H
          exact absurd H (by simp)
      · rw [if_neg c3] at H
        have c3b0 : decide (x5_1 < (l0.length : Int)) = false := decide_eq_false c3
        clear c3
        obtain rfl := Option.some.inj H
        go_wp2
        go_ret
        exact ⟨by first | rfl | (simp; done) | (simp [*]; done), by repeat (first | exact Drawn0.refl _ | apply Drawn0.step)⟩

end Go.Proofs.YtcjmplpfebpfpaaGreatDoor.PKindInstances

namespace Go.Proofs.YtcjmplpfebpfpaaGreatDoor
open Go.RowKit Go.Proofs Go.Proofs.YtcjmplpfebpfpaaGreatDoorW.PrintWords Go.Proofs.YtcjmplpfebpfpaaGreatDoorW.PrintLast Go.Proofs.YtcjmplpfebpfpaaGreatDoorW.PrintMore PKindInstances
set_option linter.unusedVariables false
set_option linter.unusedSimpArgs false
mutual
/-- What the document's Names answers. -/
def refN : S24 → List ByteArray
  | ⟨a, _, s, l⟩ => if a = 3 then refNs [] l else if a = 1 ∧ resM s = false then [s] else []
def refNs : List ByteArray → List S24 → List ByteArray
  | acc, [] => acc
  | acc, x :: l => refNs ((refN x).foldl putL acc) l
end
mutual
theorem refN_asc : ∀ x : S24, Asc (refN x) ∧ ∀ t, t ∈ refN x ↔ t ∈ nm x
  | ⟨a, _, s, l⟩ => by
    have hl := refNs_asc l [] (by simp [Asc])
    simp only [refN, nm]
    by_cases h3 : a = 3
    · rw [if_pos h3, if_pos h3, if_neg (fun h => by omega)]
      simpa using hl
    · rw [if_neg h3, if_neg h3]
      split <;> simp [Asc]
theorem refNs_asc : ∀ (l : List S24) (acc : List ByteArray), Asc acc → Asc (refNs acc l) ∧ ∀ t, t ∈ refNs acc l ↔ t ∈ acc ∨ t ∈ nms l
  | [], acc, h => by simp only [refNs, nms]; exact ⟨h, fun t => by simp⟩
  | x :: l, acc, h => by
    have hx := refN_asc x
    have h1 := putAll_asc (refN x) acc h
    have h2 := refNs_asc l _ h1.1
    simp only [refNs, nms]
    refine ⟨h2.1, fun t => ?_⟩
    rw [h2.2, h1.2, hx.2, List.mem_append, or_assoc]
end

theorem has1_l0 (l : List ByteArray) (a : ByteArray) (hl : l.length < 9000000000000) (d : Nat) : ∀ (k i : Nat), d + i = l.length → d < k → plinthref01_Has.l0 k l a (i : Int) = some (decide (a ∈ l.drop i)) := by
  induction d with
  | zero =>
    intro k i h hk
    obtain ⟨k, rfl⟩ : ∃ m, k = m + 1 := ⟨k - 1, by omega⟩
    have e : l.drop i = [] := List.drop_eq_nil_of_le (by omega)
    simp only [plinthref01_Has.l0]
    rw [if_neg (by omega), e]
    simp
  | succ d ih =>
    intro k i h hk
    obtain ⟨k, rfl⟩ : ∃ m, k = m + 1 := ⟨k - 1, by omega⟩
    have hlt : i < l.length := by omega
    obtain ⟨x, hx⟩ : ∃ x, l[i]? = some x := ⟨l[i], by simp [hlt]⟩
    simp only [plinthref01_Has.l0]
    rw [if_pos (by omega), if_pos (by omega), rdOf_at hx, drop_at5 hx]
    by_cases e : x.toList = a.toList
    · rw [if_pos e, bytes_inj e]
      simp
    · rw [if_neg e, wrap_up (by omega), ih k (i + 1) (by omega) (by omega)]
      have : a ≠ x := fun h => e (by rw [h])
      simp [this]
theorem has1_ev (l : List ByteArray) (a : ByteArray) (hl : l.length < 9000000000000) : Ev (fun k => plinthref01_Has.f k l a) (decide (a ∈ l)) := by
  refine ⟨l.length + 1, fun k hk => ?_⟩
  have := has1_l0 l a hl l.length k 0 (by omega) (by omega)
  simpa [plinthref01_Has.f] using this

theorem rd_x {l : List S24} {i : Nat} {x : S24} (hx : l[i]? = some x) : rd_T24 l (i : Int) = x := rd_at hx

theorem names_l1 (n : Int) (s : ByteArray) (l : List S24) (i : Int) (m : List ByteArray) (R : List ByteArray) (hm : m.length < 9000000) (d : Nat) : ∀ (j : Nat) (acc : List ByteArray), d + j = m.length → acc.length + (m.drop j).length < 900000000 →
    Ev (fun k => plinthref03_Names.l0 k ((m.drop j).foldl putL acc) (wrap64 (i + 1)) 3 n s l) R → Ev (fun k => plinthref03_Names.l1 k acc i m (j : Int) 3 n s l) R := by
  induction d with
  | zero =>
    intro j acc hj ha h
    have e : m.drop j = [] := List.drop_eq_nil_of_le (by omega)
    rw [e] at h
    exact Ev.step (fun k => by simp only [plinthref03_Names.l1]; rw [if_neg (by omega)]; rfl) h
  | succ d ih =>
    intro j acc hj ha h
    obtain ⟨x, hx⟩ : ∃ x, m[j]? = some x := ⟨m[j]'(by omega), List.getElem?_eq_getElem _⟩
    rw [drop_at5 hx] at h ha
    simp only [List.length_cons] at ha
    have hp := putL_len acc x
    refine Ev.step (f := fun k => (plinthref03_put.f k acc x).bind fun t => plinthref03_Names.l1 k t i m ((j + 1 : Nat) : Int) 3 n s l) (fun k => by
      simp only [plinthref03_Names.l1]
      rw [if_pos (by omega), if_pos (by omega), rdOf_at hx, wrap_up (by omega)]) ?_
    exact Ev.bind (put_ev acc x (by omega)) (ih (j + 1) (putL acc x) (by omega) (by omega) h)

theorem names_l0 (n : Int) (s : ByteArray) (l : List S24) (hl : l.length < 9000000) (hq : ∀ x ∈ l, Ev (fun k => plinthref03_Names.f k x.f0 x.f1 x.f2 x.f3) (refN x)) (U : List ByteArray) (hU : ∀ v ∈ nms l, v ∈ U) (hUn : U.length < 9000000) (d : Nat) : ∀ (i : Nat) (acc : List ByteArray), d + i = l.length → Asc acc → (∀ v ∈ acc, v ∈ U) →
    Ev (fun k => plinthref03_Names.l0 k acc (i : Int) 3 n s l) (refNs acc (l.drop i)) := by
  induction d with
  | zero =>
    intro i acc hi ha hau
    have e : l.drop i = [] := List.drop_eq_nil_of_le (by omega)
    rw [e]
    refine Ev.step (f := fun k => plinthref03_Names.j3 k acc (i : Int) (decide ((i : Int) < (l.length : Int))) 3 n s l) (fun k => by simp only [plinthref03_Names.l0]; rw [if_pos trivial]) ?_
    rw [decide_eq_false (by omega)]
    exact Ev.step (f := fun _ => some acc) (fun k => by simp only [plinthref03_Names.j3]; rw [if_neg (by simp)]) (Ev.now _)
  | succ d ih =>
    intro i acc hi ha hau
    obtain ⟨x, hx⟩ : ∃ x, l[i]? = some x := ⟨l[i]'(by omega), List.getElem?_eq_getElem _⟩
    have hx0 := refN_asc x
    have hxu : ∀ v ∈ refN x, v ∈ U := fun v hv => hU v (nms_mem (List.mem_of_getElem? hx) ((hx0.2 v).1 hv))
    have h1 : (refN x).length < 9000000 := by have := nodup_le hx0.1.nodup hxu; omega
    have h2 : acc.length < 9000000 := by have := nodup_le ha.nodup hau; omega
    have h3 := putAll_asc (refN x) acc ha
    rw [drop_at5 hx]
    refine Ev.step (f := fun k => plinthref03_Names.j3 k acc (i : Int) (decide ((i : Int) < (l.length : Int))) 3 n s l) (fun k => by simp only [plinthref03_Names.l0]; rw [if_pos trivial]) ?_
    rw [decide_eq_true (by omega)]
    refine Ev.step (f := fun k => (plinthref03_Names.f k x.f0 x.f1 x.f2 x.f3).bind fun t => plinthref03_Names.l1 k acc (i : Int) t ((0 : Nat) : Int) 3 n s l) (fun k => by
      simp only [plinthref03_Names.j3]
      rw [if_pos trivial, if_pos (by omega), if_pos (by omega), rd_x hx]; rfl) ?_
    refine Ev.bind (hq x (List.mem_of_getElem? hx)) ?_
    refine names_l1 n s l i (refN x) _ (by omega) (refN x).length 0 acc (by omega) (by simp only [List.drop_zero]; omega) ?_
    rw [wrap_up (by omega)]
    exact ih (i + 1) _ (by omega) (by simpa using h3.1) (fun v hv => by
      simp only [List.drop_zero] at hv
      rcases (h3.2 v).1 hv with h | h
      · exact hau v h
      · exact hxu v h)

mutual
theorem names_ev (U : List ByteArray) (hUn : U.length < 9000000) : ∀ x : S24, wid x < 9000000 → (∀ v ∈ nm x, v ∈ U) → Ev (fun k => plinthref03_Names.f k x.f0 x.f1 x.f2 x.f3) (refN x)
  | ⟨a, n, s, l⟩, h, hv => by
    have hl := names_evs U hUn l
    have hk := wid_kids ⟨a, n, s, l⟩
    simp only [] at hk
    have hll := wids_len l
    simp only [refN]
    have tail : ∀ (acc : List ByteArray), a ≠ 3 → Ev (fun k => plinthref03_Names.j1 k acc a n s l) acc := by
      intro acc ha
      refine Ev.step (f := fun k => plinthref03_Names.l0 k acc 0 a n s l) (fun k => by simp only [plinthref03_Names.j1]) ?_
      refine Ev.step (f := fun k => plinthref03_Names.j3 k acc 0 false a n s l) (fun k => by simp only [plinthref03_Names.l0]; rw [if_neg ha]) ?_
      exact Ev.step (f := fun _ => some acc) (fun k => by simp only [plinthref03_Names.j3]; rw [if_neg (by simp)]) (Ev.now _)
    by_cases h1 : a = 1
    · subst h1
      rw [if_neg (by decide)]
      refine Ev.step (f := fun k => (plinthref03_Reserved.f k s).bind fun t => plinthref03_Names.j0 k [] (!t) 1 n s l) (fun k => by simp only [plinthref03_Names.f, plinthref03_isWord.f]; rfl) ?_
      refine Ev.bind (reserved_ev s) ?_
      cases hr : resM s with
      | true =>
        rw [if_neg (by simp)]
        refine Ev.step (f := fun k => plinthref03_Names.j1 k [] 1 n s l) (fun k => by simp only [plinthref03_Names.j0]; rw [if_neg (by simp)]) ?_
        exact tail [] (by decide)
      | false =>
        rw [if_pos (by simp)]
        refine Ev.step (f := fun k => plinthref03_Names.j1 k [s] 1 n s l) (fun k => by simp only [plinthref03_Names.j0]; rw [if_pos (by simp)]) ?_
        exact tail [s] (by decide)
    · have e : (a == 1) = false := beq_eq_false_iff_ne.mpr h1
      refine Ev.step (f := fun k => plinthref03_Names.j0 k [] false a n s l) (fun k => by simp only [plinthref03_Names.f, plinthref03_isWord.f, e, Option.bind_some]; rw [if_neg (by simp)]) ?_
      refine Ev.step (f := fun k => plinthref03_Names.j1 k [] a n s l) (fun k => by simp only [plinthref03_Names.j0]; rw [if_neg (by simp)]) ?_
      by_cases h3 : a = 3
      · subst h3
        rw [if_pos rfl]
        refine Ev.step (f := fun k => plinthref03_Names.l0 k [] ((0 : Nat) : Int) 3 n s l) (fun k => by simp only [plinthref03_Names.j1]; rfl) ?_
        exact names_l0 n s l (by omega) (hl (by omega) (fun v h => hv v (by simpa [nm] using h))) U (fun v h => hv v (by simpa [nm] using h)) hUn l.length 0 [] (by omega) (by simp [Asc]) (fun v h => absurd h List.not_mem_nil)
      · rw [if_neg h3, if_neg (fun h => h1 h.1)]
        exact tail [] h3
theorem names_evs (U : List ByteArray) (hUn : U.length < 9000000) : ∀ l : List S24, wids l < 9000000 → (∀ v ∈ nms l, v ∈ U) → ∀ x ∈ l, Ev (fun k => plinthref03_Names.f k x.f0 x.f1 x.f2 x.f3) (refN x)
  | [], _, _, x, h => absurd h List.not_mem_nil
  | y :: l, hs, hv, x, h => by
    simp only [wids] at hs
    rcases List.mem_cons.1 h with h | h
    · rw [h]; exact names_ev U hUn y (by omega) (fun v h => hv v (by simp only [nms, List.mem_append]; exact .inl h))
    · exact names_evs U hUn l (by omega) (fun v h => hv v (by simp only [nms, List.mem_append]; exact .inr h)) x h
end

theorem RNames_any (x : S24) (U : List ByteArray) (A : Option Addr) (c : Nat) (w : World) (hr : Kd.C k24 w A x.f3.length x.f3) (hc : x.f3.length ≤ c) (hw : wid x < 9000000) (hU : ∀ v ∈ nm x, v ∈ U) (hn : U.length < 9000000) :
    Calls Tryz.prog 25 #[formV x.f0 x.f1 x.f2 A x.f3.length c] w fun e w' => ∃ A' c', e = .returned (.slice A' (refN x).length c') ∧ (refN x).length ≤ c' ∧ Kd.C Kd.string w' A' (refN x).length (refN x) ∧ Below w.heap.size w w' := by
  obtain ⟨k, hk⟩ := (names_ev U hn x hw hU).rounds
  refine (plinthref03_Names.calls k x.f0 x.f1 x.f2 A c x.f3 (refN x) w hr hc hk).mono ?_
  rintro e w' ⟨v, rfl, h, B⟩
  obtain ⟨A2, c2, rfl, h2, h3⟩ := Kd.R_reads h
  exact ⟨A2, c2, rfl, h2, h3, B⟩
theorem RHas1_any (l : List ByteArray) (s : ByteArray) (A : Option Addr) (c : Nat) (w : World) (hr : Kd.C Kd.string w A l.length l) (hc : l.length ≤ c) (hn : l.length < 9000000) :
    Calls Tryz.prog 24 #[.slice A l.length c, .string s] w fun e w' => e = .returned (.bool (decide (s ∈ l))) ∧ Below w.heap.size w w' := by
  obtain ⟨k, hk⟩ := (has1_ev l s (by omega)).rounds
  refine (plinthref01_Has.calls k A c l s _ w hr hc hk).mono ?_
  rintro e w' ⟨rfl, n, rfl⟩
  exact ⟨rfl, pw_below_drewN (Below.refl _ _) n⟩
theorem refN_is (x : S24) : (∀ t, t ∈ refN x ↔ t ∈ nm x) ∧ (refN x).Nodup := ⟨(refN_asc x).2, (refN_asc x).1.nodup⟩
theorem found_len {vs : List ByteArray} {fd : ByteArray → Option S24} {x y : S24} {mt : List (ByteArray × S24)} {T : List ByteArray} (h : Found vs fd x y mt T) : T.length ≤ vs.length := by
  obtain ⟨k1, _⟩ := inv_keys h.1
  exact nodup_le h.2.2.1.nodup (fun s hs => by obtain ⟨p, hp, rfl⟩ := (h.2.2.2.1 s).1 hs; exact k1 p hp)
end Go.Proofs.YtcjmplpfebpfpaaGreatDoor

namespace Go.Proofs.YtcjmplpfebpfpaaGreatDoor
open Go.RowKit Go.Proofs Go.Proofs.YtcjmplpfebpfpaaGreatDoorW.PrintWords Go.Proofs.YtcjmplpfebpfpaaGreatDoorW.PrintLast Go.Proofs.YtcjmplpfebpfpaaGreatDoorW.PrintMore PKindInstances
set_option linter.unusedVariables false
set_option linter.unusedSimpArgs false

/-- What holds of the loop over the variables. -/
def GvRel (WM : World) (vs N : List ByteArray) (k : Nat) (x8 : Value) (wr : World) : Prop :=
  ∃ (i : Nat), x8 = .int .i64 (i : Int) ∧ k + i = vs.length ∧ Below WM.heap.size WM wr ∧ ∀ v ∈ vs.take i, v ∉ N
/-- What holds of the loop over the pairs. -/
def GcRel (WM : World) (vs : List ByteArray) (by_ : List S51) (k : Nat) (x11 x12 : Value) (wr : World) : Prop :=
  ∃ (i : Nat) (b : Bool), x12 = .int .i64 (i : Int) ∧ x11 = .bool b ∧ k + i = by_.length ∧ Below WM.heap.size WM wr ∧ (b = true → ∀ p ∈ by_.take i, p.f0 ∈ vs)
set_option maxRecDepth 100000 in
set_option maxHeartbeats 16000000 in
theorem KindGeneral_any (vs : List ByteArray) (by_ : List S51) (x : S24) (w : World) (A AB V : Option Addr) (c cb cv : Nat) (ha : Kd.C k24 w A x.f3.length x.f3) (hac : x.f3.length ≤ c) (haw : wid x < 8000000) (hab : Kd.C k51 w AB by_.length by_) (hbc : by_.length ≤ cb) (hbw : ∀ p ∈ by_, wid p.f1 < 8000000)
    (hz : siz x + sizp by_ < 8000000) (hv : Kd.C Kd.string w V vs.length vs) (hvc : vs.length ≤ cv) (hvn : vs.length < 9000000) (hvz : ∀ v ∈ vs, v.size < 8000000) :
    Calls Tryz.prog 6 #[formV x.f0 x.f1 x.f2 A x.f3.length c, .slice AB by_.length cb, .slice V vs.length cv] w fun e w' => e = .returned (.bool true) ∧ Below w.heap.size w w' := by
  have hu24 := Tryz.underlying24
  have hu51 := Tryz.underlying51
  have hu25 := Tryz.underlying25
  have hu38 := Tryz.underlying38
  have hbn : by_.length < 8000000 := by have := sizp_len by_; omega
  have hfw : ∀ s z, findK by_ s = some z → wid z < 8000000 := fun s z h => by obtain ⟨p, hp, _, e⟩ := findK_mem h; rw [← e]; exact hbw p hp
  obtain ⟨Y, hY⟩ : ∃ Y, Y = appM (findK by_) x false := ⟨_, rfl⟩
  have hYw : wid Y < 8000000 := by rw [hY]; exact app_wid _ _ hfw x false haw
  have b0 : Below w.heap.size w (w.alloc (Obj.cells #[.int .i64 x.f0, .int .i64 x.f1, .string x.f2, .slice A x.f3.length c] 24)) := below_alloc (Below.refl _ _) _
  have x1 := (MapKept.heap_alloc w (Obj.cells #[.int .i64 x.f0, .int .i64 x.f1, .string x.f2, .slice A x.f3.length c] 24)).1
  have LI : Hid (∀ W, Below w.heap.size w W → Calls Tryz.prog 17 #[.slice (some ⟨W.heap.size, 0, none⟩) 1 1] (W.alloc (Obj.cells #[.int .i64 x.f0, .int .i64 x.f1, .string x.f2, .slice A x.f3.length c] 24)) fun e w' => (∃ b, e = .returned (.bool b) ∧ (b = true → lstM x = true)) ∧ Below W.heap.size W w') := fun W h => by
    have b1 : Below W.heap.size W (W.alloc (Obj.cells #[.int .i64 x.f0, .int .i64 x.f1, .string x.f2, .slice A x.f3.length c] 24)) := below_alloc (Below.refl _ _) _
    refine (listed_told [x] (some ⟨W.heap.size, 0, none⟩) 1 (W.alloc (Obj.cells #[.int .i64 x.f0, .int .i64 x.f1, .string x.f2, .slice A x.f3.length c] 24)) (one_row (MapKept.heap_alloc W _).1 (Kd.C_below (Kd.C_below ha h) b1) hac) (Nat.le_refl _) (by simp only [wids, List.length_nil]; omega)).mono ?_
    rintro e w' ⟨⟨b, rfl, hb⟩, hB⟩
    exact ⟨⟨b, rfl, fun h => by have := hb h; simpa [lstL] using this⟩, below_after b1 hB⟩
  have LP : Hid (∀ W, Below w.heap.size w W → _) := fun W h => listedPairs_any by_ AB cb W (Kd.C_below hab h) (by omega) hbw
  have AP : Hid (∀ W, Below w.heap.size w W → Calls Tryz.prog 10 #[formV x.f0 x.f1 x.f2 A x.f3.length c, .slice AB by_.length cb] W (AppPost W (fun k => k < w.heap.size) Y)) := fun W h => by
    rw [hY]
    exact Apply_any x by_ W _ A AB c cb (Kd.F_below (Kd.C_F k24_heap ha) h) hac (by omega) (Kd.F_below (Kd.C_F k51_heap hab) h) hbc (by omega)
  have NM : Hid (∀ (W : World) (B : Option Addr) (d : Nat), Kd.C k24 W B Y.f3.length Y.f3 → Y.f3.length ≤ d → _) := fun W B d h hd => RNames_any Y (nm x ++ namesP by_) B d W h hd (by omega) (by rw [hY]; exact names_in x by_) (by
    rw [List.length_append]
    have := nm_len x
    have := namesP_len by_
    omega)
  have RNlen : Hid ((refN Y).length < 9000000) := by
    have h1 := nodup_le (refN_is Y).2 (m := nm x ++ namesP by_) (fun v hv => by
      have := ((refN_is Y).1 v).1 hv
      rw [hY] at this
      exact names_in x by_ v this)
    rw [List.length_append] at h1
    have := nm_len x
    have := namesP_len by_
    show (refN Y).length < 9000000
    omega
  have HVS : Hid (∀ W, Below w.heap.size w W → _) := fun W h => Kd.C_below hv h
  have HBY : Hid (∀ W, Below w.heap.size w W → _) := fun W h => Kd.F_below (Kd.C_F k51_heap hab) h
  have UN : Hid (lstM x = true → Nov vs Y → ∀ (W : World) (B : Option Addr) (d : Nat), Below w.heap.size w W → Kd.C k24 W B Y.f3.length Y.f3 → Y.f3.length ≤ d → Calls Tryz.prog 22 #[formV x.f0 x.f1 x.f2 A x.f3.length c, formV Y.f0 Y.f1 Y.f2 B Y.f3.length d, .slice V vs.length cv] W (TwoPost W (GenR vs (findK by_) x Y))) := fun hl hn W B d hB h1 h2 => by
    rw [hY] at hn h1 h2 ⊢
    exact Unify_gen vs (findK by_) x W A B V c d cv (Kd.C_below hv hB) hvc (Kd.C_below ha hB) hac h1 h2 hvn hvz (by omega) (by rw [hY] at hYw; omega) hl hn
  have AP2 : Hid (∀ (mt : List (ByteArray × S24)) (T : List ByteArray), Found vs (findK by_) x Y mt T → T.length < 9000000 → ∀ (W : World) (AL : Option Addr) (cL : Nat), Below w.heap.size w W → Kd.C k51 W AL T.length (kOut mt T) → T.length ≤ cL →
      Calls Tryz.prog 10 #[formV x.f0 x.f1 x.f2 A x.f3.length c, .slice AL T.length cL] W fun e w' => ∃ R A3 c3, e = .returned (formV R.f0 R.f1 R.f2 A3 R.f3.length c3) ∧ R.f3.length ≤ c3 ∧ Kd.C k24 w' A3 R.f3.length R.f3 ∧ wid R < 8000000 ∧ eqM R Y = true ∧ Below W.heap.size W w') := fun mt T hF hTn W AL cL hB hC hcL => by
    have hkl : (kOut mt T).length = T.length := by simp [kOut]
    have h := Apply_any x (kOut mt T) W (fun k => k < W.heap.size) A AL c cL (Kd.C_F k24_heap (Kd.C_below ha hB)) hac (by omega) (by rw [hkl]; exact Kd.C_F k51_heap hC) (by omega) (by omega)
    rw [hkl] at h
    refine h.mono ?_
    rintro e w' ⟨A3, c3, rfl, h1, h2, h3⟩
    have hfit := found_fits hF
    refine ⟨_, A3, c3, rfl, h1, Kd.F_now h2, app_wid _ _ (fun s z hz => ?_) x false haw, hF.2.1 _ hfit, h3⟩
    obtain ⟨p, hp, _, e⟩ := findK_mem hz
    rw [← e]
    exact out_wid hfw (by omega) hF.1 p hp
  have CV : Hid ((∀ p ∈ by_, p.f0 ∈ vs) → Cov vs (findK by_)) := fun h => covered h
  have TN : Hid (∀ mt T, Found vs (findK by_) x Y mt T → T.length < 9000000) := fun mt T h => by
    have := found_len h
    omega
  have X1 : Hid _ := x1
  have B0 : Hid _ := b0
  clear ha hab hbw hfw hY b0 x1 hv hvz hz haw
  obtain ⟨x0, x1, x2, x3⟩ := x
  simp only [] at hac LI AP UN AP2 X1 B0
  go_enter Tryz.func6, Tryz.ntmps6
  go_upto_region 1 with fail
  generalize w.alloc (Obj.cells #[.int .i64 x0, .int .i64 x1, .string x2, .slice A x3.length c] 24) = X at *
  obtain ⟨p0, p1, p2, p3⟩ := cells4 X1.out
  go_wp2_with fail
  refine Calls.mono (LI.out _ B0.out) ?_
  rintro e w1 ⟨⟨b, rfl, hb⟩, B1⟩
  have HB1 : Hid (Below w.heap.size w w1) := below_after B0.out B1
  replace p0 := pw_cell_below B1 p0
  replace p1 := pw_cell_below B1 p1
  replace p2 := pw_cell_below B1 p2
  replace p3 := pw_cell_below B1 p3
  have X1b : Hid _ := blk_below X1.out B1
  clear B1
  cases b with
  | false =>
    go_wp2_with fail
    refine (sane_any _).mono ?_
    rintro e w9 ⟨rfl, B9⟩
    have HB9 : Hid (Below w.heap.size w w9) := below_after HB1.out B9
    clear B9
    go_wp2_with fail
    go_ret
    exact ⟨rfl, HB9.out⟩
  | true =>
    have hlx : Hid _ := hb rfl
    clear hb
    go_wp2_with fail
    refine Calls.mono (LP.out _ HB1.out) ?_
    rintro e w2 ⟨⟨b2, rfl⟩, B2⟩
    have HB2 : Hid (Below w.heap.size w w2) := below_after HB1.out B2
    replace p0 := pw_cell_below B2 p0
    replace p1 := pw_cell_below B2 p1
    replace p2 := pw_cell_below B2 p2
    replace p3 := pw_cell_below B2 p3
    have X1c : Hid _ := blk_below X1b.out B2
    clear B2
    cases b2 with
    | false =>
      go_wp2_with fail
      refine (sane_any _).mono ?_
      rintro e w9 ⟨rfl, B9⟩
      have HB9 : Hid (Below w.heap.size w w9) := below_after HB2.out B9
      clear B9
      go_wp2_with fail
      go_ret
      exact ⟨rfl, HB9.out⟩
    | true =>
      go_wp2_with fail
      refine Calls.mono (AP.out _ HB2.out) ?_
      rintro e w3 ⟨AY, cY, rfl, hcY, hFY, B3⟩
      go_upto_region 4 with fail
      have HB3 : Hid (Below w.heap.size w w3) := below_after HB2.out B3
      have bm : Below w3.heap.size w3 (w3.alloc (Obj.cells #[.int .i64 Y.f0, .int .i64 Y.f1, .string Y.f2, .slice AY Y.f3.length cY] 24)) := below_alloc (Below.refl _ _) _
      have HM : Hid (Below w.heap.size w (w3.alloc (Obj.cells #[.int .i64 Y.f0, .int .i64 Y.f1, .string Y.f2, .slice AY Y.f3.length cY] 24))) := below_after HB3.out bm
      have CY : Hid (Kd.C k24 (w3.alloc (Obj.cells #[.int .i64 Y.f0, .int .i64 Y.f1, .string Y.f2, .slice AY Y.f3.length cY] 24)) AY Y.f3.length Y.f3) := Kd.C_below (Kd.F_now hFY) bm
      have YB : Hid _ := (MapKept.heap_alloc w3 (Obj.cells #[.int .i64 Y.f0, .int .i64 Y.f1, .string Y.f2, .slice AY Y.f3.length cY] 24)).1
      have XBm : Hid _ := blk_below (blk_below X1c.out B3) bm
      clear B3 bm hFY p0 p1 p2 p3
      generalize w3.alloc (Obj.cells #[.int .i64 Y.f0, .int .i64 Y.f1, .string Y.f2, .slice AY Y.f3.length cY] 24) = M at *
      generalize w3.heap.size = bY at *
      have start : Hid (GvRel M vs (refN Y) vs.length (.int .i64 ((0 : Nat) : Int)) M) := ⟨0, rfl, rfl, Below.refl _ _, fun v h => absurd h (by simp)⟩
      go_wp2_with fail
      go_loopg [8] vs.length (fun k x8 wr => GvRel M vs (refN Y) k x8 wr)
      case atStart => exact start.out
      case round =>
        clear start
        obtain ⟨i, rfl, hki, hB, hN⟩ := hrel
        have yb := blk_below YB.out hB
        have xb := blk_below XBm.out hB
        by_cases hlt : i < vs.length
        · obtain ⟨g, rfl⟩ : ∃ g, gk = g + 1 := ⟨gk - 1, by omega⟩
          have e1 : decide (i < vs.length) = true := decide_eq_true hlt
          obtain ⟨v, hv⟩ : ∃ v, vs[i]? = some v := ⟨vs[i]'hlt, List.getElem?_eq_getElem _⟩
          have htk : vs.take (i + 1) = vs.take i ++ [v] := by rw [List.take_add_one, hv]; rfl
          obtain ⟨ad, rfl, g0⟩ := text_at (HVS.out _ HM.out) hv
          replace g0 := pw_cell_below hB g0
          obtain ⟨q0, q1, q2, q3⟩ := cells4 yb
          have GS : Hid (∀ W, Below wr.heap.size wr W → W.cell? ⟨bY, 0, none⟩ = some (.int .i64 Y.f0) ∧ W.cell? ⟨bY, 1, none⟩ = some (.int .i64 Y.f1) ∧ W.cell? ⟨bY, 2, none⟩ = some (.string Y.f2) ∧ W.cell? ⟨bY, 3, none⟩ = some (.slice AY Y.f3.length cY) ∧ W.cell? (ad.add i) = some (.string v)) := fun W h => ⟨pw_cell_below h q0, pw_cell_below h q1, pw_cell_below h q2, pw_cell_below h q3, pw_cell_below h g0⟩
          have HBr : Hid (Below M.heap.size M wr) := hB
          have HTK : Hid _ := htk
          have HNr : Hid _ := hN
          clear hv htk g0 q0 q1 q2 q3 hB hN yb xb
          go_upto_region 7 with fail
          refine wp_region_held_drew (S := fun W => W.cell? ⟨bY, 0, none⟩ = some (.int .i64 Y.f0) ∧ W.cell? ⟨bY, 1, none⟩ = some (.int .i64 Y.f1) ∧ W.cell? ⟨bY, 2, none⟩ = some (.string Y.f2) ∧ W.cell? ⟨bY, 3, none⟩ = some (.slice AY Y.f3.length cY) ∧ W.cell? (ad.add i) = some (.string v)) (by kernel_rfl) (GS.out _ (below_drew (Below.refl _ _))) (fun hHeld => ?_)
          refine takeV 0 (some 32) (formV Y.f0 Y.f1 Y.f2 AY Y.f3.length cY) rfl rfl (by kernel_rfl) (by kernel_rfl) (by kernel_rfl) (fun _ _ _ h => h) (Or.inl ⟨by kernel_rfl, fun W hSw => by obtain ⟨s0, s1, s2, s3, s4⟩ := hSw; go_simp⟩) hHeld ?_
          try simp only [Act.put, List.setIfInBounds_toArray, List.set_cons_zero, List.set_cons_succ]
          refine takeV 2 (some 34) (.slice (some ad) vs.length cv) rfl rfl (by kernel_rfl) (by kernel_rfl) (by kernel_rfl) (fun _ _ _ h => h) (Or.inl ⟨by kernel_rfl, fun W hSw => by obtain ⟨s0, s1, s2, s3, s4⟩ := hSw; go_simp⟩) hHeld ?_
          try simp only [Act.put, List.setIfInBounds_toArray, List.set_cons_zero, List.set_cons_succ]
          refine takeV 3 (some 35) (.int .i64 (i : Int)) rfl rfl (by kernel_rfl) (by kernel_rfl) (by kernel_rfl) (fun _ _ _ h => h) (Or.inl ⟨by kernel_rfl, fun W hSw => by obtain ⟨s0, s1, s2, s3, s4⟩ := hSw; go_simp⟩) hHeld ?_
          try simp only [Act.put, List.setIfInBounds_toArray, List.set_cons_zero, List.set_cons_succ]
          refine takeV 4 (some 36) (.pointer (some (ad.add i))) rfl rfl (by kernel_rfl) (by kernel_rfl) (by kernel_rfl) (fun _ _ _ h => h) (Or.inl ⟨by kernel_rfl, fun W hSw => by obtain ⟨s0, s1, s2, s3, s4⟩ := hSw; go_simp; first | done | (intro h9; exact absurd h9 (by omega))⟩) hHeld ?_
          try simp only [Act.put, List.setIfInBounds_toArray, List.set_cons_zero, List.set_cons_succ]
          refine takeV 5 (some 37) (.string v) rfl rfl (by kernel_rfl) (by kernel_rfl) (by kernel_rfl) (fun _ _ _ h => h) (Or.inl ⟨by kernel_rfl, fun W hSw => by obtain ⟨s0, s1, s2, s3, s4⟩ := hSw; go_simp⟩) hHeld ?_
          try simp only [Act.put, List.setIfInBounds_toArray, List.set_cons_zero, List.set_cons_succ]
          generalize hZ' : wr.drew = Z0
          have H0 : Hid (Below wr.heap.size wr Z0) := (by subst hZ'; exact below_drew (Below.refl _ _))
          clear hZ'
          refine wpAnyH_ready (rs := [1]) (by kernel_rfl) (by simp) ?_
          refine AllReadyH.cons rfl (fun K hK => ?_) AllReadyH.nil
          clear hHeld
          go_simp
          go_at_call 25
          refine Calls.mono (NM.out Z0 AY cY (Kd.C_below CY.out (below_after HBr.out H0.out)) hcY) ?_
          rintro e W1 ⟨AN, cN, rfl, hcN, hCN, B7⟩
          have H1 : Hid (Below wr.heap.size wr W1) := below_after H0.out B7
          have hnl : (refN Y).length < 9000000 := RNlen.out
          have RH : Hid _ := RHas1_any (refN Y) v AN cN W1 hCN hcN hnl
          clear hCN B7
          go_wp2_with fail
          refine hK.out _ _ (GS.out _ H1.out) (fun hHeld => ?_)
          clear hK K
          try simp only [Act.put, List.setIfInBounds_toArray, List.set_cons_zero, List.set_cons_succ]
          refine wpAnyH_ready (rs := [6]) (by kernel_rfl) (by simp) ?_
          refine AllReadyH.cons rfl (fun K hK => ?_) AllReadyH.nil
          clear hHeld
          go_simp
          go_at_call 24
          refine Calls.mono RH.out ?_
          rintro e W2 ⟨rfl, B8⟩
          have H2 : Hid (Below wr.heap.size wr W2) := below_after H1.out B8
          clear B8
          obtain ⟨hb, hhb⟩ : ∃ hb, hb = decide (v ∈ refN Y) := ⟨_, rfl⟩
          rw [← hhb]
          have HHB : Hid _ := hhb
          clear hhb
          go_wp2_with fail
          refine hK.out _ _ (GS.out _ H2.out) (fun hHeld => ?_)
          clear hK K
          try simp only [Act.put, List.setIfInBounds_toArray, List.set_cons_zero, List.set_cons_succ]
          cases hb with
          | true =>
            refine wpAnyH_done (by kernel_rfl) ?_ _
            go_wp2_with fail
            refine (sane_any _).mono ?_
            rintro e w9 ⟨rfl, B9⟩
            have HB9 : Hid (Below w.heap.size w w9) := below_after (below_after (below_after HM.out HBr.out) H2.out) B9
            clear B9
            go_wp2_with fail
            go_ret
            exact ⟨rfl, HB9.out⟩
          | false =>
            refine wpAnyH_done (by kernel_rfl) ?_ _
            go_wp2_with fail
            go_roundg g
            case measure => omega
            case rel => exact ⟨i + 1, by go_num, by omega, below_after HBr.out H2.out, fun q hq => by
              rw [HTK.out] at hq
              rcases List.mem_append.1 hq with hq | hq
              · exact HNr.out q hq
              · obtain rfl := List.mem_singleton.1 hq
                exact of_decide_eq_false HHB.out.symm⟩
        · have e1 : decide (i < vs.length) = false := decide_eq_false hlt
          rw [List.take_of_length_le (by omega)] at hN
          have hnov : Hid (Nov vs Y) := fun v hv hm => hN v hv (((refN_is Y).1 v).2 hm)
          have HBr : Hid (Below M.heap.size M wr) := hB
          obtain ⟨q0, q1, q2, q3⟩ := cells4 yb
          obtain ⟨p0, p1, p2, p3⟩ := cells4 xb
          have YBr : Hid _ := yb
          have XBr : Hid _ := xb
          have hge : vs.length ≤ i := by omega
          clear hN hB yb xb
          go_wp2_with fail
          refine Calls.mono (UN.out hlx.out hnov.out _ AY cY (below_after HM.out HBr.out) (Kd.C_below CY.out HBr.out) hcY) ?_
          rintro e w5 ⟨AL, nL, cL, E, rfl, hE, B5⟩
          have below5 : Hid (Below wr.heap.size wr w5) := B5
          have HB5 : Hid (Below w.heap.size w w5) := below_after (below_after HM.out HBr.out) B5
          have y5 := blk_below YBr.out B5
          have x5 := blk_below XBr.out B5
          clear q0 q1 q2 q3 p0 p1 p2 p3 B5
          by_cases hE1 : E = 1
          · subst hE1
            clear hE
            go_wp2_with fail
            refine (sane_any _).mono ?_
            rintro e w9 ⟨rfl, B9⟩
            have HB9 : Hid (Below w.heap.size w w9) := below_after HB5.out B9
            clear B9
            go_wp2_with fail
            go_ret
            exact ⟨rfl, HB9.out⟩
          · by_cases hE2 : E = 2
            · subst hE2
              clear hE
              go_wp2_with fail
              refine (sane_any _).mono ?_
              rintro e w9 ⟨rfl, B9⟩
              have HB9 : Hid (Below w.heap.size w w9) := below_after HB5.out B9
              clear B9
              go_wp2_with fail
              go_ret
              exact ⟨rfl, HB9.out⟩
            · have b1 : (E == 1) = false := beq_eq_false_iff_ne.mpr hE1
              have b2 : (E == 2) = false := beq_eq_false_iff_ne.mpr hE2
              have Y5 : Hid _ := y5
              have X5 : Hid _ := x5
              have start : Hid (GcRel w5 vs by_ by_.length (.bool true) (.int .i64 ((0 : Nat) : Int)) w5) := ⟨0, true, rfl, rfl, rfl, Below.refl _ _, fun _ p h => absurd h (by simp)⟩
              have HE : Hid _ := hE
              have HE1 : Hid _ := hE1
              have HE2 : Hid _ := hE2
              clear y5 x5 hE hE1 hE2
              go_wp2_with fail
              go_loopg [11, 12] by_.length (fun k x11 x12 wr => GcRel w5 vs by_ k x11 x12 wr)
              case atStart => exact start.out
              case round =>
                clear start
                obtain ⟨j, cv', rfl, rfl, hkj, hBc, hC⟩ := hrel
                by_cases hlj : j < by_.length
                · obtain ⟨g, rfl⟩ : ∃ g, gk = g + 1 := ⟨gk - 1, by omega⟩
                  have e2 : decide (j < by_.length) = true := decide_eq_true hlj
                  obtain ⟨p, hp⟩ : ∃ p, by_[j]? = some p := ⟨by_[j]'hlj, List.getElem?_eq_getElem _⟩
                  have htk : by_.take (j + 1) = by_.take j ++ [p] := by rw [List.take_add_one, hp]; rfl
                  have HTK : Hid _ := htk
                  have HBc : Hid (Below w5.heap.size w5 wr) := hBc
                  have HC : Hid _ := hC
                  cases cv' with
                  | false =>
                    clear hp htk hBc hC
                    go_wp2_with fail
                    go_roundg g
                    case measure => omega
                    case rel => exact ⟨j + 1, false, by go_num, rfl, by omega, HBc.out, fun h => by cases h⟩
                  | true =>
                    obtain ⟨ad, A3, c3, rfl, g0, _, _, _, _, _, _⟩ := row_at51 (HBY.out wr (below_after HB5.out HBc.out)) hlj hp
                    have RH : Hid _ := RHas1_any vs p.f0 V cv wr (HVS.out wr (below_after HB5.out HBc.out)) hvc hvn
                    obtain ⟨hb, hhb⟩ : ∃ hb, hb = decide (p.f0 ∈ vs) := ⟨_, rfl⟩
                    rw [← hhb] at RH
                    have HHB : Hid _ := hhb
                    clear hp htk hBc hC hhb
                    go_wp2_with fail
                    refine Calls.mono RH.out ?_
                    rintro e w6 ⟨rfl, B6⟩
                    have HB6 : Hid (Below w5.heap.size w5 w6) := below_after HBc.out B6
                    clear B6
                    go_wp2_with fail
                    go_roundg g
                    case measure => omega
                    case rel => exact ⟨j + 1, hb, by go_num, rfl, by omega, HB6.out, fun h q hq => by
                      rw [HTK.out] at hq
                      rcases List.mem_append.1 hq with hq | hq
                      · exact HC.out (by simp) q hq
                      · obtain rfl := List.mem_singleton.1 hq
                        exact of_decide_eq_true (by rw [← HHB.out]; exact h)⟩
                · have e2 : decide (j < by_.length) = false := decide_eq_false hlj
                  rw [List.take_of_length_le (by omega)] at hC
                  have HBc : Hid (Below w5.heap.size w5 wr) := hBc
                  have yc := blk_below Y5.out hBc
                  have xc := blk_below X5.out hBc
                  have HWC : Hid (Below w.heap.size w wr) := below_after HB5.out hBc
                  have hgj : by_.length ≤ j := by omega
                  by_cases hE0 : E = 0
                  · subst hE0
                    have hE9 : ∃ mt T, Found vs (findK by_) ⟨x0, x1, x2, x3⟩ Y mt T ∧ nL = T.length ∧ T.length ≤ cL ∧ Kd.C k51 w5 AL T.length (kOut mt T) := by
                      rcases HE.out with h | h | h | ⟨_, mt, T, A9, c9, hF, e9, h1, h2⟩
                      · exact absurd h (by decide)
                      · exact absurd h (by decide)
                      · exact absurd rfl h.1
                      · injection e9 with ea eb ec
                        subst ea eb ec
                        exact ⟨mt, T, hF, rfl, h1, h2⟩
                    obtain ⟨mt, T, hF, rfl, hTc, hTC⟩ := hE9
                    obtain ⟨q0, q1, q2, q3⟩ := cells4 yc
                    obtain ⟨p0, p1, p2, p3⟩ := cells4 xc
                    have GS : Hid (∀ W, Below wr.heap.size wr W → W.cell? ⟨w.heap.size, 0, none⟩ = some (.int .i64 x0) ∧ W.cell? ⟨w.heap.size, 1, none⟩ = some (.int .i64 x1) ∧ W.cell? ⟨w.heap.size, 2, none⟩ = some (.string x2) ∧ W.cell? ⟨w.heap.size, 3, none⟩ = some (.slice A x3.length c) ∧ W.cell? ⟨bY, 0, none⟩ = some (.int .i64 Y.f0) ∧ W.cell? ⟨bY, 1, none⟩ = some (.int .i64 Y.f1) ∧ W.cell? ⟨bY, 2, none⟩ = some (.string Y.f2) ∧ W.cell? ⟨bY, 3, none⟩ = some (.slice AY Y.f3.length cY)) := fun W h => ⟨pw_cell_below h p0, pw_cell_below h p1, pw_cell_below h p2, pw_cell_below h p3, pw_cell_below h q0, pw_cell_below h q1, pw_cell_below h q2, pw_cell_below h q3⟩
                    have A2 : Hid (∀ W, Below wr.heap.size wr W → _) := fun W h => AP2.out mt T hF (TN.out mt T hF) W AL cL (below_after HWC.out h) (Kd.C_below hTC (below_after HBc.out h)) hTc
                    have CYr : Hid (∀ W, Below wr.heap.size wr W → Kd.C k24 W AY Y.f3.length Y.f3) := fun W h => Kd.C_below CY.out (below_after HBr.out (below_after (below5.out) (below_after HBc.out h)))
                    clear hF hTC hBc hC q0 q1 q2 q3 p0 p1 p2 p3 yc xc
                    cases cv' with
                    | false =>
                      go_upto_region 19 with fail
                      refine wp_region_held_drew (S := fun W => W.cell? ⟨w.heap.size, 0, none⟩ = some (.int .i64 x0) ∧ W.cell? ⟨w.heap.size, 1, none⟩ = some (.int .i64 x1) ∧ W.cell? ⟨w.heap.size, 2, none⟩ = some (.string x2) ∧ W.cell? ⟨w.heap.size, 3, none⟩ = some (.slice A x3.length c) ∧ W.cell? ⟨bY, 0, none⟩ = some (.int .i64 Y.f0) ∧ W.cell? ⟨bY, 1, none⟩ = some (.int .i64 Y.f1) ∧ W.cell? ⟨bY, 2, none⟩ = some (.string Y.f2) ∧ W.cell? ⟨bY, 3, none⟩ = some (.slice AY Y.f3.length cY)) (by kernel_rfl) (GS.out _ (below_drew (Below.refl _ _))) (fun hHeld => ?_)
                      refine takeV 0 (some 75) (.int .i64 0) rfl rfl (by kernel_rfl) (by kernel_rfl) (by kernel_rfl) (fun _ _ _ h => h) (Or.inl ⟨by kernel_rfl, fun W hSw => by go_simp⟩) hHeld ?_
                      try simp only [Act.put, List.setIfInBounds_toArray, List.set_cons_zero, List.set_cons_succ]
                      refine takeV 1 (some 76) (.bool true) rfl rfl (by kernel_rfl) (by kernel_rfl) (by kernel_rfl) (fun _ _ _ h => h) (Or.inl ⟨by kernel_rfl, fun W hSw => by go_simp⟩) hHeld ?_
                      try simp only [Act.put, List.setIfInBounds_toArray, List.set_cons_zero, List.set_cons_succ]
                      refine takeV 2 (some 77) (.bool true) rfl rfl (by kernel_rfl) (by kernel_rfl) (by kernel_rfl) (fun _ _ _ h => h) (Or.inl ⟨by kernel_rfl, fun W hSw => by go_simp⟩) hHeld ?_
                      try simp only [Act.put, List.setIfInBounds_toArray, List.set_cons_zero, List.set_cons_succ]
                      refine takeV 3 (some 78) (formV x0 x1 x2 A x3.length c) rfl rfl (by kernel_rfl) (by kernel_rfl) (by kernel_rfl) (fun _ _ _ h => h) (Or.inl ⟨by kernel_rfl, fun W hSw => by obtain ⟨s0, s1, s2, s3, s4, s5, s6, s7⟩ := hSw; go_simp⟩) hHeld ?_
                      try simp only [Act.put, List.setIfInBounds_toArray, List.set_cons_zero, List.set_cons_succ]
                      refine takeV 4 (some 79) (.slice AL T.length cL) rfl rfl (by kernel_rfl) (by kernel_rfl) (by kernel_rfl) (fun _ _ _ h => h) (Or.inl ⟨by kernel_rfl, fun W hSw => by go_simp⟩) hHeld ?_
                      try simp only [Act.put, List.setIfInBounds_toArray, List.set_cons_zero, List.set_cons_succ]
                      refine takeV 6 (some 81) (formV Y.f0 Y.f1 Y.f2 AY Y.f3.length cY) rfl rfl (by kernel_rfl) (by kernel_rfl) (by kernel_rfl) (fun _ _ _ h => h) (Or.inl ⟨by kernel_rfl, fun W hSw => by obtain ⟨s0, s1, s2, s3, s4, s5, s6, s7⟩ := hSw; go_simp⟩) hHeld ?_
                      try simp only [Act.put, List.setIfInBounds_toArray, List.set_cons_zero, List.set_cons_succ]
                      generalize hZ' : wr.drew = Z0
                      have H0 : Hid (Below wr.heap.size wr Z0) := (by subst hZ'; exact below_drew (Below.refl _ _))
                      clear hZ'
                      refine wpAnyH_ready (rs := [5]) (by kernel_rfl) (by simp) ?_
                      refine AllReadyH.cons rfl (fun K hK => ?_) AllReadyH.nil
                      clear hHeld
                      go_simp
                      go_at_call 10
                      refine Calls.mono (A2.out Z0 H0.out) ?_
                      rintro e W1 ⟨R, A3, c3, rfl, hc3, hC3, hRw, hRe, B7⟩
                      have H1 : Hid (Below wr.heap.size wr W1) := below_after H0.out B7
                      have RE : Hid _ := REqual_any R Y A3 AY c3 cY W1 hC3 hc3 (CYr.out W1 H1.out) hcY (by omega) (by omega)
                      rw [hRe] at RE
                      clear hC3 B7 hRe
                      go_wp2_with fail
                      refine hK.out _ _ (GS.out _ H1.out) (fun hHeld => ?_)
                      clear hK K
                      try simp only [Act.put, List.setIfInBounds_toArray, List.set_cons_zero, List.set_cons_succ]
                      refine wpAnyH_ready (rs := [7]) (by kernel_rfl) (by simp) ?_
                      refine AllReadyH.cons rfl (fun K hK => ?_) AllReadyH.nil
                      clear hHeld
                      go_simp
                      go_at_call 11
                      refine Calls.mono RE.out ?_
                      rintro e W2 ⟨rfl, B8⟩
                      have H2 : Hid (Below wr.heap.size wr W2) := below_after H1.out B8
                      clear B8
                      go_wp2_with fail
                      refine hK.out _ _ (GS.out _ H2.out) (fun hHeld => ?_)
                      clear hK K
                      try simp only [Act.put, List.setIfInBounds_toArray, List.set_cons_zero, List.set_cons_succ]
                      refine takeV 8 (some 83) (.bool false) rfl rfl (by kernel_rfl) (by kernel_rfl) (by kernel_rfl) (fun _ _ _ h => h) (Or.inl ⟨by kernel_rfl, fun W hSw => by go_simp⟩) hHeld ?_
                      try simp only [Act.put, List.setIfInBounds_toArray, List.set_cons_zero, List.set_cons_succ]
                      refine takeV 9 (some 84) (.bool false) rfl rfl (by kernel_rfl) (by kernel_rfl) (by kernel_rfl) (fun _ _ _ h => h) (Or.inl ⟨by kernel_rfl, fun W hSw => by go_simp⟩) hHeld ?_
                      try simp only [Act.put, List.setIfInBounds_toArray, List.set_cons_zero, List.set_cons_succ]
                      refine wpAnyH_done (by kernel_rfl) ?_ _
                      go_wp2_with fail
                      refine (sane_any _).mono ?_
                      rintro e w9 ⟨rfl, B9⟩
                      have HB9 : Hid (Below w.heap.size w w9) := below_after (below_after HWC.out H2.out) B9
                      clear B9
                      go_wp2_with fail
                      go_ret
                      exact ⟨rfl, HB9.out⟩
                    | true =>
                      go_upto_region 19 with fail
                      refine wp_region_held_drew (S := fun W => W.cell? ⟨w.heap.size, 0, none⟩ = some (.int .i64 x0) ∧ W.cell? ⟨w.heap.size, 1, none⟩ = some (.int .i64 x1) ∧ W.cell? ⟨w.heap.size, 2, none⟩ = some (.string x2) ∧ W.cell? ⟨w.heap.size, 3, none⟩ = some (.slice A x3.length c) ∧ W.cell? ⟨bY, 0, none⟩ = some (.int .i64 Y.f0) ∧ W.cell? ⟨bY, 1, none⟩ = some (.int .i64 Y.f1) ∧ W.cell? ⟨bY, 2, none⟩ = some (.string Y.f2) ∧ W.cell? ⟨bY, 3, none⟩ = some (.slice AY Y.f3.length cY)) (by kernel_rfl) (GS.out _ (below_drew (Below.refl _ _))) (fun hHeld => ?_)
                      refine takeV 0 (some 75) (.int .i64 0) rfl rfl (by kernel_rfl) (by kernel_rfl) (by kernel_rfl) (fun _ _ _ h => h) (Or.inl ⟨by kernel_rfl, fun W hSw => by go_simp⟩) hHeld ?_
                      try simp only [Act.put, List.setIfInBounds_toArray, List.set_cons_zero, List.set_cons_succ]
                      refine takeV 1 (some 76) (.bool true) rfl rfl (by kernel_rfl) (by kernel_rfl) (by kernel_rfl) (fun _ _ _ h => h) (Or.inl ⟨by kernel_rfl, fun W hSw => by go_simp⟩) hHeld ?_
                      try simp only [Act.put, List.setIfInBounds_toArray, List.set_cons_zero, List.set_cons_succ]
                      refine takeV 2 (some 77) (.bool true) rfl rfl (by kernel_rfl) (by kernel_rfl) (by kernel_rfl) (fun _ _ _ h => h) (Or.inl ⟨by kernel_rfl, fun W hSw => by go_simp⟩) hHeld ?_
                      try simp only [Act.put, List.setIfInBounds_toArray, List.set_cons_zero, List.set_cons_succ]
                      refine takeV 3 (some 78) (formV x0 x1 x2 A x3.length c) rfl rfl (by kernel_rfl) (by kernel_rfl) (by kernel_rfl) (fun _ _ _ h => h) (Or.inl ⟨by kernel_rfl, fun W hSw => by obtain ⟨s0, s1, s2, s3, s4, s5, s6, s7⟩ := hSw; go_simp⟩) hHeld ?_
                      try simp only [Act.put, List.setIfInBounds_toArray, List.set_cons_zero, List.set_cons_succ]
                      refine takeV 4 (some 79) (.slice AL T.length cL) rfl rfl (by kernel_rfl) (by kernel_rfl) (by kernel_rfl) (fun _ _ _ h => h) (Or.inl ⟨by kernel_rfl, fun W hSw => by go_simp⟩) hHeld ?_
                      try simp only [Act.put, List.setIfInBounds_toArray, List.set_cons_zero, List.set_cons_succ]
                      refine takeV 6 (some 81) (formV Y.f0 Y.f1 Y.f2 AY Y.f3.length cY) rfl rfl (by kernel_rfl) (by kernel_rfl) (by kernel_rfl) (fun _ _ _ h => h) (Or.inl ⟨by kernel_rfl, fun W hSw => by obtain ⟨s0, s1, s2, s3, s4, s5, s6, s7⟩ := hSw; go_simp⟩) hHeld ?_
                      try simp only [Act.put, List.setIfInBounds_toArray, List.set_cons_zero, List.set_cons_succ]
                      generalize hZ' : wr.drew = Z0
                      have H0 : Hid (Below wr.heap.size wr Z0) := (by subst hZ'; exact below_drew (Below.refl _ _))
                      clear hZ'
                      refine wpAnyH_ready (rs := [5]) (by kernel_rfl) (by simp) ?_
                      refine AllReadyH.cons rfl (fun K hK => ?_) AllReadyH.nil
                      clear hHeld
                      go_simp
                      go_at_call 10
                      refine Calls.mono (A2.out Z0 H0.out) ?_
                      rintro e W1 ⟨R, A3, c3, rfl, hc3, hC3, hRw, hRe, B7⟩
                      have H1 : Hid (Below wr.heap.size wr W1) := below_after H0.out B7
                      have RE : Hid _ := REqual_any R Y A3 AY c3 cY W1 hC3 hc3 (CYr.out W1 H1.out) hcY (by omega) (by omega)
                      rw [hRe] at RE
                      clear hC3 B7 hRe
                      go_wp2_with fail
                      refine hK.out _ _ (GS.out _ H1.out) (fun hHeld => ?_)
                      clear hK K
                      try simp only [Act.put, List.setIfInBounds_toArray, List.set_cons_zero, List.set_cons_succ]
                      refine wpAnyH_ready (rs := [7]) (by kernel_rfl) (by simp) ?_
                      refine AllReadyH.cons rfl (fun K hK => ?_) AllReadyH.nil
                      clear hHeld
                      go_simp
                      go_at_call 11
                      refine Calls.mono RE.out ?_
                      rintro e W2 ⟨rfl, B8⟩
                      have H2 : Hid (Below wr.heap.size wr W2) := below_after H1.out B8
                      clear B8
                      go_wp2_with fail
                      refine hK.out _ _ (GS.out _ H2.out) (fun hHeld => ?_)
                      clear hK K
                      try simp only [Act.put, List.setIfInBounds_toArray, List.set_cons_zero, List.set_cons_succ]
                      refine takeV 8 (some 83) (.bool false) rfl rfl (by kernel_rfl) (by kernel_rfl) (by kernel_rfl) (fun _ _ _ h => h) (Or.inl ⟨by kernel_rfl, fun W hSw => by go_simp⟩) hHeld ?_
                      try simp only [Act.put, List.setIfInBounds_toArray, List.set_cons_zero, List.set_cons_succ]
                      refine takeV 9 (some 84) (.bool false) rfl rfl (by kernel_rfl) (by kernel_rfl) (by kernel_rfl) (fun _ _ _ h => h) (Or.inl ⟨by kernel_rfl, fun W hSw => by go_simp⟩) hHeld ?_
                      try simp only [Act.put, List.setIfInBounds_toArray, List.set_cons_zero, List.set_cons_succ]
                      refine wpAnyH_done (by kernel_rfl) ?_ _
                      go_wp2_with fail
                      refine (sane_any _).mono ?_
                      rintro e w9 ⟨rfl, B9⟩
                      have HB9 : Hid (Below w.heap.size w w9) := below_after (below_after HWC.out H2.out) B9
                      clear B9
                      go_wp2_with fail
                      go_ret
                      exact ⟨rfl, HB9.out⟩
                  · have b0 : (E == 0) = false := beq_eq_false_iff_ne.mpr hE0
                    have b0' : (E != 0) = true := bne_iff_ne.mpr hE0
                    have hcf : cv' = false := by
                      cases cv' with
                      | false => rfl
                      | true =>
                        have hcov := CV.out (hC rfl)
                        rcases HE.out with h | h | h | h
                        · exact absurd h HE1.out
                        · exact absurd h HE2.out
                        · exact absurd hcov h.2
                        · exact absurd h.1 hE0
                    subst hcf
                    clear hC hBc hE0
                    go_upto_region 19 with fail
                    refine wp_region_held_drew (S := fun W => True) (by kernel_rfl) trivial (fun hHeld => ?_)
                    refine takeV 0 (some 75) (.int .i64 E) rfl rfl (by kernel_rfl) (by kernel_rfl) (by kernel_rfl) (fun _ _ _ h => h) (Or.inl ⟨by kernel_rfl, fun W hSw => by go_simp⟩) hHeld ?_
                    try simp only [Act.put, List.setIfInBounds_toArray, List.set_cons_zero, List.set_cons_succ]
                    refine takeV 1 (some 76) (.bool false) rfl rfl (by kernel_rfl) (by kernel_rfl) (by kernel_rfl) (fun _ _ _ h => h) (Or.inl ⟨by kernel_rfl, fun W hSw => by go_simp⟩) hHeld ?_
                    try simp only [Act.put, List.setIfInBounds_toArray, List.set_cons_zero, List.set_cons_succ]
                    refine takeV 2 (some 77) (.bool false) rfl rfl (by kernel_rfl) (by kernel_rfl) (by kernel_rfl) (fun _ _ _ h => h) (Or.inl ⟨by kernel_rfl, fun W hSw => by go_simp⟩) hHeld ?_
                    try simp only [Act.put, List.setIfInBounds_toArray, List.set_cons_zero, List.set_cons_succ]
                    refine takeV 3 (some 78) undef rfl rfl (by kernel_rfl) (by kernel_rfl) (by kernel_rfl) (fun _ _ _ h => h) (Or.inr ⟨by kernel_rfl, rfl⟩) hHeld ?_
                    try simp only [Act.put, List.setIfInBounds_toArray, List.set_cons_zero, List.set_cons_succ]
                    refine takeV 4 (some 79) undef rfl rfl (by kernel_rfl) (by kernel_rfl) (by kernel_rfl) (fun _ _ _ h => h) (Or.inr ⟨by kernel_rfl, rfl⟩) hHeld ?_
                    try simp only [Act.put, List.setIfInBounds_toArray, List.set_cons_zero, List.set_cons_succ]
                    refine takeV 5 (some 80) undef rfl rfl (by kernel_rfl) (by kernel_rfl) (by kernel_rfl) (fun _ _ _ h => h) (Or.inr ⟨by kernel_rfl, rfl⟩) hHeld ?_
                    try simp only [Act.put, List.setIfInBounds_toArray, List.set_cons_zero, List.set_cons_succ]
                    refine takeV 6 (some 81) undef rfl rfl (by kernel_rfl) (by kernel_rfl) (by kernel_rfl) (fun _ _ _ h => h) (Or.inr ⟨by kernel_rfl, rfl⟩) hHeld ?_
                    try simp only [Act.put, List.setIfInBounds_toArray, List.set_cons_zero, List.set_cons_succ]
                    refine takeV 7 (some 82) undef rfl rfl (by kernel_rfl) (by kernel_rfl) (by kernel_rfl) (fun _ _ _ h => h) (Or.inr ⟨by kernel_rfl, rfl⟩) hHeld ?_
                    try simp only [Act.put, List.setIfInBounds_toArray, List.set_cons_zero, List.set_cons_succ]
                    refine takeV 8 (some 83) undef rfl rfl (by kernel_rfl) (by kernel_rfl) (by kernel_rfl) (fun _ _ _ h => h) (Or.inr ⟨by kernel_rfl, rfl⟩) hHeld ?_
                    try simp only [Act.put, List.setIfInBounds_toArray, List.set_cons_zero, List.set_cons_succ]
                    refine takeV 9 (some 84) (.bool false) rfl rfl (by kernel_rfl) (by kernel_rfl) (by kernel_rfl) (fun _ _ _ h => h) (Or.inl ⟨by kernel_rfl, fun W hSw => by go_simp⟩) hHeld ?_
                    try simp only [Act.put, List.setIfInBounds_toArray, List.set_cons_zero, List.set_cons_succ]
                    refine wpAnyH_done (by kernel_rfl) ?_ _
                    go_wp2_with fail
                    refine (sane_any _).mono ?_
                    rintro e w9 ⟨rfl, B9⟩
                    have HB9 : Hid (Below w.heap.size w w9) := below_after (below_drew HWC.out) B9
                    clear B9
                    go_wp2_with fail
                    go_ret
                    exact ⟨rfl, HB9.out⟩

end Go.Proofs.YtcjmplpfebpfpaaGreatDoor

namespace Go.Proofs.YtcjmplpfebpfpaaGreatDoor
open Go.RowKit Go.Proofs Go.ChangeShapes Go.WideShapes Go.ChangeAt Go.Deep Go.Proofs.YtcjmplpfebpfpaaGreatDoorW.PrintWords Go.Proofs.YtcjmplpfebpfpaaGreatDoorW.PrintLast Go.Proofs.YtcjmplpfebpfpaaGreatDoorW.PrintMore PKindInstances
set_option linter.unusedVariables false
set_option linter.unusedSimpArgs false

theorem cells24' : Tryz.prog.cellsOf 24 = 4 := by kernel_rfl
theorem cells3' : Tryz.prog.cellsOf 3 = 1 := by kernel_rfl
theorem cells9' : Tryz.prog.cellsOf 9 = 1 := by kernel_rfl
theorem cells22' : Tryz.prog.cellsOf 22 = 1 := by kernel_rfl

variable {H : Type} {enc : TypeId × Value → H}

theorem bulk_at {l : List (DataW H)} {d : DataW H} (h : d ∈ l) : Rows.uptoBulk d ≤ Rows.uptoBulkAll l := by
  induction l with
  | nil => cases h
  | cons x r ih =>
    simp only [Rows.uptoBulkAll]
    rcases List.mem_cons.1 h with e | e
    · subst e; omega
    · have := ih e; omega

theorem bulk_sum (r : List Nat) (D : Nat → DataW H) (g : Nat → S24) (h : ∀ i ∈ r, siz (g i) ≤ Rows.uptoBulk (D i)) : sizs (r.map g) ≤ Rows.uptoBulkAll (r.map D) := by
  induction r with
  | nil => simp [sizs, Rows.uptoBulkAll]
  | cons a r ih =>
    have h1 := h a List.mem_cons_self
    have h2 := ih fun i hi => h i (List.mem_cons_of_mem _ hi)
    simp only [List.map_cons, sizs, Rows.uptoBulkAll]
    omega

theorem list4 {α : Type} {l : List α} (h : l.length = 4) : ∃ a b c d, l = [a, b, c, d] := by
  match l, h with
  | [a, b, c, d], _ => exact ⟨a, b, c, d, rfl⟩
/-- What a form reads as. -/
def FormIn (w : World) (cs : List Value) (s : S24) (n : Nat) : Prop :=
  ∃ A c, cs = [.int .i64 s.f0, .int .i64 s.f1, .string s.f2, .slice A s.f3.length c] ∧ s.f3.length ≤ c ∧ Kd.C k24 w A s.f3.length s.f3 ∧ siz s ≤ n ∧ c ≤ maxLen

theorem row_mk {w : World} {a : Addr} {len : Nat} (g : Nat → S24) (cs : Nat → List Value) (hm : len ≤ maxLen) (h : ∀ i, i < len → w.cells? 0 (a.add (i * 4)) 4 = some (cs i) ∧ k24.K w (g i) (cs i)) :
    Kd.C k24 w (some a) len ((List.range len).map g) := by
  refine ⟨by simp, by simp [maxLen] at hm; omega, fun hn => ⟨a, rfl, fun j p hj => ?_⟩⟩
  have hjl : j < len := by
    have := (List.getElem?_eq_some_iff.1 hj).1
    simpa using this
  obtain rfl : g j = p := by simpa [hjl] using hj
  obtain ⟨h1, h2⟩ := h j hjl
  obtain ⟨_, hl, hc⟩ := World.cells?_some h1
  refine ⟨cs j, hl, h2, fun i u hu => ?_⟩
  have hil : i < 4 := by rw [← hl]; exact (List.getElem?_eq_some_iff.1 hu).1
  show w.cell? (a.add (j * 4 + i)) = some u
  rw [← Go.Deep.add_add, hc i hil, hu]

theorem open_form {w : World} (N : Nat) : ∀ {fuel : Nat} {cs : List Value} {x : DataW H × List MemPlace}, DataW.trod enc Tryz.prog w 0 (fun _ => true) true fuel 24 cs = some x → Rows.uptoBulk x.1 = N → ∃ s : S24, FormIn w cs s (Rows.uptoBulk x.1) := by
  induction N using Nat.strongRecOn with
  | _ N ih =>
  intro fuel cs x h hN
  obtain ⟨xs, n, rfl, rfl, hl, hlen, hf⟩ := DataW.trod_struct Tryz.underlying24 h
  rw [cells24'] at hl
  have hlen4 : xs.length = 4 := hlen
  obtain ⟨y0, y1, y2, y3, rfl⟩ := list4 hlen4
  obtain ⟨u0, u1, u2, u3, rfl⟩ := list4 hl
  have h0 := hf 0 _ rfl
  have h1 := hf 1 _ rfl
  have h2 := hf 2 _ rfl
  have h3 := hf 3 _ rfl
  change DataW.trod enc Tryz.prog w 0 (fun _ => true) true n 3 ([u0, u1, u2, u3].take (Tryz.prog.cellsOf 3)) = some y0 at h0
  change DataW.trod enc Tryz.prog w 0 (fun _ => true) true n 3 ([u1, u2, u3].take (Tryz.prog.cellsOf 3)) = some y1 at h1
  change DataW.trod enc Tryz.prog w 0 (fun _ => true) true n 9 ([u2, u3].take (Tryz.prog.cellsOf 9)) = some y2 at h2
  change DataW.trod enc Tryz.prog w 0 (fun _ => true) true n 22 ([u3].take (Tryz.prog.cellsOf 22)) = some y3 at h3
  rw [cells3'] at h0 h1
  rw [cells9'] at h2
  rw [cells22'] at h3
  simp only [List.take_succ_cons, List.take_zero] at h0 h1 h2 h3
  obtain ⟨z0, e0, f0, _⟩ := DataW.trod_int Tryz.underlying3 h0
  obtain ⟨z1, e1, f1, _⟩ := DataW.trod_int Tryz.underlying3 h1
  obtain ⟨z2, e2, f2, _⟩ := DataW.trod_string Tryz.underlying9 h2
  clear h hf hlen hlen4 hl h0 h1 h2
  simp only [List.cons.injEq, and_true] at e0 e1 e2
  subst e0 e1 e2 f0 f1 f2
  rcases open_slice Tryz.underlying22 h3 with ⟨e3, f3⟩ | ⟨a, len, cap, m, n', Dd, Pl, e3, _, hl, hm, hmm, f3, hall⟩
  · simp only [List.cons.injEq, and_true] at e3
    subst e3 f3
    refine ⟨⟨z0, z1, z2, []⟩, none, 0, rfl, Nat.le_refl _, Kd.C_nil _ _, ?_, Nat.zero_le _⟩
    have e : z2.data.toList.length = z2.size := Array.length_toList
    simp [siz, sizs, Rows.uptoBulk, Rows.uptoBulkAll]
    omega
  · simp only [List.cons.injEq, and_true] at e3
    simp only [if_true] at hmm
    subst e3 f3
    simp only [List.map_cons, List.map_nil, Rows.uptoBulk, Rows.uptoBulkAll] at hN
    have hbd : ∀ i, i < len → Rows.uptoBulk (Dd i) ≤ Rows.uptoBulkAll ((List.range len).map Dd) := fun i hi => bulk_at (List.mem_map.2 ⟨i, List.mem_range.2 hi, rfl⟩)
    have each : ∀ i, i < len → ∃ p : S24 × List Value, w.cells? 0 (a.add (i * 4)) 4 = some p.2 ∧ FormIn w p.2 p.1 (Rows.uptoBulk (Dd i)) := by
      intro i hi
      obtain ⟨cs', g1, g2⟩ := hall i (by omega)
      rw [cells24'] at g1
      obtain ⟨s, hs⟩ := ih _ (by have := hbd i hi; show Rows.uptoBulk (Dd i) < N; omega) g2 rfl
      exact ⟨(s, cs'), g1, hs⟩
    haveI : Inhabited (S24 × List Value) := ⟨(z24, [])⟩
    obtain ⟨f, hf⟩ := choose_lt (α := S24 × List Value) each
    have hlist : ((List.range len).map fun i => (f i).1).length = len := by simp
    refine ⟨⟨z0, z1, z2, (List.range len).map fun i => (f i).1⟩, some a, cap, by simp only [hlist], by simp only [hlist]; exact hl, ?_, ?_, hm⟩
    · simp only [hlist]
      exact row_mk (fun i => (f i).1) (fun i => (f i).2) (by omega) fun i hi => by
        obtain ⟨g1, A, c, g2, g3, g4, _⟩ := hf i hi
        exact ⟨g1, by rw [g2]; exact k24_mk w (f i).1 g3 g4⟩
    · have h5 := bulk_sum (List.range len) Dd (fun i => (f i).1) fun i hi => by
        obtain ⟨_, A, c, _, _, _, g5, _⟩ := hf i (List.mem_range.1 hi)
        exact g5
      have e : z2.data.toList.length = z2.size := Array.length_toList
      simp [siz, Rows.uptoBulk, Rows.uptoBulkAll]
      omega

end Go.Proofs.YtcjmplpfebpfpaaGreatDoor

namespace Go.Proofs.YtcjmplpfebpfpaaGreatDoor
open Go.RowKit Go.Proofs Go.ChangeShapes Go.WideShapes Go.ChangeAt Go.Deep Go.Proofs.YtcjmplpfebpfpaaGreatDoorW.PrintWords Go.Proofs.YtcjmplpfebpfpaaGreatDoorW.PrintLast Go.Proofs.YtcjmplpfebpfpaaGreatDoorW.PrintMore PKindInstances
set_option linter.unusedVariables false
set_option linter.unusedSimpArgs false

theorem cells51' : Tryz.prog.cellsOf 51 = 5 := by kernel_rfl
variable {H : Type} {enc : TypeId × Value → H}
theorem list5 {α : Type} {l : List α} (h : l.length = 5) : ∃ a b c d e, l = [a, b, c, d, e] := by
  match l, h with
  | [a, b, c, d, e], _ => exact ⟨a, b, c, d, e, rfl⟩
theorem list2 {α : Type} {l : List α} (h : l.length = 2) : ∃ a b, l = [a, b] := by
  match l, h with
  | [a, b], _ => exact ⟨a, b, rfl⟩
/-- What a pair reads as. -/
def PairIn (w : World) (cs : List Value) (p : S51) (n : Nat) : Prop := k51.K w p cs ∧ p.f0.size + siz p.f1 + 1 ≤ n
theorem open_pair {w : World} {fuel : Nat} {cs : List Value} {x : DataW H × List MemPlace} (h : DataW.trod enc Tryz.prog w 0 (fun _ => true) true fuel 51 cs = some x) : ∃ p : S51, PairIn w cs p (Rows.uptoBulk x.1) := by
  obtain ⟨xs, n, rfl, rfl, hl, hlen, hf⟩ := DataW.trod_struct Tryz.underlying51 h
  rw [cells51'] at hl
  have hlen2 : xs.length = 2 := hlen
  obtain ⟨y0, y1, rfl⟩ := list2 hlen2
  obtain ⟨u0, u1, u2, u3, u4, rfl⟩ := list5 hl
  have h0 := hf 0 _ rfl
  have h1 := hf 1 _ rfl
  change DataW.trod enc Tryz.prog w 0 (fun _ => true) true n 9 ([u0, u1, u2, u3, u4].take (Tryz.prog.cellsOf 9)) = some y0 at h0
  change DataW.trod enc Tryz.prog w 0 (fun _ => true) true n 24 ([u1, u2, u3, u4].take (Tryz.prog.cellsOf 24)) = some y1 at h1
  rw [cells9'] at h0
  rw [cells24'] at h1
  simp only [List.take_succ_cons, List.take_zero] at h0 h1
  obtain ⟨z0, e0, f0, _⟩ := DataW.trod_string Tryz.underlying9 h0
  obtain ⟨s, A, c, e1, g1, g2, g3, g4⟩ := open_form _ h1 rfl
  clear h hf hlen hlen2 hl h0 h1
  simp only [List.cons.injEq, and_true] at e0 e1
  obtain ⟨rfl, rfl, rfl, rfl⟩ := e1
  subst e0 f0
  refine ⟨⟨z0, s⟩, k51_mk w ⟨z0, s⟩ g1 g2, ?_⟩
  have e : z0.data.toList.length = z0.size := Array.length_toList
  simp only [List.map_cons, List.map_nil, Rows.uptoBulk, Rows.uptoBulkAll]
  omega
theorem prow_mk {w : World} {a : Addr} {len : Nat} (g : Nat → S51) (cs : Nat → List Value) (hm : len ≤ maxLen) (h : ∀ i, i < len → w.cells? 0 (a.add (i * 5)) 5 = some (cs i) ∧ k51.K w (g i) (cs i)) :
    Kd.C k51 w (some a) len ((List.range len).map g) := by
  refine ⟨by simp, by simp [maxLen] at hm; omega, fun hn => ⟨a, rfl, fun j p hj => ?_⟩⟩
  have hjl : j < len := by
    have := (List.getElem?_eq_some_iff.1 hj).1
    simpa using this
  obtain rfl : g j = p := by simpa [hjl] using hj
  obtain ⟨h1, h2⟩ := h j hjl
  obtain ⟨_, hl, hc⟩ := World.cells?_some h1
  refine ⟨cs j, hl, h2, fun i u hu => ?_⟩
  have hil : i < 5 := by rw [← hl]; exact (List.getElem?_eq_some_iff.1 hu).1
  show w.cell? (a.add (j * 5 + i)) = some u
  rw [← Go.Deep.add_add, hc i hil, hu]
theorem pbulk_sum (r : List Nat) (D : Nat → DataW H) (g : Nat → S51) (h : ∀ i ∈ r, (g i).f0.size + siz (g i).f1 + 1 ≤ Rows.uptoBulk (D i)) : sizp (r.map g) ≤ Rows.uptoBulkAll (r.map D) := by
  induction r with
  | nil => simp [sizp, Rows.uptoBulkAll]
  | cons a r ih =>
    have h1 := h a List.mem_cons_self
    have h2 := ih fun i hi => h i (List.mem_cons_of_mem _ hi)
    simp only [List.map_cons, sizp, Rows.uptoBulkAll]
    omega
theorem open_pairs {w : World} {fuel : Nat} {cs : List Value} {x : DataW H × List MemPlace} (h : DataW.trod enc Tryz.prog w 0 (fun _ => true) true fuel 25 cs = some x) :
    ∃ (l : List S51) (A : Option Addr) (c : Nat), cs = [.slice A l.length c] ∧ l.length ≤ c ∧ Kd.C k51 w A l.length l ∧ sizp l ≤ Rows.uptoBulk x.1 := by
  rcases open_slice Tryz.underlying25 h with ⟨e3, f3⟩ | ⟨a, len, cap, m, n', Dd, Pl, e3, _, hl, hm, hmm, f3, hall⟩
  · subst e3 f3
    exact ⟨[], none, 0, rfl, Nat.le_refl _, Kd.C_nil _ _, Nat.zero_le _⟩
  · simp only [if_true] at hmm
    subst e3 f3
    have each : ∀ i, i < len → ∃ p : S51 × List Value, w.cells? 0 (a.add (i * 5)) 5 = some p.2 ∧ PairIn w p.2 p.1 (Rows.uptoBulk (Dd i)) := by
      intro i hi
      obtain ⟨cs', g1, g2⟩ := hall i (by omega)
      rw [cells51'] at g1
      obtain ⟨p, hp⟩ := open_pair g2
      exact ⟨(p, cs'), g1, hp⟩
    haveI : Inhabited (S51 × List Value) := ⟨(z51, [])⟩
    obtain ⟨f, hf⟩ := choose_lt (α := S51 × List Value) each
    have hlist : ((List.range len).map fun i => (f i).1).length = len := by simp
    refine ⟨(List.range len).map fun i => (f i).1, some a, cap, by rw [hlist], by rw [hlist]; exact hl, ?_, ?_⟩
    · rw [hlist]
      exact prow_mk (fun i => (f i).1) (fun i => (f i).2) (by omega) fun i hi => ⟨(hf i hi).1, (hf i hi).2.1⟩
    · have h5 := pbulk_sum (List.range len) Dd (fun i => (f i).1) fun i hi => (hf i (List.mem_range.1 hi)).2.2
      simp only [Rows.uptoBulk]
      omega
end Go.Proofs.YtcjmplpfebpfpaaGreatDoor
