/- Part 7 of what the law's row leans on (Nk): the print's words and functions, cut to what is reached, and own texts. -/
import Derived.Test.YtcjmplpfebpfpaaGreatDoorNk6
namespace Go.Proofs.YtcjmplpfebpfpaaGreatDoor.PKindInstances
open Go.RowKit Go.Proofs.YtcjmplpfebpfpaaGreatDoorW.PrintWords Go.Proofs.YtcjmplpfebpfpaaGreatDoorW.PrintLast Go.Proofs.YtcjmplpfebpfpaaGreatDoorW.PrintMore
attribute [local go_sem] max2_int min2_int max_two min_two max_three min_three max_four min_four   -- for this text's walks alone
set_option linter.unusedVariables false
set_option linter.unusedSimpArgs false

def plinthref03_outside.j0 : Nat → List (S115) → ByteArray → Bool → Int → Int → ByteArray → List (S24) → Option (Int)
  | 0, _, _, _, _, _, _, _ => none
  | k + 1, x1, x5, x42, x436000, x436001, x436002, x436003 => if x42 = true then (some 8) else ((plinthref03_Reserved.f k x5).bind fun t441 => (if t441 = true then (some 0) else ((plinthref03_count.f k x5 (wrap64 ((x436003.length : Int) - 1)) x1).bind fun t442 => (some t442))))
def plinthref03_outside.f (k : Nat) (a0_0 : Int) (a0_1 : Int) (a0_2 : ByteArray) (l0_3 : List (S24)) (l1 : List (S115)) : Option (Int) := (plinthref03_isWord.f a0_0 a0_1 a0_2 l0_3).bind fun t436 => (if t436 = true then (if a0_2.toList = ([105, 110, 116] : List UInt8) then (some 0) else (if a0_2.toList = ([98, 111, 111, 108] : List UInt8) then (some 0) else ((plinthref03_count.f k a0_2 0 l1).bind fun t437 => (some t437)))) else (if 0 < (l0_3.length : Int) then (if ((rd_T24 l0_3 0).f2).toList = ([98, 105, 116, 115] : List UInt8) then (if 1 < (l0_3.length : Int) then (if ((rd_T24 l0_3 1).f1) < 1 then (plinthref03_outside.j0 k l1 ((rd_T24 l0_3 0).f2) true a0_0 a0_1 a0_2 l0_3) else (plinthref03_outside.j0 k l1 ((rd_T24 l0_3 0).f2) (decide (((rd_T24 l0_3 1).f1) > 16)) a0_0 a0_1 a0_2 l0_3)) else (none)) else (plinthref03_outside.j0 k l1 ((rd_T24 l0_3 0).f2) false a0_0 a0_1 a0_2 l0_3)) else (none)))
set_option maxHeartbeats 8000000 in
set_option maxRecDepth 100000 in
theorem plinthref03_outside.calls (k : Nat) (a0_0 : Int) (a0_1 : Int) (a0_2 : ByteArray) (A0_3 : Option Addr) (c0_3 : Nat) (l0_3 : List (S24)) (A1 : Option Addr) (c1 : Nat) (l1 : List (S115)) (r : Int) (w : World) (hr0_3 : Kd.C k24 w A0_3 l0_3.length l0_3) (hc0_3 : l0_3.length ≤ c0_3) (hr1 : Kd.C k115 w A1 l1.length l1) (hc1 : l1.length ≤ c1) (h : plinthref03_outside.f k a0_0 a0_1 a0_2 l0_3 l1 = some r) :
    Calls Tryz.prog 148 #[.agg #[.int .i64 a0_0, .int .i64 a0_1, .string a0_2, .slice A0_3 l0_3.length c0_3], .slice A1 l1.length c1] w fun e w' => e = .returned (.int .i64 r) ∧ Below w.heap.size w w' := by
  have hu24 := Tryz.underlying24
  have HR0_3 := Aside0.mk hr0_3
  have HC0_3 := Aside0.mk hc0_3
  clear hr0_3 hc0_3
  have HR1 := Aside0.mk hr1
  have HC1 := Aside0.mk hc1
  clear hr1 hc1
  have HB := Aside0.mk (Below.refl w.heap.size w)
  have H : ((plinthref03_isWord.f a0_0 a0_1 a0_2 l0_3).bind fun t436 => (if t436 = true then (if a0_2.toList = ([105, 110, 116] : List UInt8) then (some 0) else (if a0_2.toList = ([98, 111, 111, 108] : List UInt8) then (some 0) else ((plinthref03_count.f k a0_2 0 l1).bind fun t437 => (some t437)))) else (if 0 < (l0_3.length : Int) then (if ((rd_T24 l0_3 0).f2).toList = ([98, 105, 116, 115] : List UInt8) then (if 1 < (l0_3.length : Int) then (if ((rd_T24 l0_3 1).f1) < 1 then (plinthref03_outside.j0 k l1 ((rd_T24 l0_3 0).f2) true a0_0 a0_1 a0_2 l0_3) else (plinthref03_outside.j0 k l1 ((rd_T24 l0_3 0).f2) (decide (((rd_T24 l0_3 1).f1) > 16)) a0_0 a0_1 a0_2 l0_3)) else (none)) else (plinthref03_outside.j0 k l1 ((rd_T24 l0_3 0).f2) false a0_0 a0_1 a0_2 l0_3)) else (none)))) = some r := h
  clear h
  replace H := Option.bind_eq_some_iff.mp H
  obtain ⟨t436, A30, H⟩ := H
  replace H : (if t436 = true then (if a0_2.toList = ([105, 110, 116] : List UInt8) then (some 0) else (if a0_2.toList = ([98, 111, 111, 108] : List UInt8) then (some 0) else ((plinthref03_count.f k a0_2 0 l1).bind fun t437 => (some t437)))) else (if 0 < (l0_3.length : Int) then (if ((rd_T24 l0_3 0).f2).toList = ([98, 105, 116, 115] : List UInt8) then (if 1 < (l0_3.length : Int) then (if ((rd_T24 l0_3 1).f1) < 1 then (plinthref03_outside.j0 k l1 ((rd_T24 l0_3 0).f2) true a0_0 a0_1 a0_2 l0_3) else (plinthref03_outside.j0 k l1 ((rd_T24 l0_3 0).f2) (decide (((rd_T24 l0_3 1).f1) > 16)) a0_0 a0_1 a0_2 l0_3)) else (none)) else (plinthref03_outside.j0 k l1 ((rd_T24 l0_3 0).f2) false a0_0 a0_1 a0_2 l0_3)) else (none))) = some r := H
  have A3 := Aside0.mk A30
  clear A30
  by_cases c4 : t436 = true
  · subst c4
    have H1 : (if a0_2.toList = ([105, 110, 116] : List UInt8) then (some 0) else (if a0_2.toList = ([98, 111, 111, 108] : List UInt8) then (some 0) else ((plinthref03_count.f k a0_2 0 l1).bind fun t437 => (some t437)))) = some r := by rw [if_pos rfl] at H; exact H
    clear H
    have H := H1
    clear H1
    by_cases c5 : a0_2.toList = ([105, 110, 116] : List UInt8)
    · rw [if_pos c5] at H
      have c5b0 : (a0_2.toList == ([105, 110, 116] : List UInt8)) = true := beq_iff_eq.mpr c5
      have c5b1 : (a0_2.toList != ([105, 110, 116] : List UInt8)) = false := bne_eq_false_iff_eq.mpr c5
      clear c5
      obtain rfl := Option.some.inj H
      go_enter Tryz.func148, Tryz.ntmps148
      go_wp2_with (first | ((with_reducible refine gate_dst (N := 2) rfl ?_); refine box_event ?hg (N := 2) ?hd (cs := #[.int .i64 a0_0, .int .i64 a0_1, .string a0_2, .slice A0_3 l0_3.length c0_3]) (t := 24) ?hr ?_; (case hd => rfl); (case hg => rfl); (case hr => first | (go_simp; done) | (go_simp; rfl)); intro gb435 hg w6 hbox hb; have n0_ := Aside0.mk (below_step (by repeat (first | (with_reducible first | exact HB.out | apply below_alloc | apply pw_below_drewN | apply below_drew1) | exact HB.out)) hb); have n1_ := Aside0.mk (hbox); have n2_ := Aside0.mk ((by rw [hg]; exact (below_size (by repeat (first | (with_reducible first | exact HB.out | apply below_alloc | apply pw_below_drewN | apply below_drew1) | exact HB.out))) : w.heap.size ≤ gb435)); have n3_ := Aside0.mk ((by rw [hg]; exact (below_size (by repeat (first | (with_reducible first | exact HB.out | apply below_alloc | apply pw_below_drewN | apply below_drew1) | exact HB.out))) : w.heap.size ≤ gb435)); clear HB; have HB := n0_; have BK435 := n1_; have GW435 := n2_; have GE435 := n3_; clear n0_ n1_ n2_ n3_; clear hb hbox hg; have hcz7_0 : w6.cell? ⟨gb435, 0, none⟩ = some (.int .i64 a0_0) := (blk_cell BK435.out 0).trans rfl; have hcz7_1 : w6.cell? ⟨gb435, 1, none⟩ = some (.int .i64 a0_1) := (blk_cell BK435.out 1).trans rfl; have hcz7_2 : w6.cell? ⟨gb435, 2, none⟩ = some (.string a0_2) := (blk_cell BK435.out 2).trans rfl; have hcz7_3 : w6.cell? ⟨gb435, 3, none⟩ = some (.slice A0_3 l0_3.length c0_3) := (blk_cell BK435.out 3).trans rfl; have hfz7_0 := blk_frozen BK435.out 0; have hfz7_1 := blk_frozen BK435.out 1; have hfz7_2 := blk_frozen BK435.out 2; have hfz7_3 := blk_frozen BK435.out 3) | ((with_reducible refine gate_callee (f := 61) rfl ?_); refine goesL_ (some 7) rfl rfl Tryz.func61 (by kernel_rfl) rfl #[.agg #[.int .i64 a0_0, .int .i64 a0_1, .string a0_2, .slice A0_3 l0_3.length c0_3]] rfl (by (try simp only [List.map_toArray, List.map_cons, List.map_nil]); first | done | rfl | (simp only [List.length_drop, List.length_take]; rfl)) ?_; (with_reducible refine (plinthref03_isWord.calls a0_0 a0_1 a0_2 _ _ l0_3 true _ ?side1 ?side2 A3.out).mono ?_); (case side1 => repeat (first | exact (Kd.C_below HR0_3.out HB.out) | (with_reducible refine Kd.C_alloc ?_ _) | (with_reducible refine Kd.C_drewN ?_ _) | (with_reducible refine Kd.C_drew ?_))); (case side2 => exact HC0_3.out); rintro e w8 ⟨rfl, hb⟩; refine ⟨_, rfl, ?_⟩; have n0_ := Aside0.mk (blk_below (g := gb435) (o := .cells #[.int .i64 a0_0, .int .i64 a0_1, .string a0_2, .slice A0_3 l0_3.length c0_3] 24 (0, 0)) (by (with_reducible repeat (first | refine blk_drewN ?_ _ | refine blk_drew ?_ | refine blk_alloc ?_ _)); exact BK435.out) hb); have n1_ := Aside0.mk (below_step (by repeat (first | (with_reducible first | exact HB.out | apply below_alloc | apply pw_below_drewN | apply below_drew1 | refine below_set ?_ GE435.out) | exact HB.out)) hb); clear BK435; clear HB; have BK435 := n0_; have HB := n1_; clear n0_ n1_; (try clear hb); (try clear hb2); (try clear hk); (try clear hi); have hcz9_0 : w8.cell? ⟨gb435, 0, none⟩ = some (.int .i64 a0_0) := (blk_cell BK435.out 0).trans rfl; have hcz9_1 : w8.cell? ⟨gb435, 1, none⟩ = some (.int .i64 a0_1) := (blk_cell BK435.out 1).trans rfl; have hcz9_2 : w8.cell? ⟨gb435, 2, none⟩ = some (.string a0_2) := (blk_cell BK435.out 2).trans rfl; have hcz9_3 : w8.cell? ⟨gb435, 3, none⟩ = some (.slice A0_3 l0_3.length c0_3) := (blk_cell BK435.out 3).trans rfl; have hfz9_0 := blk_frozen BK435.out 0; have hfz9_1 := blk_frozen BK435.out 1; have hfz9_2 := blk_frozen BK435.out 2; have hfz9_3 := blk_frozen BK435.out 3))
      go_ret
      exact ⟨by first | rfl | (simp [errW_none, errW_some] <;> rfl) | (simp [*, errW_none, errW_some] <;> rfl), by repeat (first | (with_reducible first | exact HB.out | apply below_alloc | apply pw_below_drewN | apply below_drew1 | refine below_set ?_ GE435.out) | exact HB.out)⟩
    · rw [if_neg c5] at H
      have c5b0 : (a0_2.toList == ([105, 110, 116] : List UInt8)) = false := beq_eq_false_iff_ne.mpr c5
      have c5b1 : (a0_2.toList != ([105, 110, 116] : List UInt8)) = true := bne_iff_ne.mpr c5
      by_cases c10 : a0_2.toList = ([98, 111, 111, 108] : List UInt8)
      · rw [if_pos c10] at H
        have c10b0 : (a0_2.toList == ([98, 111, 111, 108] : List UInt8)) = true := beq_iff_eq.mpr c10
        have c10b1 : (a0_2.toList != ([98, 111, 111, 108] : List UInt8)) = false := bne_eq_false_iff_eq.mpr c10
        clear c10
        obtain rfl := Option.some.inj H
        go_enter Tryz.func148, Tryz.ntmps148
        go_wp2_with (first | ((with_reducible refine gate_dst (N := 2) rfl ?_); refine box_event ?hg (N := 2) ?hd (cs := #[.int .i64 a0_0, .int .i64 a0_1, .string a0_2, .slice A0_3 l0_3.length c0_3]) (t := 24) ?hr ?_; (case hd => rfl); (case hg => rfl); (case hr => first | (go_simp; done) | (go_simp; rfl)); intro gb435 hg w11 hbox hb; have n0_ := Aside0.mk (below_step (by repeat (first | (with_reducible first | exact HB.out | apply below_alloc | apply pw_below_drewN | apply below_drew1) | exact HB.out)) hb); have n1_ := Aside0.mk (hbox); have n2_ := Aside0.mk ((by rw [hg]; exact (below_size (by repeat (first | (with_reducible first | exact HB.out | apply below_alloc | apply pw_below_drewN | apply below_drew1) | exact HB.out))) : w.heap.size ≤ gb435)); have n3_ := Aside0.mk ((by rw [hg]; exact (below_size (by repeat (first | (with_reducible first | exact HB.out | apply below_alloc | apply pw_below_drewN | apply below_drew1) | exact HB.out))) : w.heap.size ≤ gb435)); clear HB; have HB := n0_; have BK435 := n1_; have GW435 := n2_; have GE435 := n3_; clear n0_ n1_ n2_ n3_; clear hb hbox hg; have hcz12_0 : w11.cell? ⟨gb435, 0, none⟩ = some (.int .i64 a0_0) := (blk_cell BK435.out 0).trans rfl; have hcz12_1 : w11.cell? ⟨gb435, 1, none⟩ = some (.int .i64 a0_1) := (blk_cell BK435.out 1).trans rfl; have hcz12_2 : w11.cell? ⟨gb435, 2, none⟩ = some (.string a0_2) := (blk_cell BK435.out 2).trans rfl; have hcz12_3 : w11.cell? ⟨gb435, 3, none⟩ = some (.slice A0_3 l0_3.length c0_3) := (blk_cell BK435.out 3).trans rfl; have hfz12_0 := blk_frozen BK435.out 0; have hfz12_1 := blk_frozen BK435.out 1; have hfz12_2 := blk_frozen BK435.out 2; have hfz12_3 := blk_frozen BK435.out 3) | ((with_reducible refine gate_callee (f := 61) rfl ?_); refine goesL_ (some 7) rfl rfl Tryz.func61 (by kernel_rfl) rfl #[.agg #[.int .i64 a0_0, .int .i64 a0_1, .string a0_2, .slice A0_3 l0_3.length c0_3]] rfl (by (try simp only [List.map_toArray, List.map_cons, List.map_nil]); first | done | rfl | (simp only [List.length_drop, List.length_take]; rfl)) ?_; (with_reducible refine (plinthref03_isWord.calls a0_0 a0_1 a0_2 _ _ l0_3 true _ ?side1 ?side2 A3.out).mono ?_); (case side1 => repeat (first | exact (Kd.C_below HR0_3.out HB.out) | (with_reducible refine Kd.C_alloc ?_ _) | (with_reducible refine Kd.C_drewN ?_ _) | (with_reducible refine Kd.C_drew ?_))); (case side2 => exact HC0_3.out); rintro e w13 ⟨rfl, hb⟩; refine ⟨_, rfl, ?_⟩; have n0_ := Aside0.mk (blk_below (g := gb435) (o := .cells #[.int .i64 a0_0, .int .i64 a0_1, .string a0_2, .slice A0_3 l0_3.length c0_3] 24 (0, 0)) (by (with_reducible repeat (first | refine blk_drewN ?_ _ | refine blk_drew ?_ | refine blk_alloc ?_ _)); exact BK435.out) hb); have n1_ := Aside0.mk (below_step (by repeat (first | (with_reducible first | exact HB.out | apply below_alloc | apply pw_below_drewN | apply below_drew1 | refine below_set ?_ GE435.out) | exact HB.out)) hb); clear BK435; clear HB; have BK435 := n0_; have HB := n1_; clear n0_ n1_; (try clear hb); (try clear hb2); (try clear hk); (try clear hi); have hcz14_0 : w13.cell? ⟨gb435, 0, none⟩ = some (.int .i64 a0_0) := (blk_cell BK435.out 0).trans rfl; have hcz14_1 : w13.cell? ⟨gb435, 1, none⟩ = some (.int .i64 a0_1) := (blk_cell BK435.out 1).trans rfl; have hcz14_2 : w13.cell? ⟨gb435, 2, none⟩ = some (.string a0_2) := (blk_cell BK435.out 2).trans rfl; have hcz14_3 : w13.cell? ⟨gb435, 3, none⟩ = some (.slice A0_3 l0_3.length c0_3) := (blk_cell BK435.out 3).trans rfl; have hfz14_0 := blk_frozen BK435.out 0; have hfz14_1 := blk_frozen BK435.out 1; have hfz14_2 := blk_frozen BK435.out 2; have hfz14_3 := blk_frozen BK435.out 3))
        go_ret
        exact ⟨by first | rfl | (simp [errW_none, errW_some] <;> rfl) | (simp [*, errW_none, errW_some] <;> rfl), by repeat (first | (with_reducible first | exact HB.out | apply below_alloc | apply pw_below_drewN | apply below_drew1 | refine below_set ?_ GE435.out) | exact HB.out)⟩
      · rw [if_neg c10] at H
        have c10b0 : (a0_2.toList == ([98, 111, 111, 108] : List UInt8)) = false := beq_eq_false_iff_ne.mpr c10
        have c10b1 : (a0_2.toList != ([98, 111, 111, 108] : List UInt8)) = true := bne_iff_ne.mpr c10
        replace H := Option.bind_eq_some_iff.mp H
        obtain ⟨t437, A150, H⟩ := H
        replace H : (some t437) = some r := H
        have A15 := Aside0.mk A150
        clear A150
        obtain rfl := Option.some.inj H
        go_enter Tryz.func148, Tryz.ntmps148
        go_wp2_with (first | ((with_reducible refine gate_dst (N := 2) rfl ?_); refine box_event ?hg (N := 2) ?hd (cs := #[.int .i64 a0_0, .int .i64 a0_1, .string a0_2, .slice A0_3 l0_3.length c0_3]) (t := 24) ?hr ?_; (case hd => rfl); (case hg => rfl); (case hr => first | (go_simp; done) | (go_simp; rfl)); intro gb435 hg w16 hbox hb; have n0_ := Aside0.mk (below_step (by repeat (first | (with_reducible first | exact HB.out | apply below_alloc | apply pw_below_drewN | apply below_drew1) | exact HB.out)) hb); have n1_ := Aside0.mk (hbox); have n2_ := Aside0.mk ((by rw [hg]; exact (below_size (by repeat (first | (with_reducible first | exact HB.out | apply below_alloc | apply pw_below_drewN | apply below_drew1) | exact HB.out))) : w.heap.size ≤ gb435)); have n3_ := Aside0.mk ((by rw [hg]; exact (below_size (by repeat (first | (with_reducible first | exact HB.out | apply below_alloc | apply pw_below_drewN | apply below_drew1) | exact HB.out))) : w.heap.size ≤ gb435)); clear HB; have HB := n0_; have BK435 := n1_; have GW435 := n2_; have GE435 := n3_; clear n0_ n1_ n2_ n3_; clear hb hbox hg; have hcz17_0 : w16.cell? ⟨gb435, 0, none⟩ = some (.int .i64 a0_0) := (blk_cell BK435.out 0).trans rfl; have hcz17_1 : w16.cell? ⟨gb435, 1, none⟩ = some (.int .i64 a0_1) := (blk_cell BK435.out 1).trans rfl; have hcz17_2 : w16.cell? ⟨gb435, 2, none⟩ = some (.string a0_2) := (blk_cell BK435.out 2).trans rfl; have hcz17_3 : w16.cell? ⟨gb435, 3, none⟩ = some (.slice A0_3 l0_3.length c0_3) := (blk_cell BK435.out 3).trans rfl; have hfz17_0 := blk_frozen BK435.out 0; have hfz17_1 := blk_frozen BK435.out 1; have hfz17_2 := blk_frozen BK435.out 2; have hfz17_3 := blk_frozen BK435.out 3) | ((with_reducible refine gate_callee (f := 61) rfl ?_); refine goesL_ (some 7) rfl rfl Tryz.func61 (by kernel_rfl) rfl #[.agg #[.int .i64 a0_0, .int .i64 a0_1, .string a0_2, .slice A0_3 l0_3.length c0_3]] rfl (by (try simp only [List.map_toArray, List.map_cons, List.map_nil]); first | done | rfl | (simp only [List.length_drop, List.length_take]; rfl)) ?_; (with_reducible refine (plinthref03_isWord.calls a0_0 a0_1 a0_2 _ _ l0_3 true _ ?side1 ?side2 A3.out).mono ?_); (case side1 => repeat (first | exact (Kd.C_below HR0_3.out HB.out) | (with_reducible refine Kd.C_alloc ?_ _) | (with_reducible refine Kd.C_drewN ?_ _) | (with_reducible refine Kd.C_drew ?_))); (case side2 => exact HC0_3.out); rintro e w18 ⟨rfl, hb⟩; refine ⟨_, rfl, ?_⟩; have n0_ := Aside0.mk (blk_below (g := gb435) (o := .cells #[.int .i64 a0_0, .int .i64 a0_1, .string a0_2, .slice A0_3 l0_3.length c0_3] 24 (0, 0)) (by (with_reducible repeat (first | refine blk_drewN ?_ _ | refine blk_drew ?_ | refine blk_alloc ?_ _)); exact BK435.out) hb); have n1_ := Aside0.mk (below_step (by repeat (first | (with_reducible first | exact HB.out | apply below_alloc | apply pw_below_drewN | apply below_drew1 | refine below_set ?_ GE435.out) | exact HB.out)) hb); clear BK435; clear HB; have BK435 := n0_; have HB := n1_; clear n0_ n1_; (try clear hb); (try clear hb2); (try clear hk); (try clear hi); have hcz19_0 : w18.cell? ⟨gb435, 0, none⟩ = some (.int .i64 a0_0) := (blk_cell BK435.out 0).trans rfl; have hcz19_1 : w18.cell? ⟨gb435, 1, none⟩ = some (.int .i64 a0_1) := (blk_cell BK435.out 1).trans rfl; have hcz19_2 : w18.cell? ⟨gb435, 2, none⟩ = some (.string a0_2) := (blk_cell BK435.out 2).trans rfl; have hcz19_3 : w18.cell? ⟨gb435, 3, none⟩ = some (.slice A0_3 l0_3.length c0_3) := (blk_cell BK435.out 3).trans rfl; have hfz19_0 := blk_frozen BK435.out 0; have hfz19_1 := blk_frozen BK435.out 1; have hfz19_2 := blk_frozen BK435.out 2; have hfz19_3 := blk_frozen BK435.out 3) | ((with_reducible refine gate_callee (f := 171) rfl ?_); refine goesL_ (some 19) rfl rfl Tryz.func171 (by kernel_rfl) rfl #[.string a0_2, .int .i64 0, .slice A1 l1.length c1] rfl (by (try simp only [List.map_toArray, List.map_cons, List.map_nil]); first | done | rfl | (simp only [List.length_drop, List.length_take]; rfl)) ?_; (with_reducible refine (plinthref03_count.calls k a0_2 0 _ _ l1 t437 _ ?side1 ?side2 A15.out).mono ?_); (case side1 => repeat (first | exact (Kd.C_below HR1.out HB.out) | (with_reducible refine Kd.C_alloc ?_ _) | (with_reducible refine Kd.C_drewN ?_ _) | (with_reducible refine Kd.C_drew ?_))); (case side2 => exact HC1.out); rintro e w20 ⟨rfl, hb⟩; refine ⟨_, rfl, ?_⟩; have n0_ := Aside0.mk (blk_below (g := gb435) (o := .cells #[.int .i64 a0_0, .int .i64 a0_1, .string a0_2, .slice A0_3 l0_3.length c0_3] 24 (0, 0)) (by (with_reducible repeat (first | refine blk_drewN ?_ _ | refine blk_drew ?_ | refine blk_alloc ?_ _)); exact BK435.out) hb); have n1_ := Aside0.mk (below_step (by repeat (first | (with_reducible first | exact HB.out | apply below_alloc | apply pw_below_drewN | apply below_drew1 | refine below_set ?_ GE435.out) | exact HB.out)) hb); clear BK435; clear HB; have BK435 := n0_; have HB := n1_; clear n0_ n1_; (try clear hb); (try clear hb2); (try clear hk); (try clear hi)))
        go_ret
        exact ⟨by first | rfl | (simp [errW_none, errW_some] <;> rfl) | (simp [*, errW_none, errW_some] <;> rfl), by repeat (first | (with_reducible first | exact HB.out | apply below_alloc | apply pw_below_drewN | apply below_drew1 | refine below_set ?_ GE435.out) | exact HB.out)⟩
  · replace c4 := Bool.eq_false_iff.mpr c4
    subst c4
    have H1 : (if 0 < (l0_3.length : Int) then (if ((rd_T24 l0_3 0).f2).toList = ([98, 105, 116, 115] : List UInt8) then (if 1 < (l0_3.length : Int) then (if ((rd_T24 l0_3 1).f1) < 1 then (plinthref03_outside.j0 k l1 ((rd_T24 l0_3 0).f2) true a0_0 a0_1 a0_2 l0_3) else (plinthref03_outside.j0 k l1 ((rd_T24 l0_3 0).f2) (decide (((rd_T24 l0_3 1).f1) > 16)) a0_0 a0_1 a0_2 l0_3)) else (none)) else (plinthref03_outside.j0 k l1 ((rd_T24 l0_3 0).f2) false a0_0 a0_1 a0_2 l0_3)) else (none)) = some r := by rw [if_neg (show ¬ (false = true) by decide)] at H; exact H
    clear H
    have H := H1
    clear H1
    by_cases c21 : 0 < (l0_3.length : Int)
    · rw [if_pos c21] at H
      have c21b0 : decide (0 < (l0_3.length : Int)) = true := decide_eq_true c21
      have c21b1 : decide (0 < l0_3.length) = true := decide_eq_true (by omega)
      clear c21
      have HC22 := Aside0.mk H
      clear H
      go_enter Tryz.func148, Tryz.ntmps148
      go_upto_region 6 with (first | ((with_reducible refine gate_dst (N := 2) rfl ?_); refine box_event ?hg (N := 2) ?hd (cs := #[.int .i64 a0_0, .int .i64 a0_1, .string a0_2, .slice A0_3 l0_3.length c0_3]) (t := 24) ?hr ?_; (case hd => rfl); (case hg => rfl); (case hr => first | (go_simp; done) | (go_simp; rfl)); intro gb435 hg w23 hbox hb; have n0_ := Aside0.mk (below_step (by repeat (first | (with_reducible first | exact HB.out | apply below_alloc | apply pw_below_drewN | apply below_drew1) | exact HB.out)) hb); have n1_ := Aside0.mk (hbox); have n2_ := Aside0.mk ((by rw [hg]; exact (below_size (by repeat (first | (with_reducible first | exact HB.out | apply below_alloc | apply pw_below_drewN | apply below_drew1) | exact HB.out))) : w.heap.size ≤ gb435)); have n3_ := Aside0.mk ((by rw [hg]; exact (below_size (by repeat (first | (with_reducible first | exact HB.out | apply below_alloc | apply pw_below_drewN | apply below_drew1) | exact HB.out))) : w.heap.size ≤ gb435)); clear HB; have HB := n0_; have BK435 := n1_; have GW435 := n2_; have GE435 := n3_; clear n0_ n1_ n2_ n3_; clear hb hbox hg; have hcz24_0 : w23.cell? ⟨gb435, 0, none⟩ = some (.int .i64 a0_0) := (blk_cell BK435.out 0).trans rfl; have hcz24_1 : w23.cell? ⟨gb435, 1, none⟩ = some (.int .i64 a0_1) := (blk_cell BK435.out 1).trans rfl; have hcz24_2 : w23.cell? ⟨gb435, 2, none⟩ = some (.string a0_2) := (blk_cell BK435.out 2).trans rfl; have hcz24_3 : w23.cell? ⟨gb435, 3, none⟩ = some (.slice A0_3 l0_3.length c0_3) := (blk_cell BK435.out 3).trans rfl; have hfz24_0 := blk_frozen BK435.out 0; have hfz24_1 := blk_frozen BK435.out 1; have hfz24_2 := blk_frozen BK435.out 2; have hfz24_3 := blk_frozen BK435.out 3) | ((with_reducible refine gate_callee (f := 61) rfl ?_); refine goesL_ (some 7) rfl rfl Tryz.func61 (by kernel_rfl) rfl #[.agg #[.int .i64 a0_0, .int .i64 a0_1, .string a0_2, .slice A0_3 l0_3.length c0_3]] rfl (by (try simp only [List.map_toArray, List.map_cons, List.map_nil]); first | done | rfl | (simp only [List.length_drop, List.length_take]; rfl)) ?_; (with_reducible refine (plinthref03_isWord.calls a0_0 a0_1 a0_2 _ _ l0_3 false _ ?side1 ?side2 A3.out).mono ?_); (case side1 => repeat (first | exact (Kd.C_below HR0_3.out HB.out) | (with_reducible refine Kd.C_alloc ?_ _) | (with_reducible refine Kd.C_drewN ?_ _) | (with_reducible refine Kd.C_drew ?_))); (case side2 => exact HC0_3.out); rintro e w25 ⟨rfl, hb⟩; refine ⟨_, rfl, ?_⟩; have n0_ := Aside0.mk (blk_below (g := gb435) (o := .cells #[.int .i64 a0_0, .int .i64 a0_1, .string a0_2, .slice A0_3 l0_3.length c0_3] 24 (0, 0)) (by (with_reducible repeat (first | refine blk_drewN ?_ _ | refine blk_drew ?_ | refine blk_alloc ?_ _)); exact BK435.out) hb); have n1_ := Aside0.mk (below_step (by repeat (first | (with_reducible first | exact HB.out | apply below_alloc | apply pw_below_drewN | apply below_drew1 | refine below_set ?_ GE435.out) | exact HB.out)) hb); clear BK435; clear HB; have BK435 := n0_; have HB := n1_; clear n0_ n1_; (try clear hb); (try clear hb2); (try clear hk); (try clear hi); have hcz26_0 : w25.cell? ⟨gb435, 0, none⟩ = some (.int .i64 a0_0) := (blk_cell BK435.out 0).trans rfl; have hcz26_1 : w25.cell? ⟨gb435, 1, none⟩ = some (.int .i64 a0_1) := (blk_cell BK435.out 1).trans rfl; have hcz26_2 : w25.cell? ⟨gb435, 2, none⟩ = some (.string a0_2) := (blk_cell BK435.out 2).trans rfl; have hcz26_3 : w25.cell? ⟨gb435, 3, none⟩ = some (.slice A0_3 l0_3.length c0_3) := (blk_cell BK435.out 3).trans rfl; have hfz26_0 := blk_frozen BK435.out 0; have hfz26_1 := blk_frozen BK435.out 1; have hfz26_2 := blk_frozen BK435.out 2; have hfz26_3 := blk_frozen BK435.out 3; have p438 : 0 ≤ (0 : Int) := (by omega); have q438 : 0 < (l0_3.length : Int) := of_decide_eq_true (by first | (with_reducible assumption) | assumption); obtain ⟨ad438, A438_3, c438_3, e438, hx438_0, hx438_1, hx438_2, hx438_3, hl438_3, hi438_3⟩ := at_T24 HR0_3.out 0 p438 q438; cases e438; have qi438 : (0 < l0_3.length) = True := eq_true (by omega); (try rw [show ((0 : Int)).toNat = 0 from rfl] at hx438_0); (try rw [show 0 * 4 = 0 from rfl] at hx438_0); (try rw [Addr.add_zero'] at hx438_0); (try rw [show ((0 : Int)).toNat = 0 from rfl] at hx438_1); (try rw [show 0 * 4 = 0 from rfl] at hx438_1); (try rw [Addr.add_zero'] at hx438_1); (try rw [show ((0 : Int)).toNat = 0 from rfl] at hx438_2); (try rw [show 0 * 4 = 0 from rfl] at hx438_2); (try rw [Addr.add_zero'] at hx438_2); (try rw [show ((0 : Int)).toNat = 0 from rfl] at hx438_3); (try rw [show 0 * 4 = 0 from rfl] at hx438_3); (try rw [Addr.add_zero'] at hx438_3); replace hx438_0 := (HB.out.cell (World.block_lt_of_cell? w _ hx438_0)).trans hx438_0; replace hx438_1 := (HB.out.cell (World.block_lt_of_cell? w _ hx438_1)).trans hx438_1; replace hx438_2 := (HB.out.cell (World.block_lt_of_cell? w _ hx438_2)).trans hx438_2; replace hx438_3 := (HB.out.cell (World.block_lt_of_cell? w _ hx438_3)).trans hx438_3; have HR438_3 := Aside0.mk hi438_3; have HC438_3 := Aside0.mk hl438_3; clear hi438_3 hl438_3; replace p438 := eq_true p438; replace q438 := eq_true q438))
      (try simp only [Act.put, List.setIfInBounds_toArray, List.set_cons_zero, List.set_cons_succ])
      go_cut [42] (fun v42 wc => ∃ (kq : Nat) (x42_21 : Bool), v42 = .bool x42_21 ∧ Aside0 (plinthref03_outside.j0 kq l1 ((rd_T24 l0_3 0).f2) x42_21 a0_0 a0_1 a0_2 l0_3 = some r) ∧ Aside0 (kq ≤ k) ∧ Aside0 (wc.heap[gb435]? = some (.cells #[.int .i64 a0_0, .int .i64 a0_1, .string a0_2, (.slice (some ad438) l0_3.length c0_3)] 24 (0, 0))) ∧ Aside0 (Below w.heap.size w wc))
      case first =>
        have H := HC22.out
        clear HC22
        by_cases c27 : ((rd_T24 l0_3 0).f2).toList = ([98, 105, 116, 115] : List UInt8)
        · rw [if_pos c27] at H
          have c27b0 : (((rd_T24 l0_3 0).f2).toList == ([98, 105, 116, 115] : List UInt8)) = true := beq_iff_eq.mpr c27
          have c27b1 : (((rd_T24 l0_3 0).f2).toList != ([98, 105, 116, 115] : List UInt8)) = false := bne_eq_false_iff_eq.mpr c27
          clear c27
          (first | rw [c27b0] | (simp only [i64_w, i32_w]; rw [c27b0]) | skip)
          by_cases c28 : 1 < (l0_3.length : Int)
          · rw [if_pos c28] at H
            have c28b0 : decide (1 < (l0_3.length : Int)) = true := decide_eq_true c28
            have c28b1 : decide (1 < l0_3.length) = true := decide_eq_true (by omega)
            clear c28
            by_cases c29 : ((rd_T24 l0_3 1).f1) < 1
            · rw [if_pos c29] at H
              have c29b0 : decide (((rd_T24 l0_3 1).f1) < 1) = true := decide_eq_true c29
              clear c29
              have H' := Aside0.mk H
              clear H
              have hcz30_0 : w25.cell? ⟨gb435, 0, none⟩ = some (.int .i64 a0_0) := (blk_cell BK435.out 0).trans rfl
              have hcz30_1 : w25.cell? ⟨gb435, 1, none⟩ = some (.int .i64 a0_1) := (blk_cell BK435.out 1).trans rfl
              have hcz30_2 : w25.cell? ⟨gb435, 2, none⟩ = some (.string a0_2) := (blk_cell BK435.out 2).trans rfl
              have hcz30_3 : w25.cell? ⟨gb435, 3, none⟩ = some (.slice (some ad438) l0_3.length c0_3) := (blk_cell BK435.out 3).trans rfl
              have hfz30_0 := blk_frozen BK435.out 0
              have hfz30_1 := blk_frozen BK435.out 1
              have hfz30_2 := blk_frozen BK435.out 2
              have hfz30_3 := blk_frozen BK435.out 3
              have p439 : 0 ≤ (1 : Int) := (by omega)
              have q439 : 1 < (l0_3.length : Int) := of_decide_eq_true (by first | (with_reducible assumption) | assumption)
              obtain ⟨ad439, A439_3, c439_3, e439, hx439_0, hx439_1, hx439_2, hx439_3, hl439_3, hi439_3⟩ := at_T24 HR0_3.out 1 p439 q439
              obtain rfl : ad438 = ad439 := (by injection e439)
              (try simp only [show (1 : Int).toNat = 1 from rfl, Nat.reduceMul, Nat.reduceEqDiff, Go.Addr.add, ↓reduceIte] at hx439_0)
              (try simp only [show (1 : Int).toNat = 1 from rfl, Nat.reduceMul, Nat.reduceEqDiff, Go.Addr.add, ↓reduceIte] at hx439_1)
              (try simp only [show (1 : Int).toNat = 1 from rfl, Nat.reduceMul, Nat.reduceEqDiff, Go.Addr.add, ↓reduceIte] at hx439_2)
              (try simp only [show (1 : Int).toNat = 1 from rfl, Nat.reduceMul, Nat.reduceEqDiff, Go.Addr.add, ↓reduceIte] at hx439_3)
              have qi439 : (1 < l0_3.length) = True := eq_true (by omega)
              (try rw [show ((1 : Int)).toNat = 1 from rfl] at hx439_0)
              (try rw [show 1 * 4 = 4 from rfl] at hx439_0)
              (try rw [show ((1 : Int)).toNat = 1 from rfl] at hx439_1)
              (try rw [show 1 * 4 = 4 from rfl] at hx439_1)
              (try rw [show ((1 : Int)).toNat = 1 from rfl] at hx439_2)
              (try rw [show 1 * 4 = 4 from rfl] at hx439_2)
              (try rw [show ((1 : Int)).toNat = 1 from rfl] at hx439_3)
              (try rw [show 1 * 4 = 4 from rfl] at hx439_3)
              replace hx439_0 := (HB.out.cell (World.block_lt_of_cell? w _ hx439_0)).trans hx439_0
              replace hx439_1 := (HB.out.cell (World.block_lt_of_cell? w _ hx439_1)).trans hx439_1
              replace hx439_2 := (HB.out.cell (World.block_lt_of_cell? w _ hx439_2)).trans hx439_2
              replace hx439_3 := (HB.out.cell (World.block_lt_of_cell? w _ hx439_3)).trans hx439_3
              have HR439_3 := Aside0.mk hi439_3
              have HC439_3 := Aside0.mk hl439_3
              clear hi439_3 hl439_3
              replace p439 := eq_true p439
              replace q439 := eq_true q439
              go_wp2
              go_meet
              case rel => exact ⟨_, (true), (by first | rfl | (simp; done) | (simp [*]; done)), H', ⟨by first | omega | exact Nat.le_refl _⟩, ⟨by (with_reducible repeat (first | refine blk_drewN ?_ _ | refine blk_drew ?_ | refine blk_alloc ?_ _)); exact BK435.out⟩, ⟨by repeat (first | (with_reducible first | exact HB.out | apply below_alloc | apply pw_below_drewN | apply below_drew1 | refine below_set ?_ GE435.out) | exact HB.out)⟩⟩
            · rw [if_neg c29] at H
              have c29b0 : decide (((rd_T24 l0_3 1).f1) < 1) = false := decide_eq_false c29
              clear c29
              have H' := Aside0.mk H
              clear H
              have hcz31_0 : w25.cell? ⟨gb435, 0, none⟩ = some (.int .i64 a0_0) := (blk_cell BK435.out 0).trans rfl
              have hcz31_1 : w25.cell? ⟨gb435, 1, none⟩ = some (.int .i64 a0_1) := (blk_cell BK435.out 1).trans rfl
              have hcz31_2 : w25.cell? ⟨gb435, 2, none⟩ = some (.string a0_2) := (blk_cell BK435.out 2).trans rfl
              have hcz31_3 : w25.cell? ⟨gb435, 3, none⟩ = some (.slice (some ad438) l0_3.length c0_3) := (blk_cell BK435.out 3).trans rfl
              have hfz31_0 := blk_frozen BK435.out 0
              have hfz31_1 := blk_frozen BK435.out 1
              have hfz31_2 := blk_frozen BK435.out 2
              have hfz31_3 := blk_frozen BK435.out 3
              have p439 : 0 ≤ (1 : Int) := (by omega)
              have q439 : 1 < (l0_3.length : Int) := of_decide_eq_true (by first | (with_reducible assumption) | assumption)
              obtain ⟨ad439, A439_3, c439_3, e439, hx439_0, hx439_1, hx439_2, hx439_3, hl439_3, hi439_3⟩ := at_T24 HR0_3.out 1 p439 q439
              obtain rfl : ad438 = ad439 := (by injection e439)
              (try simp only [show (1 : Int).toNat = 1 from rfl, Nat.reduceMul, Nat.reduceEqDiff, Go.Addr.add, ↓reduceIte] at hx439_0)
              (try simp only [show (1 : Int).toNat = 1 from rfl, Nat.reduceMul, Nat.reduceEqDiff, Go.Addr.add, ↓reduceIte] at hx439_1)
              (try simp only [show (1 : Int).toNat = 1 from rfl, Nat.reduceMul, Nat.reduceEqDiff, Go.Addr.add, ↓reduceIte] at hx439_2)
              (try simp only [show (1 : Int).toNat = 1 from rfl, Nat.reduceMul, Nat.reduceEqDiff, Go.Addr.add, ↓reduceIte] at hx439_3)
              have qi439 : (1 < l0_3.length) = True := eq_true (by omega)
              (try rw [show ((1 : Int)).toNat = 1 from rfl] at hx439_0)
              (try rw [show 1 * 4 = 4 from rfl] at hx439_0)
              (try rw [show ((1 : Int)).toNat = 1 from rfl] at hx439_1)
              (try rw [show 1 * 4 = 4 from rfl] at hx439_1)
              (try rw [show ((1 : Int)).toNat = 1 from rfl] at hx439_2)
              (try rw [show 1 * 4 = 4 from rfl] at hx439_2)
              (try rw [show ((1 : Int)).toNat = 1 from rfl] at hx439_3)
              (try rw [show 1 * 4 = 4 from rfl] at hx439_3)
              replace hx439_0 := (HB.out.cell (World.block_lt_of_cell? w _ hx439_0)).trans hx439_0
              replace hx439_1 := (HB.out.cell (World.block_lt_of_cell? w _ hx439_1)).trans hx439_1
              replace hx439_2 := (HB.out.cell (World.block_lt_of_cell? w _ hx439_2)).trans hx439_2
              replace hx439_3 := (HB.out.cell (World.block_lt_of_cell? w _ hx439_3)).trans hx439_3
              have HR439_3 := Aside0.mk hi439_3
              have HC439_3 := Aside0.mk hl439_3
              clear hi439_3 hl439_3
              replace p439 := eq_true p439
              replace q439 := eq_true q439
              have p440 : 0 ≤ (1 : Int) := (by omega)
              have q440 : 1 < (l0_3.length : Int) := of_decide_eq_true (by first | (with_reducible assumption) | assumption)
              obtain ⟨ad440, A440_3, c440_3, e440, hx440_0, hx440_1, hx440_2, hx440_3, hl440_3, hi440_3⟩ := at_T24 HR0_3.out 1 p440 q440
              obtain rfl : ad438 = ad440 := (by injection e440)
              (try simp only [show (1 : Int).toNat = 1 from rfl, Nat.reduceMul, Nat.reduceEqDiff, Go.Addr.add, ↓reduceIte] at hx440_0)
              (try simp only [show (1 : Int).toNat = 1 from rfl, Nat.reduceMul, Nat.reduceEqDiff, Go.Addr.add, ↓reduceIte] at hx440_1)
              (try simp only [show (1 : Int).toNat = 1 from rfl, Nat.reduceMul, Nat.reduceEqDiff, Go.Addr.add, ↓reduceIte] at hx440_2)
              (try simp only [show (1 : Int).toNat = 1 from rfl, Nat.reduceMul, Nat.reduceEqDiff, Go.Addr.add, ↓reduceIte] at hx440_3)
              have qi440 : (1 < l0_3.length) = True := eq_true (by omega)
              (try rw [show ((1 : Int)).toNat = 1 from rfl] at hx440_0)
              (try rw [show 1 * 4 = 4 from rfl] at hx440_0)
              (try rw [show ((1 : Int)).toNat = 1 from rfl] at hx440_1)
              (try rw [show 1 * 4 = 4 from rfl] at hx440_1)
              (try rw [show ((1 : Int)).toNat = 1 from rfl] at hx440_2)
              (try rw [show 1 * 4 = 4 from rfl] at hx440_2)
              (try rw [show ((1 : Int)).toNat = 1 from rfl] at hx440_3)
              (try rw [show 1 * 4 = 4 from rfl] at hx440_3)
              replace hx440_0 := (HB.out.cell (World.block_lt_of_cell? w _ hx440_0)).trans hx440_0
              replace hx440_1 := (HB.out.cell (World.block_lt_of_cell? w _ hx440_1)).trans hx440_1
              replace hx440_2 := (HB.out.cell (World.block_lt_of_cell? w _ hx440_2)).trans hx440_2
              replace hx440_3 := (HB.out.cell (World.block_lt_of_cell? w _ hx440_3)).trans hx440_3
              have HR440_3 := Aside0.mk hi440_3
              have HC440_3 := Aside0.mk hl440_3
              clear hi440_3 hl440_3
              replace p440 := eq_true p440
              replace q440 := eq_true q440
              have ea_ := Option.some.inj (hx439_3.symm.trans hx440_3)
              injection ea_ with ea_ en_ ec_
              subst ea_
              subst ec_
              clear en_
              go_wp2
              go_meet
              case rel => exact ⟨_, (decide (((rd_T24 l0_3 1).f1) > 16)), (by first | rfl | (simp; done) | (simp [*]; done)), H', ⟨by first | omega | exact Nat.le_refl _⟩, ⟨by (with_reducible repeat (first | refine blk_drewN ?_ _ | refine blk_drew ?_ | refine blk_alloc ?_ _)); exact BK435.out⟩, ⟨by repeat (first | (with_reducible first | exact HB.out | apply below_alloc | apply pw_below_drewN | apply below_drew1 | refine below_set ?_ GE435.out) | exact HB.out)⟩⟩
          · rw [if_neg c28] at H
            exact absurd H (by simp)
        · rw [if_neg c27] at H
          have c27b0 : (((rd_T24 l0_3 0).f2).toList == ([98, 105, 116, 115] : List UInt8)) = false := beq_eq_false_iff_ne.mpr c27
          have c27b1 : (((rd_T24 l0_3 0).f2).toList != ([98, 105, 116, 115] : List UInt8)) = true := bne_iff_ne.mpr c27
          (first | rw [c27b0] | (simp only [i64_w, i32_w]; rw [c27b0]) | skip)
          have H' := Aside0.mk H
          clear H
          go_wp2
          go_meet
          case rel => exact ⟨_, (false), (by first | rfl | (simp; done) | (simp [*]; done)), H', ⟨by first | omega | exact Nat.le_refl _⟩, ⟨by (with_reducible repeat (first | refine blk_drewN ?_ _ | refine blk_drew ?_ | refine blk_alloc ?_ _)); exact BK435.out⟩, ⟨by repeat (first | (with_reducible first | exact HB.out | apply below_alloc | apply pw_below_drewN | apply below_drew1 | refine below_set ?_ GE435.out) | exact HB.out)⟩⟩
      case rest =>
        clear HC22
        try clear c1
        try clear c2
        try clear p2
        try clear c4
        try clear p4
        try clear q4
        try clear hx4
        try clear qi4
        try clear c5
        try clear c5b0
        try clear c5b1
        try clear c6
        try clear c10
        try clear c10b0
        try clear c10b1
        try clear c14
        try clear c17
        try clear c21
        try clear c21b0
        try clear c21b1
        try clear c27
        try clear c27b0
        try clear c27b1
        try clear c28
        try clear c28b0
        try clear c28b1
        try clear c29
        try clear c29b0
        try clear hcz12_0
        try clear hcz12_1
        try clear hcz12_2
        try clear hcz12_3
        try clear hcz14_0
        try clear hcz14_1
        try clear hcz14_2
        try clear hcz14_3
        try clear hcz17_0
        try clear hcz17_1
        try clear hcz17_2
        try clear hcz17_3
        try clear hcz19_0
        try clear hcz19_1
        try clear hcz19_2
        try clear hcz19_3
        try clear hcz24_0
        try clear hcz24_1
        try clear hcz24_2
        try clear hcz24_3
        try clear hcz26_0
        try clear hcz26_1
        try clear hcz26_2
        try clear hcz26_3
        try clear hcz30_0
        try clear hcz30_1
        try clear hcz30_2
        try clear hcz30_3
        try clear hcz31_0
        try clear hcz31_1
        try clear hcz31_2
        try clear hcz31_3
        try clear hcz7_0
        try clear hcz7_1
        try clear hcz7_2
        try clear hcz7_3
        try clear hcz9_0
        try clear hcz9_1
        try clear hcz9_2
        try clear hcz9_3
        try clear hfz12_0
        try clear hfz12_1
        try clear hfz12_2
        try clear hfz12_3
        try clear hfz14_0
        try clear hfz14_1
        try clear hfz14_2
        try clear hfz14_3
        try clear hfz17_0
        try clear hfz17_1
        try clear hfz17_2
        try clear hfz17_3
        try clear hfz19_0
        try clear hfz19_1
        try clear hfz19_2
        try clear hfz19_3
        try clear hfz24_0
        try clear hfz24_1
        try clear hfz24_2
        try clear hfz24_3
        try clear hfz26_0
        try clear hfz26_1
        try clear hfz26_2
        try clear hfz26_3
        try clear hfz30_0
        try clear hfz30_1
        try clear hfz30_2
        try clear hfz30_3
        try clear hfz31_0
        try clear hfz31_1
        try clear hfz31_2
        try clear hfz31_3
        try clear hfz7_0
        try clear hfz7_1
        try clear hfz7_2
        try clear hfz7_3
        try clear hfz9_0
        try clear hfz9_1
        try clear hfz9_2
        try clear hfz9_3
        try clear hx438_0
        try clear hx438_1
        try clear hx438_2
        try clear hx438_3
        try clear hx439_0
        try clear hx439_1
        try clear hx439_2
        try clear hx439_3
        try clear hx440_0
        try clear hx440_1
        try clear hx440_2
        try clear hx440_3
        try clear p438
        try clear p439
        try clear p440
        try clear q438
        try clear q439
        try clear q440
        obtain ⟨kq, x42_21, rfl, HA, HJ21, BK435, HB⟩ := hcut
        cases kq with
        | zero => exact absurd HA.out (by simp [plinthref03_outside.j0])
        | succ kj21 =>
          have H := HA.out
          clear HA
          simp only [plinthref03_outside.j0] at H
          by_cases c32 : x42_21 = true
          · subst c32
            have H1 : (some 8) = some r := by rw [if_pos rfl] at H; exact H
            clear H
            have H := H1
            clear H1
            obtain rfl := Option.some.inj H
            go_wp2
            go_ret
            exact ⟨by first | rfl | (simp [errW_none, errW_some] <;> rfl) | (simp [*, errW_none, errW_some] <;> rfl), by repeat (first | (with_reducible first | exact HB.out | apply below_alloc | apply pw_below_drewN | apply below_drew1 | refine below_set ?_ GE435.out) | exact HB.out)⟩
          · replace c32 := Bool.eq_false_iff.mpr c32
            subst c32
            have H1 : ((plinthref03_Reserved.f kj21 ((rd_T24 l0_3 0).f2)).bind fun t441 => (if t441 = true then (some 0) else ((plinthref03_count.f kj21 ((rd_T24 l0_3 0).f2) (wrap64 ((l0_3.length : Int) - 1)) l1).bind fun t442 => (some t442)))) = some r := by rw [if_neg (show ¬ (false = true) by decide)] at H; exact H
            clear H
            have H := H1
            clear H1
            replace H := Option.bind_eq_some_iff.mp H
            obtain ⟨t441, A330, H⟩ := H
            replace H : (if t441 = true then (some 0) else ((plinthref03_count.f kj21 ((rd_T24 l0_3 0).f2) (wrap64 ((l0_3.length : Int) - 1)) l1).bind fun t442 => (some t442))) = some r := H
            have A33 := Aside0.mk A330
            clear A330
            by_cases c34 : t441 = true
            · subst c34
              have H1 : (some 0) = some r := by rw [if_pos rfl] at H; exact H
              clear H
              have H := H1
              clear H1
              obtain rfl := Option.some.inj H
              go_wp2_with (first | ((with_reducible refine gate_callee (f := 62) rfl ?_); refine goesL_ (some 44) rfl rfl Tryz.func62 (by kernel_rfl) rfl #[.string ((rd_T24 l0_3 0).f2)] rfl (by (try simp only [List.map_toArray, List.map_cons, List.map_nil]); first | done | rfl | (simp only [List.length_drop, List.length_take]; rfl)) ?_; (with_reducible refine (plinthref03_Reserved.calls kj21 ((rd_T24 l0_3 0).f2) true _ A33.out).mono ?_); rintro e w35 ⟨rfl, hb⟩; refine ⟨_, rfl, ?_⟩; have n0_ := Aside0.mk (blk_below (g := gb435) (o := .cells #[.int .i64 a0_0, .int .i64 a0_1, .string a0_2, .slice (some ad438) l0_3.length c0_3] 24 (0, 0)) (by (with_reducible repeat (first | refine blk_drewN ?_ _ | refine blk_drew ?_ | refine blk_alloc ?_ _)); exact BK435.out) hb); have n1_ := Aside0.mk (below_step (by repeat (first | (with_reducible first | exact HB.out | apply below_alloc | apply pw_below_drewN | apply below_drew1 | refine below_set ?_ GE435.out) | exact HB.out)) hb); clear BK435; clear HB; have BK435 := n0_; have HB := n1_; clear n0_ n1_; (try clear hb); (try clear hb2); (try clear hk); (try clear hi)))
              go_ret
              exact ⟨by first | rfl | (simp [errW_none, errW_some] <;> rfl) | (simp [*, errW_none, errW_some] <;> rfl), by repeat (first | (with_reducible first | exact HB.out | apply below_alloc | apply pw_below_drewN | apply below_drew1 | refine below_set ?_ GE435.out) | exact HB.out)⟩
            · replace c34 := Bool.eq_false_iff.mpr c34
              subst c34
              have H1 : ((plinthref03_count.f kj21 ((rd_T24 l0_3 0).f2) (wrap64 ((l0_3.length : Int) - 1)) l1).bind fun t442 => (some t442)) = some r := by rw [if_neg (show ¬ (false = true) by decide)] at H; exact H
              clear H
              have H := H1
              clear H1
              replace H := Option.bind_eq_some_iff.mp H
              obtain ⟨t442, A360, H⟩ := H
              replace H : (some t442) = some r := H
              have A36 := Aside0.mk A360
              clear A360
              obtain rfl := Option.some.inj H
              go_wp2_with (first | ((with_reducible refine gate_callee (f := 62) rfl ?_); refine goesL_ (some 44) rfl rfl Tryz.func62 (by kernel_rfl) rfl #[.string ((rd_T24 l0_3 0).f2)] rfl (by (try simp only [List.map_toArray, List.map_cons, List.map_nil]); first | done | rfl | (simp only [List.length_drop, List.length_take]; rfl)) ?_; (with_reducible refine (plinthref03_Reserved.calls kj21 ((rd_T24 l0_3 0).f2) false _ A33.out).mono ?_); rintro e w37 ⟨rfl, hb⟩; refine ⟨_, rfl, ?_⟩; have n0_ := Aside0.mk (blk_below (g := gb435) (o := .cells #[.int .i64 a0_0, .int .i64 a0_1, .string a0_2, .slice (some ad438) l0_3.length c0_3] 24 (0, 0)) (by (with_reducible repeat (first | refine blk_drewN ?_ _ | refine blk_drew ?_ | refine blk_alloc ?_ _)); exact BK435.out) hb); have n1_ := Aside0.mk (below_step (by repeat (first | (with_reducible first | exact HB.out | apply below_alloc | apply pw_below_drewN | apply below_drew1 | refine below_set ?_ GE435.out) | exact HB.out)) hb); clear BK435; clear HB; have BK435 := n0_; have HB := n1_; clear n0_ n1_; (try clear hb); (try clear hb2); (try clear hk); (try clear hi); have hcz38_0 : w37.cell? ⟨gb435, 0, none⟩ = some (.int .i64 a0_0) := (blk_cell BK435.out 0).trans rfl; have hcz38_1 : w37.cell? ⟨gb435, 1, none⟩ = some (.int .i64 a0_1) := (blk_cell BK435.out 1).trans rfl; have hcz38_2 : w37.cell? ⟨gb435, 2, none⟩ = some (.string a0_2) := (blk_cell BK435.out 2).trans rfl; have hcz38_3 : w37.cell? ⟨gb435, 3, none⟩ = some (.slice (some ad438) l0_3.length c0_3) := (blk_cell BK435.out 3).trans rfl; have hfz38_0 := blk_frozen BK435.out 0; have hfz38_1 := blk_frozen BK435.out 1; have hfz38_2 := blk_frozen BK435.out 2; have hfz38_3 := blk_frozen BK435.out 3) | ((with_reducible refine gate_callee (f := 171) rfl ?_); refine goesL_ (some 52) rfl rfl Tryz.func171 (by kernel_rfl) rfl #[.string ((rd_T24 l0_3 0).f2), .int .i64 (wrap64 ((l0_3.length : Int) - 1)), .slice A1 l1.length c1] rfl (by (try simp only [List.map_toArray, List.map_cons, List.map_nil]); first | done | rfl | (simp only [List.length_drop, List.length_take]; rfl)) ?_; (with_reducible refine (plinthref03_count.calls kj21 ((rd_T24 l0_3 0).f2) (wrap64 ((l0_3.length : Int) - 1)) _ _ l1 t442 _ ?side1 ?side2 A36.out).mono ?_); (case side1 => repeat (first | exact (Kd.C_below HR1.out HB.out) | (with_reducible refine Kd.C_alloc ?_ _) | (with_reducible refine Kd.C_drewN ?_ _) | (with_reducible refine Kd.C_drew ?_))); (case side2 => exact HC1.out); rintro e w39 ⟨rfl, hb⟩; refine ⟨_, rfl, ?_⟩; have n0_ := Aside0.mk (blk_below (g := gb435) (o := .cells #[.int .i64 a0_0, .int .i64 a0_1, .string a0_2, .slice (some ad438) l0_3.length c0_3] 24 (0, 0)) (by (with_reducible repeat (first | refine blk_drewN ?_ _ | refine blk_drew ?_ | refine blk_alloc ?_ _)); exact BK435.out) hb); have n1_ := Aside0.mk (below_step (by repeat (first | (with_reducible first | exact HB.out | apply below_alloc | apply pw_below_drewN | apply below_drew1 | refine below_set ?_ GE435.out) | exact HB.out)) hb); clear BK435; clear HB; have BK435 := n0_; have HB := n1_; clear n0_ n1_; (try clear hb); (try clear hb2); (try clear hk); (try clear hi)))
              go_ret
              exact ⟨by first | rfl | (simp [errW_none, errW_some] <;> rfl) | (simp [*, errW_none, errW_some] <;> rfl), by repeat (first | (with_reducible first | exact HB.out | apply below_alloc | apply pw_below_drewN | apply below_drew1 | refine below_set ?_ GE435.out) | exact HB.out)⟩
    · rw [if_neg c21] at H
      exact absurd H (by simp)

end Go.Proofs.YtcjmplpfebpfpaaGreatDoor.PKindInstances

namespace Go.Proofs.YtcjmplpfebpfpaaGreatDoor.PKindInstances
open Go.RowKit Go.Proofs.YtcjmplpfebpfpaaGreatDoorW.PrintWords Go.Proofs.YtcjmplpfebpfpaaGreatDoorW.PrintLast Go.Proofs.YtcjmplpfebpfpaaGreatDoorW.PrintMore
attribute [local go_sem] max2_int min2_int max_two min_two max_three min_three max_four min_four   -- for this text's walks alone
set_option linter.unusedVariables false
set_option linter.unusedSimpArgs false

end Go.Proofs.YtcjmplpfebpfpaaGreatDoor.PKindInstances

namespace Go.Proofs.YtcjmplpfebpfpaaGreatDoor
open Go.RowKit Go.Proofs Go.Proofs.YtcjmplpfebpfpaaGreatDoorW.PrintWords Go.Proofs.YtcjmplpfebpfpaaGreatDoorW.PrintLast Go.Proofs.YtcjmplpfebpfpaaGreatDoorW.PrintMore PKindInstances
set_option linter.unusedVariables false
set_option linter.unusedSimpArgs false

theorem wrap_up {i : Nat} (h : i < 9000000000000) : wrap64 ((i : Int) + 1) = ((i + 1 : Nat) : Int) := by unfold wrap64; omega
theorem drop_at5 {α : Type} {l : List α} {i : Nat} {x : α} (hx : l[i]? = some x) : l.drop i = x :: l.drop (i + 1) := by
  obtain ⟨h, e⟩ := List.getElem?_eq_some_iff.1 hx
  rw [List.drop_eq_getElem_cons h, e]
theorem rdOf_at {α : Type} {z : α} {l : List α} {i : Nat} {x : α} (hx : l[i]? = some x) : rdOf z l (i : Int) = x := by simp [rdOf, List.getD, hx]

theorem bytes_toList' (l : List UInt8) : (ByteArray.mk l.toArray).toList = l := by rw [ByteArray.toList_eq]
theorem has_l0 (l : List ByteArray) (a : ByteArray) (hl : l.length < 9000000000000) (d : Nat) : ∀ (k i : Nat), d + i = l.length → d < k → plinthref03_Has.l0 k l a (i : Int) = some (decide (a ∈ l.drop i)) := by
  induction d with
  | zero =>
    intro k i h hk
    obtain ⟨k, rfl⟩ : ∃ m, k = m + 1 := ⟨k - 1, by omega⟩
    have e : l.drop i = [] := List.drop_eq_nil_of_le (by omega)
    simp only [plinthref03_Has.l0]
    rw [if_neg (by omega), e]
    simp
  | succ d ih =>
    intro k i h hk
    obtain ⟨k, rfl⟩ : ∃ m, k = m + 1 := ⟨k - 1, by omega⟩
    have hlt : i < l.length := by omega
    obtain ⟨x, hx⟩ : ∃ x, l[i]? = some x := ⟨l[i], by simp [hlt]⟩
    simp only [plinthref03_Has.l0]
    rw [if_pos (by omega), if_pos (by omega), rdOf_at hx, drop_at5 hx]
    by_cases e : x.toList = a.toList
    · rw [if_pos e, bytes_inj e]
      simp
    · rw [if_neg e, wrap_up (by omega), ih k (i + 1) (by omega) (by omega)]
      have : a ≠ x := fun h => e (by rw [h])
      simp [this]
theorem has_ev (l : List ByteArray) (a : ByteArray) (hl : l.length < 9000000000000) : Ev (fun k => plinthref03_Has.f k l a) (decide (a ∈ l)) := by
  refine ⟨l.length + 1, fun k hk => ?_⟩
  have := has_l0 l a hl l.length k 0 (by omega) (by omega)
  simpa [plinthref03_Has.f] using this

theorem reserved_ev (s : ByteArray) : Ev (fun k => plinthref03_Reserved.f k s) (resM s) := by
  have h := has_ev ([(⟨#[105, 110, 116]⟩ : ByteArray), (⟨#[98, 111, 111, 108]⟩ : ByteArray), (⟨#[98, 105, 116, 115]⟩ : ByteArray), (⟨#[115, 101, 113]⟩ : ByteArray), (⟨#[115, 101, 116]⟩ : ByteArray), (⟨#[98, 97, 103]⟩ : ByteArray), (⟨#[109, 97, 112]⟩ : ByteArray), (⟨#[105, 109, 97, 112]⟩ : ByteArray), (⟨#[102, 117, 110]⟩ : ByteArray), (⟨#[109, 97, 121, 98, 101]⟩ : ByteArray)]) s (by simp)
  have e1 : (s.toList == [105, 110, 116]) = decide (s = ⟨#[105, 110, 116]⟩) := by
    by_cases h : s = ⟨#[105, 110, 116]⟩
    · rw [h, bytes_toList']; rfl
    · rw [decide_eq_false h]; exact beq_eq_false_iff_ne.mpr fun e => h (bytes_inj (e.trans (bytes_toList' _).symm))
  have e2 : (s.toList == [98, 111, 111, 108]) = decide (s = ⟨#[98, 111, 111, 108]⟩) := by
    by_cases h : s = ⟨#[98, 111, 111, 108]⟩
    · rw [h, bytes_toList']; rfl
    · rw [decide_eq_false h]; exact beq_eq_false_iff_ne.mpr fun e => h (bytes_inj (e.trans (bytes_toList' _).symm))
  have e3 : resM s = decide (s ∈ [(⟨#[105, 110, 116]⟩ : ByteArray), (⟨#[98, 111, 111, 108]⟩ : ByteArray), (⟨#[98, 105, 116, 115]⟩ : ByteArray), (⟨#[115, 101, 113]⟩ : ByteArray), (⟨#[115, 101, 116]⟩ : ByteArray), (⟨#[98, 97, 103]⟩ : ByteArray), (⟨#[109, 97, 112]⟩ : ByteArray), (⟨#[105, 109, 97, 112]⟩ : ByteArray), (⟨#[102, 117, 110]⟩ : ByteArray), (⟨#[109, 97, 121, 98, 101]⟩ : ByteArray)]) := by
    unfold resM
    rw [e1, e2]
    simp only [headsM, look, List.mem_cons, List.not_mem_nil, or_false]
    repeat' split
    all_goals simp_all
  rw [e3]
  exact Ev.bind h (Ev.now _)

end Go.Proofs.YtcjmplpfebpfpaaGreatDoor

namespace Go.Proofs.YtcjmplpfebpfpaaGreatDoor
open Go.RowKit Go.Proofs Go.Proofs.YtcjmplpfebpfpaaGreatDoorW.PrintWords Go.Proofs.YtcjmplpfebpfpaaGreatDoorW.PrintLast Go.Proofs.YtcjmplpfebpfpaaGreatDoorW.PrintMore PKindInstances
set_option linter.unusedVariables false
set_option linter.unusedSimpArgs false

def countM (T : List S114) (h : ByteArray) (n : Int) : Int := match findT T h with | none => 6 | some r => if r.f2 = n then 0 else 8
theorem row_Ev (T : List S114) (h : ByteArray) (hn : T.length < 9000000) : Ev (fun k => plinthref03_row.f k (T.map toS) h) (lookS (T.map toS) h) :=
  ⟨T.length + 1, fun k hk => row_ev (T.map toS) h (by simpa using hn) k (by simp; omega)⟩
theorem count_ev (T : List S114) (h : ByteArray) (n : Int) (hn : T.length < 9000000) : Ev (fun k => plinthref03_count.f k h n (T.map toS)) (countM T h n) := by
  unfold plinthref03_count.f
  refine Ev.bind (row_Ev T h hn) ?_
  rw [look_toS]
  unfold countM
  cases findT T h with
  | none => exact Ev.now _
  | some r =>
    simp only [if_true]
    by_cases e : r.f2 = n
    · rw [if_pos e, if_pos e]; exact Ev.now _
    · rw [if_neg e, if_neg e]; exact Ev.now _
theorem headL_zero {l : List S24} (h : (headL l).toList ≠ []) : ∃ k r, l = k :: r ∧ k.f0 = 1 ∧ headL l = k.f2 := by
  cases l with
  | nil => exact absurd (by simp [headL, ByteArray.toList_eq]) h
  | cons k r =>
    by_cases h1 : k.f0 = 1
    · exact ⟨k, r, rfl, h1, by simp [headL, h1]⟩
    · exact absurd (by simp [headL, h1, ByteArray.toList_eq]) h
theorem tab_names : ∀ {T : List S114} {seen : List ByteArray}, tabM seen T = true → ∀ r ∈ T, isNameM r.f0 = true
  | [], _, _, r, h => absurd h List.not_mem_nil
  | x :: l, seen, h, r, hr => by
    simp only [tabM] at h
    split at h
    · cases h
    · rename_i hc
      rcases List.mem_cons.1 hr with hr | hr
      · subst hr
        cases hn : isNameM r.f0 with
        | true => rfl
        | false => rw [hn] at hc; simp at hc
      · exact tab_names h r hr
theorem find_res {T : List S114} {h : ByteArray} (ht : tabM [] T = true) (hr : resM h = true) : findT T h = none := by
  unfold findT
  rw [List.find?_eq_none]
  intro r hm he
  have h1 := tab_names ht r hm
  have h2 : h = r.f0 := of_decide_eq_true he
  unfold isNameM at h1
  rw [← h2, hr] at h1
  simp at h1
theorem rd24c (k0 : S24) (r : List S24) : rd_T24 (k0 :: r) 0 = k0 := rfl
theorem outj_ev (T : List S114) (h : ByteArray) (b : Bool) (a m : Int) (s : ByteArray) (l : List S24) (hn : T.length < 9000000) (hl : l.length < 9000000) (hl0 : 0 < l.length) :
    Ev (fun k => plinthref03_outside.j0 k (T.map toS) h b a m s l) (if b = true then 8 else if resM h = true then 0 else countM T h ((l.length : Int) - 1)) := by
  cases b with
  | true => exact Ev.step (f := fun _ => some 8) (fun k => by simp only [plinthref03_outside.j0]; rw [if_pos trivial]) (Ev.now _)
  | false =>
    rw [if_neg (by simp)]
    refine Ev.step (f := fun k => (plinthref03_Reserved.f k h).bind fun t => (if t = true then (some 0) else ((plinthref03_count.f k h (wrap64 ((l.length : Int) - 1)) (T.map toS)).bind fun t => (some t)))) (fun k => by simp only [plinthref03_outside.j0]; rw [if_neg (by simp)]) ?_
    refine Ev.bind (reserved_ev h) ?_
    cases hr : resM h with
    | true => exact Ev.now _
    | false =>
      rw [if_neg (by simp)]
      have e : wrap64 ((l.length : Int) - 1) = (l.length : Int) - 1 := by unfold wrap64; omega
      rw [e]
      refine Ev.congr (f := fun k => (plinthref03_count.f k h ((l.length : Int) - 1) (T.map toS)).bind fun t => (some t)) (fun k => by rw [if_neg (by simp)]) ?_
      exact Ev.bind (count_ev T h _ hn) (Ev.now _)
theorem outside_ev (T : List S114) (x : S24) (ht : tabM [] T = true) (hn : T.length < 9000000) (hl : x.f3.length < 9000000) (hs : shapedM x = true) (hv : x.f0 = 1 → x.f3 = []) :
    Ev (fun k => plinthref03_outside.f k x.f0 x.f1 x.f2 x.f3 (T.map toS)) (outT T x) := by
  obtain ⟨a, m, s, l⟩ := x
  simp only [] at hl hv ⊢
  by_cases h1 : a = 1
  · subst h1
    obtain rfl := hv rfl
    have hnm : nameF ⟨1, m, s, []⟩ = s := by simp [nameF]
    by_cases hi : s.toList = [105, 110, 116]
    · refine Ev.congr (f := fun _ => some 0) (fun k => by simp [plinthref03_outside.f, plinthref03_isWord.f, hi]) ?_
      have hsi : s = intB := bytes_inj (by rw [hi]; simp [ByteArray.toList_eq, intB])
      have e : outT T ⟨1, m, s, []⟩ = 0 := by
        unfold outT; rw [hnm, hsi]
        simp [manyM, resM, look, headsM, ByteArray.toList_eq, bitsB, seqB, setB, bagB, maybeB, mapB, imapB, funB, intB]
      rw [e]; exact Ev.now _
    by_cases hb : s.toList = [98, 111, 111, 108]
    · refine Ev.congr (f := fun _ => some 0) (fun k => by simp [plinthref03_outside.f, plinthref03_isWord.f, hi, hb]) ?_
      have hsi : s = boolB := bytes_inj (by rw [hb]; simp [ByteArray.toList_eq, boolB])
      have e : outT T ⟨1, m, s, []⟩ = 0 := by
        unfold outT; rw [hnm, hsi]
        simp [manyM, resM, look, headsM, ByteArray.toList_eq, bitsB, seqB, setB, bagB, maybeB, mapB, imapB, funB, boolB]
      rw [e]; exact Ev.now _
    refine Ev.congr (f := fun k => (plinthref03_count.f k s 0 (T.map toS)).bind fun t => some t) (fun k => by simp [plinthref03_outside.f, plinthref03_isWord.f, hi, hb]) ?_
    have e : outT T ⟨1, m, s, []⟩ = countM T s 0 := by
      unfold outT countM
      rw [hnm]
      cases hm : manyM s with
      | some q =>
        have hr : resM s = true := by rw [res_many, hm]; rfl
        rw [find_res ht hr]
        simp
      | none =>
        have hr : resM s = false := by rw [res_many, hm, beq_eq_false_iff_ne.mpr hi, beq_eq_false_iff_ne.mpr hb]; rfl
        rw [hr]
        simp
        rfl
    rw [e]
    exact Ev.bind (count_ev T s 0 hn) (Ev.now _)
  · obtain ⟨h3, hsh⟩ := shaped_list hs h1
    simp only [] at h3 hsh
    subst h3
    obtain ⟨hne, h2⟩ := shape_list hsh
    obtain ⟨k0, r, rfl, hk0, hh⟩ := headL_zero hne
    have hnm : nameF ⟨3, m, s, k0 :: r⟩ = k0.f2 := by simp [nameF, hh]
    have hbits : (k0.f2.toList = [98, 105, 116, 115]) ↔ k0.f2 = bitsB := ⟨fun e => bytes_inj (by rw [e]; simp [ByteArray.toList_eq, bitsB]), fun e => by rw [e]; simp [ByteArray.toList_eq, bitsB]⟩
    obtain ⟨k1, r1, rfl⟩ : ∃ k1 r1, r = k1 :: r1 := by
      cases r with
      | nil => simp at h2
      | cons k1 r1 => exact ⟨k1, r1, rfl⟩
    have hkid : kid1 ⟨3, m, s, k0 :: k1 :: r1⟩ = k1 := rfl
    have e : outT T ⟨3, m, s, k0 :: k1 :: r1⟩ = if decide (k0.f2 = bitsB ∧ (k1.f1 < 1 ∨ 16 < k1.f1)) = true then 8 else if resM k0.f2 = true then 0 else countM T k0.f2 (((k0 :: k1 :: r1).length : Int) - 1) := by
      unfold outT countM
      rw [hnm, hkid, if_neg (by simp)]
      by_cases hb : k0.f2 = bitsB
      · have hr : resM k0.f2 = true := by rw [hb]; exact res_bits
        rw [if_pos hr]
        by_cases hc : k1.f1 < 1 ∨ 16 < k1.f1
        · rw [if_pos ⟨hb, hc⟩, if_pos (by simp [hb, hc])]
        · rw [if_neg (fun h => hc h.2), if_neg (by simp [hc]), if_pos hr]
      · rw [if_neg (by simp [hb] : ¬ decide (k0.f2 = bitsB ∧ (k1.f1 < 1 ∨ 16 < k1.f1)) = true)]
        by_cases hr : resM k0.f2 = true
        · rw [if_pos hr, if_pos hr, if_neg (fun h => hb h.1)]
        · rw [if_neg hr, if_neg hr]
          have e : max 0 (((k0 :: k1 :: r1).length : Int) - 1) = ((k0 :: k1 :: r1).length : Int) - 1 := by simp only [List.length_cons] at *; omega
          simp only [e]
          cases findT T k0.f2 <;> rfl
    rw [e]
    refine Ev.congr (f := fun k => plinthref03_outside.j0 k (T.map toS) k0.f2 (decide (k0.f2 = bitsB ∧ (k1.f1 < 1 ∨ 16 < k1.f1))) 3 m s (k0 :: k1 :: r1)) (fun k => ?_) (outj_ev T k0.f2 _ 3 m s (k0 :: k1 :: r1) hn hl (by simp))
    have l0 : (0 : Int) < ((k0 :: k1 :: r1).length : Int) := by simp only [List.length_cons]; omega
    have l1 : (1 : Int) < ((k0 :: k1 :: r1).length : Int) := by simp only [List.length_cons]; omega
    simp only [plinthref03_outside.f, plinthref03_isWord.f, Option.bind_some]
    rw [if_neg (by decide), if_pos l0, rd24c]
    by_cases hb : k0.f2 = bitsB
    · rw [if_pos (hbits.2 hb), if_pos l1]
      have ek : rd_T24 (k0 :: k1 :: r1) 1 = k1 := rfl
      rw [ek]
      by_cases hc : k1.f1 < 1
      · rw [if_pos hc, decide_eq_true ⟨hb, .inl hc⟩]
      · rw [if_neg hc]
        congr 1
        simp [hb, hc]
    · rw [if_neg (fun h => hb (hbits.1 h)), decide_eq_false (fun h => hb h.1)]

end Go.Proofs.YtcjmplpfebpfpaaGreatDoor
