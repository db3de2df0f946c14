/- Part 9 of what the law's row leans on (Na): the print's words and functions, cut to what is reached, and own texts. -/
import Derived.Test.YtcjmplpfebpfpaaGreatDoorNa8
namespace Go.Proofs.YtcjmplpfebpfpaaGreatDoor.PKindInstances
open Go.RowKit Go.Proofs.YtcjmplpfebpfpaaGreatDoorW.PrintWords Go.Proofs.YtcjmplpfebpfpaaGreatDoorW.PrintLast Go.Proofs.YtcjmplpfebpfpaaGreatDoorW.PrintMore
attribute [local go_sem] max2_int min2_int max_two min_two max_three min_three max_four min_four   -- for this text's walks alone
set_option linter.unusedVariables false
set_option linter.unusedSimpArgs false

def plinthref03_find.l0 : Nat → List (S71) → ByteArray → Int → Option (Int × Int × ByteArray × (List (S24)) × Bool)
  | 0, _, _, _ => none
  | k + 1, x0, x1, x6 => if x6 < (x0.length : Int) then (if 0 ≤ x6 then (if ((rd_T71 x0 x6).f0).toList = x1.toList then (some ((rd_T71 x0 x6).f1.f0, (rd_T71 x0 x6).f1.f1, (rd_T71 x0 x6).f1.f2, (rd_T71 x0 x6).f1.f3, true)) else (plinthref03_find.l0 k x0 x1 (wrap64 (x6 + 1)))) else (none)) else (some (0, 0, (⟨#[]⟩ : ByteArray), ([] : List (S24)), false))
def plinthref03_find.f (k : Nat) (l0 : List (S71)) (a1 : ByteArray) : Option (Int × Int × ByteArray × (List (S24)) × Bool) := (plinthref03_Reserved.f k a1).bind fun t431 => (if t431 = true then (some (0, 0, (⟨#[]⟩ : ByteArray), ([] : List (S24)), false)) else (plinthref03_find.l0 k l0 a1 0))
set_option maxHeartbeats 8000000 in
set_option maxRecDepth 100000 in
theorem plinthref03_find.calls (k : Nat) (P0_ : Nat → Prop) (A0 : Option Addr) (c0 : Nat) (l0 : List (S71)) (a1 : ByteArray) (r1 : Int) (r2 : Int) (r3 : ByteArray) (r4 : List (S24)) (r5 : Bool) (w : World) (hs0 : Kd.V k71 71 w w.heap.size (fun k_ => P0_ k_) (.slice A0 l0.length c0) l0) (h : plinthref03_find.f k l0 a1 = some (r1, r2, r3, r4, r5)) :
    Calls Tryz.prog 67 #[.slice A0 l0.length c0, .string a1] w fun e w' => ∃ v3_ : Value, e = .returned (.tuple #[.agg #[.int .i64 r1, .int .i64 r2, .string r3, v3_], .bool r5]) ∧ Kd.V k24 24 w' w.heap.size (fun k_ => (P0_ k_ ∨ w.heap.size ≤ k_)) v3_ r4 ∧ Below w.heap.size w w' := by
  have hu24 := Tryz.underlying24
  have HO0 := Aside0.mk (show Kd.V k71 71 w w.heap.size (fun k_ => (P0_ k_ ∨ w.heap.size ≤ k_)) (.slice A0 l0.length c0) l0 from Kd.V_mono hs0 (fun k_ hk => .inl hk))
  have HB := Aside0.mk (Below.refl w.heap.size w)
  have H : ((plinthref03_Reserved.f k a1).bind fun t431 => (if t431 = true then (some (0, 0, (⟨#[]⟩ : ByteArray), ([] : List (S24)), false)) else (plinthref03_find.l0 k l0 a1 0))) = some (r1, r2, r3, r4, r5) := h
  clear h
  replace H := Option.bind_eq_some_iff.mp H
  obtain ⟨t431, A30, H⟩ := H
  replace H : (if t431 = true then (some (0, 0, (⟨#[]⟩ : ByteArray), ([] : List (S24)), false)) else (plinthref03_find.l0 k l0 a1 0)) = some (r1, r2, r3, r4, r5) := H
  have A3 := Aside0.mk A30
  clear A30
  by_cases c4 : t431 = true
  · subst c4
    have H1 : (some (0, 0, (⟨#[]⟩ : ByteArray), ([] : List (S24)), false)) = some (r1, r2, r3, r4, r5) := by rw [if_pos rfl] at H; exact H
    clear H
    have H := H1
    clear H1
    simp only [Option.some.injEq, Prod.mk.injEq] at H
    obtain ⟨rfl, rfl, rfl, rfl, rfl⟩ := H
    go_enter Tryz.func67, Tryz.ntmps67
    go_wp2_with (first | ((with_reducible refine gate_dst (N := 4) rfl ?_); refine box_event ?hg (N := 4) ?hd (cs := #[.int .i64 0, .int .i64 0, .string (⟨#[]⟩ : ByteArray), .slice none 0 0]) (t := 24) ?hr ?_; (case hd => rfl); (case hg => rfl); (case hr => first | (go_simp; done) | (go_simp; rfl)); intro gb430 hg w5 hbox hb; have n0_ := Aside0.mk (Kd.V_below (Kd.V_elderB (by (with_reducible repeat (first | apply Kd.V_alloc | apply Kd.V_drewN | apply Kd.V_drew)); exact HO0.out) gb430 (Nat.le_of_eq hg.symm)) hb); have n1_ := Aside0.mk (below_step (by repeat (first | (with_reducible first | exact HB.out | apply below_alloc | apply pw_below_drewN | apply below_drew1) | exact HB.out)) hb); have n2_ := Aside0.mk (hbox); have n3_ := Aside0.mk ((by rw [hg]; exact (below_size (by repeat (first | (with_reducible first | exact HB.out | apply below_alloc | apply pw_below_drewN | apply below_drew1) | exact HB.out))) : w.heap.size ≤ gb430)); have n4_ := Aside0.mk ((by rw [hg]; exact (below_size (by repeat (first | (with_reducible first | exact HB.out | apply below_alloc | apply pw_below_drewN | apply below_drew1) | exact HB.out))) : w.heap.size ≤ gb430)); clear HO0; clear HB; have HO0 := n0_; have HB := n1_; have BK430 := n2_; have GW430 := n3_; have GE430 := n4_; clear n0_ n1_ n2_ n3_ n4_; clear hb hbox hg) | ((with_reducible refine gate_callee (f := 62) rfl ?_); refine goesL_ (some 8) rfl rfl Tryz.func62 (by kernel_rfl) rfl #[.string a1] rfl (by (try simp only [List.map_toArray, List.map_cons, List.map_nil]); first | done | rfl | (simp only [List.length_drop, List.length_take]; rfl)) ?_; (with_reducible refine (plinthref03_Reserved.calls k a1 true _ A3.out).mono ?_); rintro e w6 ⟨rfl, hb⟩; refine ⟨_, rfl, ?_⟩; have n0_ := Aside0.mk (Kd.V_below (by (with_reducible repeat (first | apply Kd.V_alloc | apply Kd.V_drewN | apply Kd.V_drew)); exact HO0.out) hb); have n1_ := Aside0.mk (blk_below (g := gb430) (o := .cells #[.int .i64 0, .int .i64 0, .string (⟨#[]⟩ : ByteArray), .slice none 0 0] 24 (0, 0)) (by (with_reducible repeat (first | refine blk_drewN ?_ _ | refine blk_drew ?_ | refine blk_alloc ?_ _)); exact BK430.out) hb); have n2_ := Aside0.mk (below_step (by repeat (first | (with_reducible first | exact HB.out | apply below_alloc | apply pw_below_drewN | apply below_drew1 | refine below_set ?_ GE430.out) | exact HB.out)) hb); clear HO0; clear BK430; clear HB; have HO0 := n0_; have BK430 := n1_; have HB := n2_; clear n0_ n1_ n2_; (try clear hb); (try clear hb2); (try clear hk); (try clear hi); have hcz7_0 : w6.cell? ⟨gb430, 0, none⟩ = some (.int .i64 0) := (blk_cell BK430.out 0).trans rfl; have hcz7_1 : w6.cell? ⟨gb430, 1, none⟩ = some (.int .i64 0) := (blk_cell BK430.out 1).trans rfl; have hcz7_2 : w6.cell? ⟨gb430, 2, none⟩ = some (.string (⟨#[]⟩ : ByteArray)) := (blk_cell BK430.out 2).trans rfl; have hcz7_3 : w6.cell? ⟨gb430, 3, none⟩ = some (.slice none 0 0) := (blk_cell BK430.out 3).trans rfl; have hfz7_0 := blk_frozen BK430.out 0; have hfz7_1 := blk_frozen BK430.out 1; have hfz7_2 := blk_frozen BK430.out 2; have hfz7_3 := blk_frozen BK430.out 3))
    refine bodyPost_ret (results_ct rfl _ _ gb430 24 #[.int .i64 0, .int .i64 0, .string (⟨#[]⟩ : ByteArray), .slice none 0 0] (0, 0) _ rfl (by (with_reducible repeat (first | refine blk_drewN ?_ _ | refine blk_drew ?_ | refine blk_alloc ?_ _)); refine blk_put (cs := #[.int .i64 0, .int .i64 0, .string (⟨#[]⟩ : ByteArray), .slice none 0 0]) ?_ 3 _ rfl; (with_reducible repeat (first | refine blk_drewN ?_ _ | refine blk_drew ?_ | refine blk_alloc ?_ _)); refine blk_put (cs := #[.int .i64 0, .int .i64 0, .string (⟨#[]⟩ : ByteArray), .slice none 0 0]) ?_ 2 _ rfl; (with_reducible repeat (first | refine blk_drewN ?_ _ | refine blk_drew ?_ | refine blk_alloc ?_ _)); refine blk_put (cs := #[.int .i64 0, .int .i64 0, .string (⟨#[]⟩ : ByteArray), .slice none 0 0]) ?_ 1 _ rfl; (with_reducible repeat (first | refine blk_drewN ?_ _ | refine blk_drew ?_ | refine blk_alloc ?_ _)); refine blk_put (cs := #[.int .i64 0, .int .i64 0, .string (⟨#[]⟩ : ByteArray), .slice none 0 0]) ?_ 0 _ rfl; (with_reducible repeat (first | refine blk_drewN ?_ _ | refine blk_drew ?_ | refine blk_alloc ?_ _)); exact BK430.out) Tryz.underlying24 rfl (by kernel_rfl)) rfl ?_
    exact ⟨_, by first | rfl | (simp [errW_none, errW_some] <;> rfl) | (simp [*, errW_none, errW_some] <;> rfl), Kd.V_nil _ _ _ _ _, by repeat (first | (with_reducible first | exact HB.out | apply below_alloc | apply pw_below_drewN | apply below_drew1 | refine below_set ?_ GE430.out) | exact HB.out)⟩
  · replace c4 := Bool.eq_false_iff.mpr c4
    subst c4
    have H1 : (plinthref03_find.l0 k l0 a1 0) = some (r1, r2, r3, r4, r5) := by rw [if_neg (show ¬ (false = true) by decide)] at H; exact H
    clear H
    have H := H1
    clear H1
    have H' := Aside0.mk H
    clear H
    go_enter Tryz.func67, Tryz.ntmps67
    go_wp2_with (first | ((with_reducible refine gate_dst (N := 4) rfl ?_); refine box_event ?hg (N := 4) ?hd (cs := #[.int .i64 0, .int .i64 0, .string (⟨#[]⟩ : ByteArray), .slice none 0 0]) (t := 24) ?hr ?_; (case hd => rfl); (case hg => rfl); (case hr => first | (go_simp; done) | (go_simp; rfl)); intro gb430 hg w8 hbox hb; have n0_ := Aside0.mk (Kd.V_below (Kd.V_elderB (by (with_reducible repeat (first | apply Kd.V_alloc | apply Kd.V_drewN | apply Kd.V_drew)); exact HO0.out) gb430 (Nat.le_of_eq hg.symm)) hb); have n1_ := Aside0.mk (below_step (by repeat (first | (with_reducible first | exact HB.out | apply below_alloc | apply pw_below_drewN | apply below_drew1) | exact HB.out)) hb); have n2_ := Aside0.mk (hbox); have n3_ := Aside0.mk ((by rw [hg]; exact (below_size (by repeat (first | (with_reducible first | exact HB.out | apply below_alloc | apply pw_below_drewN | apply below_drew1) | exact HB.out))) : w.heap.size ≤ gb430)); have n4_ := Aside0.mk ((by rw [hg]; exact (below_size (by repeat (first | (with_reducible first | exact HB.out | apply below_alloc | apply pw_below_drewN | apply below_drew1) | exact HB.out))) : w.heap.size ≤ gb430)); clear HO0; clear HB; have HO0 := n0_; have HB := n1_; have BK430 := n2_; have GW430 := n3_; have GE430 := n4_; clear n0_ n1_ n2_ n3_ n4_; clear hb hbox hg) | ((with_reducible refine gate_callee (f := 62) rfl ?_); refine goesL_ (some 8) rfl rfl Tryz.func62 (by kernel_rfl) rfl #[.string a1] rfl (by (try simp only [List.map_toArray, List.map_cons, List.map_nil]); first | done | rfl | (simp only [List.length_drop, List.length_take]; rfl)) ?_; (with_reducible refine (plinthref03_Reserved.calls k a1 false _ A3.out).mono ?_); rintro e w9 ⟨rfl, hb⟩; refine ⟨_, rfl, ?_⟩; have n0_ := Aside0.mk (Kd.V_below (by (with_reducible repeat (first | apply Kd.V_alloc | apply Kd.V_drewN | apply Kd.V_drew)); exact HO0.out) hb); have n1_ := Aside0.mk (blk_below (g := gb430) (o := .cells #[.int .i64 0, .int .i64 0, .string (⟨#[]⟩ : ByteArray), .slice none 0 0] 24 (0, 0)) (by (with_reducible repeat (first | refine blk_drewN ?_ _ | refine blk_drew ?_ | refine blk_alloc ?_ _)); exact BK430.out) hb); have n2_ := Aside0.mk (below_step (by repeat (first | (with_reducible first | exact HB.out | apply below_alloc | apply pw_below_drewN | apply below_drew1 | refine below_set ?_ GE430.out) | exact HB.out)) hb); clear HO0; clear BK430; clear HB; have HO0 := n0_; have BK430 := n1_; have HB := n2_; clear n0_ n1_ n2_; (try clear hb); (try clear hb2); (try clear hk); (try clear hi)))
    go_loopg [6] k (fun kq v6 w' => ∃ (x6_1 : Int) (x431000_1 : Int) (x431001_1 : Int) (x431002_1 : ByteArray), v6 = .int .i64 x6_1 ∧ Aside0 (plinthref03_find.l0 kq l0 a1 x6_1 = some (r1, r2, r3, r4, r5)) ∧ Aside0 (kq ≤ k) ∧ Aside0 (Kd.V k71 71 w' w.heap.size (fun k_ => (P0_ k_ ∨ w.heap.size ≤ k_) ∧ k_ ≠ gb430) (.slice A0 l0.length c0) l0) ∧ Aside0 (w'.heap[gb430]? = some (.cells #[.int .i64 x431000_1, .int .i64 x431001_1, .string x431002_1, (.slice none 0 0)] 24 (0, 0))) ∧ Aside0 (Below w.heap.size w w'))
    case atStart => exact ⟨(0), (0), (0), ((⟨#[]⟩ : ByteArray)), (by first | rfl | (simp; done) | (simp [*]; done)), H', ⟨Nat.le_refl _⟩, ⟨by (with_reducible repeat (first | apply Kd.V_alloc | apply Kd.V_drewN | apply Kd.V_drew)); exact HO0.out⟩, ⟨by (with_reducible repeat (first | refine blk_drewN ?_ _ | refine blk_drew ?_ | refine blk_alloc ?_ _)); exact BK430.out⟩, ⟨by repeat (first | (with_reducible first | exact HB.out | apply below_alloc | apply pw_below_drewN | apply below_drew1 | refine below_set ?_ GE430.out) | exact HB.out)⟩⟩
    case round =>
      clear H'
      try clear p2
      try clear c4
      try clear c6
      try clear hcz7_0
      try clear hcz7_1
      try clear hcz7_2
      try clear hcz7_3
      try clear hfz7_0
      try clear hfz7_1
      try clear hfz7_2
      try clear hfz7_3
      obtain ⟨x6_1, x431000_1, x431001_1, x431002_1, rfl, HA, HK1, HO_0, BK430, HB⟩ := hrel
      cases gk with
      | zero => exact absurd HA.out (by simp [plinthref03_find.l0])
      | succ k1 =>
        have H := HA.out
        clear HA
        simp only [plinthref03_find.l0] at H
        by_cases c10 : x6_1 < (l0.length : Int)
        · rw [if_pos c10] at H
          have c10b0 : decide (x6_1 < (l0.length : Int)) = true := decide_eq_true c10
          clear c10
          by_cases c11 : 0 ≤ x6_1
          · rw [if_pos c11] at H
            have c11b0 : decide (0 ≤ x6_1) = true := decide_eq_true c11
            clear c11
            by_cases c12 : ((rd_T71 l0 x6_1).f0).toList = a1.toList
            · rw [if_pos c12] at H
              have c12b0 : (((rd_T71 l0 x6_1).f0).toList == a1.toList) = true := beq_iff_eq.mpr c12
              have c12b1 : (((rd_T71 l0 x6_1).f0).toList != a1.toList) = false := bne_eq_false_iff_eq.mpr c12
              clear c12
              simp only [Option.some.injEq, Prod.mk.injEq] at H
              obtain ⟨rfl, rfl, rfl, rfl, rfl⟩ := H
              have p432 : 0 ≤ (x6_1 : Int) := of_decide_eq_true (by first | (with_reducible assumption) | assumption)
              have q432 : x6_1 < (l0.length : Int) := of_decide_eq_true (by first | (with_reducible assumption) | assumption)
              obtain ⟨ad432, A432_4, c432_4, e432, hx432_0, hx432_1, hx432_2, hx432_3, hx432_4, hl432_4, hi432_4⟩ := at_T71 (Kd.V_reads' HO_0.out).2.2 x6_1 p432 q432
              cases e432
              obtain ⟨ce432, hce432, hMe432, hcc432⟩ := Kd.V_get HO_0.out z71 x6_1 p432 (by first | exact q432 | exact of_decide_eq_true (by first | (with_reducible assumption) | assumption) | (have e_ := (Kd.V_reads' HO_0.out).1; omega))
              obtain ⟨ua432_4, uc432_4, rfl, ul432_4, ge432_4⟩ := k71_openF hMe432
              have hv432_4 := hcc432 4 _ rfl
              rw [add_field _ _ 4 (by omega)] at hv432_4
              replace hv432_4 := Option.some.inj (hv432_4.symm.trans hx432_4)
              injection hv432_4 with hva_ hvn_ hvc_
              rw [hva_] at ge432_4
              rw [hvc_] at ul432_4
              have HL432_4 := Aside0.mk (show Kd.V k24 24 _ w.heap.size _ _ ((rd_T71 l0 x6_1).f1.f3) from Kd.V_mk ul432_4 ge432_4)
              clear hva_ hvn_ hvc_ ge432_4 ul432_4
              clear hcc432 hce432
              have HR432_4 := Aside0.mk hi432_4
              have HC432_4 := Aside0.mk hl432_4
              clear hi432_4 hl432_4
              replace p432 := eq_true p432
              replace q432 := eq_true q432
              have p433 : 0 ≤ (x6_1 : Int) := of_decide_eq_true (by first | (with_reducible assumption) | assumption)
              have q433 : x6_1 < (l0.length : Int) := of_decide_eq_true (by first | (with_reducible assumption) | assumption)
              obtain ⟨ad433, A433_4, c433_4, e433, hx433_0, hx433_1, hx433_2, hx433_3, hx433_4, hl433_4, hi433_4⟩ := at_T71 (Kd.V_reads' HO_0.out).2.2 x6_1 p433 q433
              obtain rfl : ad432 = ad433 := (by injection e433)
              obtain ⟨ce433, hce433, hMe433, hcc433⟩ := Kd.V_get HO_0.out z71 x6_1 p433 (by first | exact q433 | exact of_decide_eq_true (by first | (with_reducible assumption) | assumption) | (have e_ := (Kd.V_reads' HO_0.out).1; omega))
              obtain ⟨ua433_4, uc433_4, rfl, ul433_4, ge433_4⟩ := k71_openF hMe433
              have hv433_4 := hcc433 4 _ rfl
              rw [add_field _ _ 4 (by omega)] at hv433_4
              replace hv433_4 := Option.some.inj (hv433_4.symm.trans hx433_4)
              injection hv433_4 with hva_ hvn_ hvc_
              rw [hva_] at ge433_4
              rw [hvc_] at ul433_4
              have HL433_4 := Aside0.mk (show Kd.V k24 24 _ w.heap.size _ _ ((rd_T71 l0 x6_1).f1.f3) from Kd.V_mk ul433_4 ge433_4)
              clear hva_ hvn_ hvc_ ge433_4 ul433_4
              clear hcc433 hce433
              have HR433_4 := Aside0.mk hi433_4
              have HC433_4 := Aside0.mk hl433_4
              clear hi433_4 hl433_4
              replace p433 := eq_true p433
              replace q433 := eq_true q433
              have ea_ := Option.some.inj (hx432_4.symm.trans hx433_4)
              injection ea_ with ea_ en_ ec_
              subst ea_
              subst ec_
              clear en_
              have hcz13_0 : wr.cell? ⟨gb430, 0, none⟩ = some (.int .i64 x431000_1) := (blk_cell BK430.out 0).trans rfl
              have hcz13_1 : wr.cell? ⟨gb430, 1, none⟩ = some (.int .i64 x431001_1) := (blk_cell BK430.out 1).trans rfl
              have hcz13_2 : wr.cell? ⟨gb430, 2, none⟩ = some (.string x431002_1) := (blk_cell BK430.out 2).trans rfl
              have hcz13_3 : wr.cell? ⟨gb430, 3, none⟩ = some (.slice none 0 0) := (blk_cell BK430.out 3).trans rfl
              have hfz13_0 := blk_frozen BK430.out 0
              have hfz13_1 := blk_frozen BK430.out 1
              have hfz13_2 := blk_frozen BK430.out 2
              have hfz13_3 := blk_frozen BK430.out 3
              go_wp2
              refine bodyPost_ret (results_ct rfl _ _ gb430 24 #[.int .i64 ((rd_T71 l0 x6_1).f1.f0), .int .i64 ((rd_T71 l0 x6_1).f1.f1), .string ((rd_T71 l0 x6_1).f1.f2), .slice A432_4 ((rd_T71 l0 x6_1).f1.f3).length c432_4] (0, 0) _ rfl (by (with_reducible repeat (first | refine blk_drewN ?_ _ | refine blk_drew ?_ | refine blk_alloc ?_ _)); refine blk_put (cs := #[.int .i64 ((rd_T71 l0 x6_1).f1.f0), .int .i64 ((rd_T71 l0 x6_1).f1.f1), .string ((rd_T71 l0 x6_1).f1.f2), .slice none 0 0]) ?_ 3 _ rfl; (with_reducible repeat (first | refine blk_drewN ?_ _ | refine blk_drew ?_ | refine blk_alloc ?_ _)); refine blk_put (cs := #[.int .i64 ((rd_T71 l0 x6_1).f1.f0), .int .i64 ((rd_T71 l0 x6_1).f1.f1), .string x431002_1, .slice none 0 0]) ?_ 2 _ rfl; (with_reducible repeat (first | refine blk_drewN ?_ _ | refine blk_drew ?_ | refine blk_alloc ?_ _)); refine blk_put (cs := #[.int .i64 ((rd_T71 l0 x6_1).f1.f0), .int .i64 x431001_1, .string x431002_1, .slice none 0 0]) ?_ 1 _ rfl; (with_reducible repeat (first | refine blk_drewN ?_ _ | refine blk_drew ?_ | refine blk_alloc ?_ _)); refine blk_put (cs := #[.int .i64 x431000_1, .int .i64 x431001_1, .string x431002_1, .slice none 0 0]) ?_ 0 _ rfl; (with_reducible repeat (first | refine blk_drewN ?_ _ | refine blk_drew ?_ | refine blk_alloc ?_ _)); exact BK430.out) Tryz.underlying24 rfl (by kernel_rfl)) rfl ?_
              exact ⟨_, by first | rfl | (simp [errW_none, errW_some] <;> rfl) | (simp [*, errW_none, errW_some] <;> rfl), by (with_reducible repeat (first | apply Kd.V_alloc | apply Kd.V_drewN | apply Kd.V_drew)); exact Kd.V_mono (Kd.V_far (p := ⟨gb430, 3, none⟩) (Kd.V_far (p := ⟨gb430, 2, none⟩) (Kd.V_far (p := ⟨gb430, 1, none⟩) (Kd.V_far (p := ⟨gb430, 0, none⟩) (Kd.V_mono HL433_4.out (fun k_ hk => (⟨hk, hk.2⟩ : _ ∧ k_ ≠ gb430))) (fun _ hk => hk.2) (.int .i64 ((rd_T71 l0 x6_1).f1.f0))) (fun _ hk => hk.2) (.int .i64 ((rd_T71 l0 x6_1).f1.f1))) (fun _ hk => hk.2) (.string ((rd_T71 l0 x6_1).f1.f2))) (fun _ hk => hk.2) (.slice A432_4 ((rd_T71 l0 x6_1).f1.f3).length c432_4)) (fun _ hk => hk.1.1), by repeat (first | (with_reducible first | exact HB.out | apply below_alloc | apply pw_below_drewN | apply below_drew1 | refine below_set ?_ GE430.out) | exact HB.out)⟩
            · rw [if_neg c12] at H
              have c12b0 : (((rd_T71 l0 x6_1).f0).toList == a1.toList) = false := beq_eq_false_iff_ne.mpr c12
              have c12b1 : (((rd_T71 l0 x6_1).f0).toList != a1.toList) = true := bne_iff_ne.mpr c12
              have H' := Aside0.mk H
              clear H
              have p432 : 0 ≤ (x6_1 : Int) := of_decide_eq_true (by first | (with_reducible assumption) | assumption)
              have q432 : x6_1 < (l0.length : Int) := of_decide_eq_true (by first | (with_reducible assumption) | assumption)
              obtain ⟨ad432, A432_4, c432_4, e432, hx432_0, hx432_1, hx432_2, hx432_3, hx432_4, hl432_4, hi432_4⟩ := at_T71 (Kd.V_reads' HO_0.out).2.2 x6_1 p432 q432
              cases e432
              obtain ⟨ce432, hce432, hMe432, hcc432⟩ := Kd.V_get HO_0.out z71 x6_1 p432 (by first | exact q432 | exact of_decide_eq_true (by first | (with_reducible assumption) | assumption) | (have e_ := (Kd.V_reads' HO_0.out).1; omega))
              obtain ⟨ua432_4, uc432_4, rfl, ul432_4, ge432_4⟩ := k71_openF hMe432
              have hv432_4 := hcc432 4 _ rfl
              rw [add_field _ _ 4 (by omega)] at hv432_4
              replace hv432_4 := Option.some.inj (hv432_4.symm.trans hx432_4)
              injection hv432_4 with hva_ hvn_ hvc_
              rw [hva_] at ge432_4
              rw [hvc_] at ul432_4
              have HL432_4 := Aside0.mk (show Kd.V k24 24 _ w.heap.size _ _ ((rd_T71 l0 x6_1).f1.f3) from Kd.V_mk ul432_4 ge432_4)
              clear hva_ hvn_ hvc_ ge432_4 ul432_4
              clear hcc432 hce432
              have HR432_4 := Aside0.mk hi432_4
              have HC432_4 := Aside0.mk hl432_4
              clear hi432_4 hl432_4
              replace p432 := eq_true p432
              replace q432 := eq_true q432
              go_wp2
              go_roundg k1
              case measure => have := HK1.out; omega
              case rel => exact ⟨(wrap64 (x6_1 + 1)), (x431000_1), (x431001_1), (x431002_1), (by first | rfl | (simp; done) | (simp [*]; done)), H', ⟨by have := HK1.out; omega⟩, ⟨by (with_reducible repeat (first | apply Kd.V_alloc | apply Kd.V_drewN | apply Kd.V_drew)); exact HO_0.out⟩, ⟨by (with_reducible repeat (first | refine blk_drewN ?_ _ | refine blk_drew ?_ | refine blk_alloc ?_ _)); exact BK430.out⟩, ⟨by repeat (first | (with_reducible first | exact HB.out | apply below_alloc | apply pw_below_drewN | apply below_drew1 | refine below_set ?_ GE430.out) | exact HB.out)⟩⟩
          · rw [if_neg c11] at H
            exact absurd H (by simp)
        · rw [if_neg c10] at H
          have c10b0 : decide (x6_1 < (l0.length : Int)) = false := decide_eq_false c10
          clear c10
          simp only [Option.some.injEq, Prod.mk.injEq] at H
          obtain ⟨rfl, rfl, rfl, rfl, rfl⟩ := H
          have hcz14_0 : wr.cell? ⟨gb430, 0, none⟩ = some (.int .i64 x431000_1) := (blk_cell BK430.out 0).trans rfl
          have hcz14_1 : wr.cell? ⟨gb430, 1, none⟩ = some (.int .i64 x431001_1) := (blk_cell BK430.out 1).trans rfl
          have hcz14_2 : wr.cell? ⟨gb430, 2, none⟩ = some (.string x431002_1) := (blk_cell BK430.out 2).trans rfl
          have hcz14_3 : wr.cell? ⟨gb430, 3, none⟩ = some (.slice none 0 0) := (blk_cell BK430.out 3).trans rfl
          have hfz14_0 := blk_frozen BK430.out 0
          have hfz14_1 := blk_frozen BK430.out 1
          have hfz14_2 := blk_frozen BK430.out 2
          have hfz14_3 := blk_frozen BK430.out 3
          go_wp2
          refine bodyPost_ret (results_ct rfl _ _ gb430 24 #[.int .i64 0, .int .i64 0, .string (⟨#[]⟩ : ByteArray), .slice none 0 0] (0, 0) _ rfl (by (with_reducible repeat (first | refine blk_drewN ?_ _ | refine blk_drew ?_ | refine blk_alloc ?_ _)); refine blk_put (cs := #[.int .i64 0, .int .i64 0, .string (⟨#[]⟩ : ByteArray), .slice none 0 0]) ?_ 3 _ rfl; (with_reducible repeat (first | refine blk_drewN ?_ _ | refine blk_drew ?_ | refine blk_alloc ?_ _)); refine blk_put (cs := #[.int .i64 0, .int .i64 0, .string x431002_1, .slice none 0 0]) ?_ 2 _ rfl; (with_reducible repeat (first | refine blk_drewN ?_ _ | refine blk_drew ?_ | refine blk_alloc ?_ _)); refine blk_put (cs := #[.int .i64 0, .int .i64 x431001_1, .string x431002_1, .slice none 0 0]) ?_ 1 _ rfl; (with_reducible repeat (first | refine blk_drewN ?_ _ | refine blk_drew ?_ | refine blk_alloc ?_ _)); refine blk_put (cs := #[.int .i64 x431000_1, .int .i64 x431001_1, .string x431002_1, .slice none 0 0]) ?_ 0 _ rfl; (with_reducible repeat (first | refine blk_drewN ?_ _ | refine blk_drew ?_ | refine blk_alloc ?_ _)); exact BK430.out) Tryz.underlying24 rfl (by kernel_rfl)) rfl ?_
          exact ⟨_, by first | rfl | (simp [errW_none, errW_some] <;> rfl) | (simp [*, errW_none, errW_some] <;> rfl), Kd.V_nil _ _ _ _ _, by repeat (first | (with_reducible first | exact HB.out | apply below_alloc | apply pw_below_drewN | apply below_drew1 | refine below_set ?_ GE430.out) | exact HB.out)⟩

end Go.Proofs.YtcjmplpfebpfpaaGreatDoor.PKindInstances
