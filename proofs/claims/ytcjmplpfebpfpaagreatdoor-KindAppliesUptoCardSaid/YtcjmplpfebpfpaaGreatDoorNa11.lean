/- Part 11 of what the law's row leans on (Na): the print's words and functions, cut to what is reached, and own texts. -/
import Derived.Deep.DeepMust
import Derived.Test.YtcjmplpfebpfpaaGreatDoorNa10
namespace Go.Proofs.YtcjmplpfebpfpaaGreatDoor.PKindInstances
open Go.RowKit Go.Proofs.YtcjmplpfebpfpaaGreatDoorW.PrintWords Go.Proofs.YtcjmplpfebpfpaaGreatDoorW.PrintLast Go.Proofs.YtcjmplpfebpfpaaGreatDoorW.PrintMore
attribute [local go_sem] max2_int min2_int max_two min_two max_three min_three max_four min_four   -- for this text's walks alone
set_option linter.unusedVariables false
set_option linter.unusedSimpArgs false

def plinthref03_Apply.f (k : Nat) (a0_0 : Int) (a0_1 : Int) (a0_2 : ByteArray) (l0_3 : List (S24)) (l1 : List (S71)) : Option (Int × Int × ByteArray × (List (S24))) := (plinthref01_Own.f k a0_0 a0_1 a0_2 l0_3).bind fun bt188 => ((plinthref03_apply.f k bt188.1 bt188.2.1 bt188.2.2.1 bt188.2.2.2 l1 false).bind fun bt194 => (some (bt194.1, bt194.2.1, bt194.2.2.1, bt194.2.2.2)))
set_option maxHeartbeats 8000000 in
set_option maxRecDepth 100000 in
theorem plinthref03_Apply.calls (k : Nat) (a0_0 : Int) (a0_1 : Int) (a0_2 : ByteArray) (A0_3 : Option Addr) (c0_3 : Nat) (l0_3 : List (S24)) (P1_ : Nat → Prop) (A1 : Option Addr) (c1 : Nat) (l1 : List (S71)) (r1 : Int) (r2 : Int) (r3 : ByteArray) (r4 : List (S24)) (w : World) (hr0_3 : Kd.C k24 w A0_3 l0_3.length l0_3) (hc0_3 : l0_3.length ≤ c0_3) (hs1 : Kd.V k71 71 w w.heap.size (fun k_ => P1_ k_) (.slice A1 l1.length c1) l1) (h : plinthref03_Apply.f k a0_0 a0_1 a0_2 l0_3 l1 = some (r1, r2, r3, r4)) :
    Calls Tryz.prog 12 #[.agg #[.int .i64 a0_0, .int .i64 a0_1, .string a0_2, .slice A0_3 l0_3.length c0_3], .slice A1 l1.length c1] w fun e w' => ∃ v3_ : Value, e = .returned (.agg #[.int .i64 r1, .int .i64 r2, .string r3, v3_]) ∧ Kd.V k24 24 w' w.heap.size (fun k_ => (P1_ k_ ∨ w.heap.size ≤ k_)) v3_ r4 ∧ Below w.heap.size w w' := by
  have hu24 := Tryz.underlying24
  have HR0_3 := Aside0.mk hr0_3
  have HC0_3 := Aside0.mk hc0_3
  clear hr0_3 hc0_3
  have HO1 := Aside0.mk (show Kd.V k71 71 w w.heap.size (fun k_ => (P1_ k_ ∨ w.heap.size ≤ k_)) (.slice A1 l1.length c1) l1 from Kd.V_mono hs1 (fun k_ hk => .inl hk))
  have HB := Aside0.mk (Below.refl w.heap.size w)
  have H : ((plinthref01_Own.f k a0_0 a0_1 a0_2 l0_3).bind fun bt188 => ((plinthref03_apply.f k bt188.1 bt188.2.1 bt188.2.2.1 bt188.2.2.2 l1 false).bind fun bt194 => (some (bt194.1, bt194.2.1, bt194.2.2.1, bt194.2.2.2)))) = some (r1, r2, r3, r4) := h
  clear h
  replace H := Option.bind_eq_some_iff.mp H
  obtain ⟨⟨t188, t189, t190, t191⟩, A30, H⟩ := H
  replace H : ((plinthref03_apply.f k t188 t189 t190 t191 l1 false).bind fun bt194 => (some (bt194.1, bt194.2.1, bt194.2.2.1, bt194.2.2.2))) = some (r1, r2, r3, r4) := H
  have A3 := Aside0.mk A30
  clear A30
  replace H := Option.bind_eq_some_iff.mp H
  obtain ⟨⟨t194, t195, t196, t197⟩, A40, H⟩ := H
  replace H : (some (t194, t195, t196, t197)) = some (r1, r2, r3, r4) := H
  have A4 := Aside0.mk A40
  clear A40
  simp only [Option.some.injEq, Prod.mk.injEq] at H
  obtain ⟨rfl, rfl, rfl, rfl⟩ := H
  go_enter Tryz.func12, Tryz.ntmps12
  go_wp2_with (first | ((with_reducible refine gate_dst (N := 2) rfl ?_); refine box_event ?hg (N := 2) ?hd (cs := #[.int .i64 a0_0, .int .i64 a0_1, .string a0_2, .slice A0_3 l0_3.length c0_3]) (t := 24) ?hr ?_; (case hd => rfl); (case hg => rfl); (case hr => first | (go_simp; done) | (go_simp; rfl)); intro gb186 hg w5 hbox hb; have n0_ := Aside0.mk (Kd.V_below (Kd.V_elderB (by (with_reducible repeat (first | apply Kd.V_alloc | apply Kd.V_drewN | apply Kd.V_drew)); exact HO1.out) gb186 (Nat.le_of_eq hg.symm)) hb); have n1_ := Aside0.mk (below_step (by repeat (first | (with_reducible first | exact HB.out | apply below_alloc | apply pw_below_drewN | apply below_drew1) | exact HB.out)) hb); have n2_ := Aside0.mk (hbox); have n3_ := Aside0.mk ((by rw [hg]; exact (below_size (by repeat (first | (with_reducible first | exact HB.out | apply below_alloc | apply pw_below_drewN | apply below_drew1) | exact HB.out))) : w.heap.size ≤ gb186)); have n4_ := Aside0.mk ((by rw [hg]; exact (below_size (by repeat (first | (with_reducible first | exact HB.out | apply below_alloc | apply pw_below_drewN | apply below_drew1) | exact HB.out))) : w.heap.size ≤ gb186)); clear HO1; clear HB; have HO1 := n0_; have HB := n1_; have BK186 := n2_; have GW186 := n3_; have GE186 := n4_; clear n0_ n1_ n2_ n3_ n4_; clear hb hbox hg) | ((with_reducible refine gate_dst (N := 4) rfl ?_); refine box_event ?hg (N := 4) ?hd (cs := #[.int .i64 0, .int .i64 0, .string (⟨#[]⟩ : ByteArray), .slice none 0 0]) (t := 24) ?hr ?_; (case hd => rfl); (case hg => rfl); (case hr => first | (go_simp; done) | (go_simp; rfl)); intro gb187 hg w6 hbox hb; have n0_ := Aside0.mk (Kd.V_below (Kd.V_elderB (by (with_reducible repeat (first | apply Kd.V_alloc | apply Kd.V_drewN | apply Kd.V_drew)); exact HO1.out) gb187 (Nat.le_of_eq hg.symm)) hb); have n1_ := Aside0.mk (blk_below (g := gb186) (o := .cells #[.int .i64 a0_0, .int .i64 a0_1, .string a0_2, .slice A0_3 l0_3.length c0_3] 24 (0, 0)) (by (with_reducible repeat (first | refine blk_drewN ?_ _ | refine blk_drew ?_ | refine blk_alloc ?_ _)); exact BK186.out) hb); have n2_ := Aside0.mk (below_step (by repeat (first | (with_reducible first | exact HB.out | apply below_alloc | apply pw_below_drewN | apply below_drew1 | refine below_set ?_ GE186.out) | exact HB.out)) hb); have n3_ := Aside0.mk (hbox); have n4_ := Aside0.mk ((by rw [hg]; exact (below_size (by repeat (first | (with_reducible first | exact HB.out | apply below_alloc | apply pw_below_drewN | apply below_drew1 | refine below_set ?_ GE186.out) | exact HB.out))) : w.heap.size ≤ gb187)); have n5_ := Aside0.mk ((by rw [hg]; exact (below_size (by repeat (first | (with_reducible first | exact HB.out | apply below_alloc | apply pw_below_drewN | apply below_drew1 | refine below_set ?_ GE186.out) | exact HB.out))) : w.heap.size ≤ gb187)); have n6_ := Aside0.mk ((by rw [hg]; exact Nat.ne_of_lt (blk_lt (g := gb186) (o := .cells #[.int .i64 a0_0, .int .i64 a0_1, .string a0_2, .slice A0_3 l0_3.length c0_3] 24 (0, 0)) (by (with_reducible repeat (first | refine blk_drewN ?_ _ | refine blk_drew ?_ | refine blk_alloc ?_ _)); exact BK186.out)) : gb186 ≠ gb187)); have n7_ := Aside0.mk ((by rw [hg]; exact Nat.ne_of_gt (blk_lt (g := gb186) (o := .cells #[.int .i64 a0_0, .int .i64 a0_1, .string a0_2, .slice A0_3 l0_3.length c0_3] 24 (0, 0)) (by (with_reducible repeat (first | refine blk_drewN ?_ _ | refine blk_drew ?_ | refine blk_alloc ?_ _)); exact BK186.out)) : gb187 ≠ gb186)); clear HO1; clear BK186; clear HB; have HO1 := n0_; have BK186 := n1_; have HB := n2_; have BK187 := n3_; have GW187 := n4_; have GE187 := n5_; have NB186_187 := n6_; have NB187_186 := n7_; clear n0_ n1_ n2_ n3_ n4_ n5_ n6_ n7_; clear hb hbox hg; have hnb7 := NB186_187.out; have hnc7 := NB187_186.out; have hcz8_0 : w6.cell? ⟨gb186, 0, none⟩ = some (.int .i64 a0_0) := (blk_cell BK186.out 0).trans rfl; have hcz8_1 : w6.cell? ⟨gb186, 1, none⟩ = some (.int .i64 a0_1) := (blk_cell BK186.out 1).trans rfl; have hcz8_2 : w6.cell? ⟨gb186, 2, none⟩ = some (.string a0_2) := (blk_cell BK186.out 2).trans rfl; have hcz8_3 : w6.cell? ⟨gb186, 3, none⟩ = some (.slice A0_3 l0_3.length c0_3) := (blk_cell BK186.out 3).trans rfl; have hfz8_0 := blk_frozen BK186.out 0; have hfz8_1 := blk_frozen BK186.out 1; have hfz8_2 := blk_frozen BK186.out 2; have hfz8_3 := blk_frozen BK186.out 3) | ((with_reducible refine gate_callee (f := 42) rfl ?_); refine goesL_ (some 6) rfl rfl Tryz.func42 (by kernel_rfl) rfl #[.agg #[.int .i64 a0_0, .int .i64 a0_1, .string a0_2, .slice A0_3 l0_3.length c0_3]] rfl (by (try simp only [List.map_toArray, List.map_cons, List.map_nil]); first | done | rfl | (simp only [List.length_drop, List.length_take]; rfl)) ?_; (with_reducible refine (plinthref01_Own.calls k a0_0 a0_1 a0_2 _ _ l0_3 t188 t189 t190 t191 _ ?side1 ?side2 A3.out).mono ?_); (case side1 => repeat (first | exact (Kd.C_below HR0_3.out HB.out) | (with_reducible refine Kd.C_alloc ?_ _) | (with_reducible refine Kd.C_drewN ?_ _) | (with_reducible refine Kd.C_drew ?_))); (case side2 => exact HC0_3.out); rintro e w9 ⟨v192, rfl, ho0, hb⟩; refine ⟨_, rfl, ?_⟩; have n0_ := Aside0.mk (Kd.V_elder' (by (with_reducible repeat (first | apply Kd.V_alloc | apply Kd.V_drewN | apply Kd.V_drew)); exact HO1.out) (Kd.R_base ho0) hb); have n1_ := Aside0.mk (Kd.R_lower (Kd.R_newB (Kd.R_newB (Kd.R_newM (M := fun k_ => (w.heap.size ≤ k_)) ho0 (below_size (by repeat (first | (with_reducible first | exact HB.out | apply below_alloc | apply pw_below_drewN | apply below_drew1 | refine below_set ?_ GE186.out | refine below_set ?_ GE187.out) | exact HB.out))) (fun k_ h_ => h_)) (g := gb186) (o := .cells #[.int .i64 a0_0, .int .i64 a0_1, .string a0_2, .slice A0_3 l0_3.length c0_3] 24 (0, 0)) (by (with_reducible repeat (first | refine blk_drewN ?_ _ | refine blk_drew ?_ | refine blk_alloc ?_ _)); exact BK186.out)) (g := gb187) (o := .cells #[.int .i64 0, .int .i64 0, .string (⟨#[]⟩ : ByteArray), .slice none 0 0] 24 (0, 0)) (by (with_reducible repeat (first | refine blk_drewN ?_ _ | refine blk_drew ?_ | refine blk_alloc ?_ _)); exact BK187.out)) (below_size (by repeat (first | (with_reducible first | exact HB.out | apply below_alloc | apply pw_below_drewN | apply below_drew1 | refine below_set ?_ GE186.out | refine below_set ?_ GE187.out) | exact HB.out)))); have n2_ := Aside0.mk (blk_below (g := gb186) (o := .cells #[.int .i64 a0_0, .int .i64 a0_1, .string a0_2, .slice A0_3 l0_3.length c0_3] 24 (0, 0)) (by (with_reducible repeat (first | refine blk_drewN ?_ _ | refine blk_drew ?_ | refine blk_alloc ?_ _)); exact BK186.out) hb); have n3_ := Aside0.mk (blk_below (g := gb187) (o := .cells #[.int .i64 0, .int .i64 0, .string (⟨#[]⟩ : ByteArray), .slice none 0 0] 24 (0, 0)) (by (with_reducible repeat (first | refine blk_drewN ?_ _ | refine blk_drew ?_ | refine blk_alloc ?_ _)); exact BK187.out) hb); have n4_ := Aside0.mk (below_step (by repeat (first | (with_reducible first | exact HB.out | apply below_alloc | apply pw_below_drewN | apply below_drew1 | refine below_set ?_ GE186.out | refine below_set ?_ GE187.out) | exact HB.out)) hb); clear HO1; clear BK186; clear BK187; clear HB; have HO1 := n0_; have HO193 := n1_; have BK186 := n2_; have BK187 := n3_; have HB := n4_; clear n0_ n1_ n2_ n3_ n4_; (try clear hb); (try clear hb2); (try clear hk); (try clear hi); (try clear ho0); obtain ⟨Ao10, co10, eo10⟩ := Kd.R_slice HO193.out; subst eo10) | ((with_reducible refine gate_callee (f := 41) rfl ?_); refine goesL_ (some 8) rfl rfl Tryz.func41 (by kernel_rfl) rfl #[.agg #[.int .i64 t188, .int .i64 t189, .string t190, .slice Ao10 t191.length co10], .slice A1 l1.length c1, .bool false] rfl (by (try simp only [List.map_toArray, List.map_cons, List.map_nil]); first | done | rfl | (simp only [List.length_drop, List.length_take]; rfl)) ?_; (with_reducible refine (plinthref03_apply.calls k t188 t189 t190 (fun k_ => ((((w.heap.size ≤ k_) ∧ True) ∧ k_ ≠ gb186) ∧ k_ ≠ gb187)) _ _ t191 (fun k_ => ((((P1_ k_ ∨ w.heap.size ≤ k_) ∧ k_ ≠ gb186) ∧ k_ ≠ gb187) ∧ some k_ ≠ (.slice Ao10 t191.length co10 : Value).ownBlock)) _ _ l1 false t194 t195 t196 t197 _ ?side1 ?side2 A4.out).mono ?_); (case side1 => exact Kd.R_V (HO193.out)); (case side2 => exact HO1.out); rintro e w11 ⟨v198, rfl, ho0, hb⟩; refine ⟨_, rfl, ?_⟩; have n0_ := Aside0.mk (Kd.V_below (by (with_reducible repeat (first | apply Kd.V_alloc | apply Kd.V_drewN | apply Kd.V_drew)); exact HO1.out) hb); have n1_ := Aside0.mk (Kd.R_below (by (with_reducible repeat (first | apply Kd.R_alloc | apply Kd.R_drewN | apply Kd.R_drew)); exact HO193.out) hb); have n2_ := Aside0.mk (Kd.V_lower (Kd.V_mono (ok' := fun k_ => (P1_ k_ ∨ w.heap.size ≤ k_) ∧ k_ ≠ gb186 ∧ k_ ≠ gb187) ho0 (fun k_ hk_ => ⟨Or.elim hk_ (fun hs_ => Or.elim hs_ (fun hs_ => (.inr (hs_.1.1.1))) (fun hs_ => hs_.1.1.1)) (fun hn_ => (.inr (Nat.le_trans (below_size (by repeat (first | (with_reducible first | exact HB.out | apply below_alloc | apply pw_below_drewN | apply below_drew1 | refine below_set ?_ GE186.out | refine below_set ?_ GE187.out) | exact HB.out))) hn_))), Or.elim hk_ (fun hs_ => Or.elim hs_ (fun hs_ => hs_.1.2) (fun hs_ => hs_.1.1.2)) (fun hn_ => (Kd.freshB (g := gb186) (o := .cells #[.int .i64 a0_0, .int .i64 a0_1, .string a0_2, .slice A0_3 l0_3.length c0_3] 24 (0, 0)) (by (with_reducible repeat (first | refine blk_drewN ?_ _ | refine blk_drew ?_ | refine blk_alloc ?_ _)); exact BK186.out) k_ hn_)), Or.elim hk_ (fun hs_ => Or.elim hs_ (fun hs_ => hs_.2) (fun hs_ => hs_.1.2)) (fun hn_ => (Kd.freshB (g := gb187) (o := .cells #[.int .i64 0, .int .i64 0, .string (⟨#[]⟩ : ByteArray), .slice none 0 0] 24 (0, 0)) (by (with_reducible repeat (first | refine blk_drewN ?_ _ | refine blk_drew ?_ | refine blk_alloc ?_ _)); exact BK187.out) k_ hn_))⟩)) (below_size (by repeat (first | (with_reducible first | exact HB.out | apply below_alloc | apply pw_below_drewN | apply below_drew1 | refine below_set ?_ GE186.out | refine below_set ?_ GE187.out) | exact HB.out)))); have n3_ := Aside0.mk (blk_below (g := gb186) (o := .cells #[.int .i64 a0_0, .int .i64 a0_1, .string a0_2, .slice A0_3 l0_3.length c0_3] 24 (0, 0)) (by (with_reducible repeat (first | refine blk_drewN ?_ _ | refine blk_drew ?_ | refine blk_alloc ?_ _)); exact BK186.out) hb); have n4_ := Aside0.mk (blk_below (g := gb187) (o := .cells #[.int .i64 0, .int .i64 0, .string (⟨#[]⟩ : ByteArray), .slice none 0 0] 24 (0, 0)) (by (with_reducible repeat (first | refine blk_drewN ?_ _ | refine blk_drew ?_ | refine blk_alloc ?_ _)); exact BK187.out) hb); have n5_ := Aside0.mk (below_step (by repeat (first | (with_reducible first | exact HB.out | apply below_alloc | apply pw_below_drewN | apply below_drew1 | refine below_set ?_ GE186.out | refine below_set ?_ GE187.out) | exact HB.out)) hb); clear HO1; clear HO193; clear BK186; clear BK187; clear HB; have HO1 := n0_; have HO193 := n1_; have HO199 := n2_; have BK186 := n3_; have BK187 := n4_; have HB := n5_; clear n0_ n1_ n2_ n3_ n4_ n5_; (try clear hb); (try clear hb2); (try clear hk); (try clear hi); (try clear ho0); have hcz12_0 : w11.cell? ⟨gb187, 0, none⟩ = some (.int .i64 0) := (blk_cell BK187.out 0).trans rfl; have hcz12_1 : w11.cell? ⟨gb187, 1, none⟩ = some (.int .i64 0) := (blk_cell BK187.out 1).trans rfl; have hcz12_2 : w11.cell? ⟨gb187, 2, none⟩ = some (.string (⟨#[]⟩ : ByteArray)) := (blk_cell BK187.out 2).trans rfl; have hcz12_3 : w11.cell? ⟨gb187, 3, none⟩ = some (.slice none 0 0) := (blk_cell BK187.out 3).trans rfl; have hfz12_0 := blk_frozen BK187.out 0; have hfz12_1 := blk_frozen BK187.out 1; have hfz12_2 := blk_frozen BK187.out 2; have hfz12_3 := blk_frozen BK187.out 3; obtain ⟨Ao13, co13, eo13⟩ := Kd.V_slice HO199.out; subst eo13))
  refine bodyPost_ret (results_cell_row rfl _ _ gb187 24 #[.int .i64 t194, .int .i64 t195, .string t196, .slice Ao13 t197.length co13] (0, 0) _ rfl (by (with_reducible repeat (first | refine blk_drewN ?_ _ | refine blk_drew ?_ | refine blk_alloc ?_ _)); refine blk_put (cs := #[.int .i64 t194, .int .i64 t195, .string t196, .slice none 0 0]) ?_ 3 _ rfl; (with_reducible repeat (first | refine blk_drewN ?_ _ | refine blk_drew ?_ | refine blk_alloc ?_ _)); refine blk_put (cs := #[.int .i64 t194, .int .i64 t195, .string (⟨#[]⟩ : ByteArray), .slice none 0 0]) ?_ 2 _ rfl; (with_reducible repeat (first | refine blk_drewN ?_ _ | refine blk_drew ?_ | refine blk_alloc ?_ _)); refine blk_put (cs := #[.int .i64 t194, .int .i64 0, .string (⟨#[]⟩ : ByteArray), .slice none 0 0]) ?_ 1 _ rfl; (with_reducible repeat (first | refine blk_drewN ?_ _ | refine blk_drew ?_ | refine blk_alloc ?_ _)); refine blk_put (cs := #[.int .i64 0, .int .i64 0, .string (⟨#[]⟩ : ByteArray), .slice none 0 0]) ?_ 0 _ rfl; (with_reducible repeat (first | refine blk_drewN ?_ _ | refine blk_drew ?_ | refine blk_alloc ?_ _)); exact BK187.out) Tryz.underlying24 rfl (by kernel_rfl)) rfl ?_
  exact ⟨_, by first | rfl | (simp [errW_none, errW_some] <;> rfl) | (simp [*, errW_none, errW_some] <;> rfl), by (with_reducible repeat (first | apply Kd.V_alloc | apply Kd.V_drewN | apply Kd.V_drew)); exact Kd.V_mono (Kd.V_far (p := ⟨gb187, 3, none⟩) (Kd.V_far (p := ⟨gb187, 2, none⟩) (Kd.V_far (p := ⟨gb187, 1, none⟩) (Kd.V_far (p := ⟨gb187, 0, none⟩) (Kd.V_mono HO199.out (fun k_ hk => (⟨hk, hk.2.2⟩ : _ ∧ k_ ≠ gb187))) (fun _ hk => hk.2) (.int .i64 t194)) (fun _ hk => hk.2) (.int .i64 t195)) (fun _ hk => hk.2) (.string t196)) (fun _ hk => hk.2) (.slice Ao13 t197.length co13)) (fun _ hk => hk.1.1), by repeat (first | (with_reducible first | exact HB.out | apply below_alloc | apply pw_below_drewN | apply below_drew1 | refine below_set ?_ GE186.out | refine below_set ?_ GE187.out) | exact HB.out)⟩

end Go.Proofs.YtcjmplpfebpfpaaGreatDoor.PKindInstances

namespace Go.Proofs.YtcjmplpfebpfpaaGreatDoor
open Go.RowKit Go.Proofs Go.Proofs.YtcjmplpfebpfpaaGreatDoorW.PrintWords Go.Proofs.YtcjmplpfebpfpaaGreatDoorW.PrintLast Go.Proofs.YtcjmplpfebpfpaaGreatDoorW.PrintMore PKindInstances
set_option linter.unusedVariables false
set_option linter.unusedSimpArgs false

def tup (r : S24) : Int × Int × ByteArray × List S24 := (r.f0, r.f1, r.f2, r.f3)
def outF : Option S24 → Int × Int × ByteArray × List S24 × Bool
  | none => (0, 0, ⟨#[]⟩, [], false)
  | some z => (z.f0, z.f1, z.f2, z.f3, true)
theorem rd71_at {l : List S71} {i : Nat} {x : S71} (h : l[i]? = some x) : rd_T71 l (i : Int) = x := by
  unfold rd_T71; rw [Int.toNat_natCast, List.getD_eq_getElem?_getD, h]; rfl
theorem find_l0 (l : List S71) (s : ByteArray) (hl : l.length < 9000000) (d : Nat) : ∀ (i : Nat), d + i = l.length → Ev (fun k => plinthref03_find.l0 k l s (i : Int)) (outF (lookR (l.drop i) s)) := by
  induction d with
  | zero =>
    intro i h
    have e : l.drop i = [] := List.drop_eq_nil_of_le (by omega)
    rw [e]
    refine Ev.step (f := fun _ => some (0, 0, ⟨#[]⟩, [], false)) (fun k => by simp only [plinthref03_find.l0]; rw [if_neg (by omega)]) (Ev.now _)
  | succ d ih =>
    intro i h
    obtain ⟨x, hx⟩ : ∃ x, l[i]? = some x := ⟨l[i]'(by omega), List.getElem?_eq_getElem _⟩
    rw [drop_at71 hx]
    simp only [lookR]
    by_cases e : x.f0.toList = s.toList
    · rw [if_pos (by simpa using e)]
      refine Ev.step (f := fun _ => some (x.f1.f0, x.f1.f1, x.f1.f2, x.f1.f3, true)) (fun k => by simp only [plinthref03_find.l0]; rw [if_pos (by omega), if_pos (by omega), rd71_at hx, if_pos e]) (Ev.now _)
    · rw [if_neg (by simpa using e)]
      refine Ev.step (f := fun k => plinthref03_find.l0 k l s ((i + 1 : Nat) : Int)) (fun k => by simp only [plinthref03_find.l0]; rw [if_pos (by omega), if_pos (by omega), rd71_at hx, if_neg e, wr64 (by omega) (by omega), show (i : Int) + 1 = ((i + 1 : Nat) : Int) from by omega]) (ih (i + 1) (by omega))
theorem find_ev (l : List S71) (s : ByteArray) (hl : l.length < 9000000) : Ev (fun k => plinthref03_find.f k l s) (outF (findM l s)) := by
  refine Ev.congr (f := fun k => (plinthref03_Reserved.f k s).bind fun t => (if t = true then (some (0, 0, (⟨#[]⟩ : ByteArray), ([] : List (S24)), false)) else (plinthref03_find.l0 k l s 0))) (fun k => rfl) ?_
  refine Ev.bind (reserved_ev s) ?_
  unfold findM
  cases resM s with
  | true => rw [if_pos rfl]; exact Ev.congr (fun k => by rw [if_pos rfl]; rfl) (Ev.now _)
  | false =>
    rw [if_neg (by simp)]
    exact Ev.congr (fun k => by rw [if_neg (by simp)]; rfl) (find_l0 l s hl l.length 0 (by omega))
theorem heads_val (n : Int) (s : ByteArray) (l : List S24) (b : Bool) : plinthref03_heads.f 3 n s l b = some (match l with | [] => false | k :: _ => !b && (k.f0 == 1)) := by
  unfold plinthref03_heads.f
  cases b with
  | true => rw [if_pos rfl]; cases l <;> rfl
  | false =>
    rw [if_neg (by simp), if_pos rfl]
    cases l with
    | nil => rfl
    | cons k l =>
      have e : rd_T24 (k :: l) 0 = k := rfl
      rw [if_pos (by simp only [List.length_cons]; omega), if_pos (by simp only [List.length_cons]; omega), e]
      rfl
theorem isFun_val (n : Int) (s : ByteArray) (l : List S24) (b : Bool) {i : Nat} {x : S24} (hx : l[i]? = some x) : plinthref03_isFun.f 3 n s l (i : Int) b = some ((!b && isFunW (headL l)) && decide (i = 1) && (x.f0 == 3)) := by
  unfold plinthref03_isFun.f
  rw [heads_val, Option.bind_some]
  cases l with
  | nil => simp at hx
  | cons k l =>
    have e : rd_T24 (k :: l) 0 = k := rfl
    have hln : i < (k :: l).length := (List.getElem?_eq_some_iff.1 hx).1
    simp only [headL]
    cases b with
    | true => simp
    | false =>
      by_cases hk : k.f0 = 1
      · rw [if_pos (by simp [hk]), if_pos hk]
        by_cases hi : i = 1
        · subst hi
          have e1 : rd_T24 (k :: l) 1 = x := rd_at (k := 1) hx
          rw [if_pos (show ((1 : Nat) : Int) = 1 from rfl), if_pos (by simp only [List.length_cons]; omega), e, e1]
          unfold isFunW
          by_cases hf : k.f2.toList = [102, 117, 110]
          · rw [if_pos hf, if_pos (by simp only [List.length_cons] at *; omega)]; simp [hf]
          · rw [if_neg hf]; simp [hf]
        · rw [if_neg (by omega)]; simp [hi]
      · rw [if_neg (by simp [hk]), if_neg hk]
        have : isFunW ⟨#[]⟩ = false := by unfold isFunW; rw [bytes_toList']; rfl
        simp [this]
theorem appL_get (fd : ByteArray → Option S24) (fn bare : Bool) : ∀ (l : List S24) (j i : Nat) {x : S24}, l[i]? = some x → (appL fd fn bare j l)[i]? = some (if j + i = 0 ∧ bare = false ∧ x.f0 = 1 then x else appM fd x (fn && decide (j + i = 1) && (x.f0 == 3)))
  | [], j, i, x, h => by simp at h
  | k :: l, j, 0, x, h => by
    obtain rfl : k = x := by simpa using h
    simp only [appL, Nat.add_zero]
    rfl
  | k :: l, j, i + 1, x, h => by
    have h' : l[i]? = some x := by simpa using h
    have := appL_get fd fn bare l (j + 1) i h'
    simp only [appL, List.getElem?_cons_succ, this, show j + 1 + i = j + (i + 1) from by omega]
theorem apply_l0 (by_ : List S71) (n : Int) (s : ByteArray) (l : List S24) (b : Bool) (hl : l.length < 9000000)
    (hq : ∀ x ∈ l, ∀ c : Bool, (c = true → x.f0 = 3) → Ev (fun k => plinthref03_apply.f k x.f0 x.f1 x.f2 x.f3 by_ c) (tup (appM (findM by_) x c))) (d : Nat) :
    ∀ (i : Nat), d + i = l.length → Ev (fun k => plinthref03_apply.l0 k by_ b ((appL (findM by_) (!b && isFunW (headL l)) b 0 l).take i) (i : Int) 3 n s l) (3, n, s, appL (findM by_) (!b && isFunW (headL l)) b 0 l) := by
  have hLn := appL_len (findM by_) (!b && isFunW (headL l)) b l 0
  induction d with
  | zero =>
    intro i h
    refine Ev.step (f := fun _ => some (3, n, s, appL (findM by_) (!b && isFunW (headL l)) b 0 l)) (fun k => by simp only [plinthref03_apply.l0]; rw [if_neg (by omega), List.take_of_length_le (by omega)]) (Ev.now _)
  | succ d ih =>
    intro i h
    obtain ⟨x, hx⟩ : ∃ x, l[i]? = some x := ⟨l[i]'(by omega), List.getElem?_eq_getElem _⟩
    have hg := appL_get (findM by_) (!b && isFunW (headL l)) b l 0 i hx
    rw [Nat.zero_add] at hg
    have ih2 := ih (i + 1) (by omega)
    rw [List.take_add_one, hg] at ih2
    obtain ⟨hb, hhb⟩ : ∃ hb, hb = (decide (i = 0) && (!b && (x.f0 == 1))) := ⟨_, rfl⟩
    refine Ev.step (f := fun k => plinthref03_apply.j2 k by_ b ((appL (findM by_) (!b && isFunW (headL l)) b 0 l).take i) (i : Int) hb 3 n s l) (fun k => ?_) ?_
    · simp only [plinthref03_apply.l0]
      rw [if_pos (by omega)]
      by_cases h0 : i = 0
      · subst h0
        rw [if_pos (by rfl), heads_val, Option.bind_some]
        cases l with
        | nil => simp at hx
        | cons k0 l0 => obtain rfl : k0 = x := by simpa using hx
                        rw [hhb]; simp
      · rw [if_neg (by omega), hhb]; simp [h0]
    · have hlt : ((appL (findM by_) (!b && isFunW (headL l)) b 0 l).take i).length < 2513169434916 := by rw [List.length_take]; omega
      have hw : wrap64 ((i : Int) + 1) = ((i + 1 : Nat) : Int) := by rw [wr64 (by omega) (by omega)]; omega
      by_cases hc : i = 0 ∧ b = false ∧ x.f0 = 1
      · rw [if_pos hc] at ih2
        obtain ⟨rfl, rfl, h1⟩ := hc
        have e : hb = true := by rw [hhb]; simp [h1]
        have er : rd_T24 l 0 = x := rd_at (k := 0) hx
        refine Ev.step (f := fun k => plinthref03_apply.l0 k by_ false (((appL (findM by_) (!false && isFunW (headL l)) false 0 l).take 0) ++ [x]) ((0 + 1 : Nat) : Int) 3 n s l) (fun k => ?_) ih2
        simp only [plinthref03_apply.j2]
        rw [if_pos e, if_pos (by omega), if_pos hlt, hw, er, show (⟨x.f0, x.f1, x.f2, x.f3⟩ : S24) = x from by cases x; rfl]
      · rw [if_neg hc] at ih2
        have e : hb = false := by
          rw [hhb]
          cases b
          · by_cases h0 : i = 0
            · have : x.f0 ≠ 1 := fun q => hc ⟨h0, rfl, q⟩
              simp [this]
            · simp [h0]
          · simp
        have er : rd_T24 l (i : Int) = x := rd_at hx
        refine Ev.step (f := fun k => (plinthref03_apply.f k x.f0 x.f1 x.f2 x.f3 by_ ((!b && isFunW (headL l)) && decide (i = 1) && (x.f0 == 3))).bind fun bt => (plinthref03_apply.l0 k by_ b (((appL (findM by_) (!b && isFunW (headL l)) b 0 l).take i) ++ [(⟨bt.1, bt.2.1, bt.2.2.1, bt.2.2.2⟩ : S24)]) ((i + 1 : Nat) : Int) 3 n s l)) (fun k => ?_) ?_
        · simp only [plinthref03_apply.j2]
          rw [if_neg (by rw [e]; simp), if_pos (by omega), if_pos (by omega), isFun_val n s l b hx, Option.bind_some, er, hw]
          simp only [if_pos hlt]
        · have hq' := hq x (List.mem_of_getElem? hx) ((!b && isFunW (headL l)) && decide (i = 1) && (x.f0 == 3)) (by simp only [Bool.and_eq_true, beq_iff_eq]; exact fun h => h.2)
          generalize appM (findM by_) x ((!b && isFunW (headL l)) && decide (i = 1) && (x.f0 == 3)) = z at hq' ih2
          cases z
          exact Ev.bind hq' ih2
mutual
theorem apply_ev (by_ : List S71) (hbn : by_.length < 9000000) (hbw : ∀ p ∈ by_, wid p.f1 < 9000000) : ∀ (x : S24) (b : Bool), wid x < 9000000 → (b = true → x.f0 = 3) → Ev (fun k => plinthref03_apply.f k x.f0 x.f1 x.f2 x.f3 by_ b) (tup (appM (findM by_) x b))
  | ⟨a, n, s, l⟩, b, h, hb => by
    have hk := wid_kids ⟨a, n, s, l⟩
    simp only [] at hk
    have hll := wids_len l
    have hl := apply_evs by_ hbn hbw l (by omega)
    by_cases h1 : a = 1
    · subst h1
      have hb0 : b = false := by cases b; rfl; exact absurd (hb rfl) (show ¬ (1 : Int) = 3 by decide)
      subst hb0
      refine Ev.step (f := fun k => (plinthref03_find.f k by_ s).bind fun bt => (if bt.2.2.2.2 = true then ((plinthref01_Own.f k bt.1 bt.2.1 bt.2.2.1 bt.2.2.2.1).bind fun bt164 => (some (bt164.1, bt164.2.1, bt164.2.2.1, bt164.2.2.2))) else (plinthref03_apply.j0 k by_ false 1 n s l))) (fun k => by simp only [plinthref03_apply.f, plinthref03_isWord.f]; rfl) ?_
      refine Ev.bind (find_ev by_ s hbn) ?_
      simp only [appM]
      cases hf : findM by_ s with
      | none =>
        refine Ev.congr (f := fun k => plinthref03_apply.j0 k by_ false 1 n s l) (fun k => by simp [outF]) ?_
        exact Ev.step (f := fun _ => some (1, n, s, l)) (fun k => by simp only [plinthref03_apply.j0]; rw [if_neg (by decide)]) (Ev.now _)
      | some z =>
        obtain ⟨p, hp, e⟩ := findM_mem hf
        refine Ev.congr (f := fun k => (plinthref01_Own.f k z.f0 z.f1 z.f2 z.f3).bind fun bt164 => (some (bt164.1, bt164.2.1, bt164.2.2.1, bt164.2.2.2))) (fun k => by simp [outF]) ?_
        exact Ev.bind (own_ev z (by rw [← e]; exact hbw p hp)) (Ev.now _)
    · have e : (a == 1) = false := beq_eq_false_iff_ne.mpr h1
      refine Ev.step (f := fun k => plinthref03_apply.j0 k by_ b a n s l) (fun k => by simp only [plinthref03_apply.f, plinthref03_isWord.f, e, Option.bind_some]; rw [if_neg (by simp)]) ?_
      simp only [appM]
      rw [if_neg h1]
      by_cases h3 : a = 3
      · subst h3
        rw [if_pos rfl]
        refine Ev.step (f := fun k => plinthref03_apply.l0 k by_ b ([] : List S24) ((0 : Nat) : Int) 3 n s l) (fun k => by simp only [plinthref03_apply.j0, if_true]; rfl) ?_
        exact apply_l0 by_ n s l b (by omega) hl l.length 0 (by omega)
      · rw [if_neg h3]
        exact Ev.step (f := fun _ => some (a, n, s, l)) (fun k => by simp only [plinthref03_apply.j0]; rw [if_neg h3]) (Ev.now _)
theorem apply_evs (by_ : List S71) (hbn : by_.length < 9000000) (hbw : ∀ p ∈ by_, wid p.f1 < 9000000) : ∀ (l : List S24), wids l < 9000000 → ∀ x ∈ l, ∀ c : Bool, (c = true → x.f0 = 3) → Ev (fun k => plinthref03_apply.f k x.f0 x.f1 x.f2 x.f3 by_ c) (tup (appM (findM by_) x c))
  | [], _, x, h => absurd h List.not_mem_nil
  | y :: l, hs, x, h => by
    simp only [wids] at hs
    rcases List.mem_cons.1 h with h | h
    · rw [h]; exact fun c hc => apply_ev by_ hbn hbw y c (by omega) hc
    · exact apply_evs by_ hbn hbw l (by omega) x h
end
theorem Apply_ev (by_ : List S71) (hbn : by_.length < 9000000) (hbw : ∀ p ∈ by_, wid p.f1 < 9000000) (x : S24) (hx : wid x < 9000000) : Ev (fun k => plinthref03_Apply.f k x.f0 x.f1 x.f2 x.f3 by_) (tup (appM (findM by_) x false)) := by
  refine Ev.congr (f := fun k => (plinthref01_Own.f k x.f0 x.f1 x.f2 x.f3).bind fun bt188 => ((plinthref03_apply.f k bt188.1 bt188.2.1 bt188.2.2.1 bt188.2.2.2 by_ false).bind fun bt194 => (some (bt194.1, bt194.2.1, bt194.2.2.1, bt194.2.2.2)))) (fun k => rfl) ?_
  refine Ev.bind (own_ev x hx) ?_
  exact Ev.bind (apply_ev by_ hbn hbw x false hx (fun h => by cases h)) (Ev.now _)
theorem RApply_any (x : S24) (by_ : List S71) (A B : Option Addr) (c d : Nat) (w : World) (hr : Kd.C k24 w A x.f3.length x.f3) (hc : x.f3.length ≤ c) (hw : wid x < 9000000) (hy : Kd.C k71 w B by_.length by_) (hd : by_.length ≤ d) (hbn : by_.length < 9000000) (hbw : ∀ p ∈ by_, wid p.f1 < 9000000) :
    Calls Tryz.prog 12 #[formV x.f0 x.f1 x.f2 A x.f3.length c, .slice B by_.length d] w fun e w' => ∃ A' c', e = .returned (formV (appM (findM by_) x false).f0 (appM (findM by_) x false).f1 (appM (findM by_) x false).f2 A' (appM (findM by_) x false).f3.length c') ∧ (appM (findM by_) x false).f3.length ≤ c' ∧ Kd.C k24 w' A' (appM (findM by_) x false).f3.length (appM (findM by_) x false).f3 ∧ Below w.heap.size w w' := by
  obtain ⟨k, hk⟩ := (Apply_ev by_ hbn hbw x hw).rounds
  refine (plinthref03_Apply.calls k x.f0 x.f1 x.f2 A c x.f3 (fun k => k < w.heap.size) B d by_ _ _ _ _ w hr hc (Kd.V_mk hd (Kd.C_F k71_heap hy)) hk).mono ?_
  rintro e w' ⟨v, rfl, ⟨A', c', rfl, h1, h2⟩, hB⟩
  exact ⟨A', c', rfl, h1, h2 w' (fun _ _ _ => rfl), hB⟩

end Go.Proofs.YtcjmplpfebpfpaaGreatDoor

namespace Go.Proofs.YtcjmplpfebpfpaaGreatDoor
open Go.RowKit Go.Proofs Go.Proofs.YtcjmplpfebpfpaaGreatDoorW.PrintWords Go.Proofs.YtcjmplpfebpfpaaGreatDoorW.PrintLast Go.Proofs.YtcjmplpfebpfpaaGreatDoorW.PrintMore PKindInstances
set_option linter.unusedVariables false
set_option linter.unusedSimpArgs false

end Go.Proofs.YtcjmplpfebpfpaaGreatDoor

namespace Go.Proofs.YtcjmplpfebpfpaaGreatDoor
open Go.RowKit Go.Proofs Go.Proofs.YtcjmplpfebpfpaaGreatDoorW.PrintWords Go.Proofs.YtcjmplpfebpfpaaGreatDoorW.PrintLast Go.Proofs.YtcjmplpfebpfpaaGreatDoorW.PrintMore PKindInstances
set_option linter.unusedVariables false
set_option linter.unusedSimpArgs false

end Go.Proofs.YtcjmplpfebpfpaaGreatDoor

namespace Go.Proofs.YtcjmplpfebpfpaaGreatDoor
open Go.RowKit Go.Proofs Go.Proofs.YtcjmplpfebpfpaaGreatDoorW.PrintWords Go.Proofs.YtcjmplpfebpfpaaGreatDoorW.PrintLast Go.Proofs.YtcjmplpfebpfpaaGreatDoorW.PrintMore PKindInstances
set_option linter.unusedVariables false
set_option linter.unusedSimpArgs false

end Go.Proofs.YtcjmplpfebpfpaaGreatDoor

namespace Go.Proofs.YtcjmplpfebpfpaaGreatDoor
open Go.RowKit Go.Proofs Go.Proofs.YtcjmplpfebpfpaaGreatDoorW.PrintWords Go.Proofs.YtcjmplpfebpfpaaGreatDoorW.PrintLast Go.Proofs.YtcjmplpfebpfpaaGreatDoorW.PrintMore PKindInstances
set_option linter.unusedVariables false
set_option linter.unusedSimpArgs false

theorem nodup_le : ∀ {l m : List ByteArray}, l.Nodup → (∀ x ∈ l, x ∈ m) → l.length ≤ m.length
  | [], m, _, _ => Nat.zero_le _
  | x :: l, m, h, hs => by
    simp only [List.nodup_cons] at h
    have hx := hs x List.mem_cons_self
    have h1 := nodup_le (l := l) (m := m.erase x) h.2 (fun y hy => (List.mem_erase_of_ne (fun e => h.1 (by rw [← e]; exact hy))).2 (hs y (List.mem_cons_of_mem _ hy)))
    rw [List.length_erase_of_mem hx] at h1
    have := List.length_pos_of_mem hx
    simp only [List.length_cons]
    omega
end Go.Proofs.YtcjmplpfebpfpaaGreatDoor

namespace Go.Proofs.YtcjmplpfebpfpaaGreatDoor
open Go.RowKit Go.Proofs Go.Proofs.YtcjmplpfebpfpaaGreatDoorW.PrintWords Go.Proofs.YtcjmplpfebpfpaaGreatDoorW.PrintLast Go.Proofs.YtcjmplpfebpfpaaGreatDoorW.PrintMore PKindInstances
set_option linter.unusedVariables false
set_option linter.unusedSimpArgs false

end Go.Proofs.YtcjmplpfebpfpaaGreatDoor

namespace Go.Proofs.YtcjmplpfebpfpaaGreatDoor
open Go.RowKit Go.Proofs Go.Proofs.YtcjmplpfebpfpaaGreatDoorW.PrintWords Go.Proofs.YtcjmplpfebpfpaaGreatDoorW.PrintLast Go.Proofs.YtcjmplpfebpfpaaGreatDoorW.PrintMore PKindInstances
set_option linter.unusedVariables false
set_option linter.unusedSimpArgs false

mutual
theorem app_wid (fd : ByteArray → Option S24) (N : Nat) (hf : ∀ s z, fd s = some z → wid z < N) : ∀ (x : S24) (b : Bool), wid x < N → wid (appM fd x b) < N
  | ⟨a, n, s, l⟩, b, h => by
    simp only [appM]
    have hk : wids l < N := by have := wid_kids ⟨a, n, s, l⟩; simp only [] at this; omega
    split
    · split
      · exact h
      · cases hz : fd s with
        | none => exact h
        | some z => exact hf s z hz
    · split
      · have := apps_wid fd N hf l (!b && isFunW (headL l)) b 0 hk
        simp only [wid] at h ⊢
        omega
      · exact h
theorem apps_wid (fd : ByteArray → Option S24) (N : Nat) (hf : ∀ s z, fd s = some z → wid z < N) : ∀ (l : List S24) (fn bare : Bool) (i : Nat), wids l < N → wids (appL fd fn bare i l) < N
  | [], fn, bare, i, h => by simpa [appL] using h
  | k :: l, fn, bare, i, h => by
    simp only [wids] at h
    simp only [appL, wids, appL_len]
    have h2 := apps_wid fd N hf l fn bare (i + 1) (by omega)
    have h1 : wid (if i = 0 ∧ bare = false ∧ k.f0 = 1 then k else appM fd k (fn && decide (i = 1) && (k.f0 == 3))) < N := by
      split
      · omega
      · exact app_wid fd N hf k _ (by omega)
    omega
end
theorem lookK_mem {s : ByteArray} {z : S24} : ∀ {by_ : List S51}, lookK by_ s = some z → ∃ p ∈ by_, p.f0 = s ∧ p.f1 = z
  | [], h => by cases h
  | x :: l, h => by
    simp only [lookK] at h
    split at h
    · rename_i e
      obtain rfl := Option.some.inj h
      exact ⟨x, List.mem_cons_self, bytes_inj (by simpa using e), rfl⟩
    · obtain ⟨p, hp, e⟩ := lookK_mem h
      exact ⟨p, List.mem_cons_of_mem _ hp, e⟩
theorem findK_mem {by_ : List S51} {s : ByteArray} {z : S24} (h : findK by_ s = some z) : ∃ p ∈ by_, p.f0 = s ∧ p.f1 = z := by
  unfold findK at h
  split at h
  · cases h
  · exact lookK_mem h
/-- How many parts the pairs have. -/
def sizp : List S51 → Nat
  | [] => 0
  | x :: l => x.f0.size + siz x.f1 + 1 + sizp l
theorem sizp_mem : ∀ {l : List S51} {x : S51}, x ∈ l → siz x.f1 ≤ sizp l
  | [], x, h => absurd h List.not_mem_nil
  | y :: l, x, h => by
    simp only [sizp]
    rcases List.mem_cons.1 h with rfl | h
    · omega
    · have := sizp_mem h; omega
theorem sizp_len : ∀ l : List S51, l.length ≤ sizp l
  | [] => Nat.le_refl _
  | y :: l => by have := sizp_len l; simp only [sizp, List.length_cons]; omega
end Go.Proofs.YtcjmplpfebpfpaaGreatDoor

namespace Go.Proofs.YtcjmplpfebpfpaaGreatDoor
open Go.RowKit Go.Proofs Go.Proofs.YtcjmplpfebpfpaaGreatDoorW.PrintWords Go.Proofs.YtcjmplpfebpfpaaGreatDoorW.PrintLast Go.Proofs.YtcjmplpfebpfpaaGreatDoorW.PrintMore PKindInstances
set_option linter.unusedVariables false
set_option linter.unusedSimpArgs false

def wordF (s : ByteArray) : S24 := ⟨1, 0, s, []⟩
def listF (l : List S24) : S24 := ⟨3, 0, ⟨#[]⟩, l⟩

/-- A row of forms out of a block's cells. -/
theorem row_of_cells {w : World} {b : Nat} {t : TypeId} {xs : List S24} {cs : Array Value} (h : w.heap[b]? = some (.cells cs t (0, 0))) (hl : xs.length < 9000000)
    (hK : ∀ (j : Nat) (x : S24), xs[j]? = some x → ∃ A c, x.f3.length ≤ c ∧ Kd.C k24 w A x.f3.length x.f3 ∧ cs[j * 4]? = some (.int .i64 x.f0) ∧ cs[j * 4 + 1]? = some (.int .i64 x.f1) ∧ cs[j * 4 + 2]? = some (.string x.f2) ∧ cs[j * 4 + 3]? = some (.slice A x.f3.length c)) :
    Kd.C k24 w (some ⟨b, 0, none⟩) xs.length xs := by
  refine ⟨rfl, by omega, fun _ => ⟨_, rfl, fun j p hj => ?_⟩⟩
  obtain ⟨A, c, hc, hx, c0, c1, c2, c3⟩ := hK j p hj
  refine ⟨_, rfl, k24_mk w p hc hx, fun i u hu => ?_⟩
  have e : (Addr.mk b 0 none).add (j * k24.sz + i) = ⟨b, j * 4 + i, none⟩ := by
    rw [show k24.sz = 4 from rfl]; simp [Addr.add]; intros; omega
  rw [e]
  match i, hu with
  | 0, hu => obtain rfl := Option.some.inj hu; simpa [World.cell?, h] using c0
  | 1, hu => obtain rfl := Option.some.inj hu; simpa [World.cell?, h] using c1
  | 2, hu => obtain rfl := Option.some.inj hu; simpa [World.cell?, h] using c2
  | 3, hu => obtain rfl := Option.some.inj hu; simpa [World.cell?, h] using c3
  | i + 4, hu => simp at hu

theorem leafC_word {s : ByteArray} (hs : s.size ≤ 30) (hne : (s.toList == []) = false) : LeafC (wordF s) := by
  intro A c w
  refine (leaf_word 0 s A 0 c w hs hne).mono ?_
  rintro e w' ⟨rfl, B⟩
  exact ⟨rfl, B⟩
theorem leafC_list (l : List S24) : LeafC (listF l) := by
  intro A c w
  refine (leaf_list 0 ⟨#[]⟩ A l.length c w).mono ?_
  rintro e w' ⟨rfl, B⟩
  exact ⟨rfl, B⟩

theorem texts_of_cells {w : World} {b : Nat} {t : TypeId} {xs : List ByteArray} {cs : Array Value} (h : w.heap[b]? = some (.cells cs t (0, 0))) (hl : xs.length < 9000000) (hK : ∀ (j : Nat) (x : ByteArray), xs[j]? = some x → cs[j]? = some (.string x)) :
    Kd.C Kd.string w (some ⟨b, 0, none⟩) xs.length xs := by
  refine ⟨rfl, by omega, fun _ => ⟨_, rfl, fun j p hj => ⟨[.string p], rfl, rfl, fun i u hu => ?_⟩⟩⟩
  match i, hu with
  | 0, hu =>
    obtain rfl := Option.some.inj hu
    have e : (Addr.mk b 0 none).add (j * Kd.string.sz + 0) = ⟨b, j, none⟩ := by
      rw [show Kd.string.sz = 1 from rfl]; simp [Addr.add]; intros; omega
    rw [e]
    simpa [World.cell?, h] using hK j p hj
  | i + 1, hu => simp at hu

/-- Unify where the forms do not go together. -/
theorem unify_stop (x y : S24) (vars : List ByteArray) (A B AN : Option Addr) (c d cn : Nat) (w : World) (n : Nat) (r : Int) (hx : Kd.C k24 w A x.f3.length x.f3) (hc : x.f3.length ≤ c) (hy : Kd.C k24 w B y.f3.length y.f3) (hd : y.f3.length ≤ d)
    (hv : Kd.C Kd.string w AN vars.length vars) (hcn : vars.length ≤ cn) (hn : vars.length < 9000000) (hq : ∀ v ∈ vars, LeafC ⟨1, 0, v, []⟩ ∧ v.size < 8000000) (hax : allC x) (hwx : wid x < 9000000) (hay : allC y) (hwy : wid y < 9000000)
    (hgood : (namesM [] vars && rowsM [[x], [y]]) = true) (hR : allM vars n [] [x] [y] = some (.stop r)) :
    Calls Tryz.prog 22 #[formV x.f0 x.f1 x.f2 A x.f3.length c, formV y.f0 y.f1 y.f2 B y.f3.length d, .slice AN vars.length cn] w fun e w' => e = .returned (.tuple #[.slice none 0 0, .int .i64 r]) ∧ Below w.heap.size w w' := by
  have h := Unify_of x y A B c d (.slice AN vars.length cn) w (fun v E _ => v = .slice none 0 0 ∧ E = r) hx hc hy hd (fun W p q hW hp hq' => by
    refine (UnifyAll_good [x] [y] vars (some ⟨p, 0, none⟩) (some ⟨q, 0, none⟩) AN 1 1 cn W (Kd.C_below hv hW) hcn hp (Nat.le_refl _) hq' (Nat.le_refl _) hn hq ⟨by simp, by simp; exact ⟨hax, hwx⟩⟩ ⟨by simp, by simp; exact ⟨hay, hwy⟩⟩ hgood n _ hR (fun _ _ _ => True) (fun _ _ _ _ _ _ => trivial) (fun mt h => by cases h)).mono ?_
    rintro e w' ⟨rfl, hb⟩
    exact ⟨none, 0, 0, r, rfl, ⟨rfl, rfl⟩, hb⟩)
  refine h.mono ?_
  rintro e w' ⟨A1, n1, c1, E1, rfl, ⟨h1, rfl⟩, hb⟩
  cases h1
  exact ⟨rfl, hb⟩

def wSeq : ByteArray := ⟨#[115, 101, 113]⟩
def wA : ByteArray := ⟨#[97]⟩
def wB : ByteArray := ⟨#[98]⟩
def wMap : ByteArray := ⟨#[109, 97, 112]⟩
def wInt : ByteArray := ⟨#[105, 110, 116]⟩
theorem leaf_w {s : ByteArray} (h : s = wSeq ∨ s = wA ∨ s = wB ∨ s = wMap ∨ s = wInt) : LeafC (wordF s) := by
  rcases h with rfl | rfl | rfl | rfl | rfl <;> exact leafC_word (by decide) (by kernel_rfl)

theorem words_row {w : World} {b : Nat} {t : TypeId} {x y : ByteArray} (h : w.heap[b]? = some (.cells #[.int .i64 1, .int .i64 0, .string x, .slice none 0 0, .int .i64 1, .int .i64 0, .string y, .slice none 0 0] t (0, 0))) :
    Kd.C k24 w (some ⟨b, 0, none⟩) [wordF x, wordF y].length [wordF x, wordF y] := by
  refine row_of_cells h (by simp) fun j p hj => ?_
  match j, hj with
  | 0, hj => obtain rfl := Option.some.inj hj; exact ⟨none, 0, Nat.le_refl _, Kd.C_nil _ _, rfl, rfl, rfl, rfl⟩
  | 1, hj => obtain rfl := Option.some.inj hj; exact ⟨none, 0, Nat.le_refl _, Kd.C_nil _ _, rfl, rfl, rfl, rfl⟩
  | j + 2, hj => simp at hj

def exX : S24 := listF [wordF wSeq, wordF wA]
def exM : S24 := listF [wordF wMap, wordF wA, listF [wordF wSeq, wordF wB]]
def exN : S24 := listF [wordF wMap, wordF wInt, wordF wA]
theorem ex1 (A AN : Option Addr) (w : World) (hx : Kd.C k24 w A 2 [wordF wSeq, wordF wA]) (hv : Kd.C Kd.string w AN 1 [wA]) :
    Calls Tryz.prog 22 #[formV 3 0 ⟨#[]⟩ A 2 2, formV 1 0 wA none 0 0, .slice AN 1 1] w fun e w' => e = .returned (.tuple #[.slice none 0 0, .int .i64 11]) ∧ Below w.heap.size w w' :=
  unify_stop exX (wordF wA) [wA] A none AN 2 0 1 w 10 11 hx (Nat.le_refl _) (Kd.C_nil _ _) (Nat.le_refl _) hv (Nat.le_refl _) (by simp) (by simp; exact ⟨leaf_w (.inr (.inl rfl)), by decide⟩)
    ⟨leafC_list _, ⟨leaf_w (.inl rfl), trivial⟩, ⟨leaf_w (.inr (.inl rfl)), trivial⟩, trivial⟩ (by decide) ⟨leaf_w (.inr (.inl rfl)), trivial⟩ (by decide) (by kernel_rfl) (by kernel_rfl)
theorem ex2 (A B AN : Option Addr) (w : World) (hx : Kd.C k24 w A 3 [wordF wMap, wordF wA, listF [wordF wSeq, wordF wB]]) (hy : Kd.C k24 w B 3 [wordF wMap, wordF wInt, wordF wA]) (hv : Kd.C Kd.string w AN 2 [wA, wB]) :
    Calls Tryz.prog 22 #[formV 3 0 ⟨#[]⟩ A 3 3, formV 3 0 ⟨#[]⟩ B 3 3, .slice AN 2 2] w fun e w' => e = .returned (.tuple #[.slice none 0 0, .int .i64 8]) ∧ Below w.heap.size w w' :=
  unify_stop exM exN [wA, wB] A B AN 3 3 2 w 10 8 hx (Nat.le_refl _) hy (Nat.le_refl _) hv (Nat.le_refl _) (by simp) (by simp; exact ⟨⟨leaf_w (.inr (.inl rfl)), by decide⟩, leaf_w (.inr (.inr (.inl rfl))), by decide⟩)
    ⟨leafC_list _, ⟨leaf_w (.inr (.inr (.inr (.inl rfl)))), trivial⟩, ⟨leaf_w (.inr (.inl rfl)), trivial⟩, ⟨leafC_list _, ⟨leaf_w (.inl rfl), trivial⟩, ⟨leaf_w (.inr (.inr (.inl rfl))), trivial⟩, trivial⟩, trivial⟩ (by decide)
    ⟨leafC_list _, ⟨leaf_w (.inr (.inr (.inr (.inl rfl)))), trivial⟩, ⟨leaf_w (.inr (.inr (.inr (.inr rfl)))), trivial⟩, ⟨leaf_w (.inr (.inl rfl)), trivial⟩, trivial⟩ (by decide) (by kernel_rfl) (by kernel_rfl)

set_option maxRecDepth 100000 in
set_option maxHeartbeats 4000000 in
theorem sane_any (w : World) : Calls Tryz.prog 19 #[] w fun e w' => e = .returned (.bool true) ∧ Below w.heap.size w w' := by
  have hu24 := Tryz.underlying24
  go_enter Tryz.func19, Tryz.ntmps19
  go_wp2_with fail
  refine (word_any _ _).mono ?_
  rintro e w1 ⟨rfl, B1⟩
  go_wp2_with fail
  refine (word_any _ _).mono ?_
  rintro e w2 ⟨rfl, B2⟩
  go_wp2_with fail
  refine (list_any _ _ _ _).mono ?_
  rintro e w3 ⟨rfl, B3⟩
  go_wp2_with fail
  have X3 := box_heap B3
  have B4 : Below w.heap.size w (w3.alloc (.cells #[.int .i64 3, .int .i64 0, .string ⟨#[]⟩, .slice (some ⟨w2.heap.size, 0, none⟩) 2 2] 24)) := below_alloc (below_after (below_alloc (below_after B1 B2) _) B3) _
  have X4 := (MapKept.heap_alloc w3 (.cells #[.int .i64 3, .int .i64 0, .string ⟨#[]⟩, .slice (some ⟨w2.heap.size, 0, none⟩) 2 2] 24)).1
  have X5 : (w3.alloc (.cells #[.int .i64 3, .int .i64 0, .string ⟨#[]⟩, .slice (some ⟨w2.heap.size, 0, none⟩) 2 2] 24)).heap[w2.heap.size]? = some (.cells #[.int .i64 1, .int .i64 0, .string wSeq, .slice none 0 0, .int .i64 1, .int .i64 0, .string wA, .slice none 0 0] 24 (0, 0)) := (Below.heap_alloc _ _ _ (Array.getElem?_eq_some_iff.1 X3).1).trans X3
  generalize hX : w3.alloc (.cells #[.int .i64 3, .int .i64 0, .string ⟨#[]⟩, .slice (some ⟨w2.heap.size, 0, none⟩) 2 2] 24) = X at *
  generalize w3.heap.size = b3 at *
  generalize w2.heap.size = b2 at *
  clear hX X3 B1 B2 B3
  have R5 : Kd.C k24 X (some ⟨b2, 0, none⟩) 2 [wordF wSeq, wordF wA] := words_row X5
  obtain ⟨p0, p1, p2, p3⟩ := cells4 X4
  have HS : Hid (∀ W, Below X.heap.size X W → W.cell? ⟨b3, 0, none⟩ = some (.int .i64 3) ∧ W.cell? ⟨b3, 1, none⟩ = some (.int .i64 0) ∧ W.cell? ⟨b3, 2, none⟩ = some (.string ⟨#[]⟩) ∧ W.cell? ⟨b3, 3, none⟩ = some (.slice (some ⟨b2, 0, none⟩) 2 2)) := fun W h => ⟨pw_cell_below h p0, pw_cell_below h p1, pw_cell_below h p2, pw_cell_below h p3⟩
  have HB : Hid _ := B4
  have HR : Hid _ := R5
  clear p0 p1 p2 p3 X4 X5 B4 R5
  go_cut [2, 3] from 12 to 18 (fun x2 x3 wx => x3 = .int .i64 11 ∧ Below X.heap.size X wx)
  case first =>
    refine wp_region_held_drew (S := fun W => W.cell? ⟨b3, 0, none⟩ = some (.int .i64 3) ∧ W.cell? ⟨b3, 1, none⟩ = some (.int .i64 0) ∧ W.cell? ⟨b3, 2, none⟩ = some (.string ⟨#[]⟩) ∧ W.cell? ⟨b3, 3, none⟩ = some (.slice (some ⟨b2, 0, none⟩) 2 2)) (by kernel_rfl) (HS.out _ (below_drew (Below.refl _ _))) (fun hHeld => ?_)
    refine takeV 0 (some 13) (formV 3 0 ⟨#[]⟩ (some ⟨b2, 0, none⟩) 2 2) rfl rfl (by kernel_rfl) (by kernel_rfl) (by kernel_rfl) (fun _ _ _ h => h) (Or.inl ⟨by kernel_rfl, fun W hSw => by obtain ⟨s0, s1, s2, s3⟩ := hSw; go_simp⟩) hHeld ?_
    try simp only [Act.put, List.setIfInBounds_toArray, List.set_cons_zero, List.set_cons_succ]
    refine wpAnyH_ready (rs := [1, 2]) (by kernel_rfl) (by simp) ?_
    refine AllReadyH.cons rfl (fun K hK => ?_) (AllReadyH.cons rfl (fun K hK => ?_) AllReadyH.nil)
    · clear hHeld
      go_simp
      go_at_call 52
      refine (word_any _ _).mono ?_
      rintro e w4 ⟨rfl, B4⟩
      have B5 := below_after (below_drew (Below.refl _ _)) B4
      have HS5 := HS.out _ B5
      clear B4
      go_wp2_with fail
      refine hK.out _ _ HS5 (fun hHeld => ?_)
      clear hK K HS5
      try simp only [Act.put, List.setIfInBounds_toArray, List.set_cons_zero, List.set_cons_succ]
      refine wpAnyH_ready (rs := [2]) (by kernel_rfl) (by simp) ?_
      refine AllReadyH.cons rfl (fun K hK => ?_) AllReadyH.nil
      go_simp
      have X6 := (MapKept.heap_alloc w4 (.cells #[.string wA] 9)).1
      have B6 := below_alloc B5 (.cells #[.string wA] 9)
      refine hK.out _ _ (HS.out _ B6) (fun hHeld => ?_)
      clear hK K B5
      have UU : Hid _ := ex1 (some ⟨b2, 0, none⟩) (some ⟨w4.heap.size, 0, none⟩) (w4.alloc (.cells #[.string wA] 9)) (Kd.C_below HR.out B6) (texts_of_cells (xs := [wA]) X6 (by simp) (fun j x hj => by cases j with | zero => obtain rfl := Option.some.inj hj; rfl | succ j => simp at hj))
      have BX : Hid _ := B6
      clear X6 B6
      try simp only [Act.put, List.setIfInBounds_toArray, List.set_cons_zero, List.set_cons_succ]
      refine wpAnyH_ready (rs := [3]) (by kernel_rfl) (by simp) ?_
      refine AllReadyH.cons rfl (fun K hK => ?_) AllReadyH.nil
      go_simp
      go_at_call 22
      refine Calls.mono UU.out ?_
      rintro e w6 ⟨rfl, B6'⟩
      have B6 : Hid _ := below_after BX.out B6'
      have HS6 := HS.out _ B6.out
      clear B6'
      go_wp2_with fail
      refine hK.out _ _ HS6 (fun hHeld => ?_)
      clear hK K
      try simp only [Act.put, List.setIfInBounds_toArray, List.set_cons_zero, List.set_cons_succ]
      refine takeV 4 (some 12) (.tuple #[.slice none 0 0, .int .i64 11]) rfl rfl (by kernel_rfl) (by kernel_rfl) (by kernel_rfl) (fun _ _ _ h => h) (Or.inl ⟨by kernel_rfl, fun W hSw => by go_simp⟩) hHeld ?_
      try simp only [Act.put, List.setIfInBounds_toArray, List.set_cons_zero, List.set_cons_succ]
      refine takeV 5 (some 17) (.slice none 0 0) rfl rfl (by kernel_rfl) (by kernel_rfl) (by kernel_rfl) (fun _ _ _ h => h) (Or.inl ⟨by kernel_rfl, fun W hSw => by go_simp⟩) hHeld ?_
      try simp only [Act.put, List.setIfInBounds_toArray, List.set_cons_zero, List.set_cons_succ]
      refine takeV 6 (some 18) (.int .i64 11) rfl rfl (by kernel_rfl) (by kernel_rfl) (by kernel_rfl) (fun _ _ _ h => h) (Or.inl ⟨by kernel_rfl, fun W hSw => by go_simp⟩) hHeld ?_
      try simp only [Act.put, List.setIfInBounds_toArray, List.set_cons_zero, List.set_cons_succ]
      refine takeV 7 (some 2) (.slice none 0 0) rfl rfl (by kernel_rfl) (by kernel_rfl) (by kernel_rfl) (fun _ _ _ h => h) (Or.inl ⟨by kernel_rfl, fun W hSw => by go_simp⟩) hHeld ?_
      try simp only [Act.put, List.setIfInBounds_toArray, List.set_cons_zero, List.set_cons_succ]
      refine takeV 8 (some 3) (.int .i64 11) rfl rfl (by kernel_rfl) (by kernel_rfl) (by kernel_rfl) (fun _ _ _ h => h) (Or.inl ⟨by kernel_rfl, fun W hSw => by go_simp⟩) hHeld ?_
      try simp only [Act.put, List.setIfInBounds_toArray, List.set_cons_zero, List.set_cons_succ]
      clear hHeld HS6 UU BX HS
      refine wpAnyH_done (by kernel_rfl) ?_ _
      go_wp2_with fail
      go_meet
      case rel => exact ⟨rfl, B6.out⟩
    · clear hHeld
      go_simp
      have X6 := (MapKept.heap_alloc X.drew (.cells #[.string wA] 9)).1
      have B6 := below_alloc (below_drew (Below.refl X.heap.size X)) (.cells #[.string wA] 9)
      refine hK.out _ _ (HS.out _ B6) (fun hHeld => ?_)
      clear hK K hHeld
      try simp only [Act.put, List.setIfInBounds_toArray, List.set_cons_zero, List.set_cons_succ]
      refine wpAnyH_ready (rs := [1]) (by kernel_rfl) (by simp) ?_
      refine AllReadyH.cons rfl (fun K hK => ?_) AllReadyH.nil
      go_simp
      go_at_call 52
      refine (word_any _ _).mono ?_
      rintro e w4 ⟨rfl, B4⟩
      have B7 := below_after B6 B4
      have X7 := (B4.block _ (Array.getElem?_eq_some_iff.1 X6).1).trans X6
      have HS5 := HS.out _ B7
      clear B4
      go_wp2_with fail
      refine hK.out _ _ HS5 (fun hHeld => ?_)
      clear hK K HS5 B6 X6
      try simp only [Act.put, List.setIfInBounds_toArray, List.set_cons_zero, List.set_cons_succ]
      have UU : Hid _ := ex1 (some ⟨b2, 0, none⟩) (some ⟨X.heap.size, 0, none⟩) w4 (Kd.C_below HR.out B7) (texts_of_cells (xs := [wA]) X7 (by simp) (fun j x hj => by cases j with | zero => obtain rfl := Option.some.inj hj; rfl | succ j => simp at hj))
      have BX : Hid _ := B7
      clear X7 B7
      refine wpAnyH_ready (rs := [3]) (by kernel_rfl) (by simp) ?_
      refine AllReadyH.cons rfl (fun K hK => ?_) AllReadyH.nil
      go_simp
      go_at_call 22
      refine Calls.mono UU.out ?_
      rintro e w6 ⟨rfl, B6'⟩
      have B6 : Hid _ := below_after BX.out B6'
      have HS6 := HS.out _ B6.out
      clear B6'
      go_wp2_with fail
      refine hK.out _ _ HS6 (fun hHeld => ?_)
      clear hK K
      try simp only [Act.put, List.setIfInBounds_toArray, List.set_cons_zero, List.set_cons_succ]
      refine takeV 4 (some 12) (.tuple #[.slice none 0 0, .int .i64 11]) rfl rfl (by kernel_rfl) (by kernel_rfl) (by kernel_rfl) (fun _ _ _ h => h) (Or.inl ⟨by kernel_rfl, fun W hSw => by go_simp⟩) hHeld ?_
      try simp only [Act.put, List.setIfInBounds_toArray, List.set_cons_zero, List.set_cons_succ]
      refine takeV 5 (some 17) (.slice none 0 0) rfl rfl (by kernel_rfl) (by kernel_rfl) (by kernel_rfl) (fun _ _ _ h => h) (Or.inl ⟨by kernel_rfl, fun W hSw => by go_simp⟩) hHeld ?_
      try simp only [Act.put, List.setIfInBounds_toArray, List.set_cons_zero, List.set_cons_succ]
      refine takeV 6 (some 18) (.int .i64 11) rfl rfl (by kernel_rfl) (by kernel_rfl) (by kernel_rfl) (fun _ _ _ h => h) (Or.inl ⟨by kernel_rfl, fun W hSw => by go_simp⟩) hHeld ?_
      try simp only [Act.put, List.setIfInBounds_toArray, List.set_cons_zero, List.set_cons_succ]
      refine takeV 7 (some 2) (.slice none 0 0) rfl rfl (by kernel_rfl) (by kernel_rfl) (by kernel_rfl) (fun _ _ _ h => h) (Or.inl ⟨by kernel_rfl, fun W hSw => by go_simp⟩) hHeld ?_
      try simp only [Act.put, List.setIfInBounds_toArray, List.set_cons_zero, List.set_cons_succ]
      refine takeV 8 (some 3) (.int .i64 11) rfl rfl (by kernel_rfl) (by kernel_rfl) (by kernel_rfl) (fun _ _ _ h => h) (Or.inl ⟨by kernel_rfl, fun W hSw => by go_simp⟩) hHeld ?_
      try simp only [Act.put, List.setIfInBounds_toArray, List.set_cons_zero, List.set_cons_succ]
      clear hHeld HS6 UU BX HS
      refine wpAnyH_done (by kernel_rfl) ?_ _
      go_wp2_with fail
      go_meet
      case rel => exact ⟨rfl, B6.out⟩
  case rest =>
    obtain ⟨rfl, BX⟩ := hcut
    have B8 : Hid _ := below_after HB.out BX
    clear BX HS HR HB
    go_wp2_with fail
    refine (word_any _ _).mono ?_
    rintro e y1 ⟨rfl, B1⟩
    go_wp2_with fail
    refine (word_any _ _).mono ?_
    rintro e y2 ⟨rfl, B2⟩
    go_wp2_with fail
    refine (word_any _ _).mono ?_
    rintro e y3 ⟨rfl, B3⟩
    go_wp2_with fail
    refine (word_any _ _).mono ?_
    rintro e y4 ⟨rfl, B4⟩
    go_wp2_with fail
    refine (list_any _ _ _ _).mono ?_
    rintro e y5 ⟨rfl, B5⟩
    have B6 : Below w.heap.size w y4 := below_after B8.out (below_after B1 (below_after B2 (below_after B3 B4)))
    have X5 := box_heap B5
    have B7 : Below w.heap.size w y5 := below_after (below_alloc B6 _) B5
    generalize y4.heap.size = b4 at *
    clear B1 B2 B3 B4 B5 B6 B8
    go_wp2_with fail
    refine (list_any _ _ _ _).mono ?_
    rintro e y6 ⟨rfl, B6⟩
    have X6 := box_heap B6
    have X7 := (below_after (below_alloc (Below.refl y5.heap.size y5) _) B6).block _ (Array.getElem?_eq_some_iff.1 X5).1 |>.trans X5
    have B8 : Below w.heap.size w y6 := below_after (below_alloc B7 _) B6
    generalize y5.heap.size = b5 at *
    clear B6 B7 X5
    have H6 : Hid _ := X6
    have H7 : Hid _ := X7
    clear X6 X7
    go_wp2_with fail
    have R1 : Kd.C k24 y6 (some ⟨b4, 0, none⟩) 2 [wordF wSeq, wordF wB] := words_row H7.out
    have R2 : Hid (Kd.C k24 y6 (some ⟨b5, 0, none⟩) 3 [wordF wMap, wordF wA, listF [wordF wSeq, wordF wB]]) := row_of_cells (xs := [wordF wMap, wordF wA, listF [wordF wSeq, wordF wB]]) H6.out (by simp) (fun j p hj => by
      match j, hj with
      | 0, hj => obtain rfl := Option.some.inj hj; exact ⟨none, 0, Nat.le_refl _, Kd.C_nil _ _, rfl, rfl, rfl, rfl⟩
      | 1, hj => obtain rfl := Option.some.inj hj; exact ⟨none, 0, Nat.le_refl _, Kd.C_nil _ _, rfl, rfl, rfl, rfl⟩
      | 2, hj => obtain rfl := Option.some.inj hj; exact ⟨some ⟨b4, 0, none⟩, 2, Nat.le_refl _, R1, rfl, rfl, rfl, rfl⟩
      | j + 3, hj => simp at hj)
    clear R1 H6 H7
    have B9 : Hid _ := below_alloc B8 (.cells #[.int .i64 3, .int .i64 0, .string ⟨#[]⟩, .slice (some ⟨b5, 0, none⟩) 3 3] 24)
    have R3 : Hid _ := Kd.C_below R2.out (below_alloc (Below.refl y6.heap.size y6) (.cells #[.int .i64 3, .int .i64 0, .string ⟨#[]⟩, .slice (some ⟨b5, 0, none⟩) 3 3] 24))
    have X8 : Hid _ := (MapKept.heap_alloc y6 (.cells #[.int .i64 3, .int .i64 0, .string ⟨#[]⟩, .slice (some ⟨b5, 0, none⟩) 3 3] 24)).1
    generalize y6.alloc (.cells #[.int .i64 3, .int .i64 0, .string ⟨#[]⟩, .slice (some ⟨b5, 0, none⟩) 3 3] 24) = Y at *
    generalize y6.heap.size = b6 at *
    clear B8 R2
    refine (word_any _ _).mono ?_
    rintro e z1 ⟨rfl, B1⟩
    go_wp2_with fail
    refine (word_any _ _).mono ?_
    rintro e z2 ⟨rfl, B2⟩
    go_wp2_with fail
    refine (word_any _ _).mono ?_
    rintro e z3 ⟨rfl, B3⟩
    have B4 := below_after B1 (below_after B2 B3)
    clear B1 B2 B3
    go_wp2_with fail
    refine (list_any _ _ _ _).mono ?_
    rintro e z4 ⟨rfl, B5⟩
    have Z5 := box_heap B5
    have B6 := below_after (below_alloc B4 _) B5
    generalize z3.heap.size = b7 at *
    clear B4 B5
    have R5 : Hid (Kd.C k24 z4 (some ⟨b7, 0, none⟩) 3 [wordF wMap, wordF wInt, wordF wA]) := row_of_cells (xs := [wordF wMap, wordF wInt, wordF wA]) Z5 (by simp) (fun j p hj => by
      match j, hj with
      | 0, hj => obtain rfl := Option.some.inj hj; exact ⟨none, 0, Nat.le_refl _, Kd.C_nil _ _, rfl, rfl, rfl, rfl⟩
      | 1, hj => obtain rfl := Option.some.inj hj; exact ⟨none, 0, Nat.le_refl _, Kd.C_nil _ _, rfl, rfl, rfl, rfl⟩
      | 2, hj => obtain rfl := Option.some.inj hj; exact ⟨none, 0, Nat.le_refl _, Kd.C_nil _ _, rfl, rfl, rfl, rfl⟩
      | j + 3, hj => simp at hj)
    obtain ⟨q0, q1, q2, q3⟩ := cells4 X8.out
    have BB : Hid _ := B6
    replace q0 := pw_cell_below (below_alloc B6 (.cells #[.int .i64 3, .int .i64 0, .string ⟨#[]⟩, .slice (some ⟨b7, 0, none⟩) 3 3] 24)) q0
    replace q1 := pw_cell_below (below_alloc B6 (.cells #[.int .i64 3, .int .i64 0, .string ⟨#[]⟩, .slice (some ⟨b7, 0, none⟩) 3 3] 24)) q1
    replace q2 := pw_cell_below (below_alloc B6 (.cells #[.int .i64 3, .int .i64 0, .string ⟨#[]⟩, .slice (some ⟨b7, 0, none⟩) 3 3] 24)) q2
    replace q3 := pw_cell_below (below_alloc B6 (.cells #[.int .i64 3, .int .i64 0, .string ⟨#[]⟩, .slice (some ⟨b7, 0, none⟩) 3 3] 24)) q3
    clear Z5 B6
    have s1 := size_new z4 (.cells #[.int .i64 3, .int .i64 0, .string ⟨#[]⟩, .slice (some ⟨b7, 0, none⟩) 3 3] 24)
    have V1 := (MapKept.heap_alloc (z4.alloc (.cells #[.int .i64 3, .int .i64 0, .string ⟨#[]⟩, .slice (some ⟨b7, 0, none⟩) 3 3] 24)) (.cells #[.string wA, .string wB] 9)).1
    rw [s1] at V1
    have BZ : Below z4.heap.size z4 ((z4.alloc (.cells #[.int .i64 3, .int .i64 0, .string ⟨#[]⟩, .slice (some ⟨b7, 0, none⟩) 3 3] 24)).alloc (.cells #[.string wA, .string wB] 9)) := below_alloc (below_alloc (Below.refl _ _) _) _
    have UU : Hid _ := ex2 (some ⟨b5, 0, none⟩) (some ⟨b7, 0, none⟩) (some ⟨z4.heap.size + 1, 0, none⟩) _ (Kd.C_below R3.out (below_after BB.out BZ)) (Kd.C_below R5.out BZ) (texts_of_cells (xs := [wA, wB]) V1 (by simp) (fun j x hj => by
      match j, hj with
      | 0, hj => obtain rfl := Option.some.inj hj; rfl
      | 1, hj => obtain rfl := Option.some.inj hj; rfl
      | j + 2, hj => simp at hj))
    have BF : Hid _ := below_after B9.out (below_after BB.out BZ)
    clear s1 V1 BZ R3 R5
    go_wp2_with fail
    refine Calls.mono UU.out ?_
    rintro e z9 ⟨rfl, BL⟩
    have BG : Hid _ := below_after BF.out BL
    clear BL
    go_wp2_with fail
    go_ret
    exact ⟨rfl, BG.out⟩
end Go.Proofs.YtcjmplpfebpfpaaGreatDoor

namespace Go.Proofs.YtcjmplpfebpfpaaGreatDoor.PKindInstances
open Go.RowKit Go.Proofs.YtcjmplpfebpfpaaGreatDoorW.PrintWords Go.Proofs.YtcjmplpfebpfpaaGreatDoorW.PrintLast Go.Proofs.YtcjmplpfebpfpaaGreatDoorW.PrintMore
attribute [local go_sem] max2_int min2_int max_two min_two max_three min_three max_four min_four   -- for this text's walks alone
set_option linter.unusedVariables false
set_option linter.unusedSimpArgs false

def plinthlaw03_pairs.l0 : Nat → List (S51) → List (S71) → Int → Option ((List (S71)))
  | 0, _, _, _ => none
  | k + 1, x0, x3, x4 => if x4 < (x0.length : Int) then (if 0 ≤ x4 then (if x3.length < 1954687338268 then (plinthlaw03_pairs.l0 k x0 (x3 ++ [(⟨(rd_T51 x0 x4).f0, (⟨(rd_T51 x0 x4).f1.f0, (rd_T51 x0 x4).f1.f1, (rd_T51 x0 x4).f1.f2, (rd_T51 x0 x4).f1.f3⟩ : S24)⟩ : S71)]) (wrap64 (x4 + 1))) else (none)) else (none)) else (some x3)
def plinthlaw03_pairs.f (k : Nat) (l0 : List (S51)) : Option ((List (S71))) := plinthlaw03_pairs.l0 k l0 ([] : List (S71)) 0
def plinthlaw03_pairs.T5 : Bool × List (List Nat × List Nat) := (true, [([], []), ([], []), ([], []), ([1, 2], [1, 2]), ([3], [3]), ([4], [4]), ([], []), ([], []), ([6, 7], [6, 7]), ([8], [8]), ([9], [9]), ([5, 10], [5, 10]), ([11], [11]), ([0, 12], [0, 12]), ([13, 13, 0, 1, 2, 3, 4, 5, 6, 7, 8, 9, 10, 11, 12, 13], [0, 13])])
def plinthlaw03_pairs.B5 : List Nat := [0, 0, 0, 6, 14, 30, 0, 0, 192, 448, 960, 2046, 4094, 8191, 16383]
theorem plinthlaw03_pairs.tab5 : rtab .any (opsOf Tryz.f13 5) = plinthlaw03_pairs.T5 := by kernel_rfl
theorem plinthlaw03_pairs.bits5 : waitsOk plinthlaw03_pairs.T5.2 plinthlaw03_pairs.B5 = true := by kernel_rfl
set_option maxHeartbeats 8000000 in
set_option maxRecDepth 100000 in
theorem plinthlaw03_pairs.calls (k : Nat) (P0_ : Nat → Prop) (A0 : Option Addr) (c0 : Nat) (l0 : List (S51)) (r : List (S71)) (w : World) (hs0 : Kd.V k51 51 w w.heap.size (fun k_ => P0_ k_) (.slice A0 l0.length c0) l0) (h : plinthlaw03_pairs.f k l0 = some r) :
    Calls Tryz.prog 13 #[.slice A0 l0.length c0] w fun e w' => ∃ v0_ : Value, e = .returned (v0_) ∧ Kd.N k71 71 w' w.heap.size (fun k_ => (P0_ k_ ∨ w.heap.size ≤ k_)) v0_ r ∧ Below w.heap.size w w' := by
  have hu24 := Tryz.underlying24
  have hu71 := Tryz.underlying71
  have HO0 := Aside0.mk (show Kd.V k51 51 w w.heap.size (fun k_ => (P0_ k_ ∨ w.heap.size ≤ k_)) (.slice A0 l0.length c0) l0 from Kd.V_mono hs0 (fun k_ hk => .inl hk))
  have HB := Aside0.mk (Below.refl w.heap.size w)
  have H : (plinthlaw03_pairs.l0 k l0 ([] : List (S71)) 0) = some r := h
  clear h
  have H' := Aside0.mk H
  clear H
  go_enter Tryz.func13, Tryz.ntmps13
  go_wp2
  go_loopg [3, 4] k (fun kq v3 v4 w' => ∃ (x3_1 : List (S71)) (x4_1 : Int), v4 = .int .i64 x4_1 ∧ Aside0 (plinthlaw03_pairs.l0 kq l0 x3_1 x4_1 = some r) ∧ Aside0 (kq ≤ k) ∧ Aside0 (Kd.V k51 51 w' w.heap.size (fun k_ => (P0_ k_ ∨ w.heap.size ≤ k_) ∧ some k_ ≠ (v3 : Value).ownBlock) (.slice A0 l0.length c0) l0) ∧ Aside0 (Kd.N k71 71 w' w.heap.size (fun k_ => (P0_ k_ ∨ w.heap.size ≤ k_)) v3 x3_1) ∧ Aside0 (Below w.heap.size w w'))
  case atStart => exact ⟨(([] : List (S71))), (0), (by first | rfl | (simp; done) | (simp [*]; done)), H', ⟨Nat.le_refl _⟩, ⟨by (with_reducible repeat (first | apply Kd.V_alloc | apply Kd.V_drewN | apply Kd.V_drew)); exact Kd.V_mono HO0.out (fun _ hk => ⟨hk, (by simp [Value.ownBlock])⟩)⟩, ⟨by first | exact Kd.R_nil _ _ _ _ _ | exact Kd.N_nil _ _ _ _ _ | exact Kd.V_nil _ _ _ _ _ | exact Kd.Q_nil _ _ _ _ _ | exact Kd.S_nil _ _ _ _ _⟩, ⟨by repeat (first | (with_reducible first | exact HB.out | apply below_alloc | apply pw_below_drewN | apply below_drew1) | exact HB.out)⟩⟩
  case round =>
    clear H'
    try clear c1
    obtain ⟨x3_1, x4_1, rfl, HA, HK1, HO_0, HO_3, HB⟩ := hrel
    cases gk with
    | zero => exact absurd HA.out (by simp [plinthlaw03_pairs.l0])
    | succ k1 =>
      have H := HA.out
      clear HA
      simp only [plinthlaw03_pairs.l0] at H
      by_cases c2 : x4_1 < (l0.length : Int)
      · rw [if_pos c2] at H
        have c2b0 : decide (x4_1 < (l0.length : Int)) = true := decide_eq_true c2
        clear c2
        by_cases c3 : 0 ≤ x4_1
        · rw [if_pos c3] at H
          have c3b0 : decide (0 ≤ x4_1) = true := decide_eq_true c3
          clear c3
          by_cases c4 : x3_1.length < 1954687338268
          · rw [if_pos c4] at H
            have LMc4 := Aside0.mk c4
            clear c4
            obtain ⟨y103, hy103⟩ : ∃ y_ : List (S71), y_ = (x3_1 ++ [(⟨(rd_T51 l0 x4_1).f0, (⟨(rd_T51 l0 x4_1).f1.f0, (rd_T51 l0 x4_1).f1.f1, (rd_T51 l0 x4_1).f1.f2, (rd_T51 l0 x4_1).f1.f3⟩ : S24)⟩ : S71)]) := ⟨_, rfl⟩
            replace H : (plinthlaw03_pairs.l0 k1 l0 y103 (wrap64 (x4_1 + 1))) = some r := by first | (rw [hy103]; with_reducible exact H) | (have H2_ := (Option.bind_some _ _).symm.trans H; rw [hy103]; with_reducible exact H2_) | (have H2_ := (Option.bind_some _ _).symm.trans H; with_reducible exact H2_) | with_reducible exact H | (rw [hy103]; exact H) | exact H
            have Ny103 := Aside0.mk hy103
            clear hy103
            have H' := Aside0.mk H
            clear H
            try go_wp2
            have n0_ := Aside0.mk (Kd.V_drew HO_0.out)
            have n1_ := Aside0.mk (Kd.N_drew HO_3.out)
            have n2_ := Aside0.mk (below_drew1 HB.out)
            clear HO_0
            clear HO_3
            clear HB
            have HO_0 := n0_
            have HO_3 := n1_
            have HB := n2_
            clear n0_ n1_ n2_
            have p101 : 0 ≤ (x4_1 : Int) := of_decide_eq_true (by first | (with_reducible assumption) | assumption)
            have q101 : x4_1 < (l0.length : Int) := of_decide_eq_true (by first | (with_reducible assumption) | assumption)
            obtain ⟨ad101, A101_4, c101_4, e101, hx101_0, hx101_1, hx101_2, hx101_3, hx101_4, hl101_4, hi101_4⟩ := at_T51 (Kd.V_reads' HO_0.out).2.2 x4_1 p101 q101
            cases e101
            obtain ⟨ce101, hce101, hMe101, hcc101⟩ := Kd.V_get HO_0.out z51 x4_1 p101 (by first | exact q101 | exact of_decide_eq_true (by first | (with_reducible assumption) | assumption) | (have e_ := (Kd.V_reads' HO_0.out).1; omega))
            obtain ⟨ua101_4, uc101_4, rfl, ul101_4, ge101_4⟩ := k51_openF hMe101
            have hv101_4 := hcc101 4 _ rfl
            rw [add_field _ _ 4 (by omega)] at hv101_4
            replace hv101_4 := Option.some.inj (hv101_4.symm.trans hx101_4)
            injection hv101_4 with hva_ hvn_ hvc_
            rw [hva_] at ge101_4
            rw [hvc_] at ul101_4
            have HL101_4 := Aside0.mk (show Kd.V k24 24 _ w.heap.size _ _ ((rd_T51 l0 x4_1).f1.f3) from Kd.V_mk ul101_4 ge101_4)
            clear hva_ hvn_ hvc_ ge101_4 ul101_4
            clear hcc101 hce101
            have HR101_4 := Aside0.mk hi101_4
            have HC101_4 := Aside0.mk hl101_4
            clear hi101_4 hl101_4
            replace p101 := eq_true p101
            replace q101 := eq_true q101
            have p102 : 0 ≤ (x4_1 : Int) := of_decide_eq_true (by first | (with_reducible assumption) | assumption)
            have q102 : x4_1 < (l0.length : Int) := of_decide_eq_true (by first | (with_reducible assumption) | assumption)
            obtain ⟨ad102, A102_4, c102_4, e102, hx102_0, hx102_1, hx102_2, hx102_3, hx102_4, hl102_4, hi102_4⟩ := at_T51 (Kd.V_reads' HO_0.out).2.2 x4_1 p102 q102
            obtain rfl : ad101 = ad102 := (by injection e102)
            obtain ⟨ce102, hce102, hMe102, hcc102⟩ := Kd.V_get HO_0.out z51 x4_1 p102 (by first | exact q102 | exact of_decide_eq_true (by first | (with_reducible assumption) | assumption) | (have e_ := (Kd.V_reads' HO_0.out).1; omega))
            obtain ⟨ua102_4, uc102_4, rfl, ul102_4, ge102_4⟩ := k51_openF hMe102
            have hv102_4 := hcc102 4 _ rfl
            rw [add_field _ _ 4 (by omega)] at hv102_4
            replace hv102_4 := Option.some.inj (hv102_4.symm.trans hx102_4)
            injection hv102_4 with hva_ hvn_ hvc_
            rw [hva_] at ge102_4
            rw [hvc_] at ul102_4
            have HL102_4 := Aside0.mk (show Kd.V k24 24 _ w.heap.size _ _ ((rd_T51 l0 x4_1).f1.f3) from Kd.V_mk ul102_4 ge102_4)
            clear hva_ hvn_ hvc_ ge102_4 ul102_4
            clear hcc102 hce102
            have HR102_4 := Aside0.mk hi102_4
            have HC102_4 := Aside0.mk hl102_4
            clear hi102_4 hl102_4
            replace p102 := eq_true p102
            replace q102 := eq_true q102
            have ea_ := Option.some.inj (hx101_4.symm.trans hx102_4)
            injection ea_ with ea_ en_ ec_
            subst ea_
            subst ec_
            clear en_
            refine start_ (n := 15) (S := fun w' => w'.cell? (ad101.add ((x4_1).toNat * 5)) = some (.string ((rd_T51 l0 x4_1).f0)) ∧ w'.cell? ⟨(ad101.add ((x4_1).toNat * 5)).block, (ad101.add ((x4_1).toNat * 5)).off + 1, none⟩ = some (.int .i64 ((rd_T51 l0 x4_1).f1.f0)) ∧ w'.cell? ⟨(ad101.add ((x4_1).toNat * 5)).block, (ad101.add ((x4_1).toNat * 5)).off + 2, none⟩ = some (.int .i64 ((rd_T51 l0 x4_1).f1.f1)) ∧ w'.cell? ⟨(ad101.add ((x4_1).toNat * 5)).block, (ad101.add ((x4_1).toNat * 5)).off + 3, none⟩ = some (.string ((rd_T51 l0 x4_1).f1.f2)) ∧ w'.cell? ⟨(ad101.add ((x4_1).toNat * 5)).block, (ad101.add ((x4_1).toNat * 5)).off + 4, none⟩ = some (.slice A101_4 ((rd_T51 l0 x4_1).f1.f3).length c101_4) ∧ w'.cell? (ad101.add ((x4_1).toNat * 5)) = some (.string ((rd_T51 l0 x4_1).f0)) ∧ w'.cell? ⟨(ad101.add ((x4_1).toNat * 5)).block, (ad101.add ((x4_1).toNat * 5)).off + 1, none⟩ = some (.int .i64 ((rd_T51 l0 x4_1).f1.f0)) ∧ w'.cell? ⟨(ad101.add ((x4_1).toNat * 5)).block, (ad101.add ((x4_1).toNat * 5)).off + 2, none⟩ = some (.int .i64 ((rd_T51 l0 x4_1).f1.f1)) ∧ w'.cell? ⟨(ad101.add ((x4_1).toNat * 5)).block, (ad101.add ((x4_1).toNat * 5)).off + 3, none⟩ = some (.string ((rd_T51 l0 x4_1).f1.f2)) ∧ w'.cell? ⟨(ad101.add ((x4_1).toNat * 5)).block, (ad101.add ((x4_1).toNat * 5)).off + 4, none⟩ = some (.slice A101_4 ((rd_T51 l0 x4_1).f1.f3).length c101_4)) (ds := [12, 13]) #[false, false, false, false, false, false, false, false, false, false, false, false, false, false, false] (by kernel_rfl) rfl rfl ⟨hx101_0, hx101_1, hx101_2, hx101_3, hx101_4, hx102_0, hx102_1, hx102_2, hx102_3, hx102_4⟩ (fun hHeld => ?_); refine with_tabW plinthlaw03_pairs.tab5 plinthlaw03_pairs.bits5 (fun HT_ HW_ => ?_)
            generalize wr.drew = w5 at HO_0 HO_3 HB HL101_4 HL102_4 HR101_4 HR102_4 hx101_0 hx101_1 hx101_2 hx101_3 hx101_4 hx102_0 hx102_1 hx102_2 hx102_3 hx102_4 hHeld ⊢
            refine pure_ (i := 0) (N := some 11) (v := ?_) (a' := ?_) #[true, false, false, false, false, false, false, false, false, false, false, false, false, false, false] rfl rfl (any_of HT_.out (by kernel_rfl)) (fun _ _ _ h => h) (Or.inl ⟨by rfl, ?_⟩) ?_ ?_
            rotate_left
            · intro w'
              go_simp
              with_reducible rfl
            rotate_left
            · simp only [Act.put, List.setIfInBounds_toArray, List.set_cons_zero, List.set_cons_succ, i64_w, i32_w]
              rfl
            refine pure_ (i := 1) (N := some 12) (v := ?_) (a' := ?_) #[true, true, false, false, false, false, false, false, false, false, false, false, false, false, false] rfl rfl (any_of HT_.out (by kernel_rfl)) (fun _ _ _ h => h) (Or.inl ⟨by rfl, ?_⟩) ?_ ?_
            rotate_left
            · intro w'
              go_simp
              with_reducible rfl
            rotate_left
            · simp only [Act.put, List.setIfInBounds_toArray, List.set_cons_zero, List.set_cons_succ, i64_w, i32_w]
              rfl
            refine pure_ (i := 2) (N := some 13) (v := ?_) (a' := ?_) #[true, true, true, false, false, false, false, false, false, false, false, false, false, false, false] rfl rfl (any_of HT_.out (by kernel_rfl)) (fun _ _ _ h => h) (Or.inl ⟨by rfl, ?_⟩) ?_ ?_
            rotate_left
            · intro w'
              go_simp
              with_reducible rfl
            rotate_left
            · simp only [Act.put, List.setIfInBounds_toArray, List.set_cons_zero, List.set_cons_succ, i64_w, i32_w]
              rfl
            refine pure_ (i := 3) (N := some 14) (v := ?_) (a' := ?_) #[true, true, true, true, false, false, false, false, false, false, false, false, false, false, false] rfl rfl (any_of HT_.out (by kernel_rfl)) (fun _ _ _ h => h) (Or.inl ⟨by rfl, ?_⟩) ?_ ?_
            rotate_left
            · intro w'
              go_simp
              with_reducible rfl
            rotate_left
            · simp only [Act.put, List.setIfInBounds_toArray, List.set_cons_zero, List.set_cons_succ, i64_w, i32_w]
              rfl
            refine pure_ (i := 4) (N := some 15) (v := ?_) (a' := ?_) #[true, true, true, true, true, false, false, false, false, false, false, false, false, false, false] rfl rfl (any_of HT_.out (by kernel_rfl)) (fun _ _ _ h => h) (Or.inl ⟨by rfl, ?_⟩) ?_ ?_
            rotate_left
            · intro w'
              go_simp
              with_reducible rfl
            rotate_left
            · simp only [Act.put, List.setIfInBounds_toArray, List.set_cons_zero, List.set_cons_succ, i64_w, i32_w]
              rfl
            refine pure_ (i := 6) (N := some 17) (v := ?_) (a' := ?_) #[true, true, true, true, true, false, true, false, false, false, false, false, false, false, false] rfl rfl (any_of HT_.out (by kernel_rfl)) (fun _ _ _ h => h) (Or.inl ⟨by rfl, ?_⟩) ?_ ?_
            rotate_left
            · intro w'
              go_simp
              with_reducible rfl
            rotate_left
            · simp only [Act.put, List.setIfInBounds_toArray, List.set_cons_zero, List.set_cons_succ, i64_w, i32_w]
              rfl
            refine pure_ (i := 7) (N := some 18) (v := ?_) (a' := ?_) #[true, true, true, true, true, false, true, true, false, false, false, false, false, false, false] rfl rfl (any_of HT_.out (by kernel_rfl)) (fun _ _ _ h => h) (Or.inl ⟨by rfl, ?_⟩) ?_ ?_
            rotate_left
            · intro w'
              go_simp
              with_reducible rfl
            rotate_left
            · simp only [Act.put, List.setIfInBounds_toArray, List.set_cons_zero, List.set_cons_succ, i64_w, i32_w]
              rfl
            refine pure_ (i := 8) (N := some 19) (v := ?_) (a' := ?_) #[true, true, true, true, true, false, true, true, true, false, false, false, false, false, false] rfl rfl (any_of HT_.out (by kernel_rfl)) (fun _ _ _ h => h) (Or.inl ⟨by rfl, ?_⟩) ?_ ?_
            rotate_left
            · intro w'
              go_simp
              with_reducible rfl
            rotate_left
            · simp only [Act.put, List.setIfInBounds_toArray, List.set_cons_zero, List.set_cons_succ, i64_w, i32_w]
              rfl
            refine pure_ (i := 9) (N := some 20) (v := ?_) (a' := ?_) #[true, true, true, true, true, false, true, true, true, true, false, false, false, false, false] rfl rfl (any_of HT_.out (by kernel_rfl)) (fun _ _ _ h => h) (Or.inl ⟨by rfl, ?_⟩) ?_ ?_
            rotate_left
            · intro w'
              go_simp
              with_reducible rfl
            rotate_left
            · simp only [Act.put, List.setIfInBounds_toArray, List.set_cons_zero, List.set_cons_succ, i64_w, i32_w]
              rfl
            refine take_ (i := 5) (N := some 16) (v := ?_) (a' := ?_) #[true, true, true, true, true, true, true, true, true, true, false, false, false, false, false] rfl rfl (take_ofW HT_.out HW_.out (by kernel_rfl)) (fun _ _ _ h => h) (Or.inl ⟨by rfl, ?_⟩) hHeld ?_ ?_
            rotate_left
            · rintro w' ⟨s0, s1, s2, s3, s4, s5, s6, s7, s8, s9⟩
              go_simp
              with_reducible rfl
            rotate_left
            · simp only [Act.put, List.setIfInBounds_toArray, List.set_cons_zero, List.set_cons_succ, i64_w, i32_w]
              rfl
            refine take_ (i := 10) (N := some 21) (v := ?_) (a' := ?_) #[true, true, true, true, true, true, true, true, true, true, true, false, false, false, false] rfl rfl (take_ofW HT_.out HW_.out (by kernel_rfl)) (fun _ _ _ h => h) (Or.inl ⟨by rfl, ?_⟩) hHeld ?_ ?_
            rotate_left
            · rintro w' ⟨s0, s1, s2, s3, s4, s5, s6, s7, s8, s9⟩
              go_simp
              with_reducible rfl
            rotate_left
            · simp only [Act.put, List.setIfInBounds_toArray, List.set_cons_zero, List.set_cons_succ, i64_w, i32_w]
              rfl
            refine pure_ (i := 11) (N := some 22) (v := ?_) (a' := ?_) #[true, true, true, true, true, true, true, true, true, true, true, true, false, false, false] rfl rfl (any_of HT_.out (by kernel_rfl)) (fun _ _ _ h => h) (Or.inl ⟨by rfl, ?_⟩) ?_ ?_
            rotate_left
            · intro w'
              go_simp
              with_reducible rfl
            rotate_left
            · simp only [Act.put, List.setIfInBounds_toArray, List.set_cons_zero, List.set_cons_succ, i64_w, i32_w]
              rfl
            refine last_ (i := 12) (N := some 23) #[true, true, true, true, true, true, true, true, true, true, true, true, true, false, false] rfl rfl (one_of HT_.out (by kernel_rfl)) (by decide) (fun K hK => ?_)
            refine value_ (w1 := ?_) (v := ?_) (by rfl) rfl ?_ ?_
            rotate_left 2
            · go_simp
              constructor
              · rfl
              · rfl
            refine hK.out _ _ ?_
            clear hK K
            refine norm_ (a' := ?_) ?_ ?_
            rotate_left
            · show Act.put _ (some 23) _ = _
              simp only [Act.put, List.setIfInBounds_toArray, List.set_cons_zero, List.set_cons_succ, i64_w, i32_w]
              rfl
            refine last_ (i := 13) (N := some 24) #[true, true, true, true, true, true, true, true, true, true, true, true, true, true, false] rfl rfl (one_of HT_.out (by kernel_rfl)) (by decide) (fun K hK => ?_)
            refine Kd.N_append_step k71 (w0 := w) w.heap.size (by rfl) (.tmp 11) (.tmp 23) 29 71 (.agg #[(.string ⟨#[]⟩), (.int .i64 0), (.int .i64 0), (.string ⟨#[]⟩), (.slice none 0 0)]) 72 rfl Tryz.underlying29 info71 rfl (by decide) (by omega) u3 x3_1 (⟨(rd_T51 l0 x4_1).f0, (⟨(rd_T51 l0 x4_1).f1.f0, (rd_T51 l0 x4_1).f1.f1, (rd_T51 l0 x4_1).f1.f2, (rd_T51 l0 x4_1).f1.f3⟩ : S24)⟩ : S71) [.string ((rd_T51 l0 x4_1).f0), .int .i64 ((rd_T51 l0 x4_1).f1.f0), .int .i64 ((rd_T51 l0 x4_1).f1.f1), .string ((rd_T51 l0 x4_1).f1.f2), .slice A101_4 ((rd_T51 l0 x4_1).f1.f3).length c101_4] (fun k_ => (P0_ k_ ∨ w.heap.size ≤ k_)) (fun k_ => ((fun k_ => (P0_ k_ ∨ w.heap.size ≤ k_))) k_ ∧ some k_ ≠ (u3 : Value).ownBlock) rfl rfl ?aP (fun _ hk => hk) ?aF ?aO ?aB ?aS ?aL ?_
            (case aP => exact (k71_mkF _ _ (⟨(rd_T51 l0 x4_1).f0, (⟨(rd_T51 l0 x4_1).f1.f0, (rd_T51 l0 x4_1).f1.f1, (rd_T51 l0 x4_1).f1.f2, (rd_T51 l0 x4_1).f1.f3⟩ : S24)⟩ : S71) (Kd.V_reads' (Kd.V_mono (ok' := (fun k_ => ((fun k_ => (P0_ k_ ∨ w.heap.size ≤ k_))) k_ ∧ some k_ ≠ (u3 : Value).ownBlock)) (HL102_4.out) (fun k_ hk => ⟨hk.1, hk.2⟩))).2.1 (Kd.V_F (Kd.V_mono (ok' := (fun k_ => ((fun k_ => (P0_ k_ ∨ w.heap.size ≤ k_))) k_ ∧ some k_ ≠ (u3 : Value).ownBlock)) (HL102_4.out) (fun k_ hk => ⟨hk.1, hk.2⟩)))))
            (case aB => exact (by repeat (first | (with_reducible first | exact HB.out | apply below_alloc | apply pw_below_drewN | apply below_drew1) | exact HB.out)))
            (case aF => exact (fun k_ hk => (.inr (Nat.le_trans (below_size (by repeat (first | (with_reducible first | exact HB.out | apply below_alloc | apply pw_below_drewN | apply below_drew1) | exact HB.out))) hk))))
            (case aO => exact (by (with_reducible repeat (first | apply Kd.N_alloc | apply Kd.N_drewN | apply Kd.N_drew)); exact HO_3.out))
            (case aS => exact (below_size (by repeat (first | (with_reducible first | exact HB.out | apply below_alloc | apply pw_below_drewN | apply below_drew1) | exact HB.out))))
            (case aL => have := LMc4.out; omega)
            intro v104 w6 ho hb hg hat
            rw [← Ny103.out] at ho
            have n0_ := Aside0.mk (Kd.V_afterv (ok := (fun k_ => (P0_ k_ ∨ w.heap.size ≤ k_))) (by (with_reducible repeat (first | apply Kd.V_alloc | apply Kd.V_drewN | apply Kd.V_drew)); exact HO_0.out) hg hat)
            have n1_ := Aside0.mk (Kd.V_afterv (ok := (fun k_ => (P0_ k_ ∨ w.heap.size ≤ k_))) (by (with_reducible repeat (first | apply Kd.V_alloc | apply Kd.V_drewN | apply Kd.V_drew)); exact HL101_4.out) hg hat)
            have n2_ := Aside0.mk (Kd.V_afterv (ok := (fun k_ => (P0_ k_ ∨ w.heap.size ≤ k_))) (by (with_reducible repeat (first | apply Kd.V_alloc | apply Kd.V_drewN | apply Kd.V_drew)); exact HL102_4.out) hg hat)
            have n3_ := Aside0.mk (hb)
            have n4_ := Aside0.mk (ho)
            clear HO_0
            clear HL101_4
            clear HL102_4
            clear HB
            clear HO_3
            have HO_0 := n0_
            have HL101_4 := n1_
            have HL102_4 := n2_
            have HB := n3_
            have HO105 := n4_
            clear n0_ n1_ n2_ n3_ n4_
            clear ho hb hg hat
            refine hK.out _ _ ?_
            clear hK K
            refine norm_ (a' := ?_) ?_ ?_
            rotate_left
            · show Act.put _ (some 24) _ = _
              simp only [Act.put, List.setIfInBounds_toArray, List.set_cons_zero, List.set_cons_succ, i64_w, i32_w]
              rfl
            refine pure_ (i := 14) (N := some 3) (v := ?_) (a' := ?_) #[true, true, true, true, true, true, true, true, true, true, true, true, true, true, true] rfl rfl (any_of HT_.out (by kernel_rfl)) (fun _ _ _ h => h) (Or.inl ⟨by rfl, ?_⟩) ?_ ?_
            rotate_left
            · intro w'
              go_simp
              with_reducible rfl
            rotate_left
            · simp only [Act.put, List.setIfInBounds_toArray, List.set_cons_zero, List.set_cons_succ, i64_w, i32_w]
              rfl
            refine done_ (done_of HT_.out (by kernel_rfl)) ?_
            try go_wp2
            go_roundg k1
            case measure => have := HK1.out; omega
            case rel => exact ⟨(y103), (wrap64 (x4_1 + 1)), (by first | rfl | (simp; done) | (simp [*]; done)), H', ⟨by have := HK1.out; omega⟩, ⟨by (with_reducible repeat (first | apply Kd.V_alloc | apply Kd.V_drewN | apply Kd.V_drew)); exact HO_0.out⟩, ⟨by (with_reducible repeat (first | apply Kd.N_alloc | apply Kd.N_drewN | apply Kd.N_drew)); exact HO105.out⟩, ⟨by repeat (first | (with_reducible first | exact HB.out | apply below_alloc | apply pw_below_drewN | apply below_drew1) | exact HB.out)⟩⟩
          · rw [if_neg c4] at H
            exact absurd H (by simp)
        · rw [if_neg c3] at H
          exact absurd H (by simp)
      · rw [if_neg c2] at H
        have c2b0 : decide (x4_1 < (l0.length : Int)) = false := decide_eq_false c2
        clear c2
        obtain rfl := Option.some.inj H
        go_wp2
        go_ret
        exact ⟨_, by first | rfl | (simp [errW_none, errW_some] <;> rfl) | (simp [*, errW_none, errW_some] <;> rfl), by (with_reducible repeat (first | apply Kd.N_alloc | apply Kd.N_drewN | apply Kd.N_drew)); exact HO_3.out, by repeat (first | (with_reducible first | exact HB.out | apply below_alloc | apply pw_below_drewN | apply below_drew1) | exact HB.out)⟩

end Go.Proofs.YtcjmplpfebpfpaaGreatDoor.PKindInstances

namespace Go.Proofs.YtcjmplpfebpfpaaGreatDoor.PKindInstances
open Go.RowKit Go.Proofs.YtcjmplpfebpfpaaGreatDoorW.PrintWords Go.Proofs.YtcjmplpfebpfpaaGreatDoorW.PrintLast Go.Proofs.YtcjmplpfebpfpaaGreatDoorW.PrintMore
attribute [local go_sem] max2_int min2_int max_two min_two max_three min_three max_four min_four   -- for this text's walks alone
set_option linter.unusedVariables false
set_option linter.unusedSimpArgs false

def plinthref01_Head.f (a0_0 : Int) (a0_1 : Int) (a0_2 : ByteArray) (l0_3 : List (S24)) : Option (ByteArray) := if a0_0 = 3 then (if (l0_3.length : Int) = 0 then (some (⟨#[]⟩ : ByteArray)) else (if 0 < (l0_3.length : Int) then (if ((rd_T24 l0_3 0).f0) = 1 then (some ((rd_T24 l0_3 0).f2)) else (some (⟨#[]⟩ : ByteArray))) else (none))) else (some (⟨#[]⟩ : ByteArray))
set_option maxHeartbeats 8000000 in
set_option maxRecDepth 100000 in
theorem plinthref01_Head.calls (a0_0 : Int) (a0_1 : Int) (a0_2 : ByteArray) (A0_3 : Option Addr) (c0_3 : Nat) (l0_3 : List (S24)) (r : ByteArray) (w : World) (hr0_3 : Kd.C k24 w A0_3 l0_3.length l0_3) (hc0_3 : l0_3.length ≤ c0_3) (h : plinthref01_Head.f a0_0 a0_1 a0_2 l0_3 = some r) :
    Calls Tryz.prog 50 #[.agg #[.int .i64 a0_0, .int .i64 a0_1, .string a0_2, .slice A0_3 l0_3.length c0_3]] w fun e w' => e = .returned (.string r) ∧ Below w.heap.size w w' := by
  have hu24 := Tryz.underlying24
  have HR0_3 := Aside0.mk hr0_3
  have HC0_3 := Aside0.mk hc0_3
  clear hr0_3 hc0_3
  have HB := Aside0.mk (Below.refl w.heap.size w)
  have H : (if a0_0 = 3 then (if (l0_3.length : Int) = 0 then (some (⟨#[]⟩ : ByteArray)) else (if 0 < (l0_3.length : Int) then (if ((rd_T24 l0_3 0).f0) = 1 then (some ((rd_T24 l0_3 0).f2)) else (some (⟨#[]⟩ : ByteArray))) else (none))) else (some (⟨#[]⟩ : ByteArray))) = some r := h
  clear h
  by_cases c2 : a0_0 = 3
  · rw [if_pos c2] at H
    have c2b0 : (a0_0 == 3) = true := beq_iff_eq.mpr c2
    have c2b1 : (a0_0 != 3) = false := bne_eq_false_iff_eq.mpr c2
    clear c2
    by_cases c3 : (l0_3.length : Int) = 0
    · rw [if_pos c3] at H
      have c3b0 : ((l0_3.length : Int) == 0) = true := beq_iff_eq.mpr c3
      have c3b1 : ((l0_3.length : Int) != 0) = false := bne_eq_false_iff_eq.mpr c3
      clear c3
      obtain rfl := Option.some.inj H
      go_enter Tryz.func50, Tryz.ntmps50
      go_wp2_with (first | ((with_reducible refine gate_dst (N := 1) rfl ?_); (try (refine gate_guard (by rfl) ?_; dsimp only)); refine box_event ?hg (N := 1) ?hd (cs := #[.int .i64 a0_0, .int .i64 a0_1, .string a0_2, .slice A0_3 l0_3.length c0_3]) (t := 24) ?hr ?_; (case hd => rfl); (case hg => rfl); (case hr => first | (go_simp; done) | (go_simp; rfl)); intro gb123 hg w4 hbox hb; have n0_ := Aside0.mk (below_step (by repeat (first | (with_reducible first | exact HB.out | apply below_alloc | apply pw_below_drewN | apply below_drew1) | exact HB.out)) hb); have n1_ := Aside0.mk (hbox); have n2_ := Aside0.mk ((by rw [hg]; exact (below_size (by repeat (first | (with_reducible first | exact HB.out | apply below_alloc | apply pw_below_drewN | apply below_drew1) | exact HB.out))) : w.heap.size ≤ gb123)); have n3_ := Aside0.mk ((by rw [hg]; exact (below_size (by repeat (first | (with_reducible first | exact HB.out | apply below_alloc | apply pw_below_drewN | apply below_drew1) | exact HB.out))) : w.heap.size ≤ gb123)); clear HB; have HB := n0_; have BK123 := n1_; have GW123 := n2_; have GE123 := n3_; clear n0_ n1_ n2_ n3_; clear hb hbox hg; have hcz5_0 : w4.cell? ⟨gb123, 0, none⟩ = some (.int .i64 a0_0) := (blk_cell BK123.out 0).trans rfl; have hcz5_1 : w4.cell? ⟨gb123, 1, none⟩ = some (.int .i64 a0_1) := (blk_cell BK123.out 1).trans rfl; have hcz5_2 : w4.cell? ⟨gb123, 2, none⟩ = some (.string a0_2) := (blk_cell BK123.out 2).trans rfl; have hcz5_3 : w4.cell? ⟨gb123, 3, none⟩ = some (.slice A0_3 l0_3.length c0_3) := (blk_cell BK123.out 3).trans rfl; have hfz5_0 := blk_frozen BK123.out 0; have hfz5_1 := blk_frozen BK123.out 1; have hfz5_2 := blk_frozen BK123.out 2; have hfz5_3 := blk_frozen BK123.out 3))
      go_ret
      exact ⟨by first | rfl | (simp [errW_none, errW_some] <;> rfl) | (simp [*, errW_none, errW_some] <;> rfl), by repeat (first | (with_reducible first | exact HB.out | apply below_alloc | apply pw_below_drewN | apply below_drew1 | refine below_set ?_ GE123.out) | exact HB.out)⟩
    · rw [if_neg c3] at H
      have c3b0 : ((l0_3.length : Int) == 0) = false := beq_eq_false_iff_ne.mpr c3
      have c3b1 : ((l0_3.length : Int) != 0) = true := bne_iff_ne.mpr c3
      have c3b2 : ¬ (l0_3 = []) := fun h_ => c3 (by rw [h_]; rfl)
      by_cases c6 : 0 < (l0_3.length : Int)
      · rw [if_pos c6] at H
        have c6b0 : decide (0 < (l0_3.length : Int)) = true := decide_eq_true c6
        have c6b1 : decide (0 < l0_3.length) = true := decide_eq_true (by omega)
        clear c6
        by_cases c7 : ((rd_T24 l0_3 0).f0) = 1
        · rw [if_pos c7] at H
          have c7b0 : (((rd_T24 l0_3 0).f0) == 1) = true := beq_iff_eq.mpr c7
          have c7b1 : (((rd_T24 l0_3 0).f0) != 1) = false := bne_eq_false_iff_eq.mpr c7
          clear c7
          obtain rfl := Option.some.inj H
          go_enter Tryz.func50, Tryz.ntmps50
          go_wp2_with (first | ((with_reducible refine gate_dst (N := 1) rfl ?_); (try (refine gate_guard (by rfl) ?_; dsimp only)); refine box_event ?hg (N := 1) ?hd (cs := #[.int .i64 a0_0, .int .i64 a0_1, .string a0_2, .slice A0_3 l0_3.length c0_3]) (t := 24) ?hr ?_; (case hd => rfl); (case hg => rfl); (case hr => first | (go_simp; done) | (go_simp; rfl)); intro gb123 hg w8 hbox hb; have n0_ := Aside0.mk (below_step (by repeat (first | (with_reducible first | exact HB.out | apply below_alloc | apply pw_below_drewN | apply below_drew1) | exact HB.out)) hb); have n1_ := Aside0.mk (hbox); have n2_ := Aside0.mk ((by rw [hg]; exact (below_size (by repeat (first | (with_reducible first | exact HB.out | apply below_alloc | apply pw_below_drewN | apply below_drew1) | exact HB.out))) : w.heap.size ≤ gb123)); have n3_ := Aside0.mk ((by rw [hg]; exact (below_size (by repeat (first | (with_reducible first | exact HB.out | apply below_alloc | apply pw_below_drewN | apply below_drew1) | exact HB.out))) : w.heap.size ≤ gb123)); clear HB; have HB := n0_; have BK123 := n1_; have GW123 := n2_; have GE123 := n3_; clear n0_ n1_ n2_ n3_; clear hb hbox hg; have hcz9_0 : w8.cell? ⟨gb123, 0, none⟩ = some (.int .i64 a0_0) := (blk_cell BK123.out 0).trans rfl; have hcz9_1 : w8.cell? ⟨gb123, 1, none⟩ = some (.int .i64 a0_1) := (blk_cell BK123.out 1).trans rfl; have hcz9_2 : w8.cell? ⟨gb123, 2, none⟩ = some (.string a0_2) := (blk_cell BK123.out 2).trans rfl; have hcz9_3 : w8.cell? ⟨gb123, 3, none⟩ = some (.slice A0_3 l0_3.length c0_3) := (blk_cell BK123.out 3).trans rfl; have hfz9_0 := blk_frozen BK123.out 0; have hfz9_1 := blk_frozen BK123.out 1; have hfz9_2 := blk_frozen BK123.out 2; have hfz9_3 := blk_frozen BK123.out 3; have p124 : 0 ≤ (0 : Int) := (by omega); have q124 : 0 < (l0_3.length : Int) := of_decide_eq_true (by first | (with_reducible assumption) | assumption); obtain ⟨ad124, A124_3, c124_3, e124, hx124_0, hx124_1, hx124_2, hx124_3, hl124_3, hi124_3⟩ := at_T24 HR0_3.out 0 p124 q124; cases e124; have qi124 : (0 < l0_3.length) = True := eq_true (by omega); (try rw [show ((0 : Int)).toNat = 0 from rfl] at hx124_0); (try rw [show 0 * 4 = 0 from rfl] at hx124_0); (try rw [Addr.add_zero'] at hx124_0); (try rw [show ((0 : Int)).toNat = 0 from rfl] at hx124_1); (try rw [show 0 * 4 = 0 from rfl] at hx124_1); (try rw [Addr.add_zero'] at hx124_1); (try rw [show ((0 : Int)).toNat = 0 from rfl] at hx124_2); (try rw [show 0 * 4 = 0 from rfl] at hx124_2); (try rw [Addr.add_zero'] at hx124_2); (try rw [show ((0 : Int)).toNat = 0 from rfl] at hx124_3); (try rw [show 0 * 4 = 0 from rfl] at hx124_3); (try rw [Addr.add_zero'] at hx124_3); replace hx124_0 := (HB.out.cell (World.block_lt_of_cell? w _ hx124_0)).trans hx124_0; replace hx124_1 := (HB.out.cell (World.block_lt_of_cell? w _ hx124_1)).trans hx124_1; replace hx124_2 := (HB.out.cell (World.block_lt_of_cell? w _ hx124_2)).trans hx124_2; replace hx124_3 := (HB.out.cell (World.block_lt_of_cell? w _ hx124_3)).trans hx124_3; have HR124_3 := Aside0.mk hi124_3; have HC124_3 := Aside0.mk hl124_3; clear hi124_3 hl124_3; replace p124 := eq_true p124; replace q124 := eq_true q124; have p125 : 0 ≤ (0 : Int) := (by omega); have q125 : 0 < (l0_3.length : Int) := of_decide_eq_true (by first | (with_reducible assumption) | assumption); obtain ⟨ad125, A125_3, c125_3, e125, hx125_0, hx125_1, hx125_2, hx125_3, hl125_3, hi125_3⟩ := at_T24 HR0_3.out 0 p125 q125; obtain rfl : ad124 = ad125 := (by injection e125); have qi125 : (0 < l0_3.length) = True := eq_true (by omega); (try rw [show ((0 : Int)).toNat = 0 from rfl] at hx125_0); (try rw [show 0 * 4 = 0 from rfl] at hx125_0); (try rw [Addr.add_zero'] at hx125_0); (try rw [show ((0 : Int)).toNat = 0 from rfl] at hx125_1); (try rw [show 0 * 4 = 0 from rfl] at hx125_1); (try rw [Addr.add_zero'] at hx125_1); (try rw [show ((0 : Int)).toNat = 0 from rfl] at hx125_2); (try rw [show 0 * 4 = 0 from rfl] at hx125_2); (try rw [Addr.add_zero'] at hx125_2); (try rw [show ((0 : Int)).toNat = 0 from rfl] at hx125_3); (try rw [show 0 * 4 = 0 from rfl] at hx125_3); (try rw [Addr.add_zero'] at hx125_3); replace hx125_0 := (HB.out.cell (World.block_lt_of_cell? w _ hx125_0)).trans hx125_0; replace hx125_1 := (HB.out.cell (World.block_lt_of_cell? w _ hx125_1)).trans hx125_1; replace hx125_2 := (HB.out.cell (World.block_lt_of_cell? w _ hx125_2)).trans hx125_2; replace hx125_3 := (HB.out.cell (World.block_lt_of_cell? w _ hx125_3)).trans hx125_3; have HR125_3 := Aside0.mk hi125_3; have HC125_3 := Aside0.mk hl125_3; clear hi125_3 hl125_3; replace p125 := eq_true p125; replace q125 := eq_true q125; have ea_ := Option.some.inj (hx124_3.symm.trans hx125_3); injection ea_ with ea_ en_ ec_; subst ea_; subst ec_; clear en_))
          go_ret
          exact ⟨by first | rfl | (simp [errW_none, errW_some] <;> rfl) | (simp [*, errW_none, errW_some] <;> rfl), by repeat (first | (with_reducible first | exact HB.out | apply below_alloc | apply pw_below_drewN | apply below_drew1 | refine below_set ?_ GE123.out) | exact HB.out)⟩
        · rw [if_neg c7] at H
          have c7b0 : (((rd_T24 l0_3 0).f0) == 1) = false := beq_eq_false_iff_ne.mpr c7
          have c7b1 : (((rd_T24 l0_3 0).f0) != 1) = true := bne_iff_ne.mpr c7
          obtain rfl := Option.some.inj H
          go_enter Tryz.func50, Tryz.ntmps50
          go_wp2_with (first | ((with_reducible refine gate_dst (N := 1) rfl ?_); (try (refine gate_guard (by rfl) ?_; dsimp only)); refine box_event ?hg (N := 1) ?hd (cs := #[.int .i64 a0_0, .int .i64 a0_1, .string a0_2, .slice A0_3 l0_3.length c0_3]) (t := 24) ?hr ?_; (case hd => rfl); (case hg => rfl); (case hr => first | (go_simp; done) | (go_simp; rfl)); intro gb123 hg w10 hbox hb; have n0_ := Aside0.mk (below_step (by repeat (first | (with_reducible first | exact HB.out | apply below_alloc | apply pw_below_drewN | apply below_drew1) | exact HB.out)) hb); have n1_ := Aside0.mk (hbox); have n2_ := Aside0.mk ((by rw [hg]; exact (below_size (by repeat (first | (with_reducible first | exact HB.out | apply below_alloc | apply pw_below_drewN | apply below_drew1) | exact HB.out))) : w.heap.size ≤ gb123)); have n3_ := Aside0.mk ((by rw [hg]; exact (below_size (by repeat (first | (with_reducible first | exact HB.out | apply below_alloc | apply pw_below_drewN | apply below_drew1) | exact HB.out))) : w.heap.size ≤ gb123)); clear HB; have HB := n0_; have BK123 := n1_; have GW123 := n2_; have GE123 := n3_; clear n0_ n1_ n2_ n3_; clear hb hbox hg; have hcz11_0 : w10.cell? ⟨gb123, 0, none⟩ = some (.int .i64 a0_0) := (blk_cell BK123.out 0).trans rfl; have hcz11_1 : w10.cell? ⟨gb123, 1, none⟩ = some (.int .i64 a0_1) := (blk_cell BK123.out 1).trans rfl; have hcz11_2 : w10.cell? ⟨gb123, 2, none⟩ = some (.string a0_2) := (blk_cell BK123.out 2).trans rfl; have hcz11_3 : w10.cell? ⟨gb123, 3, none⟩ = some (.slice A0_3 l0_3.length c0_3) := (blk_cell BK123.out 3).trans rfl; have hfz11_0 := blk_frozen BK123.out 0; have hfz11_1 := blk_frozen BK123.out 1; have hfz11_2 := blk_frozen BK123.out 2; have hfz11_3 := blk_frozen BK123.out 3; have p124 : 0 ≤ (0 : Int) := (by omega); have q124 : 0 < (l0_3.length : Int) := of_decide_eq_true (by first | (with_reducible assumption) | assumption); obtain ⟨ad124, A124_3, c124_3, e124, hx124_0, hx124_1, hx124_2, hx124_3, hl124_3, hi124_3⟩ := at_T24 HR0_3.out 0 p124 q124; cases e124; have qi124 : (0 < l0_3.length) = True := eq_true (by omega); (try rw [show ((0 : Int)).toNat = 0 from rfl] at hx124_0); (try rw [show 0 * 4 = 0 from rfl] at hx124_0); (try rw [Addr.add_zero'] at hx124_0); (try rw [show ((0 : Int)).toNat = 0 from rfl] at hx124_1); (try rw [show 0 * 4 = 0 from rfl] at hx124_1); (try rw [Addr.add_zero'] at hx124_1); (try rw [show ((0 : Int)).toNat = 0 from rfl] at hx124_2); (try rw [show 0 * 4 = 0 from rfl] at hx124_2); (try rw [Addr.add_zero'] at hx124_2); (try rw [show ((0 : Int)).toNat = 0 from rfl] at hx124_3); (try rw [show 0 * 4 = 0 from rfl] at hx124_3); (try rw [Addr.add_zero'] at hx124_3); replace hx124_0 := (HB.out.cell (World.block_lt_of_cell? w _ hx124_0)).trans hx124_0; replace hx124_1 := (HB.out.cell (World.block_lt_of_cell? w _ hx124_1)).trans hx124_1; replace hx124_2 := (HB.out.cell (World.block_lt_of_cell? w _ hx124_2)).trans hx124_2; replace hx124_3 := (HB.out.cell (World.block_lt_of_cell? w _ hx124_3)).trans hx124_3; have HR124_3 := Aside0.mk hi124_3; have HC124_3 := Aside0.mk hl124_3; clear hi124_3 hl124_3; replace p124 := eq_true p124; replace q124 := eq_true q124))
          go_ret
          exact ⟨by first | rfl | (simp [errW_none, errW_some] <;> rfl) | (simp [*, errW_none, errW_some] <;> rfl), by repeat (first | (with_reducible first | exact HB.out | apply below_alloc | apply pw_below_drewN | apply below_drew1 | refine below_set ?_ GE123.out) | exact HB.out)⟩
      · rw [if_neg c6] at H
        exact absurd H (by simp)
  · rw [if_neg c2] at H
    have c2b0 : (a0_0 == 3) = false := beq_eq_false_iff_ne.mpr c2
    have c2b1 : (a0_0 != 3) = true := bne_iff_ne.mpr c2
    obtain rfl := Option.some.inj H
    go_enter Tryz.func50, Tryz.ntmps50
    go_wp2_with (first | ((with_reducible refine gate_dst (N := 1) rfl ?_); (try (refine gate_guard (by rfl) ?_; dsimp only)); refine box_event ?hg (N := 1) ?hd (cs := #[.int .i64 a0_0, .int .i64 a0_1, .string a0_2, .slice A0_3 l0_3.length c0_3]) (t := 24) ?hr ?_; (case hd => rfl); (case hg => rfl); (case hr => first | (go_simp; done) | (go_simp; rfl)); intro gb123 hg w12 hbox hb; have n0_ := Aside0.mk (below_step (by repeat (first | (with_reducible first | exact HB.out | apply below_alloc | apply pw_below_drewN | apply below_drew1) | exact HB.out)) hb); have n1_ := Aside0.mk (hbox); have n2_ := Aside0.mk ((by rw [hg]; exact (below_size (by repeat (first | (with_reducible first | exact HB.out | apply below_alloc | apply pw_below_drewN | apply below_drew1) | exact HB.out))) : w.heap.size ≤ gb123)); have n3_ := Aside0.mk ((by rw [hg]; exact (below_size (by repeat (first | (with_reducible first | exact HB.out | apply below_alloc | apply pw_below_drewN | apply below_drew1) | exact HB.out))) : w.heap.size ≤ gb123)); clear HB; have HB := n0_; have BK123 := n1_; have GW123 := n2_; have GE123 := n3_; clear n0_ n1_ n2_ n3_; clear hb hbox hg; have hcz13_0 : w12.cell? ⟨gb123, 0, none⟩ = some (.int .i64 a0_0) := (blk_cell BK123.out 0).trans rfl; have hcz13_1 : w12.cell? ⟨gb123, 1, none⟩ = some (.int .i64 a0_1) := (blk_cell BK123.out 1).trans rfl; have hcz13_2 : w12.cell? ⟨gb123, 2, none⟩ = some (.string a0_2) := (blk_cell BK123.out 2).trans rfl; have hcz13_3 : w12.cell? ⟨gb123, 3, none⟩ = some (.slice A0_3 l0_3.length c0_3) := (blk_cell BK123.out 3).trans rfl; have hfz13_0 := blk_frozen BK123.out 0; have hfz13_1 := blk_frozen BK123.out 1; have hfz13_2 := blk_frozen BK123.out 2; have hfz13_3 := blk_frozen BK123.out 3))
    go_ret
    exact ⟨by first | rfl | (simp [errW_none, errW_some] <;> rfl) | (simp [*, errW_none, errW_some] <;> rfl), by repeat (first | (with_reducible first | exact HB.out | apply below_alloc | apply pw_below_drewN | apply below_drew1 | refine below_set ?_ GE123.out) | exact HB.out)⟩

end Go.Proofs.YtcjmplpfebpfpaaGreatDoor.PKindInstances
