/- Part 8 of what the law's row leans on (Na): the print's words and functions, cut to what is reached, and own texts. -/
import Derived.Sort.KeysCollected
import Derived.StringKeys
import Derived.Maps.RangeRun
import Derived.Maps.RangeWalk
import Derived.OwnWalk
import Derived.RangeFuncLeaves
import Derived.Maps.OwnIn
import Derived.Test.YtcjmplpfebpfpaaGreatDoorNa7
namespace Go.Proofs.YtcjmplpfebpfpaaGreatDoor.PKindInstances
open Go.RowKit Go.Proofs.YtcjmplpfebpfpaaGreatDoorW.PrintWords Go.Proofs.YtcjmplpfebpfpaaGreatDoorW.PrintLast Go.Proofs.YtcjmplpfebpfpaaGreatDoorW.PrintMore
attribute [local go_sem] max2_int min2_int max_two min_two max_three min_three max_four min_four   -- for this text's walks alone
set_option linter.unusedVariables false
set_option linter.unusedSimpArgs false

mutual
def plinthref01_Own.l0 : Nat → List (S24) → Int → Int → Int → ByteArray → List (S24) → Option (Int × Int × ByteArray × (List (S24)))
  | 0, _, _, _, _, _, _ => none
  | k + 1, x3, x4, x345000, x345001, x345002, x345003 => if x4 < (x345003.length : Int) then (if 0 ≤ x4 then ((plinthref01_Own.f k ((rd_T24 x345003 x4).f0) ((rd_T24 x345003 x4).f1) ((rd_T24 x345003 x4).f2) ((rd_T24 x345003 x4).f3)).bind fun bt347 => (if x3.length < 2513169434916 then (plinthref01_Own.l0 k (x3 ++ [(⟨bt347.1, bt347.2.1, bt347.2.2.1, bt347.2.2.2⟩ : S24)]) (wrap64 (x4 + 1)) x345000 x345001 x345002 x345003) else (none))) else (none)) else (some (x345000, x345001, x345002, x3))
def plinthref01_Own.f : Nat → Int → Int → ByteArray → List (S24) → Option (Int × Int × ByteArray × (List (S24)))
  | 0, _, _, _, _ => none
  | k + 1, a0_0, a0_1, a0_2, l0_3 => plinthref01_Own.l0 k ([] : List (S24)) 0 a0_0 a0_1 a0_2 l0_3
end
set_option maxHeartbeats 8000000 in
set_option maxRecDepth 100000 in
theorem plinthref01_Own.calls (k : Nat) : ∀ (a0_0 : Int) (a0_1 : Int) (a0_2 : ByteArray) (A0_3 : Option Addr) (c0_3 : Nat) (l0_3 : List (S24)) (r1 : Int) (r2 : Int) (r3 : ByteArray) (r4 : List (S24)) (w : World) (hr0_3 : Kd.C k24 w A0_3 l0_3.length l0_3) (hc0_3 : l0_3.length ≤ c0_3) (h : plinthref01_Own.f k a0_0 a0_1 a0_2 l0_3 = some (r1, r2, r3, r4)),
    Calls Tryz.prog 42 #[.agg #[.int .i64 a0_0, .int .i64 a0_1, .string a0_2, .slice A0_3 l0_3.length c0_3]] w fun e w' => ∃ v3_ : Value, e = .returned (.agg #[.int .i64 r1, .int .i64 r2, .string r3, v3_]) ∧ Kd.R k24 24 w' w.heap.size (fun _ => True) v3_ r4 ∧ Below w.heap.size w w' := by
  induction k using Nat.strongRecOn with
  | _ k ih =>
  intro a0_0 a0_1 a0_2 A0_3 c0_3 l0_3 r1 r2 r3 r4 w hr0_3 hc0_3 h
  cases k with
  | zero => exact absurd h (by simp [plinthref01_Own.f])
  | succ k =>
  simp only [plinthref01_Own.f] at h
  have hu24 := Tryz.underlying24
  have HR0_3 := Aside0.mk hr0_3
  have HC0_3 := Aside0.mk hc0_3
  clear hr0_3 hc0_3
  have HB := Aside0.mk (Below.refl w.heap.size w)
  have H : (plinthref01_Own.l0 k ([] : List (S24)) 0 a0_0 a0_1 a0_2 l0_3) = some (r1, r2, r3, r4) := h
  clear h
  have H' := Aside0.mk H
  clear H
  go_enter Tryz.func42, Tryz.ntmps42
  go_wp2_with (first | ((with_reducible refine gate_dst (N := 1) rfl ?_); refine box_event ?hg (N := 1) ?hd (cs := #[.int .i64 a0_0, .int .i64 a0_1, .string a0_2, .slice A0_3 l0_3.length c0_3]) (t := 24) ?hr ?_; (case hd => rfl); (case hg => rfl); (case hr => first | (go_simp; done) | (go_simp; rfl)); intro gb344 hg w2 hbox hb; have n0_ := Aside0.mk (below_step (by repeat (first | (with_reducible first | exact HB.out | apply below_alloc | apply pw_below_drewN | apply below_drew1) | exact HB.out)) hb); have n1_ := Aside0.mk (hbox); have n2_ := Aside0.mk ((by rw [hg]; exact (below_size (by repeat (first | (with_reducible first | exact HB.out | apply below_alloc | apply pw_below_drewN | apply below_drew1) | exact HB.out))) : w.heap.size ≤ gb344)); have n3_ := Aside0.mk ((by rw [hg]; exact (below_size (by repeat (first | (with_reducible first | exact HB.out | apply below_alloc | apply pw_below_drewN | apply below_drew1) | exact HB.out))) : w.heap.size ≤ gb344)); clear HB; have HB := n0_; have BK344 := n1_; have GW344 := n2_; have GE344 := n3_; clear n0_ n1_ n2_ n3_; clear hb hbox hg) | ((with_reducible refine gate_dst (N := 2) rfl ?_); refine box_event ?hg (N := 2) ?hd (cs := #[.int .i64 0, .int .i64 0, .string (⟨#[]⟩ : ByteArray), .slice none 0 0]) (t := 24) ?hr ?_; (case hd => rfl); (case hg => rfl); (case hr => first | (go_simp; done) | (go_simp; rfl)); intro gb345 hg w3 hbox hb; have n0_ := Aside0.mk (blk_below (g := gb344) (o := .cells #[.int .i64 a0_0, .int .i64 a0_1, .string a0_2, .slice A0_3 l0_3.length c0_3] 24 (0, 0)) (by (with_reducible repeat (first | refine blk_drewN ?_ _ | refine blk_drew ?_ | refine blk_alloc ?_ _)); exact BK344.out) hb); have n1_ := Aside0.mk (below_step (by repeat (first | (with_reducible first | exact HB.out | apply below_alloc | apply pw_below_drewN | apply below_drew1 | refine below_set ?_ GE344.out) | exact HB.out)) hb); have n2_ := Aside0.mk (hbox); have n3_ := Aside0.mk ((by rw [hg]; exact (below_size (by repeat (first | (with_reducible first | exact HB.out | apply below_alloc | apply pw_below_drewN | apply below_drew1 | refine below_set ?_ GE344.out) | exact HB.out))) : w.heap.size ≤ gb345)); have n4_ := Aside0.mk ((by rw [hg]; exact (below_size (by repeat (first | (with_reducible first | exact HB.out | apply below_alloc | apply pw_below_drewN | apply below_drew1 | refine below_set ?_ GE344.out) | exact HB.out))) : w.heap.size ≤ gb345)); have n5_ := Aside0.mk ((by rw [hg]; exact Nat.ne_of_lt (blk_lt (g := gb344) (o := .cells #[.int .i64 a0_0, .int .i64 a0_1, .string a0_2, .slice A0_3 l0_3.length c0_3] 24 (0, 0)) (by (with_reducible repeat (first | refine blk_drewN ?_ _ | refine blk_drew ?_ | refine blk_alloc ?_ _)); exact BK344.out)) : gb344 ≠ gb345)); have n6_ := Aside0.mk ((by rw [hg]; exact Nat.ne_of_gt (blk_lt (g := gb344) (o := .cells #[.int .i64 a0_0, .int .i64 a0_1, .string a0_2, .slice A0_3 l0_3.length c0_3] 24 (0, 0)) (by (with_reducible repeat (first | refine blk_drewN ?_ _ | refine blk_drew ?_ | refine blk_alloc ?_ _)); exact BK344.out)) : gb345 ≠ gb344)); clear BK344; clear HB; have BK344 := n0_; have HB := n1_; have BK345 := n2_; have GW345 := n3_; have GE345 := n4_; have NB344_345 := n5_; have NB345_344 := n6_; clear n0_ n1_ n2_ n3_ n4_ n5_ n6_; clear hb hbox hg))
  go_loopg [3, 4] k (fun kq v3 v4 w' => ∃ (x3_1 : List (S24)) (x4_1 : Int), v4 = .int .i64 x4_1 ∧ Aside0 (plinthref01_Own.l0 kq x3_1 x4_1 a0_0 a0_1 a0_2 l0_3 = some (r1, r2, r3, r4)) ∧ Aside0 (kq ≤ k) ∧ Aside0 (Kd.R k24 24 w' w.heap.size (fun k_ => k_ ≠ gb344 ∧ k_ ≠ gb345) v3 x3_1) ∧ Aside0 (w'.heap[gb344]? = some (.cells #[.int .i64 a0_0, .int .i64 a0_1, .string a0_2, (.slice A0_3 l0_3.length c0_3)] 24 (0, 0))) ∧ Aside0 (w'.heap[gb345]? = some (.cells #[.int .i64 0, .int .i64 0, .string (⟨#[]⟩ : ByteArray), (.slice none 0 0)] 24 (0, 0))) ∧ Aside0 (Below w.heap.size w w'))
  case atStart => exact ⟨(([] : List (S24))), (0), (by first | rfl | (simp; done) | (simp [*]; done)), H', ⟨Nat.le_refl _⟩, ⟨by first | exact Kd.R_nil _ _ _ _ _ | exact Kd.N_nil _ _ _ _ _ | exact Kd.V_nil _ _ _ _ _ | exact Kd.Q_nil _ _ _ _ _ | exact Kd.S_nil _ _ _ _ _⟩, ⟨by (with_reducible repeat (first | refine blk_drewN ?_ _ | refine blk_drew ?_ | refine blk_alloc ?_ _)); exact BK344.out⟩, ⟨by (with_reducible repeat (first | refine blk_drewN ?_ _ | refine blk_drew ?_ | refine blk_alloc ?_ _)); exact BK345.out⟩, ⟨by repeat (first | (with_reducible first | exact HB.out | apply below_alloc | apply pw_below_drewN | apply below_drew1 | refine below_set ?_ GE344.out | refine below_set ?_ GE345.out) | exact HB.out)⟩⟩
  case round =>
    clear H'
    try clear p2
    obtain ⟨x3_1, x4_1, rfl, HA, HK1, HO_3, BK344, BK345, HB⟩ := hrel
    cases gk with
    | zero => exact absurd HA.out (by simp [plinthref01_Own.l0])
    | succ k1 =>
      have H := HA.out
      clear HA
      simp only [plinthref01_Own.l0] at H
      by_cases c4 : x4_1 < (l0_3.length : Int)
      · rw [if_pos c4] at H
        have c4b0 : decide (x4_1 < (l0_3.length : Int)) = true := decide_eq_true c4
        clear c4
        by_cases c5 : 0 ≤ x4_1
        · rw [if_pos c5] at H
          have c5b0 : decide (0 ≤ x4_1) = true := decide_eq_true c5
          clear c5
          replace H := Option.bind_eq_some_iff.mp H
          obtain ⟨⟨t347, t348, t349, t350⟩, A60, H⟩ := H
          replace H : (if x3_1.length < 2513169434916 then (plinthref01_Own.l0 k1 (x3_1 ++ [(⟨t347, t348, t349, t350⟩ : S24)]) (wrap64 (x4_1 + 1)) a0_0 a0_1 a0_2 l0_3) else (none)) = some (r1, r2, r3, r4) := H
          have A6 := Aside0.mk A60
          clear A60
          by_cases c7 : x3_1.length < 2513169434916
          · rw [if_pos c7] at H
            have LMc7 := Aside0.mk c7
            clear c7
            obtain ⟨y353, hy353⟩ : ∃ y_ : List (S24), y_ = (x3_1 ++ [(⟨t347, t348, t349, t350⟩ : S24)]) := ⟨_, rfl⟩
            replace H : (plinthref01_Own.l0 k1 y353 (wrap64 (x4_1 + 1)) a0_0 a0_1 a0_2 l0_3) = some (r1, r2, r3, r4) := by first | (rw [hy353]; with_reducible exact H) | (have H2_ := (Option.bind_some _ _).symm.trans H; rw [hy353]; with_reducible exact H2_) | (have H2_ := (Option.bind_some _ _).symm.trans H; with_reducible exact H2_) | with_reducible exact H | (rw [hy353]; exact H) | exact H
            have Ny353 := Aside0.mk hy353
            clear hy353
            have H' := Aside0.mk H
            clear H
            have hnb8 := NB344_345.out
            have hnc8 := NB345_344.out
            have hcz9_0 : wr.cell? ⟨gb344, 0, none⟩ = some (.int .i64 a0_0) := (blk_cell BK344.out 0).trans rfl
            have hcz9_1 : wr.cell? ⟨gb344, 1, none⟩ = some (.int .i64 a0_1) := (blk_cell BK344.out 1).trans rfl
            have hcz9_2 : wr.cell? ⟨gb344, 2, none⟩ = some (.string a0_2) := (blk_cell BK344.out 2).trans rfl
            have hcz9_3 : wr.cell? ⟨gb344, 3, none⟩ = some (.slice A0_3 l0_3.length c0_3) := (blk_cell BK344.out 3).trans rfl
            have hfz9_0 := blk_frozen BK344.out 0
            have hfz9_1 := blk_frozen BK344.out 1
            have hfz9_2 := blk_frozen BK344.out 2
            have hfz9_3 := blk_frozen BK344.out 3
            have p346 : 0 ≤ (x4_1 : Int) := of_decide_eq_true (by first | (with_reducible assumption) | assumption)
            have q346 : x4_1 < (l0_3.length : Int) := of_decide_eq_true (by first | (with_reducible assumption) | assumption)
            obtain ⟨ad346, A346_3, c346_3, e346, hx346_0, hx346_1, hx346_2, hx346_3, hl346_3, hi346_3⟩ := at_T24 HR0_3.out x4_1 p346 q346
            cases e346
            replace hx346_0 := (HB.out.cell (World.block_lt_of_cell? w _ hx346_0)).trans hx346_0
            replace hx346_1 := (HB.out.cell (World.block_lt_of_cell? w _ hx346_1)).trans hx346_1
            replace hx346_2 := (HB.out.cell (World.block_lt_of_cell? w _ hx346_2)).trans hx346_2
            replace hx346_3 := (HB.out.cell (World.block_lt_of_cell? w _ hx346_3)).trans hx346_3
            have HR346_3 := Aside0.mk hi346_3
            have HC346_3 := Aside0.mk hl346_3
            clear hi346_3 hl346_3
            replace p346 := eq_true p346
            replace q346 := eq_true q346
            go_wp2_with (first | ((with_reducible refine gate_callee (f := 42) rfl ?_); refine goesL_ (some 18) rfl rfl Tryz.func42 (by kernel_rfl) rfl #[.agg #[.int .i64 ((rd_T24 l0_3 x4_1).f0), .int .i64 ((rd_T24 l0_3 x4_1).f1), .string ((rd_T24 l0_3 x4_1).f2), .slice A346_3 ((rd_T24 l0_3 x4_1).f3).length c346_3]] rfl (by (try simp only [List.map_toArray, List.map_cons, List.map_nil]); first | done | rfl | (simp only [List.length_drop, List.length_take]; rfl)) ?_; (with_reducible refine (ih k1 (by have := HK1.out; omega) ((rd_T24 l0_3 x4_1).f0) ((rd_T24 l0_3 x4_1).f1) ((rd_T24 l0_3 x4_1).f2) _ _ ((rd_T24 l0_3 x4_1).f3) t347 t348 t349 t350 _ ?side1 ?side2 A6.out).mono ?_); (case side1 => repeat (first | exact (Kd.C_below HR346_3.out HB.out) | (with_reducible refine Kd.C_alloc ?_ _) | (with_reducible refine Kd.C_drewN ?_ _) | (with_reducible refine Kd.C_drew ?_))); (case side2 => exact HC346_3.out); rintro e w10 ⟨v351, rfl, ho0, hb⟩; refine ⟨_, rfl, ?_⟩; have n0_ := Aside0.mk (Kd.R_elder' (by (with_reducible repeat (first | apply Kd.R_alloc | apply Kd.R_drewN | apply Kd.R_drew)); exact HO_3.out) (Kd.R_base ho0) hb); have n1_ := Aside0.mk (Kd.R_lower (Kd.R_newB (Kd.R_newB (Kd.R_new' ho0 (Kd.R_lt (by (with_reducible repeat (first | apply Kd.R_alloc | apply Kd.R_drewN | apply Kd.R_drew)); exact HO_3.out))) (g := gb344) (o := .cells #[.int .i64 a0_0, .int .i64 a0_1, .string a0_2, .slice (some ad346) l0_3.length c0_3] 24 (0, 0)) (by (with_reducible repeat (first | refine blk_drewN ?_ _ | refine blk_drew ?_ | refine blk_alloc ?_ _)); exact BK344.out)) (g := gb345) (o := .cells #[.int .i64 0, .int .i64 0, .string (⟨#[]⟩ : ByteArray), .slice none 0 0] 24 (0, 0)) (by (with_reducible repeat (first | refine blk_drewN ?_ _ | refine blk_drew ?_ | refine blk_alloc ?_ _)); exact BK345.out)) (below_size (by repeat (first | (with_reducible first | exact HB.out | apply below_alloc | apply pw_below_drewN | apply below_drew1 | refine below_set ?_ GE344.out | refine below_set ?_ GE345.out) | exact HB.out)))); have n2_ := Aside0.mk (blk_below (g := gb344) (o := .cells #[.int .i64 a0_0, .int .i64 a0_1, .string a0_2, .slice (some ad346) l0_3.length c0_3] 24 (0, 0)) (by (with_reducible repeat (first | refine blk_drewN ?_ _ | refine blk_drew ?_ | refine blk_alloc ?_ _)); exact BK344.out) hb); have n3_ := Aside0.mk (blk_below (g := gb345) (o := .cells #[.int .i64 0, .int .i64 0, .string (⟨#[]⟩ : ByteArray), .slice none 0 0] 24 (0, 0)) (by (with_reducible repeat (first | refine blk_drewN ?_ _ | refine blk_drew ?_ | refine blk_alloc ?_ _)); exact BK345.out) hb); have n4_ := Aside0.mk (below_step (by repeat (first | (with_reducible first | exact HB.out | apply below_alloc | apply pw_below_drewN | apply below_drew1 | refine below_set ?_ GE344.out | refine below_set ?_ GE345.out) | exact HB.out)) hb); clear HO_3; clear BK344; clear BK345; clear HB; have HO_3 := n0_; have HO352 := n1_; have BK344 := n2_; have BK345 := n3_; have HB := n4_; clear n0_ n1_ n2_ n3_ n4_; (try clear hb); (try clear hb2); (try clear hk); (try clear hi); (try clear ho0); obtain ⟨Ao12, co12, eo12⟩ := Kd.R_slice HO352.out; subst eo12) | ((with_reducible refine gate_builtin (b := .append) (xs := #[.tmp 12, .tmp 19]) rfl ?_); at_builtin; refine Kd.R_append k24 (w0 := w) w.heap.size rfl (.tmp 12) (.tmp 19) 22 24 (.agg #[(.int .i64 0), (.int .i64 0), (.string ⟨#[]⟩), (.slice none 0 0)]) 56 rfl Tryz.underlying22 info24 rfl (by decide) (by omega) u3 x3_1 (⟨t347, t348, t349, t350⟩ : S24) [.int .i64 t347, .int .i64 t348, .string t349, .slice Ao12 t350.length co12] (fun k_ => k_ ≠ gb344 ∧ k_ ≠ gb345) (fun k_ => ((fun k_ => k_ ≠ gb344 ∧ k_ ≠ gb345)) k_ ∧ some k_ ≠ (u3 : Value).ownBlock) rfl rfl ?aP (fun _ hk => hk) ?aF ?aO ?aB ?aS ?aL ?_; (case aP => exact k24_mkM _ _ _ (⟨t347, t348, t349, t350⟩ : S24) (Kd.R_mono (HO352.out) (fun k_ hk => ⟨⟨hk.1.2, hk.2⟩, hk.1.1.2⟩))); (case aB => exact (by repeat (first | (with_reducible first | exact HB.out | apply below_alloc | apply pw_below_drewN | apply below_drew1 | refine below_set ?_ GE344.out | refine below_set ?_ GE345.out) | exact HB.out))); (case aF => exact (fun k_ hk => ⟨Kd.freshB (g := gb344) (o := .cells #[.int .i64 a0_0, .int .i64 a0_1, .string a0_2, .slice (some ad346) l0_3.length c0_3] 24 (0, 0)) (by (with_reducible repeat (first | refine blk_drewN ?_ _ | refine blk_drew ?_ | refine blk_alloc ?_ _)); exact BK344.out) k_ hk, Kd.freshB (g := gb345) (o := .cells #[.int .i64 0, .int .i64 0, .string (⟨#[]⟩ : ByteArray), .slice none 0 0] 24 (0, 0)) (by (with_reducible repeat (first | refine blk_drewN ?_ _ | refine blk_drew ?_ | refine blk_alloc ?_ _)); exact BK345.out) k_ hk⟩)); (case aO => exact (by (with_reducible repeat (first | apply Kd.R_alloc | apply Kd.R_drewN | apply Kd.R_drew)); exact Kd.R_mono HO_3.out (fun _ hk => ⟨hk.1.1, hk.1.2⟩))); (case aS => exact (below_size (by repeat (first | (with_reducible first | exact HB.out | apply below_alloc | apply pw_below_drewN | apply below_drew1 | refine below_set ?_ GE344.out | refine below_set ?_ GE345.out) | exact HB.out)))); (case aL => have := LMc7.out; omega); intro v354 w11 ho hb hg hat; rw [← Ny353.out] at ho; have n0_ := Aside0.mk (blk_grown (g := gb344) (o := .cells #[.int .i64 a0_0, .int .i64 a0_1, .string a0_2, .slice (some ad346) l0_3.length c0_3] 24 (0, 0)) (by (with_reducible repeat (first | refine blk_drewN ?_ _ | refine blk_drew ?_ | refine blk_alloc ?_ _)); exact BK344.out) hg (Kd.R_away HO_3.out (fun _ hk => hk.1.1))); have n1_ := Aside0.mk (blk_grown (g := gb345) (o := .cells #[.int .i64 0, .int .i64 0, .string (⟨#[]⟩ : ByteArray), .slice none 0 0] 24 (0, 0)) (by (with_reducible repeat (first | refine blk_drewN ?_ _ | refine blk_drew ?_ | refine blk_alloc ?_ _)); exact BK345.out) hg (Kd.R_away HO_3.out (fun _ hk => hk.1.2))); have n2_ := Aside0.mk (hb); have n3_ := Aside0.mk (ho); clear BK344; clear BK345; clear HB; clear HO_3; clear HO352; have BK344 := n0_; have BK345 := n1_; have HB := n2_; have HO355 := n3_; clear n0_ n1_ n2_ n3_; clear ho hb hg hat))
            go_roundg k1
            case measure => have := HK1.out; omega
            case rel => exact ⟨(y353), (wrap64 (x4_1 + 1)), (by first | rfl | (simp; done) | (simp [*]; done)), H', ⟨by have := HK1.out; omega⟩, ⟨by (with_reducible repeat (first | apply Kd.R_alloc | apply Kd.R_drewN | apply Kd.R_drew)); exact HO355.out⟩, ⟨by (with_reducible repeat (first | refine blk_drewN ?_ _ | refine blk_drew ?_ | refine blk_alloc ?_ _)); exact BK344.out⟩, ⟨by (with_reducible repeat (first | refine blk_drewN ?_ _ | refine blk_drew ?_ | refine blk_alloc ?_ _)); exact BK345.out⟩, ⟨by repeat (first | (with_reducible first | exact HB.out | apply below_alloc | apply pw_below_drewN | apply below_drew1 | refine below_set ?_ GE344.out | refine below_set ?_ GE345.out) | exact HB.out)⟩⟩
          · rw [if_neg c7] at H
            exact absurd H (by simp)
        · rw [if_neg c5] at H
          exact absurd H (by simp)
      · rw [if_neg c4] at H
        have c4b0 : decide (x4_1 < (l0_3.length : Int)) = false := decide_eq_false c4
        clear c4
        simp only [Option.some.injEq, Prod.mk.injEq] at H
        obtain ⟨rfl, rfl, rfl, rfl⟩ := H
        have hnb13 := NB344_345.out
        have hnc13 := NB345_344.out
        have hcz14_0 : wr.cell? ⟨gb344, 0, none⟩ = some (.int .i64 a0_0) := (blk_cell BK344.out 0).trans rfl
        have hcz14_1 : wr.cell? ⟨gb344, 1, none⟩ = some (.int .i64 a0_1) := (blk_cell BK344.out 1).trans rfl
        have hcz14_2 : wr.cell? ⟨gb344, 2, none⟩ = some (.string a0_2) := (blk_cell BK344.out 2).trans rfl
        have hcz14_3 : wr.cell? ⟨gb344, 3, none⟩ = some (.slice A0_3 l0_3.length c0_3) := (blk_cell BK344.out 3).trans rfl
        have hfz14_0 := blk_frozen BK344.out 0
        have hfz14_1 := blk_frozen BK344.out 1
        have hfz14_2 := blk_frozen BK344.out 2
        have hfz14_3 := blk_frozen BK344.out 3
        obtain ⟨Ao15, co15, eo15⟩ := Kd.R_slice HO_3.out
        subst eo15
        have hcz16_0 : wr.cell? ⟨gb345, 0, none⟩ = some (.int .i64 0) := (blk_cell BK345.out 0).trans rfl
        have hcz16_1 : wr.cell? ⟨gb345, 1, none⟩ = some (.int .i64 0) := (blk_cell BK345.out 1).trans rfl
        have hcz16_2 : wr.cell? ⟨gb345, 2, none⟩ = some (.string (⟨#[]⟩ : ByteArray)) := (blk_cell BK345.out 2).trans rfl
        have hcz16_3 : wr.cell? ⟨gb345, 3, none⟩ = some (.slice none 0 0) := (blk_cell BK345.out 3).trans rfl
        have hfz16_0 := blk_frozen BK345.out 0
        have hfz16_1 := blk_frozen BK345.out 1
        have hfz16_2 := blk_frozen BK345.out 2
        have hfz16_3 := blk_frozen BK345.out 3
        go_wp2
        refine bodyPost_ret (results_cell_row rfl _ _ gb345 24 #[.int .i64 a0_0, .int .i64 a0_1, .string a0_2, .slice Ao15 x3_1.length co15] (0, 0) _ rfl (by (with_reducible repeat (first | refine blk_drewN ?_ _ | refine blk_drew ?_ | refine blk_alloc ?_ _)); refine blk_put (cs := #[.int .i64 a0_0, .int .i64 a0_1, .string a0_2, .slice none 0 0]) ?_ 3 _ rfl; (with_reducible repeat (first | refine blk_drewN ?_ _ | refine blk_drew ?_ | refine blk_alloc ?_ _)); refine blk_put (cs := #[.int .i64 a0_0, .int .i64 a0_1, .string (⟨#[]⟩ : ByteArray), .slice none 0 0]) ?_ 2 _ rfl; (with_reducible repeat (first | refine blk_drewN ?_ _ | refine blk_drew ?_ | refine blk_alloc ?_ _)); refine blk_put (cs := #[.int .i64 a0_0, .int .i64 0, .string (⟨#[]⟩ : ByteArray), .slice none 0 0]) ?_ 1 _ rfl; (with_reducible repeat (first | refine blk_drewN ?_ _ | refine blk_drew ?_ | refine blk_alloc ?_ _)); refine blk_put (cs := #[.int .i64 0, .int .i64 0, .string (⟨#[]⟩ : ByteArray), .slice none 0 0]) ?_ 0 _ rfl; (with_reducible repeat (first | refine blk_drewN ?_ _ | refine blk_drew ?_ | refine blk_alloc ?_ _)); refine blk_far ?_ NB345_344.out _; (with_reducible repeat (first | refine blk_drewN ?_ _ | refine blk_drew ?_ | refine blk_alloc ?_ _)); exact BK345.out) Tryz.underlying24 rfl (by kernel_rfl)) rfl ?_
        exact ⟨_, by first | rfl | (simp [errW_none, errW_some] <;> rfl) | (simp [*, errW_none, errW_some] <;> rfl), by (with_reducible repeat (first | apply Kd.R_alloc | apply Kd.R_drewN | apply Kd.R_drew)); exact Kd.R_mono (Kd.R_far (p := ⟨gb345, 3, none⟩) (Kd.R_far (p := ⟨gb345, 2, none⟩) (Kd.R_far (p := ⟨gb345, 1, none⟩) (Kd.R_far (p := ⟨gb345, 0, none⟩) (Kd.R_far (p := ⟨gb344, 3, none⟩) (Kd.R_mono (Kd.R_mono HO_3.out (fun k_ hk => (⟨hk, hk.1⟩ : _ ∧ k_ ≠ gb344))) (fun k_ hk => (⟨hk, hk.1.2⟩ : _ ∧ k_ ≠ gb345))) (fun _ hk => hk.1.2) (.slice Ao15 x3_1.length co15)) (fun _ hk => hk.2) (.int .i64 a0_0)) (fun _ hk => hk.2) (.int .i64 a0_1)) (fun _ hk => hk.2) (.string a0_2)) (fun _ hk => hk.2) (.slice Ao15 x3_1.length co15)) (fun _ hk => trivial), by repeat (first | (with_reducible first | exact HB.out | apply below_alloc | apply pw_below_drewN | apply below_drew1 | refine below_set ?_ GE344.out | refine below_set ?_ GE345.out) | exact HB.out)⟩

end Go.Proofs.YtcjmplpfebpfpaaGreatDoor.PKindInstances

namespace Go.Proofs.YtcjmplpfebpfpaaGreatDoor
open Go.RowKit Go.Proofs Go.Proofs.YtcjmplpfebpfpaaGreatDoorW.PrintWords Go.Proofs.YtcjmplpfebpfpaaGreatDoorW.PrintLast Go.Proofs.YtcjmplpfebpfpaaGreatDoorW.PrintMore PKindInstances
set_option linter.unusedVariables false
set_option linter.unusedSimpArgs false

theorem own_l0 (a n : Int) (s : ByteArray) (l : List S24) (hl : l.length < 9000000) (hq : ∀ x ∈ l, Ev (fun k => plinthref01_Own.f k x.f0 x.f1 x.f2 x.f3) (x.f0, x.f1, x.f2, x.f3)) (d : Nat) :
    ∀ (i : Nat), d + i = l.length → Ev (fun k => plinthref01_Own.l0 k (l.take i) (i : Int) a n s l) (a, n, s, l) := by
  induction d with
  | zero =>
    intro i h
    refine ⟨1, fun k hk => ?_⟩
    obtain ⟨k, rfl⟩ : ∃ m, k = m + 1 := ⟨k - 1, by omega⟩
    simp only [plinthref01_Own.l0]
    rw [if_neg (by omega), List.take_of_length_le (by omega)]
  | succ d ih =>
    intro i h
    obtain ⟨x, hx⟩ : ∃ x, l[i]? = some x := ⟨l[i]'(by omega), List.getElem?_eq_getElem _⟩
    obtain ⟨K1, h1⟩ := hq x (List.mem_of_getElem? hx)
    obtain ⟨K2, h2⟩ := ih (i + 1) (by omega)
    refine ⟨max K1 K2 + 1, fun k hk => ?_⟩
    obtain ⟨k, rfl⟩ : ∃ m, k = m + 1 := ⟨k - 1, by omega⟩
    have h1' := h1 k (by omega)
    have h2' := h2 k (by omega)
    simp only [] at h1' h2'
    simp only [plinthref01_Own.l0]
    rw [if_pos (by omega), if_pos (by omega), rd_at hx, h1', Option.bind_some, if_pos (by rw [List.length_take]; omega), wr64 (by omega) (by omega), show (i : Int) + 1 = ((i + 1 : Nat) : Int) from by omega]
    rw [List.take_add_one, hx, show (some x).toList = [x] from rfl] at h2'
    cases x
    exact h2'
mutual
theorem own_ev : ∀ x : S24, wid x < 9000000 → Ev (fun k => plinthref01_Own.f k x.f0 x.f1 x.f2 x.f3) (x.f0, x.f1, x.f2, x.f3)
  | ⟨a, n, s, l⟩, h => by
    have hl := own_evs l
    have h1 := wid_kids ⟨a, n, s, l⟩
    simp only [] at h1
    have h2 := wids_len l
    obtain ⟨K, hK⟩ := own_l0 a n s l (by omega) (fun x hx => hl x hx (by have := wid_mem hx; omega)) l.length 0 (by omega)
    refine ⟨K + 1, fun k hk => ?_⟩
    obtain ⟨k, rfl⟩ : ∃ m, k = m + 1 := ⟨k - 1, by omega⟩
    have := hK k (by omega)
    simp only [List.take_zero] at this
    simp only [plinthref01_Own.f]
    exact this
theorem own_evs : ∀ (l : List S24), ∀ x ∈ l, wid x < 9000000 → Ev (fun k => plinthref01_Own.f k x.f0 x.f1 x.f2 x.f3) (x.f0, x.f1, x.f2, x.f3)
  | [], x, h => absurd h (List.not_mem_nil)
  | y :: l, x, h => by
    rcases List.mem_cons.1 h with h | h
    · rw [h]; exact own_ev y
    · exact own_evs l x h
end
end Go.Proofs.YtcjmplpfebpfpaaGreatDoor

namespace Go.Proofs.YtcjmplpfebpfpaaGreatDoor
open Go.RowKit Go.Proofs Go.MapKept Go.WideElems Go.Maps Go.Proofs.YtcjmplpfebpfpaaGreatDoorW.PrintWords Go.Proofs.YtcjmplpfebpfpaaGreatDoorW.PrintLast Go.Proofs.YtcjmplpfebpfpaaGreatDoorW.PrintMore PKindInstances
set_option linter.unusedVariables false
set_option linter.unusedSimpArgs false

end Go.Proofs.YtcjmplpfebpfpaaGreatDoor

namespace Go.Proofs.YtcjmplpfebpfpaaGreatDoor
open Go.RowKit Go.Proofs Go.Proofs.YtcjmplpfebpfpaaGreatDoorW.PrintWords Go.Proofs.YtcjmplpfebpfpaaGreatDoorW.PrintLast Go.Proofs.YtcjmplpfebpfpaaGreatDoorW.PrintMore PKindInstances
set_option linter.unusedVariables false
set_option linter.unusedSimpArgs false

end Go.Proofs.YtcjmplpfebpfpaaGreatDoor

namespace Go.Proofs.YtcjmplpfebpfpaaGreatDoor
open Go.RowKit Go.Proofs Go.Proofs.YtcjmplpfebpfpaaGreatDoorW.PrintWords Go.Proofs.YtcjmplpfebpfpaaGreatDoorW.PrintLast Go.Proofs.YtcjmplpfebpfpaaGreatDoorW.PrintMore PKindInstances
set_option linter.unusedVariables false
set_option linter.unusedSimpArgs false

end Go.Proofs.YtcjmplpfebpfpaaGreatDoor

namespace Go.Proofs.YtcjmplpfebpfpaaGreatDoor
open Go.RowKit Go.Proofs Go.Proofs.YtcjmplpfebpfpaaGreatDoorW.PrintWords Go.Proofs.YtcjmplpfebpfpaaGreatDoorW.PrintLast Go.Proofs.YtcjmplpfebpfpaaGreatDoorW.PrintMore PKindInstances
set_option linter.unusedVariables false
set_option linter.unusedSimpArgs false

end Go.Proofs.YtcjmplpfebpfpaaGreatDoor

namespace Go.Proofs.YtcjmplpfebpfpaaGreatDoor
open Go.RowKit Go.Proofs Go.Proofs.YtcjmplpfebpfpaaGreatDoorW.PrintWords Go.Proofs.YtcjmplpfebpfpaaGreatDoorW.PrintLast Go.Proofs.YtcjmplpfebpfpaaGreatDoorW.PrintMore PKindInstances
set_option linter.unusedVariables false
set_option linter.unusedSimpArgs false

theorem info51 : (Tryz.prog.info? 51).map (fun i => (i.zero, i.size, i.bytes)) = some (some (.agg #[(.string ⟨#[]⟩), (.int .i64 0), (.int .i64 0), (.string ⟨#[]⟩), (.slice none 0 0)]), 5, 72) := by kernel_rfl
end Go.Proofs.YtcjmplpfebpfpaaGreatDoor

namespace Go.Proofs.YtcjmplpfebpfpaaGreatDoor
open Go.RowKit Go.Proofs Go.Proofs.YtcjmplpfebpfpaaGreatDoorW.PrintWords Go.Proofs.YtcjmplpfebpfpaaGreatDoorW.PrintLast Go.Proofs.YtcjmplpfebpfpaaGreatDoorW.PrintMore PKindInstances
set_option linter.unusedVariables false
set_option linter.unusedSimpArgs false

theorem less_self (s : ByteArray) : Op.bytesLess s.toList s.toList = false := lessB_irrefl s
mutual
theorem cmp_self : ∀ x : S24, cmpM x x = 0
  | ⟨a, n, s, l⟩ => by
    simp only [cmpM]
    rw [if_neg (by simp), cmps_self l]
    split
    · simp [Lib.compareInt]
    · split
      · simp [cmpStr, less_self]
      · simp
theorem cmps_self : ∀ l : List S24, cmpL l l = 0
  | [] => rfl
  | x :: l => by simp only [cmpL]; rw [cmp_self x, cmps_self l]; simp
end
theorem eq_self (x : S24) : eqM x x = true := by unfold eqM; rw [cmp_self]; rfl
theorem same_self : ∀ l : List S71, sameM l l = true
  | [] => rfl
  | x :: l => by simp only [sameM, same_self l, eq_self]; simp
end Go.Proofs.YtcjmplpfebpfpaaGreatDoor

namespace Go.Proofs.YtcjmplpfebpfpaaGreatDoor
open Go.RowKit Go.Proofs Go.Proofs.YtcjmplpfebpfpaaGreatDoorW.PrintWords Go.Proofs.YtcjmplpfebpfpaaGreatDoorW.PrintLast Go.Proofs.YtcjmplpfebpfpaaGreatDoorW.PrintMore PKindInstances
set_option linter.unusedVariables false
set_option linter.unusedSimpArgs false

theorem eq_list {a n m : Int} {s t : ByteArray} {l k : List S24} (ha : a = 3) (h : cmpL l k = 0) : eqM ⟨a, n, s, l⟩ ⟨a, m, t, k⟩ = true := by
  subst ha
  simp [eqM, cmpM, h]

end Go.Proofs.YtcjmplpfebpfpaaGreatDoor

namespace Go.Proofs.YtcjmplpfebpfpaaGreatDoor
open Go.RowKit Go.Proofs Go.Proofs.YtcjmplpfebpfpaaGreatDoorW.PrintWords Go.Proofs.YtcjmplpfebpfpaaGreatDoorW.PrintLast Go.Proofs.YtcjmplpfebpfpaaGreatDoorW.PrintMore PKindInstances
set_option linter.unusedVariables false
set_option linter.unusedSimpArgs false

/-- c is f and then g. -/
def Comp (c f g : ByteArray → Option S24) : Prop := ∀ s, match f s with
  | some z => c s = some (appM g z false) ∨ (c s = none ∧ (appM g z false).f0 = 1 ∧ (appM g z false).f2 = s)
  | none => match g s with
    | some z => c s = some z ∨ (c s = none ∧ z.f0 = 1 ∧ z.f2 = s)
    | none => c s = none
theorem eq_words {x y : S24} (hx : x.f0 = 1) (hy : y.f0 = 1) (h : x.f2 = y.f2) : eqM x y = true := by
  obtain ⟨a, n, s, l⟩ := x
  obtain ⟨b, m, t, k⟩ := y
  obtain rfl : a = 1 := hx
  obtain rfl : b = 1 := hy
  obtain rfl : s = t := h
  have := cmp_self ⟨1, n, s, l⟩
  simp only [cmpM] at this
  simpa [eqM, cmpM] using this
theorem comp_word {c f g : ByteArray → Option S24} (hc : Comp c f g) (x : S24) (h1 : x.f0 = 1) : eqM (appM c x false) (appM g (appM f x false) false) = true := by
  rw [app_word c x h1, app_word f x h1]
  have h := hc x.f2
  cases hf : f x.f2 with
  | some z =>
    rw [hf] at h
    rw [Option.getD_some]
    rcases h with h | ⟨h, h2, h3⟩
    · rw [h, Option.getD_some, eq_self]
    · rw [h, Option.getD_none]
      exact eq_words h1 h2 h3.symm
  | none =>
    rw [hf] at h
    rw [Option.getD_none, app_word g x h1]
    cases hg : g x.f2 with
    | some z =>
      simp only [hg] at h
      rcases h with h | ⟨h, h2, h3⟩
      · rw [h, Option.getD_some, eq_self]
      · rw [h, Option.getD_none, Option.getD_some]
        exact eq_words h1 h2 h3.symm
    | none =>
      simp only [hg] at h
      rw [h, eq_self]
mutual
theorem comp_form {c f g : ByteArray → Option S24} (hc : Comp c f g) : ∀ (x : S24) (b : Bool), (b = true → x.f0 = 3) → lstM x = true → eqM (appM c x b) (appM g (appM f x b) b) = true
  | ⟨a, n, s, l⟩, b, hb, hl => by
    by_cases h1 : a = 1
    · subst h1
      have hb0 : b = false := by cases b; rfl; exact absurd (hb rfl) (show ¬ (1 : Int) = 3 by decide)
      subst hb0
      exact comp_word hc ⟨1, n, s, l⟩ rfl
    · by_cases h3 : a = 3
      · subst h3
        have e : ∀ (g : ByteArray → Option S24) (l : List S24), appM g ⟨3, n, s, l⟩ b = ⟨3, n, s, appL g (!b && isFunW (headL l)) b 0 l⟩ := fun g l => by simp [appM]
        rw [e, e, e]
        have hfn : (!b && isFunW (headL (appL f (!b && isFunW (headL l)) b 0 l))) = (!b && isFunW (headL l)) := by
          cases b with
          | true => rfl
          | false => simp [app_head]
        rw [hfn]
        refine eq_list rfl ?_
        have hkid : (!b && isFunW (headL l)) = true → ∀ (j : Nat) (k : S24), l[j]? = some k → 0 + j = 1 → k.f0 = 3 := by
          intro h
          simp only [Bool.and_eq_true] at h
          exact fun_kid hl rfl h.2
        have hll : lstL l = true := by simp only [lstM, Bool.and_eq_true] at hl; exact hl.2
        exact comp_list hc l _ b 0 hkid hll
      · have e : ∀ g, appM g ⟨a, n, s, l⟩ b = ⟨a, n, s, l⟩ := fun g => by simp [appM, h1, h3]
        rw [e, e, e, eq_self]
theorem comp_list {c f g : ByteArray → Option S24} (hc : Comp c f g) : ∀ (l : List S24) (fn bare : Bool) (i : Nat), (fn = true → ∀ (j : Nat) (k : S24), l[j]? = some k → i + j = 1 → k.f0 = 3) → lstL l = true →
    cmpL (appL c fn bare i l) (appL g fn bare i (appL f fn bare i l)) = 0
  | [], fn, bare, i, hf, hl => by simp [appL, cmpL]
  | k :: l, fn, bare, i, hf, hl => by
    simp only [lstL, Bool.and_eq_true] at hl
    have hf2 : fn = true → ∀ (j : Nat) (k : S24), l[j]? = some k → i + 1 + j = 1 → k.f0 = 3 := fun h j k hk hj => hf h (j + 1) k (by simpa using hk) (by omega)
    have ih := comp_list hc l fn bare (i + 1) hf2 hl.2
    by_cases h0 : i = 0 ∧ bare = false ∧ k.f0 = 1
    · simp only [appL, if_pos h0, cmpL]
      rw [cmp_self, if_neg (by simp)]
      exact ih
    · obtain ⟨d, hd⟩ : ∃ d, d = (fn && decide (i = 1) && (k.f0 == 3)) := ⟨_, rfl⟩
      have hd3 : d = true → k.f0 = 3 := by
        intro h
        rw [hd] at h
        simp only [Bool.and_eq_true, beq_iff_eq] at h
        exact h.2
      have hne : ¬ (i = 0 ∧ bare = false ∧ (appM f k d).f0 = 1) := by
        rintro ⟨h1, h2, h3⟩
        by_cases hk : k.f0 = 1
        · exact h0 ⟨h1, h2, hk⟩
        · rw [app_kind f k d hk] at h3
          exact hk h3
      have hflag : (fn && decide (i = 1) && ((appM f k d).f0 == 3)) = d := by
        cases hfd : fn && decide (i = 1) with
        | false => rw [hd, hfd]; rfl
        | true =>
          simp only [Bool.and_eq_true, decide_eq_true_eq] at hfd
          have h3 := hf hfd.1 0 k rfl (by omega)
          have h4 := app_kind f k d (by rw [h3]; decide)
          rw [h4, hd, hfd.1, hfd.2, h3]
          rfl
      simp only [appL, if_neg h0, ← hd, if_neg hne, hflag, cmpL]
      have h1 := comp_form hc k d hd3 hl.1
      simp only [eqM, beq_iff_eq] at h1
      rw [h1, if_neg (by simp)]
      exact ih
end
end Go.Proofs.YtcjmplpfebpfpaaGreatDoor

namespace Go.Proofs.YtcjmplpfebpfpaaGreatDoor
open Go.RowKit Go.Shelf Go.Proofs Go.Proofs.YtcjmplpfebpfpaaGreatDoorW.PrintWords Go.Proofs.YtcjmplpfebpfpaaGreatDoorW.PrintLast Go.Proofs.YtcjmplpfebpfpaaGreatDoorW.PrintMore PKindInstances
set_option linter.unusedVariables false
set_option linter.unusedSimpArgs false

theorem law_updateIn {α : Type} [DecidableEq α] {F : Fence} {nF : Nat} {P : Program} {ops : Array Oper} {rest : List Oper} {o : Oper} {a : Act} {Q : Exit → Act → World → Prop}
    {d : TypeDesc} {kenc : α → Value} (K : KeyEnc d kenc) {W : World} (hgd : o.guard = none) (x i y : Operand) {T kt et : TypeId} (ho : o.op = .mapUpdate T x i y)
    (hT : P.underlying T = some (.map kt et)) (hk : P.underlying kt = some d) {b : Nat} {m : List (α × Value)} (hm : MapAt W b (kvs kenc m)) (k : α) (v : Value)
    (hx : a.eval x = .map (some b)) (hi : a.eval i = kenc k) (hy : a.eval y = v)
    (h : ∀ w1, MapAt w1 b (kvs kenc (putM m k v)) → W.grownBy w1 (some b) → wpListIn F nF P ops Q rest (a.put o.dst undef) w1) : wpListIn F nF P ops Q (o :: rest) a W := by
  obtain ⟨w1, hrun, h1, h2⟩ := run_update_at K hT hk hm k v
  refine wpListIn_plain hgd fun K' hK' => ?_
  unfold Oper.wpIn
  refine ⟨by simp [Oper.about, ho], ?_⟩
  rw [Oper.semAt_plain F _ _ (by rw [ho]; intro c hc'; cases hc')]
  simp [execOp, ho, hx, hi, hy, hrun, Result.andThen]
  exact hK' _ _ (h w1 h1 h2)
/-- A form's value stands for it. -/
def Stands (W : World) (v : Value) (s : S24) : Prop := ∃ A c, v = formV s.f0 s.f1 s.f2 A s.f3.length c ∧ s.f3.length ≤ c ∧ Kd.C k24 W A s.f3.length s.f3
theorem Stands.keep {w w1 : World} (H : Keep w w1) {v : Value} {s : S24} (h : Stands w v s) : Stands w1 v s := by
  obtain ⟨A, c, e, h1, h2⟩ := h
  exact ⟨A, c, e, h1, C24_keep H h2⟩
/-- Names with forms, put in as a map's entries are. -/
def putS : List (ByteArray × S24) → ByteArray → S24 → List (ByteArray × S24)
  | [], k, v => [(k, v)]
  | (a, u) :: m, k, v => if k = a then (a, v) :: m else (a, u) :: putS m k v
def lookS' : List (ByteArray × S24) → ByteArray → Option S24
  | [], _ => none
  | (a, v) :: m, k => if k = a then some v else lookS' m k
inductive RepM (W : World) : List (ByteArray × Value) → List (ByteArray × S24) → Prop
  | nil : RepM W [] []
  | cons {k : ByteArray} {v : Value} {s : S24} {m : List (ByteArray × Value)} {sp : List (ByteArray × S24)} : Stands W v s → RepM W m sp → RepM W ((k, v) :: m) ((k, s) :: sp)
theorem RepM.keep {w w1 : World} (H : Keep w w1) {m : List (ByteArray × Value)} {sp : List (ByteArray × S24)} (h : RepM w m sp) : RepM w1 m sp := by
  induction h with
  | nil => exact .nil
  | cons hs _ ih => exact .cons (hs.keep H) ih
theorem RepM.put {W : World} {k : ByteArray} {v : Value} {s : S24} (hv : Stands W v s) {m : List (ByteArray × Value)} {sp : List (ByteArray × S24)} (h : RepM W m sp) : RepM W (putM m k v) (putS sp k s) := by
  induction h with
  | nil => exact .cons hv .nil
  | @cons k' v' s' m' sp' hs hr ih =>
    simp only [putM, putS]
    by_cases e : k = k'
    · rw [if_pos e, if_pos e]; exact .cons hv hr
    · rw [if_neg e, if_neg e]; exact .cons hs ih
theorem put_look (m : List (ByteArray × S24)) (k : ByteArray) (v : S24) (s : ByteArray) : lookS' (putS m k v) s = if s = k then some v else lookS' m s := by
  induction m with
  | nil =>
    simp only [putS, lookS']
  | cons p m ih =>
    obtain ⟨a, u⟩ := p
    simp only [putS]
    by_cases e : k = a
    · subst e
      rw [if_pos rfl]
      simp only [lookS']
      by_cases e2 : s = k
      · rw [if_pos e2, if_pos e2]
      · rw [if_neg e2, if_neg e2, if_neg e2]
    · rw [if_neg e]
      simp only [lookS', ih]
      by_cases e2 : s = a
      · subst e2
        rw [if_pos rfl, if_neg (fun h => e h.symm), if_pos rfl]
      · rw [if_neg e2, if_neg e2]
theorem put_mem (m : List (ByteArray × S24)) (k : ByteArray) (v : S24) (t : ByteArray) : t ∈ (putS m k v).map (·.1) ↔ t = k ∨ t ∈ m.map (·.1) := by
  induction m with
  | nil => simp [putS]
  | cons p m ih =>
    obtain ⟨a, u⟩ := p
    simp only [putS]
    by_cases e : k = a
    · subst e; simp
    · rw [if_neg e]
      simp only [List.map_cons, List.mem_cons, ih]
      constructor
      · rintro (h | h | h)
        · exact .inr (.inl h)
        · exact .inl h
        · exact .inr (.inr h)
      · rintro (h | h | h)
        · exact .inr (.inl h)
        · exact .inl h
        · exact .inr (.inr h)
theorem put_nodup (m : List (ByteArray × S24)) (k : ByteArray) (v : S24) (h : (m.map (·.1)).Nodup) : ((putS m k v).map (·.1)).Nodup := by
  induction m with
  | nil => simp [putS]
  | cons p m ih =>
    obtain ⟨a, u⟩ := p
    simp only [List.map_cons, List.nodup_cons] at h
    simp only [putS]
    by_cases e : k = a
    · rw [if_pos e]; simpa using h
    · rw [if_neg e]
      simp only [List.map_cons, List.nodup_cons]
      refine ⟨fun hm => ?_, ih h.2⟩
      rcases (put_mem m k v a).1 hm with h1 | h1
      · exact e h1.symm
      · exact h.1 h1
theorem look_mem' {m : List (ByteArray × S24)} (h : (m.map (·.1)).Nodup) {k : ByteArray} {v : S24} : (k, v) ∈ m ↔ lookS' m k = some v := by
  induction m with
  | nil => simp [lookS']
  | cons p m ih =>
    obtain ⟨a, u⟩ := p
    simp only [List.map_cons, List.nodup_cons] at h
    simp only [lookS', List.mem_cons, Prod.mk.injEq]
    by_cases e : k = a
    · subst e
      rw [if_pos rfl]
      constructor
      · rintro (⟨_, rfl⟩ | h2)
        · rfl
        · exact absurd (List.mem_map.2 ⟨_, h2, rfl⟩) h.1
      · intro h2; exact .inl ⟨rfl, (Option.some.inj h2).symm⟩
    · rw [if_neg e, ← ih h.2]
      simp [e]
/-- Pairs put in one by one, each form by f. -/
def putsF (f : S24 → S24) (sp : List (ByteArray × S24)) (l : List S51) : List (ByteArray × S24) := l.foldl (fun sp p => putS sp p.f0 (f p.f1)) sp
theorem putsF_snoc (f : S24 → S24) (sp : List (ByteArray × S24)) (l : List S51) (p : S51) : putsF f sp (l ++ [p]) = putS (putsF f sp l) p.f0 (f p.f1) := by simp [putsF]
theorem putsF_nodup (f : S24 → S24) : ∀ (l : List S51) (sp : List (ByteArray × S24)), (sp.map (·.1)).Nodup → ((putsF f sp l).map (·.1)).Nodup
  | [], sp, h => h
  | p :: l, sp, h => putsF_nodup f l _ (put_nodup sp _ _ h)
/-- From the last on, so that the first counts. -/
theorem putsF_look (f : S24 → S24) (sp : List (ByteArray × S24)) (s : ByteArray) : ∀ l : List S51, lookS' (putsF f sp l.reverse) s = match lookK l s with | some z => some (f z) | none => lookS' sp s
  | [] => rfl
  | p :: l => by
    rw [List.reverse_cons, putsF_snoc, put_look, putsF_look f sp s l]
    simp only [lookK]
    by_cases e : s = p.f0
    · subst e; simp
    · have e2 : ¬ p.f0.toList = s.toList := fun h => e (bytes_inj h.symm)
      have e3 : ¬ p.f0 = s := fun h => e h.symm
      simp [e, e2, e3]
/-- What stands behind a name after both. -/
def fullK (fi th : List S51) (s : ByteArray) : Option S24 := match lookK fi s with | some z => some (appM (findK th) z false) | none => lookK th s
def plainP (s : ByteArray) (t : S24) : Bool := (t.f0 == 1) && (t.f2.toList == s.toList)
/-- One substitution behind another, as a list. -/
def IsComp (fi th out : List S51) : Prop := (out.map (·.f0)).Pairwise (fun a b => lessB a b = true) ∧ ∀ p : S51, p ∈ out ↔ (resM p.f0 = false ∧ fullK fi th p.f0 = some p.f1 ∧ plainP p.f0 p.f1 = false)
theorem full_look (fi th : List S51) (s : ByteArray) : lookS' (putsF (fun z => appM (findK th) z false) (putsF id [] th.reverse) fi.reverse) s = fullK fi th s := by
  rw [putsF_look, putsF_look]
  unfold fullK
  cases lookK fi s <;> cases lookK th s <;> rfl

end Go.Proofs.YtcjmplpfebpfpaaGreatDoor

namespace Go.Proofs.YtcjmplpfebpfpaaGreatDoor
open Go.RowKit Go.Shelf Go.Lib Go.Sort Go.Proofs Go.Proofs.YtcjmplpfebpfpaaGreatDoorW.PrintWords Go.Proofs.YtcjmplpfebpfpaaGreatDoorW.PrintLast Go.Proofs.YtcjmplpfebpfpaaGreatDoorW.PrintMore PKindInstances
set_option linter.unusedVariables false
set_option linter.unusedSimpArgs false

open Go.ChangeMaps (setBlock)
section
variable {P : Program} {ops : Array Oper} {rest : List Oper} {o : Oper} {a : Act} {Q : Exit → Act → World → Prop}
theorem law_range (hg : o.guard = none) (m : Operand) (t k e : TypeId) (hop : o.op = Op.range t m) (ht : P.underlying t = some (.map k e)) {w : World} {b : Nat} {es : Array MapEntry} {c : Nat}
    (hm : a.eval m = .map (some b)) (hb : w.heap[b]? = some (.map es c))
    (h : wpList P ops Q rest (a.put o.dst (.pointer (some ⟨w.heap.size, 0, none⟩))) (w.alloc (.mapIter (some b) c #[] c))) : wpList P ops Q (o :: rest) a w := by
  refine wpList_plain hg fun K' hK' => ?_
  have hrun := run_range_map (P := P) w t k e b es c ht hb
  unfold Oper.wp
  simp [execOp, hop, hm, hrun, Result.andThen]
  exact hK' _ _ h
theorem law_next (hg : o.guard = none) (it : Operand) (hop : o.op = Op.next it false) {w : World} {r b since c0 : Nat} {seen : Array Nat} {es : Array MapEntry} {c : Nat}
    (hit : a.eval it = .pointer (some ⟨r, 0, none⟩)) (hr : w.heap[r]? = some (.mapIter (some b) since seen c0)) (hb : w.heap[b]? = some (.map es c)) (hold : ∀ x ∈ es.toList, x.born < since) (hsc : since ≤ c0)
    (hDone : (leftOf es seen).size = 0 → wpList P ops Q rest (a.put o.dst (.tuple #[.bool false])) w)
    (hMore : ∀ (e : MapEntry) (w1 : World), e ∈ (leftOf es seen).toList → (w1 = w ∨ w1 = w.drew) → wpList P ops Q rest (a.put o.dst (.tuple #[.bool true, e.key, e.val])) (setBlock w1 r (.mapIter (some b) since (seen.push e.born) c))) :
    wpList P ops Q (o :: rest) a w := by
  refine wpList_plain hg fun K' hK' => ?_
  unfold Oper.wp
  rcases run_next_at (P := P) w o.type r b since c0 seen es c hr hb hold hsc with ⟨h0, hrun⟩ | ⟨e, he, w1, hal, hrun⟩
  · simp [execOp, hop, hit, hrun, Result.andThen]
    exact hK' _ _ (hDone h0)
  · simp [execOp, hop, hit, hrun, Result.andThen]
    exact hK' _ _ (hMore e w1 he hal)
end
theorem left_push {L : List MapEntry} (hn : (L.map (·.born)).Nodup) {e : MapEntry} (he : e ∈ L) : L.Perm (e :: L.filter fun x => !(x.born == e.born)) := by
  induction L with
  | nil => cases he
  | cons x L ih =>
    rw [List.map_cons, List.nodup_cons] at hn
    by_cases hx : x.born = e.born
    · have hxe : x = e := by
        rcases List.mem_cons.1 he with h | h
        · exact h.symm
        · exact absurd (List.mem_map.2 ⟨e, h, hx.symm⟩) hn.1
      subst hxe
      rw [List.filter_cons_of_neg (by simp)]
      have : L.filter (fun y => !(y.born == x.born)) = L := by
        rw [List.filter_eq_self]
        intro y hy
        have : y.born ≠ x.born := fun q => hn.1 (List.mem_map.2 ⟨y, hy, q⟩)
        simpa using this
      rw [this]
    · rw [List.filter_cons_of_pos (by simpa using hx)]
      have he2 : e ∈ L := by
        rcases List.mem_cons.1 he with h | h
        · exact absurd (by rw [h]) hx
        · exact h
      exact ((ih hn.2 he2).cons x).trans (List.Perm.swap e x _)
theorem leftOf_push {es : Array MapEntry} {seen : Array Nat} {n : Nat} : (leftOf es (seen.push n)).toList = (leftOf es seen).toList.filter fun x => !(x.born == n) := by
  unfold leftOf
  rw [Array.toList_filter, Array.toList_filter, List.filter_filter]
  refine List.filter_congr (fun x _ => ?_)
  have : (seen.push n).contains x.born = (seen.contains x.born || (x.born == n)) := by
    rw [Bool.eq_iff_iff]
    simp [Array.contains_iff_mem, Array.mem_push]
  rw [this]
  cases seen.contains x.born <;> cases (x.born == n) <;> rfl
theorem left_nodup {es : Array MapEntry} (hn : (es.toList.map (·.born)).Nodup) (seen : Array Nat) : ((leftOf es seen).toList.map (·.born)).Nodup := by
  unfold leftOf
  rw [Array.toList_filter]
  exact hn.sublist (List.Sublist.map _ List.filter_sublist)
theorem left_mem {es : Array MapEntry} {seen : Array Nat} {e : MapEntry} (he : e ∈ (leftOf es seen).toList) : e ∈ es.toList := by
  unfold leftOf at he
  rw [Array.toList_filter] at he
  exact (List.mem_filter.1 he).1
/-- What an entry stands for. -/
def keyE (e : MapEntry) : ByteArray := match e.key with
  | .string s => s
  | _ => ⟨#[]⟩
def elE (sp : List (ByteArray × S24)) (e : MapEntry) : S51 := ⟨keyE e, (lookS' sp (keyE e)).getD ⟨0, 0, ⟨#[]⟩, []⟩⟩
theorem ent_raw {W : World} {m : List (ByteArray × Value)} {sp : List (ByteArray × S24)} (hr : RepM W m sp) : ∀ es : List MapEntry, es.map (fun e => (e.key, e.val)) = kvs textV m →
    es.map keyE = sp.map (·.1) ∧ ∀ e ∈ es, ∃ p ∈ sp, e.key = .string p.1 ∧ Stands W e.val p.2 := by
  induction hr with
  | nil =>
    intro es h
    cases es with
    | nil => exact ⟨rfl, fun e he => absurd he List.not_mem_nil⟩
    | cons e es => simp [kvs] at h
  | @cons k v s m sp hs _ ih =>
    intro es h
    cases es with
    | nil => simp [kvs] at h
    | cons e es =>
      simp only [List.map_cons, kvs, List.cons.injEq, Prod.mk.injEq] at h
      obtain ⟨⟨h1, h2⟩, h3⟩ := h
      obtain ⟨i1, i2⟩ := ih es (by simpa [kvs] using h3)
      have hk : keyE e = k := by unfold keyE; rw [h1]; rfl
      refine ⟨by rw [List.map_cons, List.map_cons, hk, i1], fun e' he' => ?_⟩
      rcases List.mem_cons.1 he' with rfl | he'
      · exact ⟨_, List.mem_cons_self .., by rw [h1]; rfl, by rw [h2]; exact hs⟩
      · obtain ⟨p, hp, h5, h6⟩ := i2 e' he'
        exact ⟨p, List.mem_cons_of_mem _ hp, h5, h6⟩
theorem ent_facts {W : World} {m : List (ByteArray × Value)} {sp : List (ByteArray × S24)} (hr : RepM W m sp) (hn : (sp.map (·.1)).Nodup) {es : List MapEntry} (h : es.map (fun e => (e.key, e.val)) = kvs textV m) :
    (∀ e ∈ es, ∃ x : S51, elE sp e = x ∧ e.key = .string x.f0 ∧ Stands W e.val x.f1) ∧ (es.map (elE sp)).Nodup ∧ ((es.map (elE sp)).map (·.f0)).Nodup ∧ ∀ p : S51, p ∈ es.map (elE sp) ↔ lookS' sp p.f0 = some p.f1 := by
  obtain ⟨h1, h2⟩ := ent_raw hr es h
  have hm : (es.map (elE sp)).map (·.f0) = sp.map (·.1) := by rw [List.map_map, ← h1]; rfl
  have hn2 : ((es.map (elE sp)).map (·.f0)).Nodup := by rw [hm]; exact hn
  refine ⟨fun e he => ?_, ?_, hn2, fun p => ?_⟩
  · obtain ⟨p, hp, h5, h6⟩ := h2 e he
    have hk : keyE e = p.1 := by unfold keyE; rw [h5]
    refine ⟨⟨p.1, p.2⟩, ?_, h5, h6⟩
    unfold elE
    rw [hk, (look_mem' hn).1 hp]; rfl
  · have : ∀ l : List S51, (l.map (·.f0)).Nodup → l.Nodup := by
      intro l
      induction l with
      | nil => simp
      | cons x l ih =>
        intro h
        rw [List.map_cons, List.nodup_cons] at h
        exact List.nodup_cons.2 ⟨fun hx => h.1 (List.mem_map.2 ⟨_, hx, rfl⟩), ih h.2⟩
    exact this _ hn2
  · constructor
    · intro hp
      obtain ⟨e, he, rfl⟩ := List.mem_map.1 hp
      obtain ⟨q, hq, h5, _⟩ := h2 e he
      have hk : keyE e = q.1 := by unfold keyE; rw [h5]
      unfold elE
      rw [hk, (look_mem' hn).1 hq]; rfl
    · intro hp
      have h4 : p.f0 ∈ sp.map (·.1) := List.mem_map.2 ⟨_, (look_mem' hn).2 hp, rfl⟩
      rw [← hm] at h4
      obtain ⟨q, hq, e4⟩ := List.mem_map.1 h4
      obtain ⟨e, he, rfl⟩ := List.mem_map.1 hq
      have hk : keyE e = p.f0 := e4
      have : elE sp e = p := by
        unfold elE
        rw [hk, hp]; rfl
      rw [← this]; exact List.mem_map.2 ⟨_, he, rfl⟩
def keepS (p : S51) : Bool := !resM p.f0 && !plainP p.f0 p.f1
/-- The kept pairs, ranged. -/
theorem comp_of {fi th : List S51} {sp : List (ByteArray × S24)} {l out : List S51} (hl : (l.map (·.f0)).Nodup) (hm : ∀ p : S51, p ∈ l ↔ lookS' sp p.f0 = some p.f1) (hs : ∀ s, lookS' sp s = fullK fi th s)
    (hp : out.Perm (l.filter keepS)) (ho : out.Pairwise (fun x y => lessB y.f0 x.f0 = false)) : IsComp fi th out := by
  have hn : (out.map (·.f0)).Nodup := ((hp.map (·.f0)).nodup_iff).2 (hl.sublist (List.Sublist.map _ List.filter_sublist))
  refine ⟨?_, fun p => ?_⟩
  · rw [List.pairwise_map]
    have hn2 : out.Pairwise (fun x y => x.f0 ≠ y.f0) := by
      have := hn
      rw [List.Nodup, List.pairwise_map] at this
      exact this
    refine (ho.and hn2).imp ?_
    rintro x y ⟨h1, h2⟩
    exact lessB_total h1 (fun e => h2 (bytes_inj e).symm)
  · rw [hp.mem_iff, List.mem_filter, hm, hs]
    unfold keepS
    cases resM p.f0 <;> cases plainP p.f0 p.f1 <;> simp
/-- The row that a run makes: its own block, five cells a pair. -/
theorem flatMap_get {ds : List PV} (enc : PV → List Value) (k : Nat) (hk : ∀ x, (enc x).length = k) : ∀ (i c : Nat), i < ds.length → c < k → (ds.flatMap enc)[i * k + c]? = (enc ds[i]!)[c]? := by
  induction ds with
  | nil => intro i c h; cases h
  | cons x ds ih =>
    intro i c h hc
    rw [List.flatMap_cons]
    cases i with
    | zero => rw [List.getElem?_append_left (by rw [hk]; omega)]; simp
    | succ i =>
      rw [List.getElem?_append_right (by rw [hk, Nat.add_mul]; omega), hk, show (i + 1) * k + c - k = i * k + c from by rw [Nat.add_mul]; omega, ih i c (by simpa using h) hc]
      simp
theorem own_holds {w : World} {base g cap : Nat} {ds : List PV} (h : w.ownsRow base 51 5 (.slice (some ⟨g, 0, none⟩) ds.length cap) ds.length (ds.flatMap enc51)) : HoldsK enc51 5 w g 0 ds.toArray ∧ g < w.heap.size ∧ base ≤ g ∧ ds.length ≤ cap := by
  obtain ⟨h1, ⟨h2, _⟩ | ⟨g', cap', cur, h2, h3, h4, h5, h6, h7, h8⟩⟩ := h
  · cases h2
  · injection h2 with e1 e2 e3
    injection e1 with e1
    injection e1 with e1
    subst e1
    subst e3
    refine ⟨fun j hj => ?_, (Array.getElem?_eq_some_iff.1 h4).1, h3, h5⟩
    rw [size_flatK] at hj
    simp only [List.size_toArray] at hj
    have hd : j / 5 < ds.length := by omega
    have hm : j % 5 < 5 := Nat.mod_lt _ (by omega)
    have hjd : j / 5 * 5 + j % 5 = j := by omega
    have h9 := flatMap_get (ds := ds) enc51 5 (fun _ => rfl) (j / 5) (j % 5) hd hm
    rw [hjd, ← h8, List.getElem?_take_of_lt (by omega)] at h9
    refine ⟨?_, by simp [World.frozen?, h4]⟩
    rw [get_flatK enc51 5 ds.toArray j (by simpa using hj)]
    have h10 : (enc51 ds.toArray[j / 5]!)[j % 5]? = some (enc51 ds.toArray[j / 5]!)[j % 5]! := by
      rw [getElem!_pos (enc51 ds.toArray[j / 5]!) (j % 5) hm]; exact List.getElem?_eq_getElem _
    have h11 : ds.toArray[j / 5]! = ds[j / 5]! := by simp [hd]
    rw [h11] at h10 ⊢
    rw [h10] at h9
    simpa [World.cell?, h4] using h9
theorem own_reads {w : World} {g : Nat} {ds : List PV} (h : HoldsK enc51 5 w g 0 ds.toArray) (hlen : ds.length < 9000000) (hk : ∀ q ∈ ds, q.x.f1.f3.length ≤ q.c ∧ Kd.C k24 w q.A q.x.f1.f3.length q.x.f1.f3) : Kd.C k51 w (some ⟨g, 0, none⟩) ds.length (ds.map (·.x)) := by
  refine ⟨by simp, by omega, fun _ => ⟨_, rfl, fun j p hp => ?_⟩⟩
  have hj : j < ds.length := by have := (List.getElem?_eq_some_iff.1 hp).1; simpa using this
  obtain rfl : (ds[j]).x = p := by simpa [List.getElem?_map, List.getElem?_eq_getElem hj] using hp
  obtain ⟨h1, h2⟩ := hk _ (List.getElem_mem hj)
  refine ⟨enc51 ds[j], rfl, k51_mk w _ h1 h2, fun i u hu => ?_⟩
  have hi : i < 5 := (List.getElem?_eq_some_iff.1 hu).1
  have h5 := (h.cell (i := j) (c := i) (by simpa using hj) hi).1
  have h11 : ds.toArray[j]! = ds[j] := by simp [hj]
  rw [h11, getElem!_pos _ _ (by show _ < 5; exact hi), Nat.zero_add] at h5
  have h12 : (enc51 ds[j])[i]'(by show _ < 5; exact hi) = u := by
    rw [List.getElem?_eq_getElem (by show _ < 5; exact hi)] at hu
    exact Option.some.inj hu
  rw [h12] at h5
  show w.cell? (Addr.add ⟨g, 0, none⟩ (j * 5 + i)) = some u
  rw [← h5]
  congr 1
  unfold Addr.add
  split <;> simp_all
/-- The sort, at the row that a run makes. -/
theorem sort_row {w : World} {base : Nat} {u : Value} {ds : List PV} (h : w.ownsRow base 51 5 u ds.length (ds.flatMap enc51)) (hsz : ds.length < 9000000) :
    Calls Tryz.prog 45 #[u, .func (.func 46) #[] #[]] w fun e w' => e = .returned (.tuple #[]) ∧ ∃ (A : Option Addr) (c : Nat) (ds' : List PV), u = .slice A ds'.length c ∧ ds'.length ≤ c ∧ ds'.Perm ds ∧ (ds'.map (·.x)).Pairwise (fun x y => lessB y.f0 x.f0 = false) ∧
      ((∀ q ∈ ds', q.x.f1.f3.length ≤ q.c ∧ Kd.C k24 w' q.A q.x.f1.f3.length q.x.f1.f3) → Kd.C k51 w' A ds'.length (ds'.map (·.x))) ∧ (∀ b, b < base → Below b w w') := by
  have hh := h
  obtain ⟨h1, ⟨rfl, h0⟩ | ⟨g, cap, cur, rfl, h3, h4, h5, h6, h7, h8⟩⟩ := h
  · obtain rfl : ds = [] := List.eq_nil_of_length_eq_zero h0
    refine (sort_none none 0 w).mono ?_
    rintro e w' ⟨rfl, rfl⟩
    exact ⟨rfl, none, 0, [], rfl, Nat.le_refl _, List.Perm.refl _, .nil, fun _ => Kd.C_nil _ _, fun b _ => Below.refl _ _⟩
  · obtain ⟨hH, hlt, hb, hc⟩ := own_holds hh
    refine (sort_pairs ds g cap w hH hlt hsz).mono ?_
    rintro e w' ⟨rfl, ds', hp, ho, hH', hG⟩
    have hl := hp.length_eq
    refine ⟨rfl, _, cap, ds', by rw [hl], by omega, hp, ?_, fun hq => own_reads hH' (by omega) hq, fun b hb2 => ?_⟩
    · rw [List.pairwise_map]; exact ho
    · exact ⟨hG.os, hG.tape, hG.output, hG.size, fun k hk => hG.block k (by omega) (fun e => by cases e; omega)⟩
theorem cellsB5' {w : World} {b : Nat} {v0 v1 v2 v3 v4 : Value} {t : TypeId} (h : w.heap[b]? = some (.cells #[v0, v1, v2, v3, v4] t (0, 0))) :
    w.cell? ⟨b, 0, none⟩ = some v0 ∧ w.cell? ⟨b, 1, none⟩ = some v1 ∧ w.cell? ⟨b, 2, none⟩ = some v2 ∧ w.cell? ⟨b, 3, none⟩ = some v3 ∧ w.cell? ⟨b, 4, none⟩ = some v4 := by
  refine ⟨?_, ?_, ?_, ?_, ?_⟩ <;> simp [World.cell?, h]
theorem news5 {w : World} {v0 v1 v2 v3 v4 : Value} : ∀ (j : Nat) (u : Value), ([v0, v1, v2, v3, v4] : List Value)[j]? = some u → (w.alloc (.cells #[v0, v1, v2, v3, v4] 51)).cell? (Addr.add ⟨w.heap.size, 0, none⟩ j) = some u := by
  have h := (MapKept.heap_alloc w (.cells #[v0, v1, v2, v3, v4] 51)).1
  intro j u hu
  match j, hu with
  | 0, hu => cases hu; exact (cellsB5' h).1
  | 1, hu => cases hu; exact (cellsB5' h).2.1
  | 2, hu => cases hu; exact (cellsB5' h).2.2.1
  | 3, hu => cases hu; exact (cellsB5' h).2.2.2.1
  | 4, hu => cases hu; exact (cellsB5' h).2.2.2.2
  | (n + 5), hu => simp at hu

end Go.Proofs.YtcjmplpfebpfpaaGreatDoor

namespace Go.Proofs.YtcjmplpfebpfpaaGreatDoor
open Go.RowKit Go.Shelf Go.Lib Go.Sort Go.Proofs Go.Proofs.YtcjmplpfebpfpaaGreatDoorW.PrintWords Go.Proofs.YtcjmplpfebpfpaaGreatDoorW.PrintLast Go.Proofs.YtcjmplpfebpfpaaGreatDoorW.PrintMore PKindInstances
set_option linter.unusedVariables false
set_option linter.unusedSimpArgs false

open Go.ChangeMaps (setBlock)
attribute [local go_sem] Oper.semAt_some
theorem threeB (w : World) (o1 o2 o3 : Obj) : (((w.alloc o1).alloc o2).alloc o3).heap[w.heap.size]? = some o1 ∧ (((w.alloc o1).alloc o2).alloc o3).heap[w.heap.size + 1]? = some o2 ∧ (((w.alloc o1).alloc o2).alloc o3).heap[w.heap.size + 1 + 1]? = some o3 ∧ Below w.heap.size w (((w.alloc o1).alloc o2).alloc o3) ∧ (((w.alloc o1).alloc o2).alloc o3).heap.size = w.heap.size + 3 := by
  have h1 := (MapKept.heap_alloc w o1).1
  have h2 := (MapKept.heap_alloc (w.alloc o1) o2).1
  have h3 := (MapKept.heap_alloc ((w.alloc o1).alloc o2) o3).1
  have s1 : (w.alloc o1).heap.size = w.heap.size + 1 := size_new _ _
  have s2 : ((w.alloc o1).alloc o2).heap.size = w.heap.size + 1 + 1 := by rw [size_new, s1]
  have s3 : (((w.alloc o1).alloc o2).alloc o3).heap.size = w.heap.size + 3 := by rw [size_new, s2]
  have e2 : Below (w.alloc o1).heap.size (w.alloc o1) ((w.alloc o1).alloc o2) := below_alloc (Below.refl _ _) _
  have e3 : Below ((w.alloc o1).alloc o2).heap.size ((w.alloc o1).alloc o2) (((w.alloc o1).alloc o2).alloc o3) := below_alloc (Below.refl _ _) _
  have k1 := (e3.block w.heap.size (by omega)).trans ((e2.block w.heap.size (by omega)).trans h1)
  have k2 : (((w.alloc o1).alloc o2).alloc o3).heap[w.heap.size + 1]? = some o2 := (e3.block (w.heap.size + 1) (by omega)).trans (by rw [← s1]; exact h2)
  rw [s2] at h3
  exact ⟨k1, k2, h3, below_alloc (below_alloc (below_alloc (Below.refl _ _) _) _) _, s3⟩
theorem cellsB5 {w : World} {b : Nat} {v0 v1 v2 v3 v4 : Value} {t : TypeId} (h : w.heap[b]? = some (.cells #[v0, v1, v2, v3, v4] t (0, 0))) :
    w.cell? ⟨b, 0, none⟩ = some v0 ∧ w.cell? ⟨b, 1, none⟩ = some v1 ∧ w.cell? ⟨b, 2, none⟩ = some v2 ∧ w.cell? ⟨b, 3, none⟩ = some v3 ∧ w.cell? ⟨b, 4, none⟩ = some v4 := by
  refine ⟨?_, ?_, ?_, ?_, ?_⟩ <;> simp [World.cell?, h]
theorem cellB1 {w : World} {b : Nat} {v : Value} {t : TypeId} (h : w.heap[b]? = some (.cells #[v] t (0, 0))) : w.cell? ⟨b, 0, none⟩ = some v := by simp [World.cell?, h]
theorem mark_own {β : Type} {B D : Nat} (h : D < B) : OwnFrom B (fun (_ : β) W => W.heap[D]? = some (.deferred (some []))) := fun _ W W' row hs hg hr =>
  (hg.block D (Array.getElem?_eq_some_iff.1 hs).1 (fun e => by have := (hr _ e.symm).1; omega)).trans hs
def noDeferB (ops : Array Oper) : Bool := ops.all fun o => match o.op with | .defer _ => false | _ => true
theorem noDefer_spec {ops : Array Oper} (h : noDeferB ops = true) : ∀ (i : Nat) (o : Oper) c, ops[i]? = some o → o.op ≠ .defer c := by
  intro i o c ho e
  unfold noDeferB at h
  rw [Array.all_eq_true] at h
  obtain ⟨hlt, h1⟩ := Array.getElem?_eq_some_iff.1 ho
  have h2 := h i hlt
  rw [h1, e] at h2
  cases h2
theorem keep_put {W w1 : World} {bM : Nat} {m : List (ByteArray × Value)} (hm : MapAt W bM (kvs textV m)) (h2 : W.grownBy w1 (some bM)) : Keep W w1 := by
  obtain ⟨es, c, he, _⟩ := hm
  exact fun a v h => cell_kept h h2 (fun r e => by cases e; exact ⟨_, he, rfl⟩)
theorem update_step {α : Type} [DecidableEq α] {P : Program} {ops : Array Oper} {o : Oper} {a : Act} {Q : Exit → Act → World → Prop} {Kc : Act → World → Prop}
    {d : TypeDesc} {kenc : α → Value} (K : KeyEnc d kenc) {W : World} (hw : Region.wanted o (yielded ops a.tmps) = true) (x i y : Operand) {T kt et : TypeId} (ho : o.op = .mapUpdate T x i y)
    (hT : P.underlying T = some (.map kt et)) (hk : P.underlying kt = some d) {b : Nat} {m : List (α × Value)} (hm : MapAt W b (kvs kenc m)) (k : α) (v : Value)
    (hx : a.eval x = .map (some b)) (hi : a.eval i = kenc k) (hy : a.eval y = v)
    (h : ∀ w1, MapAt w1 b (kvs kenc (putM m k v)) → W.grownBy w1 (some b) → Kc (a.put o.dst undef) w1) : if Region.wanted o (yielded ops a.tmps) = true then Oper.wp P o a W Kc Q else Kc (a.put o.dst undef) W := by
  obtain ⟨w1, hrun, h1, h2⟩ := run_update_at K hT hk hm k v
  rw [if_pos hw]
  unfold Oper.wp
  simp [execOp, ho, hx, hi, hy, hrun, Result.andThen, Oper.upon]
  exact h w1 h1 h2
/-- What holds between two rounds: the map's entries stand for sp; what lay, lies; the cells of W1 hold. -/
def IC (w W1 : World) (bM : Nat) (sp : List (ByteArray × S24)) (W : World) : Prop := (∃ m, MapAt W bM (kvs textV m) ∧ RepM W m sp) ∧ Below w.heap.size w W ∧ Keep W1 W
theorem ic_own {β : Type} {B : Nat} {w W1 : World} {bM : Nat} (sp : β → List (ByteArray × S24)) (hb : bM < B) (hw : w.heap.size ≤ B) : OwnFrom B (fun s W => IC w W1 bM (sp s) W) := by
  rintro s W W' row ⟨⟨m, hm, hr⟩, hB, hK⟩ hg hrow
  have K : Keep W W' := fun a v h => cell_kept h hg (fun r e => (hrow r e).2)
  exact ⟨⟨m, hm.kept hg (fun e => by have := (hrow _ e.symm).1; omega), hr.keep K⟩, hB.grown hg hB.size (fun k e => Nat.le_trans hw (hrow k e).1), fun a v h => K _ _ (hK a v h)⟩
theorem ic_put {w W1 W w1 : World} {bM B : Nat} {sp : List (ByteArray × S24)} {m : List (ByteArray × Value)} {k : ByteArray} {v : Value} {s : S24} (hw : w.heap.size ≤ bM) (hB : bM < B) (hm : MapAt W bM (kvs textV m)) (hr : RepM W m sp) (hb : Below w.heap.size w W) (hk : Keep W1 W)
    (hs : Stands W v s) (h1 : MapAt w1 bM (kvs textV (putM m k v))) (h2 : W.grownBy w1 (some bM)) : KeepsFrom B W w1 ∧ KpP W1 W w1 ∧ IC w W1 bM (putS sp k s) w1 := by
  obtain ⟨es, c, he, _⟩ := hm
  have K : Keep W w1 := fun a v h => cell_kept h h2 (fun r e => by cases e; exact ⟨_, he, rfl⟩)
  exact ⟨KeepsFrom.of_grownBy h2 (fun j e => by cases e; exact hB), fun a v _ hA => K _ _ hA, ⟨_, h1, (RepM.put hs hr).keep K⟩, hb.grown h2 hb.size (fun k e => by cases e; exact hw), fun a v h => K _ _ (hk a v h)⟩
theorem putS_len (m : List (ByteArray × S24)) (k : ByteArray) (v : S24) : (putS m k v).length ≤ m.length + 1 := by
  induction m with
  | nil => simp [putS]
  | cons p m ih =>
    obtain ⟨a, u⟩ := p
    simp only [putS]
    split
    · simp
    · simp only [List.length_cons]; omega
theorem putsF_len (f : S24 → S24) : ∀ (l : List S51) (sp : List (ByteArray × S24)), (putsF f sp l).length ≤ sp.length + l.length
  | [], sp => by simp [putsF]
  | p :: l, sp => by
    have h1 := putsF_len f l (putS sp p.f0 (f p.f1))
    have h2 := putS_len sp p.f0 (f p.f1)
    show (putsF f (putS sp p.f0 (f p.f1)) l).length ≤ _
    simp only [List.length_cons]; omega
theorem C51_keep {w W : World} (H : Keep w W) {A : Option Addr} {n : Nat} {l : List S51} (h : Kd.C k51 w A n l) : Kd.C k51 W A n l := by
  obtain ⟨h1, h2, h3⟩ := h
  refine ⟨h1, h2, fun h0 => ?_⟩
  obtain ⟨ad, e, h4⟩ := h3 h0
  refine ⟨ad, e, fun j p hp => ?_⟩
  obtain ⟨c, hc, hR, hcell⟩ := h4 j p hp
  obtain ⟨A4, c4, rfl, h5, h6⟩ := k51_open hR
  exact ⟨_, hc, k51_mk W p h5 (C24_keep H h6), fun i u hu => H _ _ (hcell i u hu)⟩
/-- What holds between two rounds over the map. -/
def CR (w W2 : World) (bM r B5 : Nat) (sp : List (ByteArray × S24)) (es : Array MapEntry) (cl k : Nat) (x10 : Value) (wr : World) : Prop :=
  ∃ (seen : Array Nat) (c0 : Nat) (out : List PV), wr.heap[bM]? = some (.map es cl) ∧ wr.heap[r]? = some (.mapIter (some bM) cl seen c0) ∧ cl ≤ c0 ∧ (leftOf es seen).size = k ∧ wr.ownsRow B5 51 5 x10 out.length (out.flatMap enc51) ∧
    Below W2.heap.size W2 wr ∧ B5 ≤ wr.heap.size ∧ out.length + k ≤ es.size ∧ (∀ q ∈ out, q.x.f1.f3.length ≤ q.c ∧ Kd.C k24 W2 q.A q.x.f1.f3.length q.x.f1.f3) ∧
    (out.map (·.x) ++ ((leftOf es seen).toList.map (elE sp)).filter keepS).Perm ((es.toList.map (elE sp)).filter keepS)
theorem own_after {w w' : World} {base n : Nat} {v : Value} {xs : List Value} (h : w.ownsRow base 51 5 v n xs) (hb : Below w.heap.size w w') : w'.ownsRow base 51 5 v n xs := by
  obtain ⟨o1, o2⟩ := h
  refine ⟨o1, ?_⟩
  rcases o2 with o2 | ⟨g, cap, cur, o3, o4, o5, o6⟩
  · exact .inl o2
  · exact .inr ⟨g, cap, cur, o3, o4, (hb.block g (Array.getElem?_eq_some_iff.1 o5).1).trans o5, o6⟩
theorem own_base {w : World} {base n : Nat} {v : Value} {xs : List Value} (h : w.ownsRow base 51 5 v n xs) : ∀ k, v.ownBlock = some k → base ≤ k := by
  obtain ⟨_, ⟨rfl, _⟩ | ⟨g, cap, cur, rfl, o4, _⟩⟩ := h
  · intro k hk; cases hk
  · intro k hk; cases hk; exact o4
theorem ti51 : ∃ ti, Tryz.prog.info? 51 = some ti ∧ ti.zero = some (.agg #[(.string ⟨#[]⟩), (.int .i64 0), (.int .i64 0), (.string ⟨#[]⟩), (.slice none 0 0)]) ∧ ti.size = 5 ∧ ti.bytes = 72 := by
  obtain ⟨ti, h1, h2⟩ := Option.map_eq_some_iff.1 info51
  simp only [Prod.mk.injEq] at h2
  exact ⟨ti, h1, h2.1, h2.2.1, h2.2.2⟩
theorem cr_skip {w W2 w6 w7 : World} {sp : List (ByteArray × S24)} {es : Array MapEntry} {cl m : Nat} {v : Value} {seen : Array Nat} {out : List PV} {e : MapEntry} {x : S51}
    (hM : w6.heap[w.heap.size + 1]? = some (.map es cl)) (hR : w6.heap[W2.heap.size]? = some (.mapIter (some (w.heap.size + 1)) cl (seen.push e.born) cl)) (hO : w6.ownsRow (W2.heap.size + 1) 51 5 v out.length (out.flatMap enc51))
    (hB : Below W2.heap.size W2 w6) (hS : W2.heap.size + 1 ≤ w6.heap.size) (hL : out.length + (m + 1) ≤ es.size) (hQ : ∀ q ∈ out, q.x.f1.f3.length ≤ q.c ∧ Kd.C k24 W2 q.A q.x.f1.f3.length q.x.f1.f3)
    (hP : ((out.map (·.x)) ++ ((e :: (leftOf es (seen.push e.born)).toList).map (elE sp)).filter keepS).Perm ((es.toList.map (elE sp)).filter keepS)) (hK : (leftOf es (seen.push e.born)).size + 1 = m + 1) (h67 : Below w6.heap.size w6 w7)
    (hW : w.heap.size + 1 < W2.heap.size) (hx : elE sp e = x) (hks : keepS x = false) : CR w W2 (w.heap.size + 1) W2.heap.size (W2.heap.size + 1) sp es cl m v w7 := by
  refine ⟨seen.push e.born, cl, out, (h67.block _ (by omega)).trans hM, (h67.block _ (by omega)).trans hR, Nat.le_refl _, by omega, own_after hO h67, hB.trans (h67.mono (by omega)), by have := h67.size; omega, by omega, hQ, ?_⟩
  rw [List.map_cons, hx, List.filter_cons_of_neg (by simp [hks])] at hP
  exact hP
theorem cr_keep {w W2 w6 w7 : World} {sp : List (ByteArray × S24)} {es : Array MapEntry} {cl m : Nat} {v' : Value} {seen : Array Nat} {out : List PV} {e : MapEntry} {x : S51} {A : Option Addr} {c : Nat}
    (hM : w6.heap[w.heap.size + 1]? = some (.map es cl)) (hR : w6.heap[W2.heap.size]? = some (.mapIter (some (w.heap.size + 1)) cl (seen.push e.born) cl))
    (hB : Below W2.heap.size W2 w6) (hS : W2.heap.size + 1 ≤ w6.heap.size) (hL : out.length + (m + 1) ≤ es.size) (hQ : ∀ q ∈ out, q.x.f1.f3.length ≤ q.c ∧ Kd.C k24 W2 q.A q.x.f1.f3.length q.x.f1.f3)
    (hP : ((out.map (·.x)) ++ ((e :: (leftOf es (seen.push e.born)).toList).map (elE sp)).filter keepS).Perm ((es.toList.map (elE sp)).filter keepS)) (hK : (leftOf es (seen.push e.born)).size + 1 = m + 1) (h67 : Below (W2.heap.size + 1) w6 w7)
    (hW : w.heap.size + 1 < W2.heap.size) (hx : elE sp e = x) (hks : keepS x = true) (hO : w7.ownsRow (W2.heap.size + 1) 51 5 v' (out.length + 1) (out.flatMap enc51 ++ enc51 ⟨x, A, c⟩)) (hl : x.f1.f3.length ≤ c) (hC : Kd.C k24 W2 A x.f1.f3.length x.f1.f3) : CR w W2 (w.heap.size + 1) W2.heap.size (W2.heap.size + 1) sp es cl m v' w7 := by
  refine ⟨seen.push e.born, cl, out ++ [⟨x, A, c⟩], (h67.block _ (by omega)).trans hM, (h67.block _ (by omega)).trans hR, Nat.le_refl _, by omega, ?_, hB.trans (h67.mono (by omega)), by have := h67.size; omega, by simp; omega, ?_, ?_⟩
  · rw [List.flatMap_append, List.length_append]
    simpa using hO
  · intro q hq
    rcases List.mem_append.1 hq with h | h
    · exact hQ q h
    · obtain rfl := List.mem_singleton.1 h; exact ⟨hl, hC⟩
  · rw [List.map_cons, hx, List.filter_cons_of_pos hks] at hP
    rw [List.map_append, List.map_cons, List.map_nil, List.append_assoc, List.singleton_append]
    exact hP
set_option maxRecDepth 100000 in
set_option maxHeartbeats 8000000 in
theorem Compose_any (fi th : List S51) (A0 A1 : Option Addr) (c0 c1 : Nat) (w : World) (h0 : Kd.C k51 w A0 fi.length fi) (hc0 : fi.length ≤ c0) (hw0 : ∀ p ∈ fi, wid p.f1 < 8000000) (hn0 : fi.length < 4000000)
    (h1 : Kd.C k51 w A1 th.length th) (hc1 : th.length ≤ c1) (hw1 : ∀ p ∈ th, wid p.f1 < 8000000) (hn1 : th.length < 4000000) :
    Calls Tryz.prog 14 #[.slice A0 fi.length c0, .slice A1 th.length c1] w fun e w' => ∃ A c out, e = .returned (.slice A out.length c) ∧ out.length ≤ c ∧ Kd.C k51 w' A out.length out ∧ IsComp fi th out ∧ Below w.heap.size w w' := by
  have hu24 := Tryz.underlying24
  have hu25 := Tryz.underlying25
  have hu51 := Tryz.underlying51
  have hu72 := Tryz.underlying72
  have hk := Tryz.underlying9
  have H0 : Hid _ := h0
  have H1 : Hid _ := h1
  have W0 : Hid _ := hw0
  have W1 : Hid _ := hw1
  clear h0 h1 hw0 hw1
  refine (callsIn_wide (n := 20)).1 ?_
  refine callsIn_of_wp_marks Tryz.func14 rfl trivial ?_ rfl
  simp only [Tryz.ntmps14, List.size_toArray, List.length_cons, List.length_nil, Nat.reduceAdd, Nat.reduceSub, Array.replicate_succ, Array.replicate_zero, List.push_toArray, List.append_toArray, List.nil_append, List.cons_append]
  refine wpIn_wide.2 ?_
  go_upto_region 1 with fail
  have hmm := @run_makeMap Tryz.prog
  go_upto_region 2 with fail
  clear hmm
  obtain ⟨b1, b2, b3, bb, bs⟩ := threeB w (Obj.cells #[Value.slice A1 th.length c1] 25) (Obj.map #[] 0) (Obj.cells #[Value.map (some (w.heap.size + 1))] 72)
  generalize ((w.alloc (Obj.cells #[Value.slice A1 th.length c1] 25)).alloc (Obj.map #[] 0)).alloc (Obj.cells #[Value.map (some (w.heap.size + 1))] 72) = X at *
  have M0 : Hid (MapAt X (w.heap.size + 1) (kvs textV [])) := ⟨#[], 0, b2, rfl, MapKept.stamped_empty 0⟩
  have BX : Hid _ := bb
  have SX : Hid _ := bs
  have X1 : Hid _ := b1
  have X3 : Hid _ := b3
  have p1 := cellB1 b1
  clear b1 b2 b3 bb bs
  go_wp2_with fail
  refine (back_in A1 th.length c1 X).mono ?_
  rintro e Y ⟨rfl, hY⟩
  have by1 : Below X.heap.size X Y := by rw [hY]; exact below_alloc (Below.refl _ _) _
  have yb : Y.heap[X.heap.size]? = some (.cells #[.slice A1 th.length c1] 25 (0, 0)) := by rw [hY]; exact (MapKept.heap_alloc X _).1
  have ys : Y.heap.size = w.heap.size + 4 := by rw [hY]; have := SX.out; simp; omega
  have BY : Hid (Below w.heap.size w Y) := below_after BX.out by1
  have MY : Hid (MapAt Y (w.heap.size + 1) (kvs textV [])) := MapAt.kept M0.out (grown_of_below by1 none) (by simp)
  have Y1 : Hid _ := blk_below X1.out by1
  have Y3 : Hid _ := blk_below X3.out by1
  have YB : Hid _ := yb
  have YS : Hid _ := ys
  clear hY by1 yb ys p1 M0 BX X1 X3
  go_wp2_with fail
  obtain ⟨g, hg⟩ := row_pvs (Kd.C_below H1.out BY.out) W1.out
  have HG : Hid _ := hg
  clear hg
  refine (wpIn_wide (n := 20)).1 ?_
  refine wpIn_rangeFunc_ownH (F := Fence.wide) rfl (by omega) (gf := 86) (lb := #[.pointer (some ⟨X.heap.size, 0, none⟩)]) rfl trivial (enters_of Tryz.func86 (by kernel_rfl) rfl)
    (back_stops Fence.wide 19 trivial rfl (by omega) X.heap.size Y A1 th.length c1 g (by omega) (fun i hi => ⟨(HG.out i hi).1, (HG.out i hi).2.2⟩) (cellB1 YB.out)) kpP_t (kpP_b (Nat.le_refl _)) (Below.refl _ _) (fun _ => rfl)
    (fun pre W => IC w Y (w.heap.size + 1) (putsF id [] (pre.map fun q => q.1.2.x)) W) (fun _ _ _ => False) (ic_own _ (by rw [YS.out]; omega) (by rw [YS.out]; omega)) (fun _ _ _ _ _ hs _ _ => hs)
    ⟨⟨[], MY.out, .nil⟩, BY.out, fun a v h => h⟩
    (fun x a' W => ∃ Bx, (W.cell? ⟨Bx, 0, none⟩ = some (.string x.1.2.x.f0) ∧ W.cell? ⟨Bx, 1, none⟩ = some (.int .i64 x.1.2.x.f1.f0) ∧ W.cell? ⟨Bx, 2, none⟩ = some (.int .i64 x.1.2.x.f1.f1) ∧ W.cell? ⟨Bx, 3, none⟩ = some (.string x.1.2.x.f1.f2) ∧ W.cell? ⟨Bx, 4, none⟩ = some (.slice x.1.2.A x.1.2.x.f1.f3.length x.1.2.c)) ∧ a' = { tmps := #[.slice A0 fi.length c0, .slice A1 th.length c1, undef, .pointer (some ⟨w.heap.size, 0, none⟩), .slice none 0 0, .pointer (some ⟨w.heap.size + 1 + 1, 0, none⟩), undef, .pointer (some ⟨Bx, 0, none⟩), undef, undef, undef, undef, undef, .map (some (w.heap.size + 1)), .slice A1 th.length c1, .func (.func 86) #[] #[.pointer (some ⟨X.heap.size, 0, none⟩)], .int .i64 (x.1.1 : Int), x.1.2.val, undef, undef, undef, undef, undef, undef, undef, undef, undef, undef, undef, undef, undef, undef, undef, undef, undef, undef, undef, undef, undef, undef, undef, undef, undef, undef, undef, undef, undef, undef, undef, undef, undef, undef, undef, undef, undef, undef, undef, undef, undef, undef, undef], defers := [] })
    (fun x a' _ W W' row hs hg hr => by
      obtain ⟨Bx, ⟨h1, h2, h3, h4, h5⟩, h6⟩ := hs
      have K : ∀ {a v}, W.cell? a = some v → W'.cell? a = some v := fun h => cell_kept h hg (fun r e => (hr r e).2)
      exact ⟨Bx, ⟨K h1, K h2, K h3, K h4, K h5⟩, h6⟩)
    ?assign ?body ?done ?stop
  case assign =>
    rintro l pre x W K hi hK
    have OW := ic_own (β := List (PA Y)) (w := w) (W1 := Y) (B := Y.heap.size) (bM := w.heap.size + 1) (fun pre => putsF id [] (pre.map fun q => q.1.2.x)) (by rw [YS.out]; omega) (by rw [YS.out]; omega)
    have HI : Hid _ := OwnFrom.alloc OW (Obj.cells #[.string x.1.2.x.f0, .int .i64 x.1.2.x.f1.f0, .int .i64 x.1.2.x.f1.f1, .string x.1.2.x.f1.f2, .slice x.1.2.A x.1.2.x.f1.f3.length x.1.2.c] 51) hi
    have C5 := cellsB5 (MapKept.heap_alloc W (Obj.cells #[.string x.1.2.x.f0, .int .i64 x.1.2.x.f1.f0, .int .i64 x.1.2.x.f1.f1, .string x.1.2.x.f1.f2, .slice x.1.2.A x.1.2.x.f1.f3.length x.1.2.c] 51)).1
    have HC : Hid _ := C5
    clear OW hi C5
    dsimp only [encP, PV.val]
    gi_wp2
    exact hK _ _ ((KeepsOthers.alloc _ _).from _) (fun a v _ hA => pw_cell_below (below_alloc (Below.refl _ _) _) hA) HI.out ⟨W.heap.size, HC.out, rfl⟩
  case body =>
    rintro l pre x a' W hl ⟨r, hr⟩ ⟨⟨m, hm, hrp⟩, hB, hKK⟩ ⟨Bx, ⟨q0, q1, q2, q3, q4⟩, rfl⟩ hlen
    have cB := hKK _ _ (cellB1 Y3.out)
    have HS : Hid (Stands W (formV x.1.2.x.f1.f0 x.1.2.x.f1.f1 x.1.2.x.f1.f2 x.1.2.A x.1.2.x.f1.f3.length x.1.2.c) x.1.2.x.f1) := ⟨_, _, rfl, x.2.1, C24_keep hKK x.2.2.1⟩
    have HMM : Hid _ := hm
    have HRP : Hid _ := hrp
    have HBB : Hid _ := hB
    have HKK : Hid _ := hKK
    clear hm hrp hB hKK hr hl hlen
    gi_wp2_with (gi_at_mapUpdate; refine law_updateIn keyText' rfl (.tmp 18) (.tmp 20) (.tmp 22) rfl hu72 hk HMM.out x.1.2.x.f0 (formV x.1.2.x.f1.f0 x.1.2.x.f1.f1 x.1.2.x.f1.f2 x.1.2.A x.1.2.x.f1.f3.length x.1.2.c) rfl rfl rfl ?_; intro w2 hm2 hg2)
    obtain ⟨h1, h2, h3⟩ := ic_put (B := Y.heap.size) (by omega) (by rw [YS.out]; omega) HMM.out HRP.out HBB.out HKK.out HS.out hm2 hg2
    exact ⟨h1, h2, by show IC _ _ _ (putsF id [] ((pre ++ [x]).map fun q => q.1.2.x)) _; rw [List.map_append, List.map_cons, List.map_nil, putsF_snoc]; exact h3⟩
  case done =>
    rintro D xs W hD hS hi hKD
    have e1 : xs.map (fun q => q.1.2.x) = th.reverse := by
      rw [hS]
      apply List.ext_getElem
      · simp [uptoF]
      · intro i h1 h2
        simp only [uptoF, List.map_map, List.length_map, List.length_range] at h1
        simp only [uptoF, List.map_map, List.getElem_map, List.getElem_range, Function.comp]
        rw [(HG.out (th.length - 1 - i) (by omega)).2.1, List.getElem_reverse]
    rw [e1] at hi
    obtain ⟨⟨m, hm, hrp⟩, hB, hKK⟩ := hi
    have D1 : Hid _ := hKD
    have HD1 : Hid _ := hD
    have MM : Hid _ := hm
    have RP : Hid _ := hrp
    have BW : Hid _ := hB
    have KY : Hid _ := hKK
    clear hKD hD hm hrp hB hKK hS e1 HG
    go_wp2_with fail
    refine (back_in A0 fi.length c0 W).mono ?_
    rintro e V ⟨rfl, hV⟩
    have bv : Below W.heap.size W V := by rw [hV]; exact below_alloc (Below.refl _ _) _
    have vb : V.heap[W.heap.size]? = some (.cells #[.slice A0 fi.length c0] 25 (0, 0)) := by rw [hV]; exact (MapKept.heap_alloc W _).1
    have vs : V.heap.size = W.heap.size + 1 := by rw [hV]; exact size_new _ _
    have BV : Hid (Below w.heap.size w V) := below_after BW.out bv
    have MV : Hid (MapAt V (w.heap.size + 1) (kvs textV m)) := MapAt.kept MM.out (grown_of_below bv none) (by simp)
    have ML : Hid (w.heap.size + 1 < V.heap.size) := MV.out.lt
    have RV : Hid _ := RP.out.keep (Keep.of_below bv)
    have KV : Hid (Keep Y V) := fun a v h => Keep.of_below bv a v (KY.out a v h)
    have VB : Hid _ := vb
    have D1V : Hid (V.heap[D]? = some (.deferred (some []))) := (bv.block D (Array.getElem?_eq_some_iff.1 D1.out).1).trans D1.out
    have DV : Hid (D < V.heap.size) := (Array.getElem?_eq_some_iff.1 D1V.out).1
    have DY : Hid (w.heap.size + 1 < D) := by have h9 := HD1.out; rw [YS.out] at h9; show _ < _; omega
    clear hV bv vb vs MM RP BW KY D1
    go_wp2_with fail
    obtain ⟨g2, hg2⟩ := row_pvs (Kd.C_below H0.out BV.out) W0.out
    have HG2 : Hid _ := hg2
    clear hg2
    refine (wpIn_wide (n := 20)).1 ?_
    refine wpIn_rangeFunc_ownH (F := Fence.wide) rfl (by omega) (gf := 86) (lb := #[.pointer (some ⟨W.heap.size, 0, none⟩)]) rfl trivial (enters_of Tryz.func86 (by kernel_rfl) rfl)
      (back_stops Fence.wide 19 trivial rfl (by omega) W.heap.size V A0 fi.length c0 g2 (by omega) (fun i hi => ⟨(HG2.out i hi).1, (HG2.out i hi).2.2⟩) (cellB1 VB.out)) kpP_t (kpP_b (Nat.le_refl _)) (Below.refl _ _) (fun _ => rfl)
      (fun pre W' => IC w V (w.heap.size + 1) (putsF (fun z => appM (findK th) z false) (putsF id [] th.reverse) (pre.map fun q => q.1.2.x)) W' ∧ W'.heap[D]? = some (.deferred (some []))) (fun _ _ _ => False) (OwnFrom.and (ic_own _ ML.out (by have := ML.out; omega)) (mark_own DV.out)) (fun _ _ _ _ _ hs _ _ => hs)
      ⟨⟨⟨m, MV.out, RV.out⟩, BV.out, fun a v h => h⟩, D1V.out⟩
      (fun x a' W' => ∃ Bx, (W'.cell? ⟨Bx, 0, none⟩ = some (.string x.1.2.x.f0) ∧ W'.cell? ⟨Bx, 1, none⟩ = some (.int .i64 x.1.2.x.f1.f0) ∧ W'.cell? ⟨Bx, 2, none⟩ = some (.int .i64 x.1.2.x.f1.f1) ∧ W'.cell? ⟨Bx, 3, none⟩ = some (.string x.1.2.x.f1.f2) ∧ W'.cell? ⟨Bx, 4, none⟩ = some (.slice x.1.2.A x.1.2.x.f1.f3.length x.1.2.c)) ∧ a' = { tmps := #[.slice A0 fi.length c0, .slice A1 th.length c1, undef, .pointer (some ⟨w.heap.size, 0, none⟩), .slice none 0 0, .pointer (some ⟨w.heap.size + 1 + 1, 0, none⟩), undef, undef, undef, .pointer (some ⟨Bx, 0, none⟩), undef, undef, undef, .map (some (w.heap.size + 1)), .slice A1 th.length c1, .func (.func 86) #[] #[.pointer (some ⟨X.heap.size, 0, none⟩)], undef, undef, undef, undef, undef, undef, undef, .slice A0 fi.length c0, .func (.func 86) #[] #[.pointer (some ⟨W.heap.size, 0, none⟩)], .int .i64 (x.1.1 : Int), x.1.2.val, undef, undef, undef, undef, undef, undef, undef, undef, undef, undef, undef, undef, undef, undef, undef, undef, undef, undef, undef, undef, undef, undef, undef, undef, undef, undef, undef, undef, undef, undef, undef, undef, undef, undef], defers := [] })
      (fun x a' _ U U' row hs hg hr => by
        obtain ⟨Bx, ⟨h1, h2, h3, h4, h5⟩, h6⟩ := hs
        have K : ∀ {a v}, U.cell? a = some v → U'.cell? a = some v := fun h => cell_kept h hg (fun r e => (hr r e).2)
        exact ⟨Bx, ⟨K h1, K h2, K h3, K h4, K h5⟩, h6⟩)
      ?assign2 ?body2 ?done2 ?stop2
    case assign2 =>
      rintro l pre x U K hi hK
      have OW := ic_own (β := List (PA V)) (w := w) (W1 := V) (B := V.heap.size) (bM := w.heap.size + 1) (fun pre => putsF (fun z => appM (findK th) z false) (putsF id [] th.reverse) (pre.map fun q => q.1.2.x)) ML.out (by have := ML.out; omega)
      have HI : Hid _ := OwnFrom.alloc (OwnFrom.and OW (mark_own DV.out)) (Obj.cells #[.string x.1.2.x.f0, .int .i64 x.1.2.x.f1.f0, .int .i64 x.1.2.x.f1.f1, .string x.1.2.x.f1.f2, .slice x.1.2.A x.1.2.x.f1.f3.length x.1.2.c] 51) hi
      have C5 := cellsB5 (MapKept.heap_alloc U (Obj.cells #[.string x.1.2.x.f0, .int .i64 x.1.2.x.f1.f0, .int .i64 x.1.2.x.f1.f1, .string x.1.2.x.f1.f2, .slice x.1.2.A x.1.2.x.f1.f3.length x.1.2.c] 51)).1
      have HC : Hid _ := C5
      clear OW hi C5
      dsimp only [encP, PV.val]
      gi_wp2
      exact hK _ _ ((KeepsOthers.alloc _ _).from _) (fun a v _ hA => pw_cell_below (below_alloc (Below.refl _ _) _) hA) HI.out ⟨U.heap.size, HC.out, rfl⟩
    case body2 =>
      rintro l pre x a' U hl ⟨r, hr⟩ ⟨⟨⟨m2, hm, hrp⟩, hB, hKK⟩, hdU⟩ ⟨Bx, ⟨q0, q1, q2, q3, q4⟩, rfl⟩ hlen
      refine wpIn_block ?_
      have cB := hKK _ _ (KV.out _ _ (cellB1 Y3.out))
      have cT := hKK _ _ (KV.out _ _ (cellB1 Y1.out))
      have SU : Hid (∀ Z, Below U.heap.size U Z → Z.cell? ⟨w.heap.size + 1 + 1, 0, none⟩ = some (.map (some (w.heap.size + 1))) ∧ Z.cell? ⟨w.heap.size, 0, none⟩ = some (.slice A1 th.length c1) ∧ Z.cell? ⟨Bx, 0, none⟩ = some (.string x.1.2.x.f0) ∧ Z.cell? ⟨Bx, 1, none⟩ = some (.int .i64 x.1.2.x.f1.f0) ∧ Z.cell? ⟨Bx, 2, none⟩ = some (.int .i64 x.1.2.x.f1.f1) ∧ Z.cell? ⟨Bx, 3, none⟩ = some (.string x.1.2.x.f1.f2) ∧ Z.cell? ⟨Bx, 4, none⟩ = some (.slice x.1.2.A x.1.2.x.f1.f3.length x.1.2.c)) := fun Z h => ⟨pw_cell_below h cB, pw_cell_below h cT, pw_cell_below h q0, pw_cell_below h q1, pw_cell_below h q2, pw_cell_below h q3, pw_cell_below h q4⟩
      have AP : Hid (∀ Z, Below U.heap.size U Z → _) := fun Z h => Apply_any x.1.2.x.f1 th Z (fun k => k < Z.heap.size) x.1.2.A A1 x.1.2.c c1 (Kd.C_F k24_heap (Kd.C_below (C24_keep hKK x.2.2.1) h)) x.2.1 (by have := x.2.2.2; omega) (Kd.C_F k51_heap (Kd.C_below H1.out (below_after hB h))) hc1 (by omega)
      obtain ⟨r9, hr9⟩ : ∃ r9, r9 = appM (findK th) x.1.2.x.f1 false := ⟨_, rfl⟩
      rw [← hr9] at AP
      have HR9 : Hid _ := hr9
      have HMM : Hid _ := hm
      have HRP : Hid _ := hrp
      have HBB : Hid _ := hB
      have HKK : Hid _ := hKK
      have HDU : Hid _ := hdU
      clear hm hrp hB hKK hr hl hlen hr9 q0 q1 q2 q3 q4 cB cT hdU
      refine wpIn_region_any (by kernel_rfl) (any_round (fun h => by obtain ⟨_, _, h⟩ := h; exact h) (noDefer_spec (by kernel_rfl)) _ _ _ _ (wpAny_of_held (S := fun Z => Z.cell? ⟨w.heap.size + 1 + 1, 0, none⟩ = some (.map (some (w.heap.size + 1))) ∧ Z.cell? ⟨w.heap.size, 0, none⟩ = some (.slice A1 th.length c1) ∧ Z.cell? ⟨Bx, 0, none⟩ = some (.string x.1.2.x.f0) ∧ Z.cell? ⟨Bx, 1, none⟩ = some (.int .i64 x.1.2.x.f1.f0) ∧ Z.cell? ⟨Bx, 2, none⟩ = some (.int .i64 x.1.2.x.f1.f1) ∧ Z.cell? ⟨Bx, 3, none⟩ = some (.string x.1.2.x.f1.f2) ∧ Z.cell? ⟨Bx, 4, none⟩ = some (.slice x.1.2.A x.1.2.x.f1.f3.length x.1.2.c)) _ _ _ _ ?_))
      have hHeld := SU.out _ (below_drew (Below.refl _ _))
      refine takeV 0 (some 27) (.map (some (w.heap.size + 1))) rfl rfl (by kernel_rfl) (by kernel_rfl) (by kernel_rfl) (fun _ _ _ h => h) (Or.inl ⟨by kernel_rfl, fun W hSw => by obtain ⟨s0, s1, s2, s3, s4, s5, s6⟩ := hSw; go_simp⟩) hHeld ?_
      try simp only [Act.put, List.setIfInBounds_toArray, List.set_cons_zero, List.set_cons_succ]
      refine takeV 1 (some 28) (.pointer (some ⟨Bx, 0, none⟩)) rfl rfl (by kernel_rfl) (by kernel_rfl) (by kernel_rfl) (fun _ _ _ h => h) (Or.inl ⟨by kernel_rfl, fun W hSw => by obtain ⟨s0, s1, s2, s3, s4, s5, s6⟩ := hSw; go_simp⟩) hHeld ?_
      try simp only [Act.put, List.setIfInBounds_toArray, List.set_cons_zero, List.set_cons_succ]
      refine takeV 2 (some 29) (.string x.1.2.x.f0) rfl rfl (by kernel_rfl) (by kernel_rfl) (by kernel_rfl) (fun _ _ _ h => h) (Or.inl ⟨by kernel_rfl, fun W hSw => by obtain ⟨s0, s1, s2, s3, s4, s5, s6⟩ := hSw; go_simp⟩) hHeld ?_
      try simp only [Act.put, List.setIfInBounds_toArray, List.set_cons_zero, List.set_cons_succ]
      refine takeV 3 (some 30) (.pointer (some ⟨Bx, 1, none⟩)) rfl rfl (by kernel_rfl) (by kernel_rfl) (by kernel_rfl) (fun _ _ _ h => h) (Or.inl ⟨by kernel_rfl, fun W hSw => by obtain ⟨s0, s1, s2, s3, s4, s5, s6⟩ := hSw; go_simp⟩) hHeld ?_
      try simp only [Act.put, List.setIfInBounds_toArray, List.set_cons_zero, List.set_cons_succ]
      refine takeV 4 (some 31) (formV x.1.2.x.f1.f0 x.1.2.x.f1.f1 x.1.2.x.f1.f2 x.1.2.A x.1.2.x.f1.f3.length x.1.2.c) rfl rfl (by kernel_rfl) (by kernel_rfl) (by kernel_rfl) (fun _ _ _ h => h) (Or.inl ⟨by kernel_rfl, fun W hSw => by obtain ⟨s0, s1, s2, s3, s4, s5, s6⟩ := hSw; go_simp⟩) hHeld ?_
      try simp only [Act.put, List.setIfInBounds_toArray, List.set_cons_zero, List.set_cons_succ]
      refine takeV 5 (some 32) (.slice A1 th.length c1) rfl rfl (by kernel_rfl) (by kernel_rfl) (by kernel_rfl) (fun _ _ _ h => h) (Or.inl ⟨by kernel_rfl, fun W hSw => by obtain ⟨s0, s1, s2, s3, s4, s5, s6⟩ := hSw; go_simp⟩) hHeld ?_
      try simp only [Act.put, List.setIfInBounds_toArray, List.set_cons_zero, List.set_cons_succ]
      have G0 : Hid (Below U.heap.size U U.drew) := below_drew (Below.refl _ _)
      refine wpAnyH_ready (rs := [6]) (by kernel_rfl) (by simp) ?_
      refine AllReadyH.cons rfl (fun K hK => ?_) AllReadyH.nil
      clear hHeld
      go_simp
      go_at_call 10
      refine Calls.mono (AP.out _ G0.out) ?_
      rintro e Z1 ⟨A3, c3, rfl, hc3, hF3, B7⟩
      have HZ1 : Hid (Below U.heap.size U Z1) := below_after G0.out B7
      have ST : Hid (Stands Z1 (formV r9.f0 r9.f1 r9.f2 A3 r9.f3.length c3) r9) := ⟨_, _, rfl, hc3, hF3 Z1 (fun _ _ _ => rfl)⟩
      clear B7 hc3 hF3
      go_wp2_with fail
      refine hK.out _ _ (SU.out _ HZ1.out) (fun hHeld => ?_)
      clear hK K
      try simp only [Act.put, List.setIfInBounds_toArray, List.set_cons_zero, List.set_cons_succ]
      refine wpAnyH_ready (rs := [7]) (by kernel_rfl) (by simp) ?_
      refine AllReadyH.cons rfl (fun K hK => ?_) AllReadyH.nil
      have MZ : Hid (MapAt Z1 (w.heap.size + 1) (kvs textV m2)) := MapAt.kept HMM.out (grown_of_below HZ1.out none) (by simp)
      refine update_step keyText' (by kernel_rfl) (.tmp 27) (.tmp 29) (.tmp 33) rfl hu72 hk MZ.out x.1.2.x.f0 (formV r9.f0 r9.f1 r9.f2 A3 r9.f3.length c3) rfl rfl rfl ?_
      intro Z2 hm2 hg2
      have KZ : Keep Z1 Z2 := keep_put MZ.out hg2
      obtain ⟨s0, s1, s2, s3, s4, s5, s6⟩ := hHeld
      refine hK.out _ _ ⟨KZ _ _ s0, KZ _ _ s1, KZ _ _ s2, KZ _ _ s3, KZ _ _ s4, KZ _ _ s5, KZ _ _ s6⟩ (fun hHeld => ?_)
      clear hK K
      try simp only [Act.put, List.setIfInBounds_toArray, List.set_cons_zero, List.set_cons_succ]
      refine wpAnyH_done (by kernel_rfl) ?_ _
      clear hHeld s0 s1 s2 s3 s4 s5 s6 KZ
      have h9 := ic_put (w := w) (W1 := V) (B := V.heap.size) (by omega) ML.out MZ.out (RepM.keep (Keep.of_below HZ1.out) HRP.out) (below_after HBB.out HZ1.out) (fun a v h => Keep.of_below HZ1.out a v (HKK.out a v h)) ST.out hm2 hg2
      refine ⟨KeepsFrom.trans ⟨HZ1.out.size, fun k o _ hk _ => (HZ1.out.block k (Array.getElem?_eq_some_iff.1 hk).1).trans hk⟩ h9.1, fun a v hB9 hA => h9.2.1 a v hB9 (Keep.of_below HZ1.out a v hA), ?_, ?_⟩
      · show IC _ _ _ (putsF _ _ ((pre ++ [x]).map fun q => q.1.2.x)) _
        rw [List.map_append, List.map_cons, List.map_nil, putsF_snoc, ← HR9.out]
        exact h9.2.2
      · have d1 := (HZ1.out.block D (Array.getElem?_eq_some_iff.1 HDU.out).1).trans HDU.out
        exact (hg2.block D (Array.getElem?_eq_some_iff.1 d1).1 (fun e => by have := DY.out; cases e; omega)).trans d1
    case done2 =>
      rintro D2 xs W2 hD2 hS hi hKD
      have e1 : xs.map (fun q => q.1.2.x) = fi.reverse := by
        rw [hS]
        apply List.ext_getElem
        · simp [uptoF]
        · intro i h1 h2
          simp only [uptoF, List.map_map, List.length_map, List.length_range] at h1
          simp only [uptoF, List.map_map, List.getElem_map, List.getElem_range, Function.comp]
          rw [(HG2.out (fi.length - 1 - i) (by omega)).2.1, List.getElem_reverse]
      rw [e1] at hi
      obtain ⟨⟨⟨m2, hm, hrp⟩, hB, hKK⟩, hdW⟩ := hi
      obtain ⟨sp, hsp⟩ : ∃ sp, sp = putsF (fun z => appM (findK th) z false) (putsF id [] th.reverse) fi.reverse := ⟨_, rfl⟩
      rw [← hsp] at hrp
      have hlk : ∀ s, lookS' sp s = fullK fi th s := by intro s; rw [hsp]; exact full_look fi th s
      have hnd : (sp.map (·.1)).Nodup := by rw [hsp]; exact putsF_nodup _ _ _ (putsF_nodup _ _ _ List.nodup_nil)
      have hln : sp.length < 8000000 := by
        have h1 := putsF_len (fun z => appM (findK th) z false) fi.reverse (putsF id [] th.reverse)
        have h2 := putsF_len id th.reverse []
        rw [hsp]
        simp only [List.length_reverse, List.length_nil] at h1 h2
        omega
      obtain ⟨es, cl, hes, hkv, hst⟩ := hm
      obtain ⟨hev, hne, hnf, hmem⟩ := ent_facts hrp hnd hkv
      have hesz : es.size < 8000000 := by
        have h1 := congrArg List.length (ent_raw hrp es.toList hkv).1
        simp only [List.length_map, Array.length_toList] at h1
        omega
      have hold : ∀ x ∈ es.toList, x.born < cl := fun x hx => hst.1 x hx
      have NB : Hid _ := hst.2.1
      have LK : Hid _ := hlk
      have EV : Hid _ := hev
      have NF : Hid _ := hnf
      have ME : Hid _ := hmem
      have ES : Hid _ := hes
      have OLD : Hid _ := hold
      have BW2 : Hid _ := hB
      have cT : W2.cell? ⟨w.heap.size + 1 + 1, 0, none⟩ = some (.map (some (w.heap.size + 1))) := hKK _ _ (KV.out _ _ (cellB1 Y3.out))
      have M2 : Hid _ := hdW
      have MD2 : Hid _ := hKD
      have HD2 : Hid (V.heap.size ≤ D2) := hD2
      have BMW : Hid (w.heap.size + 1 < W2.heap.size) := (Array.getElem?_eq_some_iff.1 hes).1
      have start : CR w W2 (w.heap.size + 1) W2.heap.size (W2.heap.size + 1) sp es cl es.size (.slice none 0 0) (W2.alloc (.mapIter (some (w.heap.size + 1)) cl #[] cl)) := by
        have hl0 : (leftOf es #[]).toList = es.toList := by unfold leftOf; simp
        refine ⟨#[], cl, [], ?_, (MapKept.heap_alloc W2 _).1, Nat.le_refl _, ?_, World.ownsRow_nil _ _ _ _, below_alloc (Below.refl _ _) _, by rw [size_new]; exact Nat.le_refl _, by simp, fun q hq => absurd hq List.not_mem_nil, ?_⟩
        · rw [(below_alloc (Below.refl _ _) _ : Below W2.heap.size W2 _).block _ BMW.out]; exact hes
        · rw [← Array.length_toList, hl0]; exact Array.length_toList
        · rw [hl0]; exact List.Perm.refl _
      have ST : Hid _ := start
      clear hKD hD2 hrp hB hKK hdW hsp hlk hnd hln hes hkv hst hev hne hnf hmem hold hS e1 HG2 start
      go_wp2_with (at_range; refine law_range rfl (.tmp 34) 72 9 24 rfl hu72 rfl ES.out ?_)
      clear cT
      generalize W2.alloc (Obj.mapIter (some (w.heap.size + 1)) cl #[] cl) = w5 at *
      go_frame
      go_wp2_with fail
      go_loopg [10] es.size (fun k x10 wr => CR w W2 (w.heap.size + 1) W2.heap.size (W2.heap.size + 1) sp es cl k x10 wr)
      case atStart => exact ST.out
      case round =>
        clear ST
        obtain ⟨seen, c9, out, hm9, hr9, hc9, hk9, ho9, hb9, hs9, hl9, hq9, hp9⟩ := hrel
        have M9 : Hid _ := hm9
        have R9 : Hid _ := hr9
        have C9 : Hid _ := hc9
        have LK9 : Hid _ := hk9
        have OW9 : Hid _ := ho9
        have B9 : Hid _ := hb9
        have SZ9 : Hid _ := hs9
        have LL9 : Hid _ := hl9
        have Q9 : Hid _ := hq9
        have P9 : Hid _ := hp9
        clear hm9 hr9 hc9 hk9 ho9 hb9 hs9 hl9 hq9 hp9
        go_wp2_with (at_next; refine law_next rfl (.tmp 35) rfl rfl R9.out M9.out OLD.out C9.out ?_ ?_)
        · intro h0
          have h0' : leftOf es seen = #[] := by first | exact h0 | exact Array.eq_empty_of_size_eq_zero h0
          have hPM := P9.out
          rw [h0'] at hPM
          have PM : Hid ((out.map (·.x)).Perm ((es.toList.map (elE sp)).filter keepS)) := by
            show List.Perm _ _
            simpa using hPM
          have hol : out.length < 9000000 := by have := LL9.out; omega
          have SR : Hid _ := sort_row OW9.out hol
          clear h0 h0' hPM hol
          go_wp2_with fail
          refine Calls.mono SR.out ?_
          rintro e w9 ⟨rfl, A9, c9x, ds', rfl, hc', hp', ho', hk', hb'⟩
          have BZ : Hid (Below W2.heap.size W2 w9) := B9.out.trans (hb' W2.heap.size (by omega))
          have HK' : Hid _ := hk'
          have HO' : Hid _ := ho'
          have HP' : Hid _ := hp'
          have HC' : Hid _ := hc'
          clear hc' hp' ho' hk' hb' SR
          go_wp2_with fail
          have m2 : w9.heap[D2]? = some (.deferred (some [])) := (BZ.out.block D2 (Array.getElem?_eq_some_iff.1 MD2.out).1).trans MD2.out
          have m1 : w9.heap[D]? = some (.deferred (some [])) := (BZ.out.block D (Array.getElem?_eq_some_iff.1 M2.out).1).trans M2.out
          have hDD : D ≠ D2 := by have := DV.out; have := HD2.out; omega
          have m1' : (w9.putObj D2 (.deferred none)).heap[D]? = some (.deferred (some [])) := (World.putObj_heap_other hDD).trans m1
          have g2 := grownBy_putObj' w9 D2 (.deferred none)
          have g1 := grownBy_putObj' (w9.putObj D2 (.deferred none)) D (.deferred none)
          have KZ : Keep w9 ((w9.putObj D2 (.deferred none)).putObj D (.deferred none)) := fun a v h => cell_kept (cell_kept h g2 (fun r e => by cases e; exact ⟨_, m2, rfl⟩)) g1 (fun r e => by cases e; exact ⟨_, m1', rfl⟩)
          have h9 : Below w.heap.size w w9 := below_after BW2.out BZ.out
          have hs9 : w.heap.size ≤ w9.heap.size := h9.size
          have hv := BV.out.size
          have h10 := h9.grown g2 hs9 (fun k e => by cases e; have := HD2.out; omega)
          have h11 := h10.grown g1 h10.size (fun k e => by cases e; have := DY.out; omega)
          have hcs := C51_keep KZ (HK'.out (fun q hq => by
            obtain ⟨q1, q2⟩ := Q9.out q (HP'.out.mem_iff.1 hq)
            exact ⟨q1, Kd.C_below q2 BZ.out⟩))
          have hic := comp_of NF.out ME.out LK.out ((HP'.out.map (·.x)).trans PM.out) HO'.out
          have hln : (ds'.map (·.x)).length = ds'.length := List.length_map _
          refine ⟨by simp, .inl ⟨_, _, rfl, run_takeDeferred m2, ?_⟩⟩
          refine ⟨by simp, .inl ⟨_, _, rfl, run_takeDeferred m1', ?_⟩⟩
          refine ⟨.slice A9 ds'.length c9x, results_tmp (fn := Tryz.f14) (t := 4) (by kernel_rfl) _ _ _, A9, c9x, ds'.map (·.x), by rw [hln], by rw [hln]; exact HC'.out, by rw [hln]; exact hcs, hic, h11⟩
        · intro e w1 he hal
          have he2 : e ∈ (leftOf es seen).toList := by first | exact he | simpa using he
          obtain ⟨x, hx, hek, A5, c5, hev5, hle5, hC5⟩ := EV.out e (left_mem he2)
          have hrw : W2.heap.size < wr.heap.size := by have := SZ9.out; omega
          have hmr : w.heap.size + 1 ≠ W2.heap.size := by have := BMW.out; omega
          have hh1 : w1.heap = wr.heap := by rcases hal with h | h <;> rw [h] <;> rfl
          have hb1 : Below W2.heap.size wr w1 := by
            rcases hal with h | h
            · rw [h]; exact Below.refl _ _
            · rw [h]; exact (Below.refl _ _).drew
          have hw6 : (setBlock w1 W2.heap.size (.mapIter (some (w.heap.size + 1)) cl (seen.push e.born) cl)).heap = wr.heap.setIfInBounds W2.heap.size (.mapIter (some (w.heap.size + 1)) cl (seen.push e.born) cl) := by
            show w1.heap.setIfInBounds W2.heap.size _ = _
            rw [hh1]
          have h6r : (setBlock w1 W2.heap.size (.mapIter (some (w.heap.size + 1)) cl (seen.push e.born) cl)).heap[W2.heap.size]? = some (.mapIter (some (w.heap.size + 1)) cl (seen.push e.born) cl) := by rw [hw6]; simp [hrw]
          have h6o : ∀ b, b ≠ W2.heap.size → (setBlock w1 W2.heap.size (.mapIter (some (w.heap.size + 1)) cl (seen.push e.born) cl)).heap[b]? = wr.heap[b]? := fun b hb => by
            rw [hw6, Array.getElem?_setIfInBounds_ne (fun q => hb q.symm)]
          have h6s : (setBlock w1 W2.heap.size (.mapIter (some (w.heap.size + 1)) cl (seen.push e.born) cl)).heap.size = wr.heap.size := by rw [hw6]; simp
          have hen := run_entry_at (P := Tryz.prog) _ W2.heap.size (w.heap.size + 1) cl seen es cl e h6r (by rw [h6o _ hmr]; exact M9.out) (left_mem he2) NB.out
          rw [hek, hev5] at hen
          have PL := left_push (left_nodup NB.out seen) he2
          rw [← leftOf_push] at PL
          have B6 : Hid (Below W2.heap.size W2 (setBlock w1 W2.heap.size (.mapIter (some (w.heap.size + 1)) cl (seen.push e.born) cl))) :=
            B9.out.trans ⟨hb1.os, hb1.tape, hb1.output, by rw [h6s]; exact Nat.le_refl _, fun b hb => h6o b (by omega)⟩
          have OW6 : Hid (World.ownsRow (setBlock w1 W2.heap.size (.mapIter (some (w.heap.size + 1)) cl (seen.push e.born) cl)) (W2.heap.size + 1) 51 5 u10 out.length (out.flatMap enc51)) := by
            obtain ⟨o1, o2⟩ := OW9.out
            refine ⟨o1, ?_⟩
            rcases o2 with o2 | ⟨g, cap, cur, o3, o4, o5, o6⟩
            · exact .inl o2
            · exact .inr ⟨g, cap, cur, o3, o4, (h6o g (by omega)).trans o5, o6⟩
          have PM3 : Hid (((out.map (·.x)) ++ ((e :: (leftOf es (seen.push e.born)).toList).map (elE sp)).filter keepS).Perm ((es.toList.map (elE sp)).filter keepS)) := by
            refine List.Perm.trans ?_ P9.out
            refine List.Perm.append_left _ ?_
            exact ((PL.map (elE sp)).filter _).symm
          have LK3 : Hid ((leftOf es (seen.push e.born)).size + 1 = gk) := by
            have h1 := PL.length_eq
            have h2 := LK9.out
            rw [List.length_cons, Array.length_toList, Array.length_toList] at h1
            show _ + 1 = _
            omega
          have M3 : Hid _ := (h6o _ hmr).trans M9.out
          have R3 : Hid _ := h6r
          have SZ3 : Hid (W2.heap.size + 1 ≤ (setBlock w1 W2.heap.size (.mapIter (some (w.heap.size + 1)) cl (seen.push e.born) cl)).heap.size) := by rw [h6s]; exact SZ9.out
          have EX : Hid (elE sp e = x) := hx
          have C6 : Hid _ := hC5
          have L6 : Hid _ := hle5
          generalize setBlock w1 W2.heap.size (.mapIter (some (w.heap.size + 1)) cl (seen.push e.born) cl) = w6 at *
          obtain ⟨m, rfl⟩ : ∃ m, gk = m + 1 := ⟨gk - 1, by have := LK3.out; omega⟩
          obtain ⟨nm, z0, z1, z2, z3⟩ := x
          simp only [] at hen hek hev5 C6 L6 EX
          have RES : Hid (∀ W, _) := fun W => reserved_any nm W
          obtain ⟨ti, hti⟩ := ti51
          have TI : Hid _ := hti
          clear hti
          rw [hek, hev5]
          clear he hal he2 hx hek hev5 hle5 hC5 hrw hmr hh1 hb1 hw6 h6r h6o h6s PL M9 R9 C9 LK9 OW9 B9 SZ9 P9
          go_wp2_with fail
          have X6 : Below w6.heap.size w6 (w6.alloc (.cells #[.int .i64 z0, .int .i64 z1, .string z2, .slice A5 z3.length c5] 24)) := below_alloc (Below.refl _ _) _
          have A6 := (MapKept.heap_alloc w6 (.cells #[.int .i64 z0, .int .i64 z1, .string z2, .slice A5 z3.length c5] 24)).1
          refine Calls.mono (RES.out _) ?_
          rintro e7 w7 ⟨rfl, B7⟩
          have a7 := (B7.block w6.heap.size (by rw [size_new]; exact Nat.lt_succ_self _)).trans A6
          obtain ⟨k0, k1, k2, k3⟩ := cells4 a7
          have B67 : Hid (Below w6.heap.size w6 w7) := below_after X6 B7
          clear B7 X6 A6 a7
          clear hen RES
          cases hrs : resM nm with
          | true =>
            have KS : Hid (keepS ⟨nm, ⟨z0, z1, z2, z3⟩⟩ = false) := by show keepS _ = _; unfold keepS; rw [hrs]; rfl
            clear hrs k0 k1 k2 k3
            go_wp2_with fail
            go_roundg m
            case measure => omega
            case rel => exact cr_skip M3.out R3.out OW6.out B6.out SZ3.out LL9.out Q9.out PM3.out LK3.out B67.out BMW.out EX.out KS.out
          | false =>
            have HRS : Hid (resM nm = false) := hrs
            have OW7 : Hid (World.ownsRow w7 (W2.heap.size + 1) 51 5 u10 out.length (out.flatMap enc51)) := own_after OW6.out B67.out
            have HOL : out.length < 8000000 := by have := LL9.out; omega
            clear hrs
            by_cases hz : z0 = 1
            · subst hz
              by_cases ht : z2 = nm
              · subst ht
                have KS : Hid (keepS ⟨z2, ⟨1, z1, z2, z3⟩⟩ = false) := by show keepS _ = _; unfold keepS plainP; simp
                go_wp2_with fail
                go_roundg m
                case measure => omega
                case rel => exact cr_skip M3.out R3.out OW6.out B6.out SZ3.out LL9.out Q9.out PM3.out LK3.out B67.out BMW.out EX.out KS.out
              · have KS : Hid (keepS ⟨nm, ⟨1, z1, z2, z3⟩⟩ = true) := by
                  show keepS _ = _; unfold keepS plainP; rw [HRS.out]
                  simp
                  exact fun e => ht (bytes_inj e)
                have hne2 : (z2.toList == nm.toList) = false := by simpa using (fun e => ht (bytes_inj e))
                have HT : Hid _ := ht
                clear ht
                go_wp2_with (at_builtin; refine wpList_append_own _ rfl (.tmp 52) (.tmp 56) 25 rfl (W2.heap.size + 1) 51 ti (.agg #[(.string ⟨#[]⟩), (.int .i64 0), (.int .i64 0), (.string ⟨#[]⟩), (.slice none 0 0)]) 5 72 hu25 TI.out.1 TI.out.2.1 TI.out.2.2.1 TI.out.2.2.2 rfl (by decide) u10 out.length (out.flatMap enc51) rfl (own_after OW7.out (below_alloc (Below.refl _ _) _)) ⟨w7.heap.size, 0, none⟩ 1 1 [.string nm, .int .i64 1, .int .i64 z1, .string z2, .slice A5 z3.length c5] rfl rfl news5 (by simp [Value.oneCell']) (by show _ ≤ 9223372036854775807; omega) (by omega) (by rw [size_new]; have := SZ3.out; have := B67.out.size; omega) ?_; intro v8 w8 hO8 hG8 _; have HO8 : Hid _ := hO8; have HG8 : Hid _ := hG8; clear hO8 hG8)
                go_roundg m
                case measure => omega
                case rel => exact cr_keep (A := A5) (c := c5) M3.out R3.out B6.out SZ3.out LL9.out Q9.out PM3.out LK3.out (Below.grown ((B67.out.mono SZ3.out).trans (below_alloc (Below.refl _ _) _ |>.mono (Nat.le_trans SZ3.out B67.out.size))) HG8.out (by rw [size_new]; have := SZ3.out; have := B67.out.size; omega) (own_base OW7.out)) BMW.out EX.out KS.out HO8.out L6.out C6.out
            · have KS : Hid (keepS ⟨nm, ⟨z0, z1, z2, z3⟩⟩ = true) := by
                show keepS _ = _; unfold keepS plainP; rw [HRS.out]; simp [hz]
              have hne1 : (z0 != 1) = true := by simpa using hz
              have HZ : Hid _ := hz
              clear hz
              go_wp2_with (at_builtin; refine wpList_append_own _ rfl (.tmp 52) (.tmp 56) 25 rfl (W2.heap.size + 1) 51 ti (.agg #[(.string ⟨#[]⟩), (.int .i64 0), (.int .i64 0), (.string ⟨#[]⟩), (.slice none 0 0)]) 5 72 hu25 TI.out.1 TI.out.2.1 TI.out.2.2.1 TI.out.2.2.2 rfl (by decide) u10 out.length (out.flatMap enc51) rfl (own_after OW7.out (below_alloc (Below.refl _ _) _)) ⟨w7.heap.size, 0, none⟩ 1 1 [.string nm, .int .i64 z0, .int .i64 z1, .string z2, .slice A5 z3.length c5] rfl rfl news5 (by simp [Value.oneCell']) (by show _ ≤ 9223372036854775807; omega) (by omega) (by rw [size_new]; have := SZ3.out; have := B67.out.size; omega) ?_; intro v8 w8 hO8 hG8 _; have HO8 : Hid _ := hO8; have HG8 : Hid _ := hG8; clear hO8 hG8)
              go_roundg m
              case measure => omega
              case rel => exact cr_keep (A := A5) (c := c5) M3.out R3.out B6.out SZ3.out LL9.out Q9.out PM3.out LK3.out (Below.grown ((B67.out.mono SZ3.out).trans (below_alloc (Below.refl _ _) _ |>.mono (Nat.le_trans SZ3.out B67.out.size))) HG8.out (by rw [size_new]; have := SZ3.out; have := B67.out.size; omega) (own_base OW7.out)) BMW.out EX.out KS.out HO8.out L6.out C6.out
    case stop2 =>
      rintro D c pre W _ _ h _
      exact h.elim
  case stop =>
    rintro D c pre W _ _ h _
    exact h.elim

end Go.Proofs.YtcjmplpfebpfpaaGreatDoor
