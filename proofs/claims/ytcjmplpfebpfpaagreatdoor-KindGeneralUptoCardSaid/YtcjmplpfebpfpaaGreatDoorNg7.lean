/- Part 7 of what the law's row leans on (Ng): the print's words and functions, cut to what is reached, and own texts. -/
import Derived.Deep.RegionLaw
import Derived.Deep.CutRange
import Derived.Deep.DeepCutAuto
import Derived.Deep.CutBlock
import Derived.Deep.RegionHeld3
import Derived.BigQuiet
import Derived.Lib.SliceRun
import Derived.Test.YtcjmplpfebpfpaaGreatDoorNg6
namespace Go.Proofs.YtcjmplpfebpfpaaGreatDoor.PKindInstances
open Go.RowKit Go.Proofs.YtcjmplpfebpfpaaGreatDoorW.PrintWords Go.Proofs.YtcjmplpfebpfpaaGreatDoorW.PrintLast Go.Proofs.YtcjmplpfebpfpaaGreatDoorW.PrintMore
attribute [local go_sem] max2_int min2_int max_two min_two max_three min_three max_four min_four   -- for this text's walks alone
set_option linter.unusedVariables false
set_option linter.unusedSimpArgs false

mutual
def plinthlaw03_listed.l0 : Nat → List (S24) → Int → Option (Bool)
  | 0, _, _ => none
  | k + 1, x0, x3 => if x3 < (x0.length : Int) then (if 0 ≤ x3 then ((plinthref01_Head.f ((rd_T24 x0 x3).f0) ((rd_T24 x0 x3).f1) ((rd_T24 x0 x3).f2) ((rd_T24 x0 x3).f3)).bind fun t127 => (if t127.toList = ([102, 117, 110] : List UInt8) then (if (((rd_T24 x0 x3).f3).length : Int) = 3 then (if 1 < (((rd_T24 x0 x3).f3).length : Int) then (if ((rd_T24 ((rd_T24 x0 x3).f3) 1).f0) = 3 then ((plinthlaw03_listed.f k ((rd_T24 x0 x3).f3)).bind fun t132 => (if t132 = true then (plinthlaw03_listed.l0 k x0 (wrap64 (x3 + 1))) else (some false))) else (some false)) else (none)) else (some false)) else ((plinthlaw03_listed.f k ((rd_T24 x0 x3).f3)).bind fun t134 => (if t134 = true then (plinthlaw03_listed.l0 k x0 (wrap64 (x3 + 1))) else (some false))))) else (none)) else (some true)
def plinthlaw03_listed.f : Nat → List (S24) → Option (Bool)
  | 0, _ => none
  | k + 1, l0 => plinthlaw03_listed.l0 k l0 0
end
set_option maxHeartbeats 8000000 in
set_option maxRecDepth 100000 in
theorem plinthlaw03_listed.calls (k : Nat) : ∀ (A0 : Option Addr) (c0 : Nat) (l0 : List (S24)) (r : Bool) (w : World) (hr0 : Kd.C k24 w A0 l0.length l0) (hc0 : l0.length ≤ c0) (h : plinthlaw03_listed.f k l0 = some r),
    Calls Tryz.prog 17 #[.slice A0 l0.length c0] w fun e w' => e = .returned (.bool r) ∧ Below w.heap.size w w' := by
  induction k using Nat.strongRecOn with
  | _ k ih =>
  intro A0 c0 l0 r w hr0 hc0 h
  cases k with
  | zero => exact absurd h (by simp [plinthlaw03_listed.f])
  | succ k =>
  simp only [plinthlaw03_listed.f] at h
  have hu24 := Tryz.underlying24
  have HR0 := Aside0.mk hr0
  have HC0 := Aside0.mk hc0
  clear hr0 hc0
  have HB := Aside0.mk (Below.refl w.heap.size w)
  have H : (plinthlaw03_listed.l0 k l0 0) = some r := h
  clear h
  have H' := Aside0.mk H
  clear H
  go_enter Tryz.func17, Tryz.ntmps17
  go_wp2
  go_loopg [3] k (fun kq v3 w' => ∃ (x3_1 : Int), v3 = .int .i64 x3_1 ∧ Aside0 (plinthlaw03_listed.l0 kq l0 x3_1 = some r) ∧ Aside0 (kq ≤ k) ∧ Aside0 (Below w.heap.size w w'))
  case atStart => exact ⟨(0), (by first | rfl | (simp; done) | (simp [*]; done)), H', ⟨Nat.le_refl _⟩, ⟨by repeat (first | (with_reducible first | exact HB.out | apply below_alloc | apply pw_below_drewN | apply below_drew1) | exact HB.out)⟩⟩
  case round =>
    clear H'
    try clear c1
    obtain ⟨x3_1, rfl, HA, HK1, HB⟩ := hrel
    cases gk with
    | zero => exact absurd HA.out (by simp [plinthlaw03_listed.l0])
    | succ k1 =>
      have H := HA.out
      clear HA
      simp only [plinthlaw03_listed.l0] at H
      by_cases c2 : x3_1 < (l0.length : Int)
      · rw [if_pos c2] at H
        have c2b0 : decide (x3_1 < (l0.length : Int)) = true := decide_eq_true c2
        clear c2
        by_cases c3 : 0 ≤ x3_1
        · rw [if_pos c3] at H
          have c3b0 : decide (0 ≤ x3_1) = true := decide_eq_true c3
          clear c3
          replace H := Option.bind_eq_some_iff.mp H
          obtain ⟨t127, A40, H⟩ := H
          replace H : (if t127.toList = ([102, 117, 110] : List UInt8) then (if (((rd_T24 l0 x3_1).f3).length : Int) = 3 then (if 1 < (((rd_T24 l0 x3_1).f3).length : Int) then (if ((rd_T24 ((rd_T24 l0 x3_1).f3) 1).f0) = 3 then ((plinthlaw03_listed.f k1 ((rd_T24 l0 x3_1).f3)).bind fun t132 => (if t132 = true then (plinthlaw03_listed.l0 k1 l0 (wrap64 (x3_1 + 1))) else (some false))) else (some false)) else (none)) else (some false)) else ((plinthlaw03_listed.f k1 ((rd_T24 l0 x3_1).f3)).bind fun t134 => (if t134 = true then (plinthlaw03_listed.l0 k1 l0 (wrap64 (x3_1 + 1))) else (some false)))) = some r := H
          have A4 := Aside0.mk A40
          clear A40
          by_cases c5 : t127.toList = ([102, 117, 110] : List UInt8)
          · rw [if_pos c5] at H
            have c5b0 : (t127.toList == ([102, 117, 110] : List UInt8)) = true := beq_iff_eq.mpr c5
            have c5b1 : (t127.toList != ([102, 117, 110] : List UInt8)) = false := bne_eq_false_iff_eq.mpr c5
            clear c5
            by_cases c6 : (((rd_T24 l0 x3_1).f3).length : Int) = 3
            · rw [if_pos c6] at H
              have c6b0 : ((((rd_T24 l0 x3_1).f3).length : Int) == 3) = true := beq_iff_eq.mpr c6
              have c6b1 : ((((rd_T24 l0 x3_1).f3).length : Int) != 3) = false := bne_eq_false_iff_eq.mpr c6
              clear c6
              by_cases c7 : 1 < (((rd_T24 l0 x3_1).f3).length : Int)
              · rw [if_pos c7] at H
                have c7b0 : decide (1 < (((rd_T24 l0 x3_1).f3).length : Int)) = true := decide_eq_true c7
                have c7b1 : decide (1 < ((rd_T24 l0 x3_1).f3).length) = true := decide_eq_true (by omega)
                clear c7
                by_cases c8 : ((rd_T24 ((rd_T24 l0 x3_1).f3) 1).f0) = 3
                · rw [if_pos c8] at H
                  have c8b0 : (((rd_T24 ((rd_T24 l0 x3_1).f3) 1).f0) == 3) = true := beq_iff_eq.mpr c8
                  have c8b1 : (((rd_T24 ((rd_T24 l0 x3_1).f3) 1).f0) != 3) = false := bne_eq_false_iff_eq.mpr c8
                  clear c8
                  replace H := Option.bind_eq_some_iff.mp H
                  obtain ⟨t132, A90, H⟩ := H
                  replace H : (if t132 = true then (plinthlaw03_listed.l0 k1 l0 (wrap64 (x3_1 + 1))) else (some false)) = some r := H
                  have A9 := Aside0.mk A90
                  clear A90
                  by_cases c10 : t132 = true
                  · subst c10
                    have H1 : (plinthlaw03_listed.l0 k1 l0 (wrap64 (x3_1 + 1))) = some r := by rw [if_pos rfl] at H; exact H
                    clear H
                    have H := H1
                    clear H1
                    have H' := Aside0.mk H
                    clear H
                    have p126 : 0 ≤ (x3_1 : Int) := of_decide_eq_true (by first | (with_reducible assumption) | assumption)
                    have q126 : x3_1 < (l0.length : Int) := of_decide_eq_true (by first | (with_reducible assumption) | assumption)
                    obtain ⟨ad126, A126_3, c126_3, e126, hx126_0, hx126_1, hx126_2, hx126_3, hl126_3, hi126_3⟩ := at_T24 HR0.out x3_1 p126 q126
                    cases e126
                    replace hx126_0 := (HB.out.cell (World.block_lt_of_cell? w _ hx126_0)).trans hx126_0
                    replace hx126_1 := (HB.out.cell (World.block_lt_of_cell? w _ hx126_1)).trans hx126_1
                    replace hx126_2 := (HB.out.cell (World.block_lt_of_cell? w _ hx126_2)).trans hx126_2
                    replace hx126_3 := (HB.out.cell (World.block_lt_of_cell? w _ hx126_3)).trans hx126_3
                    have HR126_3 := Aside0.mk hi126_3
                    have HC126_3 := Aside0.mk hl126_3
                    clear hi126_3 hl126_3
                    replace p126 := eq_true p126
                    replace q126 := eq_true q126
                    go_wp2_with (first | ((with_reducible refine gate_callee (f := 50) rfl ?_); refine goesL_ (some 14) rfl rfl Tryz.func50 (by kernel_rfl) rfl #[.agg #[.int .i64 ((rd_T24 l0 x3_1).f0), .int .i64 ((rd_T24 l0 x3_1).f1), .string ((rd_T24 l0 x3_1).f2), .slice A126_3 ((rd_T24 l0 x3_1).f3).length c126_3]] rfl (by (try simp only [List.map_toArray, List.map_cons, List.map_nil]); first | done | rfl | (simp only [List.length_drop, List.length_take]; rfl)) ?_; (with_reducible refine (plinthref01_Head.calls ((rd_T24 l0 x3_1).f0) ((rd_T24 l0 x3_1).f1) ((rd_T24 l0 x3_1).f2) _ _ ((rd_T24 l0 x3_1).f3) t127 _ ?side1 ?side2 A4.out).mono ?_); (case side1 => repeat (first | exact (Kd.C_below HR126_3.out HB.out) | (with_reducible refine Kd.C_alloc ?_ _) | (with_reducible refine Kd.C_drewN ?_ _) | (with_reducible refine Kd.C_drew ?_))); (case side2 => exact HC126_3.out); rintro e w11 ⟨rfl, hb⟩; refine ⟨_, rfl, ?_⟩; have n0_ := Aside0.mk (below_step (by repeat (first | (with_reducible first | exact HB.out | apply below_alloc | apply pw_below_drewN | apply below_drew1) | exact HB.out)) hb); clear HB; have HB := n0_; clear n0_; (try clear hb); (try clear hb2); (try clear hk); (try clear hi); have p128 : 0 ≤ (x3_1 : Int) := of_decide_eq_true (by first | (with_reducible assumption) | assumption); have q128 : x3_1 < (l0.length : Int) := of_decide_eq_true (by first | (with_reducible assumption) | assumption); obtain ⟨ad128, A128_3, c128_3, e128, hx128_0, hx128_1, hx128_2, hx128_3, hl128_3, hi128_3⟩ := at_T24 HR0.out x3_1 p128 q128; obtain rfl : ad126 = ad128 := (by injection e128); replace hx128_0 := (HB.out.cell (World.block_lt_of_cell? w _ hx128_0)).trans hx128_0; replace hx128_1 := (HB.out.cell (World.block_lt_of_cell? w _ hx128_1)).trans hx128_1; replace hx128_2 := (HB.out.cell (World.block_lt_of_cell? w _ hx128_2)).trans hx128_2; replace hx128_3 := (HB.out.cell (World.block_lt_of_cell? w _ hx128_3)).trans hx128_3; have HR128_3 := Aside0.mk hi128_3; have HC128_3 := Aside0.mk hl128_3; clear hi128_3 hl128_3; replace p128 := eq_true p128; replace q128 := eq_true q128; have p129 : 0 ≤ (x3_1 : Int) := of_decide_eq_true (by first | (with_reducible assumption) | assumption); have q129 : x3_1 < (l0.length : Int) := of_decide_eq_true (by first | (with_reducible assumption) | assumption); obtain ⟨ad129, A129_3, c129_3, e129, hx129_0, hx129_1, hx129_2, hx129_3, hl129_3, hi129_3⟩ := at_T24 HR0.out x3_1 p129 q129; obtain rfl : ad126 = ad129 := (by injection e129); replace hx129_0 := (HB.out.cell (World.block_lt_of_cell? w _ hx129_0)).trans hx129_0; replace hx129_1 := (HB.out.cell (World.block_lt_of_cell? w _ hx129_1)).trans hx129_1; replace hx129_2 := (HB.out.cell (World.block_lt_of_cell? w _ hx129_2)).trans hx129_2; replace hx129_3 := (HB.out.cell (World.block_lt_of_cell? w _ hx129_3)).trans hx129_3; have HR129_3 := Aside0.mk hi129_3; have HC129_3 := Aside0.mk hl129_3; clear hi129_3 hl129_3; replace p129 := eq_true p129; replace q129 := eq_true q129; have ea_ := Option.some.inj (hx128_3.symm.trans hx129_3); injection ea_ with ea_ en_ ec_; subst ea_; subst ec_; clear en_; have p130 : 0 ≤ (1 : Int) := (by omega); have q130 : 1 < (((rd_T24 l0 x3_1).f3).length : Int) := of_decide_eq_true (by first | (with_reducible assumption) | assumption); obtain ⟨ad130, A130_3, c130_3, e130, hx130_0, hx130_1, hx130_2, hx130_3, hl130_3, hi130_3⟩ := at_T24 HR129_3.out 1 p130 q130; cases e130; (try simp only [show (1 : Int).toNat = 1 from rfl, Nat.reduceMul, Nat.reduceEqDiff, Go.Addr.add, ↓reduceIte] at hx130_0); (try simp only [show (1 : Int).toNat = 1 from rfl, Nat.reduceMul, Nat.reduceEqDiff, Go.Addr.add, ↓reduceIte] at hx130_1); (try simp only [show (1 : Int).toNat = 1 from rfl, Nat.reduceMul, Nat.reduceEqDiff, Go.Addr.add, ↓reduceIte] at hx130_2); (try simp only [show (1 : Int).toNat = 1 from rfl, Nat.reduceMul, Nat.reduceEqDiff, Go.Addr.add, ↓reduceIte] at hx130_3); have qi130 : (1 < ((rd_T24 l0 x3_1).f3).length) = True := eq_true (by omega); (try rw [show ((1 : Int)).toNat = 1 from rfl] at hx130_0); (try rw [show 1 * 4 = 4 from rfl] at hx130_0); (try rw [show ((1 : Int)).toNat = 1 from rfl] at hx130_1); (try rw [show 1 * 4 = 4 from rfl] at hx130_1); (try rw [show ((1 : Int)).toNat = 1 from rfl] at hx130_2); (try rw [show 1 * 4 = 4 from rfl] at hx130_2); (try rw [show ((1 : Int)).toNat = 1 from rfl] at hx130_3); (try rw [show 1 * 4 = 4 from rfl] at hx130_3); replace hx130_0 := (HB.out.cell (World.block_lt_of_cell? w _ hx130_0)).trans hx130_0; replace hx130_1 := (HB.out.cell (World.block_lt_of_cell? w _ hx130_1)).trans hx130_1; replace hx130_2 := (HB.out.cell (World.block_lt_of_cell? w _ hx130_2)).trans hx130_2; replace hx130_3 := (HB.out.cell (World.block_lt_of_cell? w _ hx130_3)).trans hx130_3; have HR130_3 := Aside0.mk hi130_3; have HC130_3 := Aside0.mk hl130_3; clear hi130_3 hl130_3; replace p130 := eq_true p130; replace q130 := eq_true q130; have p131 : 0 ≤ (x3_1 : Int) := of_decide_eq_true (by first | (with_reducible assumption) | assumption); have q131 : x3_1 < (l0.length : Int) := of_decide_eq_true (by first | (with_reducible assumption) | assumption); obtain ⟨ad131, A131_3, c131_3, e131, hx131_0, hx131_1, hx131_2, hx131_3, hl131_3, hi131_3⟩ := at_T24 HR0.out x3_1 p131 q131; obtain rfl : ad126 = ad131 := (by injection e131); replace hx131_0 := (HB.out.cell (World.block_lt_of_cell? w _ hx131_0)).trans hx131_0; replace hx131_1 := (HB.out.cell (World.block_lt_of_cell? w _ hx131_1)).trans hx131_1; replace hx131_2 := (HB.out.cell (World.block_lt_of_cell? w _ hx131_2)).trans hx131_2; replace hx131_3 := (HB.out.cell (World.block_lt_of_cell? w _ hx131_3)).trans hx131_3; have HR131_3 := Aside0.mk hi131_3; have HC131_3 := Aside0.mk hl131_3; clear hi131_3 hl131_3; replace p131 := eq_true p131; replace q131 := eq_true q131; have ea_ := Option.some.inj (hx128_3.symm.trans hx131_3); injection ea_ with ea_ en_ ec_; subst ea_; subst ec_; clear en_) | (go_at_call 17; (with_reducible refine (ih k1 (by have := HK1.out; omega) _ _ ((rd_T24 l0 x3_1).f3) true _ ?side1 ?side2 A9.out).mono ?_); (case side1 => repeat (first | exact (Kd.C_below HR131_3.out HB.out) | (with_reducible refine Kd.C_alloc ?_ _) | (with_reducible refine Kd.C_drewN ?_ _) | (with_reducible refine Kd.C_drew ?_))); (case side2 => exact HC131_3.out); rintro e w12 ⟨rfl, hb⟩; have n0_ := Aside0.mk (below_step (by repeat (first | (with_reducible first | exact HB.out | apply below_alloc | apply pw_below_drewN | apply below_drew1) | exact HB.out)) hb); clear HB; have HB := n0_; clear n0_; (try clear hb); (try clear hb2); (try clear hk); (try clear hi)))
                    go_roundg k1
                    case measure => have := HK1.out; omega
                    case rel => exact ⟨(wrap64 (x3_1 + 1)), (by first | rfl | (simp; done) | (simp [*]; done)), H', ⟨by have := HK1.out; omega⟩, ⟨by repeat (first | (with_reducible first | exact HB.out | apply below_alloc | apply pw_below_drewN | apply below_drew1) | exact HB.out)⟩⟩
                  · replace c10 := Bool.eq_false_iff.mpr c10
                    subst c10
                    have H1 : (some false) = some r := by rw [if_neg (show ¬ (false = true) by decide)] at H; exact H
                    clear H
                    have H := H1
                    clear H1
                    obtain rfl := Option.some.inj H
                    have p126 : 0 ≤ (x3_1 : Int) := of_decide_eq_true (by first | (with_reducible assumption) | assumption)
                    have q126 : x3_1 < (l0.length : Int) := of_decide_eq_true (by first | (with_reducible assumption) | assumption)
                    obtain ⟨ad126, A126_3, c126_3, e126, hx126_0, hx126_1, hx126_2, hx126_3, hl126_3, hi126_3⟩ := at_T24 HR0.out x3_1 p126 q126
                    cases e126
                    replace hx126_0 := (HB.out.cell (World.block_lt_of_cell? w _ hx126_0)).trans hx126_0
                    replace hx126_1 := (HB.out.cell (World.block_lt_of_cell? w _ hx126_1)).trans hx126_1
                    replace hx126_2 := (HB.out.cell (World.block_lt_of_cell? w _ hx126_2)).trans hx126_2
                    replace hx126_3 := (HB.out.cell (World.block_lt_of_cell? w _ hx126_3)).trans hx126_3
                    have HR126_3 := Aside0.mk hi126_3
                    have HC126_3 := Aside0.mk hl126_3
                    clear hi126_3 hl126_3
                    replace p126 := eq_true p126
                    replace q126 := eq_true q126
                    go_wp2_with (first | ((with_reducible refine gate_callee (f := 50) rfl ?_); refine goesL_ (some 14) rfl rfl Tryz.func50 (by kernel_rfl) rfl #[.agg #[.int .i64 ((rd_T24 l0 x3_1).f0), .int .i64 ((rd_T24 l0 x3_1).f1), .string ((rd_T24 l0 x3_1).f2), .slice A126_3 ((rd_T24 l0 x3_1).f3).length c126_3]] rfl (by (try simp only [List.map_toArray, List.map_cons, List.map_nil]); first | done | rfl | (simp only [List.length_drop, List.length_take]; rfl)) ?_; (with_reducible refine (plinthref01_Head.calls ((rd_T24 l0 x3_1).f0) ((rd_T24 l0 x3_1).f1) ((rd_T24 l0 x3_1).f2) _ _ ((rd_T24 l0 x3_1).f3) t127 _ ?side1 ?side2 A4.out).mono ?_); (case side1 => repeat (first | exact (Kd.C_below HR126_3.out HB.out) | (with_reducible refine Kd.C_alloc ?_ _) | (with_reducible refine Kd.C_drewN ?_ _) | (with_reducible refine Kd.C_drew ?_))); (case side2 => exact HC126_3.out); rintro e w13 ⟨rfl, hb⟩; refine ⟨_, rfl, ?_⟩; have n0_ := Aside0.mk (below_step (by repeat (first | (with_reducible first | exact HB.out | apply below_alloc | apply pw_below_drewN | apply below_drew1) | exact HB.out)) hb); clear HB; have HB := n0_; clear n0_; (try clear hb); (try clear hb2); (try clear hk); (try clear hi); have p128 : 0 ≤ (x3_1 : Int) := of_decide_eq_true (by first | (with_reducible assumption) | assumption); have q128 : x3_1 < (l0.length : Int) := of_decide_eq_true (by first | (with_reducible assumption) | assumption); obtain ⟨ad128, A128_3, c128_3, e128, hx128_0, hx128_1, hx128_2, hx128_3, hl128_3, hi128_3⟩ := at_T24 HR0.out x3_1 p128 q128; obtain rfl : ad126 = ad128 := (by injection e128); replace hx128_0 := (HB.out.cell (World.block_lt_of_cell? w _ hx128_0)).trans hx128_0; replace hx128_1 := (HB.out.cell (World.block_lt_of_cell? w _ hx128_1)).trans hx128_1; replace hx128_2 := (HB.out.cell (World.block_lt_of_cell? w _ hx128_2)).trans hx128_2; replace hx128_3 := (HB.out.cell (World.block_lt_of_cell? w _ hx128_3)).trans hx128_3; have HR128_3 := Aside0.mk hi128_3; have HC128_3 := Aside0.mk hl128_3; clear hi128_3 hl128_3; replace p128 := eq_true p128; replace q128 := eq_true q128; have p129 : 0 ≤ (x3_1 : Int) := of_decide_eq_true (by first | (with_reducible assumption) | assumption); have q129 : x3_1 < (l0.length : Int) := of_decide_eq_true (by first | (with_reducible assumption) | assumption); obtain ⟨ad129, A129_3, c129_3, e129, hx129_0, hx129_1, hx129_2, hx129_3, hl129_3, hi129_3⟩ := at_T24 HR0.out x3_1 p129 q129; obtain rfl : ad126 = ad129 := (by injection e129); replace hx129_0 := (HB.out.cell (World.block_lt_of_cell? w _ hx129_0)).trans hx129_0; replace hx129_1 := (HB.out.cell (World.block_lt_of_cell? w _ hx129_1)).trans hx129_1; replace hx129_2 := (HB.out.cell (World.block_lt_of_cell? w _ hx129_2)).trans hx129_2; replace hx129_3 := (HB.out.cell (World.block_lt_of_cell? w _ hx129_3)).trans hx129_3; have HR129_3 := Aside0.mk hi129_3; have HC129_3 := Aside0.mk hl129_3; clear hi129_3 hl129_3; replace p129 := eq_true p129; replace q129 := eq_true q129; have ea_ := Option.some.inj (hx128_3.symm.trans hx129_3); injection ea_ with ea_ en_ ec_; subst ea_; subst ec_; clear en_; have p130 : 0 ≤ (1 : Int) := (by omega); have q130 : 1 < (((rd_T24 l0 x3_1).f3).length : Int) := of_decide_eq_true (by first | (with_reducible assumption) | assumption); obtain ⟨ad130, A130_3, c130_3, e130, hx130_0, hx130_1, hx130_2, hx130_3, hl130_3, hi130_3⟩ := at_T24 HR129_3.out 1 p130 q130; cases e130; (try simp only [show (1 : Int).toNat = 1 from rfl, Nat.reduceMul, Nat.reduceEqDiff, Go.Addr.add, ↓reduceIte] at hx130_0); (try simp only [show (1 : Int).toNat = 1 from rfl, Nat.reduceMul, Nat.reduceEqDiff, Go.Addr.add, ↓reduceIte] at hx130_1); (try simp only [show (1 : Int).toNat = 1 from rfl, Nat.reduceMul, Nat.reduceEqDiff, Go.Addr.add, ↓reduceIte] at hx130_2); (try simp only [show (1 : Int).toNat = 1 from rfl, Nat.reduceMul, Nat.reduceEqDiff, Go.Addr.add, ↓reduceIte] at hx130_3); have qi130 : (1 < ((rd_T24 l0 x3_1).f3).length) = True := eq_true (by omega); (try rw [show ((1 : Int)).toNat = 1 from rfl] at hx130_0); (try rw [show 1 * 4 = 4 from rfl] at hx130_0); (try rw [show ((1 : Int)).toNat = 1 from rfl] at hx130_1); (try rw [show 1 * 4 = 4 from rfl] at hx130_1); (try rw [show ((1 : Int)).toNat = 1 from rfl] at hx130_2); (try rw [show 1 * 4 = 4 from rfl] at hx130_2); (try rw [show ((1 : Int)).toNat = 1 from rfl] at hx130_3); (try rw [show 1 * 4 = 4 from rfl] at hx130_3); replace hx130_0 := (HB.out.cell (World.block_lt_of_cell? w _ hx130_0)).trans hx130_0; replace hx130_1 := (HB.out.cell (World.block_lt_of_cell? w _ hx130_1)).trans hx130_1; replace hx130_2 := (HB.out.cell (World.block_lt_of_cell? w _ hx130_2)).trans hx130_2; replace hx130_3 := (HB.out.cell (World.block_lt_of_cell? w _ hx130_3)).trans hx130_3; have HR130_3 := Aside0.mk hi130_3; have HC130_3 := Aside0.mk hl130_3; clear hi130_3 hl130_3; replace p130 := eq_true p130; replace q130 := eq_true q130; have p131 : 0 ≤ (x3_1 : Int) := of_decide_eq_true (by first | (with_reducible assumption) | assumption); have q131 : x3_1 < (l0.length : Int) := of_decide_eq_true (by first | (with_reducible assumption) | assumption); obtain ⟨ad131, A131_3, c131_3, e131, hx131_0, hx131_1, hx131_2, hx131_3, hl131_3, hi131_3⟩ := at_T24 HR0.out x3_1 p131 q131; obtain rfl : ad126 = ad131 := (by injection e131); replace hx131_0 := (HB.out.cell (World.block_lt_of_cell? w _ hx131_0)).trans hx131_0; replace hx131_1 := (HB.out.cell (World.block_lt_of_cell? w _ hx131_1)).trans hx131_1; replace hx131_2 := (HB.out.cell (World.block_lt_of_cell? w _ hx131_2)).trans hx131_2; replace hx131_3 := (HB.out.cell (World.block_lt_of_cell? w _ hx131_3)).trans hx131_3; have HR131_3 := Aside0.mk hi131_3; have HC131_3 := Aside0.mk hl131_3; clear hi131_3 hl131_3; replace p131 := eq_true p131; replace q131 := eq_true q131; have ea_ := Option.some.inj (hx128_3.symm.trans hx131_3); injection ea_ with ea_ en_ ec_; subst ea_; subst ec_; clear en_) | (go_at_call 17; (with_reducible refine (ih k1 (by have := HK1.out; omega) _ _ ((rd_T24 l0 x3_1).f3) false _ ?side1 ?side2 A9.out).mono ?_); (case side1 => repeat (first | exact (Kd.C_below HR131_3.out HB.out) | (with_reducible refine Kd.C_alloc ?_ _) | (with_reducible refine Kd.C_drewN ?_ _) | (with_reducible refine Kd.C_drew ?_))); (case side2 => exact HC131_3.out); rintro e w14 ⟨rfl, hb⟩; have n0_ := Aside0.mk (below_step (by repeat (first | (with_reducible first | exact HB.out | apply below_alloc | apply pw_below_drewN | apply below_drew1) | exact HB.out)) hb); clear HB; have HB := n0_; clear n0_; (try clear hb); (try clear hb2); (try clear hk); (try clear hi)))
                    go_ret
                    exact ⟨by first | rfl | (simp [errW_none, errW_some] <;> rfl) | (simp [*, errW_none, errW_some] <;> rfl), by repeat (first | (with_reducible first | exact HB.out | apply below_alloc | apply pw_below_drewN | apply below_drew1) | exact HB.out)⟩
                · rw [if_neg c8] at H
                  have c8b0 : (((rd_T24 ((rd_T24 l0 x3_1).f3) 1).f0) == 3) = false := beq_eq_false_iff_ne.mpr c8
                  have c8b1 : (((rd_T24 ((rd_T24 l0 x3_1).f3) 1).f0) != 3) = true := bne_iff_ne.mpr c8
                  obtain rfl := Option.some.inj H
                  have p126 : 0 ≤ (x3_1 : Int) := of_decide_eq_true (by first | (with_reducible assumption) | assumption)
                  have q126 : x3_1 < (l0.length : Int) := of_decide_eq_true (by first | (with_reducible assumption) | assumption)
                  obtain ⟨ad126, A126_3, c126_3, e126, hx126_0, hx126_1, hx126_2, hx126_3, hl126_3, hi126_3⟩ := at_T24 HR0.out x3_1 p126 q126
                  cases e126
                  replace hx126_0 := (HB.out.cell (World.block_lt_of_cell? w _ hx126_0)).trans hx126_0
                  replace hx126_1 := (HB.out.cell (World.block_lt_of_cell? w _ hx126_1)).trans hx126_1
                  replace hx126_2 := (HB.out.cell (World.block_lt_of_cell? w _ hx126_2)).trans hx126_2
                  replace hx126_3 := (HB.out.cell (World.block_lt_of_cell? w _ hx126_3)).trans hx126_3
                  have HR126_3 := Aside0.mk hi126_3
                  have HC126_3 := Aside0.mk hl126_3
                  clear hi126_3 hl126_3
                  replace p126 := eq_true p126
                  replace q126 := eq_true q126
                  go_wp2_with (first | ((with_reducible refine gate_callee (f := 50) rfl ?_); refine goesL_ (some 14) rfl rfl Tryz.func50 (by kernel_rfl) rfl #[.agg #[.int .i64 ((rd_T24 l0 x3_1).f0), .int .i64 ((rd_T24 l0 x3_1).f1), .string ((rd_T24 l0 x3_1).f2), .slice A126_3 ((rd_T24 l0 x3_1).f3).length c126_3]] rfl (by (try simp only [List.map_toArray, List.map_cons, List.map_nil]); first | done | rfl | (simp only [List.length_drop, List.length_take]; rfl)) ?_; (with_reducible refine (plinthref01_Head.calls ((rd_T24 l0 x3_1).f0) ((rd_T24 l0 x3_1).f1) ((rd_T24 l0 x3_1).f2) _ _ ((rd_T24 l0 x3_1).f3) t127 _ ?side1 ?side2 A4.out).mono ?_); (case side1 => repeat (first | exact (Kd.C_below HR126_3.out HB.out) | (with_reducible refine Kd.C_alloc ?_ _) | (with_reducible refine Kd.C_drewN ?_ _) | (with_reducible refine Kd.C_drew ?_))); (case side2 => exact HC126_3.out); rintro e w15 ⟨rfl, hb⟩; refine ⟨_, rfl, ?_⟩; have n0_ := Aside0.mk (below_step (by repeat (first | (with_reducible first | exact HB.out | apply below_alloc | apply pw_below_drewN | apply below_drew1) | exact HB.out)) hb); clear HB; have HB := n0_; clear n0_; (try clear hb); (try clear hb2); (try clear hk); (try clear hi); have p128 : 0 ≤ (x3_1 : Int) := of_decide_eq_true (by first | (with_reducible assumption) | assumption); have q128 : x3_1 < (l0.length : Int) := of_decide_eq_true (by first | (with_reducible assumption) | assumption); obtain ⟨ad128, A128_3, c128_3, e128, hx128_0, hx128_1, hx128_2, hx128_3, hl128_3, hi128_3⟩ := at_T24 HR0.out x3_1 p128 q128; obtain rfl : ad126 = ad128 := (by injection e128); replace hx128_0 := (HB.out.cell (World.block_lt_of_cell? w _ hx128_0)).trans hx128_0; replace hx128_1 := (HB.out.cell (World.block_lt_of_cell? w _ hx128_1)).trans hx128_1; replace hx128_2 := (HB.out.cell (World.block_lt_of_cell? w _ hx128_2)).trans hx128_2; replace hx128_3 := (HB.out.cell (World.block_lt_of_cell? w _ hx128_3)).trans hx128_3; have HR128_3 := Aside0.mk hi128_3; have HC128_3 := Aside0.mk hl128_3; clear hi128_3 hl128_3; replace p128 := eq_true p128; replace q128 := eq_true q128; have p129 : 0 ≤ (x3_1 : Int) := of_decide_eq_true (by first | (with_reducible assumption) | assumption); have q129 : x3_1 < (l0.length : Int) := of_decide_eq_true (by first | (with_reducible assumption) | assumption); obtain ⟨ad129, A129_3, c129_3, e129, hx129_0, hx129_1, hx129_2, hx129_3, hl129_3, hi129_3⟩ := at_T24 HR0.out x3_1 p129 q129; obtain rfl : ad126 = ad129 := (by injection e129); replace hx129_0 := (HB.out.cell (World.block_lt_of_cell? w _ hx129_0)).trans hx129_0; replace hx129_1 := (HB.out.cell (World.block_lt_of_cell? w _ hx129_1)).trans hx129_1; replace hx129_2 := (HB.out.cell (World.block_lt_of_cell? w _ hx129_2)).trans hx129_2; replace hx129_3 := (HB.out.cell (World.block_lt_of_cell? w _ hx129_3)).trans hx129_3; have HR129_3 := Aside0.mk hi129_3; have HC129_3 := Aside0.mk hl129_3; clear hi129_3 hl129_3; replace p129 := eq_true p129; replace q129 := eq_true q129; have ea_ := Option.some.inj (hx128_3.symm.trans hx129_3); injection ea_ with ea_ en_ ec_; subst ea_; subst ec_; clear en_; have p130 : 0 ≤ (1 : Int) := (by omega); have q130 : 1 < (((rd_T24 l0 x3_1).f3).length : Int) := of_decide_eq_true (by first | (with_reducible assumption) | assumption); obtain ⟨ad130, A130_3, c130_3, e130, hx130_0, hx130_1, hx130_2, hx130_3, hl130_3, hi130_3⟩ := at_T24 HR129_3.out 1 p130 q130; cases e130; (try simp only [show (1 : Int).toNat = 1 from rfl, Nat.reduceMul, Nat.reduceEqDiff, Go.Addr.add, ↓reduceIte] at hx130_0); (try simp only [show (1 : Int).toNat = 1 from rfl, Nat.reduceMul, Nat.reduceEqDiff, Go.Addr.add, ↓reduceIte] at hx130_1); (try simp only [show (1 : Int).toNat = 1 from rfl, Nat.reduceMul, Nat.reduceEqDiff, Go.Addr.add, ↓reduceIte] at hx130_2); (try simp only [show (1 : Int).toNat = 1 from rfl, Nat.reduceMul, Nat.reduceEqDiff, Go.Addr.add, ↓reduceIte] at hx130_3); have qi130 : (1 < ((rd_T24 l0 x3_1).f3).length) = True := eq_true (by omega); (try rw [show ((1 : Int)).toNat = 1 from rfl] at hx130_0); (try rw [show 1 * 4 = 4 from rfl] at hx130_0); (try rw [show ((1 : Int)).toNat = 1 from rfl] at hx130_1); (try rw [show 1 * 4 = 4 from rfl] at hx130_1); (try rw [show ((1 : Int)).toNat = 1 from rfl] at hx130_2); (try rw [show 1 * 4 = 4 from rfl] at hx130_2); (try rw [show ((1 : Int)).toNat = 1 from rfl] at hx130_3); (try rw [show 1 * 4 = 4 from rfl] at hx130_3); replace hx130_0 := (HB.out.cell (World.block_lt_of_cell? w _ hx130_0)).trans hx130_0; replace hx130_1 := (HB.out.cell (World.block_lt_of_cell? w _ hx130_1)).trans hx130_1; replace hx130_2 := (HB.out.cell (World.block_lt_of_cell? w _ hx130_2)).trans hx130_2; replace hx130_3 := (HB.out.cell (World.block_lt_of_cell? w _ hx130_3)).trans hx130_3; have HR130_3 := Aside0.mk hi130_3; have HC130_3 := Aside0.mk hl130_3; clear hi130_3 hl130_3; replace p130 := eq_true p130; replace q130 := eq_true q130))
                  go_ret
                  exact ⟨by first | rfl | (simp [errW_none, errW_some] <;> rfl) | (simp [*, errW_none, errW_some] <;> rfl), by repeat (first | (with_reducible first | exact HB.out | apply below_alloc | apply pw_below_drewN | apply below_drew1) | exact HB.out)⟩
              · rw [if_neg c7] at H
                exact absurd H (by simp)
            · rw [if_neg c6] at H
              have c6b0 : ((((rd_T24 l0 x3_1).f3).length : Int) == 3) = false := beq_eq_false_iff_ne.mpr c6
              have c6b1 : ((((rd_T24 l0 x3_1).f3).length : Int) != 3) = true := bne_iff_ne.mpr c6
              obtain rfl := Option.some.inj H
              have p126 : 0 ≤ (x3_1 : Int) := of_decide_eq_true (by first | (with_reducible assumption) | assumption)
              have q126 : x3_1 < (l0.length : Int) := of_decide_eq_true (by first | (with_reducible assumption) | assumption)
              obtain ⟨ad126, A126_3, c126_3, e126, hx126_0, hx126_1, hx126_2, hx126_3, hl126_3, hi126_3⟩ := at_T24 HR0.out x3_1 p126 q126
              cases e126
              replace hx126_0 := (HB.out.cell (World.block_lt_of_cell? w _ hx126_0)).trans hx126_0
              replace hx126_1 := (HB.out.cell (World.block_lt_of_cell? w _ hx126_1)).trans hx126_1
              replace hx126_2 := (HB.out.cell (World.block_lt_of_cell? w _ hx126_2)).trans hx126_2
              replace hx126_3 := (HB.out.cell (World.block_lt_of_cell? w _ hx126_3)).trans hx126_3
              have HR126_3 := Aside0.mk hi126_3
              have HC126_3 := Aside0.mk hl126_3
              clear hi126_3 hl126_3
              replace p126 := eq_true p126
              replace q126 := eq_true q126
              go_wp2_with (first | ((with_reducible refine gate_callee (f := 50) rfl ?_); refine goesL_ (some 14) rfl rfl Tryz.func50 (by kernel_rfl) rfl #[.agg #[.int .i64 ((rd_T24 l0 x3_1).f0), .int .i64 ((rd_T24 l0 x3_1).f1), .string ((rd_T24 l0 x3_1).f2), .slice A126_3 ((rd_T24 l0 x3_1).f3).length c126_3]] rfl (by (try simp only [List.map_toArray, List.map_cons, List.map_nil]); first | done | rfl | (simp only [List.length_drop, List.length_take]; rfl)) ?_; (with_reducible refine (plinthref01_Head.calls ((rd_T24 l0 x3_1).f0) ((rd_T24 l0 x3_1).f1) ((rd_T24 l0 x3_1).f2) _ _ ((rd_T24 l0 x3_1).f3) t127 _ ?side1 ?side2 A4.out).mono ?_); (case side1 => repeat (first | exact (Kd.C_below HR126_3.out HB.out) | (with_reducible refine Kd.C_alloc ?_ _) | (with_reducible refine Kd.C_drewN ?_ _) | (with_reducible refine Kd.C_drew ?_))); (case side2 => exact HC126_3.out); rintro e w16 ⟨rfl, hb⟩; refine ⟨_, rfl, ?_⟩; have n0_ := Aside0.mk (below_step (by repeat (first | (with_reducible first | exact HB.out | apply below_alloc | apply pw_below_drewN | apply below_drew1) | exact HB.out)) hb); clear HB; have HB := n0_; clear n0_; (try clear hb); (try clear hb2); (try clear hk); (try clear hi); have p128 : 0 ≤ (x3_1 : Int) := of_decide_eq_true (by first | (with_reducible assumption) | assumption); have q128 : x3_1 < (l0.length : Int) := of_decide_eq_true (by first | (with_reducible assumption) | assumption); obtain ⟨ad128, A128_3, c128_3, e128, hx128_0, hx128_1, hx128_2, hx128_3, hl128_3, hi128_3⟩ := at_T24 HR0.out x3_1 p128 q128; obtain rfl : ad126 = ad128 := (by injection e128); replace hx128_0 := (HB.out.cell (World.block_lt_of_cell? w _ hx128_0)).trans hx128_0; replace hx128_1 := (HB.out.cell (World.block_lt_of_cell? w _ hx128_1)).trans hx128_1; replace hx128_2 := (HB.out.cell (World.block_lt_of_cell? w _ hx128_2)).trans hx128_2; replace hx128_3 := (HB.out.cell (World.block_lt_of_cell? w _ hx128_3)).trans hx128_3; have HR128_3 := Aside0.mk hi128_3; have HC128_3 := Aside0.mk hl128_3; clear hi128_3 hl128_3; replace p128 := eq_true p128; replace q128 := eq_true q128))
              go_ret
              exact ⟨by first | rfl | (simp [errW_none, errW_some] <;> rfl) | (simp [*, errW_none, errW_some] <;> rfl), by repeat (first | (with_reducible first | exact HB.out | apply below_alloc | apply pw_below_drewN | apply below_drew1) | exact HB.out)⟩
          · rw [if_neg c5] at H
            have c5b0 : (t127.toList == ([102, 117, 110] : List UInt8)) = false := beq_eq_false_iff_ne.mpr c5
            have c5b1 : (t127.toList != ([102, 117, 110] : List UInt8)) = true := bne_iff_ne.mpr c5
            replace H := Option.bind_eq_some_iff.mp H
            obtain ⟨t134, A170, H⟩ := H
            replace H : (if t134 = true then (plinthlaw03_listed.l0 k1 l0 (wrap64 (x3_1 + 1))) else (some false)) = some r := H
            have A17 := Aside0.mk A170
            clear A170
            by_cases c18 : t134 = true
            · subst c18
              have H1 : (plinthlaw03_listed.l0 k1 l0 (wrap64 (x3_1 + 1))) = some r := by rw [if_pos rfl] at H; exact H
              clear H
              have H := H1
              clear H1
              have H' := Aside0.mk H
              clear H
              have p126 : 0 ≤ (x3_1 : Int) := of_decide_eq_true (by first | (with_reducible assumption) | assumption)
              have q126 : x3_1 < (l0.length : Int) := of_decide_eq_true (by first | (with_reducible assumption) | assumption)
              obtain ⟨ad126, A126_3, c126_3, e126, hx126_0, hx126_1, hx126_2, hx126_3, hl126_3, hi126_3⟩ := at_T24 HR0.out x3_1 p126 q126
              cases e126
              replace hx126_0 := (HB.out.cell (World.block_lt_of_cell? w _ hx126_0)).trans hx126_0
              replace hx126_1 := (HB.out.cell (World.block_lt_of_cell? w _ hx126_1)).trans hx126_1
              replace hx126_2 := (HB.out.cell (World.block_lt_of_cell? w _ hx126_2)).trans hx126_2
              replace hx126_3 := (HB.out.cell (World.block_lt_of_cell? w _ hx126_3)).trans hx126_3
              have HR126_3 := Aside0.mk hi126_3
              have HC126_3 := Aside0.mk hl126_3
              clear hi126_3 hl126_3
              replace p126 := eq_true p126
              replace q126 := eq_true q126
              go_wp2_with (first | ((with_reducible refine gate_callee (f := 50) rfl ?_); refine goesL_ (some 14) rfl rfl Tryz.func50 (by kernel_rfl) rfl #[.agg #[.int .i64 ((rd_T24 l0 x3_1).f0), .int .i64 ((rd_T24 l0 x3_1).f1), .string ((rd_T24 l0 x3_1).f2), .slice A126_3 ((rd_T24 l0 x3_1).f3).length c126_3]] rfl (by (try simp only [List.map_toArray, List.map_cons, List.map_nil]); first | done | rfl | (simp only [List.length_drop, List.length_take]; rfl)) ?_; (with_reducible refine (plinthref01_Head.calls ((rd_T24 l0 x3_1).f0) ((rd_T24 l0 x3_1).f1) ((rd_T24 l0 x3_1).f2) _ _ ((rd_T24 l0 x3_1).f3) t127 _ ?side1 ?side2 A4.out).mono ?_); (case side1 => repeat (first | exact (Kd.C_below HR126_3.out HB.out) | (with_reducible refine Kd.C_alloc ?_ _) | (with_reducible refine Kd.C_drewN ?_ _) | (with_reducible refine Kd.C_drew ?_))); (case side2 => exact HC126_3.out); rintro e w19 ⟨rfl, hb⟩; refine ⟨_, rfl, ?_⟩; have n0_ := Aside0.mk (below_step (by repeat (first | (with_reducible first | exact HB.out | apply below_alloc | apply pw_below_drewN | apply below_drew1) | exact HB.out)) hb); clear HB; have HB := n0_; clear n0_; (try clear hb); (try clear hb2); (try clear hk); (try clear hi); have p133 : 0 ≤ (x3_1 : Int) := of_decide_eq_true (by first | (with_reducible assumption) | assumption); have q133 : x3_1 < (l0.length : Int) := of_decide_eq_true (by first | (with_reducible assumption) | assumption); obtain ⟨ad133, A133_3, c133_3, e133, hx133_0, hx133_1, hx133_2, hx133_3, hl133_3, hi133_3⟩ := at_T24 HR0.out x3_1 p133 q133; obtain rfl : ad126 = ad133 := (by injection e133); replace hx133_0 := (HB.out.cell (World.block_lt_of_cell? w _ hx133_0)).trans hx133_0; replace hx133_1 := (HB.out.cell (World.block_lt_of_cell? w _ hx133_1)).trans hx133_1; replace hx133_2 := (HB.out.cell (World.block_lt_of_cell? w _ hx133_2)).trans hx133_2; replace hx133_3 := (HB.out.cell (World.block_lt_of_cell? w _ hx133_3)).trans hx133_3; have HR133_3 := Aside0.mk hi133_3; have HC133_3 := Aside0.mk hl133_3; clear hi133_3 hl133_3; replace p133 := eq_true p133; replace q133 := eq_true q133) | (go_at_call 17; (with_reducible refine (ih k1 (by have := HK1.out; omega) _ _ ((rd_T24 l0 x3_1).f3) true _ ?side1 ?side2 A17.out).mono ?_); (case side1 => repeat (first | exact (Kd.C_below HR133_3.out HB.out) | (with_reducible refine Kd.C_alloc ?_ _) | (with_reducible refine Kd.C_drewN ?_ _) | (with_reducible refine Kd.C_drew ?_))); (case side2 => exact HC133_3.out); rintro e w20 ⟨rfl, hb⟩; have n0_ := Aside0.mk (below_step (by repeat (first | (with_reducible first | exact HB.out | apply below_alloc | apply pw_below_drewN | apply below_drew1) | exact HB.out)) hb); clear HB; have HB := n0_; clear n0_; (try clear hb); (try clear hb2); (try clear hk); (try clear hi)))
              go_roundg k1
              case measure => have := HK1.out; omega
              case rel => exact ⟨(wrap64 (x3_1 + 1)), (by first | rfl | (simp; done) | (simp [*]; done)), H', ⟨by have := HK1.out; omega⟩, ⟨by repeat (first | (with_reducible first | exact HB.out | apply below_alloc | apply pw_below_drewN | apply below_drew1) | exact HB.out)⟩⟩
            · replace c18 := Bool.eq_false_iff.mpr c18
              subst c18
              have H1 : (some false) = some r := by rw [if_neg (show ¬ (false = true) by decide)] at H; exact H
              clear H
              have H := H1
              clear H1
              obtain rfl := Option.some.inj H
              have p126 : 0 ≤ (x3_1 : Int) := of_decide_eq_true (by first | (with_reducible assumption) | assumption)
              have q126 : x3_1 < (l0.length : Int) := of_decide_eq_true (by first | (with_reducible assumption) | assumption)
              obtain ⟨ad126, A126_3, c126_3, e126, hx126_0, hx126_1, hx126_2, hx126_3, hl126_3, hi126_3⟩ := at_T24 HR0.out x3_1 p126 q126
              cases e126
              replace hx126_0 := (HB.out.cell (World.block_lt_of_cell? w _ hx126_0)).trans hx126_0
              replace hx126_1 := (HB.out.cell (World.block_lt_of_cell? w _ hx126_1)).trans hx126_1
              replace hx126_2 := (HB.out.cell (World.block_lt_of_cell? w _ hx126_2)).trans hx126_2
              replace hx126_3 := (HB.out.cell (World.block_lt_of_cell? w _ hx126_3)).trans hx126_3
              have HR126_3 := Aside0.mk hi126_3
              have HC126_3 := Aside0.mk hl126_3
              clear hi126_3 hl126_3
              replace p126 := eq_true p126
              replace q126 := eq_true q126
              go_wp2_with (first | ((with_reducible refine gate_callee (f := 50) rfl ?_); refine goesL_ (some 14) rfl rfl Tryz.func50 (by kernel_rfl) rfl #[.agg #[.int .i64 ((rd_T24 l0 x3_1).f0), .int .i64 ((rd_T24 l0 x3_1).f1), .string ((rd_T24 l0 x3_1).f2), .slice A126_3 ((rd_T24 l0 x3_1).f3).length c126_3]] rfl (by (try simp only [List.map_toArray, List.map_cons, List.map_nil]); first | done | rfl | (simp only [List.length_drop, List.length_take]; rfl)) ?_; (with_reducible refine (plinthref01_Head.calls ((rd_T24 l0 x3_1).f0) ((rd_T24 l0 x3_1).f1) ((rd_T24 l0 x3_1).f2) _ _ ((rd_T24 l0 x3_1).f3) t127 _ ?side1 ?side2 A4.out).mono ?_); (case side1 => repeat (first | exact (Kd.C_below HR126_3.out HB.out) | (with_reducible refine Kd.C_alloc ?_ _) | (with_reducible refine Kd.C_drewN ?_ _) | (with_reducible refine Kd.C_drew ?_))); (case side2 => exact HC126_3.out); rintro e w21 ⟨rfl, hb⟩; refine ⟨_, rfl, ?_⟩; have n0_ := Aside0.mk (below_step (by repeat (first | (with_reducible first | exact HB.out | apply below_alloc | apply pw_below_drewN | apply below_drew1) | exact HB.out)) hb); clear HB; have HB := n0_; clear n0_; (try clear hb); (try clear hb2); (try clear hk); (try clear hi); have p133 : 0 ≤ (x3_1 : Int) := of_decide_eq_true (by first | (with_reducible assumption) | assumption); have q133 : x3_1 < (l0.length : Int) := of_decide_eq_true (by first | (with_reducible assumption) | assumption); obtain ⟨ad133, A133_3, c133_3, e133, hx133_0, hx133_1, hx133_2, hx133_3, hl133_3, hi133_3⟩ := at_T24 HR0.out x3_1 p133 q133; obtain rfl : ad126 = ad133 := (by injection e133); replace hx133_0 := (HB.out.cell (World.block_lt_of_cell? w _ hx133_0)).trans hx133_0; replace hx133_1 := (HB.out.cell (World.block_lt_of_cell? w _ hx133_1)).trans hx133_1; replace hx133_2 := (HB.out.cell (World.block_lt_of_cell? w _ hx133_2)).trans hx133_2; replace hx133_3 := (HB.out.cell (World.block_lt_of_cell? w _ hx133_3)).trans hx133_3; have HR133_3 := Aside0.mk hi133_3; have HC133_3 := Aside0.mk hl133_3; clear hi133_3 hl133_3; replace p133 := eq_true p133; replace q133 := eq_true q133) | (go_at_call 17; (with_reducible refine (ih k1 (by have := HK1.out; omega) _ _ ((rd_T24 l0 x3_1).f3) false _ ?side1 ?side2 A17.out).mono ?_); (case side1 => repeat (first | exact (Kd.C_below HR133_3.out HB.out) | (with_reducible refine Kd.C_alloc ?_ _) | (with_reducible refine Kd.C_drewN ?_ _) | (with_reducible refine Kd.C_drew ?_))); (case side2 => exact HC133_3.out); rintro e w22 ⟨rfl, hb⟩; have n0_ := Aside0.mk (below_step (by repeat (first | (with_reducible first | exact HB.out | apply below_alloc | apply pw_below_drewN | apply below_drew1) | exact HB.out)) hb); clear HB; have HB := n0_; clear n0_; (try clear hb); (try clear hb2); (try clear hk); (try clear hi)))
              go_ret
              exact ⟨by first | rfl | (simp [errW_none, errW_some] <;> rfl) | (simp [*, errW_none, errW_some] <;> rfl), by repeat (first | (with_reducible first | exact HB.out | apply below_alloc | apply pw_below_drewN | apply below_drew1) | exact HB.out)⟩
        · rw [if_neg c3] at H
          exact absurd H (by simp)
      · rw [if_neg c2] at H
        have c2b0 : decide (x3_1 < (l0.length : Int)) = false := decide_eq_false c2
        clear c2
        obtain rfl := Option.some.inj H
        go_wp2
        go_ret
        exact ⟨by first | rfl | (simp [errW_none, errW_some] <;> rfl) | (simp [*, errW_none, errW_some] <;> rfl), by repeat (first | (with_reducible first | exact HB.out | apply below_alloc | apply pw_below_drewN | apply below_drew1) | exact HB.out)⟩

end Go.Proofs.YtcjmplpfebpfpaaGreatDoor.PKindInstances

namespace Go.Proofs.YtcjmplpfebpfpaaGreatDoor
open Go.RowKit Go.Proofs Go.Proofs.YtcjmplpfebpfpaaGreatDoorW.PrintWords Go.Proofs.YtcjmplpfebpfpaaGreatDoorW.PrintLast Go.Proofs.YtcjmplpfebpfpaaGreatDoorW.PrintMore PKindInstances
set_option linter.unusedVariables false
set_option linter.unusedSimpArgs false

theorem head_some (a n : Int) (s : ByteArray) (l : List S24) : ∃ h, plinthref01_Head.f a n s l = some h := by
  unfold plinthref01_Head.f
  split
  · split
    · exact ⟨_, rfl⟩
    · split
      · split
        · exact ⟨_, rfl⟩
        · exact ⟨_, rfl⟩
      · omega
  · exact ⟨_, rfl⟩
theorem listed_l0 (l : List S24) (hl : l.length < 9000000) (hq : ∀ x ∈ l, ∃ b, Ev (fun k => plinthlaw03_listed.f k x.f3) b) (d : Nat) : ∀ (i : Nat), d + i = l.length → ∃ b, Ev (fun k => plinthlaw03_listed.l0 k l (i : Int)) b := by
  induction d with
  | zero =>
    intro i h
    refine ⟨true, 1, fun k hk => ?_⟩
    obtain ⟨k, rfl⟩ : ∃ m, k = m + 1 := ⟨k - 1, by omega⟩
    simp only [plinthlaw03_listed.l0]
    rw [if_neg (by omega)]
  | succ d ih =>
    intro i h
    obtain ⟨x, hx⟩ : ∃ x, l[i]? = some x := ⟨l[i]'(by omega), List.getElem?_eq_getElem _⟩
    obtain ⟨b1, K1, h1⟩ := hq x (List.mem_of_getElem? hx)
    obtain ⟨b2, K2, h2⟩ := ih (i + 1) (by omega)
    obtain ⟨hd, hh⟩ := head_some x.f0 x.f1 x.f2 x.f3
    have hw : wrap64 ((i : Int) + 1) = ((i + 1 : Nat) : Int) := by rw [wr64 (by omega) (by omega)]; omega
    have key : ∀ k, plinthlaw03_listed.l0 (k + 1) l (i : Int) = if hd.toList = ([102, 117, 110] : List UInt8) then (if (x.f3.length : Int) = 3 then (if 1 < (x.f3.length : Int) then (if (rd_T24 x.f3 1).f0 = 3 then ((plinthlaw03_listed.f k x.f3).bind fun t => (if t = true then (plinthlaw03_listed.l0 k l ((i + 1 : Nat) : Int)) else (some false))) else (some false)) else none) else (some false)) else ((plinthlaw03_listed.f k x.f3).bind fun t => (if t = true then (plinthlaw03_listed.l0 k l ((i + 1 : Nat) : Int)) else (some false))) := by
      intro k
      simp only [plinthlaw03_listed.l0]
      rw [if_pos (by omega), if_pos (by omega), rd_at hx, hh, Option.bind_some, hw]
    have tail : ∃ b, Ev (fun k => (plinthlaw03_listed.f k x.f3).bind fun t => (if t = true then (plinthlaw03_listed.l0 k l ((i + 1 : Nat) : Int)) else (some false))) b := by
      cases b1 with
      | false => exact ⟨false, K1, fun k hk => by have := h1 k hk; simp only [] at this ⊢; rw [this]; rfl⟩
      | true => exact ⟨b2, max K1 K2, fun k hk => by have e1 := h1 k (by omega); have e2 := h2 k (by omega); simp only [] at e1 e2 ⊢; rw [e1, Option.bind_some, if_pos rfl, e2]⟩
    obtain ⟨b3, K3, h3⟩ := tail
    by_cases c1 : hd.toList = ([102, 117, 110] : List UInt8)
    · by_cases c2 : (x.f3.length : Int) = 3
      · by_cases c3 : (rd_T24 x.f3 1).f0 = 3
        · refine ⟨b3, K3 + 1, fun k hk => ?_⟩
          obtain ⟨k, rfl⟩ : ∃ m, k = m + 1 := ⟨k - 1, by omega⟩
          show plinthlaw03_listed.l0 (k + 1) l (i : Int) = _
          rw [key, if_pos c1, if_pos c2, if_pos (by omega), if_pos c3]
          exact h3 k (by omega)
        · refine ⟨false, 1, fun k hk => ?_⟩
          obtain ⟨k, rfl⟩ : ∃ m, k = m + 1 := ⟨k - 1, by omega⟩
          show plinthlaw03_listed.l0 (k + 1) l (i : Int) = _
          rw [key, if_pos c1, if_pos c2, if_pos (by omega), if_neg c3]
      · refine ⟨false, 1, fun k hk => ?_⟩
        obtain ⟨k, rfl⟩ : ∃ m, k = m + 1 := ⟨k - 1, by omega⟩
        show plinthlaw03_listed.l0 (k + 1) l (i : Int) = _
        rw [key, if_pos c1, if_neg c2]
    · refine ⟨b3, K3 + 1, fun k hk => ?_⟩
      obtain ⟨k, rfl⟩ : ∃ m, k = m + 1 := ⟨k - 1, by omega⟩
      show plinthlaw03_listed.l0 (k + 1) l (i : Int) = _
      rw [key, if_neg c1]
      exact h3 k (by omega)
theorem listed_row (l : List S24) (hl : l.length < 9000000) (hq : ∀ x ∈ l, ∃ b, Ev (fun k => plinthlaw03_listed.f k x.f3) b) : ∃ b, Ev (fun k => plinthlaw03_listed.f k l) b := by
  obtain ⟨b, K, h⟩ := listed_l0 l hl hq l.length 0 (by omega)
  refine ⟨b, K + 1, fun k hk => ?_⟩
  obtain ⟨k, rfl⟩ : ∃ m, k = m + 1 := ⟨k - 1, by omega⟩
  simp only [plinthlaw03_listed.f]
  exact h k (by omega)
mutual
theorem listed_ev : ∀ x : S24, wid x < 9000000 → ∃ b, Ev (fun k => plinthlaw03_listed.f k x.f3) b
  | ⟨a, n, s, l⟩, h => by
    have hl := listed_evs l
    have h1 := wid_kids ⟨a, n, s, l⟩
    simp only [] at h1
    have h2 := wids_len l
    exact listed_row l (by omega) (fun x hx => hl x hx (by have := wid_mem hx; omega))
theorem listed_evs : ∀ (l : List S24), ∀ x ∈ l, wid x < 9000000 → ∃ b, Ev (fun k => plinthlaw03_listed.f k x.f3) b
  | [], x, h => absurd h (List.not_mem_nil)
  | y :: l, x, h => by
    rcases List.mem_cons.1 h with h | h
    · rw [h]; exact listed_ev y
    · exact listed_evs l x h
end
end Go.Proofs.YtcjmplpfebpfpaaGreatDoor

namespace Go.Proofs.YtcjmplpfebpfpaaGreatDoor
open Go.RowKit Go.Proofs Go.Proofs.YtcjmplpfebpfpaaGreatDoorW.PrintWords Go.Proofs.YtcjmplpfebpfpaaGreatDoorW.PrintLast Go.Proofs.YtcjmplpfebpfpaaGreatDoorW.PrintMore PKindInstances
set_option linter.unusedVariables false
set_option linter.unusedSimpArgs false

theorem head_is (a n : Int) (s : ByteArray) (l : List S24) : plinthref01_Head.f a n s l = some (headOf a l) := by
  unfold plinthref01_Head.f headOf headL
  by_cases h3 : a = 3
  · rw [if_pos h3, if_pos h3]
    cases l with
    | nil => rfl
    | cons k l =>
      have e : rd_T24 (k :: l) 0 = k := rfl
      rw [if_neg (by simp only [List.length_cons]; omega), if_pos (by simp only [List.length_cons]; omega), e]
      by_cases h : k.f0 = 1
      · simp [h]
      · simp [h]
  · rw [if_neg h3, if_neg h3]
theorem lst_kid (x : S24) : lstM x = (!((x.f0 == 3) && isFunW (headL x.f3) && !(decide (x.f3.length = 3) && (match x.f3 with | _ :: k :: _ => k.f0 == 3 | _ => false))) && lstL x.f3) := by cases x; rfl
theorem listed_true : ∀ k : Nat, (∀ l : List S24, wids l < 9000000 → plinthlaw03_listed.f k l = some true → lstL l = true) ∧ (∀ (l : List S24) (i : Nat), wids l < 9000000 → plinthlaw03_listed.l0 k l (i : Int) = some true → lstL (l.drop i) = true)
  | 0 => ⟨fun l _ h => by simp [plinthlaw03_listed.f] at h, fun l i _ h => by simp [plinthlaw03_listed.l0] at h⟩
  | k + 1 => by
    obtain ⟨ih1, ih2⟩ := listed_true k
    refine ⟨fun l hw h => ?_, fun l i hw h => ?_⟩
    · simp only [plinthlaw03_listed.f] at h
      have := ih2 l 0 hw h
      simpa using this
    · have hl := wids_len l
      by_cases hi : i < l.length
      · obtain ⟨x, hx⟩ : ∃ x, l[i]? = some x := ⟨l[i]'hi, List.getElem?_eq_getElem _⟩
        have hxw : wids x.f3 < 9000000 := by
          have h1 := wid_kids x
          have h2 := wid_mem (List.mem_of_getElem? hx)
          omega
        have hwr : wrap64 ((i : Int) + 1) = ((i + 1 : Nat) : Int) := by rw [wr64 (by omega) (by omega)]; omega
        simp only [plinthlaw03_listed.l0] at h
        rw [if_pos (by omega), if_pos (by omega), rd_at hx, head_is, Option.bind_some, hwr] at h
        have hd : l.drop i = x :: l.drop (i + 1) := by obtain ⟨h9, h10⟩ := List.getElem?_eq_some_iff.1 hx; rw [← h10]; exact List.drop_eq_getElem_cons h9
        have tail : ((plinthlaw03_listed.f k x.f3).bind fun t => (if t = true then (plinthlaw03_listed.l0 k l ((i + 1 : Nat) : Int)) else (some false))) = some true → lstL x.f3 = true ∧ lstL (l.drop (i + 1)) = true := by
          intro h2
          cases hf : plinthlaw03_listed.f k x.f3 with
          | none => rw [hf] at h2; cases h2
          | some b =>
            rw [hf, Option.bind_some] at h2
            cases b with
            | false => simp at h2
            | true =>
              rw [if_pos rfl] at h2
              exact ⟨ih1 x.f3 hxw hf, ih2 l (i + 1) hw h2⟩
        rw [hd]
        simp only [lstL, lst_kid]
        by_cases c1 : (headOf x.f0 x.f3).toList = ([102, 117, 110] : List UInt8)
        · rw [if_pos c1] at h
          by_cases c2 : (x.f3.length : Int) = 3
          · rw [if_pos c2, if_pos (by omega)] at h
            by_cases c3 : (rd_T24 x.f3 1).f0 = 3
            · rw [if_pos c3] at h
              obtain ⟨t1, t2⟩ := tail h
              rw [t1, t2]
              have h3 : (match x.f3 with | _ :: k :: _ => k.f0 == 3 | _ => false) = true := by
                match hm : x.f3, c2, c3 with
                | a :: b :: r, _, c3 => simpa [rd_T24] using c3
                | [a], c2, _ => simp at c2
                | [], c2, _ => simp at c2
              rw [h3, decide_eq_true (by omega : x.f3.length = 3)]
              simp
            · rw [if_neg c3] at h; simp at h
          · rw [if_neg c2] at h; simp at h
        · rw [if_neg c1] at h
          obtain ⟨t1, t2⟩ := tail h
          rw [t1, t2]
          have : ((x.f0 == 3) && isFunW (headL x.f3)) = false := by
            by_cases h3 : x.f0 = 3
            · unfold headOf at c1
              rw [if_pos h3] at c1
              simp [isFunW, c1]
            · simp [h3]
          rw [this]
          rfl
      · rw [List.drop_eq_nil_of_le (by omega)]
        rfl
theorem listed_told (l : List S24) (A : Option Addr) (c : Nat) (w : World) (hr : Kd.C k24 w A l.length l) (hc : l.length ≤ c) (hw : wids l < 9000000) :
    Calls Tryz.prog 17 #[.slice A l.length c] w fun e w' => (∃ b, e = .returned (.bool b) ∧ (b = true → lstL l = true)) ∧ Below w.heap.size w w' := by
  have hl := wids_len l
  obtain ⟨b, K, h⟩ := listed_row l (by omega) (fun x hx => listed_ev x (by have := wid_mem hx; omega))
  refine (plinthlaw03_listed.calls K A c l b w hr hc (h K (Nat.le_refl _))).mono ?_
  rintro e w' ⟨rfl, hB⟩
  exact ⟨⟨b, rfl, fun hb => (listed_true K).1 l hw (by rw [← hb]; exact h K (Nat.le_refl _))⟩, hB⟩
end Go.Proofs.YtcjmplpfebpfpaaGreatDoor

namespace Go.Proofs.YtcjmplpfebpfpaaGreatDoor
open Go.RowKit Go.Proofs Go.Proofs.YtcjmplpfebpfpaaGreatDoorW.PrintWords Go.Proofs.YtcjmplpfebpfpaaGreatDoorW.PrintLast Go.Proofs.YtcjmplpfebpfpaaGreatDoorW.PrintMore PKindInstances
set_option linter.unusedVariables false
set_option linter.unusedSimpArgs false

theorem lit_none {w : World} (o : Nat → Prop) (h : ∀ k, w.heap.size ≤ k → o k) : Kd.N k24 24 (w.alloc (.cells #[] 24)) w.heap.size o (.slice (some ⟨w.heap.size, 0, none⟩) 0 0) [] := by
  refine Kd.R_N ⟨fun k hk => ?_, [], ?_, ?_⟩
  · have : w.heap.size = k := by simpa [Value.ownBlock] using hk
    exact h k (by omega)
  · exact World.ownsRow_lit (base := w.heap.size) (e := 24) (size := 4) w #[] 0 (Nat.le_refl _) (by decide) rfl
  · exact ⟨rfl, fun j p hj => by simp at hj⟩
set_option maxRecDepth 100000 in
/-- slices.Clone: a row of one's own; what the forms lead to is what came in. -/
theorem Clone_any (l : List S24) (A : Option Addr) (c : Nat) (w : World) (ok : Nat → Prop) (hr : Kd.F k24 w ok A l.length l) (hc : l.length ≤ c) (hn : l.length < 9000000) :
    Calls Tryz.prog 82 #[.slice A l.length c] w fun e w' => ∃ v, e = .returned v ∧ Kd.N k24 24 w' w.heap.size (fun k => ok k ∧ k < w.heap.size ∨ w.heap.size ≤ k) v l ∧ Below w.heap.size w w' := by
  have hu24 := Tryz.underlying24
  have hu22 := Tryz.underlying22
  have q22 : ∀ (w : World) (a : Option Addr) (n c n' c' : Nat), (binOp .eql 22 (.slice a n c) (.slice none n' c')).run Tryz.prog w = .ok (.bool a.isNone) w := fun w a n c n' c' => Lib.run_eql_slice_nil w _ _ a n c n' c' Tryz.underlying22
  have HR : Hid _ := Kd.F_bound hr
  have hlen : Hid (A = none → l = []) := fun h => by
    cases l with
    | nil => rfl
    | cons x l => obtain ⟨ad, e, _⟩ := (Kd.F_now hr).2.2 (by simp); rw [h] at e; cases e
  clear hr
  obtain ⟨n, hl⟩ : ∃ n, n = l.length := ⟨_, rfl⟩
  rw [← hl] at hc hn HR ⊢
  have HL : Hid _ := hl
  clear hl
  have Z0 : Hid (Kd.N k24 24 (w.alloc (.cells #[] 24)) w.heap.size (fun k => ok k ∧ k < w.heap.size ∨ w.heap.size ≤ k) (.slice (some ⟨w.heap.size, 0, none⟩) 0 0) []) := lit_none _ (fun k hk => .inr hk)
  have B0 : Hid (Below w.heap.size w (w.alloc (.cells #[] 24))) := below_alloc (Below.refl _ _) _
  cases A with
  | none =>
    obtain rfl := hlen.out rfl
    go_enter Tryz.func82, Tryz.ntmps82
    go_wp2_with fail
    go_ret
    exact ⟨_, rfl, by rw [HL.out]; exact Kd.N_nil _ _ _ _ _, Below.refl _ _⟩
  | some ad =>
    go_enter Tryz.func82, Tryz.ntmps82
    go_wp2_with (at_builtin; refine Kd.N_append_rows k24 (w0 := w) w.heap.size rfl (.tmp 5) (.tmp 6) 22 24 (.agg #[(.int .i64 0), (.int .i64 0), (.string ⟨#[]⟩), (.slice none 0 0)]) 56 rfl hu22 info24 rfl (by decide) (by decide) _ [] l (some ad) n c (fun k => ok k ∧ k < w.heap.size ∨ w.heap.size ≤ k) (fun k => ok k ∧ k < w.heap.size) rfl rfl ?n1 ?n2 ?n3 ?n4 ?n5 ?n6 ?n7 ?n8)
    case n1 => exact Kd.N_below Z0.out (by first | exact Below.refl _ _ | (repeat (first | exact Below.refl _ _ | apply below_alloc | apply pw_below_drewN | apply below_drew1)))
    case n2 => exact Kd.F_below HR.out (by (repeat (first | exact Below.refl _ _ | apply below_alloc | apply pw_below_drewN | apply below_drew1)))
    case n3 => exact fun k hk => ⟨.inl hk, fun he => by have h2 := hk.2; have he2 : some k = some w.heap.size := he; have he3 := Option.some.inj he2; omega⟩
    case n4 => exact fun k hk => .inr (Nat.le_trans (below_size (below_alloc (Below.refl _ _) (Obj.cells #[] 24))) hk)
    case n5 => exact (by (repeat (first | exact Below.refl _ _ | apply below_alloc | apply pw_below_drewN | apply below_drew1)))
    case n6 => simp
    case n7 => simp; omega
    case n8 =>
      intro v1 w1 hN hB hg hat
      have HN : Hid _ := hN
      have HB : Hid _ := hB
      clear hN hB hg hat
      go_wp2_with fail
      go_ret
      exact ⟨_, rfl, HN.out, HB.out⟩
end Go.Proofs.YtcjmplpfebpfpaaGreatDoor

namespace Go.Proofs.YtcjmplpfebpfpaaGreatDoor
open Go.RowKit Go.Proofs Go.Proofs.YtcjmplpfebpfpaaGreatDoorW.PrintWords Go.Proofs.YtcjmplpfebpfpaaGreatDoorW.PrintLast Go.Proofs.YtcjmplpfebpfpaaGreatDoorW.PrintMore PKindInstances
set_option linter.unusedVariables false
set_option linter.unusedSimpArgs false

theorem row_at51 {w : World} {A : Option Addr} {n : Nat} {l : List S51} {ok : Nat → Prop} (h : Kd.F k51 w ok A n l) {i : Nat} (hi : i < n) {x : S51} (hx : l[i]? = some x) :
    ∃ ad A4 c4, A = some ad ∧ w.cell? (ad.add (i * 5)) = some (.string x.f0) ∧ w.cell? ⟨(ad.add (i * 5)).block, (ad.add (i * 5)).off + 1, none⟩ = some (.int .i64 x.f1.f0) ∧
      w.cell? ⟨(ad.add (i * 5)).block, (ad.add (i * 5)).off + 2, none⟩ = some (.int .i64 x.f1.f1) ∧ w.cell? ⟨(ad.add (i * 5)).block, (ad.add (i * 5)).off + 3, none⟩ = some (.string x.f1.f2) ∧ w.cell? ⟨(ad.add (i * 5)).block, (ad.add (i * 5)).off + 4, none⟩ = some (.slice A4 x.f1.f3.length c4) ∧
      x.f1.f3.length ≤ c4 ∧ Kd.F k24 w ok A4 x.f1.f3.length x.f1.f3 := by
  obtain ⟨ad, c, rfl, hcl, hK, hcc, _⟩ := Kd.F_get h z51 (i : Int) (by omega) (by omega)
  rw [Int.toNat_natCast] at hK hcc
  rw [List.getD_eq_getElem?_getD, hx, Option.getD_some] at hK
  obtain ⟨A4, c4, rfl, h1, h2⟩ := k51_openF hK
  exact ⟨ad, A4, c4, rfl, hcc 0 _ rfl, by rw [← add_field _ _ 1 (by omega)]; exact hcc 1 _ rfl, by rw [← add_field _ _ 2 (by omega)]; exact hcc 2 _ rfl, by rw [← add_field _ _ 3 (by omega)]; exact hcc 3 _ rfl, by rw [← add_field _ _ 4 (by omega)]; exact hcc 4 _ rfl, h1, h2⟩

theorem twoB (w : World) (o1 o2 : Obj) : ((w.alloc o1).alloc o2).heap[w.heap.size]? = some o1 ∧ ((w.alloc o1).alloc o2).heap[w.heap.size + 1]? = some o2 ∧ Below w.heap.size w ((w.alloc o1).alloc o2) := by
  refine ⟨(Below.heap_alloc _ _ _ (by rw [size_new]; omega)).trans (MapKept.heap_alloc w _).1, ?_, below_alloc (below_alloc (Below.refl _ _) _) _⟩
  have h := (MapKept.heap_alloc (w.alloc o1) o2).1
  rw [size_new] at h
  exact h
def lookK : List S51 → ByteArray → Option S24
  | [], _ => none
  | x :: l, s => if (x.f0.toList == s.toList) = true then some x.f1 else lookK l s
/-- What a name stands for. -/
def findK (l : List S51) (s : ByteArray) : Option S24 := if resM s = true then none else lookK l s

set_option maxRecDepth 100000 in
theorem isName_is (x : S51) (A : Option Addr) (c b : Nat) (s : ByteArray) (w : World) (hb : w.heap[b]? = some (.cells #[.string s] 9 (0, 0))) :
    Calls Tryz.prog 124 #[.agg #[.string x.f0, .int .i64 x.f1.f0, .int .i64 x.f1.f1, .string x.f1.f2, .slice A x.f1.f3.length c], .pointer (some ⟨b, 0, none⟩)] w fun e w' => e = .returned (.bool (x.f0.toList == s.toList)) ∧ Below w.heap.size w w' := by
  have hu24 := Tryz.underlying24
  have hu51 := Tryz.underlying51
  have hlt := blk_lt hb
  have p0 : w.cell? ⟨b, 0, none⟩ = some (.string s) := by simp [World.cell?, hb]
  clear hb
  obtain ⟨xn, ⟨x0, x1, x2, x3⟩⟩ := x
  obtain ⟨r, hr⟩ : ∃ r, r = (xn.toList == s.toList) := ⟨_, rfl⟩
  show Calls _ _ _ _ (fun e w' => e = .returned (.bool (xn.toList == s.toList)) ∧ _)
  go_enter Tryz.func124, Tryz.ntmps124
  go_wp2_with fail
  go_ret
  exact ⟨rfl, (by (repeat (first | assumption | exact Below.refl _ _ | apply below_alloc | apply pw_below_drewN | apply below_drew1)))⟩

theorem drop_at51 {l : List S51} {i : Nat} {x : S51} (hx : l[i]? = some x) : l.drop i = x :: l.drop (i + 1) := by
  obtain ⟨h, e⟩ := List.getElem?_eq_some_iff.1 hx
  rw [List.drop_eq_getElem_cons h, e]
/-- Where a name stands. -/
def IxAt (w : World) (l : List S51) (s : ByteArray) (e : Ending) (w' : World) : Prop :=
  ∃ r : Int, e = .returned (.int .i64 r) ∧ Below w.heap.size w w' ∧ ((r = -1 ∧ lookK l s = none) ∨ ∃ (j : Nat) (x : S51), r = (j : Int) ∧ l[j]? = some x ∧ lookK l s = some x.f1)
/-- What holds of the loop. -/
def IxRel (W0 : World) (l : List S51) (s : ByteArray) (k : Nat) (x8 : Value) (wr : World) : Prop :=
  ∃ (i : Nat), x8 = .int .i64 (i : Int) ∧ k + i = l.length ∧ Below W0.heap.size W0 wr ∧ lookK l s = lookK (l.drop i) s

set_option maxRecDepth 100000 in
set_option maxHeartbeats 4000000 in
theorem IndexName_any (l : List S51) (A : Option Addr) (c b : Nat) (s : ByteArray) (w : World) (ok : Nat → Prop) (hr : Kd.F k51 w ok A l.length l) (hc : l.length ≤ c) (hn : l.length < 9000000) (hb : w.heap[b]? = some (.cells #[.string s] 9 (0, 0))) :
    Calls Tryz.prog 123 #[.slice A l.length c, .func (.func 124) #[] #[.pointer (some ⟨b, 0, none⟩)]] w (IxAt w l s) := by
  have hu24 := Tryz.underlying24
  have hu51 := Tryz.underlying51
  have hu25 := Tryz.underlying25
  have start : Hid (IxRel w l s l.length (.int .i64 ((0 : Nat) : Int)) w) := ⟨0, rfl, rfl, Below.refl _ _, rfl⟩
  have HR : Hid _ := hr
  have HB : Hid _ := hb
  clear hr hb
  go_enter Tryz.func123, Tryz.ntmps123
  go_wp2_with fail
  go_loopg [8] l.length (fun k x8 wr => IxRel w l s k x8 wr)
  case atStart => exact start.out
  case round =>
    clear start
    obtain ⟨i, rfl, hki, Bl, hV⟩ := hrel
    by_cases hlt : i < l.length
    · obtain ⟨g, rfl⟩ : ∃ g, gk = g + 1 := ⟨gk - 1, by omega⟩
      have e1 : decide (i < l.length) = true := decide_eq_true hlt
      obtain ⟨x, hx⟩ : ∃ x, l[i]? = some x := ⟨l[i]'hlt, List.getElem?_eq_getElem _⟩
      obtain ⟨ad, A3, c3, rfl, g0, g1, g2, g3, g4, g5, _⟩ := row_at51 (Kd.F_below HR.out Bl) hlt hx
      have OK : Hid _ := isName_is x A3 c3 b s wr (blk_below HB.out Bl)
      have BL : Hid _ := Bl
      rw [drop_at51 hx] at hV
      simp only [lookK] at hV
      have HX : Hid _ := hx
      clear Bl hx
      obtain ⟨xn, ⟨x0, x1, x2, x3⟩⟩ := x
      simp only [] at hV g0 g1 g2 g3 g4 g5 OK
      cases hv : (xn.toList == s.toList) with
      | true =>
        rw [hv] at OK
        rw [if_pos hv] at hV
        have HV : Hid _ := hV
        clear hV hv
        go_wp2_with fail
        refine Calls.mono OK.out ?_
        rintro e w2 ⟨rfl, B2⟩
        have B3 : Hid _ := below_after BL.out B2
        clear B2
        go_wp2_with fail
        go_ret
        exact ⟨i, rfl, B3.out, .inr ⟨i, _, rfl, HX.out, HV.out⟩⟩
      | false =>
        rw [hv] at OK
        rw [if_neg (by simp [hv])] at hV
        have HV : Hid _ := hV
        clear hV hv
        go_wp2_with fail
        refine Calls.mono OK.out ?_
        rintro e w2 ⟨rfl, B2⟩
        have B3 : Hid _ := below_after BL.out B2
        clear B2
        go_wp2_with fail
        go_roundg g
        case measure => omega
        case rel => exact ⟨i + 1, by go_num, by omega, B3.out, HV.out⟩
    · have e1 : decide (i < l.length) = false := decide_eq_false hlt
      have e3 : l.drop i = [] := List.drop_eq_nil_of_le (by omega)
      rw [e3] at hV
      have HV : Hid _ := hV
      have BL : Hid _ := Bl
      have hge : l.length ≤ i := by omega
      clear e3 Bl hV
      go_wp2_with fail
      go_ret
      exact ⟨-1, rfl, BL.out, .inl ⟨rfl, HV.out⟩⟩

/-- What find answers. -/
def FindKPost (w : World) (ok : Nat → Prop) (R : Option S24) (e : Ending) (w' : World) : Prop :=
  match R with
  | none => e = .returned (.tuple #[formV 0 0 ⟨#[]⟩ none 0 0, .bool false]) ∧ Below w.heap.size w w'
  | some x => ∃ A c, e = .returned (.tuple #[formV x.f0 x.f1 x.f2 A x.f3.length c, .bool true]) ∧ x.f3.length ≤ c ∧ Kd.F k24 w' ok A x.f3.length x.f3 ∧ Below w.heap.size w w'

set_option maxRecDepth 100000 in
set_option maxHeartbeats 8000000 in
theorem findK_any (l : List S51) (s : ByteArray) (A : Option Addr) (c : Nat) (w : World) (ok : Nat → Prop) (hr : Kd.F k51 w ok A l.length l) (hc : l.length ≤ c) (hn : l.length < 9000000) :
    Calls Tryz.prog 81 #[.slice A l.length c, .string s] w (FindKPost w ok (findK l s)) := by
  have hu24 := Tryz.underlying24
  have hu51 := Tryz.underlying51
  have hu25 := Tryz.underlying25
  have hmf : ∀ (fn : Fn) (first cap : Array Value) (w : World), (Instr.makeFunc fn first cap).run Tryz.prog w = .ok (.func fn first cap) w := fun _ _ _ _ => rfl
  obtain ⟨x1, x2, xb⟩ := twoB w (Obj.cells #[.string s] 9) (Obj.cells #[.int .i64 0, .int .i64 0, .string ⟨#[]⟩, .slice none 0 0] 24)
  have XB : Hid _ := xb
  have X1 : Hid _ := x1
  have X2 : Hid _ := x2
  have HR : Hid (Kd.F k51 w ok A l.length l) := hr
  clear hr xb x1 x2
  have RS : Hid _ := fun w1 => reserved_any s w1
  unfold findK
  cases hs : resM s with
  | true =>
    rw [hs] at RS
    rw [if_pos rfl]
    clear hs
    go_enter Tryz.func81, Tryz.ntmps81
    go_upto_region 1 with fail
    generalize (w.alloc (Obj.cells #[.string s] 9)).alloc (Obj.cells #[.int .i64 0, .int .i64 0, .string ⟨#[]⟩, .slice none 0 0] 24) = X at *
    have q0 : X.cell? ⟨w.heap.size, 0, none⟩ = some (.string s) := by simp [World.cell?, X1.out]
    go_wp2_with fail
    refine (RS.out _).mono ?_
    rintro e w2 ⟨rfl, B2⟩
    have hb := blk_below X2.out B2
    have f0 := frozen4 (i := 0) hb
    have f1 := frozen4 (i := 1) hb
    have f2 := frozen4 (i := 2) hb
    have f3 := frozen4 (i := 3) hb
    obtain ⟨p0, p1, p2, p3⟩ := cells4 hb
    have HB : Hid _ := hb
    have HB2 : Hid _ := below_after XB.out B2
    clear hb B2
    go_wp2_with fail
    refine bodyPost_ret (results_ct rfl _ _ (w.heap.size + 1) 24 #[.int .i64 0, .int .i64 0, .string ⟨#[]⟩, .slice none 0 0] (0, 0) _ rfl (set4 HB.out) Tryz.underlying24 rfl (by kernel_rfl)) rfl ?_
    exact ⟨rfl, below4 HB2.out (by omega)⟩
  | false =>
    rw [hs] at RS
    rw [if_neg (by simp)]
    clear hs
    go_enter Tryz.func81, Tryz.ntmps81
    go_upto_region 1 with fail
    generalize (w.alloc (Obj.cells #[.string s] 9)).alloc (Obj.cells #[.int .i64 0, .int .i64 0, .string ⟨#[]⟩, .slice none 0 0] 24) = X at *
    have q0 : X.cell? ⟨w.heap.size, 0, none⟩ = some (.string s) := by simp [World.cell?, X1.out]
    go_wp2_with fail
    refine (RS.out _).mono ?_
    rintro e w2 ⟨rfl, B2⟩
    have IX : Hid _ := IndexName_any l A c w.heap.size s w2 ok (Kd.F_below HR.out (below_after XB.out B2)) hc hn (blk_below X1.out B2)
    have HB2 : Hid _ := B2
    clear B2 q0
    go_wp2_with fail
    refine Calls.mono IX.out ?_
    rintro e w3 ⟨r, rfl, B3, hcase⟩
    have hb := blk_below (blk_below X2.out HB2.out) B3
    have f0 := frozen4 (i := 0) hb
    have f1 := frozen4 (i := 1) hb
    have f2 := frozen4 (i := 2) hb
    have f3 := frozen4 (i := 3) hb
    obtain ⟨p0, p1, p2, p3⟩ := cells4 hb
    have HB : Hid _ := hb
    have HB3 : Hid _ := below_after (below_after XB.out HB2.out) B3
    clear hb B3
    rcases hcase with ⟨rfl, hk⟩ | ⟨j, x, rfl, hx, hk⟩
    · have HK : Hid _ := hk
      clear hk
      go_wp2_with fail
      refine bodyPost_ret (results_ct rfl _ _ (w.heap.size + 1) 24 #[.int .i64 0, .int .i64 0, .string ⟨#[]⟩, .slice none 0 0] (0, 0) _ rfl (set4 HB.out) Tryz.underlying24 rfl (by kernel_rfl)) rfl ?_
      rw [HK.out]
      exact ⟨rfl, below4 HB3.out (by omega)⟩
    · have HK : Hid _ := hk
      clear hk
      have hjl : j < l.length := (List.getElem?_eq_some_iff.1 hx).1
      have e1 : decide ((j : Int) < 0) = false := decide_eq_false (by omega)
      obtain ⟨ad, A3, c3, rfl, g0, g1, g2, g3, g4, g5, g6⟩ := row_at51 HR.out hjl hx
      replace g0 := pw_cell_below HB3.out g0
      replace g1 := pw_cell_below HB3.out g1
      replace g2 := pw_cell_below HB3.out g2
      replace g3 := pw_cell_below HB3.out g3
      replace g4 := pw_cell_below HB3.out g4
      have H6 : Hid _ := g6
      clear hx g6
      obtain ⟨xn, ⟨x0, x1, x2, x3⟩⟩ := x
      simp only [] at g0 g1 g2 g3 g4 g5 H6
      go_wp2_with fail
      refine bodyPost_ret (results_ct rfl _ _ (w.heap.size + 1) 24 #[.int .i64 x0, .int .i64 x1, .string x2, .slice A3 x3.length c3] (0, 0) _ rfl (set4 HB.out) Tryz.underlying24 rfl (by kernel_rfl)) rfl ?_
      rw [HK.out]
      have B9 := below4 (a0 := .int .i64 x0) (a1 := .int .i64 x1) (a2 := .string x2) (a3 := .slice A3 x3.length c3) HB3.out (b := w.heap.size + 1) (by omega)
      refine ⟨A3, c3, rfl, g5, ?_, B9⟩
      exact Kd.F_below H6.out B9
end Go.Proofs.YtcjmplpfebpfpaaGreatDoor

namespace Go.Proofs.YtcjmplpfebpfpaaGreatDoor
open Go.RowKit Go.Proofs Go.Proofs.YtcjmplpfebpfpaaGreatDoorW.PrintWords Go.Proofs.YtcjmplpfebpfpaaGreatDoorW.PrintLast Go.Proofs.YtcjmplpfebpfpaaGreatDoorW.PrintMore PKindInstances
set_option linter.unusedVariables false
set_option linter.unusedSimpArgs false

/-- What apply answers: its parts lie in what came in or in new memory. -/
def AppPost (w : World) (ok : Nat → Prop) (r : S24) (e : Ending) (w' : World) : Prop :=
  ∃ A c, e = .returned (formV r.f0 r.f1 r.f2 A r.f3.length c) ∧ r.f3.length ≤ c ∧ Kd.F k24 w' (fun k => ok k ∨ w.heap.size ≤ k) A r.f3.length r.f3 ∧ Below w.heap.size w w'
def AppOk (by_ : List S51) (x : S24) : Prop :=
  ∀ (w : World) (ok : Nat → Prop) (A AB : Option Addr) (c cb : Nat) (bare : Bool), Kd.F k24 w ok A x.f3.length x.f3 → x.f3.length ≤ c → wid x < 9000000 → Kd.F k51 w ok AB by_.length by_ → by_.length ≤ cb → by_.length < 9000000 →
    Calls Tryz.prog 39 #[formV x.f0 x.f1 x.f2 A x.f3.length c, .slice AB by_.length cb, .bool bare] w (AppPost w ok (appM (findK by_) x bare))

set_option maxRecDepth 100000 in
set_option maxHeartbeats 4000000 in
/-- No list, and no word that is replaced. -/
theorem app_leaf (a n : Int) (s : ByteArray) (l : List S24) (w : World) (ok : Nat → Prop) (A AB : Option Addr) (c nb cb : Nat) (bare : Bool) (hr : Kd.F k24 w ok A l.length l) (hc : l.length ≤ c) (h1 : a ≠ 1 ∨ bare = true) (h3 : a ≠ 3) :
    Calls Tryz.prog 39 #[formV a n s A l.length c, .slice AB nb cb, .bool bare] w (AppPost w ok ⟨a, n, s, l⟩) := by
  have hu24 := Tryz.underlying24
  have b3 : (a != 3) = true := bne_iff_ne.mpr h3
  obtain ⟨x1, x2, xb⟩ := twoB w (Obj.cells #[.int .i64 a, .int .i64 n, .string s, .slice A l.length c] 24) (Obj.cells #[.int .i64 0, .int .i64 0, .string ⟨#[]⟩, .slice none 0 0] 24)
  have XB : Hid _ := xb
  have X2 : Hid _ := x2
  have HR : Hid (Kd.F k24 w ok A l.length l) := hr
  clear hr xb
  rcases h1 with h1 | h1
  · have b1 : (a == 1) = false := beq_eq_false_iff_ne.mpr h1
    go_enter Tryz.func39, Tryz.ntmps39
    go_upto_region 1 with fail
    generalize (w.alloc (Obj.cells #[.int .i64 a, .int .i64 n, .string s, .slice A l.length c] 24)).alloc (Obj.cells #[.int .i64 0, .int .i64 0, .string ⟨#[]⟩, .slice none 0 0] 24) = X at *
    obtain ⟨p0, p1, p2, p3⟩ := cells4 x1
    obtain ⟨q0, q1, q2, q3⟩ := cells4 x2
    have f0 := frozen4 (i := 0) x2
    have f1 := frozen4 (i := 1) x2
    have f2 := frozen4 (i := 2) x2
    have f3 := frozen4 (i := 3) x2
    clear x1 x2
    go_wp2_with fail
    refine bodyPost_ret (results_cell_row rfl _ _ (w.heap.size + 1) 24 #[.int .i64 a, .int .i64 n, .string s, .slice A l.length c] (0, 0) _ rfl (set4 X2.out) Tryz.underlying24 rfl (by kernel_rfl)) rfl ⟨A, c, rfl, hc, ?_, below4 XB.out (by omega)⟩
    exact Kd.F_mono (Kd.F_below HR.out (below4 XB.out (by omega))) (fun k hk => .inl hk)
  · subst h1
    go_enter Tryz.func39, Tryz.ntmps39
    go_upto_region 1 with fail
    generalize (w.alloc (Obj.cells #[.int .i64 a, .int .i64 n, .string s, .slice A l.length c] 24)).alloc (Obj.cells #[.int .i64 0, .int .i64 0, .string ⟨#[]⟩, .slice none 0 0] 24) = X at *
    obtain ⟨p0, p1, p2, p3⟩ := cells4 x1
    obtain ⟨q0, q1, q2, q3⟩ := cells4 x2
    have f0 := frozen4 (i := 0) x2
    have f1 := frozen4 (i := 1) x2
    have f2 := frozen4 (i := 2) x2
    have f3 := frozen4 (i := 3) x2
    clear x1 x2
    by_cases e1 : a = 1
    · have b1 : (a == 1) = true := beq_iff_eq.mpr e1
      clear e1
      go_wp2_with fail
      refine bodyPost_ret (results_cell_row rfl _ _ (w.heap.size + 1) 24 #[.int .i64 a, .int .i64 n, .string s, .slice A l.length c] (0, 0) _ rfl (set4 X2.out) Tryz.underlying24 rfl (by kernel_rfl)) rfl ⟨A, c, rfl, hc, ?_, below4 XB.out (by omega)⟩
      exact Kd.F_mono (Kd.F_below HR.out (below4 XB.out (by omega))) (fun k hk => .inl hk)
    · have b1 : (a == 1) = false := beq_eq_false_iff_ne.mpr e1
      clear e1
      go_wp2_with fail
      refine bodyPost_ret (results_cell_row rfl _ _ (w.heap.size + 1) 24 #[.int .i64 a, .int .i64 n, .string s, .slice A l.length c] (0, 0) _ rfl (set4 X2.out) Tryz.underlying24 rfl (by kernel_rfl)) rfl ⟨A, c, rfl, hc, ?_, below4 XB.out (by omega)⟩
      exact Kd.F_mono (Kd.F_below HR.out (below4 XB.out (by omega))) (fun k hk => .inl hk)

end Go.Proofs.YtcjmplpfebpfpaaGreatDoor

namespace Go.Proofs.YtcjmplpfebpfpaaGreatDoor
open Go.RowKit Go.Proofs Go.Proofs.YtcjmplpfebpfpaaGreatDoorW.PrintWords Go.Proofs.YtcjmplpfebpfpaaGreatDoorW.PrintLast Go.Proofs.YtcjmplpfebpfpaaGreatDoorW.PrintMore PKindInstances
set_option linter.unusedVariables false
set_option linter.unusedSimpArgs false

set_option maxRecDepth 100000 in
set_option maxHeartbeats 8000000 in
/-- A word that nothing stands for. -/
theorem app_keep (n : Int) (s : ByteArray) (l : List S24) (by_ : List S51) (w : World) (ok : Nat → Prop) (A AB : Option Addr) (c cb : Nat) (hr : Kd.F k24 w ok A l.length l) (hc : l.length ≤ c) (hby : Kd.F k51 w ok AB by_.length by_) (hbc : by_.length ≤ cb) (hbn : by_.length < 9000000) (hf : findK by_ s = none) :
    Calls Tryz.prog 39 #[formV 1 n s A l.length c, .slice AB by_.length cb, .bool false] w (AppPost w ok ⟨1, n, s, l⟩) := by
  have hu24 := Tryz.underlying24
  have hu51 := Tryz.underlying51
  obtain ⟨x1, x2, xb⟩ := twoB w (Obj.cells #[.int .i64 1, .int .i64 n, .string s, .slice A l.length c] 24) (Obj.cells #[.int .i64 0, .int .i64 0, .string ⟨#[]⟩, .slice none 0 0] 24)
  have XB : Hid _ := xb
  have X2 : Hid _ := x2
  have X1 : Hid _ := x1
  have HR : Hid (Kd.F k24 w ok A l.length l) := hr
  have HBY : Hid (Kd.F k51 w ok AB by_.length by_) := hby
  clear hr xb x1 x2 hby
  go_enter Tryz.func39, Tryz.ntmps39
  go_upto_region 1 with fail
  generalize (w.alloc (Obj.cells #[.int .i64 1, .int .i64 n, .string s, .slice A l.length c] 24)).alloc (Obj.cells #[.int .i64 0, .int .i64 0, .string ⟨#[]⟩, .slice none 0 0] 24) = X at *
  generalize hbA : w.heap.size = bA at *
  obtain ⟨p0, p1, p2, p3⟩ := cells4 X1.out
  have FI : Hid (∀ W, Below X.heap.size X W → Calls Tryz.prog 81 #[.slice AB by_.length cb, .string s] W fun e w' => e = .returned (.tuple #[formV 0 0 ⟨#[]⟩ none 0 0, .bool false]) ∧ Below W.heap.size W w') := fun W h => by
    have h9 := findK_any by_ s AB cb W ok (Kd.F_below HBY.out (by subst hbA; exact below_after XB.out h)) hbc hbn
    rw [hf] at h9
    exact h9
  go_wp2_with fail
  refine Calls.mono (FI.out _ (by first | exact Below.refl _ _ | (repeat (first | exact Below.refl _ _ | apply below_alloc | apply pw_below_drewN | apply below_drew1)))) ?_
  rintro e W4 ⟨rfl, B4⟩
  have HW4 : Hid (Below X.heap.size X W4) := B4
  clear B4
  go_upto_region 3 with fail
  have HV0 : Hid (Below X.heap.size X (W4.alloc (Obj.cells #[.int .i64 0, .int .i64 0, .string ⟨#[]⟩, .slice none 0 0] 24))) := below_alloc HW4.out _
  have V4 := (MapKept.heap_alloc W4 (Obj.cells #[.int .i64 0, .int .i64 0, .string ⟨#[]⟩, .slice none 0 0] 24)).1
  generalize W4.alloc (Obj.cells #[.int .i64 0, .int .i64 0, .string ⟨#[]⟩, .slice none 0 0] 24) = V at *
  generalize W4.heap.size = bq at *
  have x2 := blk_below X2.out HV0.out
  have x1 := blk_below X1.out HV0.out
  clear p0 p1 p2 p3
  obtain ⟨p0, p1, p2, p3⟩ := cells4 x1
  obtain ⟨q0, q1, q2, q3⟩ := cells4 x2
  obtain ⟨u0, u1, u2, u3⟩ := cells4 V4
  have f0 := frozen4 (i := 0) x2
  have f1 := frozen4 (i := 1) x2
  have f2 := frozen4 (i := 2) x2
  have f3 := frozen4 (i := 3) x2
  have Y2 : Hid _ := x2
  clear x1 x2 V4
  go_wp2_with fail
  subst hbA
  have BE : Below w.heap.size w _ := below4 (a0 := .int .i64 1) (a1 := .int .i64 n) (a2 := .string s) (a3 := .slice A l.length c) (b := w.heap.size + 1) (below_after XB.out HV0.out) (by omega)
  refine bodyPost_ret (results_cell_row rfl _ _ (w.heap.size + 1) 24 #[.int .i64 1, .int .i64 n, .string s, .slice A l.length c] (0, 0) _ rfl (set4 Y2.out) Tryz.underlying24 rfl (by kernel_rfl)) rfl ⟨A, c, rfl, hc, ?_, BE⟩
  exact Kd.F_mono (Kd.F_below HR.out BE) (fun k hk => .inl hk)

set_option maxRecDepth 100000 in
set_option maxHeartbeats 8000000 in
/-- A word that something stands for. -/
theorem app_found (n : Int) (s : ByteArray) (l : List S24) (by_ : List S51) (w : World) (ok : Nat → Prop) (A AB : Option Addr) (c cb : Nat) (hr : Kd.F k24 w ok A l.length l) (hc : l.length ≤ c) (hby : Kd.F k51 w ok AB by_.length by_) (hbc : by_.length ≤ cb) (hbn : by_.length < 9000000) (y : S24) (hf : findK by_ s = some y) :
    Calls Tryz.prog 39 #[formV 1 n s A l.length c, .slice AB by_.length cb, .bool false] w (AppPost w ok y) := by
  have hu24 := Tryz.underlying24
  have hu51 := Tryz.underlying51
  obtain ⟨x1, x2, xb⟩ := twoB w (Obj.cells #[.int .i64 1, .int .i64 n, .string s, .slice A l.length c] 24) (Obj.cells #[.int .i64 0, .int .i64 0, .string ⟨#[]⟩, .slice none 0 0] 24)
  have XB : Hid _ := xb
  have X2 : Hid _ := x2
  have X1 : Hid _ := x1
  have HR : Hid (Kd.F k24 w ok A l.length l) := hr
  have HBY : Hid (Kd.F k51 w ok AB by_.length by_) := hby
  clear hr xb x1 x2 hby
  have FI0 : Hid (∀ W, Below w.heap.size w W → Calls Tryz.prog 81 #[.slice AB by_.length cb, .string s] W (FindKPost W (fun k => ok k ∧ k < w.heap.size) (some y))) := fun W h => by
    have h9 := findK_any by_ s AB cb W (fun k => ok k ∧ k < w.heap.size) (Kd.F_below (Kd.F_bound HBY.out) h) hbc hbn
    rw [hf] at h9
    exact h9
  obtain ⟨y0, y1, y2, y3⟩ := y
  go_enter Tryz.func39, Tryz.ntmps39
  go_upto_region 1 with fail
  generalize (w.alloc (Obj.cells #[.int .i64 1, .int .i64 n, .string s, .slice A l.length c] 24)).alloc (Obj.cells #[.int .i64 0, .int .i64 0, .string ⟨#[]⟩, .slice none 0 0] 24) = X at *
  generalize hbA : w.heap.size = bA at *
  obtain ⟨p0, p1, p2, p3⟩ := cells4 X1.out
  have FI : Hid (∀ W, Below X.heap.size X W → Calls Tryz.prog 81 #[.slice AB by_.length cb, .string s] W fun e w' => ∃ A c, e = .returned (.tuple #[formV y0 y1 y2 A y3.length c, .bool true]) ∧ y3.length ≤ c ∧ Kd.F k24 w' (fun k => ok k ∧ k < bA) A y3.length y3 ∧ Below W.heap.size W w') := fun W h => FI0.out W (by subst hbA; exact below_after XB.out h)
  go_wp2_with fail
  refine Calls.mono (FI.out _ (by first | exact Below.refl _ _ | (repeat (first | exact Below.refl _ _ | apply below_alloc | apply pw_below_drewN | apply below_drew1)))) ?_
  rintro e W4 ⟨AF, cF, rfl, hcF, hFF, B4⟩
  have HW4 : Hid (Below X.heap.size X W4) := B4
  have HFF : Hid _ := hFF
  clear hFF
  clear B4
  go_upto_region 3 with fail
  have HV0 : Hid (Below X.heap.size X (W4.alloc (Obj.cells #[.int .i64 y0, .int .i64 y1, .string y2, .slice AF y3.length cF] 24))) := below_alloc HW4.out _
  have V4 := (MapKept.heap_alloc W4 (Obj.cells #[.int .i64 y0, .int .i64 y1, .string y2, .slice AF y3.length cF] 24)).1
  generalize W4.alloc (Obj.cells #[.int .i64 y0, .int .i64 y1, .string y2, .slice AF y3.length cF] 24) = V at *
  generalize W4.heap.size = bq at *
  have x2 := blk_below X2.out HV0.out
  have x1 := blk_below X1.out HV0.out
  clear p0 p1 p2 p3
  obtain ⟨p0, p1, p2, p3⟩ := cells4 x1
  obtain ⟨q0, q1, q2, q3⟩ := cells4 x2
  obtain ⟨u0, u1, u2, u3⟩ := cells4 V4
  have f0 := frozen4 (i := 0) x2
  have f1 := frozen4 (i := 1) x2
  have f2 := frozen4 (i := 2) x2
  have f3 := frozen4 (i := 3) x2
  have Y2 : Hid _ := x2
  clear x1 x2 V4
  go_wp2_with fail
  subst hbA
  have BE : Below w.heap.size w _ := below4 (a0 := .int .i64 y0) (a1 := .int .i64 y1) (a2 := .string y2) (a3 := .slice AF y3.length cF) (b := w.heap.size + 1) (below_after XB.out HV0.out) (by omega)
  refine bodyPost_ret (results_cell_row rfl _ _ (w.heap.size + 1) 24 #[.int .i64 y0, .int .i64 y1, .string y2, .slice AF y3.length cF] (0, 0) _ rfl (set4 Y2.out) Tryz.underlying24 rfl (by kernel_rfl)) rfl ⟨AF, cF, rfl, hcF, ?_, BE⟩
  exact Kd.F_mono (Kd.F_step HFF.out (fun k hk hlt => (BE.block k hk.2).trans ((below_after XB.out HW4.out).block k hk.2).symm)) (fun k hk => .inl hk.1)

end Go.Proofs.YtcjmplpfebpfpaaGreatDoor
