/- Walks over package search: Value, decide. -/
import Derived.Test.YtdllaphnkbnpoaaGreatWa
import Derived.Deep.LoopGhost
import Derived.Deep.QuietTactic
namespace Go.Proofs.YtdllaphnkbnpoaaGreat
open Go.RowKit Go.Proofs

theorem value_any {base p fuel : Nat} {σ : S} {μ : Vals} {loc : Nat → Res} {w : World} (H : Holds base w (full p fuel σ μ loc)) {v : Nat} (h0 : 0 < σ.phase.length) :
    Calls Tryz.prog 67 #[.pointer (some ⟨p, 0, none⟩), .int .i64 (v : Int)] w fun e w' => e = .returned (.bool (σ.isTrue v)) ∧ w = w' := by
  have c10 := full_c10 H h0
  by_cases hlt : v < σ.phase.length
  · have v10 := full_v10 H hlt
    have e : σ.isTrue v = decide (0 < at0 σ.phase v) := by simp [S.isTrue, hlt]
    rw [e]
    clear e H
    go_enter Tryz.func67, Tryz.ntmps67
    go_wp2_with fail
    go_ret
    exact ⟨rfl, rfl⟩
  · have e : σ.isTrue v = false := by simp [S.isTrue, hlt]
    rw [e]
    have hge : σ.phase.length ≤ v := by omega
    have hd : decide ((v : Int) < (σ.phase.length : Int)) = false := by simp; omega
    clear e H hlt
    go_enter Tryz.func67, Tryz.ntmps67
    go_wp2_with fail
    go_ret
    exact ⟨rfl, rfl⟩

def BestRel (σ : S) (B N : Nat) (w : World) (k : Nat) (x3 x4 : Value) (wr : World) : Prop :=
  ∃ v best n : Nat, x3 = .int .i64 (best : Int) ∧ x4 = .int .i64 (v : Int) ∧ k + v = N ∧ 1 ≤ v ∧ best < N ∧ wr = w.drewN n ∧ σ.bestN k v best = B

set_option maxHeartbeats 4000000 in
theorem decide_any {base p fuel : Nat} {σ : S} {μ : Vals} {loc : Nat → Res} {w : World} (H : Holds base w (full p fuel σ μ loc)) (he : σ.even) (h0 : 0 < σ.value.length) (h1 : σ.value.length ≤ 60000) :
    Calls Tryz.prog 116 #[.pointer (some ⟨p, 0, none⟩)] w fun e w' => e = .returned (.int .i64 σ.decide_) ∧ ∃ n, w' = w.drewN n := by
  obtain ⟨e1, e2, e3, e4⟩ := he
  have start : Hid (BestRel σ (σ.bestN (σ.value.length - 1) 1 0) σ.value.length w (σ.value.length - 1) (.int .i64 ((0 : Nat) : Int)) (.int .i64 ((1 : Nat) : Int)) w) := ⟨1, 0, 0, rfl, rfl, by omega, by omega, by omega, rfl, rfl⟩
  have HH : Hid _ := H
  have ED : Hid (σ.decide_ = if 0 < σ.bestN (σ.value.length - 1) 1 0 ∧ at0 σ.phase (σ.bestN (σ.value.length - 1) 1 0) < 0 then -((σ.bestN (σ.value.length - 1) 1 0 : Nat) : Int) else ((σ.bestN (σ.value.length - 1) 1 0 : Nat) : Int)) := rfl
  have E3 : Hid (σ.weight.length = σ.value.length) := e3
  have E4 : Hid (σ.phase.length = σ.value.length) := e4
  clear H e1 e2 e3 e4
  generalize hB : σ.bestN (σ.value.length - 1) 1 0 = B at *
  clear hB
  go_enter Tryz.func116, Tryz.ntmps116
  go_wp2_with fail
  go_loopg [3, 4] (σ.value.length - 1) (fun k x3 x4 wr => BestRel σ B σ.value.length w k x3 x4 wr)
  case atStart => exact start.out
  case round =>
    clear start
    obtain ⟨v, best, n, rfl, rfl, hk, hv, hb, hw, hR⟩ := hrel
    have HW : Holds base wr (full p fuel σ μ loc) := by rw [hw]; exact HH.out.drewN n
    have WW : Hid _ := hw
    clear hw
    have c6 := full_c6 HW h0
    have l9 : σ.weight.length = σ.value.length := E3.out
    have l10 : σ.phase.length = σ.value.length := E4.out
    by_cases hlt : v < σ.value.length
    · obtain ⟨m, rfl⟩ : ∃ m, gk = m + 1 := ⟨gk - 1, by omega⟩
      rw [S.bestN] at hR
      have c9 := full_c9 HW (by omega)
      have v6 := full_v6 HW hlt
      have vv9 := full_v9 HW (n := v) (by omega)
      have vb9 := full_v9 HW (n := best) (by omega)
      rw [l9] at c9
      clear HW l9 l10
      have hi1 : (0 : Int) ≤ (v : Int) := by omega
      have hi2 : (v : Int) < (σ.value.length : Int) := by omega
      have hi3 : (0 : Int) ≤ (best : Int) := by omega
      have hi4 : (best : Int) < (σ.value.length : Int) := by omega
      by_cases hz : at0 σ.value v = 0
      · have g1 : (at0 σ.value v == 0) = true := by simp [hz]
        by_cases hb0 : best = 0
        · have hr : σ.bestN m (v + 1) v = B := by rw [if_pos ⟨hz, .inl hb0⟩] at hR; exact hR
          have HR : Hid _ := hr
          subst hb0
          have g2 : ((((0 : Nat) : Int)) == 0) = true := by simp
          rw [hz] at v6
          clear hR hr hz
          go_wp2_with fail
          go_quiet (fail)
          go_wp2_with fail
          go_roundg m
          case measure => omega
          case rel => exact ⟨v + 1, v, _, rfl, by go_num, by omega, by omega, by omega, by rw [WW.out]; exact World.drewN_drewN .., HR.out⟩
        · have g2 : ((best : Int) == 0) = false := by simp [hb0]
          by_cases hw : σ.weight.getD best 0 < σ.weight.getD v 0
          · have hr : σ.bestN m (v + 1) v = B := by rw [if_pos ⟨hz, .inr hw⟩] at hR; exact hR
            have HR : Hid _ := hr
            rw [hz] at v6
            have g3 : ((σ.weight.getD best 0 : Nat) : Int) < ((σ.weight.getD v 0 : Nat) : Int) := by omega
            generalize σ.weight.getD best 0 = a at *
            generalize σ.weight.getD v 0 = b at *
            clear hR hr hz hw
            go_wp2_with fail
            go_quiet (fail)
            go_wp2_with fail
            go_roundg m
            case measure => omega
            case rel => exact ⟨v + 1, v, _, rfl, by go_num, by omega, by omega, by omega, by rw [WW.out]; exact World.drewN_drewN .., HR.out⟩
          · have hr : σ.bestN m (v + 1) best = B := by rw [if_neg (fun c => c.2.elim hb0 hw)] at hR; exact hR
            have HR : Hid _ := hr
            rw [hz] at v6
            have g3 : decide (((σ.weight.getD best 0 : Nat) : Int) < ((σ.weight.getD v 0 : Nat) : Int)) = false := decide_eq_false (by omega)
            have g4 : ((σ.weight.getD v 0 : Nat) : Int) ≤ ((σ.weight.getD best 0 : Nat) : Int) := by omega
            generalize σ.weight.getD best 0 = a at *
            generalize σ.weight.getD v 0 = b at *
            clear hR hr hz hw
            go_wp2_with fail
            go_quiet (fail)
            go_wp2_with fail
            go_roundg m
            case measure => omega
            case rel => exact ⟨v + 1, best, _, rfl, by go_num, by omega, by omega, by omega, by rw [WW.out]; exact World.drewN_drewN .., HR.out⟩
      · have g1 : (at0 σ.value v == 0) = false := by simp [hz]
        have hr : σ.bestN m (v + 1) best = B := by rw [if_neg (fun c => hz c.1)] at hR; exact hR
        have HR : Hid _ := hr
        clear hR hr
        go_wp2_with fail
        go_quiet (fail)
        go_wp2_with fail
        go_roundg m
        case measure => omega
        case rel => exact ⟨v + 1, best, _, rfl, by go_num, by omega, by omega, by omega, by rw [WW.out]; exact World.drewN_drewN .., HR.out⟩
    · have hm : gk = 0 := by omega
      subst hm
      rw [S.bestN] at hR
      subst hR
      have c10 := full_c10 HW (by omega)
      have v10 := full_v10 HW (n := best) (by omega)
      rw [l10] at c10
      clear HW l9 l10
      by_cases hp : 0 < best
      · by_cases hq : at0 σ.phase best < 0
        · have hr : σ.decide_ = -(best : Int) := by rw [ED.out, if_pos ⟨hp, hq⟩]
          have HR : Hid _ := hr
          clear hr
          go_wp2_with fail
          go_ret
          exact ⟨by rw [HR.out]; rfl, n, WW.out⟩
        · have hr : σ.decide_ = (best : Int) := by rw [ED.out, if_neg (fun c => hq c.2)]
          have HR : Hid _ := hr
          clear hr
          go_wp2_with fail
          go_ret
          exact ⟨by rw [HR.out]; rfl, n, WW.out⟩
      · have hr : σ.decide_ = (best : Int) := by rw [ED.out, if_neg (fun c => hp c.1)]
        have HR : Hid _ := hr
        have hd : decide ((0 : Int) < (best : Int)) = false := by simp; omega
        clear hr
        go_wp2_with fail
        go_ret
        exact ⟨by rw [HR.out]; rfl, n, WW.out⟩
end Go.Proofs.YtdllaphnkbnpoaaGreat
