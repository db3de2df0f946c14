/- Walks over package search: placed. -/
import Derived.Test.YtdllaphnkbnpoaaGreatWe
namespace Go.Proofs.YtdllaphnkbnpoaaGreat
open Go.RowKit Go.Proofs

theorem variable_q {l : Int} {v : Nat} (hv : v = l.natAbs) (w : World) (h0 : -60000 ≤ l) (h1 : l ≤ 60000) :
    Calls Tryz.prog 84 #[.int .i64 l] w fun e w' => e = .returned (.int .i64 (v : Int)) ∧ w' = w := (variable_is hv w h0 h1).mono fun _ _ h => ⟨h.1, h.2.symm⟩

def setLoc (loc : Nat → Res) (i : Nat) (r : Res) : Nat → Res := fun j => if j = i then r else loc j

section
variable {base p fuel : Nat} {w : World} {σ : S} {μ : Vals} {loc : Nat → Res}
theorem upd_loc (i : Nat) (r : Res) : upd (full p fuel σ μ loc) (.loc i) r = full p fuel σ μ (setLoc loc i r) := by
  funext k
  cases k with
  | loc j =>
    by_cases h : j = i
    · subst h; rw [upd_same]; simp [full, setLoc]
    · rw [upd_other _ _ (by simpa using h)]; simp [full, setLoc, h]
  | st => rfl
  | fld j => rw [upd_other _ _ (by simp)]; unfold full; split <;> simp_all
  | cls j => rfl
  | log j => rfl
  | mp => rfl
  | wt x => rfl
theorem setLoc_same (i : Nat) (r : Res) : setLoc loc i r i = r := by simp [setLoc]
theorem setLoc_other {i j : Nat} (r : Res) (h : j ≠ i) : setLoc loc i r j = loc j := by simp [setLoc, h]
theorem setLoc_setLoc (i : Nat) (r r' : Res) : setLoc (setLoc loc i r) i r' = setLoc loc i r' := by funext j; simp only [setLoc]; split <;> rfl
theorem setLoc_id {i : Nat} {r : Res} (h : loc i = r) : setLoc loc i r = loc := by funext j; simp only [setLoc]; split <;> simp_all

/-- Two elements of a local slice are exchanged. -/
theorem swap_loc (H : Holds base w (full p fuel σ μ loc)) {i a b : Nat} {v : Value} {c : List Int} (hl : loc i = .row v 3 (ints c)) (ha : a < c.length) (hb : b < c.length) :
    Holds base ((w.setCell ⟨gb v, a, none⟩ (.int .i64 (at0 c b))).setCell ⟨gb v, b, none⟩ (.int .i64 (at0 c a))) (full p fuel σ μ (setLoc loc i (.row v 3 (ints (swap c a b))))) := by
  have H1 := H.store (k := .loc i) hl (i := a) (by rw [ints_length]; exact ha) (.int .i64 (at0 c b)) (full_base H)
  rw [ints_set, upd_loc] at H1
  have H2 := H1.store (k := .loc i) (setLoc_same i _) (i := b) (by rw [ints_length]; simpa using hb) (.int .i64 (at0 c a)) (full_base H1)
  rw [ints_set, upd_loc, setLoc_setLoc] at H2
  exact H2
end

def PlRel (base p fuel : Nat) (σ : S) (μ : Vals) (loc : Nat → Res) (vc : Value) (n : Nat) (R : List Int × Nat) (w : World) (k : Nat) (x6 x7 : Value) (wr : World) : Prop :=
  ∃ (lev i : Nat) (c : List Int), x6 = .int .i64 (lev : Int) ∧ x7 = .int .i64 (i : Int) ∧ k + i = n ∧ 1 ≤ i ∧ c.length = n ∧ Holds base wr (full p fuel σ μ (setLoc loc 0 (.row vc 3 (ints c)))) ∧ Below base w wr ∧ σ.placedO k i lev c = some R

set_option maxHeartbeats 4000000 in
theorem placed_any {base p fuel : Nat} {σ : S} {μ : Vals} {loc : Nat → Res} {w : World} (H : Holds base w (full p fuel σ μ loc)) {c c' : List Int} {vc : Value} {lev : Nat} (hl : loc 0 = .row vc 3 (ints c)) (h1 : 1 ≤ c.length) (h2 : c.length ≤ 60000) (h : σ.placedO (c.length - 1) 1 0 c = some (c', lev)) :
    Calls Tryz.prog 114 #[.pointer (some ⟨p, 0, none⟩), .slice (some ⟨gb vc, 0, none⟩) c.length (cp vc)] w fun e w' => e = .returned (.tuple #[.slice (some ⟨gb vc, 0, none⟩) c.length (cp vc), .int .i64 (lev : Int)]) ∧ Holds base w' (full p fuel σ μ (setLoc loc 0 (.row vc 3 (ints c')))) ∧ c'.length = c.length ∧ Below base w w' := by
  have start : Hid (PlRel base p fuel σ μ loc vc c.length (c', lev) w (c.length - 1) (.int .i64 ((0 : Nat) : Int)) (.int .i64 ((1 : Nat) : Int)) w) := ⟨0, 1, c, rfl, rfl, by omega, by omega, rfl, by rw [setLoc_id hl]; exact H, Below.refl _ _, h⟩
  clear H hl h
  generalize c.length = n at *
  go_enter Tryz.func114, Tryz.ntmps114
  go_wp2_with fail
  go_loopg [6, 7] (n - 1) (fun k x6 x7 wr => PlRel base p fuel σ μ loc vc n (c', lev) w k x6 x7 wr)
  case atStart => exact start.out
  case round =>
    clear start
    obtain ⟨lv, i, d, rfl, rfl, hk, hi, hd, H, B, hR⟩ := hrel
    by_cases hlt : i < n
    · obtain ⟨m, rfl⟩ : ∃ m, gk = m + 1 := ⟨gk - 1, by omega⟩
      rw [S.placedO] at hR
      split at hR
      · rename_i hc
        obtain ⟨⟨l0, l1, l2⟩, e1, e2, e3, e4⟩ := hc
        have c7 := full_c7 H (by omega)
        have v7 := full_v7 H (n := (at0 d i).natAbs) (by omega)
        have hL := setLoc_same (loc := loc) 0 (.row vc 3 (ints d))
        have ei := H.elem (k := .loc 0) hL (ints_at d (i := i) (by omega))
        have e1' := H.elem (k := .loc 0) hL (ints_at d (i := 1) (by omega))
        have fi := H.free (k := .loc 0) hL (by rw [ints_length]; omega) i
        have f1 := H.free (k := .loc 0) hL (by rw [ints_length]; omega) 1
        rw [e1] at c7
        have hb := (H.lt (.loc 0) (H.gb_ hL (by rw [ints_length]; omega))).1
        have HS : Hid _ := swap_loc H hL (a := 1) (b := i) (by omega) (by omega)
        have HH : Hid _ := H
        have BS : Hid _ := (B.setCell (p := ⟨gb vc, 1, none⟩) hb (.int .i64 (at0 d i))).setCell (p := ⟨gb vc, i, none⟩) hb (.int .i64 (at0 d 1))
        have BB : Hid _ := B
        have hla : -60000 ≤ at0 d i := by omega
        have hlb : at0 d i ≤ 60000 := by omega
        have i1 : (0 : Int) ≤ (i : Int) := by omega
        have i2 : (i : Int) < (n : Int) := by omega
        have DD : Hid _ := hd
        clear H B hL e1 e2 e3 e4 hd
        generalize hx : at0 d i = x at *
        have XX : Hid _ := hx
        clear hx
        generalize hv : x.natAbs = v at *
        have VV : Hid _ := hv.symm
        have i3 : (0 : Int) ≤ (v : Int) := by omega
        have i4 : (v : Int) < (σ.value.length : Int) := by omega
        clear hv
        have v7' : wr.cell? ⟨gb μ.lev, v, none⟩ = some (.int .i64 ((σ.level.getD v 0 : Nat) : Int)) := v7
        clear v7
        by_cases hlv : lv < σ.level.getD v 0
        · rw [if_pos hlv] at hR
          have hlv2 : (lv : Int) < ((σ.level.getD v 0 : Nat) : Int) := by omega
          generalize σ.level.getD v 0 = q at *
          have RR : Hid _ := hR
          clear hR hlv
          go_wp2_with fail
          go_quiet ((go_at_call 84; exact Calls.quiet_of_same (variable_q VV.out _ hla hlb)))
          go_wp2_with fail
          by_cases hi1 : i = 1
          · subst hi1
            go_region
            go_wp2_with fail
            go_roundg m
            case measure => omega
            case rel =>
              have hS := swap_loc (HH.out.drewN (nq + 1)) (setLoc_same (loc := loc) 0 (.row vc 3 (ints d))) (a := 1) (b := 1) (by have := DD.out; omega) (by have := DD.out; omega)
              rw [setLoc_setLoc, XX.out] at hS
              refine ⟨q, 1 + 1, swap d 1 1, rfl, by go_num, by omega, by omega, by simp [swap, DD.out], ?_, ?_, RR.out⟩
              · simpa [XX.out] using hS
              · exact ((below_drewN BB.out (nq + 1)).setCell (p := ⟨gb vc, 1, none⟩) hb _).setCell (p := ⟨gb vc, 1, none⟩) hb _
          · have hne : i ≠ 1 := hi1
            go_region
            go_wp2_with fail
            go_roundg m
            case measure => omega
            case rel =>
              have hS := swap_loc (HH.out.drewN (nq + 1)) (setLoc_same (loc := loc) 0 (.row vc 3 (ints d))) (a := 1) (b := i) (by have := DD.out; omega) (by have := DD.out; omega)
              rw [setLoc_setLoc, XX.out] at hS
              refine ⟨q, i + 1, swap d 1 i, rfl, by go_num, by omega, by omega, by simp [swap, DD.out], ?_, ?_, RR.out⟩
              · exact hS
              · exact ((below_drewN BB.out (nq + 1)).setCell (p := ⟨gb vc, 1, none⟩) hb _).setCell (p := ⟨gb vc, i, none⟩) hb _
        · rw [if_neg hlv] at hR
          have hlv2 : ((σ.level.getD v 0 : Nat) : Int) ≤ (lv : Int) := by omega
          generalize σ.level.getD v 0 = q at *
          have RR : Hid _ := hR
          clear hR hlv
          go_wp2_with fail
          go_quiet ((go_at_call 84; exact Calls.quiet_of_same (variable_q VV.out _ hla hlb)))
          go_wp2_with fail
          go_roundg m
          case measure => omega
          case rel => exact ⟨lv, i + 1, d, rfl, by go_num, by omega, by omega, DD.out, HH.out.drewN _, below_drewN BB.out _, RR.out⟩
      · cases hR
    · obtain rfl : gk = 0 := by omega
      rw [S.placedO] at hR
      injection hR with hR
      injection hR with hR1 hR2
      subst hR1 hR2
      have HE : Hid _ := And.intro H (And.intro hd B)
      have hge : n ≤ i := by omega
      clear H B hd hlt
      go_wp2_with fail
      go_ret2
      exact ⟨rfl, HE.out⟩
end Go.Proofs.YtdllaphnkbnpoaaGreat
