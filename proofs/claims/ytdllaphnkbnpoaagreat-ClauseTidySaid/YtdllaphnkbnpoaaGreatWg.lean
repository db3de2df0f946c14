/- Walks over package search: moves. -/
import Derived.Test.YtdllaphnkbnpoaaGreatWf
import Derived.Test.YtdllaphnkbnpoaaGreatWd
namespace Go.Proofs.YtdllaphnkbnpoaaGreat
open Go.RowKit Go.Proofs

def MovRel (σ : S) (k N : Nat) (R : S × Bool) (w : World) (m : Nat) (x7 : Value) (wr : World) : Prop :=
  ∃ i : Nat, x7 = .int .i64 (i : Int) ∧ m + i = N ∧ 2 ≤ i ∧ wr = w ∧ σ.movesO k m i = some R

set_option maxRecDepth 100000 in
set_option maxHeartbeats 4000000 in
theorem moves_any {base p fuel : Nat} {σ σ' : S} {μ : Vals} {loc : Nat → Res} {w : World} {b : Bool} (H : Holds base w (full p fuel σ μ loc)) (G : Good σ μ) {k : Nat} {vc : Value} (hv : μ.vcs[k]? = some vc) (hk : k < σ.clauses.length) (h1 : 2 ≤ (σ.clause k).length) (h2 : (σ.clause k).length ≤ 60000)
    (h : σ.movesO k ((σ.clause k).length - 2) 2 = some (σ', b)) :
    Calls Tryz.prog 113 #[.pointer (some ⟨p, 0, none⟩), .slice (some ⟨gb vc, 0, none⟩) (σ.clause k).length (cp vc), .int .i64 (k : Int)] w fun e w' => e = .returned (.bool b) ∧ PostK base w p fuel σ σ' μ loc w' := by
  have start : Hid (MovRel σ k (σ.clause k).length (σ', b) w ((σ.clause k).length - 2) (.int .i64 ((2 : Nat) : Int)) w) := ⟨2, rfl, by omega, by omega, rfl, h⟩
  clear h
  obtain ⟨v', hv', hrow⟩ := cls_row (p := p) (fuel := fuel) (loc := loc) G hk
  obtain rfl : v' = vc := by rw [hv] at hv'; injection hv' with h; exact h.symm
  have HH : Hid _ := H
  have GG : Hid _ := G
  have RW : Hid _ := hrow
  have VV : Hid _ := hv
  clear H G hrow hv hv'
  generalize hN : (σ.clause k).length = N at *
  have NN : Hid _ := hN
  clear hN
  go_enter Tryz.func113, Tryz.ntmps113
  go_wp2_with fail
  go_loopg [7] (N - 2) (fun m x7 wr => MovRel σ k N (σ', b) w m x7 wr)
  case atStart => exact start.out
  case round =>
    clear start
    obtain ⟨i, rfl, hm, hi, rfl, hR⟩ := hrel
    by_cases hlt : i < N
    · obtain ⟨m, rfl⟩ : ∃ m, gk = m + 1 := ⟨gk - 1, by omega⟩
      rw [S.movesO] at hR
      obtain ⟨x, hx, hR⟩ := Option.bind_eq_some_iff.1 hR
      have ei := HH.out.elem RW.out (ints_at _ (i := i) (by rw [NN.out]; exact hlt))
      have i1 : (0 : Int) ≤ (i : Int) := by omega
      have i2 : (i : Int) < (N : Int) := by omega
      have XH : Hid _ := hx
      obtain ⟨q, hq⟩ : ∃ q, q = at0 (σ.clause k) i := ⟨_, rfl⟩
      have QQ : Hid _ := hq
      rw [← hq] at ei hR
      by_cases hx0 : 0 ≤ x
      · rw [if_pos hx0] at hR
        have e1 := HH.out.elem RW.out (ints_at _ (i := 1) (by rw [NN.out]; omega))
        have f1 := HH.out.free RW.out (by rw [ints_length, NN.out]; omega) 1
        have fi := HH.out.free RW.out (by rw [ints_length, NN.out]; omega) i
        have hne : i ≠ 1 := by omega
        have hn1 : 1 < N := by omega
        have hn2 : (1 : Int) < (N : Int) := by omega
        have RR : Hid _ := hR
        clear hR hq hx
        go_wp2_with (go_at_call 85; refine (of_any HH.out (by rw [QQ.out]; exact XH.out)).mono ?_; rintro e w' ⟨rfl, rfl⟩)
        go_region
        go_wp2_with fail
        have H2 := (swap_cls HH.out GG.out VV.out hk (a := 1) (b := i) (by rw [NN.out]; omega) (by rw [NN.out]; exact hlt)).drew
        rw [← QQ.out] at H2
        have hb := (HH.out.lt (.cls k) (HH.out.gb_ RW.out (by rw [ints_length, NN.out]; omega))).1
        have B2 : Hid _ := (((Below.refl base wr).setCell (p := ⟨gb v', 1, none⟩) hb (.int .i64 q)).setCell (p := ⟨gb v', i, none⟩) hb (.int .i64 (at0 (σ.clause k) 1))).drew
        generalize (((wr.setCell ⟨gb v', 1, none⟩ (.int .i64 q)).setCell ⟨gb v', i, none⟩ (.int .i64 (at0 (σ.clause k) 1))).drew) = w2 at *
        have hR := RR.out
        obtain ⟨hlen, hR1, hR2⟩ : (σ.watch q).length < 60000 ∧ (σ.setClause k (swap (σ.clause k) 1 i)).watchMore q k = σ' ∧ true = b := by
          split at hR
          · rename_i hc
            injection hR with hR
            injection hR with ha hb
            exact ⟨hc, ha, hb⟩
          · cases hR
        have G2 : Hid _ := good_cls GG.out k (swap (σ.clause k) 1 i)
        have C2 := clause_set hk (swap (σ.clause k) 1 i)
        have Q1 := swap_at1 (σ.clause k) (i := i) (by rw [NN.out]; omega) (by omega)
        rw [← QQ.out] at Q1
        have L1 : (swap (σ.clause k) 1 i).length = N := by rw [swap_length, NN.out]
        have hk2 : k < (σ.setClause k (swap (σ.clause k) 1 i)).clauses.length := by simpa [S.setClause] using hk
        have W2 : (σ.setClause k (swap (σ.clause k) 1 i)).watch = σ.watch := rfl
        generalize σ.setClause k (swap (σ.clause k) 1 i) = σ2 at *
        generalize swap (σ.clause k) 1 i = c2 at *
        obtain ⟨v2, hv2, hrow2⟩ := cls_row (p := p) (fuel := fuel) (loc := loc) G2.out hk2
        obtain rfl : v2 = v' := by have := VV.out; rw [this] at hv2; injection hv2 with h; exact h.symm
        rw [C2] at hrow2
        have R2 : Hid _ := hrow2
        have H2H : Hid _ := H2
        have QC : Hid _ := Q1
        have LC : Hid _ := L1
        have E1 : Hid _ := hR1
        have E2 : Hid _ := hR2
        have W2H : Hid _ := W2
        rw [← W2] at hlen
        clear hR RR H2 hrow2 hv2 Q1 L1 C2 hR1 hR2 ei e1 f1 fi W2
        have q5 := full_c5 H2H.out
        have e0 : w2.cell? ⟨gb v2, 1, none⟩ = some (.int .i64 q) := by
          have := H2H.out.elem R2.out (ints_at c2 (i := 1) (by rw [LC.out]; exact hn1))
          rw [QC.out] at this; exact this
        have r1 := look_run H2H.out.drew G2.out q
        have r2 := look_run (H2H.out.alloc (.cells #[.int .i64 (k : Nat)] 3)).drew G2.out q
        have LH : Hid _ := (H2H.out.alloc (.cells #[.int .i64 (k : Nat)] 3)).drew
        have BL : Hid _ := (Below.refl base w2).alloc (full_base H2H.out) (.cells #[.int .i64 (k : Nat)] 3)
        go_region_held3 (fun w' => w'.cell? ⟨p, 5, none⟩ = some (.map (some μ.mb)) ∧ w'.cell? ⟨gb v2, 1, none⟩ = some (.int .i64 q))
          (first | go_keep | exact ⟨k5', e0'⟩ | exact ⟨k5'', e0''⟩)
          ((refine step_pushW LH.out G2.out q k (by rfl) _ _ (by rfl) Tryz.underlying23 info3 (by rfl) w2.heap.size (by rfl) (cell_new_drew _ _ _ _ rfl) hlen ?_; intro A4 c4 x4 H3 B4; obtain ⟨w4, hrun, hm4, hg4⟩ := upd_run (push_map H3) q (.slice A4 ((σ2.watch q).length + 1) c4); have k5' := put_cell (by simp) H3 5 rfl; have e0' : x4.cell? ⟨gb v2, 1, none⟩ = some (.int .i64 q) := (by have := H3.elem (k := .cls k) (by rw [upd_other _ _ (by simp)]; exact R2.out) (ints_at c2 (i := 1) (by rw [LC.out]; exact hn1)); rw [QC.out] at this; exact this); have D4 := push_done G2.out H3 hm4 hg4; have k5'' : w4.cell? ⟨p, 5, none⟩ = some (.map (some μ.mb)) := (by have := full_c5 D4.1; exact this); have e0'' : w4.cell? ⟨gb v2, 1, none⟩ = some (.int .i64 q) := (by have := D4.1.elem (k := .cls k) R2.out (ints_at c2 (i := 1) (by rw [LC.out]; exact hn1)); rw [QC.out] at this; exact this); have D4H : Hid _ := D4; have B4H : Hid _ := BL.out.drew.trans (B4.trans D4.2.2); clear D4 B4 H3))
        all_goals
          go_wp2_with fail
          go_ret
          obtain ⟨H5, G5, _⟩ := D4H.out
          rw [E1.out] at H5 G5
          refine ⟨by rw [← E2.out]; rfl, _, H5, G5, B2.out.trans B4H.out, rfl, fun y hy => ?_⟩
          have hyq : y ≠ q := by
            intro e; subst e
            rw [← E1.out, ← W2H.out] at hy
            have := congrArg List.length hy
            simp [S.watchMore, S.setWatch] at this
          exact setW_w0 _ _ _ hyq
      · rw [if_neg hx0] at hR
        have hx1 : x < 0 := by omega
        have RR : Hid _ := hR
        clear hR hq hx
        go_wp2_with (go_at_call 85; refine (of_any HH.out (by rw [QQ.out]; exact XH.out)).mono ?_; rintro e w' ⟨rfl, rfl⟩)
        go_roundg m
        case measure => omega
        case rel => exact ⟨i + 1, by go_num, by omega, by omega, rfl, RR.out⟩
    · obtain rfl : gk = 0 := by omega
      rw [S.movesO] at hR
      injection hR with hR
      injection hR with hR1 hR2
      subst hR1 hR2
      have hge : N ≤ i := by omega
      clear hlt
      go_wp2_with fail
      go_ret
      exact ⟨rfl, μ, HH.out, GG.out, Below.refl _ _, rfl, fun _ _ => rfl⟩
end Go.Proofs.YtdllaphnkbnpoaaGreat
