/- Walks over package search: back. -/
import Derived.Test.YtdllaphnkbnpoaaGreatWb
namespace Go.Proofs.YtdllaphnkbnpoaaGreat
open Go.RowKit Go.Proofs

def BackRel (base p fuel : Nat) (σ R : S) (μ : Vals) (loc : Nat → Res) (w0 : World) (to k : Nat) (i : Value) (w : World) : Prop :=
  ∃ (j : Nat) (τ : S), i = .int .i64 (j : Int) ∧ k + j = σ.trail.length - to ∧ Holds base w (full p fuel τ μ loc) ∧ Good τ μ ∧ Below base w0 w ∧ S.backAll (σ.trail.drop (to + j)) τ = some R ∧ τ.trail = σ.trail ∧ τ.marks = σ.marks

theorem back_one {base p fuel : Nat} {τ : S} {μ : Vals} {loc : Nat → Res} {w : World} (H : Holds base w (full p fuel τ μ loc)) (G : Good τ μ) {l : Int} (hl : τ.lit l) (he : τ.even) :
    Holds base ((w.setCell ⟨gb μ.pha, l.natAbs, none⟩ (.int .i8 (at0 τ.value l.natAbs))).setCell ⟨gb μ.val, l.natAbs, none⟩ (.int .i8 0)) (full p fuel (τ.backOne l) μ loc) ∧ Good (τ.backOne l) μ := by
  have H1 := H.store (k := .fld 10) rfl (i := l.natAbs) (by rw [i8s_length]; have := hl.2.1; have := he.2.2.2; omega) (.int .i8 (at0 τ.value l.natAbs)) (full_base H)
  rw [i8s_set, abs_10] at H1
  have H2 := H1.store (k := .fld 6) rfl (i := l.natAbs) (by rw [i8s_length]; exact hl.2.1) (.int .i8 0) (full_base H1)
  rw [i8s_set, abs_6] at H2
  exact ⟨H2, ⟨G.vcs, G.vlogs, G.wk, G.not, G.failed⟩⟩

theorem backAll_cons {l : Int} {ls : List Int} {σ R : S} (h : S.backAll (l :: ls) σ = some R) : σ.lit l ∧ σ.even ∧ S.backAll ls (σ.backOne l) = some R := by
  rw [S.backAll] at h
  split at h
  · rename_i hc; exact ⟨hc.1, hc.2, h⟩
  · cases h

theorem back_cut {base p fuel : Nat} {τ : S} {μ : Vals} {loc : Nat → Res} {w : World} (H : Holds base w (full p fuel τ μ loc)) (G : Good τ μ) {to n : Nat} (hto : to ≤ τ.trail.length) (hn : n ≤ τ.marks.length) :
    ∃ μ', Holds base (((w.setCell ⟨p, 11, none⟩ (.slice (ad μ.tra) to (cp μ.tra))).setCell ⟨p, 12, none⟩ (.slice (ad μ.mar) n (cp μ.mar))).setCell ⟨p, 13, none⟩ (.int .i64 (to : Nat))) (full p fuel { τ with trail := τ.trail.take to, marks := τ.marks.take n, head := to } μ' loc) ∧ Good { τ with trail := τ.trail.take to, marks := τ.marks.take n, head := to } μ' := by
  have H1 := H.take (k := .fld 11) rfl (m := to) (by rw [ints_length]; exact hto) (full_base H)
  have e1 : (ints τ.trail).take to = ints (τ.trail.take to) := by simp [ints, List.map_take]
  rw [e1] at H1
  have I1 := (back_11 H1 G).1
  have J1 := (back_11 H1 G).2
  have H2 := I1.take (k := .fld 12) rfl (m := n) (by rw [nats_length]; exact hn) (full_base I1)
  have e2 : (nats τ.marks).take n = nats (τ.marks.take n) := by simp [nats, List.map_take]
  rw [e2] at H2
  have I2 := (back_12 H2 J1).1
  have J2 := (back_12 H2 J1).2
  have H3 := I2.setCell (k := .st) (b := p) rfl 13 (.int .i64 (to : Nat)) (full_base I2)
  rw [abs_head] at H3
  exact ⟨_, H3, ⟨J2.vcs, J2.vlogs, J2.wk, J2.not, J2.failed⟩⟩

set_option maxHeartbeats 4000000 in
theorem back_any {base p fuel : Nat} {σ σ' : S} {μ : Vals} {loc : Nat → Res} {w : World} (H : Holds base w (full p fuel σ μ loc)) (G : Good σ μ) {n : Nat} (h : σ.backO n = some σ') :
    Calls Tryz.prog 82 #[.pointer (some ⟨p, 0, none⟩), .int .i64 (n : Int)] w fun e w' => e = .returned (.tuple #[]) ∧ Post base w p fuel σ' loc w' := by
  have c12 := full_c12 H
  by_cases hn : σ.marks.length ≤ n
  · have e : σ' = σ := by
      unfold S.backO at h; rw [if_pos hn] at h; injection h with h; exact h.symm
    subst e
    have HE : Hid (Post base w p fuel σ' loc w) := ⟨μ, H, G, Below.refl _ _⟩
    clear H G h
    go_enter Tryz.func82, Tryz.ntmps82
    go_wp2_with fail
    (try simp only [Exit.inBlock, Exit.then])
    exact bodyPost_ret (results_none rfl _ _ _) rfl ⟨rfl, HE.out⟩
  · obtain ⟨hto, ht, hm, R, hR, rfl⟩ : σ.marks.getD n 0 ≤ σ.trail.length ∧ σ.trail.length ≤ 60000 ∧ σ.marks.length ≤ 60000 ∧ ∃ R, S.backAll (σ.trail.drop (σ.marks.getD n 0)) σ = some R ∧ σ' = { R with trail := R.trail.take (σ.marks.getD n 0), marks := R.marks.take n, head := σ.marks.getD n 0 } := by
      unfold S.backO at h; rw [if_neg hn] at h
      simp only [] at h
      split at h
      · rename_i hc
        obtain ⟨R, hR, he⟩ := Option.map_eq_some_iff.1 h
        exact ⟨hc.1, hc.2.1, hc.2.2, R, hR, he.symm⟩
      · cases h
    clear h
    have d12 := full_d12 H (by omega)
    have v12 := full_v12 H (n := n) (by omega)
    have c11 := full_c11 H
    generalize σ.marks.getD n 0 = to at *
    obtain ⟨i0, hi, _, hz1, _⟩ := info_parts info3
    obtain ⟨A', hcut, hA'⟩ := run_cut (P := Tryz.prog) 23 3 Tryz.underlying23 hi hz1 (ad μ.tra) σ.trail.length (cp μ.tra) to hto
    have hcap : σ.trail.length ≤ cp μ.tra := by simpa [ints_length] using H.cap (k := .fld 11) (t := 3) (xs := ints σ.trail) rfl
    have hA2 : Hid (to < σ.trail.length → A' = some ⟨gb μ.tra, to, none⟩) := fun hlt => hA' hcap hlt _ (H.ad_ (k := .fld 11) (t := 3) (xs := ints σ.trail) rfl (by rw [ints_length]; omega))
    have start : Hid (BackRel base p fuel σ R μ loc w to (σ.trail.length - to) (.int .i64 ((0 : Nat) : Int)) w) := ⟨0, σ, rfl, by omega, H, G, Below.refl _ _, by simpa using hR, rfl, rfl⟩
    clear hi hz1 hA' c12 H G hR
    go_enter Tryz.func82, Tryz.ntmps82
    go_wp2_with fail
    go_loopg [29] (σ.trail.length - to) (fun k i wr => BackRel base p fuel σ R μ loc w to k i wr)
    case atStart => exact start.out
    case round =>
      clear start c11 d12 v12
      obtain ⟨j, τ, rfl, hk, H, G, B, hR, ht2, hm2⟩ := hrel
      have c11 := full_c11 H
      have c12 := full_c12 H
      rw [ht2] at c11
      rw [hm2] at c12
      by_cases hj : gk = 0
      · obtain ⟨μ', H2, G2⟩ := back_cut H G (to := to) (n := n) (by rw [ht2]; exact hto) (by rw [hm2]; omega)
        have hb := full_lt H
        have e : τ = R := by
          have : σ.trail.drop (to + j) = [] := by apply List.drop_eq_nil_of_le; omega
          rw [this, S.backAll] at hR
          injection hR
        subst e
        have HE : Hid (Post base w p fuel { τ with trail := τ.trail.take to, marks := τ.marks.take n, head := to } loc (((wr.setCell ⟨p, 11, none⟩ (.slice (ad μ.tra) to (cp μ.tra))).setCell ⟨p, 12, none⟩ (.slice (ad μ.mar) n (cp μ.mar))).setCell ⟨p, 13, none⟩ (.int .i64 (to : Nat))).drew) :=
          ⟨μ', H2.drew, G2, (((B.setCell hb.1 _).setCell hb.1 _).setCell hb.1 _).drew⟩
        have f11 := full_free H 11
        have f12 := full_free H 12
        have f13 := full_free H 13
        have c13 := full_cell H 13 rfl
        have hcap2 : to ≤ cp μ.tra := by omega
        have hcap3 : n ≤ cp μ.mar := by
          have := H.cap (k := .fld 12) (t := 3) (xs := nats τ.marks) rfl
          rw [nats_length, hm2] at this; omega
        clear H G B H2 G2 hR hA2 hcut
        have TT : Hid _ := ht2
        have MM : Hid _ := hm2
        clear ht2 hm2
        go_wp2_with fail
        go_region
        go_end0
        exact ⟨rfl, HE.out⟩
      · have hlt : to + j < σ.trail.length := by omega
        obtain rfl : A' = some ⟨gb μ.tra, to, none⟩ := hA2.out (by omega)
        have hd : σ.trail.drop (to + j) = at0 σ.trail (to + j) :: σ.trail.drop (to + j + 1) := by
          rw [List.drop_eq_getElem_cons hlt]; simp [at0, hlt]
        rw [hd] at hR
        obtain ⟨hl, he, hR2⟩ := backAll_cons hR
        have vt := full_v11 H (n := to + j) (by rw [ht2]; exact hlt)
        rw [ht2] at vt
        obtain ⟨l, hle⟩ : ∃ l, l = at0 σ.trail (to + j) := ⟨_, rfl⟩
        rw [← hle] at hl hR2 vt
        have LE : Hid _ := hle
        clear hle hd hR
        obtain ⟨H2, G2⟩ := back_one H G hl he
        obtain ⟨l0, l1, l2⟩ := hl
        obtain ⟨e1, e2, e3, e4⟩ := he
        have c6 := full_c6 H (by omega)
        have c10 := full_c10 H (by omega)
        have v6 := full_v6 H l1
        have v10 := full_v10 H (n := l.natAbs) (by omega)
        have f6 := full_f6 H (by omega) l.natAbs
        have f10 := full_f10 H (by omega) l.natAbs
        have n6 := H.ne (k := .fld 6) (k' := .st) (by simp) (full_b6 H (by omega)) rfl
        have n10 := H.ne (k := .fld 10) (k' := .st) (by simp) (full_b10 H (by omega)) rfl
        have n610 := H.ne (k := .fld 6) (k' := .fld 10) (by simp) (full_b6 H (by omega)) (full_b10 H (by omega))
        have hb6 := (H.lt _ (full_b6 H (by omega))).1
        have hb10 := (H.lt _ (full_b10 H (by omega))).1
        have BB : Hid _ := (((B.setCell (p := ⟨gb μ.pha, l.natAbs, none⟩) hb10 (.int .i8 (at0 τ.value l.natAbs))).setCell (p := ⟨gb μ.val, l.natAbs, none⟩) hb6 (.int .i8 0))).drew
        have HH : Hid _ := H2.drew
        have GG : Hid _ := G2
        have RR : Hid _ := hR2
        have TT : Hid _ := ht2
        have MM : Hid _ := hm2
        have i10 : l.natAbs < τ.phase.length := by omega
        have j10 : τ.phase.length ≤ 60000 := by omega
        have hj2 : j < σ.trail.length - to := by omega
        have hla : -60000 ≤ l := by omega
        have hlb : l ≤ 60000 := by omega
        clear H G B H2 G2 hR2 ht2 hm2 hA2 e1 e2 e3 e4 c11 c12
        generalize hv : l.natAbs = v at *
        have VV : Hid _ := hv.symm
        clear hv
        go_wp2_with (go_at_call 84; refine (variable_is VV.out _ hla hlb).mono ?_; rintro e w' ⟨rfl, rfl⟩)
        go_region
        go_wp2
        go_roundg (gk - 1)
        case measure => omega
        case rel => 
          refine ⟨j + 1, τ.backOne l, by go_num, by omega, HH.out, GG.out, BB.out, RR.out, TT.out, MM.out⟩
end Go.Proofs.YtdllaphnkbnpoaaGreat
