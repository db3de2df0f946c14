/- Walks over package search: grow. -/
import Derived.Test.YtdllaphnkbnpoaaGreatWa
import Derived.Deep.LoopGhost
namespace Go.Proofs.YtdllaphnkbnpoaaGreat
open Go.RowKit Go.Proofs

theorem info90 : (Tryz.prog.info? 90).map (fun i => (i.zero, i.size, i.bytes)) = some (some (.int .i8 0), 1, 1) := by kernel_rfl

def GrowRel (base p fuel : Nat) (R : S) (loc : Nat → Res) (w0 : World) (v k : Nat) (w : World) : Prop :=
  ∃ σ μ, Holds base w (full p fuel σ μ loc) ∧ Good σ μ ∧ Below base w0 w ∧ S.growN k σ = R ∧ k = v + 1 - σ.value.length ∧ σ.even ∧ σ.value.length ≤ 60000

theorem grow_end {base p fuel : Nat} {R : S} {loc : Nat → Res} {w0 w : World} {v k : Nat} (h : GrowRel base p fuel R loc w0 v k w) (hk : k = 0) : Post base w0 p fuel R loc w := by
  obtain ⟨σ, μ, H, G, B, hR, _⟩ := h
  subst hk
  exact ⟨μ, hR ▸ H, hR ▸ G, B⟩

set_option maxHeartbeats 4000000 in
theorem grow_any {base p fuel : Nat} {σ σ' : S} {μ : Vals} {loc : Nat → Res} {w : World} (H : Holds base w (full p fuel σ μ loc)) (G : Good σ μ) {v : Nat} (h : σ.growO v = some σ') :
    Calls Tryz.prog 83 #[.pointer (some ⟨p, 0, none⟩), .int .i64 (v : Int)] w fun e w' => e = .returned (.tuple #[]) ∧ Post base w p fuel σ' loc w' := by
  obtain ⟨he, hv, hn, hR⟩ : σ.even ∧ v < 60000 ∧ σ.value.length ≤ 60000 ∧ S.growN (v + 1 - σ.value.length) σ = σ' := by
    unfold S.growO at h
    split at h
    · rename_i hc
      injection h with h
      exact ⟨hc.1, hc.2.1, hc.2.2, h⟩
    · cases h
  clear h
  have start : GrowRel base p fuel σ' loc w v (v + 1 - σ.value.length) w := ⟨σ, μ, H, G, Below.refl _ _, hR, rfl, he, hn⟩
  clear H G hR he hn
  have startH : Hid _ := start
  clear start
  go_enter Tryz.func83, Tryz.ntmps83
  go_wp2_with fail
  go_loopg [4] (v + 1 - σ.value.length) (fun k _ wr => GrowRel base p fuel σ' loc w v k wr)
  case atStart => exact startH.out
  case round =>
    clear startH
    by_cases hk : gk = 0
    · have HE : Hid _ := grow_end hrel hk
      obtain ⟨σ1, μ1, H, G, B, hR, hkv, he, hn⟩ := hrel
      have hle : v < σ1.value.length := by omega
      have c6 := full_c6 H (by omega)
      clear hR hkv hk H G
      go_wp2_with fail
      go_end0
      exact ⟨rfl, HE.out⟩
    · obtain ⟨σ1, μ1, H, G, B, hR, hkv, he, hn⟩ := hrel
      obtain ⟨e1, e2, e3, e4⟩ := he
      have hlt : σ1.value.length ≤ v := by omega
      have j0 : σ1.level.length ≤ 60000 := by omega
      have j1 : σ1.reason.length ≤ 60000 := by omega
      have j2 : σ1.weight.length ≤ 60000 := by omega
      have j3 : σ1.phase.length ≤ 60000 := by omega
      have c6 : wr.cell? ⟨p, 6, none⟩ = some (.slice (ad μ1.val) σ1.value.length (cp μ1.val)) := full_fld H 6 rfl (.fld 6) rfl (i8s_length _)
      have EE : Hid (σ1.even ∧ S.growN gk σ1 = σ' ∧ gk = v + 1 - σ1.value.length) := ⟨⟨e1, e2, e3, e4⟩, hR, hkv⟩
      have HH : Hid _ := H
      have GG : Hid _ := G
      clear H G hR hkv e1 e2 e3 e4
      have hw0 : base ≤ (wr).heap.size := full_base (HH.out)
      have L0 : Hid _ := ((HH.out).alloc (.cells #[.int .i8 0] 90))
      go_wp2_with (at_builtin; refine law_pushAt L0.out (.fld 6) rfl (.tmp 15) (.tmp 16) 73 90 (.int .i8 0) 1 rfl Tryz.underlying73 info90 rfl (by decide) σ1.value.length (.int .i8 0) rfl (i8s_length _) rfl (wr).heap.size rfl ?y0 rfl ?b0 ?l0 ?_)
      try (case y0 => first | exact cell_new _ _ _ _ (by simp) | exact cell_new_drew _ _ _ _ (by simp))
      case b0 => first | exact full_base L0.out | simpa using full_base L0.out
      case l0 => omega
      intro A0 c0 w0 H0 B0 _
      rw [i8s_snoc] at H0
      have k0 := put_cell (by simp) H0 6 rfl
      have m0 := put_free (by simp) H0 6
      have q0 : w0.cell? ⟨p, 7, none⟩ = some (.slice (ad μ1.lev) σ1.level.length (cp μ1.lev)) := put_fld (by simp) (k' := .fld 7) (by simp) H0 7 rfl rfl (nats_length _)
      obtain ⟨I0, J0⟩ := back_6 H0 (GG.out)
      have P0 : Hid _ := I0
      have Q0 : Hid _ := J0
      have D0 : Hid _ := ((B).alloc hw0 (.cells #[.int .i8 0] 90)).trans B0
      have D0' : Hid _ := D0.out.setCell (p := ⟨p, 6, none⟩) (full_lt (HH.out)).1 (.slice A0 (σ1.value.length + 1) c0)
      clear H0 I0 J0 B0
      have hw1 : base ≤ (w0.setCell ⟨p, 6, none⟩ (.slice A0 (σ1.value.length + 1) c0)).heap.size := full_base (P0.out)
      have L1 : Hid _ := ((P0.out).alloc (.cells #[.int .i64 0] 3))
      go_wp2_with (at_builtin; refine law_pushAt L1.out (.fld 7) rfl (.tmp 24) (.tmp 25) 23 3 (.int .i64 0) 8 rfl Tryz.underlying23 info3 rfl (by decide) σ1.level.length (.int .i64 0) rfl (nats_length _) rfl (w0).heap.size rfl ?y1 rfl ?b1 ?l1 ?_)
      try (case y1 => first | exact cell_new _ _ _ _ (by simp) | exact cell_new_drew _ _ _ _ (by simp))
      case b1 => first | exact full_base L1.out | simpa using full_base L1.out
      case l1 => omega
      intro A1 c1 w1 H1 B1 _
      rw [nats_snoc0] at H1
      have k1 := put_cell (by simp) H1 7 rfl
      have m1 := put_free (by simp) H1 7
      have q1 : w1.cell? ⟨p, 8, none⟩ = some (.slice (ad μ1.rea) σ1.reason.length (cp μ1.rea)) := put_fld (by simp) (k' := .fld 8) (by simp) H1 8 rfl rfl (ints_length _)
      obtain ⟨I1, J1⟩ := back_7 H1 (Q0.out)
      have P1 : Hid _ := I1
      have Q1 : Hid _ := J1
      have D1 : Hid _ := ((D0'.out).alloc hw1 (.cells #[.int .i64 0] 3)).trans B1
      have D1' : Hid _ := D1.out.setCell (p := ⟨p, 7, none⟩) (full_lt (P0.out)).1 (.slice A1 (σ1.level.length + 1) c1)
      clear H1 I1 J1 B1
      have hw2 : base ≤ (w1.setCell ⟨p, 7, none⟩ (.slice A1 (σ1.level.length + 1) c1)).heap.size := full_base (P1.out)
      have L2 : Hid _ := ((P1.out).alloc (.cells #[.int .i64 (-1)] 3))
      go_wp2_with (at_builtin; refine law_pushAt L2.out (.fld 8) rfl (.tmp 33) (.tmp 34) 23 3 (.int .i64 0) 8 rfl Tryz.underlying23 info3 rfl (by decide) σ1.reason.length (.int .i64 (-1)) rfl (ints_length _) rfl (w1).heap.size rfl ?y2 rfl ?b2 ?l2 ?_)
      try (case y2 => first | exact cell_new _ _ _ _ (by simp) | exact cell_new_drew _ _ _ _ (by simp))
      case b2 => first | exact full_base L2.out | simpa using full_base L2.out
      case l2 => omega
      intro A2 c2 w2 H2 B2 _
      rw [ints_snoc] at H2
      have k2 := put_cell (by simp) H2 8 rfl
      have m2 := put_free (by simp) H2 8
      have q2 : w2.cell? ⟨p, 9, none⟩ = some (.slice (ad μ1.wei) σ1.weight.length (cp μ1.wei)) := put_fld (by simp) (k' := .fld 9) (by simp) H2 9 rfl rfl (nats_length _)
      obtain ⟨I2, J2⟩ := back_8 H2 (Q1.out)
      have P2 : Hid _ := I2
      have Q2 : Hid _ := J2
      have D2 : Hid _ := ((D1'.out).alloc hw2 (.cells #[.int .i64 (-1)] 3)).trans B2
      have D2' : Hid _ := D2.out.setCell (p := ⟨p, 8, none⟩) (full_lt (P1.out)).1 (.slice A2 (σ1.reason.length + 1) c2)
      clear H2 I2 J2 B2
      have hw3 : base ≤ (w2.setCell ⟨p, 8, none⟩ (.slice A2 (σ1.reason.length + 1) c2)).heap.size := full_base (P2.out)
      have L3 : Hid _ := ((P2.out).alloc (.cells #[.int .i64 0] 3))
      go_wp2_with (at_builtin; refine law_pushAt L3.out (.fld 9) rfl (.tmp 42) (.tmp 43) 23 3 (.int .i64 0) 8 rfl Tryz.underlying23 info3 rfl (by decide) σ1.weight.length (.int .i64 0) rfl (nats_length _) rfl (w2).heap.size rfl ?y3 rfl ?b3 ?l3 ?_)
      try (case y3 => first | exact cell_new _ _ _ _ (by simp) | exact cell_new_drew _ _ _ _ (by simp))
      case b3 => first | exact full_base L3.out | simpa using full_base L3.out
      case l3 => omega
      intro A3 c3 w3 H3 B3 _
      rw [nats_snoc0] at H3
      have k3 := put_cell (by simp) H3 9 rfl
      have m3 := put_free (by simp) H3 9
      have q3 : w3.cell? ⟨p, 10, none⟩ = some (.slice (ad μ1.pha) σ1.phase.length (cp μ1.pha)) := put_fld (by simp) (k' := .fld 10) (by simp) H3 10 rfl rfl (i8s_length _)
      obtain ⟨I3, J3⟩ := back_9 H3 (Q2.out)
      have P3 : Hid _ := I3
      have Q3 : Hid _ := J3
      have D3 : Hid _ := ((D2'.out).alloc hw3 (.cells #[.int .i64 0] 3)).trans B3
      have D3' : Hid _ := D3.out.setCell (p := ⟨p, 9, none⟩) (full_lt (P2.out)).1 (.slice A3 (σ1.weight.length + 1) c3)
      clear H3 I3 J3 B3
      have hw4 : base ≤ (w3.setCell ⟨p, 9, none⟩ (.slice A3 (σ1.weight.length + 1) c3)).heap.size := full_base (P3.out)
      have L4 : Hid _ := ((P3.out).alloc (.cells #[.int .i8 (-1)] 90))
      go_wp2_with (at_builtin; refine law_pushAt L4.out (.fld 10) rfl (.tmp 51) (.tmp 52) 73 90 (.int .i8 0) 1 rfl Tryz.underlying73 info90 rfl (by decide) σ1.phase.length (.int .i8 (-1)) rfl (i8s_length _) rfl (w3).heap.size rfl ?y4 rfl ?b4 ?l4 ?_)
      try (case y4 => first | exact cell_new _ _ _ _ (by simp) | exact cell_new_drew _ _ _ _ (by simp))
      case b4 => first | exact full_base L4.out | simpa using full_base L4.out
      case l4 => omega
      intro A4 c4 w4 H4 B4 _
      rw [i8s_snoc] at H4
      have k4 := put_cell (by simp) H4 10 rfl
      have m4 := put_free (by simp) H4 10
      obtain ⟨I4, J4⟩ := back_10 H4 (Q3.out)
      have P4 : Hid _ := I4
      have Q4 : Hid _ := J4
      have D4 : Hid _ := ((D3'.out).alloc hw4 (.cells #[.int .i8 (-1)] 90)).trans B4
      have D4' : Hid _ := D4.out.setCell (p := ⟨p, 10, none⟩) (full_lt (P3.out)).1 (.slice A4 (σ1.phase.length + 1) c4)
      clear H4 I4 J4 B4
      go_wp2_with fail
      go_roundg (gk - 1)
      case measure => omega
      case rel =>
        obtain ⟨⟨e1, e2, e3, e4⟩, hR, hkv⟩ := EE.out
        refine ⟨_, _, P4.out, Q4.out, D4'.out, ?_, ?_, ?_, ?_⟩
        · rw [← hR]
          obtain ⟨m, rfl⟩ : ∃ m, gk = m + 1 := ⟨gk - 1, by omega⟩
          rfl
        · simp; omega
        · exact ⟨by simp [e1], by simp [e2], by simp [e3], by simp [e4]⟩
        · simp; omega
end Go.Proofs.YtdllaphnkbnpoaaGreat
