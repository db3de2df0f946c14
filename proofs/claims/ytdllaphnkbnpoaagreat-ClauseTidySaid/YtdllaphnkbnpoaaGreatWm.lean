/- keep once more: the clause's first literal stays where it lay. -/
import Derived.Test.YtdllaphnkbnpoaaGreatWl
namespace Go.Proofs.YtdllaphnkbnpoaaGreat
open Go.RowKit Go.Proofs

set_option maxRecDepth 100000 in
set_option maxHeartbeats 4000000 in
theorem keep_cell {base p fuel : Nat} {σ σ' : S} {μ : Vals} {loc : Nat → Res} {w : World} (H : Holds base w (full p fuel σ μ loc)) (G : Good σ μ) {c : List Int} {vc : Value} (hl : loc 0 = .row vc 3 (ints c)) (h : σ.keepO c = some σ') :
    Calls Tryz.prog 88 #[.pointer (some ⟨p, 0, none⟩), .slice (ad vc) c.length (cp vc)] w fun e w' => e = .returned (.int .i64 (σ.clauses.length : Nat)) ∧ w'.cell? ⟨gb vc, 0, none⟩ = some (.int .i64 (at0 c 0)) ∧ Post base w p fuel σ' (fun i => if i = 0 then .non else loc i) w' := by
  obtain ⟨h1, h2, h3, h4, h5, rfl⟩ : 2 ≤ c.length ∧ c.length ≤ 60000 ∧ σ.clauses.length < 60000 ∧ (σ.watch (at0 c 0)).length + 1 < 60000 ∧ (σ.watch (at0 c 1)).length + 1 < 60000 ∧ σ' = σ.keep c := by
    unfold S.keepO at h
    split at h
    · rename_i hc
      injection h with h
      exact ⟨hc.1, hc.2.1, hc.2.2.1, hc.2.2.2.1, hc.2.2.2.2, h.symm⟩
    · cases h
  clear h
  have hvc : vc = .slice (ad vc) c.length (cp vc) := by have := H.sl (k := .loc 0) hl; rwa [ints_length] at this
  have had : ad vc = some ⟨gb vc, 0, none⟩ := H.ad_ (k := .loc 0) hl (by rw [ints_length]; omega)
  have c4 := full_c4 H G.vcs
  have HV : Hid _ := hvc
  have HL : Hid _ := hl
  rw [had]
  have L0 : Hid _ := H.alloc (.cells #[.slice (some ⟨gb vc, 0, none⟩) c.length (cp vc)] 23)
  have GG : Hid _ := G
  have HH : Hid _ := H
  have HA : Hid _ := had
  clear H G hvc hl had
  go_enter Tryz.func88, Tryz.ntmps88
  go_wp2_with (at_builtin; refine law_pushAt L0.out (.fld 4) rfl (.tmp 15) (.tmp 17) 22 23 (.slice none 0 0) 24 rfl Tryz.underlying22 info23 rfl (by decide) σ.clauses.length (.slice (some ⟨gb vc, 0, none⟩) c.length (cp vc)) rfl GG.out.vcs rfl w.heap.size rfl ?hy rfl ?hb ?hl ?_)
  case hy => first | exact cell_new _ _ _ _ (by simp) | exact cell_new_drew _ _ _ _ (by simp)
  case hb => first | exact full_base L0.out | simpa using full_base L0.out
  case hl => omega
  intro A cc w1 H1 B1 S1
  have k4 := put_cell (by simp) H1 4 rfl
  have m4 := put_free (by simp) H1 4
  have k5 : w1.cell? ⟨p, 5, none⟩ = some (.map (some μ.mb)) := put_cell (by simp) H1 5 rfl
  obtain ⟨H2, G2⟩ := abs_keep GG.out HL.out (vc := vc) (by rw [← HA.out, ← HV.out] at H1; exact H1)
  have B2 : Hid (Below base w (w1.setCell ⟨p, 4, none⟩ (.slice A (σ.clauses.length + 1) cc))) := (((Below.refl base w).alloc (full_base HH.out) _).trans B1).setCell (full_lt HH.out).1 _
  have hcls : full p fuel { σ with clauses := σ.clauses ++ [c] } { μ with cl := .slice A (σ.clauses.length + 1) cc, vcs := μ.vcs ++ [vc] } (fun i => if i = 0 then .non else loc i) (.cls σ.clauses.length) = .row vc 3 (ints c) := by
    show rowAt (μ.vcs ++ [vc]) 3 (σ.clauses ++ [c]) σ.clauses.length = _
    have : μ.vcs.length = σ.clauses.length := GG.out.vcs
    simp [rowAt, ← this]
  generalize { μ with cl := .slice A (σ.clauses.length + 1) cc, vcs := μ.vcs ++ [vc] } = μ2 at H2 G2 hcls
  have hkeep : σ.keep c = (({ σ with clauses := σ.clauses ++ [c] } : S).watchMore (at0 c 0) σ.clauses.length).watchMore (at0 c 1) σ.clauses.length := rfl
  have hw0 : ({ σ with clauses := σ.clauses ++ [c] } : S).watch = σ.watch := rfl
  rw [← hw0] at h4 h5
  generalize { σ with clauses := σ.clauses ++ [c] } = σ2 at H2 G2 hcls h4 h5 hkeep hw0
  generalize hl2 : (fun i => if i = 0 then Res.non else loc i) = loc2 at H2 hcls
  have KE : Hid _ := hkeep
  have LE : Hid _ := hl2
  clear hl2
  have H2H : Hid _ := H2
  have G2H : Hid _ := G2
  have CL : Hid _ := hcls
  clear H1 B1 S1 H2 G2 hcls hkeep hw0
  generalize hn : σ.clauses.length = n at *
  have NE : Hid _ := hn
  clear hn
  go_wp2_with fail
  generalize w1.setCell ⟨p, 4, none⟩ (.slice A (n + 1) cc) = w2 at *
  clear k4 m4 k5
  have b0 : 0 < c.length := by omega
  have b1 : 1 < c.length := by omega
  have b2 : (0 : Int) < (c.length : Int) := by omega
  have b3 : (1 : Int) < (c.length : Int) := by omega
  have q5 := full_c5 H2H.out
  have e0 : w2.cell? ⟨gb vc, 0, none⟩ = some (.int .i64 (at0 c 0)) := H2H.out.elem CL.out (ints_at c (by omega))
  have r1 := look_run H2H.out.drew G2H.out (at0 c 0)
  have r2 := look_run (H2H.out.alloc (.cells #[.int .i64 (n : Nat)] 3)).drew G2H.out (at0 c 0)
  have LH : Hid _ := (H2H.out.alloc (.cells #[.int .i64 (n : Nat)] 3)).drew
  have BL : Hid _ := (Below.refl base w2).alloc (full_base H2H.out) (.cells #[.int .i64 (n : Nat)] 3)
  go_region_held3 (fun w' => w'.cell? ⟨p, 5, none⟩ = some (.map (some (μ2).mb)) ∧ w'.cell? ⟨gb vc, 0, none⟩ = some (.int .i64 (at0 c 0)))
    (first | go_keep | exact ⟨k5', e0'⟩ | exact ⟨k5'', e0''⟩)
    ((refine step_pushW LH.out G2H.out (at0 c 0) n (by rfl) _ _ (by rfl) Tryz.underlying23 info3 (by rfl) w2.heap.size (by rfl) (cell_new_drew _ _ _ _ rfl) (by omega) ?_; intro A4 c4 x4 H3 B4; obtain ⟨w4, hrun, hm4, hg4⟩ := upd_run (push_map H3) (at0 c 0) (.slice A4 (((σ2).watch (at0 c 0)).length + 1) c4); have k5' := put_cell (by simp) H3 5 rfl; have e0' := H3.elem (k := .cls n) (by rw [upd_other _ _ (by simp)]; exact CL.out) (ints_at c (i := 0) (by omega)); have D4 := push_done G2H.out H3 hm4 hg4; have k5'' : w4.cell? ⟨p, 5, none⟩ = some (.map (some (μ2).mb)) := (by have := full_c5 D4.1; exact this); have e0'' : w4.cell? ⟨gb vc, 0, none⟩ = some (.int .i64 (at0 c 0)) := D4.1.elem (k := .cls n) CL.out (ints_at c (by omega)); have D4H : Hid _ := D4; have B4H : Hid _ := BL.out.drew.trans (B4.trans D4.2.2); clear D4 B4 H3))
  all_goals
    clear q5 e0 r1 r2 hrun hm4 hg4 k5' e0' LH BL
    have h6 : ((σ2.watchMore (at0 c 0) n).watch (at0 c 1)).length < 60000 := by
      simp only [S.watchMore, S.setWatch]
      split
      · rename_i e; rw [← e]; simp; omega
      · omega
    have CL2 : Hid (full p fuel (σ2.watchMore (at0 c 0) n) (μ2.setW (at0 c 0) (.slice A4 ((σ2.watch (at0 c 0)).length + 1) c4)) loc2 (.cls n) = .row vc 3 (ints c)) := CL.out
    go_wp2_with fail
    generalize hmu : μ2.setW (at0 c 0) (.slice A4 ((σ2.watch (at0 c 0)).length + 1) c4) = μ4 at *
    have M4 : Hid _ := hmu
    clear hmu k5'' e0''
    rename _ ∧ w4.cell? ⟨gb vc, 0, none⟩ = _ => hh
    clear hh
    have q5 : w4.cell? ⟨p, 5, none⟩ = some (.map (some μ4.mb)) := by have := full_c5 D4H.out.1; exact this
    have e0 : w4.cell? ⟨gb vc, 1, none⟩ = some (.int .i64 (at0 c 1)) := D4H.out.1.elem CL2.out (ints_at c (by omega))
    have r1 := look_run D4H.out.1.drew D4H.out.2.1 (at0 c 1)
    have r2 := look_run (D4H.out.1.alloc (.cells #[.int .i64 (n : Nat)] 3)).drew D4H.out.2.1 (at0 c 1)
    have LH : Hid _ := (D4H.out.1.alloc (.cells #[.int .i64 (n : Nat)] 3)).drew
    have BL : Hid _ := (Below.refl base w4).alloc (full_base D4H.out.1) (.cells #[.int .i64 (n : Nat)] 3)
    go_region_held3 (fun w' => w'.cell? ⟨p, 5, none⟩ = some (.map (some (μ4).mb)) ∧ w'.cell? ⟨gb vc, 1, none⟩ = some (.int .i64 (at0 c 1)))
      (first | go_keep | exact ⟨k5', e0'⟩ | exact ⟨k5'', e0''⟩)
      ((refine step_pushW LH.out D4H.out.2.1 (at0 c 1) n (by rfl) _ _ (by rfl) Tryz.underlying23 info3 (by rfl) w4.heap.size (by rfl) (cell_new_drew _ _ _ _ rfl) h6 ?_; intro A5 c5 x5 H3 B5; obtain ⟨w5, hrun, hm4, hg4⟩ := upd_run (push_map H3) (at0 c 1) (.slice A5 (((σ2.watchMore (at0 c 0) n).watch (at0 c 1)).length + 1) c5); have k5' := put_cell (by simp) H3 5 rfl; have e0' := H3.elem (k := .cls n) (by rw [upd_other _ _ (by simp)]; exact CL2.out) (ints_at c (i := 1) (by omega)); have D5 := push_done D4H.out.2.1 H3 hm4 hg4; have k5'' : w5.cell? ⟨p, 5, none⟩ = some (.map (some (μ4).mb)) := (by have := full_c5 D5.1; exact this); have e0'' : w5.cell? ⟨gb vc, 1, none⟩ = some (.int .i64 (at0 c 1)) := D5.1.elem (k := .cls n) CL2.out (ints_at c (by omega)); have D5H : Hid _ := D5; have B5H : Hid _ := BL.out.drew.trans (B5.trans D5.2.2); clear D5 B5 H3))
    all_goals
      clear q5 e0 r1 r2 hrun hm4 hg4 k5' e0' LH BL
      go_wp2_with fail
      go_ret
      have e00 : w5.cell? ⟨gb vc, 0, none⟩ = some (.int .i64 (at0 c 0)) := D5H.out.1.elem (k := .cls n) CL2.out (ints_at c (by omega))
      obtain ⟨H5, G5, _⟩ := D5H.out
      have e5 : (σ2.watchMore (at0 c 0) n).watchMore (at0 c 1) n = σ.keep c := KE.out.symm
      rw [e5, ← LE.out] at H5
      rw [e5] at G5
      exact ⟨by rw [NE.out]; rfl, e00, _, H5, G5, B2.out.trans (B4H.out.trans B5H.out)⟩
end Go.Proofs.YtdllaphnkbnpoaaGreat
