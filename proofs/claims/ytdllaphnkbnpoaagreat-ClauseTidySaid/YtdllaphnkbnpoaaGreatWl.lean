/- The log of a search grows. -/
import Derived.Test.YtdllaphnkbnpoaaGreatWk
namespace Go.Proofs.YtdllaphnkbnpoaaGreat
open Go.RowKit Go.Proofs

section
variable {base p fuel : Nat} {w : World} {σ : S} {μ : Vals} {loc : Nat → Res}
theorem abs_log {c : List Int} {vc v : Value} (G : Good σ μ) (hl : loc 1 = .row vc 3 (ints c)) (H : Holds base w (upd (full p fuel σ μ loc) (.fld 2) (.row v 23 (μ.vlogs ++ [vc])))) :
    Holds base (w.setCell ⟨p, 2, none⟩ v) (full p fuel { σ with log := σ.log ++ [c] } { μ with log := v, vlogs := μ.vlogs ++ [vc] } (fun i => if i = 1 then .non else loc i)) ∧
      Good { σ with log := σ.log ++ [c] } { μ with log := v, vlogs := μ.vlogs ++ [vc] } := by
  have H1 := H.setCell (k := .st) (put_st (by simp)) 2 v (put_base (by simp) H).1
  have H2 := H1.move (.loc 1) (.log σ.log.length)
  refine ⟨?_, ⟨G.vcs, by simp [G.vlogs], G.wk, G.not, G.failed⟩⟩
  have e : upd (upd (upd (upd (full p fuel σ μ loc) (.fld 2) (.row v 23 (μ.vlogs ++ [vc]))) .st (.cells p ((stCells fuel σ μ).set 2 v) 75)) (.log σ.log.length) (upd (upd (full p fuel σ μ loc) (.fld 2) (.row v 23 (μ.vlogs ++ [vc]))) .st (.cells p ((stCells fuel σ μ).set 2 v) 75) (.loc 1))) (.loc 1) .non =
      full p fuel { σ with log := σ.log ++ [c] } { μ with log := v, vlogs := μ.vlogs ++ [vc] } (fun i => if i = 1 then .non else loc i) := by
    funext k
    cases k with
    | st => rfl
    | fld i =>
      by_cases hi : i = 2
      · subst hi; rfl
      · rw [upd_other _ _ (by simp), upd_other _ _ (by simp), upd_other _ _ (by simp), upd_other _ _ (by simpa using hi)]
        unfold full; split <;> simp_all
    | log i =>
      rw [upd_other _ _ (by simp)]
      by_cases hi : i = σ.log.length
      · subst hi
        rw [upd_same, upd_other _ _ (by simp), upd_other _ _ (by simp)]
        show loc 1 = rowAt (μ.vlogs ++ [vc]) 3 (σ.log ++ [c]) σ.log.length
        rw [hl]
        have : μ.vlogs.length = σ.log.length := G.vlogs
        simp [rowAt, ← this]
      · rw [upd_other _ _ (by simpa using hi), upd_other _ _ (by simp), upd_other _ _ (by simp)]
        show rowAt μ.vlogs 3 σ.log i = rowAt (μ.vlogs ++ [vc]) 3 (σ.log ++ [c]) i
        have hv : μ.vlogs.length = σ.log.length := G.vlogs
        unfold rowAt
        by_cases h2 : i < σ.log.length
        · rw [List.getElem?_append_left (by omega), List.getElem?_append_left h2]
        · rw [List.getElem?_eq_none (by omega), List.getElem?_eq_none (l := μ.vlogs ++ [vc]) (by simp; omega)]
    | cls i => rfl
    | mp => rfl
    | wt x => rfl
    | loc i =>
      by_cases hi : i = 1
      · subst hi; rfl
      · rw [upd_other _ _ (by simpa using hi), upd_other _ _ (by simp), upd_other _ _ (by simp), upd_other _ _ (by simp)]
        show loc i = if i = 1 then .non else loc i
        rw [if_neg hi]
  rw [e] at H2
  exact H2
end
end Go.Proofs.YtdllaphnkbnpoaaGreat
