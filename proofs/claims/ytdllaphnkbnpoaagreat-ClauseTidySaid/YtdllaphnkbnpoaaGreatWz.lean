/- Walks over the laws: sane. -/
import Derived.Test.YtdllaphnkbnpoaaGreatPi
import Derived.Test.YtdllaphnkbnpoaaGreatWw
namespace Go.Proofs.YtdllaphnkbnpoaaGreat
open Go.RowKit Go.Proofs

def saneD : List (List Int) := [[1, 2], [-1]]

theorem sane_legal : Legal saneD [1, 2] := by
  refine ⟨by decide, by decide, ?_, by decide, by decide⟩
  intro e he x hx
  simp [saneD] at he
  rcases he with rfl | rfl
  · simp at hx; rcases hx with rfl | rfl <;> simp
  · simp at hx; subst hx; simp

theorem sane_sat : SatBy (fun v => decide (v = 2)) saneD := by
  intro e he
  simp [saneD] at he
  rcases he with rfl | rfl
  · exact ⟨2, by simp, by simp, by unfold Holds1; rfl⟩
  · exact ⟨-1, by simp, by simp, by unfold Holds1; rfl⟩

theorem varsOf_sane : (varsOf saneD).length = 2 := by
  refine len_eq (b := [1, 2]) (strict_nodup (varsOf_strict _)) (by decide) (fun x => ⟨fun h => ?_, fun h => ?_⟩)
  · obtain ⟨e, he, y, hy, rfl⟩ := mem_varsOf h
    simp [saneD] at he
    rcases he with rfl | rfl
    · simp at hy; rcases hy with rfl | rfl <;> simp
    · simp at hy; subst hy; simp
  · simp at h
    rcases h with rfl | rfl
    · exact varsOf_has (D := saneD) (e := [1, 2]) (y := 1) (by simp [saneD]) (by simp)
    · exact varsOf_has (D := saneD) (e := [1, 2]) (y := 2) (by simp [saneD]) (by simp)

/-- The literal of the clauses in memory. -/
theorem sane_lies (w : World) :
    LiesR (w.heap.size + 1 + 1 + 1) (((w.alloc (.cells #[.int .i64 1, .int .i64 2] 3)).alloc (.cells #[.int .i64 (-1)] 3)).alloc (.cells #[.slice (some ⟨w.heap.size, 0, none⟩) 2 2, .slice (some ⟨w.heap.size + 1, 0, none⟩) 1 1] 23)) (some ⟨w.heap.size + 1 + 1, 0, none⟩) saneD := by
  have s1 := size_alloc w (.cells #[.int .i64 1, .int .i64 2] 3)
  have s2 := size_alloc (w.alloc (.cells #[.int .i64 1, .int .i64 2] 3)) (.cells #[.int .i64 (-1)] 3)
  have b0 := alloc_at w (.cells #[.int .i64 1, .int .i64 2] 3)
  have b1 := alloc_at (w.alloc (.cells #[.int .i64 1, .int .i64 2] 3)) (.cells #[.int .i64 (-1)] 3)
  have b2 := alloc_at ((w.alloc (.cells #[.int .i64 1, .int .i64 2] 3)).alloc (.cells #[.int .i64 (-1)] 3)) (.cells #[.slice (some ⟨w.heap.size, 0, none⟩) 2 2, .slice (some ⟨w.heap.size + 1, 0, none⟩) 1 1] 23)
  rw [s2, s1] at b2
  rw [s1] at b1
  have k1 : ∀ (W : World) (o : Obj) (g : Nat) (x : Obj), W.heap[g]? = some x → (W.alloc o).heap[g]? = some x := by
    intro W o g x h
    rw [Below.heap_alloc W o g (lt_of_block h)]; exact h
  have b0' := k1 _ (.cells #[.slice (some ⟨w.heap.size, 0, none⟩) 2 2, .slice (some ⟨w.heap.size + 1, 0, none⟩) 1 1] 23) _ _ (k1 _ (.cells #[.int .i64 (-1)] 3) _ _ b0)
  have b1' := k1 _ (.cells #[.slice (some ⟨w.heap.size, 0, none⟩) 2 2, .slice (some ⟨w.heap.size + 1, 0, none⟩) 1 1] 23) _ _ b1
  generalize ((w.alloc (.cells #[.int .i64 1, .int .i64 2] 3)).alloc (.cells #[.int .i64 (-1)] 3)).alloc (.cells #[.slice (some ⟨w.heap.size, 0, none⟩) 2 2, .slice (some ⟨w.heap.size + 1, 0, none⟩) 1 1] 23) = W at *
  refine .inr ⟨w.heap.size + 1 + 1, 0, rfl, by omega, fun i hi => ?_⟩
  have hi' : i < 2 := hi
  match i, hi' with
  | 0, _ =>
    refine ⟨some ⟨w.heap.size, 0, none⟩, 2, by simp [World.cell?, b2, saneD], by decide, .inr ⟨w.heap.size, 0, rfl, by omega, fun j hj => ?_⟩⟩
    have hj' : j < 2 := hj
    match j, hj' with
    | 0, _ => simp [World.cell?, b0', saneD]
    | 1, _ => simp [World.cell?, b0', saneD]
  | 1, _ =>
    refine ⟨some ⟨w.heap.size + 1, 0, none⟩, 1, by simp [World.cell?, b2, saneD], by decide, .inr ⟨w.heap.size + 1, 0, rfl, by omega, fun j hj => ?_⟩⟩
    have hj' : j < 1 := hj
    match j, hj' with
    | 0, _ => simp [World.cell?, b1', saneD]

theorem sane_any (w : World) : Calls Tryz.prog 6 #[] w fun e w' => e = .returned (.bool true) ∧ Below w.heap.size w w' := by
  obtain ⟨σ', r, hF, hst, SOL⟩ := solve_legal sane_legal
  have hr : r = 1 := by
    rcases hF with ⟨_, h1, h2, h3, _⟩ | ⟨h, _⟩
    · exact absurd sane_sat (log_unsat h1 (fun c hc x hx => ((h3 c hc).1 x hx).1) h2)
    · exact h
  subst hr
  have B3 : Hid (Below w.heap.size w (((w.alloc (.cells #[.int .i64 1, .int .i64 2] 3)).alloc (.cells #[.int .i64 (-1)] 3)).alloc (.cells #[.slice (some ⟨w.heap.size, 0, none⟩) 2 2, .slice (some ⟨w.heap.size + 1, 0, none⟩) 1 1] 23))) :=
    ((((Below.refl w.heap.size w).alloc (Nat.le_refl _) _).alloc (by rw [size_alloc]; omega) _).alloc (by rw [size_alloc, size_alloc]; omega) _)
  have hs3 : (((w.alloc (.cells #[.int .i64 1, .int .i64 2] 3)).alloc (.cells #[.int .i64 (-1)] 3)).alloc (.cells #[.slice (some ⟨w.heap.size, 0, none⟩) 2 2, .slice (some ⟨w.heap.size + 1, 0, none⟩) 1 1] 23)).heap.size = w.heap.size + 1 + 1 + 1 := by rw [size_alloc, size_alloc, size_alloc]
  have SC := SOL _ _ _ 2 1000000 (sane_lies w) (by rw [hs3]; exact Nat.le_refl _) (by omega) (by omega)
  have hlen : saneD.length = 2 := rfl
  rw [hlen] at SC
  have tl : (truesOf σ' saneD).length = 2 := by unfold truesOf; rw [List.length_map]; exact varsOf_sane
  have ST : Hid _ := hst
  clear SOL hF hst hlen
  go_enter Tryz.func6, Tryz.ntmps6
  go_wp2_with fail
  refine SC.mono ?_
  rintro e w4 ⟨B4, alt⟩
  have BB : Hid _ := B3.out.trans (B4.mono (B' := w.heap.size) (by omega))
  clear SC B4
  rcases alt with ⟨h1, _⟩ | ⟨_, ⟨h, _⟩ | ⟨_, L, v, rfl, _, _⟩⟩
  · have := ST.out; omega
  · omega
  · rw [tl]
    go_wp2_with fail
    go_ret
    exact ⟨rfl, BB.out.alloc (by have := BB.out.size; omega) _⟩
end Go.Proofs.YtdllaphnkbnpoaaGreat
