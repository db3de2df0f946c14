/- slices.Sort and slices.Compact of numbers: ascending, each once. -/
import Derived.Test.YtdllaphnkbnpoaaWr
namespace Go.Proofs.Ytdllaphnkbnpoaa
open Go.RowKit Go.Proofs

theorem keeps_iff (d : Array Int) (j : Nat) : Lib.keeps d j = true ↔ j = 0 ∨ d[j]! ≠ d[j - 1]! := by
  unfold Lib.keeps; simp

theorem asc_at {zs : List Int} (h : zs.Pairwise (· ≤ ·)) {i j : Nat} (hij : i ≤ j) (hj : j < zs.length) : zs.toArray[i]! ≤ zs.toArray[j]! := by
  rcases Nat.eq_or_lt_of_le hij with e | e
  · subst e; exact Int.le_refl _
  · have := List.pairwise_iff_getElem.1 h i j (by omega) hj e
    simpa [getElem!_pos, hj, show i < zs.length by omega] using this

theorem compact_strict {zs : List Int} (h : zs.Pairwise (· ≤ ·)) : (Lib.compact zs).Pairwise (· < ·) := by
  unfold Lib.compact Lib.compactUpTo
  rw [List.pairwise_map, List.pairwise_filter]
  refine List.Pairwise.imp_of_mem ?_ (List.pairwise_lt_range (n := zs.length))
  intro i j hi hj hij hki hkj
  have hj' : j < zs.length := List.mem_range.1 hj
  have hne := ((keeps_iff zs.toArray j).1 hkj).resolve_left (by omega)
  have h1 := asc_at h (i := i) (j := j - 1) (by omega) (by omega)
  have h2 := asc_at h (i := j - 1) (j := j) (by omega) hj'
  omega

theorem compact_has {zs : List Int} {x : Int} (hx : x ∈ zs) : x ∈ Lib.compact zs := by
  obtain ⟨i, hi, rfl⟩ := List.getElem_of_mem hx
  have key : ∀ i, ∀ hi : i < zs.length, zs[i] ∈ Lib.compact zs := by
    intro i
    induction i using Nat.strongRecOn with
    | _ i ih =>
      intro hi
      by_cases hk : Lib.keeps zs.toArray i = true
      · unfold Lib.compact Lib.compactUpTo
        refine List.mem_map.2 ⟨i, List.mem_filter.2 ⟨List.mem_range.2 hi, hk⟩, ?_⟩
        simp [getElem!_pos, hi]
      · have h2 : ¬ (i = 0 ∨ zs.toArray[i]! ≠ zs.toArray[i - 1]!) := fun h => hk ((keeps_iff _ _).2 h)
        have h3 : i ≠ 0 := fun h => h2 (.inl h)
        have h4 : zs.toArray[i]! = zs.toArray[i - 1]! := by
          by_cases e : zs.toArray[i]! = zs.toArray[i - 1]!
          · exact e
          · exact absurd (.inr e) h2
        have := ih (i - 1) (by omega) (by omega)
        have e : zs[i] = zs[i - 1]'(by omega) := by
          simpa [getElem!_pos, hi, show i - 1 < zs.length by omega] using h4
        rw [e]; exact this
  exact key i hi

theorem sorted_le (zs : List Int) : (zs.mergeSort fun x y => decide (x ≤ y)).Pairwise (· ≤ ·) := by
  have := List.pairwise_mergeSort (le := fun x y : Int => decide (x ≤ y)) (fun a b c h1 h2 => by simp at *; omega) (fun a b => by simp; omega) zs
  exact this.imp (by intro a b h; simpa using h)

theorem varsOf_strict (D : List (List Int)) : (varsOf D).Pairwise (· < ·) := compact_strict (sorted_le _)
theorem varsOf_has {D : List (List Int)} {e : List Int} (he : e ∈ D) {y : Int} (hy : y ∈ e) : (y.natAbs : Int) ∈ varsOf D := by
  refine compact_has ((List.mergeSort_perm _ _).mem_iff.2 ?_)
  exact List.mem_flatMap.2 ⟨e, he, List.mem_map.2 ⟨y, hy, rfl⟩⟩

theorem strict_nodup {xs : List Int} (h : xs.Pairwise (· < ·)) : xs.Nodup := h.imp (fun h => by omega)

theorem len_eq {a b : List Int} (ha : a.Nodup) (hb : b.Nodup) (h : ∀ x, x ∈ a ↔ x ∈ b) : a.length = b.length := by
  have : ∀ (a b : List Int), a.Nodup → (∀ x ∈ a, x ∈ b) → a.length ≤ b.length := by
    intro a
    induction a with
    | nil => intro b _ _; simp
    | cons x a ih =>
      intro b h hs
      have hx := hs x (by simp)
      have h2 := ih (b.erase x) (List.nodup_cons.1 h).2 (by
        intro y hy
        have : y ≠ x := fun e => (List.nodup_cons.1 h).1 (e ▸ hy)
        exact (List.mem_erase_of_ne this).2 (hs y (by simp [hy])))
      have := List.length_erase_of_mem hx
      have := List.length_pos_of_mem hx
      simp; omega
  exact Nat.le_antisymm (this a b ha (fun x hx => (h x).1 hx)) (this b a hb (fun x hx => (h x).2 hx))

end Go.Proofs.Ytdllaphnkbnpoaa
