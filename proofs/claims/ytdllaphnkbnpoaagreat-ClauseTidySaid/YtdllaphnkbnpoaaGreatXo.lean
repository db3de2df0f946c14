/- What a law is handed: a slice of slices of whole numbers, laid open. -/
import Derived.Test.YtdllaphnkbnpoaaGreatWr
import Derived.ChangeSlices
import Derived.Deep.Slices
import Derived.ChangeAt
namespace Go.Proofs.YtdllaphnkbnpoaaGreat
open Go.RowKit Go.Proofs Go.ChangeShapes Go.WideShapes Go.ChangeAt Go.Deep

theorem cells22 : Tryz.prog.cellsOf 23 = 1 := by kernel_rfl
theorem cells3 : Tryz.prog.cellsOf 3 = 1 := by kernel_rfl

theorem spot_none {w : World} {a : Addr} {v : Value} (h : w.cell? a = some v) : a = ⟨a.block, a.off, none⟩ := by
  unfold World.cell? at h
  split at h
  · split at h
    · cases h
    · rename_i q
      cases a with
      | mk b o s => cases s with
        | none => rfl
        | some s => simp at q
  · cases h

theorem lies_open {w : World} {a : Addr} {xs : List Int} (h : ∀ j, j < xs.length → w.cell? (a.add j) = some (.int .i64 (xs.getD j 0))) : Lies w.heap.size w (some a) xs := by
  rcases Nat.eq_zero_or_pos xs.length with h0 | hp
  · exact .inl (List.eq_nil_of_length_eq_zero h0)
  · right
    have h1 := h 0 hp
    have e0 : a.add 0 = a := rfl
    rw [e0] at h1
    have hs := spot_none h1
    have hb := World.block_lt_of_cell? w a h1
    refine ⟨a.block, a.off, by rw [← hs], hb, fun j hj => ?_⟩
    rw [← h j hj]
    conv => rhs; rw [hs]
    rw [addr_add]

variable {H : Type} {enc : TypeId × Value → H}

theorem open_row1 {w : World} {fuel : Nat} {v : Value} {x : DataW H × List MemPlace} (h : DataW.trod enc Tryz.prog w 0 (fun _ => true) true fuel 23 [v] = some x) :
    ∃ (xs : List Int) (A : Option Addr) (c : Nat), v = .slice A xs.length c ∧ xs.length ≤ c ∧ c ≤ maxLen ∧ Lies w.heap.size w A xs ∧ ∀ y ∈ xs, -9223372036854775808 ≤ y ∧ y ≤ 9223372036854775807 := by
  rcases open_ints Tryz.underlying23 Tryz.underlying3 cells3 h with ⟨hcs, _⟩ | ⟨a, len, cap, zs, hcs, _, hl, hm, hz, _, hcell, hwz⟩
  · simp only [List.cons.injEq, and_true] at hcs
    exact ⟨[], none, 0, hcs, Nat.le_refl _, Nat.zero_le _, .inl rfl, by simp⟩
  · simp only [List.cons.injEq, and_true] at hcs
    simp only [if_true] at hz
    have hlen : (zs.take len).length = len := by rw [List.length_take]; omega
    refine ⟨zs.take len, some a, cap, by rw [hlen]; exact hcs, by rw [hlen]; exact hl, hm, lies_open (fun j hj => ?_), fun y hy => ?_⟩
    · rw [hlen] at hj
      rw [hcell j (by omega)]
      have : (zs.take len).getD j 0 = zs.getD j 0 := by grind
      rw [this]
    · have := hwz y (List.mem_of_mem_take hy)
      have e1 : IntKind.i64.min = -9223372036854775808 := by decide
      have e2 : IntKind.i64.max = 9223372036854775807 := by decide
      simp [Lit.wf] at this
      omega

theorem open_rows2 {w : World} {fuel : Nat} {v : Value} {x : DataW H × List MemPlace} (h : DataW.trod enc Tryz.prog w 0 (fun _ => true) true fuel 22 [v] = some x) :
    ∃ (D : List (List Int)) (A : Option Addr) (c : Nat), v = .slice A D.length c ∧ D.length ≤ maxLen ∧ LiesR w.heap.size w A D ∧ (∀ e ∈ D, e.length ≤ maxLen) ∧ (∀ e ∈ D, ∀ y ∈ e, -9223372036854775808 ≤ y ∧ y ≤ 9223372036854775807) ∧ (A = none → c = 0) := by
  rcases open_slice1 Tryz.underlying22 cells22 h with ⟨hcs, _⟩ | ⟨a, len, cap, m, n, V, Dd, Pl, hcs, _, hl, hm, hmm, _, hall⟩
  · simp only [List.cons.injEq, and_true] at hcs
    exact ⟨[], none, 0, hcs, Nat.zero_le _, .inl rfl, by simp, by simp, fun _ => rfl⟩
  · simp only [List.cons.injEq, and_true] at hcs
    simp only [if_true] at hmm
    have each : ∀ i, ∃ xs : List Int, i < len → ∃ A c, V i = .slice A xs.length c ∧ xs.length ≤ c ∧ c ≤ maxLen ∧ Lies w.heap.size w A xs ∧ ∀ y ∈ xs, -9223372036854775808 ≤ y ∧ y ≤ 9223372036854775807 := by
      intro i
      by_cases hi : i < len
      · obtain ⟨xs, A, c, h1⟩ := open_row1 (hall i (by omega)).2
        exact ⟨xs, fun _ => ⟨A, c, h1⟩⟩
      · exact ⟨[], fun h => absurd h hi⟩
    obtain ⟨f, hf⟩ := Classical.axiomOfChoice each
    have hlen : ((List.range len).map f).length = len := by simp
    have hget : ∀ i, i < len → ((List.range len).map f).getD i [] = f i := by intro i hi; simp [hi]
    refine ⟨(List.range len).map f, some a, cap, by rw [hlen]; exact hcs, by rw [hlen]; omega, ?_, ?_, ?_, fun h => by cases h⟩
    · rcases Nat.eq_zero_or_pos len with h0 | hp
      · exact .inl (List.eq_nil_of_length_eq_zero (by rw [hlen]; exact h0))
      · right
        have h1 := (hall 0 (by omega)).1
        have e0 : a.add 0 = a := rfl
        rw [e0] at h1
        have hs := spot_none h1
        have hb := World.block_lt_of_cell? w a h1
        refine ⟨a.block, a.off, by rw [← hs], hb, fun i hi => ?_⟩
        rw [hlen] at hi
        obtain ⟨A, c, e1, e2, e3, e4, _⟩ := hf i hi
        refine ⟨A, c, ?_, by rw [hget i hi]; exact e2, by rw [hget i hi]; exact e4⟩
        rw [hget i hi, ← e1, ← (hall i (by omega)).1]
        conv => rhs; rw [hs]
        rw [addr_add]
    · intro e he
      obtain ⟨i, hi, rfl⟩ := List.mem_map.1 he
      obtain ⟨A, c, _, e2, e3, _⟩ := hf i (List.mem_range.1 hi)
      omega
    · intro e he
      obtain ⟨i, hi, rfl⟩ := List.mem_map.1 he
      obtain ⟨A, c, _, _, _, _, e5⟩ := hf i (List.mem_range.1 hi)
      exact e5

theorem open_rows {w : World} {fuel : Nat} {v : Value} {x : DataW H × List MemPlace} (h : DataW.trod enc Tryz.prog w 0 (fun _ => true) true fuel 22 [v] = some x) :
    ∃ (D : List (List Int)) (A : Option Addr) (c : Nat), v = .slice A D.length c ∧ D.length ≤ maxLen ∧ LiesR w.heap.size w A D ∧ (∀ e ∈ D, e.length ≤ maxLen) ∧ ∀ e ∈ D, ∀ y ∈ e, -9223372036854775808 ≤ y ∧ y ≤ 9223372036854775807 := by
  obtain ⟨D, A, c, h1, h2, h3, h4, h5, _⟩ := open_rows2 h
  exact ⟨D, A, c, h1, h2, h3, h4, h5⟩
end Go.Proofs.YtdllaphnkbnpoaaGreat
