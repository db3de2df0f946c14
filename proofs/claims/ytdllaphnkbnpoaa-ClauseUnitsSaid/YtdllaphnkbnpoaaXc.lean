/- Walks over the reference: twice, Satisfies. -/
import Derived.Test.YtdllaphnkbnpoaaXb
import Derived.BigQuiet
namespace Go.Proofs.Ytdllaphnkbnpoaa
open Go.RowKit Go.Proofs

def twiceM (xs : List Int) : Bool := decide (¬ (xs.map Int.natAbs).Nodup)

theorem twice_yes {xs : List Int} {i k : Nat} (hi : i < xs.length) (hk : k < i) (h : (xs.getD i 0).natAbs = (xs.getD k 0).natAbs) : twiceM xs = true := by
  refine decide_eq_true fun nd => ?_
  rw [List.nodup_iff_pairwise_ne, List.pairwise_map, List.pairwise_iff_getElem] at nd
  have := nd k i (by omega) hi hk
  have e1 : xs.getD i 0 = xs[i] := by simp [hi]
  have e2 : xs.getD k 0 = xs[k]'(by omega) := by simp [show k < xs.length by omega]
  rw [e1, e2] at h
  exact this h.symm
theorem twice_no {xs : List Int} (h : ∀ i, i < xs.length → ∀ k, k < i → (xs.getD i 0).natAbs ≠ (xs.getD k 0).natAbs) : twiceM xs = false := by
  refine decide_eq_false fun nd => nd ?_
  rw [List.nodup_iff_pairwise_ne, List.pairwise_map, List.pairwise_iff_getElem]
  intro k i hk hi hki e
  refine h i hi k hki ?_
  have e1 : xs.getD i 0 = xs[i] := by simp [hi]
  have e2 : xs.getD k 0 = xs[k] := by simp [hk]
  rw [e1, e2]; exact e.symm

set_option maxRecDepth 100000 in
set_option maxHeartbeats 2000000 in
theorem twice_any {w : World} {A : Option Addr} {xs : List Int} {c : Nat} (h : Lies w.heap.size w A xs) (hn : xs.length ≤ 9223372036854775807) (hw : ∀ x ∈ xs, -60000 ≤ x ∧ x ≤ 60000) :
    Calls Try.prog 36 #[.slice A xs.length c] w fun e w' => e = .returned (.bool (twiceM xs)) ∧ Below w.heap.size w w' := by
  have start : Hid (CntRelB w xs.length (fun j => ∀ k, k < j → (xs.getD j 0).natAbs ≠ (xs.getD k 0).natAbs) xs.length (.int .i64 ((0 : Nat) : Int)) w) := ⟨0, rfl, by omega, Below.refl _ _, fun j hj => absurd hj (Nat.not_lt_zero _)⟩
  have HH : Hid _ := h
  have WW : Hid _ := hw
  clear h hw
  go_enter Try.func36, Try.ntmps36
  go_wp2_with fail
  go_loopg [3] xs.length (fun k x3 wr => CntRelB w xs.length (fun j => ∀ k, k < j → (xs.getD j 0).natAbs ≠ (xs.getD k 0).natAbs) k x3 wr)
  case atStart => exact start.out
  case round =>
    clear start
    obtain ⟨i, rfl, hki, B0, hall⟩ := hrel
    by_cases hlt : i < xs.length
    · obtain ⟨m, rfl⟩ : ∃ m, gk = m + 1 := ⟨gk - 1, by omega⟩
      have YES : Hid ((∀ k, k < i → (xs.getD i 0).natAbs ≠ (xs.getD k 0).natAbs) → ∀ j, j < i + 1 → ∀ k, k < j → (xs.getD j 0).natAbs ≠ (xs.getD k 0).natAbs) := fun h j hj => by
        rcases Nat.lt_or_ge j i with q | q
        · exact hall j q
        · have : j = i := by omega
          subst this; exact h
      have start2 : Hid (CntRelB wr i (fun k => (xs.getD i 0).natAbs ≠ (xs.getD k 0).natAbs) i (.int .i64 ((0 : Nat) : Int)) wr) := ⟨0, rfl, by omega, Below.refl _ _, fun j hj => absurd hj (Nat.not_lt_zero _)⟩
      have BH : Hid _ := B0
      clear hall B0
      go_wp2_with fail
      go_loopg [4] i (fun k x4 w' => CntRelB wr i (fun k => (xs.getD i 0).natAbs ≠ (xs.getD k 0).natAbs) k x4 w')
      case atStart => exact start2.out
      case round =>
        clear start2
        obtain ⟨j, rfl, hkj, B1, hall⟩ := hrel
        by_cases hlt2 : j < i
        · obtain ⟨b, o, rfl, _, hc⟩ := lies_at (Lies.below HH.out (BH.out.trans (B1.mono BH.out.size))) hlt
          have e1 := hc i hlt
          have e2 := hc j (by omega)
          have h1 := WW.out _ (row_ne xs 0 hlt)
          have h2 := WW.out _ (row_ne xs 0 (show j < xs.length by omega))
          have hjx : j < xs.length := by omega
          have TY : Hid ((xs.getD i 0).natAbs = (xs.getD j 0).natAbs → twiceM xs = true) := fun e => twice_yes hlt hlt2 e
          have Y3 : Hid ((xs.getD i 0).natAbs ≠ (xs.getD j 0).natAbs → ∀ k, k < j + 1 → (xs.getD i 0).natAbs ≠ (xs.getD k 0).natAbs) := fun h k hk => by
            rcases Nat.lt_or_ge k j with q | q
            · exact hall k q
            · have : k = j := by omega
              subst this; exact h
          have YH : Hid _ := YES
          have B1H : Hid _ := BH.out.trans (B1.mono BH.out.size)
          have B2H : Hid _ := B1
          clear hc hall YES B1
          generalize xs.getD i 0 = x at *
          generalize xs.getD j 0 = y at *
          have SX : ∀ W : World, Calls Try.prog 31 #[.int .i64 x] W fun e w' => e = .returned (.int .i64 (x.natAbs : Int)) ∧ w' = W := fun W => (size_any x W h1.1 h1.2).mono (fun _ _ h => ⟨h.1, h.2.symm⟩)
          have SY : ∀ W : World, Calls Try.prog 31 #[.int .i64 y] W fun e w' => e = .returned (.int .i64 (y.natAbs : Int)) ∧ w' = W := fun W => (size_any y W h2.1 h2.2).mono (fun _ _ h => ⟨h.1, h.2.symm⟩)
          clear h1 h2
          generalize x.natAbs = n1 at *
          generalize y.natAbs = n2 at *
          by_cases e : n1 = n2
          · subst e
            have hT : Hid _ := TY.out rfl
            clear TY Y3 YH
            go_wp2_with fail
            go_quiet (first | (go_at_call_of 31 (Value.int .i64 x); refine Calls.quiet_of_same (SX _)) | (go_at_call_of 31 (Value.int .i64 y); refine Calls.quiet_of_same (SY _)))
            go_wp2_with fail
            go_ret
            exact ⟨by rw [hT.out]; rfl, below_drewN_ B1H.out _⟩
          · have hT : Hid _ := Y3.out e
            have g0 : ((n1 : Int) == (n2 : Int)) = false := by simp; omega
            clear TY Y3 e
            go_wp2_with fail
            go_quiet (first | (go_at_call_of 31 (Value.int .i64 x); refine Calls.quiet_of_same (SX _)) | (go_at_call_of 31 (Value.int .i64 y); refine Calls.quiet_of_same (SY _)))
            go_wp2_with fail
            go_roundg (gk - 1)
            case measure => omega
            case rel => exact ⟨j + 1, by go_num, by omega, below_drewN_ B2H.out _, hT.out⟩
        · have hge : decide (j < i) = false := decide_eq_false (by omega)
          have hge2 : i ≤ j := by omega
          have hT : Hid _ := YES.out (fun k hk => hall k (by omega))
          have B9 : Hid _ := BH.out.trans (B1.mono BH.out.size)
          clear hall hlt2 YES B1
          go_wp2_with fail
          go_roundg m
          case measure => omega
          case rel => exact ⟨i + 1, by go_num, by omega, B9.out, hT.out⟩
    · have hge : decide (i < xs.length) = false := decide_eq_false (by omega)
      have hge2 : xs.length ≤ i := by omega
      have hT : Hid _ := twice_no (fun j hj => hall j (by omega))
      have BH : Hid _ := B0
      clear hall hlt B0
      go_wp2_with fail
      go_ret
      exact ⟨by rw [hT.out]; rfl, BH.out⟩
end Go.Proofs.Ytdllaphnkbnpoaa
