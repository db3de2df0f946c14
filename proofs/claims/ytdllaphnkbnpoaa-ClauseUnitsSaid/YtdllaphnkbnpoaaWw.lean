/- Walks over the reference and the laws: numbers, Sorted, Vars. -/
import Derived.Test.YtdllaphnkbnpoaaWv
namespace Go.Proofs.Ytdllaphnkbnpoaa
open Go.RowKit Go.Proofs

theorem below_drewN_ {B : Nat} {a w : World} (h : Below B a w) (n : Nat) : Below B a (w.drewN n) := ⟨h.os, h.tape, h.output, h.size, h.block⟩

def CntRelB (w : World) (n : Nat) (p : Nat → Prop) (k : Nat) (x : Value) (wr : World) : Prop :=
  ∃ i : Nat, x = .int .i64 (i : Int) ∧ k + i = n ∧ Below w.heap.size w wr ∧ ∀ j, j < i → p j

def numbersM (a b : List Int) : Bool := decide (a = b)

set_option maxHeartbeats 2000000 in
theorem numbers_any {w : World} {A B : Option Addr} {xs ys : List Int} {c d : Nat} (h1 : Lies w.heap.size w A xs) (h2 : Lies w.heap.size w B ys) (hn : xs.length ≤ 9223372036854775807) (_hm : ys.length ≤ 9223372036854775807) :
    Calls Try.prog 17 #[.slice A xs.length c, .slice B ys.length d] w fun e w' => e = .returned (.bool (numbersM xs ys)) ∧ Below w.heap.size w w' := by
  have HA : Hid _ := h1
  have HB : Hid _ := h2
  clear h1 h2
  generalize hres : numbersM xs ys = res
  have RES : Hid _ := hres
  clear hres
  by_cases hl : xs.length = ys.length
  · have start : Hid (CntRelB w xs.length (fun j => xs.getD j 0 = ys.getD j 0) xs.length (.int .i64 ((0 : Nat) : Int)) w) := ⟨0, rfl, by omega, Below.refl _ _, fun j hj => absurd hj (Nat.not_lt_zero _)⟩
    have HL : Hid _ := hl
    rw [← hl]
    clear hl
    go_enter Try.func17, Try.ntmps17
    go_wp2_with fail
    go_loopg [5] xs.length (fun k x5 wr => CntRelB w xs.length (fun j => xs.getD j 0 = ys.getD j 0) k x5 wr)
    case atStart => exact start.out
    case round =>
      clear start
      obtain ⟨i, rfl, hki, B0, hall⟩ := hrel
      by_cases hlt : i < xs.length
      · obtain ⟨b1, o1, rfl, _, hc1⟩ := lies_at (Lies.below HA.out B0) hlt
        obtain ⟨b2, o2, rfl, _, hc2⟩ := lies_at (Lies.below HB.out B0) (by rw [← HL.out]; exact hlt)
        have e1 := hc1 i hlt
        have e2 := hc2 i (by rw [← HL.out]; exact hlt)
        have AL : Hid _ := hall
        have BH : Hid _ := B0
        have NO : Hid (xs.getD i 0 ≠ ys.getD i 0 → res = false) := fun h => by
          rw [← RES.out]; unfold numbersM; exact decide_eq_false (fun e => h (by rw [e]))
        have YES : Hid (xs.getD i 0 = ys.getD i 0 → ∀ q, q < i + 1 → xs.getD q 0 = ys.getD q 0) := fun h q hq => by
          rcases Nat.lt_or_ge q i with z | z
          · exact hall q z
          · have : q = i := by omega
            subst this; exact h
        clear hall hc1 hc2 B0
        generalize xs.getD i 0 = x at *
        generalize ys.getD i 0 = y at *
        by_cases hxy : x = y
        · have Y2 : Hid _ := YES.out hxy
          have g2 : (x != y) = false := by simp [hxy]
          clear YES NO hxy
          go_wp2_with fail
          go_quiet (fail)
          go_wp2_with fail
          go_roundg (gk - 1)
          case measure => omega
          case rel => exact ⟨i + 1, by go_num, by omega, below_drewN_ BH.out _, Y2.out⟩
        · have hF := NO.out hxy
          subst hF
          have g2 : (x != y) = true := by simp [hxy]
          clear YES NO hxy
          go_wp2_with fail
          go_quiet (fail)
          go_wp2_with fail
          go_ret
          exact ⟨rfl, below_drewN_ BH.out _⟩
      · have hge : decide (i < xs.length) = false := decide_eq_false (by omega)
        have hge2 : xs.length ≤ i := by omega
        have hT : res = true := by
          rw [← RES.out]; unfold numbersM
          refine decide_eq_true (List.ext_getElem HL.out fun j h1 h2 => ?_)
          have := hall j (by omega)
          simpa [h1, h2] using this
        subst hT
        have BH : Hid _ := B0
        clear hall hlt B0
        go_wp2_with fail
        go_ret
        exact ⟨rfl, BH.out⟩
  · have g1 : ((xs.length : Int) != (ys.length : Int)) = true := by simp; omega
    have hF : res = false := by rw [← RES.out]; unfold numbersM; exact decide_eq_false (fun e => hl (by rw [e]))
    subst hF
    clear hl
    go_enter Try.func17, Try.ntmps17
    go_wp2_with fail
    go_ret
    exact ⟨rfl, Below.refl _ _⟩
end Go.Proofs.Ytdllaphnkbnpoaa
