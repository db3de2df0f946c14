/- Walks over the reference and the laws: size, literals, Check, light, numbers, before. Walks over the reference and the laws: numbers, Sorted, Vars. -/
import Derived.Test.YtdllaphnkbnpoaaGreatWu
namespace Go.Proofs.YtdllaphnkbnpoaaGreat
open Go.RowKit Go.Proofs

theorem size_any (x : Int) (w : World) (h0 : -60000 ≤ x) (h1 : x ≤ 60000) :
    Calls Tryz.prog 14 #[.int .i64 x] w fun e w' => e = .returned (.int .i64 (x.natAbs : Int)) ∧ w = w' := by
  by_cases h : 0 ≤ x
  · go_enter Tryz.func14, Tryz.ntmps14
    go_wp2_with fail
    go_ret
    exact ⟨ret_int (by omega), rfl⟩
  · have h2 : x < 0 := by omega
    have h3 : -(x + 1) ≤ -x := by omega
    go_enter Tryz.func14, Tryz.ntmps14
    go_wp2_with fail
    go_ret
    exact ⟨ret_int (by omega), rfl⟩

/-- At any number: greater than 200 just if it is no literal's. -/
theorem size_big (x : Int) (w : World) (h0 : -9223372036854775808 ≤ x) (h1 : x ≤ 9223372036854775807) :
    Calls Tryz.prog 14 #[.int .i64 x] w fun e w' => (∃ r : Int, e = .returned (.int .i64 r) ∧ decide (200 < r) = decide (200 < x.natAbs)) ∧ w = w' := by
  by_cases h : 0 ≤ x
  · go_enter Tryz.func14, Tryz.ntmps14
    go_wp2_with fail
    go_ret
    exact ⟨⟨_, rfl, decide_eq_decide.2 (by omega)⟩, rfl⟩
  · have h2 : x < 0 := by omega
    by_cases h4 : x = -9223372036854775808
    · subst h4
      go_enter Tryz.func14, Tryz.ntmps14
      go_wp2_with fail
      go_ret
      exact ⟨⟨_, rfl, by omega⟩, rfl⟩
    · have h5 : -9223372036854775807 ≤ x := by omega
      go_enter Tryz.func14, Tryz.ntmps14
      go_wp2_with fail
      go_ret
      exact ⟨⟨_, rfl, by first | exact decide_eq_decide.2 (by omega) | omega⟩, rfl⟩

theorem before_any (a b : Int) (w : World) (a0 : -60000 ≤ a) (a1 : a ≤ 60000) (b0 : -60000 ≤ b) (b1 : b ≤ 60000) :
    Calls Tryz.prog 46 #[.int .i64 a, .int .i64 b] w fun e w' => e = .returned (.bool (if a.natAbs ≠ b.natAbs then decide (a.natAbs < b.natAbs) else decide (b < a))) ∧ w = w' := by
  have Sa := size_any a w a0 a1
  have Sb := size_any b w b0 b1
  by_cases h : a.natAbs = b.natAbs
  · rw [if_neg (by simp [h])]
    rw [← h] at Sb
    clear h
    generalize a.natAbs = n at *
    go_enter Tryz.func46, Tryz.ntmps46
    go_wp2_with fail
    refine Sa.mono ?_
    rintro e w' ⟨rfl, rfl⟩
    go_wp2_with fail
    refine Sb.mono ?_
    rintro e w' ⟨rfl, rfl⟩
    clear Sa Sb
    go_wp2_with fail
    go_ret
    exact ⟨rfl, rfl⟩
  · rw [if_pos h]
    generalize a.natAbs = n at *
    generalize b.natAbs = m at *
    have g1 : ((n : Int) != (m : Int)) = true := by simp; omega
    go_enter Tryz.func46, Tryz.ntmps46
    go_wp2_with fail
    refine Sa.mono ?_
    rintro e w' ⟨rfl, rfl⟩
    go_wp2_with fail
    refine Sb.mono ?_
    rintro e w' ⟨rfl, rfl⟩
    go_wp2_with fail
    refine Sa.mono ?_
    rintro e w' ⟨rfl, rfl⟩
    go_wp2_with fail
    refine Sb.mono ?_
    rintro e w' ⟨rfl, rfl⟩
    clear Sa Sb
    go_wp2_with fail
    go_ret
    exact ⟨rfl, rfl⟩

/-- A slice's elements, where there are any. -/
theorem lies_at {base : Nat} {w : World} {A : Option Addr} {xs : List Int} (h : Lies base w A xs) {i : Nat} (hi : i < xs.length) :
    ∃ b o, A = some ⟨b, o, none⟩ ∧ b < base ∧ ∀ j, j < xs.length → w.cell? ⟨b, o + j, none⟩ = some (.int .i64 (xs.getD j 0)) := by
  rcases h with h0 | h0
  · rw [h0] at hi; exact absurd hi (Nat.not_lt_zero _)
  · exact h0
theorem liesR_at {base : Nat} {w : World} {A : Option Addr} {D : List (List Int)} (h : LiesR base w A D) {i : Nat} (hi : i < D.length) :
    ∃ b o, A = some ⟨b, o, none⟩ ∧ b < base ∧ ∀ i, i < D.length → ∃ A' c', w.cell? ⟨b, o + i, none⟩ = some (.slice A' (D.getD i []).length c') ∧ (D.getD i []).length ≤ c' ∧ Lies base w A' (D.getD i []) := by
  rcases h with h0 | h0
  · rw [h0] at hi; exact absurd hi (Nat.not_lt_zero _)
  · exact h0

def CntRel (w : World) (n : Nat) (p : Nat → Prop) (k : Nat) (x : Value) (wr : World) : Prop :=
  ∃ i : Nat, x = .int .i64 (i : Int) ∧ k + i = n ∧ wr = w ∧ ∀ j, j < i → p j

theorem all_getD {α : Type} (xs : List α) (d : α) (p : α → Bool) : (∀ j, j < xs.length → p (xs.getD j d) = true) ↔ xs.all p = true := by
  rw [List.all_eq_true]
  constructor
  · intro h x hx
    obtain ⟨j, hj, rfl⟩ := List.getElem_of_mem hx
    have := h j hj
    simpa [hj] using this
  · intro h j hj
    exact h _ (by have : xs.getD j d = xs[j] := by simp [hj]
                  rw [this]; exact List.getElem_mem _)
theorem all_not {α : Type} (xs : List α) (d : α) (p : α → Bool) {j : Nat} (hj : j < xs.length) (h : p (xs.getD j d) = false) : xs.all p = false := by
  cases e : xs.all p with
  | false => rfl
  | true => have := (all_getD xs d p).2 e j hj; rw [h] at this; cases this

set_option maxHeartbeats 1000000 in
theorem literals_any {base : Nat} {w : World} {A : Option Addr} {xs : List Int} {c : Nat} (h : Lies base w A xs) (hn : xs.length ≤ 9223372036854775807) (hw : ∀ x ∈ xs, -9223372036854775808 ≤ x ∧ x ≤ 9223372036854775807) :
    Calls Tryz.prog 56 #[.slice A xs.length c] w fun e w' => e = .returned (.bool (xs.all isLit)) ∧ w' = w := by
  have start : Hid (CntRel w xs.length (fun j => isLit (xs.getD j 0) = true) xs.length (.int .i64 ((0 : Nat) : Int)) w) := ⟨0, rfl, by omega, rfl, fun j hj => absurd hj (Nat.not_lt_zero _)⟩
  have HH : Hid _ := h
  have WW : Hid _ := hw
  clear h hw
  go_enter Tryz.func56, Tryz.ntmps56
  go_wp2_with fail
  go_loopg [3] xs.length (fun k x3 wr => CntRel w xs.length (fun j => isLit (xs.getD j 0) = true) k x3 wr)
  case atStart => exact start.out
  case round =>
    clear start
    obtain ⟨i, rfl, hki, rfl, hall⟩ := hrel
    by_cases hlt : i < xs.length
    · obtain ⟨b, o, rfl, _, hc⟩ := lies_at HH.out hlt
      have e1 := hc i hlt
      have hx := WW.out (xs.getD i 0) (by have : xs.getD i 0 = xs[i] := by simp [hlt]
                                          rw [this]; exact List.getElem_mem _)
      have AL : Hid _ := hall
      have NO : Hid (isLit (xs.getD i 0) = false → xs.all isLit = false) := fun h => all_not xs 0 isLit hlt h
      have YES : Hid (isLit (xs.getD i 0) = true → ∀ j, j < i + 1 → isLit (xs.getD j 0) = true) := fun h j hj => by
        rcases Nat.lt_or_ge j i with q | q
        · exact hall j q
        · have : j = i := by omega
          subst this; exact h
      clear hall hc
      generalize xs.getD i 0 = x at *
      by_cases h0 : x = 0
      · subst h0
        have hF : Hid _ := NO.out (by decide)
        go_wp2_with fail
        go_ret
        exact ⟨by rw [hF.out]; rfl, rfl⟩
      · have g0 : (x == 0) = false := by simp [h0]
        have SB := size_big x wr hx.1 hx.2
        by_cases hl : isLit x = true
        · have hn2 : decide (200 < x.natAbs) = false := by unfold isLit at hl; simp at hl; simp; omega
          rw [hn2] at SB
          have Y2 := YES.out hl
          have YH : Hid _ := Y2
          clear Y2 hn2 hl YES NO
          go_wp2_with fail
          refine SB.mono ?_
          rintro e w' ⟨⟨r, rfl, hr⟩, rfl⟩
          have hr2 : r ≤ 200 := by have := of_decide_eq_false hr; omega
          clear SB hr
          go_wp2_with fail
          go_roundg (gk - 1)
          case measure => omega
          case rel => exact ⟨i + 1, by go_num, by omega, rfl, YH.out⟩
        · have hlf : isLit x = false := by simpa using hl
          have hn2 : decide (200 < x.natAbs) = true := by unfold isLit at hlf; simp at hlf; simp; omega
          rw [hn2] at SB
          have hF : Hid _ := NO.out hlf
          clear hn2 hl hlf YES NO
          go_wp2_with fail
          refine SB.mono ?_
          rintro e w' ⟨⟨r, rfl, hr⟩, rfl⟩
          have hr2 : 200 < r := of_decide_eq_true hr
          clear SB hr
          go_wp2_with fail
          go_ret
          exact ⟨by rw [hF.out]; rfl, rfl⟩
    · have hge : decide (i < xs.length) = false := decide_eq_false (by omega)
      have hge2 : xs.length ≤ i := by omega
      have hT : Hid _ := (all_getD xs 0 isLit).1 (fun j hj => hall j (by omega))
      clear hall hlt
      go_wp2_with fail
      go_ret
      exact ⟨by rw [hT.out]; rfl, rfl⟩

def lightM (D : List (List Int)) : Bool := decide (D.length ≤ 60) && D.all fun c => decide (c.length ≤ 12)

set_option maxHeartbeats 1000000 in
theorem light_any {base : Nat} {w : World} {A : Option Addr} {D : List (List Int)} {c : Nat} (h : LiesR base w A D) (hn : D.length ≤ 9223372036854775807) :
    Calls Tryz.prog 4 #[.slice A D.length c] w fun e w' => e = .returned (.bool (lightM D)) ∧ w' = w := by
  have HH : Hid _ := h
  clear h
  unfold lightM
  by_cases hb : 60 < D.length
  · rw [decide_eq_false (by omega), Bool.false_and]
    have g1 : (60 : Int) < (D.length : Int) := by omega
    go_enter Tryz.func4, Tryz.ntmps4
    go_wp2_with fail
    go_ret
    exact ⟨rfl, rfl⟩
  · rw [decide_eq_true (by omega), Bool.true_and]
    have g1 : (D.length : Int) ≤ 60 := by omega
    have start : Hid (CntRel w D.length (fun j => decide ((D.getD j []).length ≤ 12) = true) D.length (.int .i64 ((0 : Nat) : Int)) w) := ⟨0, rfl, by omega, rfl, fun j hj => absurd hj (Nat.not_lt_zero _)⟩
    go_enter Tryz.func4, Tryz.ntmps4
    go_wp2_with fail
    go_loopg [3] D.length (fun k x3 wr => CntRel w D.length (fun j => decide ((D.getD j []).length ≤ 12) = true) k x3 wr)
    case atStart => exact start.out
    case round =>
      clear start
      obtain ⟨i, rfl, hki, rfl, hall⟩ := hrel
      by_cases hlt : i < D.length
      · obtain ⟨b, o, rfl, _, hc⟩ := liesR_at HH.out hlt
        obtain ⟨A', c', e1, _, _⟩ := hc i hlt
        have NO : Hid (decide ((D.getD i []).length ≤ 12) = false → (D.all fun c => decide (c.length ≤ 12)) = false) := fun h => all_not D [] (fun c => decide (c.length ≤ 12)) hlt h
        have YES : Hid (decide ((D.getD i []).length ≤ 12) = true → ∀ j, j < i + 1 → decide ((D.getD j []).length ≤ 12) = true) := fun h j hj => by
          rcases Nat.lt_or_ge j i with q | q
          · exact hall j q
          · have : j = i := by omega
            subst this; exact h
        clear hall hc
        generalize (D.getD i []).length = n at *
        by_cases h12 : n ≤ 12
        · have Y2 : Hid _ := YES.out (decide_eq_true h12)
          have g2 : (n : Int) ≤ 12 := by omega
          clear YES NO
          go_wp2_with fail
          go_roundg (gk - 1)
          case measure => omega
          case rel => exact ⟨i + 1, by go_num, by omega, rfl, Y2.out⟩
        · have hF : Hid _ := NO.out (decide_eq_false h12)
          have g2 : (12 : Int) < (n : Int) := by omega
          clear YES NO
          go_wp2_with fail
          go_ret
          exact ⟨by rw [hF.out]; rfl, rfl⟩
      · have hge : decide (i < D.length) = false := decide_eq_false (by omega)
        have hge2 : D.length ≤ i := by omega
        have hT : Hid _ := (all_getD D [] (fun c => decide (c.length ≤ 12))).1 (fun j hj => hall j (by omega))
        clear hall hlt
        go_wp2_with fail
        go_ret
        exact ⟨by rw [hT.out]; rfl, rfl⟩

def refM (D : List (List Int)) : Int :=
  if 600 < D.length then 2 else if (D.all fun c => decide (c.length ≤ 30)) = false then 2 else if (D.all fun c => c.all isLit) = false then 1 else 0

theorem refM_eq (D : List (List Int)) : refM D = checkM 600 D := by
  have e1 : (D.any fun c => decide (30 < c.length) && decide (600 = 600)) = !(D.all fun c => decide (c.length ≤ 30)) := by
    rw [List.all_eq_not_any_not, Bool.not_not]
    congr 1
    funext c
    by_cases h : 30 < c.length
    · have h2 : ¬ c.length ≤ 30 := by omega
      simp [h, h2]
    · have h2 : c.length ≤ 30 := by omega
      simp [h, h2]
  have e2 : (D.any fun c => !c.all isLit) = !(D.all fun c => c.all isLit) := by
    rw [List.all_eq_not_any_not, Bool.not_not]
  unfold refM checkM
  rw [e1, e2]
  by_cases h : 600 < D.length
  · simp [h]
  · cases h1 : (D.all fun c => decide (c.length ≤ 30)) <;> cases h2 : (D.all fun c => c.all isLit) <;> simp [h]

theorem row_ne {α : Type} (xs : List α) (d : α) {i : Nat} (h : i < xs.length) : xs.getD i d ∈ xs := by
  have : xs.getD i d = xs[i] := by simp [h]
  rw [this]; exact List.getElem_mem _

set_option maxHeartbeats 2000000 in
theorem refCheck_any {base : Nat} {w : World} {A : Option Addr} {D : List (List Int)} {c : Nat} (h : LiesR base w A D) (hn : D.length ≤ 9223372036854775807) (hm : ∀ e ∈ D, e.length ≤ 9223372036854775807) (hw : ∀ e ∈ D, ∀ x ∈ e, -9223372036854775808 ≤ x ∧ x ≤ 9223372036854775807) :
    Calls Tryz.prog 25 #[.slice A D.length c] w fun e w' => e = .returned (.int .i64 (refM D)) ∧ w' = w := by
  have HH : Hid _ := h
  have HM : Hid _ := hm
  have WW : Hid _ := hw
  clear h hm hw
  unfold refM
  by_cases hb : 600 < D.length
  · rw [if_pos hb]
    have g1 : (600 : Int) < (D.length : Int) := by omega
    go_enter Tryz.func25, Tryz.ntmps25
    go_wp2_with fail
    go_ret
    exact ⟨rfl, rfl⟩
  · rw [if_neg hb]
    have g1 : (D.length : Int) ≤ 600 := by omega
    have start : Hid (CntRel w D.length (fun j => decide ((D.getD j []).length ≤ 30) = true) D.length (.int .i64 ((0 : Nat) : Int)) w) := ⟨0, rfl, by omega, rfl, fun j hj => absurd hj (Nat.not_lt_zero _)⟩
    generalize hgoal : (if (D.all fun c => decide (c.length ≤ 30)) = false then (2 : Int) else if (D.all fun c => c.all isLit) = false then 1 else 0) = res
    have RES : Hid _ := hgoal
    clear hgoal
    go_enter Tryz.func25, Tryz.ntmps25
    go_wp2_with fail
    go_loopg [3] D.length (fun k x3 wr => CntRel w D.length (fun j => decide ((D.getD j []).length ≤ 30) = true) k x3 wr)
    case atStart => exact start.out
    case round =>
      clear start
      obtain ⟨i, rfl, hki, rfl, hall⟩ := hrel
      by_cases hlt : i < D.length
      · obtain ⟨b, o, rfl, _, hc⟩ := liesR_at HH.out hlt
        obtain ⟨A', c', e1, _, _⟩ := hc i hlt
        have NO : Hid (decide ((D.getD i []).length ≤ 30) = false → (D.all fun c => decide (c.length ≤ 30)) = false) := fun h => all_not D [] (fun c => decide (c.length ≤ 30)) hlt h
        have YES : Hid (decide ((D.getD i []).length ≤ 30) = true → ∀ j, j < i + 1 → decide ((D.getD j []).length ≤ 30) = true) := fun h j hj => by
          rcases Nat.lt_or_ge j i with q | q
          · exact hall j q
          · have : j = i := by omega
            subst this; exact h
        clear hall hc
        generalize (D.getD i []).length = n at *
        by_cases h12 : n ≤ 30
        · have Y2 : Hid _ := YES.out (decide_eq_true h12)
          have g2 : (n : Int) ≤ 30 := by omega
          clear YES NO
          go_wp2_with fail
          go_roundg (gk - 1)
          case measure => omega
          case rel => exact ⟨i + 1, by go_num, by omega, rfl, Y2.out⟩
        · have hF : Hid _ := NO.out (decide_eq_false h12)
          have g2 : (30 : Int) < (n : Int) := by omega
          clear YES NO
          go_wp2_with fail
          go_ret
          have hR := RES.out
          rw [if_pos hF.out] at hR
          exact ⟨by rw [← hR]; rfl, rfl⟩
      · have hge : decide (i < D.length) = false := decide_eq_false (by omega)
        have hge2 : D.length ≤ i := by omega
        have hT := (all_getD D [] (fun c => decide (c.length ≤ 30))).1 (fun j hj => hall j (by omega))
        have hR := RES.out
        rw [hT, if_neg (by simp)] at hR
        have R2 : Hid _ := hR
        have start2 : Hid (CntRel wr D.length (fun j => (D.getD j []).all isLit = true) D.length (.int .i64 ((0 : Nat) : Int)) wr) := ⟨0, rfl, by omega, rfl, fun j hj => absurd hj (Nat.not_lt_zero _)⟩
        clear hT hall hlt hR RES
        go_wp2_with fail
        go_loopg [4] D.length (fun k x4 w' => CntRel wr D.length (fun j => (D.getD j []).all isLit = true) k x4 w')
        case atStart => exact start2.out
        case round =>
          clear start2
          obtain ⟨j, rfl, hkj, rfl, hall⟩ := hrel
          by_cases hlt : j < D.length
          · obtain ⟨b, o, rfl, _, hc⟩ := liesR_at HH.out hlt
            obtain ⟨A', c', e1, _, hli⟩ := hc j hlt
            have hin := row_ne D [] hlt
            have LI := literals_any (c := c') hli (HM.out _ hin) (WW.out _ hin)
            have NO : Hid ((D.getD j []).all isLit = false → (D.all fun c => c.all isLit) = false) := fun h => all_not D [] (fun c => c.all isLit) hlt h
            have YES : Hid ((D.getD j []).all isLit = true → ∀ q, q < j + 1 → (D.getD q []).all isLit = true) := fun h q hq => by
              rcases Nat.lt_or_ge q j with z | z
              · exact hall q z
              · have : q = j := by omega
                subst this; exact h
            clear hall hc hin hli
            generalize (D.getD j []).all isLit = p at *
            generalize (D.getD j []).length = n at *
            cases p with
            | true =>
              have Y2 : Hid _ := YES.out rfl
              clear YES NO
              go_wp2_with fail
              refine LI.mono ?_
              rintro e w' ⟨rfl, rfl⟩
              clear LI
              go_wp2_with fail
              go_roundg (gk - 1)
              case measure => omega
              case rel => exact ⟨j + 1, by go_num, by omega, rfl, Y2.out⟩
            | false =>
              have hF : Hid _ := NO.out rfl
              clear YES NO
              go_wp2_with fail
              refine LI.mono ?_
              rintro e w' ⟨rfl, rfl⟩
              clear LI
              go_wp2_with fail
              go_ret
              have hR := R2.out
              rw [if_pos hF.out] at hR
              exact ⟨by rw [← hR]; rfl, rfl⟩
          · have hge3 : decide (j < D.length) = false := decide_eq_false (by omega)
            have hge4 : D.length ≤ j := by omega
            have hT := (all_getD D [] (fun c => c.all isLit)).1 (fun q hq => hall q (by omega))
            have hR := R2.out
            rw [hT, if_neg (by simp)] at hR
            have R3 : Hid _ := hR
            clear hT hall hlt hR R2
            go_wp2_with fail
            go_ret
            exact ⟨by rw [← R3.out]; rfl, rfl⟩

end Go.Proofs.YtdllaphnkbnpoaaGreat
namespace Go.Proofs.YtdllaphnkbnpoaaGreat
open Go.RowKit Go.Proofs

theorem below_drewN_ {B : Nat} {a w : World} (h : Below B a w) (n : Nat) : Below B a (w.drewN n) := ⟨h.os, h.tape, h.output, h.size, h.block⟩

def CntRelB (w : World) (n : Nat) (p : Nat → Prop) (k : Nat) (x : Value) (wr : World) : Prop :=
  ∃ i : Nat, x = .int .i64 (i : Int) ∧ k + i = n ∧ Below w.heap.size w wr ∧ ∀ j, j < i → p j

def numbersM (a b : List Int) : Bool := decide (a = b)

set_option maxHeartbeats 2000000 in
theorem numbers_any {w : World} {A B : Option Addr} {xs ys : List Int} {c d : Nat} (h1 : Lies w.heap.size w A xs) (h2 : Lies w.heap.size w B ys) (hn : xs.length ≤ 9223372036854775807) (_hm : ys.length ≤ 9223372036854775807) :
    Calls Tryz.prog 13 #[.slice A xs.length c, .slice B ys.length d] w fun e w' => e = .returned (.bool (numbersM xs ys)) ∧ Below w.heap.size w w' := by
  have HA : Hid _ := h1
  have HB : Hid _ := h2
  clear h1 h2
  generalize hres : numbersM xs ys = res
  have RES : Hid _ := hres
  clear hres
  by_cases hl : xs.length = ys.length
  · have start : Hid (CntRelB w xs.length (fun j => xs.getD j 0 = ys.getD j 0) xs.length (.int .i64 ((0 : Nat) : Int)) w) := ⟨0, rfl, by omega, Below.refl _ _, fun j hj => absurd hj (Nat.not_lt_zero _)⟩
    have HL : Hid _ := hl
    rw [← hl]
    clear hl
    go_enter Tryz.func13, Tryz.ntmps13
    go_wp2_with fail
    go_loopg [5] xs.length (fun k x5 wr => CntRelB w xs.length (fun j => xs.getD j 0 = ys.getD j 0) k x5 wr)
    case atStart => exact start.out
    case round =>
      clear start
      obtain ⟨i, rfl, hki, B0, hall⟩ := hrel
      by_cases hlt : i < xs.length
      · obtain ⟨b1, o1, rfl, _, hc1⟩ := lies_at (Lies.below HA.out B0) hlt
        obtain ⟨b2, o2, rfl, _, hc2⟩ := lies_at (Lies.below HB.out B0) (by rw [← HL.out]; exact hlt)
        have e1 := hc1 i hlt
        have e2 := hc2 i (by rw [← HL.out]; exact hlt)
        have AL : Hid _ := hall
        have BH : Hid _ := B0
        have NO : Hid (xs.getD i 0 ≠ ys.getD i 0 → res = false) := fun h => by
          rw [← RES.out]; unfold numbersM; exact decide_eq_false (fun e => h (by rw [e]))
        have YES : Hid (xs.getD i 0 = ys.getD i 0 → ∀ q, q < i + 1 → xs.getD q 0 = ys.getD q 0) := fun h q hq => by
          rcases Nat.lt_or_ge q i with z | z
          · exact hall q z
          · have : q = i := by omega
            subst this; exact h
        clear hall hc1 hc2 B0
        generalize xs.getD i 0 = x at *
        generalize ys.getD i 0 = y at *
        by_cases hxy : x = y
        · have Y2 : Hid _ := YES.out hxy
          have g2 : (x != y) = false := by simp [hxy]
          clear YES NO hxy
          go_wp2_with fail
          go_quiet (fail)
          go_wp2_with fail
          go_roundg (gk - 1)
          case measure => omega
          case rel => exact ⟨i + 1, by go_num, by omega, below_drewN_ BH.out _, Y2.out⟩
        · have hF := NO.out hxy
          subst hF
          have g2 : (x != y) = true := by simp [hxy]
          clear YES NO hxy
          go_wp2_with fail
          go_quiet (fail)
          go_wp2_with fail
          go_ret
          exact ⟨rfl, below_drewN_ BH.out _⟩
      · have hge : decide (i < xs.length) = false := decide_eq_false (by omega)
        have hge2 : xs.length ≤ i := by omega
        have hT : res = true := by
          rw [← RES.out]; unfold numbersM
          refine decide_eq_true (List.ext_getElem HL.out fun j h1 h2 => ?_)
          have := hall j (by omega)
          simpa [h1, h2] using this
        subst hT
        have BH : Hid _ := B0
        clear hall hlt B0
        go_wp2_with fail
        go_ret
        exact ⟨rfl, BH.out⟩
  · have g1 : ((xs.length : Int) != (ys.length : Int)) = true := by simp; omega
    have hF : res = false := by rw [← RES.out]; unfold numbersM; exact decide_eq_false (fun e => hl (by rw [e]))
    subst hF
    clear hl
    go_enter Tryz.func13, Tryz.ntmps13
    go_wp2_with fail
    go_ret
    exact ⟨rfl, Below.refl _ _⟩
end Go.Proofs.YtdllaphnkbnpoaaGreat
