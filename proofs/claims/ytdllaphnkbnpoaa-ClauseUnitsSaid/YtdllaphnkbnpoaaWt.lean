/- Walks over slices.IndexFunc and slices.ContainsFunc, whatever the predicate. -/
import Derived.Test.YtdllaphnkbnpoaaWs
import Derived.Shelf.Abstract
namespace Go.Proofs.Ytdllaphnkbnpoaa
open Go.RowKit Go.Proofs

/-- What is asked of a predicate. -/
def Pred (w : World) (g : Nat) (lb : Array Value) (n : Nat) (vs : Nat → Value) (b : Nat → Bool) : Prop :=
  ∀ j, j < n → ∀ W, Below w.heap.size w W → Calls Try.prog g (#[vs j] ++ lb) W fun e w' => e = .returned (.bool (b j)) ∧ Below w.heap.size w w'
/-- Where the elements lie. -/
def Elems (w : World) (A : Option Addr) (n : Nat) (vs : Nat → Value) : Prop :=
  n = 0 ∨ ∃ q o, A = some ⟨q, o, none⟩ ∧ q < w.heap.size ∧ ∀ j, j < n → w.cell? ⟨q, o + j, none⟩ = some (vs j)

def anyB (n : Nat) (b : Nat → Bool) : Bool := (List.range n).any b
theorem any_none {n : Nat} {b : Nat → Bool} (h : ∀ j, j < n → b j = false) : anyB n b = false := by
  unfold anyB; rw [List.any_eq_false]; intro j hj; rw [h j (by simpa using hj)]; simp
theorem any_some {n j : Nat} {b : Nat → Bool} (h : j < n) (hb : b j = true) : anyB n b = true := by
  unfold anyB; rw [List.any_eq_true]; exact ⟨j, by simpa using h, hb⟩

def IdxRel (w : World) (n : Nat) (b : Nat → Bool) (k : Nat) (x8 : Value) (wr : World) : Prop :=
  ∃ i : Nat, x8 = .int .i64 (i : Int) ∧ k + i = n ∧ Below w.heap.size w wr ∧ ∀ j, j < i → b j = false

set_option maxHeartbeats 2000000 in
theorem indexFunc_int {w : World} {A : Option Addr} {n c g : Nat} {lb : Array Value} {vs : Nat → Value} {b : Nat → Bool} (hn : n ≤ 9223372036854775807) (eg : ∀ args w, (callFunc g args).run Try.prog w = .ok (.enter g args) w) (hv : Elems w A n vs) (hp : Pred w g lb n vs b) :
    Calls Try.prog 73 #[.slice A n c, .func (.func g) #[] lb] w fun e w' => Below w.heap.size w w' ∧ ∃ r : Int, e = .returned (.int .i64 r) ∧ decide (0 ≤ r) = anyB n b := by
  have start : Hid (IdxRel w n b n (.int .i64 ((0 : Nat) : Int)) w) := ⟨0, rfl, by omega, Below.refl _ _, fun j hj => absurd hj (Nat.not_lt_zero _)⟩
  have VV : Hid _ := hv
  have PP : Hid _ := hp
  clear hv hp
  go_enter Try.func73, Try.ntmps73
  go_wp2_with fail
  go_loopg [8] n (fun k x8 wr => IdxRel w n b k x8 wr)
  case atStart => exact start.out
  case round =>
    clear start
    obtain ⟨i, rfl, hki, B, hb⟩ := hrel
    by_cases hlt : i < n
    · obtain ⟨q, o, rfl, hq, hc⟩ : ∃ q o, A = some ⟨q, o, none⟩ ∧ q < w.heap.size ∧ ∀ j, j < n → w.cell? ⟨q, o + j, none⟩ = some (vs j) := by
        rcases VV.out with h | h
        · omega
        · exact h
      have e1 : wr.cell? ⟨q, o + i, none⟩ = some (vs i) := by
        rw [World.cell?_of_block (a := ⟨q, o + i, none⟩) (B.block q hq)]; exact hc i hlt
      have hcall := PP.out i hlt wr B
      have HB : Hid _ := hb
      have BH : Hid _ := B
      clear hb B hc
      have II : Hid (∀ j, j < n → b j = true → anyB n b = true) := fun j h1 h2 => any_some h1 h2
      generalize vs i = v at *
      cases hbi : b i with
      | true =>
        rw [hbi] at hcall
        go_wp2_with (go_at_fn g; refine hcall.mono ?_; rintro e w' ⟨rfl, hb'⟩)
        go_ret
        exact ⟨hb', _, rfl, by rw [II.out i hlt hbi]; exact decide_eq_true (by omega)⟩
      | false =>
        rw [hbi] at hcall
        go_wp2_with (go_at_fn g; refine hcall.mono ?_; rintro e w' ⟨rfl, hb'⟩)
        go_roundg (gk - 1)
        case measure => omega
        case rel => exact ⟨i + 1, by go_num, by omega, hb', fun j hj => by
          rcases Nat.lt_or_ge j i with h | h
          · exact HB.out j h
          · have : j = i := by omega
            subst this; exact hbi⟩
    · have hge : decide (i < n) = false := decide_eq_false (by omega)
      have hge2 : n ≤ i := by omega
      have HN := any_none (n := n) (b := b) (fun j hj => hb j (by omega))
      have BH : Hid _ := B
      clear hlt hb B
      go_wp2_with fail
      go_ret
      exact ⟨BH.out, _, rfl, by rw [HN]; rfl⟩
set_option maxHeartbeats 2000000 in
theorem indexFunc_row {w : World} {A : Option Addr} {n c g : Nat} {lb : Array Value} {vs : Nat → Value} {b : Nat → Bool} (hn : n ≤ 9223372036854775807) (eg : ∀ args w, (callFunc g args).run Try.prog w = .ok (.enter g args) w) (hv : Elems w A n vs) (hp : Pred w g lb n vs b) :
    Calls Try.prog 72 #[.slice A n c, .func (.func g) #[] lb] w fun e w' => Below w.heap.size w w' ∧ ∃ r : Int, e = .returned (.int .i64 r) ∧ decide (0 ≤ r) = anyB n b := by
  have start : Hid (IdxRel w n b n (.int .i64 ((0 : Nat) : Int)) w) := ⟨0, rfl, by omega, Below.refl _ _, fun j hj => absurd hj (Nat.not_lt_zero _)⟩
  have VV : Hid _ := hv
  have PP : Hid _ := hp
  clear hv hp
  go_enter Try.func72, Try.ntmps72
  go_wp2_with fail
  go_loopg [8] n (fun k x8 wr => IdxRel w n b k x8 wr)
  case atStart => exact start.out
  case round =>
    clear start
    obtain ⟨i, rfl, hki, B, hb⟩ := hrel
    by_cases hlt : i < n
    · obtain ⟨q, o, rfl, hq, hc⟩ : ∃ q o, A = some ⟨q, o, none⟩ ∧ q < w.heap.size ∧ ∀ j, j < n → w.cell? ⟨q, o + j, none⟩ = some (vs j) := by
        rcases VV.out with h | h
        · omega
        · exact h
      have e1 : wr.cell? ⟨q, o + i, none⟩ = some (vs i) := by
        rw [World.cell?_of_block (a := ⟨q, o + i, none⟩) (B.block q hq)]; exact hc i hlt
      have hcall := PP.out i hlt wr B
      have HB : Hid _ := hb
      have BH : Hid _ := B
      clear hb B hc
      have II : Hid (∀ j, j < n → b j = true → anyB n b = true) := fun j h1 h2 => any_some h1 h2
      generalize vs i = v at *
      cases hbi : b i with
      | true =>
        rw [hbi] at hcall
        go_wp2_with (go_at_fn g; refine hcall.mono ?_; rintro e w' ⟨rfl, hb'⟩)
        go_ret
        exact ⟨hb', _, rfl, by rw [II.out i hlt hbi]; exact decide_eq_true (by omega)⟩
      | false =>
        rw [hbi] at hcall
        go_wp2_with (go_at_fn g; refine hcall.mono ?_; rintro e w' ⟨rfl, hb'⟩)
        go_roundg (gk - 1)
        case measure => omega
        case rel => exact ⟨i + 1, by go_num, by omega, hb', fun j hj => by
          rcases Nat.lt_or_ge j i with h | h
          · exact HB.out j h
          · have : j = i := by omega
            subst this; exact hbi⟩
    · have hge : decide (i < n) = false := decide_eq_false (by omega)
      have hge2 : n ≤ i := by omega
      have HN := any_none (n := n) (b := b) (fun j hj => hb j (by omega))
      have BH : Hid _ := B
      clear hlt hb B
      go_wp2_with fail
      go_ret
      exact ⟨BH.out, _, rfl, by rw [HN]; rfl⟩

theorem containsFunc_int {w : World} {A : Option Addr} {n c g : Nat} {lb : Array Value} {vs : Nat → Value} {b : Nat → Bool} (hn : n ≤ 9223372036854775807) (eg : ∀ args w, (callFunc g args).run Try.prog w = .ok (.enter g args) w) (hv : Elems w A n vs) (hp : Pred w g lb n vs b) :
    Calls Try.prog 54 #[.slice A n c, .func (.func g) #[] lb] w fun e w' => e = .returned (.bool (anyB n b)) ∧ Below w.heap.size w w' := by
  have IF := indexFunc_int (c := c) hn eg hv hp
  clear hv hp
  generalize anyB n b = r at *
  go_enter Try.func54, Try.ntmps54
  go_wp2_with fail
  refine IF.mono ?_
  rintro e w' ⟨B, q, rfl, hq⟩
  have BH : Hid _ := B
  clear IF B
  subst hq
  go_wp2_with fail
  go_ret
  exact ⟨by simp, BH.out⟩

theorem containsFunc_row {w : World} {A : Option Addr} {n c g : Nat} {lb : Array Value} {vs : Nat → Value} {b : Nat → Bool} (hn : n ≤ 9223372036854775807) (eg : ∀ args w, (callFunc g args).run Try.prog w = .ok (.enter g args) w) (hv : Elems w A n vs) (hp : Pred w g lb n vs b) :
    Calls Try.prog 52 #[.slice A n c, .func (.func g) #[] lb] w fun e w' => e = .returned (.bool (anyB n b)) ∧ Below w.heap.size w w' := by
  have IF := indexFunc_row (c := c) hn eg hv hp
  clear hv hp
  generalize anyB n b = r at *
  go_enter Try.func52, Try.ntmps52
  go_wp2_with fail
  refine IF.mono ?_
  rintro e w' ⟨B, q, rfl, hq⟩
  have BH : Hid _ := B
  clear IF B
  subst hq
  go_wp2_with fail
  go_ret
  exact ⟨by simp, BH.out⟩

def isLit (x : Int) : Bool := decide (x ≠ 0 ∧ -200 ≤ x ∧ x ≤ 200)

theorem isLiteral_any (x : Int) (w : World) : Calls Try.prog 66 #[.int .i64 x] w fun e w' => e = .returned (.bool (isLit x)) ∧ w = w' := by
  unfold isLit
  go_enter Try.func66, Try.ntmps66
  by_cases h0 : x = 0
  · subst h0
    go_wp2_with fail
    all_goals (go_ret; simp_all)
  · have g0 : (x != 0) = true := by simp [h0]
    by_cases h1 : -200 ≤ x
    · by_cases h2 : x ≤ 200
      · go_wp2_with fail
        all_goals (go_ret; simp_all)
      · have h2' : 200 < x := by omega
        go_wp2_with fail
        all_goals (go_ret; simp_all)
    · have h1' : x < -200 := by omega
      go_wp2_with fail
      all_goals (go_ret; simp_all; try omega)

theorem notLit_any (x : Int) (w : World) : Calls Try.prog 65 #[.int .i64 x] w fun e w' => e = .returned (.bool (!isLit x)) ∧ w = w' := by
  have IL := isLiteral_any x w
  generalize isLit x = r at *
  go_enter Try.func65, Try.ntmps65
  go_wp2_with fail
  refine IL.mono ?_
  rintro e w' ⟨rfl, rfl⟩
  clear IL
  go_wp2_with fail
  go_ret
  exact ⟨rfl, rfl⟩

theorem lies_elems {base : Nat} {w : World} {A : Option Addr} {xs : List Int} (h : Lies base w A xs) (hb : base ≤ w.heap.size) : Elems w A xs.length (fun j => .int .i64 (xs.getD j 0)) := by
  rcases h with rfl | ⟨b, o, hA, hb', hc⟩
  · exact .inl rfl
  · exact .inr ⟨b, o, hA, by omega, hc⟩

theorem anyB_list (xs : List Int) (p : Int → Bool) : anyB xs.length (fun j => p (xs.getD j 0)) = xs.any p := by
  have : ∀ j, j < xs.length → xs.getD j 0 ∈ xs := fun j hj => by grind
  cases h : xs.any p with
  | true =>
    obtain ⟨x, hx, hp⟩ := List.any_eq_true.1 h
    obtain ⟨j, hj, rfl⟩ := List.getElem_of_mem hx
    exact any_some hj (by simpa [hj] using hp)
  | false =>
    rw [List.any_eq_false] at h
    exact any_none (fun j hj => by simpa using h _ (this j hj))

theorem areLiterals_any {base : Nat} {w : World} {A : Option Addr} {xs : List Int} {c : Nat} (h : Lies base w A xs) (hb : base ≤ w.heap.size) (hn : xs.length ≤ 9223372036854775807) :
    Calls Try.prog 46 #[.slice A xs.length c] w fun e w' => e = .returned (.bool (xs.all isLit)) ∧ Below w.heap.size w w' := by
  have CF := containsFunc_int (c := c) (lb := #[]) (b := fun j => !isLit (xs.getD j 0)) hn (g := 65) (enters_of Try.func65 (by kernel_rfl) rfl) (lies_elems h hb) (fun j _ W hW => (notLit_any (xs.getD j 0) W).mono (by rintro e w' ⟨rfl, rfl⟩; exact ⟨rfl, hW⟩))
  rw [anyB_list xs (fun x => !isLit x)] at CF
  have e : xs.all isLit = !(xs.any fun x => !isLit x) := by simp [List.all_eq_not_any_not]
  rw [e]
  clear h e
  generalize (xs.any fun x => !isLit x) = r at *
  generalize xs.length = n at *
  go_enter Try.func46, Try.ntmps46
  go_wp2_with fail
  refine CF.mono ?_
  rintro e w' ⟨rfl, B⟩
  have BH : Hid _ := B
  clear CF B
  go_wp2_with fail
  go_ret
  exact ⟨rfl, BH.out⟩

/-- The rows of a slice of slices. -/
def rowVal (w : World) (A : Option Addr) (n : Nat) (j : Nat) : Value :=
  match A with
  | some ⟨b, o, _⟩ => (w.cell? ⟨b, o + j, none⟩).getD (.bool false)
  | none => .bool false

theorem liesR_rows {base : Nat} {w : World} {A : Option Addr} {D : List (List Int)} (h : LiesR base w A D) (hb : base ≤ w.heap.size) :
    Elems w A D.length (rowVal w A D.length) ∧ ∀ j, j < D.length → ∃ A' c', rowVal w A D.length j = .slice A' (D.getD j []).length c' ∧ (D.getD j []).length ≤ c' ∧ Lies base w A' (D.getD j []) := by
  rcases h with rfl | ⟨b, o, rfl, hb', hc⟩
  · exact ⟨.inl rfl, fun j hj => absurd hj (Nat.not_lt_zero _)⟩
  · refine ⟨.inr ⟨b, o, rfl, by omega, fun j hj => ?_⟩, fun j hj => ?_⟩
    · obtain ⟨A', c', h1, _⟩ := hc j hj
      have e : rowVal w (some ⟨b, o, none⟩) D.length j = (w.cell? ⟨b, o + j, none⟩).getD (.bool false) := rfl
      rw [e, h1]; rfl
    · obtain ⟨A', c', h1, h2, h3⟩ := hc j hj
      have e : rowVal w (some ⟨b, o, none⟩) D.length j = (w.cell? ⟨b, o + j, none⟩).getD (.bool false) := rfl
      exact ⟨A', c', by rw [e, h1]; rfl, h2, h3⟩

theorem anyB_rows (D : List (List Int)) (p : List Int → Bool) : anyB D.length (fun j => p (D.getD j [])) = D.any p := by
  have : ∀ j, j < D.length → D.getD j [] ∈ D := fun j hj => by grind
  cases h : D.any p with
  | true =>
    obtain ⟨x, hx, hp⟩ := List.any_eq_true.1 h
    obtain ⟨j, hj, rfl⟩ := List.getElem_of_mem hx
    exact any_some hj (by simpa [hj] using hp)
  | false =>
    rw [List.any_eq_false] at h
    exact any_none (fun j hj => by simpa using h _ (this j hj))

theorem notAll_any {base : Nat} {w : World} {A : Option Addr} {xs : List Int} {c : Nat} (h : Lies base w A xs) (hb : base ≤ w.heap.size) (hn : xs.length ≤ 9223372036854775807) :
    Calls Try.prog 64 #[.slice A xs.length c] w fun e w' => e = .returned (.bool (!xs.all isLit)) ∧ Below w.heap.size w w' := by
  have AL := areLiterals_any (c := c) h hb hn
  clear h
  generalize xs.all isLit = r at *
  generalize xs.length = n at *
  go_enter Try.func64, Try.ntmps64
  go_wp2_with fail
  refine AL.mono ?_
  rintro e w' ⟨rfl, B⟩
  have BH : Hid _ := B
  clear AL B
  go_wp2_with fail
  go_ret
  exact ⟨rfl, BH.out⟩

theorem tooLong_any {w : World} {B most : Nat} {A : Option Addr} {n c : Nat} (hc : w.cell? ⟨B, 0, none⟩ = some (.int .i64 (most : Int))) :
    Calls Try.prog 63 #[.slice A n c, .pointer (some ⟨B, 0, none⟩)] w fun e w' => e = .returned (.bool (decide (30 < n) && decide (most = 600))) ∧ w = w' := by
  by_cases h1 : 30 < n
  · have g1 : (30 : Int) < (n : Int) := by omega
    by_cases h2 : most = 600
    · subst h2
      go_enter Try.func63, Try.ntmps63
      go_wp2_with fail
      go_ret
      exact ⟨by simp [h1], rfl⟩
    · have g2 : ((most : Int) == 600) = false := by rw [beq_eq_false_iff_ne]; omega
      go_enter Try.func63, Try.ntmps63
      go_wp2_with fail
      go_ret
      exact ⟨by simp [h2], rfl⟩
  · have g1 : decide ((30 : Int) < (n : Int)) = false := decide_eq_false (by omega)
    have g3 : (n : Int) ≤ 30 := by omega
    go_enter Try.func63, Try.ntmps63
    go_wp2_with fail
    go_ret
    exact ⟨by simp [h1], rfl⟩

def checkM (most : Nat) (D : List (List Int)) : Int :=
  if (decide (most < D.length) || D.any fun c => decide (30 < c.length) && decide (most = 600)) = true then 2
  else if (D.any fun c => !c.all isLit) = true then 1 else 0

end Go.Proofs.Ytdllaphnkbnpoaa
