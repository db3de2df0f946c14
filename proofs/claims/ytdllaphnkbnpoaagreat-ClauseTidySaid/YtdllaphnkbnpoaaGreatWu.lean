/- Walks over slices.IndexFunc and slices.ContainsFunc, whatever the predicate. Walks over package clause: check, Check, asked, Solve. -/
import Derived.Test.YtdllaphnkbnpoaaGreatWs
import Derived.Shelf.Abstract
namespace Go.Proofs.YtdllaphnkbnpoaaGreat
open Go.RowKit Go.Proofs

/-- What is asked of a predicate. -/
def Pred (w : World) (g : Nat) (lb : Array Value) (n : Nat) (vs : Nat → Value) (b : Nat → Bool) : Prop :=
  ∀ j, j < n → ∀ W, Below w.heap.size w W → Calls Tryz.prog g (#[vs j] ++ lb) W fun e w' => e = .returned (.bool (b j)) ∧ Below w.heap.size w w'
/-- Where the elements lie. -/
def Elems (w : World) (A : Option Addr) (n : Nat) (vs : Nat → Value) : Prop :=
  n = 0 ∨ ∃ q o, A = some ⟨q, o, none⟩ ∧ q < w.heap.size ∧ ∀ j, j < n → w.cell? ⟨q, o + j, none⟩ = some (vs j)

def anyB (n : Nat) (b : Nat → Bool) : Bool := (List.range n).any b
theorem any_none {n : Nat} {b : Nat → Bool} (h : ∀ j, j < n → b j = false) : anyB n b = false := by
  unfold anyB; rw [List.any_eq_false]; intro j hj; rw [h j (by simpa using hj)]; simp
theorem any_some {n j : Nat} {b : Nat → Bool} (h : j < n) (hb : b j = true) : anyB n b = true := by
  unfold anyB; rw [List.any_eq_true]; exact ⟨j, by simpa using h, hb⟩

def IdxRel (w : World) (n : Nat) (b : Nat → Bool) (k : Nat) (x8 : Value) (wr : World) : Prop :=
  ∃ i : Nat, x8 = .int .i64 (i : Int) ∧ k + i = n ∧ Below w.heap.size w wr ∧ ∀ j, j < i → b j = false

set_option maxHeartbeats 2000000 in
theorem indexFunc_int {w : World} {A : Option Addr} {n c g : Nat} {lb : Array Value} {vs : Nat → Value} {b : Nat → Bool} (hn : n ≤ 9223372036854775807) (eg : ∀ args w, (callFunc g args).run Tryz.prog w = .ok (.enter g args) w) (hv : Elems w A n vs) (hp : Pred w g lb n vs b) :
    Calls Tryz.prog 51 #[.slice A n c, .func (.func g) #[] lb] w fun e w' => Below w.heap.size w w' ∧ ∃ r : Int, e = .returned (.int .i64 r) ∧ decide (0 ≤ r) = anyB n b := by
  have start : Hid (IdxRel w n b n (.int .i64 ((0 : Nat) : Int)) w) := ⟨0, rfl, by omega, Below.refl _ _, fun j hj => absurd hj (Nat.not_lt_zero _)⟩
  have VV : Hid _ := hv
  have PP : Hid _ := hp
  clear hv hp
  go_enter Tryz.func51, Tryz.ntmps51
  go_wp2_with fail
  go_loopg [8] n (fun k x8 wr => IdxRel w n b k x8 wr)
  case atStart => exact start.out
  case round =>
    clear start
    obtain ⟨i, rfl, hki, B, hb⟩ := hrel
    by_cases hlt : i < n
    · obtain ⟨q, o, rfl, hq, hc⟩ : ∃ q o, A = some ⟨q, o, none⟩ ∧ q < w.heap.size ∧ ∀ j, j < n → w.cell? ⟨q, o + j, none⟩ = some (vs j) := by
        rcases VV.out with h | h
        · omega
        · exact h
      have e1 : wr.cell? ⟨q, o + i, none⟩ = some (vs i) := by
        rw [World.cell?_of_block (a := ⟨q, o + i, none⟩) (B.block q hq)]; exact hc i hlt
      have hcall := PP.out i hlt wr B
      have HB : Hid _ := hb
      have BH : Hid _ := B
      clear hb B hc
      have II : Hid (∀ j, j < n → b j = true → anyB n b = true) := fun j h1 h2 => any_some h1 h2
      generalize vs i = v at *
      cases hbi : b i with
      | true =>
        rw [hbi] at hcall
        go_wp2_with (go_at_fn g; refine hcall.mono ?_; rintro e w' ⟨rfl, hb'⟩)
        go_ret
        exact ⟨hb', _, rfl, by rw [II.out i hlt hbi]; exact decide_eq_true (by omega)⟩
      | false =>
        rw [hbi] at hcall
        go_wp2_with (go_at_fn g; refine hcall.mono ?_; rintro e w' ⟨rfl, hb'⟩)
        go_roundg (gk - 1)
        case measure => omega
        case rel => exact ⟨i + 1, by go_num, by omega, hb', fun j hj => by
          rcases Nat.lt_or_ge j i with h | h
          · exact HB.out j h
          · have : j = i := by omega
            subst this; exact hbi⟩
    · have hge : decide (i < n) = false := decide_eq_false (by omega)
      have hge2 : n ≤ i := by omega
      have HN := any_none (n := n) (b := b) (fun j hj => hb j (by omega))
      have BH : Hid _ := B
      clear hlt hb B
      go_wp2_with fail
      go_ret
      exact ⟨BH.out, _, rfl, by rw [HN]; rfl⟩
set_option maxHeartbeats 2000000 in
theorem indexFunc_row {w : World} {A : Option Addr} {n c g : Nat} {lb : Array Value} {vs : Nat → Value} {b : Nat → Bool} (hn : n ≤ 9223372036854775807) (eg : ∀ args w, (callFunc g args).run Tryz.prog w = .ok (.enter g args) w) (hv : Elems w A n vs) (hp : Pred w g lb n vs b) :
    Calls Tryz.prog 61 #[.slice A n c, .func (.func g) #[] lb] w fun e w' => Below w.heap.size w w' ∧ ∃ r : Int, e = .returned (.int .i64 r) ∧ decide (0 ≤ r) = anyB n b := by
  have start : Hid (IdxRel w n b n (.int .i64 ((0 : Nat) : Int)) w) := ⟨0, rfl, by omega, Below.refl _ _, fun j hj => absurd hj (Nat.not_lt_zero _)⟩
  have VV : Hid _ := hv
  have PP : Hid _ := hp
  clear hv hp
  go_enter Tryz.func61, Tryz.ntmps61
  go_wp2_with fail
  go_loopg [8] n (fun k x8 wr => IdxRel w n b k x8 wr)
  case atStart => exact start.out
  case round =>
    clear start
    obtain ⟨i, rfl, hki, B, hb⟩ := hrel
    by_cases hlt : i < n
    · obtain ⟨q, o, rfl, hq, hc⟩ : ∃ q o, A = some ⟨q, o, none⟩ ∧ q < w.heap.size ∧ ∀ j, j < n → w.cell? ⟨q, o + j, none⟩ = some (vs j) := by
        rcases VV.out with h | h
        · omega
        · exact h
      have e1 : wr.cell? ⟨q, o + i, none⟩ = some (vs i) := by
        rw [World.cell?_of_block (a := ⟨q, o + i, none⟩) (B.block q hq)]; exact hc i hlt
      have hcall := PP.out i hlt wr B
      have HB : Hid _ := hb
      have BH : Hid _ := B
      clear hb B hc
      have II : Hid (∀ j, j < n → b j = true → anyB n b = true) := fun j h1 h2 => any_some h1 h2
      generalize vs i = v at *
      cases hbi : b i with
      | true =>
        rw [hbi] at hcall
        go_wp2_with (go_at_fn g; refine hcall.mono ?_; rintro e w' ⟨rfl, hb'⟩)
        go_ret
        exact ⟨hb', _, rfl, by rw [II.out i hlt hbi]; exact decide_eq_true (by omega)⟩
      | false =>
        rw [hbi] at hcall
        go_wp2_with (go_at_fn g; refine hcall.mono ?_; rintro e w' ⟨rfl, hb'⟩)
        go_roundg (gk - 1)
        case measure => omega
        case rel => exact ⟨i + 1, by go_num, by omega, hb', fun j hj => by
          rcases Nat.lt_or_ge j i with h | h
          · exact HB.out j h
          · have : j = i := by omega
            subst this; exact hbi⟩
    · have hge : decide (i < n) = false := decide_eq_false (by omega)
      have hge2 : n ≤ i := by omega
      have HN := any_none (n := n) (b := b) (fun j hj => hb j (by omega))
      have BH : Hid _ := B
      clear hlt hb B
      go_wp2_with fail
      go_ret
      exact ⟨BH.out, _, rfl, by rw [HN]; rfl⟩

theorem containsFunc_int {w : World} {A : Option Addr} {n c g : Nat} {lb : Array Value} {vs : Nat → Value} {b : Nat → Bool} (hn : n ≤ 9223372036854775807) (eg : ∀ args w, (callFunc g args).run Tryz.prog w = .ok (.enter g args) w) (hv : Elems w A n vs) (hp : Pred w g lb n vs b) :
    Calls Tryz.prog 43 #[.slice A n c, .func (.func g) #[] lb] w fun e w' => e = .returned (.bool (anyB n b)) ∧ Below w.heap.size w w' := by
  have IF := indexFunc_int (c := c) hn eg hv hp
  clear hv hp
  generalize anyB n b = r at *
  go_enter Tryz.func43, Tryz.ntmps43
  go_wp2_with fail
  refine IF.mono ?_
  rintro e w' ⟨B, q, rfl, hq⟩
  have BH : Hid _ := B
  clear IF B
  subst hq
  go_wp2_with fail
  go_ret
  exact ⟨by simp, BH.out⟩

theorem containsFunc_row {w : World} {A : Option Addr} {n c g : Nat} {lb : Array Value} {vs : Nat → Value} {b : Nat → Bool} (hn : n ≤ 9223372036854775807) (eg : ∀ args w, (callFunc g args).run Tryz.prog w = .ok (.enter g args) w) (hv : Elems w A n vs) (hp : Pred w g lb n vs b) :
    Calls Tryz.prog 35 #[.slice A n c, .func (.func g) #[] lb] w fun e w' => e = .returned (.bool (anyB n b)) ∧ Below w.heap.size w w' := by
  have IF := indexFunc_row (c := c) hn eg hv hp
  clear hv hp
  generalize anyB n b = r at *
  go_enter Tryz.func35, Tryz.ntmps35
  go_wp2_with fail
  refine IF.mono ?_
  rintro e w' ⟨B, q, rfl, hq⟩
  have BH : Hid _ := B
  clear IF B
  subst hq
  go_wp2_with fail
  go_ret
  exact ⟨by simp, BH.out⟩

def isLit (x : Int) : Bool := decide (x ≠ 0 ∧ -200 ≤ x ∧ x ≤ 200)

theorem isLiteral_any (x : Int) (w : World) : Calls Tryz.prog 18 #[.int .i64 x] w fun e w' => e = .returned (.bool (isLit x)) ∧ w = w' := by
  unfold isLit
  go_enter Tryz.func18, Tryz.ntmps18
  by_cases h0 : x = 0
  · subst h0
    go_wp2_with fail
    all_goals (go_ret; simp_all)
  · have g0 : (x != 0) = true := by simp [h0]
    by_cases h1 : -200 ≤ x
    · by_cases h2 : x ≤ 200
      · go_wp2_with fail
        all_goals (go_ret; simp_all)
      · have h2' : 200 < x := by omega
        go_wp2_with fail
        all_goals (go_ret; simp_all)
    · have h1' : x < -200 := by omega
      go_wp2_with fail
      all_goals (go_ret; simp_all; try omega)

theorem notLit_any (x : Int) (w : World) : Calls Tryz.prog 49 #[.int .i64 x] w fun e w' => e = .returned (.bool (!isLit x)) ∧ w = w' := by
  have IL := isLiteral_any x w
  generalize isLit x = r at *
  go_enter Tryz.func49, Tryz.ntmps49
  go_wp2_with fail
  refine IL.mono ?_
  rintro e w' ⟨rfl, rfl⟩
  clear IL
  go_wp2_with fail
  go_ret
  exact ⟨rfl, rfl⟩

theorem lies_elems {base : Nat} {w : World} {A : Option Addr} {xs : List Int} (h : Lies base w A xs) (hb : base ≤ w.heap.size) : Elems w A xs.length (fun j => .int .i64 (xs.getD j 0)) := by
  rcases h with rfl | ⟨b, o, hA, hb', hc⟩
  · exact .inl rfl
  · exact .inr ⟨b, o, hA, by omega, hc⟩

theorem anyB_list (xs : List Int) (p : Int → Bool) : anyB xs.length (fun j => p (xs.getD j 0)) = xs.any p := by
  have : ∀ j, j < xs.length → xs.getD j 0 ∈ xs := fun j hj => by grind
  cases h : xs.any p with
  | true =>
    obtain ⟨x, hx, hp⟩ := List.any_eq_true.1 h
    obtain ⟨j, hj, rfl⟩ := List.getElem_of_mem hx
    exact any_some hj (by simpa [hj] using hp)
  | false =>
    rw [List.any_eq_false] at h
    exact any_none (fun j hj => by simpa using h _ (this j hj))

theorem areLiterals_any {base : Nat} {w : World} {A : Option Addr} {xs : List Int} {c : Nat} (h : Lies base w A xs) (hb : base ≤ w.heap.size) (hn : xs.length ≤ 9223372036854775807) :
    Calls Tryz.prog 17 #[.slice A xs.length c] w fun e w' => e = .returned (.bool (xs.all isLit)) ∧ Below w.heap.size w w' := by
  have CF := containsFunc_int (c := c) (lb := #[]) (b := fun j => !isLit (xs.getD j 0)) hn (g := 49) (enters_of Tryz.func49 (by kernel_rfl) rfl) (lies_elems h hb) (fun j _ W hW => (notLit_any (xs.getD j 0) W).mono (by rintro e w' ⟨rfl, rfl⟩; exact ⟨rfl, hW⟩))
  rw [anyB_list xs (fun x => !isLit x)] at CF
  have e : xs.all isLit = !(xs.any fun x => !isLit x) := by simp [List.all_eq_not_any_not]
  rw [e]
  clear h e
  generalize (xs.any fun x => !isLit x) = r at *
  generalize xs.length = n at *
  go_enter Tryz.func17, Tryz.ntmps17
  go_wp2_with fail
  refine CF.mono ?_
  rintro e w' ⟨rfl, B⟩
  have BH : Hid _ := B
  clear CF B
  go_wp2_with fail
  go_ret
  exact ⟨rfl, BH.out⟩

/-- The rows of a slice of slices. -/
def rowVal (w : World) (A : Option Addr) (n : Nat) (j : Nat) : Value :=
  match A with
  | some ⟨b, o, _⟩ => (w.cell? ⟨b, o + j, none⟩).getD (.bool false)
  | none => .bool false

theorem liesR_rows {base : Nat} {w : World} {A : Option Addr} {D : List (List Int)} (h : LiesR base w A D) (hb : base ≤ w.heap.size) :
    Elems w A D.length (rowVal w A D.length) ∧ ∀ j, j < D.length → ∃ A' c', rowVal w A D.length j = .slice A' (D.getD j []).length c' ∧ (D.getD j []).length ≤ c' ∧ Lies base w A' (D.getD j []) := by
  rcases h with rfl | ⟨b, o, rfl, hb', hc⟩
  · exact ⟨.inl rfl, fun j hj => absurd hj (Nat.not_lt_zero _)⟩
  · refine ⟨.inr ⟨b, o, rfl, by omega, fun j hj => ?_⟩, fun j hj => ?_⟩
    · obtain ⟨A', c', h1, _⟩ := hc j hj
      have e : rowVal w (some ⟨b, o, none⟩) D.length j = (w.cell? ⟨b, o + j, none⟩).getD (.bool false) := rfl
      rw [e, h1]; rfl
    · obtain ⟨A', c', h1, h2, h3⟩ := hc j hj
      have e : rowVal w (some ⟨b, o, none⟩) D.length j = (w.cell? ⟨b, o + j, none⟩).getD (.bool false) := rfl
      exact ⟨A', c', by rw [e, h1]; rfl, h2, h3⟩

theorem anyB_rows (D : List (List Int)) (p : List Int → Bool) : anyB D.length (fun j => p (D.getD j [])) = D.any p := by
  have : ∀ j, j < D.length → D.getD j [] ∈ D := fun j hj => by grind
  cases h : D.any p with
  | true =>
    obtain ⟨x, hx, hp⟩ := List.any_eq_true.1 h
    obtain ⟨j, hj, rfl⟩ := List.getElem_of_mem hx
    exact any_some hj (by simpa [hj] using hp)
  | false =>
    rw [List.any_eq_false] at h
    exact any_none (fun j hj => by simpa using h _ (this j hj))

theorem notAll_any {base : Nat} {w : World} {A : Option Addr} {xs : List Int} {c : Nat} (h : Lies base w A xs) (hb : base ≤ w.heap.size) (hn : xs.length ≤ 9223372036854775807) :
    Calls Tryz.prog 70 #[.slice A xs.length c] w fun e w' => e = .returned (.bool (!xs.all isLit)) ∧ Below w.heap.size w w' := by
  have AL := areLiterals_any (c := c) h hb hn
  clear h
  generalize xs.all isLit = r at *
  generalize xs.length = n at *
  go_enter Tryz.func70, Tryz.ntmps70
  go_wp2_with fail
  refine AL.mono ?_
  rintro e w' ⟨rfl, B⟩
  have BH : Hid _ := B
  clear AL B
  go_wp2_with fail
  go_ret
  exact ⟨rfl, BH.out⟩

theorem tooLong_any {w : World} {B most : Nat} {A : Option Addr} {n c : Nat} (hc : w.cell? ⟨B, 0, none⟩ = some (.int .i64 (most : Int))) :
    Calls Tryz.prog 69 #[.slice A n c, .pointer (some ⟨B, 0, none⟩)] w fun e w' => e = .returned (.bool (decide (30 < n) && decide (most = 600))) ∧ w = w' := by
  by_cases h1 : 30 < n
  · have g1 : (30 : Int) < (n : Int) := by omega
    by_cases h2 : most = 600
    · subst h2
      go_enter Tryz.func69, Tryz.ntmps69
      go_wp2_with fail
      go_ret
      exact ⟨by simp [h1], rfl⟩
    · have g2 : ((most : Int) == 600) = false := by rw [beq_eq_false_iff_ne]; omega
      go_enter Tryz.func69, Tryz.ntmps69
      go_wp2_with fail
      go_ret
      exact ⟨by simp [h2], rfl⟩
  · have g1 : decide ((30 : Int) < (n : Int)) = false := decide_eq_false (by omega)
    have g3 : (n : Int) ≤ 30 := by omega
    go_enter Tryz.func69, Tryz.ntmps69
    go_wp2_with fail
    go_ret
    exact ⟨by simp [h1], rfl⟩

def checkM (most : Nat) (D : List (List Int)) : Int :=
  if (decide (most < D.length) || D.any fun c => decide (30 < c.length) && decide (most = 600)) = true then 2
  else if (D.any fun c => !c.all isLit) = true then 1 else 0

end Go.Proofs.YtdllaphnkbnpoaaGreat
namespace Go.Proofs.YtdllaphnkbnpoaaGreat
open Go.RowKit Go.Proofs

set_option maxHeartbeats 1000000 in
theorem check_any {base : Nat} {w : World} {A : Option Addr} {D : List (List Int)} {c most : Nat} (h : LiesR base w A D) (hb : base ≤ w.heap.size) (hn : D.length ≤ 9223372036854775807) (hm : ∀ j, j < D.length → (D.getD j []).length ≤ 9223372036854775807) :
    Calls Tryz.prog 57 #[.slice A D.length c, .int .i64 (most : Int)] w fun e w' => e = .returned (.int .i64 (checkM most D)) ∧ Below w.heap.size w w' := by
  have B1 : Hid _ := (Below.refl w.heap.size w).alloc (Nat.le_refl _) (.cells #[.int .i64 (most : Int)] 3)
  have s1 := size_alloc w (.cells #[.int .i64 (most : Int)] 3)
  have h1 := LiesR.below (h.mono hb) B1.out
  have k1 : (w.alloc (.cells #[.int .i64 (most : Int)] 3)).cell? ⟨w.heap.size, 0, none⟩ = some (.int .i64 (most : Int)) := cell_new _ _ _ _ (by simp)
  obtain ⟨w1, hw1⟩ : ∃ w1, w1 = w.alloc (.cells #[.int .i64 (most : Int)] 3) := ⟨_, rfl⟩
  rw [← hw1] at B1 s1 h1 k1
  have HW : Hid _ := hw1
  clear hw1
  have r1 := liesR_rows (h1.mono (base' := w1.heap.size) (by omega)) (Nat.le_refl _)
  have C1 := containsFunc_row (c := c) (lb := #[.pointer (some ⟨w.heap.size, 0, none⟩)]) (b := fun j => (fun c : List Int => decide (30 < c.length) && decide (most = 600)) (D.getD j [])) hn (g := 69) (enters_of Tryz.func69 (by kernel_rfl) rfl) r1.1 (fun j hj W hW => by
    obtain ⟨A', c', e1, _, _⟩ := r1.2 j hj
    rw [e1]
    refine (tooLong_any (B := w.heap.size) (most := most) (by rw [World.cell?_of_block (a := ⟨w.heap.size, 0, none⟩) (hW.block w.heap.size (by omega))]; exact k1)).mono ?_
    rintro e w' ⟨rfl, rfl⟩
    exact ⟨rfl, hW⟩)
  rw [anyB_rows D (fun c : List Int => decide (30 < c.length) && decide (most = 600))] at C1
  have K1 : Hid _ := k1
  have H1 : Hid _ := h1
  have hszw : w1.heap.size = w.heap.size + 1 := s1
  have L2 : ∀ w2, Below w1.heap.size w1 w2 → Calls Tryz.prog 35 #[.slice A D.length c, .func (.func 70) #[] #[]] w2 fun e w' => e = .returned (.bool (D.any fun c => !c.all isLit)) ∧ Below w2.heap.size w2 w' := by
    intro w2 B2
    have h2 := LiesR.below (LiesR.mono H1.out (base' := w1.heap.size) (by omega)) B2
    have r2 := liesR_rows (LiesR.mono h2 (base' := w2.heap.size) B2.size) (Nat.le_refl _)
    have C2 := containsFunc_row (c := c) (lb := #[]) (b := fun j => (fun c : List Int => !c.all isLit) (D.getD j [])) hn (g := 70) (enters_of Tryz.func70 (by kernel_rfl) rfl) r2.1 (fun j hj W hW => by
      obtain ⟨A', c', e1, _, hl⟩ := r2.2 j hj
      rw [e1]
      refine (notAll_any (Lies.below hl hW) hW.size (hm j hj)).mono ?_
      rintro e w' ⟨rfl, B3⟩
      exact ⟨rfl, hW.trans (B3.mono hW.size)⟩)
    rwa [anyB_rows D (fun c : List Int => !c.all isLit)] at C2
  unfold checkM
  generalize (D.any fun c => decide (30 < c.length) && decide (most = 600)) = p1 at *
  generalize (D.any fun c => !c.all isLit) = p2 at *
  generalize D.length = n at *
  clear r1 h1 k1 s1 h hm
  by_cases hl : most < n
  · rw [if_pos (by simp [hl])]
    have g1 : (most : Int) < (n : Int) := by omega
    clear C1 L2
    go_enter Tryz.func57, Tryz.ntmps57
    go_wp2_with fail
    go_ret
    rw [← HW.out]
    exact ⟨rfl, B1.out⟩
  · have g1 : decide ((most : Int) < (n : Int)) = false := decide_eq_false (by omega)
    have g2 : n ≤ most := by omega
    rw [decide_eq_false hl, Bool.false_or]
    clear hl
    cases p1 with
    | true =>
      rw [if_pos rfl]
      clear L2
      go_enter Tryz.func57, Tryz.ntmps57
      go_wp2_with (rw [← HW.out]; refine C1.mono ?_; rintro e w2 ⟨rfl, B2⟩)
      have BE : Hid _ := B1.out.trans (B2.mono (B' := w.heap.size) (by omega))
      clear C1 B2
      go_wp2_with fail
      go_ret
      exact ⟨rfl, BE.out⟩
    | false =>
      rw [if_neg (by simp)]
      have e2 : (if p2 = true then (1 : Int) else 0) = (if p2 = true then 1 else 0) := rfl
      have key : ∀ r : Bool, p2 = r → Calls Tryz.prog 57 #[.slice A n c, .int .i64 (most : Int)] w fun e w' => e = .returned (.int .i64 (if r = true then 1 else 0)) ∧ Below w.heap.size w w' := by
        rintro r rfl
        cases p2 with
        | true =>
          rw [if_pos rfl]
          go_enter Tryz.func57, Tryz.ntmps57
          go_wp2_with (rw [← HW.out]; refine C1.mono ?_; rintro e w2 ⟨rfl, B2⟩)
          refine (L2 w2 B2).mono ?_
          rintro e w3 ⟨rfl, B3⟩
          have BE : Hid _ := (B1.out.trans (B2.mono (B' := w.heap.size) (by omega))).trans (B3.mono (B' := w.heap.size) (by have := B2.size; omega))
          clear C1 B2 B3 L2
          go_wp2_with fail
          go_ret
          exact ⟨rfl, BE.out⟩
        | false =>
          rw [if_neg (by simp)]
          go_enter Tryz.func57, Tryz.ntmps57
          go_wp2_with (rw [← HW.out]; refine C1.mono ?_; rintro e w2 ⟨rfl, B2⟩)
          refine (L2 w2 B2).mono ?_
          rintro e w3 ⟨rfl, B3⟩
          have BE : Hid _ := (B1.out.trans (B2.mono (B' := w.heap.size) (by omega))).trans (B3.mono (B' := w.heap.size) (by have := B2.size; omega))
          clear C1 B2 B3 L2
          go_wp2_with fail
          go_ret
          exact ⟨rfl, BE.out⟩
      exact key p2 rfl

theorem Check_any {base : Nat} {w : World} {A : Option Addr} {D : List (List Int)} {c : Nat} (h : LiesR base w A D) (hb : base ≤ w.heap.size) (hn : D.length ≤ 9223372036854775807) (hm : ∀ j, j < D.length → (D.getD j []).length ≤ 9223372036854775807) :
    Calls Tryz.prog 27 #[.slice A D.length c] w fun e w' => e = .returned (.int .i64 (checkM 600 D)) ∧ Below w.heap.size w w' := by
  have CH := check_any (c := c) (most := 600) h hb hn hm
  clear h hm
  generalize checkM 600 D = r at *
  generalize D.length = n at *
  go_enter Tryz.func27, Tryz.ntmps27
  go_wp2_with fail
  refine CH.mono ?_
  rintro e w' ⟨rfl, B⟩
  have BH : Hid _ := B
  clear CH B
  go_wp2_with fail
  go_ret
  exact ⟨rfl, BH.out⟩

def askedM (D : List (List Int)) (fuel : Int) : Int := if checkM 600 D ≠ 0 then checkM 600 D else if fuel < 1 ∨ 1000000 < fuel then 1 else 0

theorem asked_any {base : Nat} {w : World} {A : Option Addr} {D : List (List Int)} {c : Nat} {fuel : Int} (h : LiesR base w A D) (hb : base ≤ w.heap.size) (hn : D.length ≤ 9223372036854775807) (hm : ∀ j, j < D.length → (D.getD j []).length ≤ 9223372036854775807) :
    Calls Tryz.prog 47 #[.slice A D.length c, .int .i64 fuel] w fun e w' => e = .returned (.int .i64 (askedM D fuel)) ∧ Below w.heap.size w w' := by
  have CH := Check_any (c := c) h hb hn hm
  unfold askedM
  clear h hm
  generalize checkM 600 D = r at *
  generalize D.length = n at *
  by_cases hr : r = 0
  · subst hr
    rw [if_neg (by simp)]
    by_cases h1 : fuel < 1
    · rw [if_pos (.inl h1)]
      go_enter Tryz.func47, Tryz.ntmps47
      go_wp2_with fail
      refine CH.mono ?_
      rintro e w' ⟨rfl, B⟩
      have BH : Hid _ := B
      clear CH B
      go_wp2_with fail
      go_ret
      exact ⟨rfl, BH.out⟩
    · by_cases h2 : 1000000 < fuel
      · rw [if_pos (.inr h2)]
        have h1' : 1 ≤ fuel := by omega
        go_enter Tryz.func47, Tryz.ntmps47
        go_wp2_with fail
        refine CH.mono ?_
        rintro e w' ⟨rfl, B⟩
        have BH : Hid _ := B
        clear CH B
        go_wp2_with fail
        go_ret
        exact ⟨rfl, BH.out⟩
      · rw [if_neg (by omega)]
        have h1' : 1 ≤ fuel := by omega
        have h2' : fuel ≤ 1000000 := by omega
        go_enter Tryz.func47, Tryz.ntmps47
        go_wp2_with fail
        refine CH.mono ?_
        rintro e w' ⟨rfl, B⟩
        have BH : Hid _ := B
        clear CH B
        go_wp2_with fail
        go_ret
        exact ⟨rfl, BH.out⟩
  · rw [if_pos hr]
    have g1 : (r != 0) = true := by simp [hr]
    go_enter Tryz.func47, Tryz.ntmps47
    go_wp2_with fail
    refine CH.mono ?_
    rintro e w' ⟨rfl, B⟩
    have BH : Hid _ := B
    clear CH B
    go_wp2_with fail
    go_ret
    exact ⟨rfl, BH.out⟩

def zeroAnswer : Value := .agg #[.bool false, .slice none 0 0, .slice none 0 0, .int .i64 0]

set_option maxRecDepth 100000 in
theorem results_two {fn : Func} (hfn : fn.results = #[.cell 4 39, .tmp 5]) {W : World} {g : Nat} {cs : List Value} (H : Holds g W (one g cs 39)) (hl : cs.length = 4) (tmps : Array Value) {e : Value} (h4 : tmps.getD 4 undef = .pointer (some ⟨g, 0, none⟩)) (h5 : tmps.getD 5 undef = e) :
    (results fn tmps).run Tryz.prog W = .ok (.tuple #[.agg cs.toArray, e]) W := by
  have hg : W.heap[g]? = some (.cells cs.toArray 39 (0, 0)) := H.holds .st
  have hi : (Tryz.prog.info? 39).map (·.size) = some 4 := by kernel_rfl
  have ha : (asAddr (tmps.getD 4 undef)).run Tryz.prog W = .ok ⟨g, 0, none⟩ W := by rw [h4]; rfl
  rw [results_cell_tmp (p := 4) (u := 5) (ty := 39) hfn, h5, ha]
  show ((loadVar 39 ⟨g, 0, none⟩).run Tryz.prog W).andThen _ = _
  rw [run_loadVar_row W g 39 39 cs.toArray (0, 0) _ hg Tryz.underlying39 rfl (by rw [List.size_toArray, hl]; exact hi)]
  rfl

/-- The result variable is made, and kept by what is called. -/
theorem ans_var (w : World) : ∃ w1, w1 = w.alloc (.cells #[.bool false, .slice none 0 0, .slice none 0 0, .int .i64 0] 39) ∧ w1.heap.size = w.heap.size + 1 ∧ Below w.heap.size w w1 ∧
    ∀ w2, Below w1.heap.size w1 w2 → Holds w.heap.size w2 (one w.heap.size [.bool false, .slice none 0 0, .slice none 0 0, .int .i64 0] 39) := by
  refine ⟨_, rfl, size_alloc .., (Below.refl _ _).alloc (Nat.le_refl _) _, fun w2 B => one_holds ?_⟩
  rw [B.block w.heap.size (by rw [size_alloc]; omega)]
  exact alloc_at _ _

theorem solve_refuses {base : Nat} {w : World} {A : Option Addr} {D : List (List Int)} {c : Nat} {fuel : Int} (h : LiesR base w A D) (hb : base ≤ w.heap.size) (hn : D.length ≤ 9223372036854775807) (hm : ∀ j, j < D.length → (D.getD j []).length ≤ 9223372036854775807) (hr : askedM D fuel ≠ 0) :
    Calls Tryz.prog 16 #[.slice A D.length c, .int .i64 fuel] w fun e w' => e = .returned (.tuple #[zeroAnswer, .int .i64 (askedM D fuel)]) ∧ Below w.heap.size w w' := by
  obtain ⟨w1, hw1, s1, B1, K1⟩ := ans_var w
  have AK := asked_any (c := c) (fuel := fuel) (LiesR.below (h.mono hb) B1) (by omega) hn hm
  have HW : Hid _ := hw1
  have BH : Hid _ := B1
  clear h hm hw1 B1
  unfold zeroAnswer
  generalize askedM D fuel = r at *
  generalize D.length = n at *
  have g1 : (r != 0) = true := by simp [hr]
  go_enter Tryz.func16, Tryz.ntmps16
  go_wp2_with fail
  rw [← HW.out]
  refine AK.mono ?_
  rintro e w2 ⟨rfl, B2⟩
  have K4 := K1 w2 B2
  have k0 := K4.cell (k := .st) rfl 0 rfl
  have k1 := K4.cell (k := .st) rfl 1 rfl
  have k2 := K4.cell (k := .st) rfl 2 rfl
  have k3 := K4.cell (k := .st) rfl 3 rfl
  have f0 := K4.cellFree (k := .st) rfl 0
  have f1 := K4.cellFree (k := .st) rfl 1
  have f2 := K4.cellFree (k := .st) rfl 2
  have f3 := K4.cellFree (k := .st) rfl 3
  have KE : Hid _ := one_set (one_set (one_set (one_set K4 0 (.bool false)) 1 (.slice none 0 0)) 2 (.slice none 0 0)) 3 (.int .i64 0)
  have BE : Hid _ := ((((BH.out.trans (B2.mono (B' := w.heap.size) (by omega))).setCell (p := ⟨w.heap.size, 0, none⟩) (Nat.le_refl _) (.bool false)).setCell (p := ⟨w.heap.size, 1, none⟩) (Nat.le_refl _) (.slice none 0 0)).setCell (p := ⟨w.heap.size, 2, none⟩) (Nat.le_refl _) (.slice none 0 0)).setCell (p := ⟨w.heap.size, 3, none⟩) (Nat.le_refl _) (.int .i64 0)
  clear AK K1 K4 B2
  go_wp2_with fail
  have HR := results_two (fn := Tryz.f16) rfl KE.out rfl
  exact bodyPost_ret (HR _ rfl rfl) rfl ⟨rfl, BE.out⟩

theorem solve_any {base : Nat} {w : World} {A : Option Addr} {D : List (List Int)} {c fuel : Nat} {σ' : S} {r : Int} (h : LiesR base w A D) (hb : base ≤ w.heap.size) (hn : D.length ≤ 9223372036854775807) (hm : ∀ j, j < D.length → (D.getD j []).length ≤ 9223372036854775807) (hr : askedM D fuel = 0)
    (RUN : ∀ w2, LiesR w2.heap.size w2 A D → Calls Tryz.prog 48 #[.slice A D.length c, .int .i64 (fuel : Int)] w2 (RunPost fuel σ' r D w2)) :
    Calls Tryz.prog 16 #[.slice A D.length c, .int .i64 (fuel : Int)] w (RunPost fuel σ' r D w) := by
  obtain ⟨w1, hw1, s1, B1, K1⟩ := ans_var w
  have L1 := LiesR.below (h.mono hb) B1
  have AK := asked_any (c := c) (fuel := (fuel : Int)) L1 (by omega) hn hm
  rw [hr] at AK
  have LH : Hid _ := L1
  have HW : Hid _ := hw1
  have BH : Hid _ := B1
  clear h hm hw1 B1 L1 hr
  go_enter Tryz.func16, Tryz.ntmps16
  go_wp2_with fail
  rw [← HW.out]
  refine AK.mono ?_
  rintro e w2 ⟨rfl, B2⟩
  have RR := RUN w2 ((LiesR.below LH.out (B2.mono (by omega))).mono (by have := B2.size; omega))
  have BB2 : Hid _ := B2
  clear AK B2 RUN
  go_wp2_with fail
  refine RR.mono ?_
  rintro e w3 ⟨B3, alt⟩
  have K4 := K1 w3 (BB2.out.trans (B3.mono BB2.out.size))
  have k0 := K4.cell (k := .st) rfl 0 rfl
  have k1 := K4.cell (k := .st) rfl 1 rfl
  have k2 := K4.cell (k := .st) rfl 2 rfl
  have k3 := K4.cell (k := .st) rfl 3 rfl
  have f0 := K4.cellFree (k := .st) rfl 0
  have f1 := K4.cellFree (k := .st) rfl 1
  have f2 := K4.cellFree (k := .st) rfl 2
  have f3 := K4.cellFree (k := .st) rfl 3
  have hlt2 : w.heap.size < w2.heap.size := by have := BB2.out.size; omega
  have B4 : Hid _ := (BH.out.trans (BB2.out.mono (B' := w.heap.size) (by omega))).trans (B3.mono (B' := w.heap.size) (by omega))
  clear RR B3 K1
  rcases alt with ⟨hc, rfl⟩ | ⟨rfl, hle, p, μ, rfl, HX, GX⟩ | ⟨rfl, hle, L, v, rfl, HX, hL⟩
  · have KE : Hid _ := one_set (one_set (one_set (one_set K4 0 (.bool false)) 1 (.slice none 0 0)) 2 (.slice none 0 0)) 3 (.int .i64 0)
    have BE : Hid _ := (((B4.out.setCell (p := ⟨w.heap.size, 0, none⟩) (Nat.le_refl _) (.bool false)).setCell (p := ⟨w.heap.size, 1, none⟩) (Nat.le_refl _) (.slice none 0 0)).setCell (p := ⟨w.heap.size, 2, none⟩) (Nat.le_refl _) (.slice none 0 0)).setCell (p := ⟨w.heap.size, 3, none⟩) (Nat.le_refl _) (.int .i64 0)
    have HC : Hid _ := hc
    clear K4 hc
    go_wp2_with fail
    have HR := results_two (fn := Tryz.f16) rfl KE.out rfl
    exact bodyPost_ret (HR _ rfl rfl) rfl ⟨BE.out, .inl ⟨HC.out, rfl⟩⟩
  · have KE : Hid _ := one_set (one_set (one_set (one_set K4 0 (.bool false)) 1 (.slice none 0 0)) 2 (.slice (ad μ.log) σ'.log.length (cp μ.log))) 3 (.int .i64 ((max 1 σ'.steps : Nat) : Int))
    have BE : Hid _ := (((B4.out.setCell (p := ⟨w.heap.size, 0, none⟩) (Nat.le_refl _) (.bool false)).setCell (p := ⟨w.heap.size, 1, none⟩) (Nat.le_refl _) (.slice none 0 0)).setCell (p := ⟨w.heap.size, 2, none⟩) (Nat.le_refl _) (.slice (ad μ.log) σ'.log.length (cp μ.log))).setCell (p := ⟨w.heap.size, 3, none⟩) (Nat.le_refl _) (.int .i64 ((max 1 σ'.steps : Nat) : Int))
    have HF : Hid _ := ((((HX.low hlt2 0 (.bool false)).low hlt2 1 (.slice none 0 0)).low hlt2 2 (.slice (ad μ.log) σ'.log.length (cp μ.log))).low hlt2 3 (.int .i64 ((max 1 σ'.steps : Nat) : Int))).down (base' := w.heap.size) (by omega)
    clear K4 HX
    generalize hst : max 1 σ'.steps = st at *
    have HS : Hid _ := hst
    clear hst
    go_wp2_with fail
    have HR := results_two (fn := Tryz.f16) rfl KE.out rfl
    refine bodyPost_ret (HR _ rfl rfl) rfl ⟨BE.out, .inr (.inl ⟨rfl, by rw [HS.out]; exact hle, p, μ, by rw [HS.out]; rfl, HF.out, GX⟩)⟩
  · have KE : Hid _ := one_set (one_set (one_set (one_set K4 0 (.bool true)) 1 (.slice (ad v) (truesOf σ' D).length (cp v))) 2 (.slice none 0 0)) 3 (.int .i64 ((max 1 σ'.steps : Nat) : Int))
    have BE : Hid _ := (((B4.out.setCell (p := ⟨w.heap.size, 0, none⟩) (Nat.le_refl _) (.bool true)).setCell (p := ⟨w.heap.size, 1, none⟩) (Nat.le_refl _) (.slice (ad v) (truesOf σ' D).length (cp v))).setCell (p := ⟨w.heap.size, 2, none⟩) (Nat.le_refl _) (.slice none 0 0)).setCell (p := ⟨w.heap.size, 3, none⟩) (Nat.le_refl _) (.int .i64 ((max 1 σ'.steps : Nat) : Int))
    have HF : Hid _ := ((((HX.low hlt2 0 (.bool true)).low hlt2 1 (.slice (ad v) (truesOf σ' D).length (cp v))).low hlt2 2 (.slice none 0 0)).low hlt2 3 (.int .i64 ((max 1 σ'.steps : Nat) : Int))).down (base' := w.heap.size) (by omega)
    clear K4 HX
    generalize hst : max 1 σ'.steps = st at *
    have HS : Hid _ := hst
    clear hst
    go_wp2_with fail
    have HR := results_two (fn := Tryz.f16) rfl KE.out rfl
    refine bodyPost_ret (HR _ rfl rfl) rfl ⟨BE.out, .inr (.inr ⟨rfl, by rw [HS.out]; exact hle, L, v, by rw [HS.out]; rfl, HF.out, hL⟩)⟩
end Go.Proofs.YtdllaphnkbnpoaaGreat
