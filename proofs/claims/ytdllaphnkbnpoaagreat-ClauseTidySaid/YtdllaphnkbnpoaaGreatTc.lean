/- Walks for ClauseTidy: slices.CompareFunc, the comparison of rows, shorter. -/
import Derived.Test.YtdllaphnkbnpoaaGreatTb
namespace Go.Proofs.YtdllaphnkbnpoaaGreat
open Go.RowKit Go.Proofs

/-- Nothing turns: draws and new blocks alone. -/
def Grown (w w' : World) : Prop := ∃ q os, w' = Go.Sort.grow (w.drewN q) os
theorem Grown.refl (w : World) : Grown w w := ⟨0, #[], by rw [Go.Sort.grow_empty]; rfl⟩
theorem Grown.trans {a b c : World} (h1 : Grown a b) (h2 : Grown b c) : Grown a c := by
  obtain ⟨q1, o1, rfl⟩ := h1
  obtain ⟨q2, o2, rfl⟩ := h2
  refine ⟨q1 + q2, o1 ++ o2, ?_⟩
  show Go.Sort.grow (Go.Sort.grow ((a.drewN q1).drewN q2) o1) o2 = _
  rw [Go.Sort.grow_grow]
  congr 1
  show World.drewN (World.drewN a q1) q2 = _
  unfold World.drewN
  simp [Nat.add_comm, Nat.add_left_comm]
theorem Grown.alloc (w : World) (o : Obj) : Grown w (w.alloc o) := ⟨0, #[o], alloc_grow w o⟩
theorem Grown.drewN (w : World) (n : Nat) : Grown w (w.drewN n) := ⟨n, #[], by rw [Go.Sort.grow_empty]⟩
theorem Grown.below {w w' : World} (h : Grown w w') : Below w.heap.size w w' := by
  obtain ⟨q, os, rfl⟩ := h
  exact (below_drewN_ (Below.refl _ _) q).grown (grownBy_grow _ os) (Nat.le_refl _) (fun b hb => by cases hb)

/-- What slices.CompareFunc answers, by variables. -/
def lexC : List Int → List Int → Int
  | x :: a, y :: b => if bvM x y ≠ 0 then bvM x y else lexC a b
  | [], _ :: _ => -1
  | _ :: _, [] => 1
  | [], [] => 0

def LexRel (w : World) (a b : List Int) (T : Int) (k : Nat) (x13 : Value) (wr : World) : Prop :=
  ∃ i : Nat, x13 = .int .i64 (i : Int) ∧ k + i = a.length ∧ Grown w wr ∧ i ≤ b.length ∧ lexC (a.drop i) (b.drop i) = T

theorem drop_getD0 {l : List Int} {i : Nat} (h : i < l.length) : l.drop i = l.getD i 0 :: l.drop (i + 1) := by
  rw [List.drop_eq_getElem_cons h]; simp [h]

set_option maxRecDepth 100000 in
set_option maxHeartbeats 2000000 in
theorem cmpFunc_any {w : World} {A A' : Option Addr} {a b : List Int} {c c' g : Nat} (hn : a.length ≤ 9223372036854775807) (hn2 : b.length ≤ 9223372036854775807) (eg : ∀ args w, (callFunc g args).run Tryz.prog w = .ok (.enter g args) w)
    (h : Lies w.heap.size w A a) (h2 : Lies w.heap.size w A' b) (hp : ∀ x ∈ a, ∀ y ∈ b, ∀ W, Calls Tryz.prog g (#[.int .i64 x, .int .i64 y] ++ #[]) W fun e w' => e = .returned (.int .i64 (bvM x y)) ∧ Grown W w') :
    Calls Tryz.prog 33 #[.slice A a.length c, .slice A' b.length c', .func (.func g) #[] #[]] w fun e w' => e = .returned (.int .i64 (lexC a b)) ∧ Grown w w' := by
  have start : Hid (LexRel w a b (lexC a b) a.length (.int .i64 ((0 : Nat) : Int)) w) := ⟨0, rfl, by omega, Grown.refl _, Nat.zero_le _, by simp⟩
  have HH : Hid _ := h
  have H2 : Hid _ := h2
  have PP : Hid _ := hp
  generalize lexC a b = T at *
  clear h h2 hp
  go_enter Tryz.func33, Tryz.ntmps33
  go_wp2_with fail
  go_loopg [13] a.length (fun k x13 wr => LexRel w a b T k x13 wr)
  case atStart => exact start.out
  case round =>
    clear start
    obtain ⟨i, rfl, hki, G, hib, hT⟩ := hrel
    by_cases hlt : i < a.length
    · obtain ⟨p, o, rfl, hpp, hc⟩ := lies_at (Lies.below HH.out G.below) hlt
      have e1 := hc i hlt
      rw [drop_getD0 hlt] at hT
      by_cases hlb : i < b.length
      · obtain ⟨p2, o2, rfl, hpp2, hc2⟩ := lies_at (Lies.below H2.out G.below) hlb
        have e2 := hc2 i hlb
        rw [drop_getD0 hlb] at hT
        have CC := PP.out _ (row_ne a 0 hlt) _ (row_ne b 0 hlb) wr
        unfold lexC at hT
        clear hc hc2
        generalize a.getD i 0 = x at *
        generalize b.getD i 0 = y at *
        generalize bvM x y = r at *
        have GH : Hid (Grown w wr) := G
        have g0 : decide (b.length ≤ i) = false := decide_eq_false (by omega)
        have g00 : (i : Int) < (b.length : Int) := by omega
        by_cases hr : r = 0
        · rw [if_neg (by simp [hr])] at hT
          have TH : Hid _ := hT
          have g1 : (r != 0) = false := by simp [hr]
          clear hT G hr hib
          go_wp2_with (go_at_fn g; refine CC.mono ?_; rintro e w' ⟨rfl, hb'⟩)
          have G2 : Hid (Grown w w') := GH.out.trans hb'
          clear CC hb'
          go_roundg (gk - 1)
          case measure => omega
          case rel => exact ⟨i + 1, by go_num, by omega, G2.out, by omega, TH.out⟩
        · rw [if_pos hr] at hT
          have TH : Hid _ := hT
          have g1 : (r != 0) = true := by simp [hr]
          clear hT G hr hib
          go_wp2_with (go_at_fn g; refine CC.mono ?_; rintro e w' ⟨rfl, hb'⟩)
          have G2 : Hid (Grown w w') := GH.out.trans hb'
          clear CC hb'
          go_ret
          exact ⟨by rw [← TH.out]; rfl, G2.out⟩
      · have hnil : b.drop i = [] := List.drop_eq_nil_of_le (by omega)
        rw [hnil] at hT
        have TH : Hid (1 = T) := hT
        have GH : Hid (Grown w wr) := G
        have g0 : decide (b.length ≤ i) = true := decide_eq_true (by omega)
        have g00 : (b.length : Int) ≤ (i : Int) := by omega
        clear hT hnil G hc hlb
        go_wp2_with fail
        go_ret
        exact ⟨by rw [← TH.out]; rfl, GH.out⟩
    · have hnil : a.drop i = [] := List.drop_eq_nil_of_le (by omega)
      rw [hnil] at hT
      have hge : decide (i < a.length) = false := decide_eq_false (by omega)
      have hge2 : a.length ≤ i := by omega
      have GH : Hid (Grown w wr) := G
      by_cases hlb : a.length < b.length
      · rw [drop_getD0 (by omega)] at hT
        have TH : Hid (-1 = T) := hT
        have g0 : (a.length : Int) < (b.length : Int) := by omega
        clear hT hnil G hlt hib
        go_wp2_with fail
        go_ret
        exact ⟨by rw [← TH.out]; rfl, GH.out⟩
      · have hnil2 : b.drop i = [] := List.drop_eq_nil_of_le (by omega)
        rw [hnil2] at hT
        have TH : Hid (0 = T) := hT
        have g0 : decide (a.length < b.length) = false := decide_eq_false (by omega)
        have g00 : b.length ≤ a.length := by omega
        clear hT hnil hnil2 G hlt hib hlb
        go_wp2_with fail
        go_ret
        exact ⟨by rw [← TH.out]; rfl, GH.out⟩

/-- What Tidy's comparison of rows answers. -/
def cmpR (a b : List Int) : Int := if Lib.compareInt (a.length : Int) (b.length : Int) ≠ 0 then Lib.compareInt (a.length : Int) (b.length : Int) else lexC a b

theorem lexC_lt : ∀ {a b : List Int}, a.length = b.length → decide (lexC a b < 0) = lexB a b
  | [], [], _ => rfl
  | [], _ :: _, h => by simp at h
  | _ :: _, [], h => by simp at h
  | x :: a, y :: b, h => by
    unfold lexC lexB
    have e := bvM_lt x y
    have e2 := bvM_lt y x
    by_cases hxy : x = y
    · subst hxy
      have hz : bvM x x = 0 := by
        unfold bvM
        have e1 := cmp_eq (x.natAbs : Int) (x.natAbs : Int)
        have e3 := cmp_eq x x
        rw [if_neg (by omega), if_neg (by omega)] at e1 e3
        rw [if_neg (by simp [e1]), e3]
      rw [if_pos rfl, if_neg (by simp [hz])]
      exact lexC_lt (by simpa using h)
    · rw [if_neg hxy]
      have hz : bvM x y ≠ 0 := by
        unfold bvM
        have e1 := cmp_eq (x.natAbs : Int) (y.natAbs : Int)
        have e3 := cmp_eq y x
        split
        · assumption
        · rename_i q
          have q : Lib.compareInt (x.natAbs : Int) (y.natAbs : Int) = 0 := Decidable.not_not.1 q
          rw [e3]
          by_cases h1 : y < x
          · rw [if_pos h1]; decide
          · rw [if_neg h1, if_pos (by omega)]; decide
      rw [if_pos hz]
      exact e
theorem cmpR_lt (a b : List Int) : decide (cmpR a b < 0) = rowB a b := by
  have e := cmp_eq (a.length : Int) (b.length : Int)
  unfold cmpR rowB
  by_cases h : a.length = b.length
  · rw [if_neg (by omega), if_neg (by omega)] at e
    rw [if_neg (by simp [e]), if_pos h]
    exact lexC_lt h
  · rw [if_neg h]
    by_cases h1 : a.length < b.length
    · rw [if_pos (by omega)] at e
      rw [if_pos (by rw [e]; decide), e, decide_eq_true h1]; rfl
    · rw [if_neg (by omega), if_pos (by omega)] at e
      rw [if_pos (by rw [e]; decide), e, decide_eq_false h1]; rfl

theorem tidy1_any {w : World} {A A' : Option Addr} {a b : List Int} {c c' : Nat} (hn : a.length ≤ 9223372036854775807) (hn2 : b.length ≤ 9223372036854775807) (h : Lies w.heap.size w A a) (h2 : Lies w.heap.size w A' b) (ha : ∀ x ∈ a, -60000 ≤ x ∧ x ≤ 60000) (hb : ∀ x ∈ b, -60000 ≤ x ∧ x ≤ 60000) :
    Calls Tryz.prog 30 #[.slice A a.length c, .slice A' b.length c'] w fun e w' => e = .returned (.int .i64 (cmpR a b)) ∧ Grown w w' := by
  have K1 := Tryz.cmp_Compare_int (a.length : Int) (b.length : Int) w
  have K2 := cmpFunc_any (c := c) (c' := c') hn hn2 (g := 34) (enters_of Tryz.func34 (by kernel_rfl) rfl) h h2 (fun x hx y hy W => (bv_any (ha x hx) (hb y hy) W).mono (fun e w' hh => ⟨hh.1, by rw [hh.2]; exact Grown.alloc _ _⟩))
  unfold cmpR
  generalize Lib.compareInt (a.length : Int) (b.length : Int) = p at *
  generalize lexC a b = q at *
  have O : ∀ W : World, Calls Tryz.prog 31 #[.slice (some ⟨W.heap.size, 0, none⟩) 2 2] (W.alloc (.cells #[.int .i64 p, .int .i64 q] 3)) fun e w' => e = .returned (.int .i64 (if p ≠ 0 then p else q)) ∧ w' = W.alloc (.cells #[.int .i64 p, .int .i64 q] 3) := fun W =>
    or_any (w := W.alloc (.cells #[.int .i64 p, .int .i64 q] 3)) (g := W.heap.size) (a := p) (b := q) (r := if p ≠ 0 then p else q) (by simp) (by simp) (fun h => if_pos h) (fun h => if_neg (by simp [h]))
  generalize (if p ≠ 0 then p else q) = r at *
  clear h h2 ha hb
  go_enter Tryz.func30, Tryz.ntmps30
  go_wp2_with fail
  refine K1.mono ?_
  rintro e w' ⟨rfl, rfl⟩
  clear K1
  go_wp2_with fail
  refine K2.mono ?_
  rintro e w2 ⟨rfl, G⟩
  have GH : Hid (Grown w' w2) := G
  have o := O w2
  clear K2 G O
  go_wp2_with fail
  refine o.mono ?_
  rintro e w3 ⟨rfl, rfl⟩
  clear o
  go_wp2_with fail
  go_ret
  exact ⟨rfl, GH.out.trans (Grown.alloc _ _)⟩

def ShRel (w : World) (a b : List Int) (T : Bool) (k : Nat) (x5 : Value) (wr : World) : Prop :=
  ∃ i : Nat, x5 = .int .i64 (i : Int) ∧ k + i = a.length ∧ Below w.heap.size w wr ∧ lexB (a.drop i) (b.drop i) = T

set_option maxRecDepth 100000 in
set_option maxHeartbeats 2000000 in
theorem shorter_any {w : World} {A A' : Option Addr} {a b : List Int} {c c' : Nat} (hn : a.length ≤ 9223372036854775807) (hn2 : b.length ≤ 9223372036854775807) (h : Lies w.heap.size w A a) (h2 : Lies w.heap.size w A' b) (ha : ∀ x ∈ a, -60000 ≤ x ∧ x ≤ 60000) (hb : ∀ x ∈ b, -60000 ≤ x ∧ x ≤ 60000) :
    Calls Tryz.prog 39 #[.slice A a.length c, .slice A' b.length c'] w fun e w' => e = .returned (.bool (rowB a b)) ∧ Below w.heap.size w w' := by
  unfold rowB
  by_cases hab : a.length = b.length
  · rw [if_pos hab]
    have g0 : ((a.length : Int) != (b.length : Int)) = false := by simp [hab]
    have start : Hid (ShRel w a b (lexB a b) a.length (.int .i64 ((0 : Nat) : Int)) w) := ⟨0, rfl, by omega, Below.refl _ _, by simp⟩
    have HH : Hid _ := h
    have H2 : Hid _ := h2
    have LA : Hid _ := ha
    have LB : Hid _ := hb
    have AB : Hid _ := hab
    generalize lexB a b = T at *
    clear h h2 ha hb hab
    go_enter Tryz.func39, Tryz.ntmps39
    go_wp2_with fail
    go_loopg [5] a.length (fun k x5 wr => ShRel w a b T k x5 wr)
    case atStart => exact start.out
    case round =>
      clear start
      obtain ⟨i, rfl, hki, B, hT⟩ := hrel
      by_cases hlt : i < a.length
      · have hlb : i < b.length := by have := AB.out; omega
        obtain ⟨p, o, rfl, hpp, hc⟩ := lies_at (Lies.below HH.out B) hlt
        have e1 := hc i hlt
        obtain ⟨p2, o2, rfl, hpp2, hc2⟩ := lies_at (Lies.below H2.out B) hlb
        have e2 := hc2 i hlb
        rw [drop_getD0 hlt, drop_getD0 hlb] at hT
        have hx := LA.out _ (row_ne a 0 hlt)
        have hy := LB.out _ (row_ne b 0 hlb)
        unfold lexB at hT
        have BH : Hid _ := B
        clear hc hc2 B
        generalize a.getD i 0 = x at *
        generalize b.getD i 0 = y at *
        obtain ⟨hx0, hx1⟩ := hx
        obtain ⟨hy0, hy1⟩ := hy
        by_cases hxy : x = y
        · subst hxy
          rw [if_pos rfl] at hT
          have TH : Hid _ := hT
          clear hT
          go_wp2_with fail
          go_quiet (fail)
          go_wp2_with fail
          go_roundg (gk - 1)
          case measure => omega
          case rel => exact ⟨i + 1, by go_num, by omega, below_drewN_ BH.out _, TH.out⟩
        · rw [if_neg hxy] at hT
          have BQ : ∀ W, Calls Tryz.prog 46 #[.int .i64 x, .int .i64 y] W fun e w' => e = .returned (.bool T) ∧ w' = W := fun W => before_q hT W hx0 hx1 hy0 hy1
          have g1 : (x != y) = true := by simp [hxy]
          clear hT hxy
          go_wp2_with fail
          go_quiet (fail)
          have BH2 : Hid _ := below_drewN_ BH.out nq
          have e3 : (wr.drewN nq).cell? ⟨p, o + i, none⟩ = some (.int .i64 x) := e1
          have e4 : (wr.drewN nq).cell? ⟨p2, o2 + i, none⟩ = some (.int .i64 y) := e2
          generalize wr.drewN nq = w3 at *
          clear BH e1 e2
          go_wp2_with fail
          go_quiet ((go_at_call 46; exact Calls.quiet_of_same (BQ _)))
          go_wp2_with fail
          go_ret
          exact ⟨rfl, below_drewN_ BH2.out _⟩
      · have hnil : a.drop i = [] := List.drop_eq_nil_of_le (by omega)
        rw [hnil] at hT
        have hge : decide (i < a.length) = false := decide_eq_false (by omega)
        have hge2 : a.length ≤ i := by omega
        have BH : Hid _ := B
        have TH : Hid (false = T) := by rw [← hT]; cases b.drop i <;> rfl
        clear hT hnil B hlt
        go_wp2_with fail
        go_ret
        exact ⟨by rw [← TH.out]; rfl, BH.out⟩
  · rw [if_neg hab]
    have g0 : ((a.length : Int) != (b.length : Int)) = true := by rw [bne_iff_ne]; omega
    clear h h2 ha hb
    by_cases hl : a.length < b.length
    · rw [decide_eq_true hl]
      have g1 : (a.length : Int) < (b.length : Int) := by omega
      clear hab
      go_enter Tryz.func39, Tryz.ntmps39
      go_wp2_with fail
      go_ret
      exact ⟨rfl, Below.refl _ _⟩
    · rw [decide_eq_false hl]
      have g1 : (b.length : Int) ≤ (a.length : Int) := by omega
      have g2 : decide (a.length < b.length) = false := decide_eq_false hl
      clear hab hl
      go_enter Tryz.func39, Tryz.ntmps39
      go_wp2_with fail
      go_ret
      exact ⟨rfl, Below.refl _ _⟩
end Go.Proofs.YtdllaphnkbnpoaaGreat
