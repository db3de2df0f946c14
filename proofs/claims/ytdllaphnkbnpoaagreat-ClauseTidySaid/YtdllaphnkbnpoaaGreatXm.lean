/- Walks for ClauseTidy: Has, holds, twice of the reference; Contains, twice, the comparison by variables of package clause. -/
import Derived.Test.YtdllaphnkbnpoaaGreatWy
import Derived.Test.YtdllaphnkbnpoaaGreatWz
import Derived.BigQuiet
import Derived.Test.YtdllaphnkbnpoaaGreatShelf
import Derived.Shelf.SlSortCmp.NoneTotal
import Derived.Maps.RangeWalk
import Derived.OwnWalk
namespace Go.Proofs.YtdllaphnkbnpoaaGreat
open Go.RowKit Go.Proofs Go.MapKept

theorem ins_sub {out : List Int} {x y : Int} (h : y ∈ insM out x) : y ∈ out ∨ y = x := by
  unfold insM at h
  split at h
  · exact .inl h
  · rcases List.mem_append.1 h with h | h
    · rcases List.mem_append.1 h with h | h
      · exact .inl (List.mem_of_mem_take h)
      · rw [List.mem_singleton] at h; exact .inr h
    · exact .inl (List.mem_of_mem_drop h)
theorem ins_sup {out : List Int} {x y : Int} (h : y ∈ out ∨ y = x) : y ∈ insM out x := by
  unfold insM
  split
  · rename_i c
    rcases h with h | h
    · exact h
    · rw [h, ← c.2]; exact row_ne out 0 c.1
  · rcases h with h | h
    · have := List.take_append_drop (posM x out) out
      rw [← this] at h
      rcases List.mem_append.1 h with h | h
      · simp [h]
      · simp [h]
    · simp [h]
theorem sorted_mem : ∀ (l out : List Int) (y : Int), y ∈ l.foldl insM out ↔ y ∈ out ∨ y ∈ l
  | [], out, y => by simp
  | x :: l, out, y => by
    rw [List.foldl_cons, sorted_mem l (insM out x) y]
    constructor
    · rintro (h | h)
      · rcases ins_sub h with h | h
        · exact .inl h
        · right; simp [h]
      · right; simp [h]
    · rintro (h | h)
      · exact .inl (ins_sup (.inl h))
      · rcases List.mem_cons.1 h with h | h
        · exact .inl (ins_sup (.inr h))
        · exact .inr h
theorem refVars_mem {D : List (List Int)} {y : Int} : y ∈ refVars D ↔ ∃ e ∈ D, ∃ x ∈ e, y = (x.natAbs : Int) := by
  unfold refVars sortedM
  rw [sorted_mem]
  constructor
  · rintro (h | h)
    · simp at h
    · obtain ⟨e, he, hx⟩ := List.mem_flatMap.1 h
      obtain ⟨x, hx2, rfl⟩ := List.mem_map.1 hx
      exact ⟨e, he, x, hx2, rfl⟩
  · rintro ⟨e, he, x, hx, rfl⟩
    exact .inr (List.mem_flatMap.2 ⟨e, he, List.mem_map.2 ⟨x, hx, rfl⟩⟩)

theorem lit_of_ref {D : List (List Int)} (h : refM D = 0) : ∀ e ∈ D, ∀ x ∈ e, x ≠ 0 ∧ x.natAbs ≤ 200 := by
  have h2 : (D.all fun c => c.all isLit) = true := by
    unfold refM at h
    split at h
    · omega
    · split at h
      · omega
      · split at h
        · omega
        · rename_i q; simpa using q
  intro e he x hx
  have := List.all_eq_true.1 (List.all_eq_true.1 h2 e he) x hx
  unfold isLit at this
  have := of_decide_eq_true this
  omega

theorem ins_strict {out : List Int} {x : Int} (hx : 0 ≤ x) (h0 : ∀ y ∈ out, 0 ≤ y) (h : out.Pairwise (· < ·)) : (insM out x).Pairwise (· < ·) := by
  have hb : ∀ y ∈ out, bef y x = decide (y < x) := by
    intro y hy
    have := h0 y hy
    unfold bef
    split
    · rw [Bool.eq_iff_iff, decide_eq_true_iff, decide_eq_true_iff]; omega
    · rw [Bool.eq_iff_iff, decide_eq_true_iff, decide_eq_true_iff]; omega
  have hpl := posM_le x out
  have key : ∀ j, posM x out ≤ j → j < out.length → out.getD j 0 ≥ x := by
    intro j hj hjl
    have hs := posM_stop x out (by omega)
    rw [hb _ (row_ne out 0 (by omega))] at hs
    have hs := of_decide_eq_false hs
    rcases Nat.lt_or_ge (posM x out) j with q | q
    · have := List.pairwise_iff_getElem.1 h (posM x out) j (by omega) hjl q
      have e1 : out.getD j 0 = out[j] := by simp [hjl]
      have e2 : out.getD (posM x out) 0 = out[posM x out]'(by omega) := by simp [show posM x out < out.length by omega]
      omega
    · have : j = posM x out := by omega
      rw [this]; omega
  unfold insM
  split
  · exact h
  · rename_i c
    have low : ∀ a ∈ out.take (posM x out), a < x := by
      intro a ha
      obtain ⟨j, hj, rfl⟩ := List.getElem_of_mem ha
      rw [List.length_take] at hj
      have hbj := posM_bef x out j (by omega)
      rw [hb _ (row_ne out 0 (by omega))] at hbj
      have hbj := of_decide_eq_true hbj
      have e1 : out.getD j 0 = out[j]'(by omega) := by simp [show j < out.length by omega]
      rw [List.getElem_take]; omega
    have high : ∀ a ∈ out.drop (posM x out), x < a := by
      intro a ha
      obtain ⟨j, hj, rfl⟩ := List.getElem_of_mem ha
      rw [List.length_drop] at hj
      have h1 := key (posM x out) (Nat.le_refl _) (by omega)
      have hne : out.getD (posM x out) 0 ≠ x := fun e => c ⟨by omega, e⟩
      rw [List.getElem_drop]
      cases j with
      | zero =>
        have e1 : out.getD (posM x out) 0 = out[posM x out + 0]'(by omega) := by simp [show posM x out < out.length by omega]
        omega
      | succ j =>
        have := List.pairwise_iff_getElem.1 h (posM x out) (posM x out + (j + 1)) (by omega) (by omega) (by omega)
        have e1 : out.getD (posM x out) 0 = out[posM x out]'(by omega) := by simp [show posM x out < out.length by omega]
        omega
    rw [List.pairwise_append, List.pairwise_append]
    refine ⟨⟨h.sublist (List.take_sublist _ _), by simp, fun a ha b hb => ?_⟩, h.sublist (List.drop_sublist _ _), fun a ha b hb => ?_⟩
    · rw [List.mem_singleton] at hb; rw [hb]; exact low a ha
    · have hbx := high b hb
      rcases List.mem_append.1 ha with z | z
      · have := low a z; omega
      · rw [List.mem_singleton] at z; omega

theorem fold_strict : ∀ (l out : List Int), (∀ x ∈ l, 0 ≤ x) → (∀ y ∈ out, 0 ≤ y) → out.Pairwise (· < ·) → (l.foldl insM out).Pairwise (· < ·)
  | [], _, _, _, h => h
  | x :: l, out, h1, h2, h => by
    rw [List.foldl_cons]
    refine fold_strict l (insM out x) (fun y hy => h1 y (by simp [hy])) (fun y hy => ?_) (ins_strict (h1 x (by simp)) h2 h)
    rcases ins_sub hy with z | z
    · exact h2 y z
    · rw [z]; exact h1 x (by simp)

theorem refVars_strict (D : List (List Int)) : (refVars D).Pairwise (· < ·) := by
  unfold refVars sortedM
  refine fold_strict _ [] (fun x hx => ?_) (fun y hy => by cases hy) List.Pairwise.nil
  obtain ⟨e, _, hx2⟩ := List.mem_flatMap.1 hx
  obtain ⟨y, _, rfl⟩ := List.mem_map.1 hx2
  omega

theorem strict_ext : ∀ {a b : List Int}, a.Pairwise (· < ·) → b.Pairwise (· < ·) → (∀ x, x ∈ a ↔ x ∈ b) → a = b
  | [], [], _, _, _ => rfl
  | [], y :: b, _, _, h => by have := (h y).2 (by simp); cases this
  | x :: a, [], _, _, h => by have := (h x).1 (by simp); cases this
  | x :: a, y :: b, ha, hb, h => by
    rw [List.pairwise_cons] at ha hb
    have hxy : x = y := by
      rcases List.mem_cons.1 ((h x).1 (by simp)) with q | q
      · exact q
      · rcases List.mem_cons.1 ((h y).2 (by simp)) with p | p
        · exact p.symm
        · have := hb.1 x q; have := ha.1 y p; omega
    subst hxy
    rw [strict_ext ha.2 hb.2 (fun z => ?_)]
    constructor
    · intro hz
      rcases List.mem_cons.1 ((h z).1 (by simp [hz])) with q | q
      · have := ha.1 z hz; omega
      · exact q
    · intro hz
      rcases List.mem_cons.1 ((h z).2 (by simp [hz])) with q | q
      · have := hb.1 z hz; omega
      · exact q

theorem vars_same (D : List (List Int)) : varsOf D = refVars D := by
  refine strict_ext (varsOf_strict D) (refVars_strict D) (fun x => ?_)
  constructor
  · intro h
    obtain ⟨e, he, y, hy, rfl⟩ := mem_varsOf h
    exact refVars_mem.2 ⟨e, he, y, hy, rfl⟩
  · intro h
    obtain ⟨e, he, y, hy, rfl⟩ := refVars_mem.1 h
    exact varsOf_has he hy

theorem contains_yes {xs : List Int} {x : Int} {i : Nat} (hi : i < xs.length) (h : xs.getD i 0 = x) : xs.contains x = true := by
  have := row_ne xs 0 hi
  rw [h] at this
  simpa using this
theorem contains_no {xs : List Int} {x : Int} (h : ∀ j, j < xs.length → xs.getD j 0 ≠ x) : xs.contains x = false := by
  cases e : xs.contains x with
  | false => rfl
  | true =>
    exfalso
    have hm : x ∈ xs := by simpa using e
    obtain ⟨j, hj, rfl⟩ := List.getElem_of_mem hm
    exact h j hj (by simp [hj])

set_option maxHeartbeats 1000000 in
theorem has_any {base : Nat} {w : World} {A : Option Addr} {xs : List Int} {c : Nat} {x : Int} (h : Lies base w A xs) (hn : xs.length ≤ 9223372036854775807) :
    Calls Tryz.prog 26 #[.slice A xs.length c, .int .i64 x] w fun e w' => e = .returned (.bool (xs.contains x)) ∧ w' = w := by
  have start : Hid (CntRel w xs.length (fun j => xs.getD j 0 ≠ x) xs.length (.int .i64 ((0 : Nat) : Int)) w) := ⟨0, rfl, by omega, rfl, fun j hj => absurd hj (Nat.not_lt_zero _)⟩
  have HH : Hid _ := h
  clear h
  go_enter Tryz.func26, Tryz.ntmps26
  go_wp2_with fail
  go_loopg [5] xs.length (fun k x5 wr => CntRel w xs.length (fun j => xs.getD j 0 ≠ x) k x5 wr)
  case atStart => exact start.out
  case round =>
    clear start
    obtain ⟨i, rfl, hki, rfl, hall⟩ := hrel
    by_cases hlt : i < xs.length
    · obtain ⟨b, o, rfl, _, hc⟩ := lies_at HH.out hlt
      have e1 := hc i hlt
      have YES : Hid (xs.getD i 0 = x → xs.contains x = true) := contains_yes hlt
      have NO : Hid (xs.getD i 0 ≠ x → ∀ j, j < i + 1 → xs.getD j 0 ≠ x) := fun h j hj => by
        rcases Nat.lt_or_ge j i with q | q
        · exact hall j q
        · have : j = i := by omega
          subst this; exact h
      clear hall hc
      generalize xs.getD i 0 = y at *
      by_cases hy : y = x
      · have hT : Hid _ := YES.out hy
        subst hy
        clear YES NO
        go_wp2_with fail
        go_ret
        exact ⟨by rw [hT.out]; rfl, rfl⟩
      · have g0 : (y == x) = false := by simp [hy]
        have hT : Hid _ := NO.out hy
        clear YES NO hy
        go_wp2_with fail
        go_roundg (gk - 1)
        case measure => omega
        case rel => exact ⟨i + 1, by go_num, by omega, rfl, hT.out⟩
    · have hge : decide (i < xs.length) = false := decide_eq_false (by omega)
      have hge2 : xs.length ≤ i := by omega
      have hF : Hid _ := contains_no (fun j hj => hall j (by omega))
      clear hall hlt
      go_wp2_with fail
      go_ret
      exact ⟨by rw [hF.out]; rfl, rfl⟩

def holdsM (D : List (List Int)) (l : List Int) : Bool := D.all fun c => c.any fun x => l.contains x

def AnyRel (w : World) (c l : List Int) (T : Bool) (k : Nat) (x6 x7 : Value) (wr : World) : Prop :=
  ∃ (j : Nat) (is : Bool), x6 = .bool is ∧ x7 = .int .i64 (j : Int) ∧ k + j = c.length ∧ wr = w ∧ (is || (c.drop j).any fun x => l.contains x) = T

set_option maxHeartbeats 2000000 in
theorem holds_any {base : Nat} {w : World} {A A2 : Option Addr} {D : List (List Int)} {l : List Int} {c c2 : Nat} (h : LiesR base w A D) (h2 : Lies base w A2 l) (hn : D.length ≤ 60000) (hm : ∀ e ∈ D, e.length ≤ 60000) (hl : l.length ≤ 9223372036854775807) :
    Calls Tryz.prog 45 #[.slice A D.length c, .slice A2 l.length c2] w fun e w' => e = .returned (.bool (holdsM D l)) ∧ w' = w := by
  have HH : Hid _ := h
  have HM : Hid _ := hm
  have HAS : Hid (∀ x, Calls Tryz.prog 26 #[.slice A2 l.length c2, .int .i64 x] w fun e w' => e = .returned (.bool (l.contains x)) ∧ w' = w) := fun x => has_any h2 hl
  clear h hm h2
  unfold holdsM
  have start : Hid (CntRel w D.length (fun j => ((D.getD j []).any fun x => l.contains x) = true) D.length (.int .i64 ((0 : Nat) : Int)) w) := ⟨0, rfl, by omega, rfl, fun j hj => absurd hj (Nat.not_lt_zero _)⟩
  go_enter Tryz.func45, Tryz.ntmps45
  go_wp2_with fail
  go_loopg [5] D.length (fun k x5 wr => CntRel w D.length (fun j => ((D.getD j []).any fun x => l.contains x) = true) k x5 wr)
  case atStart => exact start.out
  case round =>
    clear start
    obtain ⟨i, rfl, hki, rfl, hall⟩ := hrel
    by_cases hlt : i < D.length
    · obtain ⟨m, rfl⟩ : ∃ m, gk = m + 1 := ⟨gk - 1, by omega⟩
      obtain ⟨b, o, rfl, _, hc⟩ := liesR_at HH.out hlt
      obtain ⟨A', c', e1, hc', hli⟩ := hc i hlt
      have hlen := HM.out _ (row_ne D [] hlt)
      have NO : Hid (((D.getD i []).any fun x => l.contains x) = false → (D.all fun c => c.any fun x => l.contains x) = false) := fun h => all_not D [] (fun c => c.any fun x => l.contains x) hlt h
      have YES : Hid (((D.getD i []).any fun x => l.contains x) = true → ∀ j, j < i + 1 → ((D.getD j []).any fun x => l.contains x) = true) := fun h j hj => by
        rcases Nat.lt_or_ge j i with q | q
        · exact hall j q
        · have : j = i := by omega
          subst this; exact h
      clear hall hc
      generalize D.getD i [] = cl at *
      have start2 : Hid (AnyRel wr cl l (cl.any fun x => l.contains x) cl.length (.bool false) (.int .i64 ((0 : Nat) : Int)) wr) := ⟨0, false, rfl, rfl, rfl, rfl, by simp⟩
      generalize hTT : (cl.any fun x => l.contains x) = T at *
      have LI : Hid _ := hli
      clear hTT hli
      go_wp2_with fail
      go_loopg [6, 7] cl.length (fun k x6 x7 w' => AnyRel wr cl l T k x6 x7 w')
      case atStart => exact start2.out
      case round =>
        clear start2
        obtain ⟨j, is, rfl, rfl, hkj, rfl, hT⟩ := hrel
        by_cases hlt2 : j < cl.length
        · obtain ⟨b2, o2, rfl, _, hc2⟩ := lies_at LI.out hlt2
          have e2 := hc2 j hlt2
          have hd2 : cl.drop j = cl.getD j 0 :: cl.drop (j + 1) := by
            rw [List.drop_eq_getElem_cons hlt2]; simp [hlt2]
          rw [hd2, List.any_cons, ← Bool.or_assoc] at hT
          generalize cl.getD j 0 = x at *
          have SX := HAS.out x
          generalize l.contains x = p at *
          have HT : Hid _ := hT
          clear hT hd2 hc2
          cases is with
          | true =>
            go_wp2_with fail
            go_roundg (gk - 1)
            case measure => omega
            case rel => exact ⟨j + 1, true, rfl, by go_num, by omega, rfl, by have := HT.out; simpa using this⟩
          | false =>
            go_wp2_with fail
            refine SX.mono ?_
            rintro e w' ⟨rfl, rfl⟩
            clear SX
            go_wp2_with fail
            go_roundg (gk - 1)
            case measure => omega
            case rel => exact ⟨j + 1, p, rfl, by go_num, by omega, rfl, by have := HT.out; simpa using this⟩
        · have hge : decide (j < cl.length) = false := decide_eq_false (by omega)
          have hge2 : cl.length ≤ j := by omega
          have hnil : cl.drop j = [] := List.drop_eq_nil_of_le hge2
          rw [hnil] at hT
          have hT5 : is = T := by simpa using hT
          subst hT5
          clear hlt2 hnil hT
          cases is with
          | true =>
            have Y2 : Hid _ := YES.out rfl
            clear YES NO
            go_wp2_with fail
            go_roundg m
            case measure => omega
            case rel => exact ⟨i + 1, by go_num, by omega, rfl, Y2.out⟩
          | false =>
            have hF : Hid _ := NO.out rfl
            clear YES NO
            go_wp2_with fail
            go_ret
            exact ⟨by rw [hF.out]; rfl, rfl⟩
    · have hge : decide (i < D.length) = false := decide_eq_false (by omega)
      have hge2 : D.length ≤ i := by omega
      have hT : Hid _ := (all_getD D [] (fun c => c.any fun x => l.contains x)).1 (fun j hj => hall j (by omega))
      clear hall hlt
      go_wp2_with fail
      go_ret
      exact ⟨by rw [hT.out]; rfl, rfl⟩
end Go.Proofs.YtdllaphnkbnpoaaGreat
namespace Go.Proofs.YtdllaphnkbnpoaaGreat
open Go.RowKit Go.Proofs

def twiceM (xs : List Int) : Bool := decide (¬ (xs.map Int.natAbs).Nodup)

theorem twice_yes {xs : List Int} {i k : Nat} (hi : i < xs.length) (hk : k < i) (h : (xs.getD i 0).natAbs = (xs.getD k 0).natAbs) : twiceM xs = true := by
  refine decide_eq_true fun nd => ?_
  rw [List.nodup_iff_pairwise_ne, List.pairwise_map, List.pairwise_iff_getElem] at nd
  have := nd k i (by omega) hi hk
  have e1 : xs.getD i 0 = xs[i] := by simp [hi]
  have e2 : xs.getD k 0 = xs[k]'(by omega) := by simp [show k < xs.length by omega]
  rw [e1, e2] at h
  exact this h.symm
theorem twice_no {xs : List Int} (h : ∀ i, i < xs.length → ∀ k, k < i → (xs.getD i 0).natAbs ≠ (xs.getD k 0).natAbs) : twiceM xs = false := by
  refine decide_eq_false fun nd => nd ?_
  rw [List.nodup_iff_pairwise_ne, List.pairwise_map, List.pairwise_iff_getElem]
  intro k i hk hi hki e
  refine h i hi k hki ?_
  have e1 : xs.getD i 0 = xs[i] := by simp [hi]
  have e2 : xs.getD k 0 = xs[k] := by simp [hk]
  rw [e1, e2]; exact e.symm

set_option maxRecDepth 100000 in
set_option maxHeartbeats 2000000 in
theorem twice_any {w : World} {A : Option Addr} {xs : List Int} {c : Nat} (h : Lies w.heap.size w A xs) (hn : xs.length ≤ 9223372036854775807) (hw : ∀ x ∈ xs, -60000 ≤ x ∧ x ≤ 60000) :
    Calls Tryz.prog 38 #[.slice A xs.length c] w fun e w' => e = .returned (.bool (twiceM xs)) ∧ Below w.heap.size w w' := by
  have start : Hid (CntRelB w xs.length (fun j => ∀ k, k < j → (xs.getD j 0).natAbs ≠ (xs.getD k 0).natAbs) xs.length (.int .i64 ((0 : Nat) : Int)) w) := ⟨0, rfl, by omega, Below.refl _ _, fun j hj => absurd hj (Nat.not_lt_zero _)⟩
  have HH : Hid _ := h
  have WW : Hid _ := hw
  clear h hw
  go_enter Tryz.func38, Tryz.ntmps38
  go_wp2_with fail
  go_loopg [3] xs.length (fun k x3 wr => CntRelB w xs.length (fun j => ∀ k, k < j → (xs.getD j 0).natAbs ≠ (xs.getD k 0).natAbs) k x3 wr)
  case atStart => exact start.out
  case round =>
    clear start
    obtain ⟨i, rfl, hki, B0, hall⟩ := hrel
    by_cases hlt : i < xs.length
    · obtain ⟨m, rfl⟩ : ∃ m, gk = m + 1 := ⟨gk - 1, by omega⟩
      have YES : Hid ((∀ k, k < i → (xs.getD i 0).natAbs ≠ (xs.getD k 0).natAbs) → ∀ j, j < i + 1 → ∀ k, k < j → (xs.getD j 0).natAbs ≠ (xs.getD k 0).natAbs) := fun h j hj => by
        rcases Nat.lt_or_ge j i with q | q
        · exact hall j q
        · have : j = i := by omega
          subst this; exact h
      have start2 : Hid (CntRelB wr i (fun k => (xs.getD i 0).natAbs ≠ (xs.getD k 0).natAbs) i (.int .i64 ((0 : Nat) : Int)) wr) := ⟨0, rfl, by omega, Below.refl _ _, fun j hj => absurd hj (Nat.not_lt_zero _)⟩
      have BH : Hid _ := B0
      clear hall B0
      go_wp2_with fail
      go_loopg [4] i (fun k x4 w' => CntRelB wr i (fun k => (xs.getD i 0).natAbs ≠ (xs.getD k 0).natAbs) k x4 w')
      case atStart => exact start2.out
      case round =>
        clear start2
        obtain ⟨j, rfl, hkj, B1, hall⟩ := hrel
        by_cases hlt2 : j < i
        · obtain ⟨b, o, rfl, _, hc⟩ := lies_at (Lies.below HH.out (BH.out.trans (B1.mono BH.out.size))) hlt
          have e1 := hc i hlt
          have e2 := hc j (by omega)
          have h1 := WW.out _ (row_ne xs 0 hlt)
          have h2 := WW.out _ (row_ne xs 0 (show j < xs.length by omega))
          have hjx : j < xs.length := by omega
          have TY : Hid ((xs.getD i 0).natAbs = (xs.getD j 0).natAbs → twiceM xs = true) := fun e => twice_yes hlt hlt2 e
          have Y3 : Hid ((xs.getD i 0).natAbs ≠ (xs.getD j 0).natAbs → ∀ k, k < j + 1 → (xs.getD i 0).natAbs ≠ (xs.getD k 0).natAbs) := fun h k hk => by
            rcases Nat.lt_or_ge k j with q | q
            · exact hall k q
            · have : k = j := by omega
              subst this; exact h
          have YH : Hid _ := YES
          have B1H : Hid _ := BH.out.trans (B1.mono BH.out.size)
          have B2H : Hid _ := B1
          clear hc hall YES B1
          generalize xs.getD i 0 = x at *
          generalize xs.getD j 0 = y at *
          have SX : ∀ W : World, Calls Tryz.prog 14 #[.int .i64 x] W fun e w' => e = .returned (.int .i64 (x.natAbs : Int)) ∧ w' = W := fun W => (size_any x W h1.1 h1.2).mono (fun _ _ h => ⟨h.1, h.2.symm⟩)
          have SY : ∀ W : World, Calls Tryz.prog 14 #[.int .i64 y] W fun e w' => e = .returned (.int .i64 (y.natAbs : Int)) ∧ w' = W := fun W => (size_any y W h2.1 h2.2).mono (fun _ _ h => ⟨h.1, h.2.symm⟩)
          clear h1 h2
          generalize x.natAbs = n1 at *
          generalize y.natAbs = n2 at *
          by_cases e : n1 = n2
          · subst e
            have hT : Hid _ := TY.out rfl
            clear TY Y3 YH
            go_wp2_with fail
            go_quiet (first | (go_at_call_of 14 (Value.int .i64 x); refine Calls.quiet_of_same (SX _)) | (go_at_call_of 14 (Value.int .i64 y); refine Calls.quiet_of_same (SY _)))
            go_wp2_with fail
            go_ret
            exact ⟨by rw [hT.out]; rfl, below_drewN_ B1H.out _⟩
          · have hT : Hid _ := Y3.out e
            have g0 : ((n1 : Int) == (n2 : Int)) = false := by simp; omega
            clear TY Y3 e
            go_wp2_with fail
            go_quiet (first | (go_at_call_of 14 (Value.int .i64 x); refine Calls.quiet_of_same (SX _)) | (go_at_call_of 14 (Value.int .i64 y); refine Calls.quiet_of_same (SY _)))
            go_wp2_with fail
            go_roundg (gk - 1)
            case measure => omega
            case rel => exact ⟨j + 1, by go_num, by omega, below_drewN_ B2H.out _, hT.out⟩
        · have hge : decide (j < i) = false := decide_eq_false (by omega)
          have hge2 : i ≤ j := by omega
          have hT : Hid _ := YES.out (fun k hk => hall k (by omega))
          have B9 : Hid _ := BH.out.trans (B1.mono BH.out.size)
          clear hall hlt2 YES B1
          go_wp2_with fail
          go_roundg m
          case measure => omega
          case rel => exact ⟨i + 1, by go_num, by omega, B9.out, hT.out⟩
    · have hge : decide (i < xs.length) = false := decide_eq_false (by omega)
      have hge2 : xs.length ≤ i := by omega
      have hT : Hid _ := twice_no (fun j hj => hall j (by omega))
      have BH : Hid _ := B0
      clear hall hlt B0
      go_wp2_with fail
      go_ret
      exact ⟨by rw [hT.out]; rfl, BH.out⟩
def bm (now : List Int) : List (Int × Value) := now.map fun x => (x, .bool true)

theorem look_bm : ∀ (now : List Int) (x : Int), (look (bm now) x).getD (.bool false) = .bool (now.contains x)
  | [], x => rfl
  | y :: now, x => by
    show (look ((y, .bool true) :: bm now) x).getD (.bool false) = _
    unfold look
    by_cases h : x = y
    · rw [if_pos h, h]; simp
    · rw [if_neg h, look_bm now x]
      have : (y :: now).contains x = now.contains x := by
        rw [List.contains_cons]; simp [h]
      rw [this]

theorem put_bm : ∀ (now : List Int) (x : Int), putM (bm now) x (.bool true) = bm (if now.contains x = true then now else now ++ [x])
  | [], x => rfl
  | y :: now, x => by
    show putM ((y, .bool true) :: bm now) x (.bool true) = _
    unfold putM
    by_cases h : x = y
    · rw [if_pos h, h]; simp [bm]
    · rw [if_neg h, put_bm now x]
      have : (y :: now).contains x = now.contains x := by
        rw [List.contains_cons]; simp [h]
      rw [this]
      split <;> simp [bm]

theorem zero4 (w : World) : (zeroValue 4).run Tryz.prog w = .ok (.bool false) w := by kernel_rfl

theorem unit_look {w : World} {mb : Nat} {now : List Int} (h : MapAt w mb (kvs ikey (bm now))) (x : Int) :
    (Instr.lookup 63 (.map (some mb)) (.int .i64 x) false).run Tryz.prog w = .ok (.bool (now.contains x)) w := by
  have := run_lookup_at (P := Tryz.prog) keyI (T := 63) (kt := 3) (et := 4) Tryz.underlying63 Tryz.underlying3 (zero4 w) h x false
  rw [look_bm] at this
  exact this

theorem unit_put {base : Nat} {w : World} {mb : Nat} {now : List Int} (hb : base ≤ mb) (hw : base ≤ w.heap.size) (h : MapAt w mb (kvs ikey (bm now))) (x : Int) :
    ∃ w', (Instr.mapUpdate 63 (.map (some mb)) (.int .i64 x) (.bool true)).run Tryz.prog w = .ok () w' ∧ MapAt w' mb (kvs ikey (bm (if now.contains x = true then now else now ++ [x]))) ∧ Below base w w' := by
  obtain ⟨w', h1, h2, h3⟩ := run_update_at (P := Tryz.prog) keyI (T := 63) (kt := 3) (et := 4) Tryz.underlying63 Tryz.underlying3 h x (.bool true)
  rw [put_bm] at h2
  exact ⟨w', h1, h2, (Below.refl base w).grown h3 hw (fun b' hb' => by injection hb' with hb'; omega)⟩

theorem containsI_any {base : Nat} {w : World} {A : Option Addr} {l : List Int} {c : Nat} (h : Lies base w A l) (hn : l.length ≤ 9223372036854775807) (x : Int) :
    Calls Tryz.prog 19 #[.slice A l.length c, .int .i64 x] w fun e w' => e = .returned (.bool (l.contains x)) ∧ w' = w := by
  rcases Nat.eq_zero_or_pos l.length with h0 | hp
  · obtain rfl := List.eq_nil_of_length_eq_zero h0
    exact Tryz.slices_Contains_int_empty A c x w
  · obtain ⟨b, o, rfl, _, hc⟩ := lies_at h hp
    refine (Tryz.slices_Contains_int b o l.length c l x w (Nat.le_refl _) hn hc).mono ?_
    rintro e w' ⟨rfl, rfl⟩
    exact ⟨by rw [List.take_length], rfl⟩

def TwRel (w : World) (xs : List Int) (k : Nat) (x9 : Value) (wr : World) : Prop :=
  ∃ i : Nat, x9 = .int .i64 (i : Int) ∧ k + i = xs.length ∧ MapAt wr w.heap.size (kvs ikey (bm (absL (xs.take i)))) ∧ Below w.heap.size w wr ∧ w.heap.size < wr.heap.size ∧ ∀ j, j < i → ∀ k, k < j → (xs.getD j 0).natAbs ≠ (xs.getD k 0).natAbs

theorem abs_take_mem {xs : List Int} {i : Nat} {n : Nat} (h : (n : Int) ∈ absL (xs.take i)) : ∃ k, k < i ∧ k < xs.length ∧ (xs.getD k 0).natAbs = n := by
  obtain ⟨y, hy, e⟩ := List.mem_map.1 h
  obtain ⟨k, hk, rfl⟩ := List.getElem_of_mem hy
  rw [List.length_take] at hk
  rw [List.getElem_take] at e
  refine ⟨k, by omega, by omega, ?_⟩
  have e1 : xs.getD k 0 = xs[k]'(by omega) := by simp [show k < xs.length by omega]
  rw [e1]; omega
theorem mem_abs_take {xs : List Int} {i k : Nat} (hk : k < i) (hx : k < xs.length) : ((xs.getD k 0).natAbs : Int) ∈ absL (xs.take i) := by
  refine List.mem_map.2 ⟨xs.getD k 0, ?_, rfl⟩
  have e1 : xs.getD k 0 = (xs.take i)[k]'(by rw [List.length_take]; omega) := by rw [List.getElem_take]; simp [hx]
  rw [e1]
  exact List.getElem_mem _

set_option maxRecDepth 100000 in
set_option maxHeartbeats 2000000 in
theorem pTwice_any {w : World} {A : Option Addr} {xs : List Int} {c : Nat} (h : Lies w.heap.size w A xs) (hn : xs.length ≤ 9223372036854775807) (hw : ∀ x ∈ xs, -60000 ≤ x ∧ x ≤ 60000) :
    Calls Tryz.prog 28 #[.slice A xs.length c] w fun e w' => e = .returned (.bool (twiceM xs)) ∧ Below w.heap.size w w' := by
  have M0 : MapAt (w.alloc (.map #[] 0)) w.heap.size (kvs ikey (bm (absL (xs.take 0)))) := ⟨#[], 0, alloc_at _ _, rfl⟩
  have BA : Below w.heap.size w (w.alloc (.map #[] 0)) := (Below.refl _ _).alloc (Nat.le_refl _) _
  have start : Hid (TwRel w xs xs.length (.int .i64 ((0 : Nat) : Int)) (w.alloc (.map #[] 0))) := ⟨0, rfl, rfl, M0, BA, by rw [size_alloc]; omega, fun j hj => absurd hj (Nat.not_lt_zero _)⟩
  have LA : Hid _ := h
  have LW : Hid _ := hw
  clear h hw M0 BA
  go_enter Tryz.func28, Tryz.ntmps28
  go_wp2_with fail
  simp only [run_makeMap]
  go_wp2_with fail
  go_loopg [9] xs.length (fun k x9 wr => TwRel w xs k x9 wr)
  case atStart => exact start.out
  case round =>
    clear start
    obtain ⟨i, rfl, hki, M, B, hsz, hall⟩ := hrel
    by_cases hlt : i < xs.length
    · obtain ⟨b, o, rfl, hbb, hcell⟩ := lies_at (Lies.below LA.out B) hlt
      have ei := hcell i hlt
      have hx := LW.out _ (row_ne xs 0 hlt)
      have TY : Hid ((absL (xs.take i)).contains ((xs.getD i 0).natAbs : Int) = true → twiceM xs = true) := fun hc => by
        obtain ⟨k, hk1, hk2, e⟩ := abs_take_mem (by simpa using hc)
        exact twice_yes hlt hk1 e.symm
      have TN : Hid ((absL (xs.take i)).contains ((xs.getD i 0).natAbs : Int) = false → ∀ j, j < i + 1 → ∀ k, k < j → (xs.getD j 0).natAbs ≠ (xs.getD k 0).natAbs) := fun hc j hj k hk => by
        rcases Nat.lt_or_ge j i with q | q
        · exact hall j q k hk
        · have : j = i := by omega
          subst this
          intro e
          have := mem_abs_take (xs := xs) hk (by omega)
          rw [← e] at this
          rw [List.contains_eq_mem] at hc
          exact of_decide_eq_false hc this
      have TS : Hid (absL (xs.take (i + 1)) = absL (xs.take i) ++ [((xs.getD i 0).natAbs : Int)]) := by
        have e3 : xs[i]?.toList = [xs.getD i 0] := by simp [hlt]
        rw [List.take_add_one, e3]
        show absL _ = _
        unfold absL
        rw [List.map_append]
        rfl
      have r1 := unit_look M ((xs.getD i 0).natAbs : Int)
      obtain ⟨w9, hrun, M9, B9⟩ := unit_put (Nat.le_refl _) B.size M ((xs.getD i 0).natAbs : Int)
      have S9 : Hid (w.heap.size < w9.heap.size) := Nat.lt_of_lt_of_le hsz B9.size
      have M9H : Hid _ := M9
      have BH : Hid _ := B
      have B9H : Hid _ := B.trans B9
      clear hcell hall M B hsz M9 B9
      generalize xs.getD i 0 = x at *
      have CV : ∀ W : World, Calls Tryz.prog 23 #[.int .i64 x] W fun e w' => e = .returned (.int .i64 (x.natAbs : Int)) ∧ W = w' := fun W => cvariable_any x W hx.1 hx.2
      generalize x.natAbs = v at *
      cases hp : (absL (xs.take i)).contains (v : Int) with
      | true =>
        rw [hp] at r1
        have RT : Hid _ := TY.out hp
        clear hp hrun TY TN
        go_wp2_with fail
        refine (CV _).mono ?_
        rintro e w' ⟨rfl, rfl⟩
        go_wp2_with fail
        go_ret
        exact ⟨by rw [RT.out]; rfl, BH.out⟩
      | false =>
        rw [hp] at r1
        have RT : Hid _ := TN.out hp
        have M9f := M9H.out
        rw [if_neg (by rw [hp]; simp)] at M9f
        rw [← TS.out] at M9f
        have M9K : Hid _ := M9f
        clear hp TY TN M9f M9H TS
        go_wp2_with fail
        refine (CV _).mono ?_
        rintro e w' ⟨rfl, rfl⟩
        go_wp2_with fail
        refine (CV _).mono ?_
        rintro e w' ⟨rfl, rfl⟩
        go_wp2_with fail
        go_roundg (gk - 1)
        case measure => omega
        case rel => exact ⟨i + 1, by go_num, by omega, M9K.out, B9H.out, S9.out, RT.out⟩
    · have hge : decide (i < xs.length) = false := decide_eq_false (by omega)
      have hge2 : xs.length ≤ i := by omega
      have RT : Hid _ := twice_no (fun j hj => hall j (by omega))
      have BH : Hid _ := B
      clear hall hlt M B
      go_wp2_with fail
      go_ret
      exact ⟨by rw [RT.out]; rfl, BH.out⟩

/-- cmp.Or of two. -/
def OrRel (w : World) (a b : Int) (k : Nat) (x8 : Value) (wr : World) : Prop :=
  ∃ i : Nat, x8 = .int .i64 (i : Int) ∧ k + i = 2 ∧ wr = w ∧ (1 ≤ i → a = 0) ∧ (2 ≤ i → b = 0)
set_option maxHeartbeats 2000000 in
theorem or_any {w : World} {g : Nat} {a b r : Int} (h0 : w.cell? ⟨g, 0, none⟩ = some (.int .i64 a)) (h1 : w.cell? ⟨g, 1, none⟩ = some (.int .i64 b)) (hr1 : a ≠ 0 → r = a) (hr2 : a = 0 → r = b) :
    Calls Tryz.prog 31 #[.slice (some ⟨g, 0, none⟩) 2 2] w fun e w' => e = .returned (.int .i64 r) ∧ w' = w := by
  have start : Hid (OrRel w a b 2 (.int .i64 ((0 : Nat) : Int)) w) := ⟨0, rfl, rfl, rfl, by omega, by omega⟩
  have R1 : Hid _ := hr1
  have R2 : Hid _ := hr2
  clear hr1 hr2
  go_enter Tryz.func31, Tryz.ntmps31
  go_wp2_with fail
  go_loopg [8] 2 (fun k x8 wr => OrRel w a b k x8 wr)
  case atStart => exact start.out
  case round =>
    clear start
    obtain ⟨i, rfl, hki, rfl, ha, hb⟩ := hrel
    rcases Nat.lt_or_ge i 2 with hi | hi
    · rcases Nat.eq_zero_or_pos i with h | h
      · subst h
        by_cases hz : a = 0
        · have HZ : Hid (a = 0) := hz
          have g1 : (a != 0) = false := by simp [hz]
          clear ha hb hz
          go_wp2_with fail
          go_roundg (gk - 1)
          case measure => omega
          case rel => exact ⟨1, by go_num, by omega, rfl, fun _ => HZ.out, by omega⟩
        · have g1 : (a != 0) = true := by simp [hz]
          have R : Hid (r = a) := R1.out hz
          clear ha hb hz R1 R2
          go_wp2_with fail
          go_ret
          exact ⟨by rw [R.out]; rfl, rfl⟩
      · obtain rfl : i = 1 := by omega
        have ha0 := ha (by omega)
        have R : Hid (r = b) := R2.out ha0
        by_cases hz : b = 0
        · have HA : Hid (a = 0) := ha0
          have HZ : Hid (b = 0) := hz
          have g1 : (b != 0) = false := by simp [hz]
          clear ha hb hz ha0
          go_wp2_with fail
          go_roundg (gk - 1)
          case measure => omega
          case rel => exact ⟨2, by go_num, by omega, rfl, fun _ => HA.out, fun _ => HZ.out⟩
        · have g1 : (b != 0) = true := by simp [hz]
          clear ha hb hz ha0 R1 R2
          go_wp2_with fail
          go_ret
          exact ⟨by rw [R.out]; rfl, rfl⟩
    · have R : Hid (r = 0) := (R2.out (ha (by omega))).trans (hb (by omega))
      obtain rfl : i = 2 := by omega
      clear ha hb R1 R2
      go_wp2_with fail
      go_ret
      exact ⟨by rw [R.out]; rfl, rfl⟩

def bvM (a b : Int) : Int := if Lib.compareInt (a.natAbs : Int) (b.natAbs : Int) ≠ 0 then Lib.compareInt (a.natAbs : Int) (b.natAbs : Int) else Lib.compareInt b a
theorem bv_any {a b : Int} (ha : -60000 ≤ a ∧ a ≤ 60000) (hb : -60000 ≤ b ∧ b ≤ 60000) (w : World) :
    Calls Tryz.prog 34 #[.int .i64 a, .int .i64 b] w fun e w' => e = .returned (.int .i64 (bvM a b)) ∧ w' = w.alloc (.cells #[.int .i64 (Lib.compareInt (a.natAbs : Int) (b.natAbs : Int)), .int .i64 (Lib.compareInt b a)] 3) := by
  have V1 := cvariable_any a w ha.1 ha.2
  have V2 := cvariable_any b w hb.1 hb.2
  have K1 := Tryz.cmp_Compare_int (a.natAbs : Int) (b.natAbs : Int) w
  have K2 := Tryz.cmp_Compare_int b a w
  unfold bvM
  generalize Lib.compareInt (a.natAbs : Int) (b.natAbs : Int) = p at *
  generalize Lib.compareInt b a = q at *
  generalize a.natAbs = an at *
  generalize b.natAbs = bn at *
  have O := or_any (w := w.alloc (.cells #[.int .i64 p, .int .i64 q] 3)) (g := w.heap.size) (a := p) (b := q) (r := if p ≠ 0 then p else q) (by simp) (by simp) (fun h => if_pos h) (fun h => if_neg (by simp [h]))
  generalize (if p ≠ 0 then p else q) = r at *
  clear ha hb
  go_enter Tryz.func34, Tryz.ntmps34
  go_wp2_with fail
  refine V1.mono ?_
  rintro e w' ⟨rfl, rfl⟩
  go_wp2_with fail
  refine V2.mono ?_
  rintro e w' ⟨rfl, rfl⟩
  go_wp2_with fail
  refine K1.mono ?_
  rintro e w' ⟨rfl, rfl⟩
  go_wp2_with fail
  refine K2.mono ?_
  rintro e w' ⟨rfl, rfl⟩
  go_wp2_with fail
  refine O.mono ?_
  rintro e w' ⟨rfl, rfl⟩
  go_wp2_with fail
  go_ret
  exact ⟨rfl, rfl⟩

/-- Small numbers. -/
abbrev Sm := { x : Int // -60000 ≤ x ∧ x ≤ 60000 }
instance : Inhabited Sm := ⟨⟨0, by omega, by omega⟩⟩
def encS (x : Sm) : Value := .int .i64 x.1
def cfS (x y : Sm) : Int := bvM x.1 y.1

theorem cmp_eq (a b : Int) : Lib.compareInt a b = if a < b then -1 else if b < a then 1 else 0 := by
  unfold Lib.compareInt
  rfl
theorem bvM_lt (a b : Int) : decide (bvM a b < 0) = bef a b := by
  have e1 := cmp_eq (a.natAbs : Int) (b.natAbs : Int)
  have e2 := cmp_eq b a
  unfold bvM bef
  by_cases h1 : a.natAbs = b.natAbs
  · have e3 : Lib.compareInt (a.natAbs : Int) (b.natAbs : Int) = 0 := by rw [e1, if_neg (by omega), if_neg (by omega)]
    rw [if_neg (by simp [e3]), if_neg (by simp [h1]), e2]
    by_cases h2 : b < a
    · rw [if_pos h2, decide_eq_true h2]; rfl
    · rw [if_neg h2, decide_eq_false h2]
      by_cases h3 : a < b
      · rw [if_pos h3]; rfl
      · rw [if_neg h3]; rfl
  · by_cases h2 : a.natAbs < b.natAbs
    · have e3 : Lib.compareInt (a.natAbs : Int) (b.natAbs : Int) = -1 := by rw [e1, if_pos (by omega)]
      rw [if_pos (by rw [e3]; decide), if_pos h1, e3, decide_eq_true h2]; rfl
    · have e3 : Lib.compareInt (a.natAbs : Int) (b.natAbs : Int) = 1 := by rw [e1, if_neg (by omega), if_pos (by omega)]
      rw [if_pos (by rw [e3]; decide), if_pos h1, e3, decide_eq_false h2]; rfl

theorem bef_irr (a : Int) : bef a a = false := by unfold bef; simp
theorem bef_trans {a b c : Int} (h1 : bef a b = true) (h2 : bef b c = true) : bef a c = true := by
  unfold bef at *
  split at h1 <;> split at h2 <;> split <;> simp at * <;> omega
theorem bef_ntrans {a b c : Int} (h1 : bef a b = false) (h2 : bef b c = false) : bef a c = false := by
  unfold bef at *
  split at h1 <;> split at h2 <;> split <;> simp at * <;> omega
theorem bef_tot {a b : Int} (h1 : bef a b = false) (h2 : bef b a = false) : a = b := by
  unfold bef at *
  split at h1 <;> split at h2 <;> simp at * <;> omega

theorem ltS (x y : Sm) : ltOf cfS x y = bef x.1 y.1 := bvM_lt x.1 y.1
theorem swoS : Go.Sort.SWO (ltOf cfS) where
  irrefl x := by rw [ltS]; exact bef_irr _
  trans x y z h1 h2 := by rw [ltS] at *; exact bef_trans h1 h2
  ntrans x y z h1 h2 := by rw [ltS] at *; exact bef_ntrans h1 h2
theorem totS (x y : Sm) (h1 : ltOf cfS x y = false) (h2 : ltOf cfS y x = false) : x = y := by rw [ltS] at *; exact Subtype.ext (bef_tot h1 h2)

theorem alloc_grow (W : World) (o : Obj) : W.alloc o = Go.Sort.grow (W.drewN 0) #[o] := by
  have h : (W.drewN 0).heap ++ #[o] = W.heap.push o := by show W.heap ++ #[o] = _; simp
  unfold Go.Sort.grow
  rw [h]
  rfl
theorem cmpS (blk off size : Nat) (w : World) : CmpLays1 Tryz.prog 34 #[] encS cfS blk off size w := fun m os dk _ x y => by
  refine (bv_any x.2 y.2 _).mono ?_
  rintro e w' ⟨rfl, rfl⟩
  exact ⟨rfl, 0, _, alloc_grow _ _⟩

theorem strictB_ext : ∀ {a b : List Int}, a.Pairwise (fun x y => bef x y = true) → b.Pairwise (fun x y => bef x y = true) → (∀ x, x ∈ a ↔ x ∈ b) → a = b
  | [], [], _, _, _ => rfl
  | [], y :: b, _, _, h => by have := (h y).2 (by simp); cases this
  | x :: a, [], _, _, h => by have := (h x).1 (by simp); cases this
  | x :: a, y :: b, ha, hb, h => by
    rw [List.pairwise_cons] at ha hb
    have asym : ∀ {p q : Int}, bef p q = true → bef q p = true → False := fun h1 h2 => by
      have := bef_trans h1 h2; rw [bef_irr] at this; cases this
    have hxy : x = y := by
      rcases List.mem_cons.1 ((h x).1 (by simp)) with q | q
      · exact q
      · rcases List.mem_cons.1 ((h y).2 (by simp)) with p | p
        · exact p.symm
        · exact (asym (hb.1 x q) (ha.1 y p)).elim
    subst hxy
    rw [strictB_ext ha.2 hb.2 (fun z => ?_)]
    constructor
    · intro hz
      rcases List.mem_cons.1 ((h z).1 (by simp [hz])) with q | q
      · have := ha.1 z hz; rw [q, bef_irr] at this; cases this
      · exact q
    · intro hz
      rcases List.mem_cons.1 ((h z).2 (by simp [hz])) with q | q
      · have := hb.1 z hz; rw [q, bef_irr] at this; cases this
      · exact q

theorem insB_strict {out : List Int} {x : Int} (h : out.Pairwise (fun a b => bef a b = true)) : (insM out x).Pairwise (fun a b => bef a b = true) := by
  have hpl := posM_le x out
  unfold insM
  split
  · exact h
  · rename_i c
    have low : ∀ a ∈ out.take (posM x out), bef a x = true := by
      intro a ha
      obtain ⟨j, hj, rfl⟩ := List.getElem_of_mem ha
      rw [List.length_take] at hj
      have hbj := posM_bef x out j (by omega)
      have e1 : out.getD j 0 = out[j]'(by omega) := by simp [show j < out.length by omega]
      rw [List.getElem_take, ← e1]; exact hbj
    have high : ∀ a ∈ out.drop (posM x out), bef x a = true := by
      intro a ha
      obtain ⟨j, hj, rfl⟩ := List.getElem_of_mem ha
      rw [List.length_drop] at hj
      have hs := posM_stop x out (by omega)
      have hne : out.getD (posM x out) 0 ≠ x := fun e => c ⟨by omega, e⟩
      have h0 : bef x (out.getD (posM x out) 0) = true := by
        cases q : bef x (out.getD (posM x out) 0) with
        | true => rfl
        | false => exact absurd (bef_tot hs q) hne
      have e1 : out.getD (posM x out) 0 = out[posM x out]'(by omega) := by simp [show posM x out < out.length by omega]
      rw [e1] at h0
      rw [List.getElem_drop]
      cases j with
      | zero => exact h0
      | succ j =>
        have := List.pairwise_iff_getElem.1 h (posM x out) (posM x out + (j + 1)) (by omega) (by omega) (by omega)
        exact bef_trans h0 this
    rw [List.pairwise_append, List.pairwise_append]
    refine ⟨⟨h.sublist (List.take_sublist _ _), by simp, fun a ha b hb => ?_⟩, h.sublist (List.drop_sublist _ _), fun a ha b hb => ?_⟩
    · rw [List.mem_singleton] at hb; rw [hb]; exact low a ha
    · have hbx := high b hb
      rcases List.mem_append.1 ha with z | z
      · exact bef_trans (low a z) hbx
      · rw [List.mem_singleton] at z; rw [z]; exact hbx

theorem foldB_strict : ∀ (l out : List Int), out.Pairwise (fun a b => bef a b = true) → (l.foldl insM out).Pairwise (fun a b => bef a b = true)
  | [], _, h => h
  | x :: l, out, h => by rw [List.foldl_cons]; exact foldB_strict l _ (insB_strict h)
theorem sortedB (l : List Int) : (sortedM l).Pairwise (fun a b => bef a b = true) := foldB_strict l [] List.Pairwise.nil
theorem sortedM_has (l : List Int) (x : Int) : x ∈ sortedM l ↔ x ∈ l := by
  unfold sortedM
  rw [sorted_mem]
  simp
theorem sortedM_perm {l m : List Int} (h : l.Perm m) : sortedM l = sortedM m :=
  strictB_ext (sortedB l) (sortedB m) (fun x => by rw [sortedM_has, sortedM_has, h.mem_iff])

def toS (xs : List Int) (h : ∀ x ∈ xs, -60000 ≤ x ∧ x ≤ 60000) : List Sm := xs.pmap (fun x hx => ⟨x, hx⟩) h
theorem toS_map (xs : List Int) (h : ∀ x ∈ xs, -60000 ≤ x ∧ x ≤ 60000) : (toS xs h).map (·.1) = xs := by
  unfold toS
  rw [List.map_pmap]
  simp

end Go.Proofs.YtdllaphnkbnpoaaGreat
