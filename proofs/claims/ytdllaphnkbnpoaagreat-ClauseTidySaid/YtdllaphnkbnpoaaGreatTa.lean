/- Plain facts for ClauseTidy: an order of rows, what insertion makes of rows, that every sorted rearrangement is it; what Tidy, Resolve and Count answer. No program in sight. -/
import Derived.Test.YtdllaphnkbnpoaaGreatXm
namespace Go.Proofs.YtdllaphnkbnpoaaGreat
open Go.RowKit Go.Proofs

/-- The first difference decides. -/
def lexB : List Int → List Int → Bool
  | x :: a, y :: b => if x = y then lexB a b else bef x y
  | _, _ => false
/-- The shorter row stands ahead. -/
def rowB (a b : List Int) : Bool := if a.length = b.length then lexB a b else decide (a.length < b.length)

theorem lexB_irr : ∀ a : List Int, lexB a a = false
  | [] => rfl
  | x :: a => by simp [lexB, lexB_irr a]
theorem lexB_trans : ∀ {a b c : List Int}, lexB a b = true → lexB b c = true → lexB a c = true
  | [], _, _, h, _ => by simp [lexB] at h
  | _ :: _, [], _, h, _ => by simp [lexB] at h
  | _ :: _, _ :: _, [], _, h => by simp [lexB] at h
  | x :: a, y :: b, z :: c, h1, h2 => by
    unfold lexB at *
    by_cases e1 : x = y
    · subst e1
      rw [if_pos rfl] at h1
      by_cases e2 : x = z
      · subst e2
        rw [if_pos rfl] at h2 ⊢
        exact lexB_trans h1 h2
      · rw [if_neg e2] at h2 ⊢
        exact h2
    · rw [if_neg e1] at h1
      by_cases e2 : y = z
      · subst e2
        rw [if_neg e1]; exact h1
      · rw [if_neg e2] at h2
        have e3 : x ≠ z := by
          intro e
          subst e
          have := bef_trans h1 h2
          rw [bef_irr] at this; cases this
        rw [if_neg e3]
        exact bef_trans h1 h2
theorem lexB_tot : ∀ {a b : List Int}, a.length = b.length → lexB a b = false → lexB b a = false → a = b
  | [], [], _, _, _ => rfl
  | [], _ :: _, h, _, _ => by simp at h
  | _ :: _, [], h, _, _ => by simp at h
  | x :: a, y :: b, h, h1, h2 => by
    unfold lexB at h1 h2
    by_cases e : x = y
    · subst e
      rw [if_pos rfl] at h1 h2
      rw [lexB_tot (by simpa using h) h1 h2]
    · rw [if_neg e] at h1
      rw [if_neg (fun q => e q.symm)] at h2
      exact absurd (bef_tot h1 h2) e

theorem rowB_irr (a : List Int) : rowB a a = false := by unfold rowB; rw [if_pos rfl]; exact lexB_irr a
theorem rowB_trans {a b c : List Int} (h1 : rowB a b = true) (h2 : rowB b c = true) : rowB a c = true := by
  unfold rowB at *
  split at h1 <;> split at h2
  · rw [if_pos (by omega)]; exact lexB_trans h1 h2
  · have : b.length < c.length := by simpa using h2
    rw [if_neg (by omega)]; simp; omega
  · have : a.length < b.length := by simpa using h1
    rw [if_neg (by omega)]; simp; omega
  · have p : a.length < b.length := by simpa using h1
    have q : b.length < c.length := by simpa using h2
    rw [if_neg (by omega)]; simp; omega
theorem rowB_tot {a b : List Int} (h1 : rowB a b = false) (h2 : rowB b a = false) : a = b := by
  unfold rowB at *
  by_cases e : a.length = b.length
  · rw [if_pos e] at h1
    rw [if_pos e.symm] at h2
    exact lexB_tot e h1 h2
  · rw [if_neg e] at h1
    rw [if_neg (fun q => e q.symm)] at h2
    simp at h1 h2
    omega
theorem rowB_asym {a b : List Int} (h : rowB a b = true) : rowB b a = false := by
  cases q : rowB b a with
  | false => rfl
  | true => have := rowB_trans h q; rw [rowB_irr] at this; cases this
theorem rowB_ntrans {a b c : List Int} (h1 : rowB a b = false) (h2 : rowB b c = false) : rowB a c = false := by
  cases q : rowB a c with
  | false => rfl
  | true =>
    cases p : rowB b a with
    | true => rw [rowB_trans p q] at h2; cases h2
    | false => rw [rowB_tot h1 p] at q; rw [q] at h2; cases h2

def posR (x : List Int) : List (List Int) → Nat
  | [] => 0
  | y :: ys => if rowB y x = true then posR x ys + 1 else 0
def insR (out : List (List Int)) (x : List Int) : List (List Int) := out.take (posR x out) ++ [x] ++ out.drop (posR x out)
def sortR (l : List (List Int)) : List (List Int) := l.foldl insR []

theorem posR_le (x : List Int) : ∀ out : List (List Int), posR x out ≤ out.length
  | [] => Nat.le_refl _
  | y :: ys => by have := posR_le x ys; unfold posR; split <;> simp <;> omega
theorem posR_bef (x : List Int) : ∀ (out : List (List Int)) (j : Nat), j < posR x out → rowB (out.getD j []) x = true
  | [], j, h => by simp [posR] at h
  | y :: ys, j, h => by
    unfold posR at h
    split at h
    · rename_i hb
      cases j with
      | zero => simpa using hb
      | succ j => have := posR_bef x ys j (by omega); simpa using this
    · omega
theorem posR_stop (x : List Int) : ∀ (out : List (List Int)), posR x out < out.length → rowB (out.getD (posR x out) []) x = false
  | [], h => by simp [posR] at h
  | y :: ys, h => by
    unfold posR at h ⊢
    split at h
    · rename_i hb
      rw [if_pos hb]
      have := posR_stop x ys (by simpa using h)
      simpa using this
    · rename_i hb
      rw [if_neg hb]
      simpa using hb
/-- The place is where the walk stops. -/
theorem posR_at {x : List Int} {out : List (List Int)} {k : Nat} (hk : k ≤ out.length) (h1 : ∀ j, j < k → rowB (out.getD j []) x = true) (h2 : k < out.length → rowB (out.getD k []) x = false) : posR x out = k := by
  rcases Nat.lt_trichotomy (posR x out) k with h | h | h
  · have a := h1 _ h
    have b := posR_stop x out (by omega)
    rw [a] at b; cases b
  · exact h
  · have a := posR_bef x out k h
    have b := h2 (by have := posR_le x out; omega)
    rw [a] at b; cases b

def SortedR (l : List (List Int)) : Prop := l.Pairwise fun a b => rowB b a = false

theorem insR_perm (out : List (List Int)) (x : List Int) : (insR out x).Perm (x :: out) := by
  unfold insR
  have h : (out.take (posR x out) ++ [x] ++ out.drop (posR x out)).Perm (x :: (out.take (posR x out) ++ out.drop (posR x out))) := by
    rw [List.append_assoc]
    exact List.perm_middle
  rwa [List.take_append_drop] at h
theorem insR_sorted {out : List (List Int)} {x : List Int} (h : SortedR out) : SortedR (insR out x) := by
  have hpl := posR_le x out
  have low : ∀ a ∈ out.take (posR x out), rowB x a = false := by
    intro a ha
    obtain ⟨j, hj, rfl⟩ := List.getElem_of_mem ha
    rw [List.length_take] at hj
    have hbj := posR_bef x out j (by omega)
    have e1 : out.getD j [] = out[j]'(by omega) := by simp [show j < out.length by omega]
    rw [List.getElem_take, ← e1]
    exact rowB_asym hbj
  have high : ∀ a ∈ out.drop (posR x out), rowB a x = false := by
    intro a ha
    obtain ⟨j, hj, rfl⟩ := List.getElem_of_mem ha
    rw [List.length_drop] at hj
    have hs := posR_stop x out (by omega)
    have e1 : out.getD (posR x out) [] = out[posR x out]'(by omega) := by simp [show posR x out < out.length by omega]
    rw [e1] at hs
    rw [List.getElem_drop]
    cases j with
    | zero => exact hs
    | succ j =>
      have := List.pairwise_iff_getElem.1 h (posR x out) (posR x out + (j + 1)) (by omega) (by omega) (by omega)
      exact rowB_ntrans this hs
  unfold SortedR insR at *
  rw [List.pairwise_append, List.pairwise_append]
  refine ⟨⟨h.sublist (List.take_sublist _ _), by simp, fun a ha b hb => ?_⟩, h.sublist (List.drop_sublist _ _), fun a ha b hb => ?_⟩
  · rw [List.mem_singleton] at hb; rw [hb]; exact low a ha
  · have hbx := high b hb
    rcases List.mem_append.1 ha with z | z
    · exact rowB_ntrans hbx (low a z)
    · rw [List.mem_singleton] at z; rw [z]; exact hbx
theorem foldR : ∀ (l out : List (List Int)), SortedR out → SortedR (l.foldl insR out) ∧ (l.foldl insR out).Perm (l ++ out)
  | [], out, h => ⟨h, List.Perm.refl _⟩
  | x :: l, out, h => by
    rw [List.foldl_cons]
    obtain ⟨h1, h2⟩ := foldR l (insR out x) (insR_sorted h)
    refine ⟨h1, h2.trans ?_⟩
    have : (l ++ insR out x).Perm (l ++ (x :: out)) := List.Perm.append_left l (insR_perm out x)
    exact this.trans List.perm_middle
theorem sortR_sorted (l : List (List Int)) : SortedR (sortR l) := (foldR l [] List.Pairwise.nil).1
theorem sortR_perm (l : List (List Int)) : (sortR l).Perm l := by
  have := (foldR l [] List.Pairwise.nil).2
  rwa [List.append_nil] at this
theorem sortedR_unique : ∀ {a b : List (List Int)}, a.Perm b → SortedR a → SortedR b → a = b
  | [], b, h, _, _ => (List.Perm.nil_eq h)
  | x :: a, b, h, ha, hb => by
    cases b with
    | nil => exact absurd h.length_eq (by simp)
    | cons y b =>
      have hxy : x = y := by
        have h1 : rowB y x = false := by
          rcases List.mem_cons.1 (h.mem_iff.2 (List.mem_cons_self (a := y) (l := b))) with q | q
          · rw [q]; exact rowB_irr _
          · exact (List.pairwise_cons.1 ha).1 y q
        have h2 : rowB x y = false := by
          rcases List.mem_cons.1 (h.mem_iff.1 (List.mem_cons_self (a := x) (l := a))) with q | q
          · rw [q]; exact rowB_irr _
          · exact (List.pairwise_cons.1 hb).1 x q
        exact rowB_tot h2 h1
      subst hxy
      rw [sortedR_unique (List.Perm.cons_inv h) (List.pairwise_cons.1 ha).2 (List.pairwise_cons.1 hb).2]

def withinM (d c : List Int) : Bool := d.all fun x => c.contains x
def coverStep (out : List (List Int)) (c : List Int) : List (List Int) := if out.any (fun d => withinM d c) = true then out else out ++ [c]
def coverM (rows : List (List Int)) : List (List Int) := rows.foldl coverStep []
def tidyRows (D : List (List Int)) : List (List Int) := (D.map sortedM).filter fun x => !twiceM x
def tidyM (D : List (List Int)) : List (List Int) := coverM (sortR (tidyRows D))

theorem cover_sub : ∀ (rows out : List (List Int)), ∀ x ∈ rows.foldl coverStep out, x ∈ out ∨ x ∈ rows
  | [], out, x, h => .inl h
  | r :: rows, out, x, h => by
    rw [List.foldl_cons] at h
    rcases cover_sub rows _ x h with q | q
    · unfold coverStep at q
      split at q
      · exact .inl q
      · rcases List.mem_append.1 q with z | z
        · exact .inl z
        · right; rw [List.mem_singleton] at z; rw [z]; exact List.mem_cons_self
    · exact .inr (List.mem_cons_of_mem _ q)
theorem tidy_mem {D : List (List Int)} {x : List Int} (h : x ∈ tidyM D) : ∃ c ∈ D, x = sortedM c := by
  rcases cover_sub _ _ x h with q | q
  · cases q
  · have := (sortR_perm (tidyRows D)).mem_iff.1 q
    unfold tidyRows at this
    obtain ⟨h1, _⟩ := List.mem_filter.1 this
    obtain ⟨c, hc, e⟩ := List.mem_map.1 h1
    exact ⟨c, hc, e.symm⟩

def resolveM (a b : List Int) (on : Int) : List Int × Int :=
  if 30 < a.length ∨ 30 < b.length then ([], 2)
  else if (a.all isLit && b.all isLit && isLit on && a.contains on && b.contains (-on)) = true then (sortedM ((a ++ b).filter fun x => !decide (x.natAbs = on.natAbs)), 0)
  else ([], 1)

/-- The literals of an assignment. -/
def assignL (vs : List Int) (b : Nat) : List Int := (List.range vs.length).map fun i => if b / 2 ^ i % 2 = 1 then vs.getD i 0 else -vs.getD i 0
def countN (D : List (List Int)) (vs : List Int) (n : Nat) : Nat := ((List.range n).filter fun b => holdsM D (assignL vs b)).length
def countM (D : List (List Int)) : Int × Int :=
  if refM D ≠ 0 then (0, refM D) else if 16 < (refVars D).length then (0, 2) else ((countN D (refVars D) (2 ^ (refVars D).length) : Nat), 0)
theorem countN_succ (D : List (List Int)) (vs : List Int) (n : Nat) : countN D vs (n + 1) = countN D vs n + (if holdsM D (assignL vs n) = true then 1 else 0) := by
  unfold countN
  rw [List.range_succ, List.filter_append, List.length_append]
  by_cases h : holdsM D (assignL vs n) = true <;> simp [h]
theorem countN_le (D : List (List Int)) (vs : List Int) (n : Nat) : countN D vs n ≤ n := by
  unfold countN
  have := List.length_filter_le (fun b => holdsM D (assignL vs b)) (List.range n)
  rwa [List.length_range] at this
end Go.Proofs.YtdllaphnkbnpoaaGreat
