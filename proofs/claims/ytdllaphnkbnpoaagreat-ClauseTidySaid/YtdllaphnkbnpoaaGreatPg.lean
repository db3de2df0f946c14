/- The pure solver, whole: all clauses are added, the search ends. -/
import Derived.Test.YtdllaphnkbnpoaaGreatPf
namespace Go.Proofs.YtdllaphnkbnpoaaGreat

theorem new_ainv (occ : List Nat) (D : List (List Int)) : AInv S.new 1 occ D [] := by
  have c0 : ∀ k, ¬ k < S.new.clauses.length := fun k h => by simp [S.new] at h
  have t0 : ∀ x, x ∉ S.new.trail := fun x h => by simp [S.new] at h
  refine ⟨⟨⟨?_, rfl, by decide, by decide, ?_, by simp [S.new], ?_, by simp [S.new], ?_, ?_⟩, ⟨?_, ?_, ?_, ?_, by intro l; simp [S.new], by decide⟩, ⟨?_⟩, ?_, ?_, by decide, ⟨?_, ?_, ?_⟩, by simp⟩, by decide, rfl, rfl, ?_, rfl, by decide, ?_⟩
  · unfold S.even S.new; simp
  · intro l h; exact absurd h (t0 l)
  · intro v h1 h2; omega
  · intro m h; simp [S.new] at h
  · intro i h; simp [S.new] at h
  · intro k h; exact absurd h (c0 k)
  · intro k h; exact absurd h (c0 k)
  · intro k h; exact absurd h (c0 k)
  · intro l k
    constructor
    · intro h; simp [S.new] at h
    · rintro ⟨h, _⟩; exact absurd h (c0 k)
  · intro i h; simp [S.new] at h
  · intro k h; exact absurd h (c0 k)
  · intro m h; simp [S.new] at h
  · intro N _ k h; exact absurd h (c0 k)
  · intro N _ t h; exact absurd h (t0 t)
  · intro h; simp [S.new] at h
  · intro v; show ([0] : List Nat).getD v 0 = 0; cases v <;> rfl
  · intro t h; exact absurd h (t0 t)

theorem addAll_ok {occ : List Nat} {D : List (List Int)} : ∀ (cs : List (List Int)) {σ : S} {V : Nat} {E : List (List Int)}, AInv σ V occ D E → (∀ e ∈ cs, e ∈ D ∧ e.length ≤ 60000 ∧ ∀ x ∈ e, x ≠ 0 ∧ x.natAbs ≤ 200 ∧ (x.natAbs ∈ occ ∨ e = [x])) → E.length + cs.length ≤ 1000 →
    ∃ τ V', S.addAll cs σ = some τ ∧ AInv τ V' occ D (E ++ cs)
  | [], σ, V, E, I, _, _ => ⟨σ, V, rfl, by rw [List.append_nil]; exact I⟩
  | c :: cs, σ, V, E, I, h, hn => by
    obtain ⟨h1, h2, h3⟩ := h c (by simp)
    simp only [List.length_cons] at hn
    obtain ⟨τ, V', a1, _, a3⟩ := add_ok I h1 h3 h2 (by omega)
    obtain ⟨υ, V2, b1, b2⟩ := addAll_ok cs a3 (fun e he => h e (by simp [he])) (by simp; omega)
    refine ⟨υ, V2, by unfold S.addAll; rw [a1, Option.bind_some]; exact b1, ?_⟩
    rw [List.append_assoc] at b2
    exact b2

theorem split_len (p : Int → Bool) : ∀ l : List Int, l.length = (l.filter p).length + (l.filter fun x => !p x).length
  | [] => rfl
  | x :: l => by
    have h := split_len p l
    cases q : p x with
    | true => rw [List.filter_cons_of_pos q, List.filter_cons_of_neg (by simp [q])]; simp; omega
    | false => rw [List.filter_cons_of_neg (by simp [q]), List.filter_cons_of_pos (by simp [q])]; simp; omega

theorem start_cnt {σ : S} {V : Nat} {occ : List Nat} {D : List (List Int)} (I : AInv σ V occ D D) (h12 : occ.length ≤ 12) (h0 : 0 ∉ occ) (hD : D.length ≤ 80) (hex : ∃ ex : List Nat, ex.length ≤ 12 ∧ ∀ t : Int, [t] ∈ D → t.natAbs ∈ occ ∨ t.natAbs ∈ ex) : Cnt σ occ D := by
  have l0 := I.l0
  refine ⟨h12, h0, hD, by rw [l0]; simp, by rw [l0]; have := I.cn; simp; omega, ?_, ?_, ?_, 0, ?_, by omega, by intro h; omega⟩
  · intro v; rw [I.w0, l0]; exact ⟨Nat.le_refl _, fun _ => rfl⟩
  · intro i h; rw [l0] at h; simp at h
  · intro c h; rw [l0] at h; simp at h
  · have := zeros_le σ.weight occ
    obtain ⟨ex, hx1, hx2⟩ := hex
    have e1 : (σ.trail.filter fun l => decide (l.natAbs ∉ occ)).length ≤ 12 := by
      have h1 := nodup_sub ((σ.trail.filter fun l => decide (l.natAbs ∉ occ)).map Int.natAbs) ex (I.core.nodup.sublist (List.filter_sublist.map _)) (fun y hy => by
        obtain ⟨t, ht, rfl⟩ := List.mem_map.1 hy
        obtain ⟨h2, h3⟩ := List.mem_filter.1 ht
        have h3 := of_decide_eq_true h3
        rcases I.tocc t h2 with z | z
        · exact absurd z h3
        · rcases hx2 t z with z | z
          · exact absurd z h3
          · exact z)
      rw [List.length_map] at h1
      omega
    have e2 : σ.trail.length = (σ.trail.filter fun l => decide (l.natAbs ∈ occ)).length + (σ.trail.filter fun l => decide (l.natAbs ∉ occ)).length := by
      have h1 := split_len (fun l => decide (l.natAbs ∈ occ)) σ.trail
      have h2 : (σ.trail.filter fun x => !decide (x.natAbs ∈ occ)) = σ.trail.filter fun l => decide (l.natAbs ∉ occ) := List.filter_congr (fun x _ => by simp)
      rw [h2] at h1
      exact h1
    rw [I.st, occN_all, l0]; simp only [List.length_nil]; omega

/-- The whole run. -/
theorem solve_ok {occ : List Nat} {D : List (List Int)} (hD : D.length ≤ 80) (hl : ∀ e ∈ D, e.length ≤ 60000 ∧ ∀ x ∈ e, x ≠ 0 ∧ x.natAbs ≤ 200 ∧ (x.natAbs ∈ occ ∨ e = [x])) (h12 : occ.length ≤ 12) (h0 : 0 ∉ occ) (hex : ∃ ex : List Nat, ex.length ≤ 12 ∧ ∀ t : Int, [t] ∈ D → t.natAbs ∈ occ ∨ t.natAbs ∈ ex) :
    ∃ σ, S.addAll D S.new = some σ ∧ σ.backO 0 = some σ ∧ Ends 60002 σ occ D := by
  obtain ⟨σ, V, a1, a2⟩ := addAll_ok D (new_ainv occ D) (fun e he => ⟨he, hl e he⟩) (by simp; omega)
  rw [List.nil_append] at a2
  refine ⟨σ, a1, ?_, ?_⟩
  · unfold S.backO; rw [if_pos (by rw [a2.m0]; simp)]
  · exact search_ok (fun e he x hx => ((hl e he).2 x hx).1) 60002 σ V a2.toInv (start_cnt a2 h12 h0 hD hex) a2.v201 (.inl (by omega))

/-- What comes by propagation holds wherever the clauses hold. -/
def Holds1 (A : Nat → Bool) (x : Int) : Prop := A x.natAbs = decide (0 < x)
def SatBy (A : Nat → Bool) (D : List (List Int)) : Prop := ∀ e ∈ D, ∃ x ∈ e, x ≠ 0 ∧ Holds1 A x

theorem rup_sound {A : Nat → Bool} {D : List (List Int)} {e : List Int} (h : SatBy A D) (hr : Rup D e) (he : ∀ x ∈ e, x ≠ 0) : ∃ x ∈ e, x ≠ 0 ∧ Holds1 A x := by
  by_cases hx : ∃ x ∈ e, x ≠ 0 ∧ Holds1 A x
  · exact hx
  · exfalso
    refine hr (fun x => x ≠ 0 ∧ Holds1 A x) ⟨?_, fun d hd => .inl (h d hd)⟩ ?_
    · rintro x ⟨h0, h1⟩ ⟨_, h2⟩
      unfold Holds1 at h1 h2
      rw [Int.natAbs_neg, h1] at h2
      have := decide_eq_decide.1 h2
      omega
    · intro x hm
      have h0 := he x hm
      refine ⟨by omega, ?_⟩
      have : ¬ Holds1 A x := fun z => hx ⟨x, hm, h0, z⟩
      unfold Holds1 at this ⊢
      rw [Int.natAbs_neg]
      cases hA : A x.natAbs with
      | true => rw [hA] at this; exact (decide_eq_true (by rcases Int.lt_trichotomy 0 x with q | q | q; exact absurd (decide_eq_true q).symm this; omega; omega)).symm
      | false => rw [hA] at this; exact (decide_eq_false (by intro q; exact this (decide_eq_false (by omega)).symm)).symm

/-- A log that ends with the empty clause: nothing satisfies. -/
theorem log_unsat {A : Nat → Bool} {D log : List (List Int)} (hr : ∀ i, i < log.length → Rup (D ++ log.take i) (log.getD i [])) (hl : ∀ c ∈ log, ∀ x ∈ c, x ≠ 0) (hlast : ∃ L, log = L ++ [[]]) : ¬ SatBy A D := by
  intro h
  have key : ∀ i, i ≤ log.length → SatBy A (D ++ log.take i) := by
    intro i
    induction i with
    | zero => intro _; simpa using h
    | succ i ih =>
      intro hi e he
      have h1 := ih (by omega)
      rw [List.take_succ_eq_append_getElem (by omega), ← List.append_assoc] at he
      rcases List.mem_append.1 he with q | q
      · exact h1 e q
      · rw [List.mem_singleton] at q
        have hm : log.getD i [] = log[i] := by grind
        have := hr i (by omega)
        rw [hm, ← q] at this
        exact rup_sound h1 this (hl e (by rw [q]; exact List.getElem_mem _))
  obtain ⟨L, rfl⟩ := hlast
  have := key _ (Nat.le_refl _) [] (by rw [List.take_length]; simp)
  obtain ⟨x, hx, _⟩ := this
  simp at hx

end Go.Proofs.YtdllaphnkbnpoaaGreat
