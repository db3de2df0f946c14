/- slices.Sort and slices.Compact of numbers: ascending, each once. Solve on right clauses, whatever the fuel: what it answers. -/
import Derived.Test.YtdllaphnkbnpoaaGreatWr
import Derived.Test.YtdllaphnkbnpoaaGreatWu
namespace Go.Proofs.YtdllaphnkbnpoaaGreat
open Go.RowKit Go.Proofs

theorem keeps_iff (d : Array Int) (j : Nat) : Lib.keeps d j = true ↔ j = 0 ∨ d[j]! ≠ d[j - 1]! := by
  unfold Lib.keeps; simp

theorem asc_at {zs : List Int} (h : zs.Pairwise (· ≤ ·)) {i j : Nat} (hij : i ≤ j) (hj : j < zs.length) : zs.toArray[i]! ≤ zs.toArray[j]! := by
  rcases Nat.eq_or_lt_of_le hij with e | e
  · subst e; exact Int.le_refl _
  · have := List.pairwise_iff_getElem.1 h i j (by omega) hj e
    simpa [getElem!_pos, hj, show i < zs.length by omega] using this

theorem compact_strict {zs : List Int} (h : zs.Pairwise (· ≤ ·)) : (Lib.compact zs).Pairwise (· < ·) := by
  unfold Lib.compact Lib.compactUpTo
  rw [List.pairwise_map, List.pairwise_filter]
  refine List.Pairwise.imp_of_mem ?_ (List.pairwise_lt_range (n := zs.length))
  intro i j hi hj hij hki hkj
  have hj' : j < zs.length := List.mem_range.1 hj
  have hne := ((keeps_iff zs.toArray j).1 hkj).resolve_left (by omega)
  have h1 := asc_at h (i := i) (j := j - 1) (by omega) (by omega)
  have h2 := asc_at h (i := j - 1) (j := j) (by omega) hj'
  omega

theorem compact_has {zs : List Int} {x : Int} (hx : x ∈ zs) : x ∈ Lib.compact zs := by
  obtain ⟨i, hi, rfl⟩ := List.getElem_of_mem hx
  have key : ∀ i, ∀ hi : i < zs.length, zs[i] ∈ Lib.compact zs := by
    intro i
    induction i using Nat.strongRecOn with
    | _ i ih =>
      intro hi
      by_cases hk : Lib.keeps zs.toArray i = true
      · unfold Lib.compact Lib.compactUpTo
        refine List.mem_map.2 ⟨i, List.mem_filter.2 ⟨List.mem_range.2 hi, hk⟩, ?_⟩
        simp [getElem!_pos, hi]
      · have h2 : ¬ (i = 0 ∨ zs.toArray[i]! ≠ zs.toArray[i - 1]!) := fun h => hk ((keeps_iff _ _).2 h)
        have h3 : i ≠ 0 := fun h => h2 (.inl h)
        have h4 : zs.toArray[i]! = zs.toArray[i - 1]! := by
          by_cases e : zs.toArray[i]! = zs.toArray[i - 1]!
          · exact e
          · exact absurd (.inr e) h2
        have := ih (i - 1) (by omega) (by omega)
        have e : zs[i] = zs[i - 1]'(by omega) := by
          simpa [getElem!_pos, hi, show i - 1 < zs.length by omega] using h4
        rw [e]; exact this
  exact key i hi

theorem sorted_le (zs : List Int) : (zs.mergeSort fun x y => decide (x ≤ y)).Pairwise (· ≤ ·) := by
  have := List.pairwise_mergeSort (le := fun x y : Int => decide (x ≤ y)) (fun a b c h1 h2 => by simp at *; omega) (fun a b => by simp; omega) zs
  exact this.imp (by intro a b h; simpa using h)

theorem varsOf_strict (D : List (List Int)) : (varsOf D).Pairwise (· < ·) := compact_strict (sorted_le _)
theorem varsOf_has {D : List (List Int)} {e : List Int} (he : e ∈ D) {y : Int} (hy : y ∈ e) : (y.natAbs : Int) ∈ varsOf D := by
  refine compact_has ((List.mergeSort_perm _ _).mem_iff.2 ?_)
  exact List.mem_flatMap.2 ⟨e, he, List.mem_map.2 ⟨y, hy, rfl⟩⟩

theorem strict_nodup {xs : List Int} (h : xs.Pairwise (· < ·)) : xs.Nodup := h.imp (fun h => by omega)

theorem len_eq {a b : List Int} (ha : a.Nodup) (hb : b.Nodup) (h : ∀ x, x ∈ a ↔ x ∈ b) : a.length = b.length := by
  have : ∀ (a b : List Int), a.Nodup → (∀ x ∈ a, x ∈ b) → a.length ≤ b.length := by
    intro a
    induction a with
    | nil => intro b _ _; simp
    | cons x a ih =>
      intro b h hs
      have hx := hs x (by simp)
      have h2 := ih (b.erase x) (List.nodup_cons.1 h).2 (by
        intro y hy
        have : y ≠ x := fun e => (List.nodup_cons.1 h).1 (e ▸ hy)
        exact (List.mem_erase_of_ne this).2 (hs y (by simp [hy])))
      have := List.length_erase_of_mem hx
      have := List.length_pos_of_mem hx
      simp; omega
  exact Nat.le_antisymm (this a b ha (fun x hx => (h x).1 hx)) (this b a hb (fun x hx => (h x).2 hx))

end Go.Proofs.YtdllaphnkbnpoaaGreat
namespace Go.Proofs.YtdllaphnkbnpoaaGreat
open Go.RowKit Go.Proofs

/-- Right clauses, few and short. -/
structure Legal (D : List (List Int)) (occ : List Nat) : Prop where
  len : D.length ≤ 60
  row : ∀ e ∈ D, e.length ≤ 30
  lit : ∀ e ∈ D, ∀ x ∈ e, x ≠ 0 ∧ x.natAbs ≤ 200 ∧ x.natAbs ∈ occ
  o12 : occ.length ≤ 12
  oz : 0 ∉ occ

theorem absAll_len : ∀ (D : List (List Int)) (m : Nat), (∀ e ∈ D, e.length ≤ m) → (absAll D).length ≤ D.length * m
  | [], m, _ => by simp [absAll]
  | e :: D, m, h => by
    have h1 := absAll_len D m (fun x hx => h x (by simp [hx]))
    have h2 := h e (by simp)
    have e1 : (absAll (e :: D)).length = e.length + (absAll D).length := by simp [absAll, absL]
    rw [e1, List.length_cons, Nat.succ_mul]; omega

theorem Legal.all {D : List (List Int)} {occ : List Nat} (h : Legal D occ) : (absAll D).length ≤ 60000 := by
  have h1 := absAll_len D 30 h.row
  have h2 := Nat.mul_le_mul_right 30 h.len
  omega

/-- The model's answer, whatever the fuel. -/
theorem solve_model {D : List (List Int)} {occ : List Nat} (h : Legal D occ) :
    ∃ σ σ' r, S.addAll D S.new = some σ ∧ Fin σ' r occ D ∧ σ'.steps ≤ 60000 ∧
      ∀ f : Nat, ∃ τ r', ((σ.backO 0).bind fun τ => S.searchO f 60002 τ) = some (τ, r') ∧ (σ'.steps ≤ f → τ = σ' ∧ r' = r) ∧ (f < σ'.steps → r' = 2 ∨ (τ = σ' ∧ r' = r)) := by
  obtain ⟨σ, a1, a2, σ', r, e1, e2, e3, e4, e5⟩ := solve_ok (by have := h.len; omega) (fun e he => ⟨by have := h.row e he; omega, fun x hx => by have := h.lit e he x hx; exact ⟨this.1, this.2.1, .inl this.2.2⟩⟩) h.o12 h.oz ⟨[], by simp, fun t ht => .inl (h.lit _ ht t (by simp)).2.2⟩
  refine ⟨σ, σ', r, a1, e1, e3, fun f => ?_⟩
  rw [a2]
  simp only [Option.bind_some]
  by_cases hf : σ'.steps ≤ f
  · exact ⟨σ', r, e4 f hf, fun _ => ⟨rfl, rfl⟩, fun h => by omega⟩
  · obtain ⟨τ, r', b1, b2⟩ := e5 f (by omega)
    exact ⟨τ, r', b1, fun h => absurd h hf, fun _ => b2⟩

/-- An answer that is no error. -/
def OkAns (σ' : S) (r : Int) (D : List (List Int)) (w : World) (e : Ending) (w' : World) : Prop :=
  (r = 0 ∧ ∃ p μ fuel, e = .returned (.tuple #[.agg #[.bool false, .slice none 0 0, .slice (ad μ.log) σ'.log.length (cp μ.log), .int .i64 ((max 1 σ'.steps : Nat) : Int)], .int .i64 0]) ∧ Holds w.heap.size w' (full p fuel σ' μ (fun _ => .non)) ∧ Good σ' μ) ∨
  (r = 1 ∧ ∃ L v, e = .returned (.tuple #[.agg #[.bool true, .slice (ad v) (truesOf σ' D).length (cp v), .slice none 0 0, .int .i64 ((max 1 σ'.steps : Nat) : Int)], .int .i64 0]) ∧ Holds w.heap.size w' L ∧ L (.loc 0) = .row v 3 (ints (truesOf σ' D)))

theorem lit_ok {D : List (List Int)} {occ : List Nat} (h : Legal D occ) : (D.any fun c => !c.all isLit) = false := by
  rw [List.any_eq_false]
  intro e he
  have : e.all isLit = true := by
    rw [List.all_eq_true]
    intro x hx
    have := h.lit e he x hx
    unfold isLit
    exact decide_eq_true ⟨this.1, by omega, by omega⟩
  simp [this]

theorem check_ok {D : List (List Int)} {occ : List Nat} (h : Legal D occ) : checkM 600 D = 0 := by
  unfold checkM
  have h1 : (D.any fun c => decide (30 < c.length) && decide (600 = 600)) = false := by
    rw [List.any_eq_false]
    intro e he
    have := h.row e he
    simp; omega
  rw [h1, lit_ok h, decide_eq_false (by have := h.len; omega)]
  rfl

theorem solve_legal {D : List (List Int)} {occ : List Nat} (h : Legal D occ) :
    ∃ σ' r, Fin σ' r occ D ∧ σ'.steps ≤ 60000 ∧ ∀ (w : World) (base : Nat) (A : Option Addr) (c f : Nat), LiesR base w A D → base ≤ w.heap.size → 1 ≤ f → f ≤ 1000000 →
      Calls Tryz.prog 16 #[.slice A D.length c, .int .i64 (f : Int)] w fun e w' => Below w.heap.size w w' ∧
        ((f < max 1 σ'.steps ∧ e = .returned (.tuple #[zeroAnswer, .int .i64 14])) ∨ (max 1 σ'.steps ≤ f ∧ OkAns σ' r D w e w')) := by
  obtain ⟨σ, σ', r, a1, a2, a3, a4⟩ := solve_model h
  refine ⟨σ', r, a2, a3, ?_⟩
  intro w base A c f hA hb h1 h2
  obtain ⟨τ, r', b1, b2, b3⟩ := a4 f
  have hgd : ∀ i, i < D.length → D.getD i [] ∈ D := fun i hi => by grind
  have hr01 : r = 0 ∨ r = 1 := by rcases a2 with ⟨z, _⟩ | ⟨z, _⟩ <;> simp [z]
  have hph : r = 1 → 0 < σ'.phase.length := by rcases a2 with ⟨z, _⟩ | ⟨z, y, _⟩ <;> intro q <;> first | omega | exact y
  have hr' : r' = 0 ∨ r' = 1 ∨ r' = 2 := by
    rcases Nat.lt_or_ge f σ'.steps with q | q
    · rcases b3 q with z | ⟨_, z⟩ <;> omega
    · have := (b2 q).2; omega
  have hph' : r' = 1 → 0 < τ.phase.length := by
    intro q1
    rcases Nat.lt_or_ge f σ'.steps with q | q
    · rcases b3 q with z | ⟨z1, z2⟩
      · omega
      · rw [z1]; exact hph (by omega)
    · obtain ⟨z1, z2⟩ := b2 q; rw [z1]; exact hph (by omega)
  have hask : askedM D (f : Int) = 0 := by
    unfold askedM
    rw [check_ok h, if_neg (by simp), if_neg (by omega)]
  refine (solve_any (c := c) (fuel := f) (σ' := τ) (r := r') hA hb (by have := h.len; omega) (fun j hj => by have := h.row _ (hgd j hj); omega) hask ?_).mono ?_
  · intro w2 hL
    exact run_any (m := 60002) hL (by have := h.len; omega) (fun i hi => by have := h.row _ (hgd i hi); omega) h.all (fun e he x hx => by have := h.lit e he x hx; omega) a1 b1 (by omega) hr' hph'
  · rintro e w' ⟨B, alt⟩
    refine ⟨B, ?_⟩
    rcases alt with ⟨hc, he⟩ | ⟨q1, q2, p, μ, he, HX, GX⟩ | ⟨q1, q2, L, v, he, HX, hL⟩
    · left
      refine ⟨?_, he⟩
      rcases Nat.lt_or_ge f σ'.steps with q | q
      · omega
      · obtain ⟨z1, z2⟩ := b2 q
        rcases hc with hc | hc
        · omega
        · rw [z1] at hc; exact hc
    · right
      have hst : σ'.steps ≤ f := by
        rcases Nat.lt_or_ge f σ'.steps with q | q
        · rcases b3 q with z | ⟨z1, z2⟩
          · omega
          · rw [z1] at q2; omega
        · exact q
      obtain ⟨z1, z2⟩ := b2 hst
      subst z1
      exact ⟨q2, .inl ⟨by omega, p, μ, f, he, HX, GX⟩⟩
    · right
      have hst : σ'.steps ≤ f := by
        rcases Nat.lt_or_ge f σ'.steps with q | q
        · rcases b3 q with z | ⟨z1, z2⟩
          · omega
          · rw [z1] at q2; omega
        · exact q
      obtain ⟨z1, z2⟩ := b2 hst
      subst z1
      exact ⟨q2, .inr ⟨by omega, L, v, he, HX, hL⟩⟩
end Go.Proofs.YtdllaphnkbnpoaaGreat
