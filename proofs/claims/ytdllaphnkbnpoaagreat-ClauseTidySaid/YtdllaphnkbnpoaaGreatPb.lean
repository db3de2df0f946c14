/- Propagation of the pure solver: it answers, and what it leaves. -/
import Derived.Test.YtdllaphnkbnpoaaGreatPa
namespace Go.Proofs.YtdllaphnkbnpoaaGreat

theorem swap_perm (c : List Int) {i j : Nat} (hi : i < c.length) (hj : j < c.length) : (swap c i j).Perm c := by
  have := List.set_set_perm (as := c) hi hj
  unfold swap at0
  grind
theorem swap_at (c : List Int) {i j : Nat} (hi : i < c.length) (hj : j < c.length) (n : Nat) : at0 (swap c i j) n = if n = j then at0 c i else if n = i then at0 c j else at0 c n := by
  unfold swap at0; grind
theorem swap_len (c : List Int) (i j : Nat) : (swap c i j).length = c.length := by unfold swap; simp

/-- The first two of a clause, in either order. -/
def pair (c : List Int) (x y : Int) : Prop := (x = at0 c 0 ∧ y = at0 c 1) ∨ (x = at0 c 1 ∧ y = at0 c 0)

structure Cls (σ : S) (V : Nat) (occ : List Nat) : Prop where
  two : ∀ k, k < σ.clauses.length → 2 ≤ (σ.clause k).length
  nod : ∀ k, k < σ.clauses.length → ((σ.clause k).map Int.natAbs).Nodup
  lit : ∀ k, k < σ.clauses.length → ∀ x ∈ σ.clause k, x ≠ 0 ∧ x.natAbs < V ∧ x.natAbs ∈ occ
  wat : ∀ l k, k ∈ σ.watch l ↔ k < σ.clauses.length ∧ (at0 (σ.clause k) 0 = l ∨ at0 (σ.clause k) 1 = l)
  wnd : ∀ l, (σ.watch l).Nodup
  num : σ.clauses.length ≤ 10000

structure Reas (σ : S) : Prop where
  of : ∀ i, i < σ.trail.length →
    (at0 σ.reason (at0 σ.trail i).natAbs = -1 ∧ (lv σ.marks i = 0 ∨ i ∈ σ.marks)) ∨
    (0 ≤ at0 σ.reason (at0 σ.trail i).natAbs ∧ (at0 σ.reason (at0 σ.trail i).natAbs).toNat < σ.clauses.length ∧
      at0 σ.trail i ∈ σ.clause (at0 σ.reason (at0 σ.trail i).natAbs).toNat ∧
      (∀ x ∈ σ.clause (at0 σ.reason (at0 σ.trail i).natAbs).toNat, x ≠ at0 σ.trail i → -x ∈ σ.trail.take i) ∧
      ∃ x ∈ σ.clause (at0 σ.reason (at0 σ.trail i).natAbs).toNat, x ≠ at0 σ.trail i ∧ ∃ j, j < i ∧ at0 σ.trail j = -x ∧ lv σ.marks j = lv σ.marks i)

/-- Of two watched literals: if one is false and looked at, the other one is true and not later. -/
def W2 (σ : S) (h : Nat) (E : Nat → Int → Prop) : Prop :=
  ∀ k, k < σ.clauses.length → ∀ x y, pair (σ.clause k) x y → -x ∈ σ.trail.take h → E k x ∨ (y ∈ σ.trail ∧ σ.level.getD y.natAbs 0 ≤ σ.level.getD x.natAbs 0)

/-- What propagation keeps. -/
structure Ext (σ τ : S) : Prop where
  trail : ∃ new, τ.trail = σ.trail ++ new
  marks : τ.marks = σ.marks
  log : τ.log = σ.log
  broken : τ.broken = σ.broken
  weight : τ.weight = σ.weight
  phase : τ.phase = σ.phase
  size : τ.value.length = σ.value.length
  num : τ.clauses.length = σ.clauses.length
  mem : ∀ k x, x ∈ τ.clause k ↔ x ∈ σ.clause k
  steps : τ.steps + σ.trail.length = σ.steps + τ.trail.length
  olds : ∀ t ∈ σ.trail, at0 τ.reason t.natAbs = at0 σ.reason t.natAbs
  news : ∀ t ∈ τ.trail, t ∉ σ.trail → 0 ≤ at0 τ.reason t.natAbs

theorem Ext.refl (σ : S) : Ext σ σ := ⟨⟨[], by simp⟩, rfl, rfl, rfl, rfl, rfl, rfl, rfl, fun _ _ => Iff.rfl, rfl, fun _ _ => rfl, fun _ a b => absurd a b⟩
theorem Ext.trans {σ τ υ : S} (a : Ext σ τ) (b : Ext τ υ) : Ext σ υ := by
  obtain ⟨n1, t1⟩ := a.trail
  obtain ⟨n2, t2⟩ := b.trail
  refine ⟨⟨n1 ++ n2, by rw [t2, t1, List.append_assoc]⟩, b.marks.trans a.marks, b.log.trans a.log, b.broken.trans a.broken, b.weight.trans a.weight, b.phase.trans a.phase, b.size.trans a.size, b.num.trans a.num, fun k x => (b.mem k x).trans (a.mem k x), ?_, ?_, ?_⟩
  · have := a.steps; have := b.steps; omega
  · intro t ht
    rw [b.olds t (by rw [t1]; simp [ht]), a.olds t ht]
  · intro t ht hn
    by_cases h : t ∈ τ.trail
    · rw [b.olds t h]; exact a.news t h hn
    · exact b.news t ht h

theorem clause_setClause (σ : S) {k : Nat} (hk : k < σ.clauses.length) (c : List Int) (j : Nat) : (σ.setClause k c).clause j = if k = j then c else σ.clause j := by
  unfold S.clause S.setClause; grind

/-- A clause is put in another order. -/
structure Reord (σ τ : S) (k : Nat) : Prop where
  trail : τ.trail = σ.trail
  marks : τ.marks = σ.marks
  log : τ.log = σ.log
  broken : τ.broken = σ.broken
  weight : τ.weight = σ.weight
  phase : τ.phase = σ.phase
  value : τ.value = σ.value
  level : τ.level = σ.level
  reason : τ.reason = σ.reason
  head : τ.head = σ.head
  steps : τ.steps = σ.steps
  num : τ.clauses.length = σ.clauses.length
  mem : ∀ j x, x ∈ τ.clause j ↔ x ∈ σ.clause j
  oth : ∀ j, j ≠ k → τ.clause j = σ.clause j

theorem Core.reord {σ τ : S} {k V : Nat} (C : Core σ V) (h : Reord σ τ k) : Core τ V := by
  refine ⟨?_, ?_, C.one, C.big, ?_, ?_, ?_, ?_, ?_, ?_⟩
  · have := C.even; unfold S.even at *; rw [h.level, h.reason, h.weight, h.phase, h.value]; exact this
  · rw [h.value]; exact C.size
  · rw [h.trail]; exact C.lits
  · rw [h.trail]; exact C.nodup
  · rw [h.trail, h.value]; exact C.val
  · rw [h.marks]; exact C.asc
  · rw [h.marks, h.trail]; exact C.mlt
  · rw [h.trail, h.marks, h.level]; exact C.lev
theorem Reas.reord {σ τ : S} {k : Nat} (R : Reas σ) (h : Reord σ τ k) : Reas τ := by
  refine ⟨?_⟩
  intro i hi
  have := R.of i (by rw [← h.trail]; exact hi)
  rw [h.trail, h.marks, h.reason, h.num]
  simp only [h.mem]
  exact this
theorem Reord.ext {σ τ : S} {k : Nat} (h : Reord σ τ k) : Ext σ τ :=
  ⟨⟨[], by rw [h.trail]; simp⟩, h.marks, h.log, h.broken, h.weight, h.phase, by rw [h.value], h.num, h.mem, by rw [h.trail, h.steps], fun t _ => by rw [h.reason], fun t a b => absurd (h.trail ▸ a) b⟩
theorem Reord.refl (σ : S) (k : Nat) : Reord σ σ k := ⟨rfl, rfl, rfl, rfl, rfl, rfl, rfl, rfl, rfl, rfl, rfl, rfl, fun _ _ => Iff.rfl, fun _ _ => rfl⟩

theorem reord_swap (σ : S) {k : Nat} (hk : k < σ.clauses.length) {i j : Nat} (hi : i < (σ.clause k).length) (hj : j < (σ.clause k).length) (f : Int → List Nat) :
    Reord σ { σ.setClause k (swap (σ.clause k) i j) with watch := f } k := by
  refine ⟨rfl, rfl, rfl, rfl, rfl, rfl, rfl, rfl, rfl, rfl, rfl, by simp [S.setClause], ?_, ?_⟩
  · intro m x
    show x ∈ (σ.setClause k (swap (σ.clause k) i j)).clause m ↔ _
    rw [clause_setClause σ hk]
    split
    · rename_i e; subst e; exact (swap_perm _ hi hj).mem_iff
    · rfl
  · intro m hm
    show (σ.setClause k (swap (σ.clause k) i j)).clause m = _
    rw [clause_setClause σ hk, if_neg (fun e => hm e.symm)]

theorem pair01 {c : List Int} (h : 2 ≤ c.length) (x y : Int) : pair (swap c 0 1) x y ↔ pair c x y := by
  unfold pair
  rw [swap_at c (by omega) (by omega), swap_at c (by omega) (by omega)]
  simp
  constructor <;> (intro h; rcases h with h | h <;> simp [h])

/-- The turn: what it keeps. -/
theorem turned_ok {σ : S} {V : Nat} {occ : List Nat} {l : Int} {ws : List Nat} (K : Cls (σ.setWatch l ws) V occ) {k : Nat} (hk : k < σ.clauses.length) :
    Reord σ (σ.turned l k) k ∧ Cls ((σ.turned l k).setWatch l ws) V occ ∧ (σ.turned l k).watch = σ.watch ∧ (∀ j x y, pair ((σ.turned l k).clause j) x y ↔ pair (σ.clause j) x y) := by
  have h2 : 2 ≤ (σ.clause k).length := K.two k hk
  unfold S.turned
  split
  · rename_i hc
    have ro := reord_swap σ hk (i := 0) (j := 1) (by omega) (by omega) σ.watch
    have ro' : Reord σ (σ.setClause k (swap (σ.clause k) 0 1)) k := ro
    refine ⟨ro', ?_, rfl, ?_⟩
    · have cl : ∀ j, ((σ.setClause k (swap (σ.clause k) 0 1)).setWatch l ws).clause j = if k = j then swap (σ.clause k) 0 1 else σ.clause j := fun j => clause_setClause σ hk _ j
      have nm : ((σ.setClause k (swap (σ.clause k) 0 1)).setWatch l ws).clauses.length = σ.clauses.length := ro'.num
      refine ⟨?_, ?_, ?_, ?_, K.wnd, ?_⟩
      · intro j hj; rw [nm] at hj; rw [cl]; split
        · rw [swap_len]; exact h2
        · exact K.two j hj
      · intro j hj; rw [nm] at hj; rw [cl]; split
        · exact ((swap_perm _ (by omega) (by omega)).map _).nodup_iff.2 (K.nod k hk)
        · exact K.nod j hj
      · intro j hj x hx
        rw [nm] at hj
        exact K.lit j hj x ((ro'.mem j x).1 hx)
      · intro x j
        rw [nm, cl]
        have := K.wat x j
        show j ∈ (σ.setWatch l ws).watch x ↔ _
        rw [this]
        split
        · rename_i e; subst e
          rw [swap_at _ (by omega) (by omega), swap_at _ (by omega) (by omega)]
          simp
          exact and_congr Iff.rfl Or.comm
        · rfl
      · rw [nm]; exact K.num
    · intro j x y
      rw [clause_setClause σ hk]
      split
      · rename_i e; subst e; exact pair01 h2 x y
      · rfl
  · exact ⟨Reord.refl _ _, K, rfl, fun _ _ _ => Iff.rfl⟩

theorem W2.reord {σ τ : S} {k h : Nat} {E : Nat → Int → Prop} (w : W2 σ h E) (ro : Reord σ τ k) (hp : ∀ j x y, pair (τ.clause j) x y → pair (σ.clause j) x y) : W2 τ h E := by
  intro j hj x y hxy hx
  rw [ro.num] at hj
  rw [ro.trail] at hx
  have := w j hj x y (hp j x y hxy) hx
  rw [ro.trail, ro.level]; exact this

/-- 'moves'. -/
theorem moves_ok {σ : S} {V : Nat} (C : Core σ V) {k : Nat} (hl : ∀ x ∈ σ.clause k, x ≠ 0 ∧ x.natAbs < V) :
    ∀ (n i : Nat), i + n = (σ.clause k).length → (∀ j, i ≤ j → j < (σ.clause k).length → 0 ≤ σ.of (at0 (σ.clause k) j) → (σ.watch (at0 (σ.clause k) j)).length < 60000) →
    (σ.movesO k n i = some (σ, false) ∧ ∀ j, i ≤ j → j < (σ.clause k).length → -(at0 (σ.clause k) j) ∈ σ.trail) ∨
    ∃ j, i ≤ j ∧ j < (σ.clause k).length ∧ -(at0 (σ.clause k) j) ∉ σ.trail ∧ σ.movesO k n i = some ((σ.setClause k (swap (σ.clause k) 1 j)).watchMore (at0 (σ.clause k) j) k, true)
  | 0, i, h, _ => .inl ⟨rfl, fun j a b => by omega⟩
  | n + 1, i, h, hw => by
    have hm := hl _ (at0_mem (xs := σ.clause k) (i := i) (by omega))
    have t := C.tri hm.1 hm.2
    unfold S.movesO
    rw [C.ofO hm.1 hm.2]
    simp only [Option.bind_some]
    by_cases h0 : 0 ≤ σ.of (at0 (σ.clause k) i)
    · rw [if_pos h0, if_pos (hw i (Nat.le_refl _) (by omega) h0)]
      refine .inr ⟨i, Nat.le_refl _, by omega, ?_, rfl⟩
      rcases t with t | t | t
      · exact t.2.1
      · omega
      · exact t.2.1
    · rw [if_neg h0]
      rcases moves_ok C hl n (i + 1) (by omega) (fun j a b => hw j (by omega) b) with ⟨a, b⟩ | ⟨j, a, b, c, d⟩
      · refine .inl ⟨a, fun j hj hj2 => ?_⟩
        rcases Nat.eq_or_lt_of_le hj with e | e
        · subst e
          rcases t with t | t | t
          · omega
          · exact t.1
          · omega
        · exact b j e hj2
      · exact .inr ⟨j, by omega, b, c, d⟩

theorem at0_inj {c : List Int} (h : (c.map Int.natAbs).Nodup) {i j : Nat} (hi : i < c.length) (hj : j < c.length) (e : at0 c i = at0 c j) : i = j :=
  abs_nodup h hi hj (by rw [e])

/-- A clause gets a new second literal to be watched. -/
theorem move_cls {σ : S} {V : Nat} {occ : List Nat} {l : Int} {stay ks : List Nat} {k : Nat} (K : Cls (σ.setWatch l (stay ++ k :: ks)) V occ) (hk : k < σ.clauses.length)
    (h1 : at0 (σ.clause k) 1 = l) {j : Nat} (hj : 2 ≤ j) (hj2 : j < (σ.clause k).length) :
    at0 (σ.clause k) j ≠ l ∧ Cls (((σ.setClause k (swap (σ.clause k) 1 j)).watchMore (at0 (σ.clause k) j) k).setWatch l (stay ++ ks)) V occ ∧
    Reord σ ((σ.setClause k (swap (σ.clause k) 1 j)).watchMore (at0 (σ.clause k) j) k) k ∧
    ((σ.setClause k (swap (σ.clause k) 1 j)).watchMore (at0 (σ.clause k) j) k).watch l = σ.watch l ∧
    (∀ x y, pair (((σ.setClause k (swap (σ.clause k) 1 j)).watchMore (at0 (σ.clause k) j) k).clause k) x y ↔ (x = at0 (σ.clause k) 0 ∧ y = at0 (σ.clause k) j) ∨ (x = at0 (σ.clause k) j ∧ y = at0 (σ.clause k) 0)) := by
  have nd := K.nod k hk
  have nd' : ((σ.clause k).map Int.natAbs).Nodup := nd
  have hz : at0 (σ.clause k) j ≠ l := by
    intro e; have := at0_inj nd' hj2 (j := 1) (by omega) (by rw [e, h1]); omega
  have hz0 : at0 (σ.clause k) j ≠ at0 (σ.clause k) 0 := by
    intro e; have := at0_inj nd' hj2 (j := 0) (by omega) e; omega
  have h0l : at0 (σ.clause k) 0 ≠ l := by
    intro e; have := at0_inj nd' (i := 0) (j := 1) (by omega) (by omega) (by rw [e, h1]); omega
  have ro := reord_swap σ hk (i := 1) (j := j) (by omega) hj2 (fun x => if x = at0 (σ.clause k) j then σ.watch (at0 (σ.clause k) j) ++ [k] else σ.watch x)
  have cl : ∀ i, (σ.setClause k (swap (σ.clause k) 1 j)).clause i = if k = i then swap (σ.clause k) 1 j else σ.clause i := fun i => clause_setClause σ hk _ i
  have c0 : at0 (swap (σ.clause k) 1 j) 0 = at0 (σ.clause k) 0 := by rw [swap_at _ (by omega) hj2]; grind
  have c1 : at0 (swap (σ.clause k) 1 j) 1 = at0 (σ.clause k) j := by rw [swap_at _ (by omega) hj2]; grind
  refine ⟨hz, ?_, ro, ?_, ?_⟩
  · have kw : ∀ _ : Nat, k ∉ stay ++ ks := by
      intro _ hm
      have := K.wnd l
      simp only [S.setWatch, if_pos] at this
      grind
    have ww : ∀ x, x ≠ l → (σ.setWatch l (stay ++ k :: ks)).watch x = σ.watch x := fun x hx => by simp [S.setWatch, hx]
    have wl : (σ.setWatch l (stay ++ k :: ks)).watch l = stay ++ k :: ks := by simp [S.setWatch]
    have nw : ∀ x, (((σ.setClause k (swap (σ.clause k) 1 j)).watchMore (at0 (σ.clause k) j) k).setWatch l (stay ++ ks)).watch x = if x = l then stay ++ ks else if x = at0 (σ.clause k) j then σ.watch x ++ [k] else σ.watch x := by
      intro x; simp only [S.setWatch, S.watchMore, S.setClause]; grind
    have nc : ∀ i, (((σ.setClause k (swap (σ.clause k) 1 j)).watchMore (at0 (σ.clause k) j) k).setWatch l (stay ++ ks)).clause i = if k = i then swap (σ.clause k) 1 j else σ.clause i := cl
    have nm : (((σ.setClause k (swap (σ.clause k) 1 j)).watchMore (at0 (σ.clause k) j) k).setWatch l (stay ++ ks)).clauses.length = σ.clauses.length := ro.num
    have kz : k ∉ σ.watch (at0 (σ.clause k) j) := by
      intro hm
      have := (K.wat (at0 (σ.clause k) j) k).1 (by rw [ww _ hz]; exact hm)
      have h3 : at0 (σ.clause k) 0 = at0 (σ.clause k) j ∨ at0 (σ.clause k) 1 = at0 (σ.clause k) j := this.2
      rcases h3 with h3 | h3
      · exact hz0 h3.symm
      · exact hz (by rw [← h3, h1])
    refine ⟨?_, ?_, ?_, ?_, ?_, ?_⟩
    · intro i hi; rw [nm] at hi; rw [nc]; split
      · rw [swap_len]; exact K.two k hk
      · exact K.two i hi
    · intro i hi; rw [nm] at hi; rw [nc]; split
      · exact ((swap_perm _ (by omega) (by omega)).map _).nodup_iff.2 nd'
      · exact K.nod i hi
    · intro i hi x hx
      rw [nm] at hi
      exact K.lit i hi x ((ro.mem i x).1 hx)
    · intro x i
      rw [nm, nw, nc]
      by_cases hx : x = l
      · subst hx
        rw [if_pos rfl]
        by_cases hi : k = i
        · subst hi
          rw [if_pos rfl, c0, c1]
          constructor
          · intro h; exact absurd h (kw 0)
          · rintro ⟨_, h | h⟩
            · exact absurd h h0l
            · exact absurd h hz
        · rw [if_neg hi]
          have := K.wat x i
          rw [wl] at this
          have e : i ∈ stay ++ ks ↔ i ∈ stay ++ k :: ks := by grind
          rw [e, this]; rfl
      · rw [if_neg hx]
        have := K.wat x i
        rw [ww x hx] at this
        by_cases hi : k = i
        · subst hi
          rw [if_pos rfl, c0, c1]
          by_cases hxz : x = at0 (σ.clause k) j
          · rw [if_pos hxz]; simp [hk, hxz]
          · rw [if_neg hxz, this]
            have h5 : at0 ((σ.setWatch l (stay ++ k :: ks)).clause k) 1 = l := h1
            rw [h5]
            have h6 : ((σ.setWatch l (stay ++ k :: ks)).clause k) = σ.clause k := rfl
            have h7 : ((σ.setWatch l (stay ++ k :: ks)).clauses) = σ.clauses := rfl
            rw [h6, h7]
            simp [hk, Ne.symm hx, Ne.symm hxz]
        · rw [if_neg hi]
          have e : (i ∈ if x = at0 (σ.clause k) j then σ.watch x ++ [k] else σ.watch x) ↔ i ∈ σ.watch x := by grind
          rw [e, this]; rfl
    · intro x
      rw [nw]
      have a := K.wnd l
      rw [wl] at a
      split
      · grind
      · rename_i hx
        have b := K.wnd x
        rw [ww x hx] at b
        split
        · rename_i e; subst e
          rw [List.nodup_append]; exact ⟨b, by simp, by grind⟩
        · exact b
    · rw [nm]; exact K.num
  · simp only [S.watchMore, S.setWatch, S.setClause]; rw [if_neg (fun e => hz e.symm)]
  · intro x y
    show pair ((σ.setClause k (swap (σ.clause k) 1 j)).clause k) x y ↔ _
    rw [cl, if_pos rfl]
    unfold pair
    rw [c0, c1]


theorem Cls.congr {σ τ : S} {V : Nat} {occ : List Nat} (K : Cls σ V occ) (hc : τ.clauses = σ.clauses) (hw : τ.watch = σ.watch) : Cls τ V occ := by
  have e : ∀ k, τ.clause k = σ.clause k := fun k => by unfold S.clause; rw [hc]
  refine ⟨?_, ?_, ?_, ?_, ?_, ?_⟩
  · intro k hk; rw [e]; rw [hc] at hk; exact K.two k hk
  · intro k hk; rw [e]; rw [hc] at hk; exact K.nod k hk
  · intro k hk; rw [e]; rw [hc] at hk; exact K.lit k hk
  · intro l k; rw [e, hc, hw]; exact K.wat l k
  · intro l; rw [hw]; exact K.wnd l
  · rw [hc]; exact K.num

theorem Cls.len {σ : S} {V : Nat} {occ : List Nat} (K : Cls σ V occ) {k : Nat} (hk : k < σ.clauses.length) : (σ.clause k).length ≤ V := by
  have := nodup_bound V _ (K.nod k hk) (by intro x hx; obtain ⟨l, hl, rfl⟩ := List.mem_map.1 hx; exact (K.lit k hk l hl).2.1)
  simpa using this
theorem Cls.wlen {σ : S} {V : Nat} {occ : List Nat} (K : Cls σ V occ) (l : Int) : (σ.watch l).length ≤ 10000 :=
  Nat.le_trans (nodup_bound _ _ (K.wnd l) (fun k hk => ((K.wat l k).1 hk).1)) K.num

theorem reord_watch (σ : S) (f : Int → List Nat) (k : Nat) : Reord σ { σ with watch := f } k := ⟨rfl, rfl, rfl, rfl, rfl, rfl, rfl, rfl, rfl, rfl, rfl, rfl, fun _ _ => Iff.rfl, fun _ _ => rfl⟩

theorem reas_set {σ : S} {V : Nat} (C : Core σ V) (R : Reas σ) {l : Int} (r : Int) (hV : l.natAbs < V) (h1 : l ∉ σ.trail) (h2 : -l ∉ σ.trail) {ms : List Nat} (hm : ms = σ.marks ∨ ms = σ.marks ++ [σ.trail.length])
    (hr : (r = -1 ∧ (ms.length = 0 ∨ σ.trail.length ∈ ms)) ∨ (0 ≤ r ∧ r.toNat < σ.clauses.length ∧ l ∈ σ.clause r.toNat ∧ (∀ x ∈ σ.clause r.toNat, x ≠ l → -x ∈ σ.trail) ∧ ∃ x ∈ σ.clause r.toNat, x ≠ l ∧ ∃ j, j < σ.trail.length ∧ at0 σ.trail j = -x ∧ lv ms j = ms.length)) :
    Reas (({ σ with marks := ms } : S).set l r) := by
  have sz := C.size
  obtain ⟨ev1, ev2, ev3, ev4⟩ := C.even
  have hnew : ∀ x ∈ σ.trail, x.natAbs ≠ l.natAbs := by
    intro x hx he
    rcases Int.natAbs_eq_natAbs_iff.1 he with e | e
    · exact h1 (e ▸ hx)
    · exact h2 (e ▸ hx)
  have hlv : ∀ i, i < σ.trail.length → lv ms i = lv σ.marks i := by
    intro i hi
    rcases hm with rfl | rfl
    · rfl
    · rw [lv_app, if_neg (by omega), Nat.add_zero]
  have htop : lv ms σ.trail.length = ms.length := lv_top (by have := C.mlt; rcases hm with rfl | rfl <;> grind)
  refine ⟨?_⟩
  intro i hi
  simp only [S.set] at hi ⊢
  rw [List.length_append, List.length_singleton] at hi
  rcases Nat.lt_or_ge i σ.trail.length with h | h
  · rw [at0_app_lt h, at0_set _ _ _ _ (by omega), if_neg (fun e => hnew _ (at0_mem h) e.symm), List.take_append_of_le_length (by omega), hlv i h]
    have old := R.of i h
    have hml : i ∈ ms ↔ i ∈ σ.marks := by
      rcases hm with rfl | rfl
      · rfl
      · simp; omega
    rw [hml]
    rcases old with o | ⟨o1, o2, o3, o4, x, o5, o6, j, o7, o8, o9⟩
    · exact .inl o
    · refine .inr ⟨o1, o2, o3, o4, x, o5, o6, j, o7, ?_, ?_⟩
      · rw [at0_app_lt (by omega)]; exact o8
      · rw [hlv j (by omega)]; exact o9
  · have hi2 : i = σ.trail.length := by omega
    subst hi2
    rw [at0_app_len rfl, at0_set _ _ _ _ (by omega), if_pos rfl, htop, List.take_append_of_le_length (Nat.le_refl _), List.take_length]
    rcases hr with ⟨a, b⟩ | ⟨o1, o2, o3, o4, x, o5, o6, j, o7, o8, o9⟩
    · exact .inl ⟨a, b⟩
    · refine .inr ⟨o1, o2, o3, o4, x, o5, o6, j, o7, ?_, o9⟩
      rw [at0_app_lt o7]; exact o8

theorem ext_set {σ : S} {V : Nat} (C : Core σ V) {l : Int} {r : Int} (hr : 0 ≤ r) (hV : l.natAbs < V) (h1 : l ∉ σ.trail) (h2 : -l ∉ σ.trail) : Ext σ (σ.set l r) := by
  have sz := C.size
  obtain ⟨ev1, ev2, ev3, ev4⟩ := C.even
  have hnew : ∀ x ∈ σ.trail, x.natAbs ≠ l.natAbs := by
    intro x hx he
    rcases Int.natAbs_eq_natAbs_iff.1 he with e | e
    · exact h1 (e ▸ hx)
    · exact h2 (e ▸ hx)
  refine ⟨⟨[l], rfl⟩, rfl, rfl, rfl, rfl, rfl, by simp [S.set], rfl, fun _ _ => Iff.rfl, by simp [S.set]; omega, ?_, ?_⟩
  · intro t ht
    simp only [S.set]
    rw [at0_set _ _ _ _ (by omega), if_neg (fun e => hnew t ht e.symm)]
  · intro t ht hn
    simp only [S.set, List.mem_append, List.mem_singleton] at ht ⊢
    rcases ht with ht | ht
    · exact absurd ht hn
    · subst ht; rw [at0_set _ _ _ _ (by omega), if_pos rfl]; exact hr

theorem mem_take_of {xs : List Int} {n : Nat} {x : Int} (h : x ∈ xs.take n) : x ∈ xs := List.mem_of_mem_take h

theorem round_ok {F : Prop} {V : Nat} {occ : List Nat} {l : Int} : ∀ (ks stay : List Nat) (σ : S), Core σ V → Cls (σ.setWatch l (stay ++ ks)) V occ → Reas σ → W2 σ σ.head (fun k x => (x = l ∧ k ∈ ks) ∨ F) →
    (0 < σ.head ∧ σ.head ≤ σ.trail.length ∧ at0 σ.trail (σ.head - 1) = -l) → (∀ m ∈ σ.marks, m < σ.head) → σ.steps + V ≤ 60000 + σ.trail.length →
    ∃ τ r, S.roundO l ks stay σ = some (τ, r) ∧ Core τ V ∧ Cls τ V occ ∧ Reas τ ∧ Ext σ τ ∧ τ.head = σ.head ∧
      ((r = -1 ∧ W2 τ τ.head (fun _ _ => F)) ∨ (0 ≤ r ∧ r.toNat < τ.clauses.length ∧ (∀ x ∈ τ.clause r.toNat, -x ∈ τ.trail) ∧ W2 τ (τ.head - 1) (fun _ _ => F)))
  | [], stay, σ, C, K, R, W, hh, hm, hb => by
    rw [List.append_nil] at K
    have ro := reord_watch σ (fun x => if x = l then stay else σ.watch x) 0
    have ro' : Reord σ (σ.setWatch l stay) 0 := ro
    refine ⟨_, _, rfl, C.reord ro', K, R.reord ro', ro'.ext, rfl, .inl ⟨rfl, ?_⟩⟩
    intro k hk x y hxy hx
    rcases W k hk x y hxy hx with (h | h) | h
    · exact absurd h.2 (by simp)
    · exact .inl h
    · exact .inr h
  | k :: ks, stay, σ, C, K, R, W, hh, hm, hb => by
    have wl : (σ.setWatch l (stay ++ k :: ks)).watch l = stay ++ k :: ks := by simp [S.setWatch]
    have hkw := (K.wat l k).1 (by rw [wl]; simp)
    have hk : k < σ.clauses.length := hkw.1
    have h2 : 2 ≤ (σ.clause k).length := K.two k hk
    have hV : (σ.clause k).length ≤ V := K.len hk
    have hsl := K.wlen l
    rw [wl] at hsl
    simp only [List.length_append, List.length_cons] at hsl
    have bg := C.big
    unfold S.roundO
    rw [if_pos ⟨hk, h2, by omega, by omega⟩]
    simp only []
    have hc1 : at0 ((σ.turned l k).clause k) 1 = l := by
      unfold S.turned
      have h3 : at0 (σ.clause k) 0 = l ∨ at0 (σ.clause k) 1 = l := hkw.2
      split
      · rename_i h; rw [clause_setClause σ hk, if_pos rfl, swap_at _ (by omega) (by omega), if_pos rfl]; exact h
      · rename_i h; rcases h3 with h3 | h3
        · exact absurd h3 h
        · exact h3
    obtain ⟨ro, K', hwt, hp⟩ := turned_ok K hk
    generalize σ.turned l k = τ at ro K' hwt hp hc1 ⊢
    have C' := C.reord ro
    have R' := R.reord ro
    have W' := W.reord ro (fun j x y h => (hp j x y).1 h)
    have hk' : k < τ.clauses.length := by rw [ro.num]; exact hk
    have X := ro.ext
    have hh' : 0 < τ.head ∧ τ.head ≤ τ.trail.length ∧ at0 τ.trail (τ.head - 1) = -l := by rw [ro.head, ro.trail]; exact hh
    have hm' : ∀ m ∈ τ.marks, m < τ.head := by rw [ro.marks, ro.head]; exact hm
    have hb' : τ.steps + V ≤ 60000 + τ.trail.length := by rw [ro.steps, ro.trail]; exact hb
    have hd' : τ.head = σ.head := ro.head
    rw [← hd'] at W'
    clear C R W K hh hm hb wl hkw hp hwt
    suffices G : ∃ υ r, ((τ.ofO (at0 (τ.clause k) 0)).bind fun x =>
        if 0 < x then S.roundO l ks (stay ++ [k]) τ
        else (τ.movesO k ((τ.clause k).length - 2) 2).bind fun (υ, moved) =>
          if υ.watch l = τ.watch l then
            if moved then S.roundO l ks stay υ
            else if x < 0 then some (υ.setWatch l (stay ++ [k] ++ ks), (k : Int))
            else (υ.setO (at0 (τ.clause k) 0) (k : Int)).bind fun φ => S.roundO l ks (stay ++ [k]) φ
          else none) = some (υ, r) ∧ Core υ V ∧ Cls υ V occ ∧ Reas υ ∧ Ext τ υ ∧ υ.head = τ.head ∧
      ((r = -1 ∧ W2 υ υ.head (fun _ _ => F)) ∨ (0 ≤ r ∧ r.toNat < υ.clauses.length ∧ (∀ x ∈ υ.clause r.toNat, -x ∈ υ.trail) ∧ W2 υ (υ.head - 1) (fun _ _ => F))) by
      obtain ⟨υ, r, g1, g2, g3, g4, g5, g6, g7⟩ := G
      exact ⟨υ, r, g1, g2, g3, g4, X.trans g5, g6.trans hd', g7⟩
    clear X hd' ro hk h2 hV
    have h2 : 2 ≤ (τ.clause k).length := K'.two k hk'
    have nd : ((τ.clause k).map Int.natAbs).Nodup := K'.nod k hk'
    have lt : ∀ x ∈ τ.clause k, x ≠ 0 ∧ x.natAbs < V ∧ x.natAbs ∈ occ := K'.lit k hk'
    have a0 := lt _ (at0_mem (xs := τ.clause k) (i := 0) (by omega))
    have hal : at0 (τ.clause k) 0 ≠ l := fun e => by
      have := at0_inj nd (i := 0) (j := 1) (by omega) (by omega) (by rw [e, hc1]); omega
    have ham : at0 (τ.clause k) 0 ∈ τ.clause k := at0_mem (by omega)
    have hlm : l ∈ τ.clause k := by rw [← hc1]; exact at0_mem (by omega)
    have hnl : -l ∈ τ.trail := by rw [← hh'.2.2]; exact at0_mem (by omega)
    have hl : l ∉ τ.trail := fun h => C'.one_way h hnl
    have lvl : τ.level.getD l.natAbs 0 = τ.marks.length := by
      have := C'.lev (τ.head - 1) (by omega)
      rw [hh'.2.2, Int.natAbs_neg] at this
      rw [this, lv_top]; intro m h; have := hm' m h; omega
    have wle : ∀ j, 2 ≤ j → j < (τ.clause k).length → 0 ≤ τ.of (at0 (τ.clause k) j) → (τ.watch (at0 (τ.clause k) j)).length < 60000 := by
      intro j a b _
      have hz := (move_cls K' hk' hc1 a b).1
      have := K'.wlen (at0 (τ.clause k) j)
      simp only [S.setWatch, if_neg hz] at this
      omega
    have mv := moves_ok C' (k := k) (fun x hx => ⟨(lt x hx).1, (lt x hx).2.1⟩) ((τ.clause k).length - 2) 2 (by omega) wle
    have tr := C'.tri a0.1 a0.2.1
    rw [C'.ofO a0.1 a0.2.1]
    simp only [Option.bind_some]
    have pk : ∀ x y, pair (τ.clause k) x y ↔ (x = at0 (τ.clause k) 0 ∧ y = l) ∨ (x = l ∧ y = at0 (τ.clause k) 0) := by
      intro x y; unfold pair; rw [hc1]
    have Kst : Cls (τ.setWatch l (stay ++ [k] ++ ks)) V occ := by rw [List.append_assoc]; exact K'
    by_cases hpos : 0 < τ.of (at0 (τ.clause k) 0)
    · rw [if_pos hpos]
      have hat : at0 (τ.clause k) 0 ∈ τ.trail := by rcases tr with t | t | t <;> first | exact t.1 | (exfalso; omega)
      exact round_ok ks (stay ++ [k]) τ C' Kst R' (by
        intro j hj x y hxy hx
        by_cases hjk : j = k
        · subst hjk
          rcases (pk x y).1 hxy with ⟨rfl, rfl⟩ | ⟨rfl, rfl⟩
          · exact absurd (mem_take_of hx) (C'.one_way hat)
          · right; refine ⟨hat, ?_⟩; rw [lvl]; exact C'.levle hat
        · rcases W' j hj x y hxy hx with (h | h) | h
          · exact .inl (.inl ⟨h.1, by grind⟩)
          · exact .inl (.inr h)
          · exact .inr h) hh' hm' hb'
    · rw [if_neg hpos]
      rcases mv with ⟨mv, fl⟩ | ⟨j, hj, hj2, hjt, mv⟩
      · rw [mv]
        simp only [Option.bind_some, if_true]
        by_cases hneg : τ.of (at0 (τ.clause k) 0) < 0
        · rw [if_neg (by simp), if_pos hneg]
          have hat : -(at0 (τ.clause k) 0) ∈ τ.trail := by rcases tr with t | t | t <;> first | exact t.1 | (exfalso; omega)
          have ro := reord_watch τ (fun x => if x = l then stay ++ [k] ++ ks else τ.watch x) 0
          have ro' : Reord τ (τ.setWatch l (stay ++ [k] ++ ks)) 0 := ro
          refine ⟨_, _, rfl, C'.reord ro', Kst, R'.reord ro', ro'.ext, rfl, .inr ⟨by omega, by rw [Int.toNat_natCast]; exact hk', ?_, ?_⟩⟩
          · rw [Int.toNat_natCast]
            intro x hx
            show -x ∈ τ.trail
            obtain ⟨i, hi, rfl⟩ := mem_at0 (show x ∈ τ.clause k from hx)
            rcases Nat.lt_or_ge i 2 with h | h
            · have : i = 0 ∨ i = 1 := by omega
              rcases this with rfl | rfl
              · exact hat
              · rw [hc1]; exact hnl
            · exact fl i h hi
          · intro j hj x y hxy hx
            have hx' : -x ∈ τ.trail.take (τ.head - 1) := hx
            have hx2 : -x ∈ τ.trail.take τ.head := (List.take_subset_take_left _ (by omega)) hx'
            rcases W' j hj x y hxy hx2 with (h | h) | h
            · exfalso
              obtain ⟨i, hi, e⟩ := mem_at0 hx'
              simp only [List.length_take] at hi
              rw [at0_take (by omega), h.1, ← hh'.2.2] at e
              have := at0_inj C'.nodup (by omega) (by omega) e
              omega
            · exact .inl h
            · exact .inr h
        · rw [if_neg (by simp), if_neg hneg]
          have hun : at0 (τ.clause k) 0 ∉ τ.trail ∧ -(at0 (τ.clause k) 0) ∉ τ.trail := by rcases tr with t | t | t <;> first | exact ⟨t.1, t.2.1⟩ | (exfalso; omega)
          have tl := C'.tlen
          obtain ⟨hs, C2⟩ := set_core C' (k : Int) a0.1 a0.2.1 hun.1 hun.2 (ms := τ.marks) (.inl rfl) (by omega)
          rw [show ({ τ with marks := τ.marks } : S) = τ from rfl] at hs C2
          rw [hs, Option.bind_some]
          have fal : ∀ x ∈ τ.clause k, x ≠ at0 (τ.clause k) 0 → -x ∈ τ.trail := by
            intro x hx hne
            obtain ⟨i, hi, rfl⟩ := mem_at0 hx
            rcases Nat.lt_or_ge i 2 with h | h
            · have : i = 0 ∨ i = 1 := by omega
              rcases this with rfl | rfl
              · exact absurd rfl hne
              · rw [hc1]; exact hnl
            · exact fl i h hi
          have R2 : Reas (τ.set (at0 (τ.clause k) 0) (k : Int)) := reas_set C' R' (k : Int) a0.2.1 hun.1 hun.2 (ms := τ.marks) (.inl rfl) (.inr ⟨by omega, by rw [Int.toNat_natCast]; exact hk', by rw [Int.toNat_natCast]; exact ham, by rw [Int.toNat_natCast]; exact fal, l, by rw [Int.toNat_natCast]; exact hlm, Ne.symm hal, τ.head - 1, by omega, hh'.2.2, lv_top (by intro m h; have := hm' m h; omega)⟩)
          have X2 : Ext τ (τ.set (at0 (τ.clause k) 0) (k : Int)) := ext_set C' (by omega) a0.2.1 hun.1 hun.2
          have ev := C'.even
          have sz := C'.size
          have lvn : ∀ x, (x ∈ τ.trail ∨ -x ∈ τ.trail) → (τ.set (at0 (τ.clause k) 0) (k : Int)).level.getD x.natAbs 0 = τ.level.getD x.natAbs 0 := by
            intro x hx
            simp only [S.set]
            rw [getD_set _ _ _ _ _ (by have := ev.1; omega), if_neg]
            intro e
            rcases Int.natAbs_eq_natAbs_iff.1 e with e | e <;> rcases hx with hx | hx
            · rw [← e] at hx; exact hun.1 hx
            · rw [← e] at hx; exact hun.2 hx
            · rw [e] at hun; exact hun.2 (by rw [Int.neg_neg]; exact hx)
            · rw [e] at hun; exact hun.1 hx
          obtain ⟨υ, r, g1, g2, g3, g4, g5, g6, g7⟩ := round_ok ks (stay ++ [k]) _ C2 (Kst.congr rfl rfl) R2 (by
            intro j hj x y hxy hx
            have hx' : -x ∈ (τ.trail ++ [at0 (τ.clause k) 0]).take τ.head := hx
            rw [List.take_append_of_le_length hh'.2.1] at hx'
            have hxy' : pair (τ.clause j) x y := hxy
            have hxt := mem_take_of hx'
            by_cases hjk : j = k
            · subst hjk
              rcases (pk x y).1 hxy' with ⟨rfl, rfl⟩ | ⟨rfl, rfl⟩
              · exact absurd hxt hun.2
              · right
                refine ⟨by simp [S.set], ?_⟩
                rw [lvn _ (.inr hxt), lvl]
                exact C2.levle (by simp [S.set])
            · rcases W' j hj x y hxy' hx' with (h | h) | h
              · exact .inl (.inl ⟨h.1, by grind⟩)
              · exact .inl (.inr h)
              · right
                refine ⟨by simp [S.set, h.1], ?_⟩
                rw [lvn _ (.inr hxt), lvn _ (.inl h.1)]; exact h.2)
            (by refine ⟨hh'.1, ?_, ?_⟩
                · show τ.head ≤ (τ.trail ++ _).length
                  simp; omega
                · show at0 (τ.trail ++ _) (τ.head - 1) = -l
                  rw [at0_app_lt (by omega)]; exact hh'.2.2)
            hm' (by show τ.steps + 1 + V ≤ 60000 + (τ.trail ++ [at0 (τ.clause k) 0]).length; simp; omega)
          exact ⟨υ, r, g1, g2, g3, g4, X2.trans g5, g6, g7⟩
      · obtain ⟨hz, K2, ro2, hw2, hp2⟩ := move_cls K' hk' hc1 hj hj2
        rw [mv]
        simp only [Option.bind_some]
        rw [if_pos hw2]
        simp only [if_true]
        generalize (τ.setClause k (swap (τ.clause k) 1 j)).watchMore (at0 (τ.clause k) j) k = υ at *
        obtain ⟨φ, r, g1, g2, g3, g4, g5, g6, g7⟩ := round_ok ks stay υ (C'.reord ro2) K2 (R'.reord ro2) (by
          intro i hi x y hxy hx
          rw [ro2.num] at hi
          rw [ro2.trail, ro2.head] at hx
          rw [ro2.trail, ro2.level]
          by_cases hik : i = k
          · subst hik
            rcases (hp2 x y).1 hxy with ⟨rfl, rfl⟩ | ⟨rfl, rfl⟩
            · rcases W' i hi _ l ((pk _ _).2 (.inl ⟨rfl, rfl⟩)) hx with (h | h) | h
              · exact absurd h.1 hal
              · exact .inl (.inr h)
              · exact absurd h.1 hl
            · exact absurd (mem_take_of hx) hjt
          · rw [ro2.oth i hik] at hxy
            rcases W' i hi x y hxy hx with (h | h) | h
            · exact .inl (.inl ⟨h.1, by grind⟩)
            · exact .inl (.inr h)
            · exact .inr h)
          (by rw [ro2.head, ro2.trail]; exact hh') (by rw [ro2.marks, ro2.head]; exact hm') (by rw [ro2.steps, ro2.trail]; exact hb')
        exact ⟨φ, r, g1, g2, g3, g4, ro2.ext.trans g5, g6.trans ro2.head, g7⟩



theorem prop_ok {F : Prop} {V : Nat} {occ : List Nat} : ∀ (n : Nat) (σ : S), Core σ V → Cls σ V occ → Reas σ → W2 σ σ.head (fun _ _ => F) → (∀ m ∈ σ.marks, m ≤ σ.head) → σ.head ≤ σ.trail.length →
    σ.steps + V ≤ 60000 + σ.trail.length → V ≤ n + σ.head →
    ∃ τ r, S.propO n σ = some (τ, r) ∧ Core τ V ∧ Cls τ V occ ∧ Reas τ ∧ Ext σ τ ∧ τ.head ≤ τ.trail.length ∧ (∀ m ∈ τ.marks, m ≤ τ.head) ∧
      ((r = -1 ∧ τ.head = τ.trail.length ∧ W2 τ τ.head (fun _ _ => F)) ∨
       (0 ≤ r ∧ r.toNat < τ.clauses.length ∧ (∀ x ∈ τ.clause r.toNat, -x ∈ τ.trail) ∧ ∃ h, h < τ.trail.length ∧ (∀ m ∈ τ.marks, m ≤ h) ∧ W2 τ h (fun _ _ => F)))
  | 0, σ, C, _, _, _, _, hh, _, hn => by have := C.tlen; omega
  | n + 1, σ, C, K, R, W, hm, hh, hb, hn => by
    have tl := C.tlen
    have bg := C.big
    unfold S.propO
    by_cases he : σ.trail.length ≤ σ.head
    · rw [if_pos he]
      exact ⟨_, _, rfl, C, K, R, Ext.refl _, hh, hm, .inl ⟨rfl, by omega, W⟩⟩
    · rw [if_neg he]
      have hlt : σ.head < σ.trail.length := by omega
      have hmem := at0_mem hlt
      have hlit := C.lits _ hmem
      simp only []
      generalize hl : -(at0 σ.trail σ.head) = l at *
      have el : at0 σ.trail σ.head = -l := by omega
      rw [el] at hlit hmem
      rw [Int.natAbs_neg] at hlit
      have hw := K.wlen l
      rw [if_pos ⟨by omega, by omega, by omega, by omega⟩]
      have C1 : Core { σ with head := σ.head + 1 } V := ⟨C.even, C.size, C.one, C.big, C.lits, C.nodup, C.val, C.asc, C.mlt, C.lev⟩
      have K1 : Cls (({ σ with head := σ.head + 1 } : S).setWatch l ([] ++ σ.watch l)) V occ := by
        refine K.congr rfl ?_
        funext x
        simp only [S.setWatch, List.nil_append]
        split
        · rename_i e; rw [e]
        · rfl
      obtain ⟨τ, r, g1, g2, g3, g4, g5, g6, g7⟩ := round_ok (σ.watch l) [] { σ with head := σ.head + 1 } C1 K1 ⟨R.of⟩ (by
        intro k hk x y hxy hx
        have hx' : -x ∈ σ.trail.take (σ.head + 1) := hx
        by_cases h : -x ∈ σ.trail.take σ.head
        · rcases W k hk x y hxy h with h | h
          · exact .inl (.inr h)
          · exact .inr h
        · left; left
          have hxl : x = l := by
            obtain ⟨i, hi, e⟩ := mem_at0 hx'
            simp only [List.length_take] at hi
            rw [at0_take (by omega)] at e
            rcases Nat.lt_or_ge i σ.head with h3 | h3
            · exfalso; apply h; rw [← e, ← at0_take h3]; exact at0_mem (by simp; omega)
            · have : i = σ.head := by omega
              subst this; omega
          subst hxl
          refine ⟨rfl, (K.wat _ k).2 ⟨hk, ?_⟩⟩
          rcases hxy with ⟨a, _⟩ | ⟨a, _⟩
          · exact .inl a.symm
          · exact .inr a.symm) ⟨by simp, by show σ.head + 1 ≤ σ.trail.length; omega, by show at0 σ.trail (σ.head + 1 - 1) = _; rw [Nat.add_sub_cancel]; exact el⟩ (by intro m h; have := hm m h; show m < σ.head + 1; omega) hb
      have X : Ext σ τ := ⟨g5.trail, g5.marks, g5.log, g5.broken, g5.weight, g5.phase, g5.size, g5.num, g5.mem, g5.steps, g5.olds, g5.news⟩
      rw [g1]
      simp only [Option.bind_some]
      have g6' : τ.head = σ.head + 1 := g6
      obtain ⟨new, ht⟩ := X.trail
      have hlen : σ.trail.length ≤ τ.trail.length := by rw [ht]; simp
      rcases g7 with ⟨rfl, w⟩ | ⟨a, b, c, d⟩
      · rw [if_pos rfl]
        obtain ⟨υ, r, h1, h2, h3, h4, h5, h6⟩ := prop_ok n τ g2 g3 g4 w (by rw [X.marks, g6']; intro m h; have := hm m h; omega) (by omega) (by have := X.steps; omega) (by omega)
        exact ⟨υ, r, h1, h2, h3, h4, X.trans h5, h6⟩
      · rw [if_neg (by omega)]
        refine ⟨τ, r, rfl, g2, g3, g4, X, by omega, by rw [X.marks, g6']; intro m h; have := hm m h; omega, .inr ⟨a, b, c, τ.head - 1, by omega, ?_, d⟩⟩
        rw [X.marks, g6']; intro m h; have := hm m h; omega
end Go.Proofs.YtdllaphnkbnpoaaGreat
