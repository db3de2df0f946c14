/- Adding clauses to the pure solver: it answers, and what it leaves. -/
import Derived.Test.YtdllaphnkbnpoaaGreatPc
namespace Go.Proofs.YtdllaphnkbnpoaaGreat

/-- A given clause is seen to. -/
def Hd (σ : S) (e : List Int) : Prop :=
  (∃ x ∈ e, -x ∈ e) ∨ (∃ x ∈ e, x ∈ σ.trail ∧ σ.level.getD x.natAbs 0 = 0) ∨ (∃ k, k < σ.clauses.length ∧ ∀ x ∈ σ.clause k, x ∈ e) ∨ σ.broken = true

structure Inv (σ : S) (V : Nat) (occ : List Nat) (D E : List (List Int)) : Prop where
  core : Core σ V
  cls : Cls σ V occ
  reas : Reas σ
  w2 : W2 σ σ.head (fun _ _ => σ.broken = true)
  mh : ∀ m ∈ σ.marks, m ≤ σ.head
  hd : σ.head ≤ σ.trail.length
  ent : Ent σ (D ++ σ.log)
  hol : ∀ e ∈ E, Hd σ e

theorem getD_app0 (xs : List Nat) (i : Nat) : (xs ++ [0]).getD i 0 = xs.getD i 0 := by grind

theorem grow_inv {σ : S} {V : Nat} {occ : List Nat} {D E : List (List Int)} (I : Inv σ V occ D E) (hV : V < 1000) : Inv σ.growOne (V + 1) occ D E := by
  have C := I.core
  have ev := C.even
  have sz := C.size
  have rs : ∀ t ∈ σ.trail, at0 (σ.reason ++ [-1]) t.natAbs = at0 σ.reason t.natAbs := fun t ht => at0_app_lt (by have := (C.lits t ht).2; have := ev.2.1; omega)
  refine ⟨grow_one C hV, ⟨I.cls.two, I.cls.nod, ?_, I.cls.wat, I.cls.wnd, I.cls.num⟩, ⟨?_⟩, ?_, I.mh, I.hd, ⟨I.ent.cl, ?_, I.ent.br⟩, ?_⟩
  · intro k hk x hx
    have := I.cls.lit k hk x hx
    exact ⟨this.1, by omega, this.2.2⟩
  · intro i hi
    have := I.reas.of i hi
    show (at0 (σ.reason ++ [-1]) (at0 σ.trail i).natAbs = -1 ∧ _) ∨ _
    have e := rs _ (at0_mem hi)
    simp only [S.growOne, e]
    exact this
  · intro k hk x y hxy hx
    rcases I.w2 k hk x y hxy hx with h | h
    · exact .inl h
    · right; refine ⟨h.1, ?_⟩
      show (σ.level ++ [0]).getD y.natAbs 0 ≤ (σ.level ++ [0]).getD x.natAbs 0
      rw [getD_app0, getD_app0]; exact h.2
  · intro N hN t ht h0 h1
    refine I.ent.un N hN t ht ?_ ?_
    · have : (σ.level ++ [0]).getD t.natAbs 0 = 0 := h0
      rw [getD_app0] at this; exact this
    · have : at0 (σ.reason ++ [-1]) t.natAbs = -1 := h1
      rw [rs t ht] at this; exact this
  · intro e he
    rcases I.hol e he with h | ⟨x, h1, h2, h3⟩ | h | h
    · exact .inl h
    · right; left; refine ⟨x, h1, h2, ?_⟩
      show (σ.level ++ [0]).getD x.natAbs 0 = 0
      rw [getD_app0]; exact h3
    · exact .inr (.inr (.inl h))
    · exact .inr (.inr (.inr h))

structure AInv (σ : S) (V : Nat) (occ : List Nat) (D E : List (List Int)) : Prop extends Inv σ V occ D E where
  v201 : V ≤ 201
  m0 : σ.marks = []
  l0 : σ.log = []
  w0 : ∀ v, σ.weight.getD v 0 = 0
  st : σ.steps = σ.trail.length
  cn : σ.clauses.length ≤ E.length
  tocc : ∀ t ∈ σ.trail, t.natAbs ∈ occ ∨ [t] ∈ D

theorem growN_inv {occ : List Nat} {D E : List (List Int)} : ∀ (k : Nat) {σ : S} {V : Nat}, AInv σ V occ D E → V + k ≤ 201 →
    AInv (S.growN k σ) (V + k) occ D E ∧ (S.growN k σ).trail = σ.trail
  | 0, _, _, I, _ => ⟨I, rfl⟩
  | k + 1, σ, V, I, h => by
    have := growN_inv k (σ := σ.growOne) (V := V + 1) ⟨grow_inv I.toInv (by omega), by omega, I.m0, I.l0, by
      intro v; show (σ.weight ++ [0]).getD v 0 = 0; rw [getD_app0]; exact I.w0 v, I.st, I.cn, I.tocc⟩ (by omega)
    rw [Nat.add_assoc, Nat.add_comm 1 k] at this
    exact this

theorem grown {σ : S} {V : Nat} {occ : List Nat} {D E : List (List Int)} (I : AInv σ V occ D E) {v : Nat} (hv : v ≤ 200) :
    ∃ τ V', σ.growO v = some τ ∧ AInv τ V' occ D E ∧ τ.trail = σ.trail ∧ V ≤ V' ∧ v < V' := by
  have sz := I.core.size
  have bg := I.v201
  refine ⟨S.growN (v + 1 - σ.value.length) σ, V + (v + 1 - σ.value.length), ?_, ?_⟩
  · unfold S.growO; rw [if_pos ⟨I.core.even, by omega, by omega⟩]
  · obtain ⟨a, b⟩ := growN_inv (v + 1 - σ.value.length) I (by omega)
    exact ⟨a, b, by omega, by omega⟩

theorem scan_add {occ : List Nat} {D E : List (List Int)} {whole : List Int} (hw : whole.length ≤ 60000) :
    ∀ (ls : List Int) {σ : S} {V : Nat} (c : List Int), AInv σ V occ D E → (∀ x ∈ ls, x ∈ whole ∧ x ≠ 0 ∧ x.natAbs ≤ 200) →
      (∀ x ∈ c, x ∈ whole ∧ x ∉ σ.trail ∧ -x ∉ σ.trail ∧ x ≠ 0 ∧ x.natAbs < V) → (c.map Int.natAbs).Nodup →
    ∃ τ V' oc, S.addScanO whole ls σ c = some (τ, oc) ∧ AInv τ V' occ D E ∧ V ≤ V' ∧ τ.trail = σ.trail ∧
      (oc = none → (∃ x ∈ whole, -x ∈ whole) ∨ ∃ x ∈ whole, x ∈ σ.trail) ∧
      (∀ c', oc = some c' → (∀ x ∈ c', x ∈ whole ∧ x ∉ σ.trail ∧ -x ∉ σ.trail ∧ x ≠ 0 ∧ x.natAbs < V') ∧ (c'.map Int.natAbs).Nodup ∧ (∀ x ∈ c, x ∈ c') ∧ ∀ x ∈ ls, x ∈ c' ∨ -x ∈ σ.trail)
  | [], σ, V, c, I, _, hc, hn => ⟨σ, V, some c, rfl, I, Nat.le_refl _, rfl, (fun h => by cases h), fun c' h => by injection h with h; subst h; exact ⟨hc, hn, fun _ h => h, by simp⟩⟩
  | l :: ls, σ, V, c, I, hl, hc, hn => by
    obtain ⟨m1, m2, m3⟩ := hl l (by simp)
    have cl : c.length ≤ V := by
      have := nodup_bound V _ hn (by intro x hx; obtain ⟨y, hy, rfl⟩ := List.mem_map.1 hx; exact (hc y hy).2.2.2.2)
      simpa using this
    have bg := I.v201
    obtain ⟨τ, V1, g1, J, g3, g4, g5⟩ := grown I m3
    unfold S.addScanO
    rw [if_pos ⟨m2, by omega, hw, by omega⟩, g1]
    simp only [Option.bind_some]
    have hc1 : ∀ x ∈ c, x ∈ whole ∧ x ∉ τ.trail ∧ -x ∉ τ.trail ∧ x ≠ 0 ∧ x.natAbs < V1 := by
      intro x hx; rw [g3]; obtain ⟨a, b, d, e, f⟩ := hc x hx; exact ⟨a, b, d, e, by omega⟩
    have hl1 : ∀ x ∈ ls, x ∈ whole ∧ x ≠ 0 ∧ x.natAbs ≤ 200 := fun x hx => hl x (by simp [hx])
    by_cases ht : whole.contains (-l) = true
    · rw [if_pos ht]
      exact ⟨τ, V1, none, rfl, J, g4, g3, fun _ => .inl ⟨l, m1, by simpa using ht⟩, fun c' h => (by cases h)⟩
    · rw [if_neg ht]
      have ht' : -l ∉ whole := by simpa using ht
      rw [J.core.ofO m2 g5]
      simp only [Option.bind_some]
      have tri := J.core.tri m2 g5
      rw [g3] at tri
      by_cases hp : 0 < τ.of l
      · rw [if_pos hp]
        have : l ∈ σ.trail := by rcases tri with t | t | t <;> first | exact t.1 | (exfalso; omega)
        exact ⟨τ, V1, none, rfl, J, g4, g3, fun _ => .inr ⟨l, m1, this⟩, fun c' h => (by cases h)⟩
      · rw [if_neg hp]
        by_cases h0 : τ.of l = 0 ∧ ¬ c.contains l = true
        · rw [if_pos h0]
          have hun : l ∉ σ.trail ∧ -l ∉ σ.trail := by rcases tri with t | t | t <;> first | exact ⟨t.1, t.2.1⟩ | (exfalso; omega)
          have hlc : l ∉ c := by have := h0.2; simpa using this
          obtain ⟨υ, V2, oc, h1, h2, h3, h4, h5, h6⟩ := scan_add hw ls (c ++ [l]) J hl1 (by
            intro x hx
            rcases List.mem_append.1 hx with h | h
            · exact hc1 x h
            · rw [List.mem_singleton] at h; subst h; rw [g3]; exact ⟨m1, hun.1, hun.2, m2, g5⟩) (by
            rw [List.map_append, List.nodup_append]
            refine ⟨hn, by simp, ?_⟩
            intro a ha b hb
            obtain ⟨x, hx, rfl⟩ := List.mem_map.1 ha
            simp at hb
            rw [hb]
            intro e
            rcases Int.natAbs_eq_natAbs_iff.1 e with e | e
            · rw [e] at hx; exact hlc hx
            · rw [e] at hx; exact ht' (hc _ hx).1)
          rw [g3] at h4 h5 h6
          refine ⟨υ, V2, oc, h1, h2, by omega, h4, h5, fun c' hc' => ?_⟩
          obtain ⟨a, b, d, e⟩ := h6 c' hc'
          refine ⟨a, b, fun x hx => d x (by simp [hx]), fun x hx => ?_⟩
          rcases List.mem_cons.1 hx with rfl | hx
          · exact .inl (d x (by simp))
          · exact e x hx
        · rw [if_neg h0]
          obtain ⟨υ, V2, oc, h1, h2, h3, h4, h5, h6⟩ := scan_add hw ls c J hl1 hc1 hn
          rw [g3] at h4 h5 h6
          refine ⟨υ, V2, oc, h1, h2, by omega, h4, h5, fun c' hc' => ?_⟩
          obtain ⟨a, b, d, e⟩ := h6 c' hc'
          refine ⟨a, b, d, fun x hx => ?_⟩
          rcases List.mem_cons.1 hx with rfl | hx
          · rcases tri with t | t | t
            · omega
            · exact .inr t.1
            · left; apply d
              by_cases hcc : c.contains x = true
              · simpa using hcc
              · exact absurd ⟨t.2.2, hcc⟩ h0
          · exact e x hx

theorem keep_clause (σ : S) (c : List Int) (j : Nat) : (σ.keep c).clause j = if j < σ.clauses.length then σ.clause j else if j = σ.clauses.length then c else [] := by
  show (σ.clauses ++ [c]).getD j [] = _
  unfold S.clause
  grind

theorem keep_cls {σ : S} {V : Nat} {occ : List Nat} (K : Cls σ V occ) {c : List Int} (h2 : 2 ≤ c.length) (hn : (c.map Int.natAbs).Nodup) (hl : ∀ x ∈ c, x ≠ 0 ∧ x.natAbs < V ∧ x.natAbs ∈ occ) (hV : V ≤ 1000) (hk : σ.clauses.length < 10000) :
    σ.keepO c = some (σ.keep c) ∧ Cls (σ.keep c) V occ := by
  have cl : c.length ≤ V := by
    have := nodup_bound V _ hn (by intro x hx; obtain ⟨y, hy, rfl⟩ := List.mem_map.1 hx; exact (hl y hy).2.1)
    simpa using this
  have w0 := K.wlen (at0 c 0)
  have w1 := K.wlen (at0 c 1)
  constructor
  · unfold S.keepO; rw [if_pos ⟨h2, by omega, by omega, by omega, by omega⟩]
  · have nm : (σ.keep c).clauses.length = σ.clauses.length + 1 := by simp [S.keep, S.watchMore, S.setWatch]
    have hne : at0 c 0 ≠ at0 c 1 := fun e => by have := at0_inj hn (i := 0) (j := 1) (by omega) (by omega) e; omega
    have wt : ∀ x, (σ.keep c).watch x = if x = at0 c 0 ∨ x = at0 c 1 then σ.watch x ++ [σ.clauses.length] else σ.watch x := by
      intro x; simp only [S.keep, S.watchMore, S.setWatch]; grind
    have new : ∀ x, σ.clauses.length ∉ σ.watch x := fun x h => by have := ((K.wat x _).1 h).1; omega
    refine ⟨?_, ?_, ?_, ?_, ?_, by omega⟩
    · intro k h; rw [keep_clause]; split
      · rename_i q; exact K.two k q
      · rw [if_pos (by omega)]; exact h2
    · intro k h; rw [keep_clause]; split
      · rename_i q; exact K.nod k q
      · rw [if_pos (by omega)]; exact hn
    · intro k h; rw [keep_clause]; split
      · rename_i q; exact K.lit k q
      · rw [if_pos (by omega)]; exact hl
    · intro x k
      rw [wt, nm, keep_clause]
      have old := K.wat x k
      by_cases q : k < σ.clauses.length
      · rw [if_pos q]
        have e : (k ∈ if x = at0 c 0 ∨ x = at0 c 1 then σ.watch x ++ [σ.clauses.length] else σ.watch x) ↔ k ∈ σ.watch x := by
          split
          · simp; omega
          · rfl
        rw [e, old]
        constructor
        · rintro ⟨_, b⟩; exact ⟨by omega, b⟩
        · rintro ⟨_, b⟩; exact ⟨q, b⟩
      · rw [if_neg q]
        by_cases q2 : k = σ.clauses.length
        · rw [if_pos q2]
          subst q2
          constructor
          · intro h
            refine ⟨by omega, ?_⟩
            split at h
            · rename_i p; rcases p with p | p
              · exact .inl p.symm
              · exact .inr p.symm
            · exact absurd h (new x)
          · rintro ⟨_, p⟩
            rw [if_pos (by rcases p with p | p; exact .inl p.symm; exact .inr p.symm)]
            simp
        · constructor
          · intro h
            exfalso
            split at h
            · rw [List.mem_append, old] at h
              rcases h with h | h
              · omega
              · simp at h; omega
            · rw [old] at h; omega
          · rintro ⟨a, _⟩; omega
    · intro x
      rw [wt]
      split
      · rw [List.nodup_append]; exact ⟨K.wnd x, by simp, by have := new x; grind⟩
      · exact K.wnd x

theorem ext_level {σ τ : S} {V V' : Nat} (C : Core σ V) (C' : Core τ V') (X : Ext σ τ) : ∀ t ∈ σ.trail, τ.level.getD t.natAbs 0 = σ.level.getD t.natAbs 0 := by
  intro t ht
  obtain ⟨i, hi, rfl⟩ := mem_at0 ht
  obtain ⟨new, e⟩ := X.trail
  have h1 := C.lev i hi
  have h2 := C'.lev i (by rw [e]; simp; omega)
  rw [e, at0_app_lt hi, X.marks] at h2
  rw [h1, h2]

theorem ent_ext {σ τ : S} {V V' : Nat} {D : List (List Int)} (C : Core σ V) (C' : Core τ V') (X : Ext σ τ) (T : Ent σ D) : Ent τ D := by
  refine ⟨?_, ?_, ?_⟩
  · intro N hN k hk
    rw [X.num] at hk
    have := T.cl N hN k hk
    constructor
    · intro h; exact this.1 (fun x hx => h x ((X.mem k x).2 hx))
    · intro t ht h; exact this.2 t ((X.mem k t).1 ht) (fun x hx => h x ((X.mem k x).2 hx))
  · intro N hN t ht h0 h1
    by_cases h : t ∈ σ.trail
    · exact T.un N hN t h (by rw [← ext_level C C' X t h]; exact h0) (by rw [← X.olds t h]; exact h1)
    · have := X.news t ht h; omega
  · rw [X.broken]; exact T.br

theorem hd_ext {σ τ : S} {V V' : Nat} {e : List Int} (C : Core σ V) (C' : Core τ V') (X : Ext σ τ) (h : Hd σ e) : Hd τ e := by
  obtain ⟨new, ht⟩ := X.trail
  rcases h with h | ⟨x, h1, h2, h3⟩ | ⟨k, h1, h2⟩ | h
  · exact .inl h
  · right; left; exact ⟨x, h1, by rw [ht]; simp [h2], by rw [ext_level C C' X x h2]; exact h3⟩
  · right; right; left; exact ⟨k, by rw [X.num]; exact h1, fun x hx => h2 x ((X.mem k x).1 hx)⟩
  · right; right; right; rw [X.broken]; exact h

theorem unassigned_ne {σ : S} {l : Int} (h1 : l ∉ σ.trail) (h2 : -l ∉ σ.trail) {x : Int} (hx : x ∈ σ.trail ∨ -x ∈ σ.trail) : l.natAbs ≠ x.natAbs := by
  intro e
  rcases Int.natAbs_eq_natAbs_iff.1 e with e | e <;> rcases hx with hx | hx
  · rw [← e] at hx; exact h1 hx
  · rw [← e] at hx; exact h2 hx
  · rw [e] at h2; exact h2 (by rw [Int.neg_neg]; exact hx)
  · rw [e] at h1; exact h1 hx

theorem w2_set {σ : S} {V : Nat} {F : Prop} (C : Core σ V) {h : Nat} (w : W2 σ h (fun _ _ => F)) (hh : h ≤ σ.trail.length) {l : Int} (r : Int) (hV : l.natAbs < V) (h1 : l ∉ σ.trail) (h2 : -l ∉ σ.trail) (ms : List Nat) :
    W2 (({ σ with marks := ms } : S).set l r) h (fun _ _ => F) := by
  have ev := C.even
  have sz := C.size
  intro k hk x y hxy hx
  have hx' : -x ∈ (σ.trail ++ [l]).take h := hx
  rw [List.take_append_of_le_length hh] at hx'
  rcases w k hk x y hxy hx' with q | ⟨q1, q2⟩
  · exact .inl q
  · right
    refine ⟨by show y ∈ σ.trail ++ [l]; simp [q1], ?_⟩
    show (σ.level.set l.natAbs ms.length).getD y.natAbs 0 ≤ (σ.level.set l.natAbs ms.length).getD x.natAbs 0
    rw [getD_set _ _ _ _ _ (by have := ev.1; omega), getD_set _ _ _ _ _ (by have := ev.1; omega), if_neg (unassigned_ne h1 h2 (.inl q1)), if_neg (unassigned_ne h1 h2 (.inr (mem_take_of hx')))]
    exact q2

theorem set_level {σ : S} {V : Nat} (C : Core σ V) {l : Int} (r : Int) (hV : l.natAbs < V) (h1 : l ∉ σ.trail) (h2 : -l ∉ σ.trail) (ms : List Nat) {x : Int} (hx : x ∈ σ.trail ∨ -x ∈ σ.trail) :
    (({ σ with marks := ms } : S).set l r).level.getD x.natAbs 0 = σ.level.getD x.natAbs 0 ∧ at0 (({ σ with marks := ms } : S).set l r).reason x.natAbs = at0 σ.reason x.natAbs := by
  have ev := C.even
  have sz := C.size
  have := unassigned_ne h1 h2 hx
  constructor
  · show (σ.level.set l.natAbs ms.length).getD x.natAbs 0 = _
    rw [getD_set _ _ _ _ _ (by have := ev.1; omega), if_neg this]
  · show at0 (σ.reason.set l.natAbs r) x.natAbs = _
    rw [at0_set _ _ _ _ (by have := ev.2.1; omega), if_neg this]

/-- A clause of which all but some literals are false: what follows. -/
theorem closed_rest {N : Int → Prop} {D : List (List Int)} (hN : Closed N D) {e c : List Int} (he : e ∈ D) (hf : ∀ x ∈ e, x ∈ c ∨ N (-x)) :
    (¬ ∀ x ∈ c, N (-x)) ∧ ∀ t ∈ c, (∀ x ∈ c, x ≠ t → N (-x)) → N t := by
  have key : ∀ x ∈ e, N x → x ∈ c := by
    intro x hx h
    rcases hf x hx with q | q
    · exact q
    · exact absurd q (hN.cons x h)
  constructor
  · intro h
    have all : ∀ x ∈ e, N (-x) := fun x hx => by
      rcases hf x hx with q | q
      · exact h x q
      · exact q
    rcases hN.all e he with ⟨x, hx, h1⟩ | ⟨x, hx, y, hy, _, h1, _⟩
    · exact hN.cons x h1 (all x hx)
    · exact h1 (all x hx)
  · intro t ht h
    have all : ∀ x ∈ e, x ≠ t → N (-x) := fun x hx hne => by
      rcases hf x hx with q | q
      · exact h x q hne
      · exact q
    rcases hN.all e he with ⟨x, hx, h1⟩ | ⟨x, hx, y, hy, hxy, h1, h2⟩
    · by_cases e : x = t
      · rw [← e]; exact h1
      · exact absurd (all x hx e) (hN.cons x h1)
    · exfalso
      by_cases e : x = t
      · exact h2 (all y hy (fun e2 => hxy (by rw [e, e2])))
      · exact h1 (all x hx e)

theorem zero_all {σ : S} {V : Nat} (C : Core σ V) (hm : σ.marks = []) {x : Int} (hx : x ∈ σ.trail) : σ.level.getD x.natAbs 0 = 0 := by
  have := C.levle hx
  rw [hm] at this
  simpa using this

theorem hol_app {σ : S} {E : List (List Int)} {e : List Int} (h : ∀ x ∈ E, Hd σ x) (he : Hd σ e) : ∀ x ∈ E ++ [e], Hd σ x := by
  intro x hx
  rcases List.mem_append.1 hx with q | q
  · exact h x q
  · rw [List.mem_singleton] at q; rw [q]; exact he

theorem ext_occ {σ τ : S} {V : Nat} {occ : List Nat} (K' : Cls τ V occ) (R' : Reas τ) (X : Ext σ τ) : ∀ t ∈ τ.trail, t ∉ σ.trail → t.natAbs ∈ occ := by
  intro t h1 h2
  have h3 := X.news t h1 h2
  obtain ⟨i, hi, e⟩ := mem_at0 h1
  rcases R'.of i hi with ⟨a, _⟩ | ⟨a, b, c, _⟩
  · rw [e] at a; omega
  · rw [e] at b c; exact (K'.lit _ b t c).2.2

theorem add_ok {σ : S} {V : Nat} {occ : List Nat} {D E : List (List Int)} (I : AInv σ V occ D E) {e : List Int} (he : e ∈ D) (hl : ∀ x ∈ e, x ≠ 0 ∧ x.natAbs ≤ 200 ∧ (x.natAbs ∈ occ ∨ e = [x])) (hlen : e.length ≤ 60000) (hE : E.length < 1000) :
    ∃ τ V', σ.addO e = some τ ∧ V ≤ V' ∧ AInv τ V' occ D (E ++ [e]) := by
  have hb : σ.backO 0 = some σ := by unfold S.backO; rw [if_pos (by rw [I.m0]; simp)]
  unfold S.addO
  rw [hb]
  simp only [Option.bind_some]
  obtain ⟨τ, V', oc, h1, J, h3, h4, h5, h6⟩ := scan_add hlen e [] I (fun x hx => ⟨hx, (hl x hx).1, (hl x hx).2.1⟩) (by simp) (by simp)
  rw [h1]
  simp only [Option.bind_some]
  have C := J.core
  have bg := J.v201
  have jm := J.m0
  match oc, h5, h6 with
  | none, h5, _ =>
    refine ⟨τ, V', rfl, h3, ⟨⟨C, J.cls, J.reas, J.w2, J.mh, J.hd, J.ent, hol_app J.hol ?_⟩, bg, jm, J.l0, J.w0, J.st, by have := J.cn; simp; omega, J.tocc⟩⟩
    rcases h5 rfl with h | ⟨x, hx, h⟩
    · exact .inl h
    · rw [← h4] at h; exact .inr (.inl ⟨x, hx, h, zero_all C jm h⟩)
  | some c, _, h6 =>
    obtain ⟨c1, c2, _, c3⟩ := h6 c rfl
    have De : e ∈ D ++ τ.log := List.mem_append_left _ he
    have rest : ∀ N, Closed N (D ++ τ.log) → (¬ ∀ x ∈ c, N (-x)) ∧ ∀ t ∈ c, (∀ x ∈ c, x ≠ t → N (-x)) → N t := by
      intro N hN
      have hz := ent_zero C J.reas J.ent hN
      refine closed_rest hN De (fun x hx => ?_)
      rcases c3 x hx with q | q
      · exact .inl q
      · rw [← h4] at q; exact .inr (hz _ q (zero_all C jm q))
    match c, c1, c2, c3, rest with
    | [], c1, c2, c3, rest =>
      refine ⟨_, V', rfl, h3, ⟨⟨⟨C.even, C.size, C.one, C.big, C.lits, C.nodup, C.val, C.asc, C.mlt, C.lev⟩, J.cls.congr rfl rfl, ⟨J.reas.of⟩, ?_, J.mh, J.hd, ⟨J.ent.cl, J.ent.un, ?_⟩, ?_⟩, bg, jm, J.l0, J.w0, J.st, by have := J.cn; simp; omega, J.tocc⟩⟩
      · intro k _ x y _ _; exact .inl rfl
      · intro _ N hN; exact (rest N hN).1 (by simp)
      · intro x _; exact .inr (.inr (.inr rfl))
    | [l], c1, c2, c3, rest =>
      obtain ⟨q1, q2, q3, q4, q5⟩ := c1 l (by simp)
      rw [← h4] at q2 q3
      have tl := C.tlen
      have hst := J.st
      obtain ⟨s1, s2⟩ := set_core C (-1) q4 q5 q2 q3 (ms := τ.marks) (.inl rfl) (by omega)
      have s3 := reas_set C J.reas (l := l) (-1) q5 q2 q3 (ms := τ.marks) (.inl rfl) (.inl ⟨rfl, .inl (by rw [jm]; rfl)⟩)
      have s4 := w2_set C J.w2 J.hd (-1) q5 q2 q3 τ.marks
      have sl := fun x hx => set_level C (-1) q5 q2 q3 τ.marks (x := x) hx
      have hV : (τ.set l (-1)).value.length = V' := s2.size
      rw [show ({ τ with marks := τ.marks } : S) = τ from rfl] at s1 s2 s3 s4 sl
      have ent2 : Ent (τ.set l (-1)) (D ++ τ.log) := by
        refine ⟨J.ent.cl, ?_, J.ent.br⟩
        intro N hN t ht h0 hr
        have ht' : t ∈ τ.trail ++ [l] := ht
        rcases List.mem_append.1 ht' with q | q
        · exact J.ent.un N hN t q (by rw [← (sl t (.inl q)).1]; exact h0) (by rw [← (sl t (.inl q)).2]; exact hr)
        · rw [List.mem_singleton] at q; subst q
          exact (rest N hN).2 t (by simp) (by intro x hx hne; simp at hx; exact absurd hx hne)
      obtain ⟨φ, r, g1, g2, g3, g4, X, g5, g6, g7⟩ := prop_ok (F := (τ.set l (-1)).broken = true) (occ := occ) ((τ.set l (-1)).value.length + 1) (τ.set l (-1)) s2 (J.cls.congr rfl rfl) s3 s4 J.mh (by show τ.head ≤ (τ.trail ++ [l]).length; have := J.hd; simp; omega) (by show τ.steps + 1 + V' ≤ 60000 + (τ.trail ++ [l]).length; simp; omega) (by rw [hV]; omega)
      have ent3 := ent_ext s2 g2 X ent2
      have lg : φ.log = τ.log := X.log
      have mk0 : φ.marks = [] := X.marks.trans jm
      have st3 : φ.steps = φ.trail.length := by
        have := X.steps
        have e1 : (τ.set l (-1)).steps = τ.steps + 1 := rfl
        have e2 : (τ.set l (-1)).trail.length = τ.trail.length + 1 := by simp [S.set]
        omega
      have hdo : ∀ x ∈ E, Hd φ x := by
        intro x hx
        refine hd_ext s2 g2 X ?_
        rcases J.hol x hx with h | ⟨y, y1, y2, y3⟩ | h | h
        · exact .inl h
        · exact .inr (.inl ⟨y, y1, by show y ∈ τ.trail ++ [l]; simp [y2], by rw [(sl y (.inl y2)).1]; exact y3⟩)
        · exact .inr (.inr (.inl h))
        · exact .inr (.inr (.inr h))
      have lin : l ∈ φ.trail := by obtain ⟨nw, e⟩ := X.trail; rw [e]; simp [S.set]
      have hde : Hd φ e := .inr (.inl ⟨l, q1, lin, zero_all g2 mk0 lin⟩)
      have cn3 : φ.clauses.length ≤ (E ++ [e]).length := by
        have : φ.clauses.length = τ.clauses.length := X.num
        have := J.cn; simp; omega
      have to3 : ∀ t ∈ φ.trail, t.natAbs ∈ occ ∨ [t] ∈ D := by
        intro t ht
        by_cases q : t ∈ (τ.set l (-1)).trail
        · have q' : t ∈ τ.trail ++ [l] := q
          rcases List.mem_append.1 q' with q | q
          · exact J.tocc t q
          · rw [List.mem_singleton] at q; subst q
            rcases (hl t q1).2.2 with z | z
            · exact .inl z
            · exact .inr (z ▸ he)
        · exact .inl (ext_occ g3 g4 X t ht q)
      have w3 : ∀ v, φ.weight.getD v 0 = 0 := by intro v; rw [X.weight]; exact J.w0 v
      show ∃ τ' V'', ((τ.setO l (-1)).bind fun υ => (υ.propO (υ.value.length + 1)).map fun (φ, r) => if r ≠ -1 then ({ φ with broken := true } : S) else φ) = some τ' ∧ _
      rw [s1]
      simp only [Option.bind_some]
      rw [g1]
      rcases g7 with ⟨rfl, g8, g9⟩ | ⟨g8, g9, g10, _⟩
      · refine ⟨φ, V', rfl, h3, ⟨⟨g2, g3, g4, ?_, g6, g5, by rw [lg]; exact ent3, hol_app hdo hde⟩, bg, mk0, by rw [lg]; exact J.l0, w3, st3, cn3, to3⟩⟩
        rw [X.broken]; exact g9
      · have hr : r ≠ -1 := by omega
        refine ⟨{ φ with broken := true }, V', by simp [hr], h3, ⟨⟨⟨g2.even, g2.size, g2.one, g2.big, g2.lits, g2.nodup, g2.val, g2.asc, g2.mlt, g2.lev⟩, g3.congr rfl rfl, ⟨g4.of⟩, ?_, g6, g5, ⟨by rw [lg]; exact ent3.cl, by rw [lg]; exact ent3.un, ?_⟩, ?_⟩, bg, mk0, by show φ.log = []; rw [lg]; exact J.l0, w3, st3, cn3, to3⟩⟩
        · intro k _ x y _ _; exact .inl rfl
        · intro _ N hN
          have hN' : Closed N (D ++ τ.log) := by rw [← lg]; exact hN
          have hz := ent_zero g2 g4 ent3 hN'
          exact (ent3.cl N hN' r.toNat g9).1 (fun x hx => hz _ (g10 x hx) (zero_all g2 mk0 (g10 x hx)))
        · intro x _; exact .inr (.inr (.inr rfl))
    | a :: b :: c, c1, c2, c3, rest =>
      have hcn := J.cn
      have many : ∀ x ∈ a :: b :: c, x.natAbs ∈ occ := fun x hx => by
        rcases (hl x (c1 x hx).1).2.2 with z | z
        · exact z
        · exfalso
          have ha := (c1 a (by simp)).1
          have hb' := (c1 b (by simp)).1
          rw [z, List.mem_singleton] at ha hb'
          simp only [List.map_cons, List.nodup_cons] at c2
          exact c2.1 (by rw [ha, ← hb']; simp)
      obtain ⟨k1, k2⟩ := keep_cls J.cls (c := a :: b :: c) (by simp) c2 (fun x hx => by obtain ⟨p1, _, _, p4, p5⟩ := c1 x hx; exact ⟨p4, p5, many x hx⟩) (by omega) (by omega)
      have nm : (τ.keep (a :: b :: c)).clauses.length = τ.clauses.length + 1 := by simp [S.keep, S.watchMore, S.setWatch]
      refine ⟨τ.keep (a :: b :: c), V', k1, h3, ⟨⟨⟨C.even, C.size, C.one, C.big, C.lits, C.nodup, C.val, C.asc, C.mlt, C.lev⟩, k2, ⟨?_⟩, ?_, J.mh, J.hd, ⟨?_, J.ent.un, J.ent.br⟩, ?_⟩, bg, jm, J.l0, J.w0, J.st, by rw [nm]; simp; omega, J.tocc⟩⟩
      · intro i hi
        rcases J.reas.of i hi with h | ⟨o1, o2, o3, o4, o5⟩
        · exact .inl h
        · right
          refine ⟨o1, ?_, ?_⟩
          · rw [nm]; exact Nat.lt_succ_of_lt o2
          · have e2 : (τ.keep (a :: b :: c)).clause (at0 τ.reason (at0 τ.trail i).natAbs).toNat = τ.clause (at0 τ.reason (at0 τ.trail i).natAbs).toNat := by rw [keep_clause, if_pos o2]
            show at0 τ.trail i ∈ (τ.keep (a :: b :: c)).clause (at0 τ.reason (at0 τ.trail i).natAbs).toNat ∧ (∀ x ∈ (τ.keep (a :: b :: c)).clause (at0 τ.reason (at0 τ.trail i).natAbs).toNat, x ≠ at0 τ.trail i → -x ∈ τ.trail.take i) ∧ ∃ x ∈ (τ.keep (a :: b :: c)).clause (at0 τ.reason (at0 τ.trail i).natAbs).toNat, x ≠ at0 τ.trail i ∧ ∃ j, j < i ∧ at0 τ.trail j = -x ∧ lv τ.marks j = lv τ.marks i
            rw [e2]
            exact ⟨o3, o4, o5⟩
      · intro k hk x y hxy hx
        rw [nm] at hk
        rw [keep_clause] at hxy
        by_cases q : k < τ.clauses.length
        · rw [if_pos q] at hxy; exact J.w2 k q x y hxy hx
        · rw [if_neg q, if_pos (by omega)] at hxy
          exfalso
          have hx' : -x ∈ τ.trail := mem_take_of hx
          have : x ∈ a :: b :: c := by
            rcases hxy with ⟨h, _⟩ | ⟨h, _⟩
            · rw [h]; exact at0_mem (by simp)
            · rw [h]; exact at0_mem (by simp)
          have := (c1 x this).2.2.1
          rw [← h4] at this
          exact this hx'
      · intro N hN k hk
        rw [nm] at hk
        rw [keep_clause]
        by_cases q : k < τ.clauses.length
        · rw [if_pos q]; exact J.ent.cl N hN k q
        · rw [if_neg q, if_pos (by omega)]; exact rest N hN
      · refine hol_app ?_ ?_
        · intro x hx
          rcases J.hol x hx with h | h | ⟨k, k1, k2⟩ | h
          · exact .inl h
          · exact .inr (.inl h)
          · exact .inr (.inr (.inl ⟨k, by rw [nm]; omega, by rw [keep_clause, if_pos k1]; exact k2⟩))
          · exact .inr (.inr (.inr h))
        · exact .inr (.inr (.inl ⟨τ.clauses.length, by rw [nm]; omega, by rw [keep_clause, if_neg (by omega), if_pos rfl]; intro x hx; exact (c1 x hx).1⟩))
end Go.Proofs.YtdllaphnkbnpoaaGreat
