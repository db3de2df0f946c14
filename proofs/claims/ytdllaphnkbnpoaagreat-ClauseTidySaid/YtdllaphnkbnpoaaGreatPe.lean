/- Searching with the pure solver: it answers in few steps, and what it answers. -/
import Derived.Test.YtdllaphnkbnpoaaGreatPd
namespace Go.Proofs.YtdllaphnkbnpoaaGreat

def pot : Nat → List Bool → Nat
  | 0, _ => 0
  | _ + 1, [] => 0
  | d + 1, b :: bs => (if b = true then 2 ^ d else 0) + pot d bs

theorem pot_lt : ∀ (d : Nat) (bs : List Bool), pot d bs < 2 ^ d
  | 0, _ => by simp [pot]
  | d + 1, [] => by simp [pot]; exact Nat.pos_of_ne_zero (by simp)
  | d + 1, b :: bs => by
    have := pot_lt d bs
    unfold pot
    rw [Nat.pow_succ]
    split <;> omega
theorem pot_mono : ∀ (d : Nat) (p q : List Bool), pot d p ≤ pot d (p ++ q)
  | 0, _, _ => by simp [pot]
  | d + 1, [], q => by simp [pot]
  | d + 1, b :: bs, q => by
    have := pot_mono d bs q
    show (if b = true then 2 ^ d else 0) + pot d bs ≤ (if b = true then 2 ^ d else 0) + pot d (bs ++ q)
    omega
theorem pot_jump : ∀ (d : Nat) (p q : List Bool), p.length + 1 ≤ d → pot d (p ++ false :: q) < pot d (p ++ [true])
  | 0, p, q, h => by omega
  | d + 1, [], q, _ => by
    have := pot_lt d q
    show (if false = true then 2 ^ d else 0) + pot d q < (if true = true then 2 ^ d else 0) + pot d []
    simp; omega
  | d + 1, b :: bs, q, h => by
    have := pot_jump d bs q (by simp at h; omega)
    show (if b = true then 2 ^ d else 0) + pot d (bs ++ false :: q) < (if b = true then 2 ^ d else 0) + pot d (bs ++ [true])
    omega

/-- For each variable that occurs and has a value, in order: whether it was not decided. -/
def fl (σ : S) (occ : List Nat) (ps : List Nat) : List Bool := (ps.filter fun i => decide ((at0 σ.trail i).natAbs ∈ occ)).map fun i => decide (i ∉ σ.marks)
def flags (σ : S) (occ : List Nat) : List Bool := fl σ occ (List.range σ.trail.length)

theorem fl_app (σ : S) (occ : List Nat) (a b : List Nat) : fl σ occ (a ++ b) = fl σ occ a ++ fl σ occ b := by simp [fl]
theorem fl_congr {σ τ : S} {occ : List Nat} {ps : List Nat} (h1 : ∀ i ∈ ps, at0 τ.trail i = at0 σ.trail i) (h2 : ∀ i ∈ ps, i ∈ τ.marks ↔ i ∈ σ.marks) : fl τ occ ps = fl σ occ ps := by
  unfold fl
  have e : (ps.filter fun i => decide ((at0 τ.trail i).natAbs ∈ occ)) = (ps.filter fun i => decide ((at0 σ.trail i).natAbs ∈ occ)) := by
    apply List.filter_congr
    intro x hx; rw [h1 x hx]
  rw [e]
  apply List.map_congr_left
  intro x hx
  have := h2 x (List.mem_filter.1 hx).1
  simp only [this]
theorem fl_len (σ : S) (occ : List Nat) (n : Nat) (hn : n ≤ σ.trail.length) : (fl σ occ (List.range n)).length = occN σ occ n := by
  unfold fl occN
  rw [List.length_map]
  have e : σ.trail.take n = (List.range n).map (fun i => at0 σ.trail i) := by
    apply List.ext_getElem
    · simp; omega
    · intro i h1 h2
      simp at h1
      simp [at0]
      grind
  rw [e, List.filter_map, List.length_map]
  rfl

theorem nodup_sub : ∀ (a b : List Nat), a.Nodup → (∀ x ∈ a, x ∈ b) → a.length ≤ b.length
  | [], _, _, _ => by simp
  | x :: a, b, h, hs => by
    have hx := hs x (by simp)
    have := nodup_sub a (b.erase x) (List.nodup_cons.1 h).2 (by
      intro y hy
      have h1 := (List.nodup_cons.1 h).1
      have : y ≠ x := fun e => h1 (e ▸ hy)
      exact (List.mem_erase_of_ne this).2 (hs y (by simp [hy])))
    have := List.length_erase_of_mem hx
    have := List.length_pos_of_mem hx
    simp; omega

theorem occN_le {σ : S} {V : Nat} (C : Core σ V) (occ : List Nat) (n : Nat) : occN σ occ n ≤ occ.length := by
  have := nodup_sub (((σ.trail.take n).filter fun l => decide (l.natAbs ∈ occ)).map Int.natAbs) occ (C.nodup.sublist (((List.filter_sublist).trans (List.take_sublist ..)).map _)) (by
    intro x hx
    obtain ⟨l, hl, rfl⟩ := List.mem_map.1 hx
    simpa using (List.mem_filter.1 hl).2)
  simpa [occN] using this

def nonN (σ : S) (occ : List Nat) : Nat := (σ.trail.filter fun l => decide (l.natAbs ∉ occ)).length
def zeros (w : List Nat) (occ : List Nat) : Nat := (occ.filter fun v => decide (w.getD v 0 = 0)).length

theorem zeros_le (w occ : List Nat) : zeros w occ ≤ occ.length := List.length_filter_le ..
theorem zeros_mono {w w' : List Nat} (h : ∀ v, w.getD v 0 ≤ w'.getD v 0) : ∀ occ : List Nat, zeros w' occ ≤ zeros w occ
  | [] => Nat.le_refl _
  | v :: occ => by
    have ih := zeros_mono h occ
    have := h v
    unfold zeros at *
    rw [List.filter_cons, List.filter_cons]
    by_cases a : w'.getD v 0 = 0
    · rw [if_pos (by simpa using a), if_pos (by simpa using (show w.getD v 0 = 0 by omega))]; simp only [List.length_cons]; omega
    · rw [if_neg (by simpa using a)]; split
      · simp only [List.length_cons]; omega
      · exact ih
theorem zeros_less {w w' : List Nat} (h : ∀ v, w.getD v 0 ≤ w'.getD v 0) {v : Nat} (h0 : w.getD v 0 = 0) (h1 : w'.getD v 0 ≠ 0) : ∀ occ : List Nat, v ∈ occ → zeros w' occ + 1 ≤ zeros w occ
  | [], hv => by simp at hv
  | u :: occ, hv => by
    have mn := zeros_mono h occ
    have := h u
    unfold zeros at *
    rw [List.filter_cons, List.filter_cons]
    rcases List.mem_cons.1 hv with e | hv
    · subst e
      rw [if_neg (by simpa using h1), if_pos (by simpa using h0)]; simp only [List.length_cons]; omega
    · have ih := zeros_less h h0 h1 occ hv
      unfold zeros at ih
      by_cases a : w'.getD u 0 = 0
      · rw [if_pos (by simpa using a), if_pos (by simpa using (show w.getD u 0 = 0 by omega))]; simp only [List.length_cons]; omega
      · rw [if_neg (by simpa using a)]; split
        · simp only [List.length_cons]; omega
        · exact ih

theorem bestN_ok (σ : S) : ∀ (n v best : Nat), best < v → 1 ≤ v → (best ≠ 0 → at0 σ.value best = 0) → (∀ u, 1 ≤ u → u < v → at0 σ.value u = 0 → best ≠ 0 ∧ σ.weight.getD u 0 ≤ σ.weight.getD best 0) →
    σ.bestN n v best < v + n ∧ (σ.bestN n v best ≠ 0 → at0 σ.value (σ.bestN n v best) = 0) ∧ ∀ u, 1 ≤ u → u < v + n → at0 σ.value u = 0 → σ.bestN n v best ≠ 0 ∧ σ.weight.getD u 0 ≤ σ.weight.getD (σ.bestN n v best) 0
  | 0, v, best, h, h1, a, b => ⟨h, a, b⟩
  | n + 1, v, best, h, h1, a, b => by
    unfold S.bestN
    by_cases c : at0 σ.value v = 0 ∧ (best = 0 ∨ σ.weight.getD best 0 < σ.weight.getD v 0)
    · rw [if_pos c]
      have := bestN_ok σ n (v + 1) v (by omega) (by omega) (fun _ => c.1) (by
        intro u hu hu2 h0
        refine ⟨by omega, ?_⟩
        rcases Nat.lt_or_ge u v with q | q
        · have := b u hu q h0
          rcases c.2 with d | d
          · exact absurd d this.1
          · omega
        · have : u = v := by omega
          subst this; exact Nat.le_refl _)
      rw [show v + (n + 1) = v + 1 + n by omega]; exact this
    · rw [if_neg c]
      have := bestN_ok σ n (v + 1) best (by omega) (by omega) a (by
        intro u hu hu2 h0
        rcases Nat.lt_or_ge u v with q | q
        · exact b u hu q h0
        · have : u = v := by omega
          subst this
          by_cases d : best = 0
          · exact absurd ⟨h0, .inl d⟩ c
          · refine ⟨d, ?_⟩
            rcases Nat.lt_or_ge (σ.weight.getD best 0) (σ.weight.getD u 0) with e | e
            · exact absurd ⟨h0, .inr e⟩ c
            · exact e)
      rw [show v + (n + 1) = v + 1 + n by omega]; exact this

theorem decide_ok {σ : S} {V : Nat} (C : Core σ V) :
    (σ.decide_ = 0 → ∀ u, 1 ≤ u → u < V → at0 σ.value u ≠ 0) ∧
    (σ.decide_ ≠ 0 → σ.decide_.natAbs < V ∧ at0 σ.value σ.decide_.natAbs = 0 ∧ ∀ u, 1 ≤ u → u < V → at0 σ.value u = 0 → σ.weight.getD u 0 ≤ σ.weight.getD σ.decide_.natAbs 0) := by
  have b := bestN_ok σ (σ.value.length - 1) 1 0 (by omega) (by omega) (by simp) (by intro u a b; omega)
  have sz := C.size
  have on := C.one
  rw [show 1 + (σ.value.length - 1) = V by omega] at b
  have hd : σ.decide_.natAbs = σ.bestN (σ.value.length - 1) 1 0 := by unfold S.decide_; simp only []; split <;> omega
  have hz : σ.decide_ = 0 ↔ σ.bestN (σ.value.length - 1) 1 0 = 0 := by omega
  constructor
  · intro h u h1 h2 h3
    exact (b.2.2 u h1 h2 h3).1 (hz.1 h)
  · intro h
    rw [hd]
    refine ⟨b.1, b.2.1 (fun e => h (hz.2 e)), fun u h1 h2 h3 => (b.2.2 u h1 h2 h3).2⟩

/-- The counters of the search. -/
structure Cnt (σ : S) (occ : List Nat) (D : List (List Int)) : Prop where
  o12 : occ.length ≤ 12
  oz : 0 ∉ occ
  dn : D.length ≤ 80
  lp : σ.log.length ≤ pot 11 (flags σ occ)
  cn : σ.clauses.length ≤ D.length + σ.log.length
  ww : ∀ v, σ.weight.getD v 0 ≤ σ.log.length ∧ (v ∉ occ → σ.weight.getD v 0 = 0)
  lr : ∀ i, i < σ.log.length → Rup (D ++ σ.log.take i) (σ.log.getD i [])
  ll : ∀ c ∈ σ.log, (∀ x ∈ c, x ≠ 0 ∧ x.natAbs ∈ occ) ∧ c.length ≤ 12
  ct : ∃ cnt, σ.steps + 200 * zeros σ.weight occ ≤ 24 * σ.log.length + occN σ occ σ.trail.length + 2412 + cnt ∧ cnt ≤ nonN σ occ ∧
    (0 < cnt → ∃ m ∈ σ.marks, ∀ v ∈ occ, 0 < σ.weight.getD v 0 → ∃ x ∈ σ.trail.take m, x.natAbs = v)

theorem nonN_le {σ : S} {V : Nat} (C : Core σ V) (occ : List Nat) : nonN σ occ + 1 ≤ V := by
  have := C.tlen
  have h : nonN σ occ ≤ σ.trail.length := List.length_filter_le ..
  omega

theorem Cnt.bound {σ : S} {V : Nat} {occ : List Nat} {D : List (List Int)} (C : Core σ V) (hV : V ≤ 201) (I : Cnt σ occ D) : σ.log.length ≤ 2047 ∧ σ.steps ≤ 51752 := by
  obtain ⟨cnt, h1, h2, _⟩ := I.ct
  have a := I.lp
  have b := pot_lt 11 (flags σ occ)
  have c := nonN_le C occ
  have e := occN_le C occ σ.trail.length
  have f := I.o12
  have g : (2 : Nat) ^ 11 = 2048 := by decide
  omega

theorem range_split {a n : Nat} (h : a ≤ n) : List.range n = List.range a ++ List.range' a (n - a) := by
  have := List.range'_append_1 (s := 0) (m := a) (n := n - a)
  rw [Nat.zero_add, show a + (n - a) = n by omega] at this
  rw [List.range_eq_range', List.range_eq_range']; exact this.symm

theorem occN_all {σ : S} {occ : List Nat} : occN σ occ σ.trail.length = (σ.trail.filter fun l => decide (l.natAbs ∈ occ)).length := by
  unfold occN; rw [List.take_length]

theorem cnt_ext {σ τ : S} {V : Nat} {occ : List Nat} {D : List (List Int)} (C : Core σ V) (C' : Core τ V) (K' : Cls τ V occ) (R' : Reas τ) (X : Ext σ τ) (I : Cnt σ occ D) : Cnt τ occ D := by
  obtain ⟨new, ht⟩ := X.trail
  have hnew : ∀ t ∈ new, t.natAbs ∈ occ := by
    intro t hm
    have h1 : t ∈ τ.trail := by rw [ht]; simp [hm]
    have h2 : t ∉ σ.trail := by
      intro h
      have nd := C'.nodup
      rw [ht, List.map_append, List.nodup_append] at nd
      exact nd.2.2 _ (List.mem_map.2 ⟨t, h, rfl⟩) _ (List.mem_map.2 ⟨t, hm, rfl⟩) rfl
    have h3 := X.news t h1 h2
    obtain ⟨i, hi, e⟩ := mem_at0 h1
    rcases R'.of i hi with ⟨a, _⟩ | ⟨a, b, c, _⟩
    · rw [e] at a; omega
    · rw [e] at b c; exact (K'.lit _ b t c).2.2
  have hocc : occN τ occ τ.trail.length = occN σ occ σ.trail.length + new.length := by
    rw [occN_all, occN_all, ht, List.filter_append, List.length_append]
    congr 1
    rw [List.filter_eq_self.2]
    intro a ha; simpa using hnew a ha
  have hnon : nonN σ occ ≤ nonN τ occ := by unfold nonN; rw [ht, List.filter_append]; simp
  have hfl : ∃ q, flags τ occ = flags σ occ ++ q := by
    have e : List.range τ.trail.length = List.range σ.trail.length ++ List.range' σ.trail.length new.length := by
      rw [ht, List.length_append, range_split (a := σ.trail.length) (n := σ.trail.length + new.length) (by omega), Nat.add_sub_cancel_left]
    refine ⟨fl τ occ (List.range' σ.trail.length new.length), ?_⟩
    unfold flags
    rw [e, fl_app, fl_congr (σ := σ) (τ := τ)]
    · intro i hi; rw [ht, at0_app_lt (by simpa using hi)]
    · intro i _; rw [X.marks]
  refine ⟨I.o12, I.oz, I.dn, ?_, by rw [X.num, X.log]; exact I.cn, by rw [X.weight, X.log]; exact I.ww, by rw [X.log]; exact I.lr, by rw [X.log]; exact I.ll, ?_⟩
  · obtain ⟨q, e⟩ := hfl
    rw [X.log, e]
    exact Nat.le_trans I.lp (pot_mono ..)
  · obtain ⟨cnt, h1, h2, h3⟩ := I.ct
    refine ⟨cnt, ?_, by omega, ?_⟩
    · have := X.steps
      rw [X.log, X.weight, hocc]
      rw [ht, List.length_append] at this
      omega
    · intro h
      obtain ⟨m, hm, hv⟩ := h3 h
      have ml := C.mlt m hm
      refine ⟨m, by rw [X.marks]; exact hm, ?_⟩
      rw [ht, List.take_append_of_le_length (by omega), X.weight]
      exact hv

theorem occN_snoc {σ τ : S} {occ : List Nat} {l : Int} (h : τ.trail = σ.trail ++ [l]) : occN τ occ τ.trail.length = occN σ occ σ.trail.length + (if l.natAbs ∈ occ then 1 else 0) ∧ nonN τ occ = nonN σ occ + (if l.natAbs ∈ occ then 0 else 1) := by
  rw [occN_all, occN_all]
  unfold nonN
  rw [h, List.filter_append, List.filter_append, List.length_append, List.length_append]
  by_cases q : l.natAbs ∈ occ <;> simp [q]

theorem flags_snoc {σ τ : S} {occ : List Nat} {l : Int} (h : τ.trail = σ.trail ++ [l]) (hm : ∀ i, i < σ.trail.length → (i ∈ τ.marks ↔ i ∈ σ.marks)) : ∃ q, flags τ occ = flags σ occ ++ q := by
  refine ⟨fl τ occ [σ.trail.length], ?_⟩
  unfold flags
  rw [h, List.length_append, List.length_singleton, List.range_succ, fl_app, fl_congr (σ := σ) (τ := τ)]
  · intro i hi; rw [h, at0_app_lt (by simpa using hi)]
  · intro i hi; exact hm i (by simpa using hi)

/-- A variable is decided. -/
theorem cnt_decide {σ : S} {V : Nat} {occ : List Nat} {D : List (List Int)} (C : Core σ V) (I : Cnt σ occ D) (h : σ.decide_ ≠ 0) :
    Cnt (({ σ with marks := σ.marks ++ [σ.trail.length] } : S).set σ.decide_ (-1)) occ D := by
  obtain ⟨d1, d2, d3⟩ := (decide_ok C).2 h
  generalize σ.decide_ = l at *
  have ht : (({ σ with marks := σ.marks ++ [σ.trail.length] } : S).set l (-1)).trail = σ.trail ++ [l] := rfl
  have hmk : ∀ i, i < σ.trail.length → (i ∈ (({ σ with marks := σ.marks ++ [σ.trail.length] } : S).set l (-1)).marks ↔ i ∈ σ.marks) := by
    intro i hi
    show i ∈ σ.marks ++ [σ.trail.length] ↔ _
    simp; omega
  obtain ⟨q, hq⟩ := flags_snoc (occ := occ) ht hmk
  obtain ⟨o1, o2⟩ := occN_snoc (occ := occ) ht
  refine ⟨I.o12, I.oz, I.dn, ?_, I.cn, I.ww, I.lr, I.ll, ?_⟩
  · rw [hq]; exact Nat.le_trans I.lp (pot_mono ..)
  · rw [o1, o2]
    obtain ⟨cnt, h1, h2, h3⟩ := I.ct
    show ∃ cnt, σ.steps + 1 + 200 * zeros σ.weight occ ≤ 24 * σ.log.length + _ + 2412 + cnt ∧ _ ∧ (0 < cnt → ∃ m ∈ σ.marks ++ [σ.trail.length], ∀ v ∈ occ, 0 < σ.weight.getD v 0 → ∃ x ∈ (σ.trail ++ [l]).take m, x.natAbs = v)
    by_cases ho : l.natAbs ∈ occ
    · rw [if_pos ho, if_pos ho]
      refine ⟨cnt, by omega, by omega, ?_⟩
      intro hc
      obtain ⟨m, hm, hv⟩ := h3 hc
      have ml := C.mlt m hm
      refine ⟨m, by simp [hm], ?_⟩
      rw [List.take_append_of_le_length (by omega)]
      exact hv
    · rw [if_neg ho, if_neg ho]
      refine ⟨cnt + 1, by omega, by omega, ?_⟩
      intro _
      refine ⟨σ.trail.length, by simp, ?_⟩
      rw [List.take_append_of_le_length (Nat.le_refl _), List.take_length]
      intro v hv hw
      have w0 := (I.ww l.natAbs).2 ho
      have vV : v < V ∧ v ≠ 0 ∨ ¬ (v < V ∧ v ≠ 0) := Classical.em _
      rcases vV with ⟨a, b⟩ | a
      · rcases C.val v b a with ⟨p, _⟩ | ⟨p, _⟩ | ⟨_, _, p⟩
        · exact ⟨_, p, by omega⟩
        · exact ⟨_, p, by omega⟩
        · have := d3 v (by omega) a p; omega
      · exfalso
        apply a
        refine ⟨?_, fun e => I.oz (e ▸ hv)⟩
        rcases Nat.lt_or_ge v V with q | q
        · exact q
        · have ev := C.even
          have sz := C.size
          rw [List.getD_eq_getElem?_getD, List.getElem?_eq_none (by have := ev.2.2.1; omega)] at hw
          simp at hw

theorem mem_take_marks {marks : List Nat} (asc : marks.Pairwise (· < ·)) {n i : Nat} (hn : n < marks.length) (hi : i < marks.getD n 0) : i ∈ marks.take n ↔ i ∈ marks := by
  constructor
  · exact List.mem_of_mem_take
  · intro h
    obtain ⟨j, hj, rfl⟩ := List.getElem_of_mem h
    rcases Nat.lt_or_ge j n with q | q
    · exact List.mem_take_iff_getElem.2 ⟨j, by omega, rfl⟩
    · exfalso
      have : marks[n] ≤ marks[j] := by
        rcases Nat.lt_or_eq_of_le q with e | e
        · exact Nat.le_of_lt (List.pairwise_iff_getElem.1 asc n j hn hj e)
        · subst e; exact Nat.le_refl _
      grind
theorem take_marks_lt {marks : List Nat} (asc : marks.Pairwise (· < ·)) {n i : Nat} (hn : n < marks.length) (hi : i ∈ marks.take n) : i < marks.getD n 0 := by
  obtain ⟨j, hj, rfl⟩ := List.getElem_of_mem hi
  have := List.pairwise_iff_getElem.1 asc j n (by grind) hn (by grind)
  grind

/-- A clause is learnt, the search goes back, the clause's first literal is made true. -/
theorem cnt_learn {τ ψ : S} {V : Nat} {occ : List Nat} {D : List (List Int)} (C : Core τ V) (hV : V ≤ 201) (K : Cls τ V occ) (R : Reas τ) (I : Cnt τ occ D) {c : List Int} {lev : Nat} (L : Learnt τ V occ (D ++ τ.log) c lev)
    {a b : Int} (hab : a ≠ b) (ha : a ∈ τ.trail) (hb : b ∈ τ.trail) (hla : τ.level.getD a.natAbs 0 = τ.marks.length) (hlb : τ.level.getD b.natAbs 0 = τ.marks.length) (hoa : a.natAbs ∈ occ) (hob : b.natAbs ∈ occ)
    {w' : List Nat} {s' : Nat} (hw : ∀ v, τ.weight.getD v 0 ≤ w'.getD v 0 ∧ w'.getD v 0 ≤ τ.weight.getD v 0 + 1 ∧ (v ∉ occ → w'.getD v 0 = τ.weight.getD v 0)) (hwa : w'.getD a.natAbs 0 = τ.weight.getD a.natAbs 0 + 1)
    (hs : s' ≤ τ.steps + occN τ occ τ.trail.length)
    (ht : ψ.trail = τ.trail.take (τ.marks.getD lev 0) ++ [at0 c 0]) (hm : ψ.marks = τ.marks.take lev) (hl : ψ.log = τ.log ++ [c]) (hc : ψ.clauses.length ≤ τ.clauses.length + 1) (hwp : ψ.weight = w') (hsp : ψ.steps = s' + 1) : Cnt ψ occ D := by
  have hlow := L.low
  have hto : τ.marks.getD lev 0 < τ.trail.length := C.mlt _ (by grind)
  have c0m : at0 c 0 ∈ c := at0_mem (by have := L.one; omega)
  have c0 := L.lit _ c0m
  have o12 := I.o12
  have ol := occN_le C occ τ.trail.length
  generalize hT : τ.marks.getD lev 0 = to at *
  refine ⟨I.o12, I.oz, I.dn, ?_, ?_, ?_, ?_, ?_, ?_⟩
  · -- the potential
    have e1 : flags ψ occ = fl τ occ (List.range to) ++ [true] := by
      unfold flags
      have e0 : ψ.trail.length = to + 1 := by rw [ht]; simp; omega
      rw [e0, List.range_succ, fl_app]
      congr 1
      · apply fl_congr
        · intro i hi
          have : i < to := by simpa using hi
          rw [ht, at0_app_lt (by simp; omega), at0_take this]
        · intro i hi
          have : i < to := by simpa using hi
          rw [hm]; exact mem_take_marks C.asc hlow (by omega)
      · have e2 : at0 ψ.trail to = at0 c 0 := by rw [ht]; exact at0_app_len (by simp; omega)
        have e3 : to ∉ ψ.marks := by rw [hm]; intro h; have := take_marks_lt C.asc hlow h; omega
        unfold fl
        rw [List.filter_cons, if_pos (by rw [e2]; simpa using c0.2.2)]
        simp [e3]
    have e2 : flags τ occ = fl τ occ (List.range to) ++ fl τ occ (List.range' to (τ.trail.length - to)) := by
      unfold flags; rw [range_split (a := to) (n := τ.trail.length) (by omega), fl_app]
    have inQ : ∀ j, j ∈ (List.range' to (τ.trail.length - to)).filter (fun i => decide ((at0 τ.trail i).natAbs ∈ occ)) ↔ to ≤ j ∧ j < τ.trail.length ∧ (at0 τ.trail j).natAbs ∈ occ := by
      intro j
      rw [List.mem_filter, List.mem_range'_1, decide_eq_true_iff]
      constructor
      · rintro ⟨⟨x, y⟩, z⟩; exact ⟨x, by omega, z⟩
      · rintro ⟨x, y, z⟩; exact ⟨⟨x, by omega⟩, z⟩
    have pos : ∀ x ∈ τ.trail, τ.level.getD x.natAbs 0 = τ.marks.length → x.natAbs ∈ occ → ∃ j, at0 τ.trail j = x ∧ to ≤ j ∧ j < τ.trail.length ∧ (at0 τ.trail j).natAbs ∈ occ := by
      intro x hx hlx hox
      obtain ⟨j, hj, e⟩ := mem_at0 hx
      refine ⟨j, e, ?_, hj, by rw [e]; exact hox⟩
      rcases Nat.lt_or_ge j to with q | q
      · exfalso
        have h1 := C.lev j hj
        rw [e, hlx] at h1
        have := lv_lo C.asc hlow (i := j) (by omega)
        omega
      · exact q
    obtain ⟨ja, ea, pa⟩ := pos a ha hla hoa
    obtain ⟨jb, eb, pb⟩ := pos b hb hlb hob
    have hjab : ja ≠ jb := fun e => hab (by rw [← ea, ← eb, e])
    have qa := (inQ ja).2 pa
    have qb := (inQ jb).2 pb
    have srt : ((List.range' to (τ.trail.length - to)).filter (fun i => decide ((at0 τ.trail i).natAbs ∈ occ))).Pairwise (· < ·) := (List.pairwise_lt_range').filter _
    have e3 : fl τ occ (List.range' to (τ.trail.length - to)) = ((List.range' to (τ.trail.length - to)).filter (fun i => decide ((at0 τ.trail i).natAbs ∈ occ))).map (fun i => decide (i ∉ τ.marks)) := rfl
    have lenp := fl_len τ occ to (by omega)
    have lent := fl_len τ occ τ.trail.length (Nat.le_refl _)
    have e2' : fl τ occ (List.range τ.trail.length) = _ := e2
    rw [e2', List.length_append, lenp] at lent
    rw [e1, hl, List.length_append, List.length_singleton]
    have lp := I.lp
    rw [e2] at lp
    rw [e3] at lp lent
    rw [List.length_map] at lent
    generalize (List.range' to (τ.trail.length - to)).filter (fun i => decide ((at0 τ.trail i).natAbs ∈ occ)) = Q at *
    match Q, qa, qb, srt, inQ, lp, lent with
    | [], qa, _, _, _, _, _ => simp at qa
    | [q], qa, qb, _, _, _, _ => simp at qa qb; omega
    | q :: q' :: Q, qa, qb, srt, inQ, lp, lent =>
      have hq : q ∈ τ.marks := by
        obtain ⟨b1, b2, b3⟩ := (inQ q).1 (by simp)
        have hlv := lv_hi C.asc hlow (i := q) (by omega)
        rcases R.of q b2 with ⟨_, h | h⟩ | ⟨_, h2, _, _, x, hx, hne, j, hj, ej, elv⟩
        · omega
        · exact h
        · exfalso
          have hjt : to ≤ j := by
            rcases Nat.lt_or_ge j to with z | z
            · have := lv_lo C.asc hlow (i := j) (by omega); omega
            · exact z
          have := (inQ j).2 ⟨hjt, by omega, by rw [ej, Int.natAbs_neg]; exact (K.lit _ h2 x hx).2.2⟩
          rcases List.mem_cons.1 this with e | e
          · omega
          · have := List.rel_of_pairwise_cons srt e; omega
      rw [List.map_cons] at lp
      have hq2 : decide (q ∉ τ.marks) = false := by simp [hq]
      rw [hq2] at lp
      have := pot_jump 11 (fl τ occ (List.range to)) ((q' :: Q).map fun i => decide (i ∉ τ.marks)) (by rw [lenp]; simp at lent; omega)
      omega
  · rw [hl, List.length_append, List.length_singleton]; have := I.cn; omega
  · intro v
    rw [hwp, hl, List.length_append, List.length_singleton]
    have := hw v
    have := I.ww v
    exact ⟨by omega, fun h => by rw [(hw v).2.2 h]; exact this.2 h⟩
  · intro i hi
    rw [hl, List.length_append, List.length_singleton] at hi
    rw [hl]
    rcases Nat.lt_or_ge i τ.log.length with q | q
    · rw [List.take_append_of_le_length (by omega)]
      have := I.lr i q
      have e : (τ.log ++ [c]).getD i [] = τ.log.getD i [] := by grind
      rw [e]; exact this
    · have : i = τ.log.length := by omega
      subst this
      rw [List.take_append_of_le_length (Nat.le_refl _), List.take_length]
      have e : (τ.log ++ [c]).getD τ.log.length [] = c := by grind
      rw [e]; exact L.rup
  · rw [hl]
    intro d hd
    rcases List.mem_append.1 hd with h | h
    · exact I.ll d h
    · rw [List.mem_singleton] at h; subst h
      refine ⟨fun x hx => by have := L.lit x hx; exact ⟨this.1, this.2.2⟩, ?_⟩
      have := nodup_sub (d.map Int.natAbs) occ L.nod (fun y hy => by
        obtain ⟨x, hx, rfl⟩ := List.mem_map.1 hy
        exact (L.lit x hx).2.2)
      have o := I.o12
      rw [List.length_map] at this
      omega
  · obtain ⟨cnt, h1, h2, h3⟩ := I.ct
    have o1 : 1 ≤ occN ψ occ ψ.trail.length := by
      rw [occN_all, ht, List.filter_append]; simp [c0.2.2]
    have nn := nonN_le C occ
    refine ⟨0, ?_, by omega, by intro h; omega⟩
    rw [hsp, hwp, hl, List.length_append, List.length_singleton]
    by_cases hc0 : 0 < cnt
    · obtain ⟨m, hmm, hv⟩ := h3 hc0
      have wa : τ.weight.getD a.natAbs 0 = 0 := by
        rcases Nat.eq_zero_or_pos (τ.weight.getD a.natAbs 0) with z | z
        · exact z
        · exfalso
          obtain ⟨x, hx, ex⟩ := hv _ hoa z
          obtain ⟨j, hj, e⟩ := mem_at0 hx
          have ml := C.mlt m hmm
          simp only [List.length_take] at hj
          rw [at0_take (by omega)] at e
          have h5 := C.lev j (by omega)
          rw [e, ex, hla] at h5
          have := lv_before (i := m) (p := j) hmm (by omega)
          omega
      have := zeros_less (w := τ.weight) (w' := w') (fun v => (hw v).1) wa (by omega) occ hoa
      omega
    · have := zeros_mono (w := τ.weight) (w' := w') (fun v => (hw v).1) occ
      omega
end Go.Proofs.YtdllaphnkbnpoaaGreat
