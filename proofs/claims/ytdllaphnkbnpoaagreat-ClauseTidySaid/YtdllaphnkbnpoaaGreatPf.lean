/- The search of the pure solver answers, in few steps, with what refutes or satisfies. -/
import Derived.Test.YtdllaphnkbnpoaaGreatPe
namespace Go.Proofs.YtdllaphnkbnpoaaGreat

/-- What the search answers. -/
def Fin (σ' : S) (r : Int) (occ : List Nat) (D : List (List Int)) : Prop :=
  (r = 0 ∧ (∀ i, i < σ'.log.length → Rup (D ++ σ'.log.take i) (σ'.log.getD i [])) ∧ (∃ L, σ'.log = L ++ [[]]) ∧ (∀ c ∈ σ'.log, (∀ x ∈ c, x ≠ 0 ∧ x.natAbs ∈ occ) ∧ c.length ≤ 12) ∧ σ'.log.length ≤ 2048) ∨
  (r = 1 ∧ 0 < σ'.phase.length ∧ ∀ e ∈ D, ∃ x ∈ e, x ≠ 0 ∧ σ'.isTrue x.natAbs = decide (0 < x))

def Ends (m : Nat) (σ : S) (occ : List Nat) (D : List (List Int)) : Prop :=
  ∃ σ' r, Fin σ' r occ D ∧ σ.steps ≤ σ'.steps ∧ σ'.steps ≤ 60000 ∧ (∀ f, σ'.steps ≤ f → S.searchO f m σ = some (σ', r)) ∧
    (∀ f, f < σ'.steps → ∃ τ r', S.searchO f m σ = some (τ, r') ∧ (r' = 2 ∨ (τ = σ' ∧ r' = r)))

theorem opens_none (σ : S) (seen : List Bool) (now : Nat) (h : ∀ v, seen.getD v false = false) : ∀ n, opens σ seen now n = 0
  | 0 => rfl
  | n + 1 => by unfold opens; rw [opens_none σ seen now h n, h]; simp

theorem repl_false (V v : Nat) : (List.replicate V false).getD v false = false := by
  grind

/-- The first of what holds when a clause is false: its watched literals are of this level. -/
theorem watched_top {σ : S} {V : Nat} {occ : List Nat} (C : Core σ V) (K : Cls σ V occ) {k : Nat} (hk : k < σ.clauses.length) (hf : ∀ x ∈ σ.clause k, -x ∈ σ.trail) {h : Nat} (hh : ∀ m ∈ σ.marks, m ≤ h) (w : W2 σ h (fun _ _ => False)) :
    ∃ a b, a ∈ σ.clause k ∧ b ∈ σ.clause k ∧ a ≠ b ∧ σ.level.getD a.natAbs 0 = σ.marks.length ∧ σ.level.getD b.natAbs 0 = σ.marks.length := by
  have h2 := K.two k hk
  have ma : at0 (σ.clause k) 0 ∈ σ.clause k := at0_mem (by omega)
  have mb : at0 (σ.clause k) 1 ∈ σ.clause k := at0_mem (by omega)
  have key : ∀ x y, pair (σ.clause k) x y → x ∈ σ.clause k → y ∈ σ.clause k → σ.level.getD x.natAbs 0 = σ.marks.length := by
    intro x y hxy hx hy
    obtain ⟨p, hp, ep⟩ := mem_at0 (hf x hx)
    have e := C.lev p hp
    rw [ep, Int.natAbs_neg] at e
    rw [e]
    apply lv_top
    intro m hm
    rcases Nat.lt_or_ge p m with q | q
    · exfalso
      have : -x ∈ σ.trail.take h := by
        rw [← ep, ← at0_take (n := h) (by have := hh m hm; omega)]
        exact at0_mem (by have := hh m hm; simp; omega)
      rcases w k hk x y hxy this with z | z
      · exact z
      · exact C.one_way z.1 (hf y hy)
    · exact q
  refine ⟨_, _, ma, mb, ?_, key _ _ (.inl ⟨rfl, rfl⟩) ma mb, key _ _ (.inr ⟨rfl, rfl⟩) mb ma⟩
  intro e
  have := at0_inj (K.nod k hk) (i := 0) (j := 1) (by omega) (by omega) e
  omega

/-- Behind a conflict: learning answers. -/
theorem learn_top {τ : S} {V : Nat} {occ : List Nat} {D : List (List Int)} (C : Core τ V) (K : Cls τ V occ) (R : Reas τ) (T : Ent τ (D ++ τ.log)) (I : Cnt τ occ D) (hV : V ≤ 201) (hm : 0 < τ.marks.length) {k : Nat} (hk : k < τ.clauses.length)
    (hf : ∀ x ∈ τ.clause k, -x ∈ τ.trail) {a : Int} (ha : a ∈ τ.clause k) (hla : τ.level.getD a.natAbs 0 = τ.marks.length) :
    ∃ w' s' c lev, τ.learnTopO k = some ({ τ with weight := w', steps := s' }, c, lev) ∧ w'.length = V ∧ τ.steps ≤ s' ∧ s' ≤ τ.steps + occN τ occ τ.trail.length ∧
      (∀ v, τ.weight.getD v 0 ≤ w'.getD v 0 ∧ w'.getD v 0 ≤ τ.weight.getD v 0 + 1 ∧ (v ∉ occ → w'.getD v 0 = τ.weight.getD v 0)) ∧
      (∀ x ∈ τ.clause k, τ.level.getD x.natAbs 0 ≠ 0 → w'.getD x.natAbs 0 = τ.weight.getD x.natAbs 0 + 1) ∧ Learnt τ V occ (D ++ τ.log) c lev := by
  have bd := I.bound C hV
  have tl := C.tlen
  have ml := C.mlen
  have sz := C.size
  have ol := occN_le C occ τ.trail.length
  have o12 := I.o12
  unfold S.learnTopO
  rw [if_pos ⟨C.even, by omega, by omega, by omega⟩]
  have sn := fun v => repl_false τ.value.length v
  have Q : LQ τ V occ τ.marks.length τ.trail.length τ.weight ⟨List.replicate τ.value.length false, 0, []⟩ := by
    refine ⟨by have := C.even.2.2.1; omega, by simp [sz], ?_, ?_, ?_, ?_, by simp⟩
    · intro v; rw [sn]; simp
    · intro v hv; rw [sn] at hv; cases hv
    · rw [opens_none _ _ _ sn]; rfl
    · intro x; rw [sn]; simp
  obtain ⟨w', s', c, lev, g1, g2, g3, g4, g5, _, g7, g8⟩ := learn_ok C K R T hm (fun v => by have := (I.ww v).1; omega) (τ.trail.length + 1) τ.weight τ.steps ⟨List.replicate τ.value.length false, 0, []⟩ τ.trail.length k 0 (by omega) (Nat.le_refl _) hk Q
    (fun x hx _ => by rw [List.take_length]; exact hf x hx) (.inr ⟨a, ha, (K.lit k hk a ha).1, hla⟩) (by
      intro N hN _ _ hc
      have hz := ent_zero C R T hN
      refine (T.cl N hN k hk).1 (fun x hx => ?_)
      by_cases h0 : τ.level.getD x.natAbs 0 = 0
      · exact hz _ (hf x hx) (by rw [Int.natAbs_neg]; exact h0)
      · exact hc x hx (K.lit k hk x hx).1 h0) (by omega)
  exact ⟨w', s', c, lev, g1, g2, g3, g4, g5, fun x hx h0 => g7 x hx (K.lit k hk x hx).1 h0, g8⟩

/-- Going back: what is kept. -/
theorem back_inv {τ : S} {V : Nat} {occ : List Nat} {D : List (List Int)} (C : Core τ V) (K : Cls τ V occ) (R : Reas τ) {h : Nat} (hh : ∀ m ∈ τ.marks, m ≤ h) (w : W2 τ h (fun _ _ => False)) (T : Ent τ (D ++ τ.log)) (hol : ∀ e ∈ D, Hd τ e) (hb : τ.broken = false) {lev : Nat} (hlev : lev < τ.marks.length)
    {w' : List Nat} {s' : Nat} (hw : w'.length = V) {c : List Int} :
    ∃ vs ps, ({ τ with weight := w', steps := s', log := τ.log ++ [c] } : S).backO lev = some { τ with weight := w', steps := s', log := τ.log ++ [c], value := vs, phase := ps, trail := τ.trail.take (τ.marks.getD lev 0), marks := τ.marks.take lev, head := τ.marks.getD lev 0 } ∧
      Inv { τ with weight := w', steps := s', log := τ.log ++ [c], value := vs, phase := ps, trail := τ.trail.take (τ.marks.getD lev 0), marks := τ.marks.take lev, head := τ.marks.getD lev 0 } V occ D D := by
  have ev := C.even
  have sz := C.size
  have C1 : Core ({ τ with weight := w', steps := s', log := τ.log ++ [c] } : S) V := ⟨⟨ev.1, ev.2.1, by show w'.length = τ.value.length; omega, ev.2.2.2⟩, C.size, C.one, C.big, C.lits, C.nodup, C.val, C.asc, C.mlt, C.lev⟩
  obtain ⟨vs, ps, b1, b2⟩ := back_core C1 hlev
  refine ⟨vs, ps, b1, b2, K.congr rfl rfl, ⟨?_⟩, ?_, ?_, ?_, ⟨?_, ?_, ?_⟩, ?_⟩
  all_goals have hto : τ.marks.getD lev 0 < τ.trail.length := C.mlt _ (by grind)
  all_goals have tkl : ∀ t ∈ τ.trail.take (τ.marks.getD lev 0), t ∈ τ.trail := fun t ht => List.mem_of_mem_take ht
  · intro i hi
    have hi' : i < τ.marks.getD lev 0 := by
      have : i < (τ.trail.take (τ.marks.getD lev 0)).length := hi
      rw [List.length_take] at this; omega
    have old := R.of i (by omega)
    show (at0 τ.reason (at0 (τ.trail.take _) i).natAbs = -1 ∧ (lv (τ.marks.take lev) i = 0 ∨ i ∈ τ.marks.take lev)) ∨ (0 ≤ at0 τ.reason (at0 (τ.trail.take _) i).natAbs ∧ (at0 τ.reason (at0 (τ.trail.take _) i).natAbs).toNat < τ.clauses.length ∧ at0 (τ.trail.take _) i ∈ τ.clause (at0 τ.reason (at0 (τ.trail.take _) i).natAbs).toNat ∧ (∀ x ∈ τ.clause (at0 τ.reason (at0 (τ.trail.take _) i).natAbs).toNat, x ≠ at0 (τ.trail.take _) i → -x ∈ (τ.trail.take _).take i) ∧ ∃ x ∈ τ.clause (at0 τ.reason (at0 (τ.trail.take _) i).natAbs).toNat, x ≠ at0 (τ.trail.take _) i ∧ ∃ j, j < i ∧ at0 (τ.trail.take _) j = -x ∧ lv (τ.marks.take lev) j = lv (τ.marks.take lev) i)
    rw [at0_take hi', List.take_take, Nat.min_eq_left (by omega), lv_take C.asc hlev hi', mem_take_marks C.asc hlev hi']
    rcases old with o | ⟨o1, o2, o3, o4, x, o5, o6, j, o7, o8, o9⟩
    · exact .inl o
    · exact .inr ⟨o1, o2, o3, o4, x, o5, o6, j, o7, by rw [at0_take (by omega)]; exact o8, by rw [lv_take C.asc hlev (by omega)]; exact o9⟩
  · intro k hk x y hxy hx
    have hx1 : -x ∈ (τ.trail.take (τ.marks.getD lev 0)).take (τ.marks.getD lev 0) := hx
    rw [List.take_take, Nat.min_self] at hx1
    have hmh : τ.marks.getD lev 0 ≤ h := hh _ (by grind)
    rcases w k hk x y hxy ((List.take_subset_take_left _ hmh) hx1) with q | ⟨q1, q2⟩
    · exact q.elim
    · right
      refine ⟨?_, q2⟩
      show y ∈ τ.trail.take (τ.marks.getD lev 0)
      obtain ⟨i, hi, ei⟩ := mem_at0 hx1
      simp only [List.length_take] at hi
      rw [at0_take (by omega)] at ei
      obtain ⟨j, hj, ej⟩ := mem_at0 q1
      have li := C.lev i (by omega)
      have lj := C.lev j hj
      rw [ei, Int.natAbs_neg] at li
      rw [ej] at lj
      have := lv_lo C.asc hlev (i := i) (by omega)
      have hjt : j < τ.marks.getD lev 0 := by
        rcases Nat.lt_or_ge j (τ.marks.getD lev 0) with z | z
        · exact z
        · have := lv_hi C.asc hlev z; omega
      rw [← ej, ← at0_take hjt]
      exact at0_mem (by rw [List.length_take]; omega)
  · intro m hm
    exact Nat.le_of_lt (take_marks_lt C.asc hlev hm)
  · show τ.marks.getD lev 0 ≤ (τ.trail.take (τ.marks.getD lev 0)).length
    rw [List.length_take]; omega
  · intro N hN
    exact T.cl N (hN.mono (by intro e he; show e ∈ D ++ (τ.log ++ [c]); rw [← List.append_assoc]; exact List.mem_append_left _ he))
  · intro N hN t ht h0 h1
    exact T.un N (hN.mono (by intro e he; show e ∈ D ++ (τ.log ++ [c]); rw [← List.append_assoc]; exact List.mem_append_left _ he)) t (tkl t ht) h0 h1
  · intro hbr
    have : τ.broken = true := hbr
    rw [hb] at this; cases this
  · intro e he
    rcases hol e he with q | ⟨x, x1, x2, x3⟩ | q | q
    · exact .inl q
    · right; left
      refine ⟨x, x1, ?_, x3⟩
      show x ∈ τ.trail.take (τ.marks.getD lev 0)
      obtain ⟨j, hj, ej⟩ := mem_at0 x2
      have lj := C.lev j hj
      rw [ej, x3] at lj
      have hjt : j < τ.marks.getD lev 0 := by
        rcases Nat.lt_or_ge j (τ.marks.getD lev 0) with z | z
        · exact z
        · have := lv_hi C.asc hlev z; omega
      rw [← ej, ← at0_take hjt]
      exact at0_mem (by rw [List.length_take]; omega)
    · exact .inr (.inr (.inl q))
    · exact .inr (.inr (.inr q))

theorem hd_set {σ : S} {V : Nat} (C : Core σ V) {l : Int} (r : Int) (hV : l.natAbs < V) (h1 : l ∉ σ.trail) (h2 : -l ∉ σ.trail) (ms : List Nat) {e : List Int} (h : Hd σ e) : Hd (({ σ with marks := ms } : S).set l r) e := by
  rcases h with q | ⟨x, x1, x2, x3⟩ | q | q
  · exact .inl q
  · right; left
    refine ⟨x, x1, by show x ∈ σ.trail ++ [l]; simp [x2], ?_⟩
    rw [(set_level C r hV h1 h2 ms (.inl x2)).1]; exact x3
  · exact .inr (.inr (.inl q))
  · exact .inr (.inr (.inr q))

/-- The learnt clause is kept, and its first literal made true. -/
theorem after_learn {φ : S} {V : Nat} {occ : List Nat} {D : List (List Int)} (I : Inv φ V occ D D) (hh : φ.head = φ.trail.length) (hcn : φ.clauses.length < 10000) (hst : φ.steps < 60000)
    {c : List Int} (hc : c ∈ D ++ φ.log) (h1 : 1 ≤ c.length) (hl : ∀ x ∈ c, x ≠ 0 ∧ x.natAbs < V ∧ x.natAbs ∈ occ) (hn : (c.map Int.natAbs).Nodup) (u1 : at0 c 0 ∉ φ.trail) (u2 : -(at0 c 0) ∉ φ.trail)
    (hf : ∀ j, 1 ≤ j → j < c.length → -(at0 c j) ∈ φ.trail) (hlev : 2 ≤ c.length → φ.level.getD (at0 c 1).natAbs 0 = φ.marks.length) (hu : c.length = 1 → φ.marks = []) :
    ∃ ψ, (if c.length = 1 then φ.setO (at0 c 0) (-1) else (φ.keepO c).bind fun χ => χ.setO (at0 c 0) (φ.clauses.length : Int)) = some ψ ∧ Inv ψ V occ D D ∧
      ψ.trail = φ.trail ++ [at0 c 0] ∧ ψ.marks = φ.marks ∧ ψ.log = φ.log ∧ ψ.clauses.length ≤ φ.clauses.length + 1 ∧ ψ.weight = φ.weight ∧ ψ.steps = φ.steps + 1 := by
  have C := I.core
  have c0 := hl _ (at0_mem (xs := c) (i := 0) (by omega))
  by_cases hone : c.length = 1
  · rw [if_pos hone]
    obtain ⟨s1, s2⟩ := set_core C (-1) c0.1 c0.2.1 u1 u2 (ms := φ.marks) (.inl rfl) hst
    have s3 := reas_set C I.reas (-1) c0.2.1 u1 u2 (ms := φ.marks) (.inl rfl) (.inl ⟨rfl, .inl (by rw [hu hone]; rfl)⟩)
    have s4 := w2_set C I.w2 I.hd (-1) c0.2.1 u1 u2 φ.marks
    have sl := fun x hx => set_level C (-1) c0.2.1 u1 u2 φ.marks (x := x) hx
    have sh := fun e h => hd_set C (-1) c0.2.1 u1 u2 φ.marks (e := e) h
    rw [show ({ φ with marks := φ.marks } : S) = φ from rfl] at s1 s2 s3 s4 sl sh
    refine ⟨_, s1, ⟨s2, I.cls.congr rfl rfl, s3, s4, I.mh, ?_, ⟨I.ent.cl, ?_, I.ent.br⟩, fun e he => sh e (I.hol e he)⟩, rfl, rfl, rfl, Nat.le_succ _, rfl, rfl⟩
    · show φ.head ≤ (φ.trail ++ _).length
      simp; omega
    · intro N hN t ht h0 hr
      have ht' : t ∈ φ.trail ++ [at0 c 0] := ht
      rcases List.mem_append.1 ht' with q | q
      · exact I.ent.un N hN t q (by rw [← (sl t (.inl q)).1]; exact h0) (by rw [← (sl t (.inl q)).2]; exact hr)
      · rw [List.mem_singleton] at q; subst q
        have e : c = [at0 c 0] := by
          match c, hone with
          | [x], _ => rfl
        refine (closed_rest hN hc (c := [at0 c 0]) (fun x hx => .inl (by rw [← e]; exact hx))).2 _ (by simp) ?_
        intro x hx hne
        simp at hx; exact absurd hx hne
  · rw [if_neg hone]
    have h2 : 2 ≤ c.length := by omega
    have bg := C.big
    obtain ⟨k1, k2⟩ := keep_cls I.cls h2 hn hl bg hcn
    rw [k1]
    simp only [Option.bind_some]
    have nm : (φ.keep c).clauses.length = φ.clauses.length + 1 := by simp [S.keep, S.watchMore, S.setWatch]
    have Ck : Core (φ.keep c) V := ⟨C.even, C.size, C.one, C.big, C.lits, C.nodup, C.val, C.asc, C.mlt, C.lev⟩
    have kc := keep_clause φ c
    have hfa : ∀ x ∈ c, x ≠ at0 c 0 → -x ∈ φ.trail := by
      intro x hx hne
      obtain ⟨j, hj, rfl⟩ := mem_at0 hx
      refine hf j ?_ hj
      rcases Nat.eq_zero_or_pos j with z | z
      · subst z; exact absurd rfl hne
      · exact z
    have c1m : at0 c 1 ∈ c := at0_mem (by omega)
    have hne1 : at0 c 1 ≠ at0 c 0 := fun e => by have := at0_inj hn (i := 1) (j := 0) (by omega) (by omega) e; omega
    have Rk : Reas (φ.keep c) := by
      refine ⟨?_⟩
      intro i hi
      rcases I.reas.of i hi with h | ⟨o1, o2, o3, o4, o5⟩
      · exact .inl h
      · right
        have e2 : (φ.keep c).clause (at0 φ.reason (at0 φ.trail i).natAbs).toNat = φ.clause (at0 φ.reason (at0 φ.trail i).natAbs).toNat := by rw [kc, if_pos o2]
        refine ⟨o1, by rw [nm]; exact Nat.lt_succ_of_lt o2, ?_⟩
        show at0 φ.trail i ∈ (φ.keep c).clause (at0 φ.reason (at0 φ.trail i).natAbs).toNat ∧ (∀ x ∈ (φ.keep c).clause (at0 φ.reason (at0 φ.trail i).natAbs).toNat, x ≠ at0 φ.trail i → -x ∈ φ.trail.take i) ∧ ∃ x ∈ (φ.keep c).clause (at0 φ.reason (at0 φ.trail i).natAbs).toNat, x ≠ at0 φ.trail i ∧ ∃ j, j < i ∧ at0 φ.trail j = -x ∧ lv φ.marks j = lv φ.marks i
        rw [e2]
        exact ⟨o3, o4, o5⟩
    obtain ⟨j1, hj1, ej1⟩ := mem_at0 (hfa _ c1m hne1)
    have lj1 := C.lev j1 hj1
    rw [ej1, Int.natAbs_neg, hlev h2] at lj1
    obtain ⟨s1, s2⟩ := set_core Ck (φ.clauses.length : Int) c0.1 c0.2.1 u1 u2 (ms := φ.marks) (.inl rfl) hst
    have knew : (φ.keep c).clause φ.clauses.length = c := by rw [kc, if_neg (by omega), if_pos rfl]
    have s3 := reas_set Ck Rk (l := at0 c 0) (φ.clauses.length : Int) c0.2.1 u1 u2 (ms := φ.marks) (.inl rfl) (.inr ⟨by omega, by rw [Int.toNat_natCast, nm]; omega, by rw [Int.toNat_natCast, knew]; exact at0_mem (by omega), by rw [Int.toNat_natCast, knew]; exact hfa, at0 c 1, by rw [Int.toNat_natCast, knew]; exact c1m, hne1, j1, hj1, ej1, lj1.symm⟩)
    have sl : ∀ x : Int, (x ∈ φ.trail ∨ -x ∈ φ.trail) → ((φ.keep c).set (at0 c 0) (φ.clauses.length : Int)).level.getD x.natAbs 0 = φ.level.getD x.natAbs 0 ∧ at0 ((φ.keep c).set (at0 c 0) (φ.clauses.length : Int)).reason x.natAbs = at0 φ.reason x.natAbs := fun x hx => set_level Ck (φ.clauses.length : Int) c0.2.1 u1 u2 φ.marks (x := x) hx
    have e0 : ({ φ.keep c with marks := φ.marks } : S) = φ.keep c := rfl
    rw [e0] at s1 s2 s3
    refine ⟨_, s1, ⟨s2, k2.congr rfl rfl, s3, ?_, I.mh, ?_, ⟨?_, ?_, I.ent.br⟩, ?_⟩, rfl, rfl, rfl, by show (φ.keep c).clauses.length ≤ _; omega, rfl, rfl⟩
    · intro k hk x y hxy hx
      have hx' : -x ∈ (φ.trail ++ [at0 c 0]).take φ.head := hx
      rw [List.take_append_of_le_length (by omega)] at hx'
      have hk' : k < (φ.keep c).clauses.length := hk
      rw [nm] at hk'
      have hxy' : pair ((φ.keep c).clause k) x y := hxy
      rw [kc] at hxy'
      have hxt : -x ∈ φ.trail := mem_take_of hx'
      by_cases q : k < φ.clauses.length
      · rw [if_pos q] at hxy'
        rcases I.w2 k q x y hxy' hx' with z | ⟨z1, z2⟩
        · exact .inl z
        · right
          refine ⟨by show y ∈ φ.trail ++ [at0 c 0]; simp [z1], ?_⟩
          rw [(sl y (.inl z1)).1, (sl x (.inr hxt)).1]
          exact z2
      · rw [if_neg q, if_pos (by omega)] at hxy'
        rcases hxy' with ⟨rfl, _⟩ | ⟨rfl, rfl⟩
        · exact absurd hxt u2
        · right
          refine ⟨by show at0 c 0 ∈ φ.trail ++ [at0 c 0]; simp, ?_⟩
          rw [(sl _ (.inr hxt)).1]
          show (φ.level.set (at0 c 0).natAbs φ.marks.length).getD (at0 c 0).natAbs 0 ≤ φ.level.getD (at0 c 1).natAbs 0
          rw [getD_set _ _ _ _ _ (by have := C.even.1; have := C.size; omega), if_pos rfl, hlev h2]
          exact Nat.le_refl _
    · show φ.head ≤ (φ.trail ++ _).length
      simp; omega
    · intro N hN k hk
      have hk' : k < (φ.keep c).clauses.length := hk
      rw [nm] at hk'
      show (¬ ∀ x ∈ (φ.keep c).clause k, N (-x)) ∧ ∀ t ∈ (φ.keep c).clause k, (∀ x ∈ (φ.keep c).clause k, x ≠ t → N (-x)) → N t
      rw [kc]
      by_cases q : k < φ.clauses.length
      · rw [if_pos q]; exact I.ent.cl N hN k q
      · rw [if_neg q, if_pos (by omega)]
        exact closed_rest hN hc (fun x hx => .inl hx)
    · intro N hN t ht h0 hr
      have ht' : t ∈ φ.trail ++ [at0 c 0] := ht
      rcases List.mem_append.1 ht' with q | q
      · exact I.ent.un N hN t q (by rw [← (sl t (.inl q)).1]; exact h0) (by rw [← (sl t (.inl q)).2]; exact hr)
      · rw [List.mem_singleton] at q; subst q
        exfalso
        have hr' : at0 (φ.reason.set (at0 c 0).natAbs (φ.clauses.length : Int)) (at0 c 0).natAbs = -1 := hr
        rw [at0_set _ _ _ _ (by have := C.even.2.1; have := C.size; omega), if_pos rfl] at hr'
        omega
    · intro e he
      rcases I.hol e he with q | ⟨x, x1, x2, x3⟩ | ⟨k, q1, q2⟩ | q
      · exact .inl q
      · right; left
        refine ⟨x, x1, by show x ∈ φ.trail ++ [at0 c 0]; simp [x2], ?_⟩
        rw [(sl x (.inl x2)).1]; exact x3
      · right; right; left
        refine ⟨k, by show k < (φ.keep c).clauses.length; omega, ?_⟩
        show ∀ x ∈ (φ.keep c).clause k, x ∈ e
        rw [kc, if_pos q1]; exact q2
      · exact .inr (.inr (.inr q))

theorem searchO_succ (f m : Nat) (σ : S) : S.searchO f (m + 1) σ =
    if σ.broken then (if σ.log.length < 60000 then some ({ σ with log := σ.log ++ [[]] }, 0) else none)
    else (σ.propO (σ.value.length + 1)).bind fun (τ, r) =>
      if τ.marks.length < 60000 ∧ τ.trail.length < 60000 ∧ τ.even ∧ 0 < τ.value.length ∧ τ.value.length ≤ 60000 ∧ τ.log.length < 60000 then
        if r ≠ -1 then
          if τ.marks.length = 0 then S.searchO f m { τ with broken := true }
          else (τ.learnTopO r.toNat).bind fun (υ, c, lev) =>
            if 1 ≤ c.length ∧ c.length ≤ 60000 ∧ lev < 60000 then
              (({ υ with log := υ.log ++ [c] } : S).backO lev).bind fun φ =>
                if c.length = 1 then (φ.setO (at0 c 0) (-1)).bind fun ψ => S.searchO f m ψ
                else (φ.keepO c).bind fun χ => (χ.setO (at0 c 0) (φ.clauses.length : Int)).bind fun ψ => S.searchO f m ψ
            else none
        else if f < τ.steps then some (τ, 2)
        else if τ.decide_ = 0 then some ({ τ with phase := τ.value }, 1)
        else (({ τ with marks := τ.marks ++ [τ.trail.length] } : S).setO τ.decide_ (-1)).bind fun ψ => S.searchO f m ψ
      else none := rfl

theorem pot_nil (d : Nat) : pot d [] = 0 := by cases d <;> rfl

/-- What is true in the end, of a clause that was seen to. -/
theorem holds_end {τ : S} {V : Nat} {occ : List Nat} (C : Core τ V) (K : Cls τ V occ) (w : W2 τ τ.trail.length (fun _ _ => False)) (hb : τ.broken = false) (hall : ∀ u, 1 ≤ u → u < V → at0 τ.value u ≠ 0) {e : List Int} (he : ∀ x ∈ e, x ≠ 0) (h : Hd τ e) :
    ∃ x ∈ e, x ≠ 0 ∧ ({ τ with phase := τ.value } : S).isTrue x.natAbs = decide (0 < x) := by
  have sz := C.size
  have tr : ∀ x ∈ τ.trail, ({ τ with phase := τ.value } : S).isTrue x.natAbs = decide (0 < x) := by
    intro x hx
    have l := C.lits x hx
    unfold S.isTrue
    show decide (x.natAbs < τ.value.length ∧ 0 < at0 τ.value x.natAbs) = _
    rcases C.tri l.1 l.2 with t | t | t
    · unfold S.of at t
      by_cases q : x < 0
      · rw [if_pos q] at t
        rw [decide_eq_false (by omega), decide_eq_false (by omega)]
      · rw [if_neg q] at t
        rw [decide_eq_true (by omega), decide_eq_true (by omega)]
    · exact absurd hx t.2.1
    · exact absurd hx t.1
  rcases h with ⟨x, hx, hx2⟩ | ⟨x, hx, h2, _⟩ | ⟨k, hk, hs⟩ | h
  · have hx0 := he x hx
    cases hb2 : ({ τ with phase := τ.value } : S).isTrue x.natAbs with
    | true =>
      by_cases q : 0 < x
      · exact ⟨x, hx, hx0, by rw [hb2, decide_eq_true q]⟩
      · exact ⟨-x, hx2, by omega, by rw [Int.natAbs_neg, hb2, decide_eq_true (by omega)]⟩
    | false =>
      by_cases q : 0 < x
      · exact ⟨-x, hx2, by omega, by rw [Int.natAbs_neg, hb2, decide_eq_false (by omega)]⟩
      · exact ⟨x, hx, hx0, by rw [hb2, decide_eq_false q]⟩
  · exact ⟨x, hx, he x hx, tr x h2⟩
  · have h2 := K.two k hk
    have ma : at0 (τ.clause k) 0 ∈ τ.clause k := at0_mem (by omega)
    have mb : at0 (τ.clause k) 1 ∈ τ.clause k := at0_mem (by omega)
    have la := K.lit k hk _ ma
    rcases C.tri la.1 la.2.1 with t | t | t
    · exact ⟨_, hs _ ma, la.1, tr _ t.1⟩
    · rcases w k hk _ _ (.inl ⟨rfl, rfl⟩) (by rw [List.take_length]; exact t.1) with z | z
      · exact z.elim
      · exact ⟨_, hs _ mb, he _ (hs _ mb), tr _ z.1⟩
    · exfalso
      have := hall (at0 (τ.clause k) 0).natAbs (by omega) la.2.1
      have h3 := t.2.2
      unfold S.of at h3
      split at h3 <;> omega
  · rw [hb] at h; cases h

theorem search_ok {occ : List Nat} {D : List (List Int)} (hD : ∀ e ∈ D, ∀ x ∈ e, x ≠ 0) : ∀ (m : Nat) (σ : S) (V : Nat), Inv σ V occ D D → Cnt σ occ D → V ≤ 201 → (60002 ≤ m + σ.steps ∨ (σ.broken = true ∧ 1 ≤ m)) → Ends m σ occ D
  | 0, σ, V, I, N, hV, hm => by
    have := N.bound I.core hV
    rcases hm with h | h <;> omega
  | m + 1, σ, V, I, N, hV, hm => by
    have bd := N.bound I.core hV
    have C := I.core
    have tl := C.tlen
    have sz := C.size
    cases hbr : σ.broken with
    | true =>
      refine ⟨{ σ with log := σ.log ++ [[]] }, 0, .inl ⟨rfl, ?_, ⟨_, rfl⟩, ?_, ?_⟩, Nat.le_refl _, by show σ.steps ≤ 60000; omega, ?_, ?_⟩
      · intro i hi
        show Rup (D ++ (σ.log ++ [[]]).take i) ((σ.log ++ [[]]).getD i [])
        have hi' : i < (σ.log ++ [[]]).length := hi
        rw [List.length_append, List.length_singleton] at hi'
        rcases Nat.lt_or_ge i σ.log.length with q | q
        · rw [List.take_append_of_le_length (by omega)]
          have e : (σ.log ++ [[]]).getD i [] = σ.log.getD i [] := by grind
          rw [e]; exact N.lr i q
        · have : i = σ.log.length := by omega
          subst this
          rw [List.take_append_of_le_length (Nat.le_refl _), List.take_length]
          intro P hP
          exact absurd hP (I.ent.br hbr P)
      · intro c hc
        have hc' : c ∈ σ.log ++ [[]] := hc
        rcases List.mem_append.1 hc' with q | q
        · exact N.ll c q
        · simp at q; subst q; simp
      · show (σ.log ++ [[]]).length ≤ 2048
        simp; omega
      · intro f _
        rw [searchO_succ, if_pos hbr, if_pos (by omega)]
      · intro f _
        refine ⟨{ σ with log := σ.log ++ [[]] }, 0, ?_, .inr ⟨rfl, rfl⟩⟩
        rw [searchO_succ, if_pos hbr, if_pos (by omega)]
    | false =>
      have hm' : 60002 ≤ m + 1 + σ.steps := by
        rcases hm with h | h
        · exact h
        · rw [hbr] at h; cases h.1
      have w2 : W2 σ σ.head (fun _ _ => False) := by
        intro k hk x y hxy hx
        rcases I.w2 k hk x y hxy hx with h | h
        · rw [hbr] at h; cases h
        · exact .inr h
      obtain ⟨τ, r, p1, C2, K2, R2, X, p5, p6, p7⟩ := prop_ok (σ.value.length + 1) σ C I.cls I.reas w2 I.mh I.hd (by omega) (by omega)
      have T2 := ent_ext C C2 X I.ent
      rw [← X.log] at T2
      have N2 := cnt_ext C C2 K2 R2 X N
      have hol2 : ∀ e ∈ D, Hd τ e := fun e he => hd_ext C C2 X (I.hol e he)
      have bd2 := N2.bound C2 hV
      have tl2 := C2.tlen
      have ml2 := C2.mlen
      have sz2 := C2.size
      have on2 := C2.one
      have brt : τ.broken = false := X.broken.trans hbr
      have stm : σ.steps ≤ τ.steps := by
        obtain ⟨new, e⟩ := X.trail
        have := X.steps
        rw [e, List.length_append] at this; omega
      have chk : τ.marks.length < 60000 ∧ τ.trail.length < 60000 ∧ τ.even ∧ 0 < τ.value.length ∧ τ.value.length ≤ 60000 ∧ τ.log.length < 60000 := ⟨by omega, by omega, C2.even, by omega, by omega, by omega⟩
      have step : ∀ f, S.searchO f (m + 1) σ = if r ≠ -1 then
          if τ.marks.length = 0 then S.searchO f m { τ with broken := true }
          else (τ.learnTopO r.toNat).bind fun (υ, c, lev) =>
            if 1 ≤ c.length ∧ c.length ≤ 60000 ∧ lev < 60000 then
              (({ υ with log := υ.log ++ [c] } : S).backO lev).bind fun φ =>
                if c.length = 1 then (φ.setO (at0 c 0) (-1)).bind fun ψ => S.searchO f m ψ
                else (φ.keepO c).bind fun χ => (χ.setO (at0 c 0) (φ.clauses.length : Int)).bind fun ψ => S.searchO f m ψ
            else none
        else if f < τ.steps then some (τ, 2)
        else if τ.decide_ = 0 then some ({ τ with phase := τ.value }, 1)
        else (({ τ with marks := τ.marks ++ [τ.trail.length] } : S).setO τ.decide_ (-1)).bind fun ψ => S.searchO f m ψ := by
        intro f
        rw [searchO_succ, if_neg (by rw [hbr]; simp), p1]
        simp only [Option.bind_some]
        rw [if_pos chk]
      rcases p7 with ⟨rfl, q1, q2⟩ | ⟨q1, q2, q3, h, q4, q5, q6⟩
      · -- quiet
        by_cases hd : τ.decide_ = 0
        · refine ⟨{ τ with phase := τ.value }, 1, .inr ⟨rfl, by show 0 < τ.value.length; omega, ?_⟩, stm, by show τ.steps ≤ 60000; omega, ?_, ?_⟩
          · intro e he
            exact holds_end C2 K2 (by rw [← q1]; exact q2) brt ((decide_ok C2).1 hd) (hD e he) (hol2 e he)
          · intro f hf
            have hf' : τ.steps ≤ f := hf
            rw [step, if_neg (by simp), if_neg (by omega), if_pos hd]
          · intro f hf
            have hf' : f < τ.steps := hf
            exact ⟨τ, 2, by rw [step, if_neg (by simp), if_pos hf'], .inl rfl⟩
        · have dk := (decide_ok C2).2 hd
          have N3 := cnt_decide C2 N2 hd
          have v0 := dk.2.1
          have un : τ.decide_ ∉ τ.trail ∧ -τ.decide_ ∉ τ.trail := by
            rcases C2.tri hd dk.1 with t | t | t
            · exfalso; have := t.2.2; unfold S.of at this; split at this <;> omega
            · exfalso; have := t.2.2; unfold S.of at this; split at this <;> omega
            · exact ⟨t.1, t.2.1⟩
          obtain ⟨s1, s2⟩ := set_core C2 (-1) hd dk.1 un.1 un.2 (ms := τ.marks ++ [τ.trail.length]) (.inr rfl) (by omega)
          have s3 := reas_set C2 R2 (-1) dk.1 un.1 un.2 (ms := τ.marks ++ [τ.trail.length]) (.inr rfl) (.inl ⟨rfl, .inr (by simp)⟩)
          have s4 := w2_set C2 q2 (by omega) (-1) dk.1 un.1 un.2 (τ.marks ++ [τ.trail.length])
          have sl := fun x hx => set_level C2 (-1) dk.1 un.1 un.2 (τ.marks ++ [τ.trail.length]) (x := x) hx
          have sh := fun e h => hd_set C2 (-1) dk.1 un.1 un.2 (τ.marks ++ [τ.trail.length]) (e := e) h
          have ev2 := C2.even
          have I3 : Inv (({ τ with marks := τ.marks ++ [τ.trail.length] } : S).set τ.decide_ (-1)) V occ D D := by
            refine ⟨s2, K2.congr rfl rfl, s3, ?_, ?_, ?_, ⟨T2.cl, ?_, T2.br⟩, fun e he => sh e (hol2 e he)⟩
            · intro k hk x y hxy hx
              rcases s4 k hk x y hxy hx with z | z
              · exact z.elim
              · exact .inr z
            · intro mm hmm
              have : mm ∈ τ.marks ++ [τ.trail.length] := hmm
              show mm ≤ τ.head
              have := C2.mlt
              grind
            · show τ.head ≤ (τ.trail ++ _).length
              simp; omega
            · intro P hP t ht h0 hr
              have ht' : t ∈ τ.trail ++ [τ.decide_] := ht
              rcases List.mem_append.1 ht' with z | z
              · exact T2.un P hP t z (by have := (sl t (.inl z)).1; rw [h0] at this; exact this.symm) (by have := (sl t (.inl z)).2; rw [hr] at this; exact this.symm)
              · rw [List.mem_singleton] at z; subst z
                exfalso
                have h0' : (τ.level.set τ.decide_.natAbs (τ.marks ++ [τ.trail.length]).length).getD τ.decide_.natAbs 0 = 0 := h0
                rw [getD_set _ _ _ _ _ (by have := ev2.1; omega), if_pos rfl] at h0'
                simp at h0'
          obtain ⟨σ', r', e1, e2, e3, e4, e5⟩ := search_ok hD m _ V I3 N3 hV (.inl (by show 60002 ≤ m + (τ.steps + 1); omega))
          have e2' : τ.steps + 1 ≤ σ'.steps := e2
          refine ⟨σ', r', e1, by omega, e3, ?_, ?_⟩
          · intro f hf
            rw [step, if_neg (by simp), if_neg (by omega), if_neg hd, s1, Option.bind_some]
            exact e4 f hf
          · intro f hf
            by_cases hft : f < τ.steps
            · exact ⟨τ, 2, by rw [step, if_neg (by simp), if_pos hft], .inl rfl⟩
            · obtain ⟨a, b, c, d⟩ := e5 f hf
              exact ⟨a, b, by rw [step, if_neg (by simp), if_neg hft, if_neg hd, s1, Option.bind_some]; exact c, d⟩
      · -- a conflict
        have hr : r ≠ -1 := by omega
        by_cases hm0 : τ.marks.length = 0
        · have mk0 := List.eq_nil_of_length_eq_zero hm0
          have I3 : Inv { τ with broken := true } V occ D D := by
            refine ⟨⟨C2.even, C2.size, C2.one, C2.big, C2.lits, C2.nodup, C2.val, C2.asc, C2.mlt, C2.lev⟩, K2.congr rfl rfl, ⟨R2.of⟩, ?_, p6, p5, ⟨T2.cl, T2.un, ?_⟩, fun e he => ?_⟩
            · intro k _ x y _ _; exact .inl rfl
            · intro _ P hP
              have hP' : Closed P (D ++ τ.log) := hP
              have hz := ent_zero C2 R2 T2 hP'
              exact (T2.cl P hP' r.toNat q2).1 (fun x hx => hz _ (q3 x hx) (zero_all C2 mk0 (q3 x hx)))
            · exact .inr (.inr (.inr rfl))
          have N3 : Cnt { τ with broken := true } occ D := ⟨N2.o12, N2.oz, N2.dn, N2.lp, N2.cn, N2.ww, N2.lr, N2.ll, N2.ct⟩
          obtain ⟨σ', r', e1, e2, e3, e4, e5⟩ := search_ok hD m _ V I3 N3 hV (.inr ⟨rfl, by omega⟩)
          have e2' : τ.steps ≤ σ'.steps := e2
          refine ⟨σ', r', e1, by omega, e3, ?_, ?_⟩
          · intro f hf
            rw [step, if_pos hr, if_pos hm0]; exact e4 f hf
          · intro f hf
            obtain ⟨a, b, c, d⟩ := e5 f hf
            exact ⟨a, b, by rw [step, if_pos hr, if_pos hm0]; exact c, d⟩
        · obtain ⟨a, b, ha, hb, hab, hla, hlb⟩ := watched_top C2 K2 q2 q3 q5 q6
          obtain ⟨w', s', c, lev, l1, l2, l3, l4, l5, l6, L⟩ := learn_top C2 K2 R2 T2 N2 hV (by omega) q2 q3 ha hla
          have cl : c.length ≤ V := by
            have := nodup_bound V _ L.nod (by intro x hx; obtain ⟨y, hy, rfl⟩ := List.mem_map.1 hx; exact (L.lit y hy).2.1)
            simpa using this
          have low := L.low
          have one := L.one
          have ol := occN_le C2 occ τ.trail.length
          have o12 := N2.o12
          obtain ⟨vs, ps, b1, b2⟩ := back_inv C2 K2 R2 q5 q6 T2 hol2 brt low (s' := s') l2 (c := c)
          have hto : τ.marks.getD lev 0 < τ.trail.length := C2.mlt _ (by grind)
          have c0m : at0 c 0 ∈ c := at0_mem (by omega)
          have posn : ∀ x ∈ c, ∃ j, j < τ.trail.length ∧ at0 τ.trail j = -x ∧ τ.level.getD x.natAbs 0 = lv τ.marks j := by
            intro x hx
            obtain ⟨j, hj, ej⟩ := mem_at0 (L.neg x hx)
            refine ⟨j, hj, ej, ?_⟩
            have := C2.lev j hj
            rw [ej, Int.natAbs_neg] at this; exact this
          obtain ⟨j0, hj0, ej0, lj0⟩ := posn _ c0m
          have u2 : -(at0 c 0) ∉ τ.trail.take (τ.marks.getD lev 0) := by
            intro hx
            obtain ⟨j, hj, ej⟩ := mem_at0 hx
            simp only [List.length_take] at hj
            rw [at0_take (by omega)] at ej
            have := C2.lev j (by omega)
            rw [ej, Int.natAbs_neg, L.top] at this
            have := lv_lo C2.asc low (i := j) (by omega)
            omega
          have u1 : at0 c 0 ∉ τ.trail.take (τ.marks.getD lev 0) := fun hx => C2.one_way (mem_take_of hx) (L.neg _ c0m)
          obtain ⟨ψ, k1, k2, k3, k4, k5, k6, k7, k8⟩ := after_learn b2 (by show τ.marks.getD lev 0 = (τ.trail.take (τ.marks.getD lev 0)).length; rw [List.length_take]; omega) (by show τ.clauses.length < 10000; have := N2.cn; have := N2.dn; omega) (by show s' < 60000; omega)
            (c := c) (by show c ∈ D ++ (τ.log ++ [c]); simp) one L.lit L.nod u1 u2 (by
              intro j hj hj2
              show -(at0 c j) ∈ τ.trail.take (τ.marks.getD lev 0)
              obtain ⟨i, hi, ei, li⟩ := posn _ (at0_mem hj2)
              have := L.oth j hj hj2
              have hit : i < τ.marks.getD lev 0 := by
                rcases Nat.lt_or_ge i (τ.marks.getD lev 0) with z | z
                · exact z
                · have := lv_hi C2.asc low z; omega
              rw [← ei, ← at0_take hit]
              exact at0_mem (by rw [List.length_take]; omega)) (by
              intro h2
              show τ.level.getD (at0 c 1).natAbs 0 = (τ.marks.take lev).length
              rw [L.two h2, List.length_take]; omega) (by
              intro h1
              show τ.marks.take lev = []
              rw [L.unit h1]; rfl)
          have N3 := cnt_learn C2 hV K2 R2 N2 L (a := -a) (b := -b) (by omega) (q3 a ha) (q3 b hb) (by rw [Int.natAbs_neg]; exact hla) (by rw [Int.natAbs_neg]; exact hlb) (by rw [Int.natAbs_neg]; exact (K2.lit _ q2 a ha).2.2) (by rw [Int.natAbs_neg]; exact (K2.lit _ q2 b hb).2.2) l5 (by rw [Int.natAbs_neg]; exact l6 a ha (by omega)) l4 (ψ := ψ) k3 k4 k5 k6 k7 k8
          have k8' : ψ.steps = s' + 1 := k8
          obtain ⟨σ', r', e1, e2, e3, e4, e5⟩ := search_ok hD m ψ V k2 N3 hV (.inl (by omega))
          have stepc : ∀ f, S.searchO f (m + 1) σ = S.searchO f m ψ := by
            intro f
            rw [step, if_pos hr, if_neg hm0, l1]
            simp only [Option.bind_some]
            rw [if_pos ⟨one, by omega, by omega⟩]
            rw [b1]
            simp only [Option.bind_some]
            split at k1
            · rename_i h1; rw [if_pos h1, k1, Option.bind_some]
            · rename_i h1
              rw [if_neg h1]
              obtain ⟨χ, x1, x2⟩ := Option.bind_eq_some_iff.1 k1
              rw [x1, Option.bind_some, x2, Option.bind_some]
          refine ⟨σ', r', e1, by omega, e3, fun f hf => by rw [stepc]; exact e4 f hf, fun f hf => ?_⟩
          obtain ⟨a, b, c, d⟩ := e5 f hf
          exact ⟨a, b, by rw [stepc]; exact c, d⟩
end Go.Proofs.YtdllaphnkbnpoaaGreat
