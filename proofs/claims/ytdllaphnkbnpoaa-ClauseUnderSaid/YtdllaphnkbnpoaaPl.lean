/- What the reference's search for an assignment answers, and what a solved list of clauses tells, in plain words. -/
import Derived.Test.YtdllaphnkbnpoaaXf
import Derived.Test.YtdllaphnkbnpoaaXa
namespace Go.Proofs.Ytdllaphnkbnpoaa
open Go.RowKit Go.Proofs

open Classical in
/-- Whether an assignment satisfies the clauses and agrees with what is told. -/
noncomputable def satOf (D : List (List Int)) (bs : List Int) : Bool := decide (∃ A, SatBy A D ∧ ∀ x ∈ bs, Holds1 A x)

theorem satOf_true {D : List (List Int)} {bs : List Int} : satOf D bs = true ↔ ∃ A, SatBy A D ∧ ∀ x ∈ bs, Holds1 A x := by
  unfold satOf; exact @decide_eq_true_iff _ (Classical.propDecidable _)

theorem prop_facts {D : List (List Int)} {bs now : List Int} (h0 : Lits D) (ha : ∀ x ∈ bs, x ≠ 0 ∧ x.natAbs ≤ 200) (h : propagateT D bs = some now) :
    Cons now ∧ (∀ x ∈ now, x ≠ 0) ∧ Once now ∧ (∀ x ∈ bs, x ∈ now) ∧ Fix D now := by
  obtain ⟨R, r1, r2, _⟩ := propagate_end (A := fun _ => true) h0 ha
  unfold propagateT at h
  rw [r1] at h
  obtain ⟨a, b, c, d, _, e⟩ := r2 now h
  exact ⟨a, b, c, d, e⟩

theorem sat_none {D : List (List Int)} {bs : List Int} (h0 : Lits D) (ha : ∀ x ∈ bs, x ≠ 0 ∧ x.natAbs ≤ 200) (h : propagateT D bs = none) : satOf D bs = false := by
  cases e : satOf D bs with
  | false => rfl
  | true =>
    obtain ⟨A, h1, h2⟩ := satOf_true.1 e
    obtain ⟨R, r1, _, r3⟩ := propagate_end (A := A) h0 ha
    obtain ⟨r, hr, _⟩ := r3 h1 h2
    unfold propagateT at h
    rw [r1, hr] at h
    cases h

theorem sat_now {D : List (List Int)} {bs now : List Int} (h0 : Lits D) (ha : ∀ x ∈ bs, x ≠ 0 ∧ x.natAbs ≤ 200) (h : propagateT D bs = some now) : satOf D bs = satOf D now := by
  rw [Bool.eq_iff_iff, satOf_true, satOf_true]
  obtain ⟨_, _, _, hs, _⟩ := prop_facts h0 ha h
  constructor
  · rintro ⟨A, h1, h2⟩
    obtain ⟨R, r1, _, r3⟩ := propagate_end (A := A) h0 ha
    obtain ⟨r, hr, h3⟩ := r3 h1 h2
    unfold propagateT at h
    rw [r1, hr] at h
    have h : r = now := by injection h
    exact ⟨A, h1, by rw [← h]; exact h3⟩
  · rintro ⟨A, h1, h2⟩
    exact ⟨A, h1, fun x hx => h2 x (hs x hx)⟩

theorem sat_done {D : List (List Int)} {now : List Int} (h0 : Lits D) (c : Cons now) (hz : ∀ x ∈ now, x ≠ 0) (f : Fix D now) (ht : ∀ v ∈ refVars D, v ∈ now ∨ -v ∈ now) : satOf D now = true := by
  have := all_told (fun e he x hx => (h0 e he x hx).1) c f (fun e he x hx => by
    have := ht (x.natAbs : Int) (refVars_mem.2 ⟨e, he, x, hx, rfl⟩)
    rcases Int.natAbs_eq x with q | q
    · rw [← q] at this; exact this
    · have e1 : ((x.natAbs : Nat) : Int) = -x := by omega
      rw [e1, Int.neg_neg] at this
      exact this.symm)
  exact satOf_true.2 ⟨_, this.1, fun x hx => this.2 x hx (hz x hx)⟩

theorem holds_or (A : Nat → Bool) {v : Int} (hv : v ≠ 0) : Holds1 A v ∨ Holds1 A (-v) := by
  unfold Holds1
  rw [Int.natAbs_neg]
  by_cases h : 0 < v
  · rw [decide_eq_true h, decide_eq_false (show ¬ 0 < -v by omega)]
    cases A v.natAbs <;> simp
  · rw [decide_eq_false h, decide_eq_true (show 0 < -v by omega)]
    cases A v.natAbs <;> simp

theorem sat_split {D : List (List Int)} {now : List Int} {v : Int} (hv : v ≠ 0) : satOf D now = (satOf D (now ++ [v]) || satOf D (now ++ [-v])) := by
  rw [Bool.eq_iff_iff, Bool.or_eq_true, satOf_true, satOf_true, satOf_true]
  constructor
  · rintro ⟨A, h1, h2⟩
    rcases holds_or A hv with q | q
    · exact .inl ⟨A, h1, fun x hx => by
        rcases List.mem_append.1 hx with z | z
        · exact h2 x z
        · rw [List.mem_singleton] at z; rw [z]; exact q⟩
    · exact .inr ⟨A, h1, fun x hx => by
        rcases List.mem_append.1 hx with z | z
        · exact h2 x z
        · rw [List.mem_singleton] at z; rw [z]; exact q⟩
  · rintro (⟨A, h1, h2⟩ | ⟨A, h1, h2⟩)
    · exact ⟨A, h1, fun x hx => h2 x (by simp [hx])⟩
    · exact ⟨A, h1, fun x hx => h2 x (by simp [hx])⟩

/-- How many variables are not told yet. -/
def untold (D : List (List Int)) (bs : List Int) : Nat := ((refVars D).filter fun v => !bs.contains v && !bs.contains (-v)).length

theorem filter_less {p q : Int → Bool} (h : ∀ x, p x = true → q x = true) {v : Int} (h1 : q v = true) (h2 : p v = false) : ∀ l : List Int, (l.filter p).length ≤ (l.filter q).length ∧ (v ∈ l → (l.filter p).length < (l.filter q).length)
  | [] => ⟨Nat.le_refl _, fun h => by cases h⟩
  | x :: l => by
    obtain ⟨a, b⟩ := filter_less h h1 h2 l
    by_cases hp : p x = true
    · rw [List.filter_cons_of_pos hp, List.filter_cons_of_pos (h x hp)]
      refine ⟨by simpa using a, fun hv => ?_⟩
      rcases List.mem_cons.1 hv with rfl | hv
      · rw [h2] at hp; cases hp
      · have := b hv; simpa using this
    · rw [List.filter_cons_of_neg hp]
      by_cases hq : q x = true
      · rw [List.filter_cons_of_pos hq]
        refine ⟨by simp; omega, fun _ => by simp; omega⟩
      · rw [List.filter_cons_of_neg hq]
        refine ⟨a, fun hv => ?_⟩
        rcases List.mem_cons.1 hv with rfl | hv
        · exact absurd h1 hq
        · exact b hv

theorem untold_less {D : List (List Int)} {bs now : List Int} {v s : Int} (hs : ∀ x ∈ bs, x ∈ now) (hv : v ∈ refVars D) (h1 : v ∉ now) (h2 : -v ∉ now) (e : s = v ∨ s = -v) : untold D (now ++ [s]) < untold D bs := by
  unfold untold
  refine (filter_less (v := v) (fun x hx => ?_) ?_ ?_ (refVars D)).2 hv
  · simp only [Bool.and_eq_true, Bool.not_eq_true', List.contains_eq_mem, decide_eq_false_iff_not, List.mem_append] at hx ⊢
    exact ⟨fun z => hx.1 (.inl (hs _ z)), fun z => hx.2 (.inl (hs _ z))⟩
  · simp only [Bool.and_eq_true, Bool.not_eq_true', List.contains_eq_mem, decide_eq_false_iff_not]
    exact ⟨fun z => h1 (hs _ z), fun z => h2 (hs _ z)⟩
  · rw [Bool.eq_false_iff]
    intro hx
    simp only [ne_eq, Bool.and_eq_true, Bool.not_eq_true', List.contains_eq_mem, decide_eq_false_iff_not, List.mem_append, List.mem_singleton] at hx
    rcases e with rfl | rfl
    · exact hx.1 (.inr rfl)
    · exact hx.2 (.inr rfl)

/-- The variables that occur are told in ascending order, each once. -/
theorem ins_strict {out : List Int} {x : Int} (hx : 0 ≤ x) (h0 : ∀ y ∈ out, 0 ≤ y) (h : out.Pairwise (· < ·)) : (insM out x).Pairwise (· < ·) := by
  have hb : ∀ y ∈ out, bef y x = decide (y < x) := by
    intro y hy
    have := h0 y hy
    unfold bef
    split
    · rw [Bool.eq_iff_iff, decide_eq_true_iff, decide_eq_true_iff]; omega
    · rw [Bool.eq_iff_iff, decide_eq_true_iff, decide_eq_true_iff]; omega
  have hpl := posM_le x out
  have key : ∀ j, posM x out ≤ j → j < out.length → out.getD j 0 ≥ x := by
    intro j hj hjl
    have hs := posM_stop x out (by omega)
    rw [hb _ (row_ne out 0 (by omega))] at hs
    have hs := of_decide_eq_false hs
    rcases Nat.lt_or_ge (posM x out) j with q | q
    · have := List.pairwise_iff_getElem.1 h (posM x out) j (by omega) hjl q
      have e1 : out.getD j 0 = out[j] := by simp [hjl]
      have e2 : out.getD (posM x out) 0 = out[posM x out]'(by omega) := by simp [show posM x out < out.length by omega]
      omega
    · have : j = posM x out := by omega
      rw [this]; omega
  unfold insM
  split
  · exact h
  · rename_i c
    have low : ∀ a ∈ out.take (posM x out), a < x := by
      intro a ha
      obtain ⟨j, hj, rfl⟩ := List.getElem_of_mem ha
      rw [List.length_take] at hj
      have hbj := posM_bef x out j (by omega)
      rw [hb _ (row_ne out 0 (by omega))] at hbj
      have hbj := of_decide_eq_true hbj
      have e1 : out.getD j 0 = out[j]'(by omega) := by simp [show j < out.length by omega]
      rw [List.getElem_take]; omega
    have high : ∀ a ∈ out.drop (posM x out), x < a := by
      intro a ha
      obtain ⟨j, hj, rfl⟩ := List.getElem_of_mem ha
      rw [List.length_drop] at hj
      have h1 := key (posM x out) (Nat.le_refl _) (by omega)
      have hne : out.getD (posM x out) 0 ≠ x := fun e => c ⟨by omega, e⟩
      rw [List.getElem_drop]
      cases j with
      | zero =>
        have e1 : out.getD (posM x out) 0 = out[posM x out + 0]'(by omega) := by simp [show posM x out < out.length by omega]
        omega
      | succ j =>
        have := List.pairwise_iff_getElem.1 h (posM x out) (posM x out + (j + 1)) (by omega) (by omega) (by omega)
        have e1 : out.getD (posM x out) 0 = out[posM x out]'(by omega) := by simp [show posM x out < out.length by omega]
        omega
    rw [List.pairwise_append, List.pairwise_append]
    refine ⟨⟨h.sublist (List.take_sublist _ _), by simp, fun a ha b hb => ?_⟩, h.sublist (List.drop_sublist _ _), fun a ha b hb => ?_⟩
    · rw [List.mem_singleton] at hb; rw [hb]; exact low a ha
    · have hbx := high b hb
      rcases List.mem_append.1 ha with z | z
      · have := low a z; omega
      · rw [List.mem_singleton] at z; omega

theorem fold_strict : ∀ (l out : List Int), (∀ x ∈ l, 0 ≤ x) → (∀ y ∈ out, 0 ≤ y) → out.Pairwise (· < ·) → (l.foldl insM out).Pairwise (· < ·)
  | [], _, _, _, h => h
  | x :: l, out, h1, h2, h => by
    rw [List.foldl_cons]
    refine fold_strict l (insM out x) (fun y hy => h1 y (by simp [hy])) (fun y hy => ?_) (ins_strict (h1 x (by simp)) h2 h)
    rcases ins_sub hy with z | z
    · exact h2 y z
    · rw [z]; exact h1 x (by simp)

theorem refVars_strict (D : List (List Int)) : (refVars D).Pairwise (· < ·) := by
  unfold refVars sortedM
  refine fold_strict _ [] (fun x hx => ?_) (fun y hy => by cases hy) List.Pairwise.nil
  obtain ⟨e, _, hx2⟩ := List.mem_flatMap.1 hx
  obtain ⟨y, _, rfl⟩ := List.mem_map.1 hx2
  omega

theorem strict_ext : ∀ {a b : List Int}, a.Pairwise (· < ·) → b.Pairwise (· < ·) → (∀ x, x ∈ a ↔ x ∈ b) → a = b
  | [], [], _, _, _ => rfl
  | [], y :: b, _, _, h => by have := (h y).2 (by simp); cases this
  | x :: a, [], _, _, h => by have := (h x).1 (by simp); cases this
  | x :: a, y :: b, ha, hb, h => by
    rw [List.pairwise_cons] at ha hb
    have hxy : x = y := by
      rcases List.mem_cons.1 ((h x).1 (by simp)) with q | q
      · exact q
      · rcases List.mem_cons.1 ((h y).2 (by simp)) with p | p
        · exact p.symm
        · have := hb.1 x q; have := ha.1 y p; omega
    subst hxy
    rw [strict_ext ha.2 hb.2 (fun z => ?_)]
    constructor
    · intro hz
      rcases List.mem_cons.1 ((h z).1 (by simp [hz])) with q | q
      · have := ha.1 z hz; omega
      · exact q
    · intro hz
      rcases List.mem_cons.1 ((h z).2 (by simp [hz])) with q | q
      · have := hb.1 z hz; omega
      · exact q

theorem vars_same (D : List (List Int)) : varsOf D = refVars D := by
  refine strict_ext (varsOf_strict D) (refVars_strict D) (fun x => ?_)
  constructor
  · intro h
    obtain ⟨e, he, y, hy, rfl⟩ := mem_varsOf h
    exact refVars_mem.2 ⟨e, he, y, hy, rfl⟩
  · intro h
    obtain ⟨e, he, y, hy, rfl⟩ := refVars_mem.1 h
    exact varsOf_has he hy

/-- An answer that does not hold. -/
theorem log_ok {D : List (List Int)} : ∀ (log E : List (List Int)), Lits E → Lits log → (∀ i, i < log.length → Rup (E ++ log.take i) (log.getD i [])) → isLogM E log = log.length
  | [], E, _, _, _ => rfl
  | e :: log, E, hE, hl, hr => by
    have he : ∀ x ∈ e, x ≠ 0 ∧ x.natAbs ≤ 200 := hl e (by simp)
    have h0 := rup_conflict hE he (by have := hr 0 (by simp); simpa using this)
    have h1 : propagateT E (negL e) = none := by
      unfold propagateT negL
      rw [h0]; rfl
    unfold isLogM
    rw [h1]
    show isLogM (E ++ [e]) log + 1 = _
    rw [log_ok (D := D) log (E ++ [e]) (fun d hd => ?_) (fun d hd => hl d (by simp [hd])) (fun i hi => ?_)]
    · simp
    · rcases List.mem_append.1 hd with z | z
      · exact hE d z
      · rw [List.mem_singleton] at z; rw [z]; exact he
    · have := hr (i + 1) (by simp; omega)
      simpa using this

theorem lit_big {c : List Int} (h : ∀ x ∈ c, x ≠ 0 ∧ x.natAbs ≤ 200) : c.all isLit = true := by
  rw [List.all_eq_true]
  intro x hx
  have := h x hx
  unfold isLit
  exact decide_eq_true ⟨this.1, by omega, by omega⟩

theorem refutes_ok {D log : List (List Int)} (hr : refM D = 0) (hl : Lits log) (hn : log.length ≤ 4000) (hrup : ∀ i, i < log.length → Rup (D ++ log.take i) (log.getD i [])) (hlast : ∃ L, log = L ++ [[]]) : refutesR D log = (true, 0) := by
  obtain ⟨_, _, dl⟩ := refM_zero hr
  have e1 : logErrM D log = 0 := by
    unfold logErrM
    rw [if_neg (by omega), if_neg (by omega), if_neg (by simp [hr]), if_neg]
    have : (log.all fun c => c.all isLit) = true := List.all_eq_true.2 (fun c hc => lit_big (hl c hc))
    simp [this]
  have e2 := log_ok (D := D) log D dl hl hrup
  unfold refutesR
  rw [if_neg (by simp [e1])]
  unfold refutesM
  rw [e2, decide_eq_true rfl]
  obtain ⟨L, rfl⟩ := hlast
  simp

theorem fin_none {σ' : S} {occ : List Nat} {D : List (List Int)} (h : Fin σ' 0 occ D) : satOf D [] = false := by
  rcases h with ⟨_, h1, h2, h3, _⟩ | ⟨h, _⟩
  · cases e : satOf D [] with
    | false => rfl
    | true =>
      obtain ⟨A, hA, _⟩ := satOf_true.1 e
      exact absurd hA (log_unsat h1 (fun c hc x hx => ((h3 c hc).1 x hx).1) h2)
  · exact absurd h (by decide)

theorem fin_some {σ' : S} {occ : List Nat} {D : List (List Int)} (h : Fin σ' 1 occ D) : SatBy (fun v => σ'.isTrue v) D ∧ satOf D [] = true := by
  rcases h with ⟨h, _⟩ | ⟨_, _, h⟩
  · exact absurd h (by decide)
  · have h1 : SatBy (fun v => σ'.isTrue v) D := fun e he => h e he
    exact ⟨h1, satOf_true.2 ⟨_, h1, fun x hx => by cases hx⟩⟩

/-- What is told true satisfies. -/
theorem trues_nat {σ' : S} {D : List (List Int)} : (truesOf σ' D).map Int.natAbs = (varsOf D).map Int.natAbs := by
  unfold truesOf
  rw [List.map_map]
  refine List.map_congr_left (fun v _ => ?_)
  show (if σ'.isTrue v.natAbs = true then v else -v).natAbs = v.natAbs
  split
  · rfl
  · exact Int.natAbs_neg v

theorem vars_nat {D : List (List Int)} : ((varsOf D).map Int.natAbs).Nodup := by
  rw [List.nodup_iff_pairwise_ne, List.pairwise_map]
  refine (varsOf_strict D).imp_of_mem (fun {a b} ha hb h => ?_)
  obtain ⟨_, _, x, _, rfl⟩ := mem_varsOf ha
  obtain ⟨_, _, y, _, rfl⟩ := mem_varsOf hb
  omega

theorem trues_twice {σ' : S} {D : List (List Int)} : twiceM (truesOf σ' D) = false := by
  unfold twiceM
  rw [trues_nat]
  exact decide_eq_false (fun h => h vars_nat)

theorem trues_lits {σ' : S} {D : List (List Int)} (h0 : Lits D) : ∀ x ∈ truesOf σ' D, x ≠ 0 ∧ x.natAbs ≤ 200 := by
  intro x hx
  obtain ⟨v, hv, rfl⟩ := List.mem_map.1 hx
  obtain ⟨e, he, y, hy, rfl⟩ := mem_varsOf hv
  have := h0 e he y hy
  split <;> omega

theorem trues_holds {σ' : S} {D : List (List Int)} (h : SatBy (fun v => σ'.isTrue v) D) : holdsM D (truesOf σ' D) = true := by
  unfold holdsM
  rw [List.all_eq_true]
  intro e he
  rw [List.any_eq_true]
  obtain ⟨x, hx, hx0, h1⟩ := h e he
  refine ⟨x, hx, ?_⟩
  rw [List.contains_eq_mem, decide_eq_true_iff]
  refine List.mem_map.2 ⟨(x.natAbs : Int), varsOf_has he hx, ?_⟩
  unfold Holds1 at h1
  simp only at h1
  rw [Int.natAbs_natCast, h1]
  by_cases hp : 0 < x
  · rw [decide_eq_true hp, if_pos rfl]; omega
  · rw [decide_eq_false hp, if_neg (by simp)]; omega

theorem trues_at {σ' : S} {D : List (List Int)} {i : Nat} (hi : i < (refVars D).length) : (truesOf σ' D).getD i 0 = (refVars D).getD i 0 ∨ (truesOf σ' D).getD i 0 = -(refVars D).getD i 0 := by
  unfold truesOf
  rw [vars_same]
  have e1 : (refVars D).getD i 0 = (refVars D)[i] := by simp [hi]
  rw [e1, List.getD_eq_getElem?_getD, List.getElem?_map, List.getElem?_eq_getElem hi]
  show (if σ'.isTrue ((refVars D)[i]).natAbs = true then (refVars D)[i] else -(refVars D)[i]) = _ ∨ (if σ'.isTrue ((refVars D)[i]).natAbs = true then (refVars D)[i] else -(refVars D)[i]) = _
  split
  · exact .inl rfl
  · exact .inr rfl
theorem trues_len {σ' : S} {D : List (List Int)} : (truesOf σ' D).length = (refVars D).length := by
  unfold truesOf
  rw [List.length_map, vars_same]
end Go.Proofs.Ytdllaphnkbnpoaa
