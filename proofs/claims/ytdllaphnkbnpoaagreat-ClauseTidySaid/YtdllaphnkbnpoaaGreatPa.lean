/- The trail of the pure solver: its invariants, and what set, back and grow do to them. -/
import Derived.Test.YtdllaphnkbnpoaaGreatSat
namespace Go.Proofs.YtdllaphnkbnpoaaGreat

theorem nodup_bound (n : Nat) : ∀ (a : List Nat), a.Nodup → (∀ x ∈ a, x < n) → a.length ≤ n := by
  induction n with
  | zero => intro a _ hb; cases a with
    | nil => simp
    | cons x xs => exact absurd (hb x (by simp)) (by omega)
  | succ n ih =>
    intro a h hb
    have := ih (a.erase n) (h.erase _) (by grind)
    grind

theorem at0_set (xs : List Int) (x : Int) (i j : Nat) (h : i < xs.length) : at0 (xs.set i x) j = if i = j then x else at0 xs j := by
  unfold at0; grind
theorem getD_set {α : Type} (xs : List α) (x d : α) (i j : Nat) (h : i < xs.length) : (xs.set i x).getD j d = if i = j then x else xs.getD j d := by
  grind
theorem at0_mem {xs : List Int} {i : Nat} (h : i < xs.length) : at0 xs i ∈ xs := by unfold at0; grind
theorem mem_at0 {xs : List Int} {x : Int} (h : x ∈ xs) : ∃ i, i < xs.length ∧ at0 xs i = x := by
  unfold at0; obtain ⟨i, hi, rfl⟩ := List.getElem_of_mem h; exact ⟨i, hi, by grind⟩
theorem at0_app_lt {xs ys : List Int} {i : Nat} (h : i < xs.length) : at0 (xs ++ ys) i = at0 xs i := by unfold at0; grind
theorem at0_app_len {xs : List Int} {y : Int} {i : Nat} (h : i = xs.length) : at0 (xs ++ [y]) i = y := by unfold at0; grind
theorem at0_take {xs : List Int} {i n : Nat} (h : i < n) : at0 (xs.take n) i = at0 xs i := by unfold at0; grind

/-- The level of a place of the trail. -/
def lv (marks : List Nat) (i : Nat) : Nat := (marks.filter (· ≤ i)).length

theorem lv_le (marks : List Nat) (i : Nat) : lv marks i ≤ marks.length := List.length_filter_le ..
theorem lv_app (marks : List Nat) (m i : Nat) : lv (marks ++ [m]) i = lv marks i + if m ≤ i then 1 else 0 := by
  unfold lv; grind
theorem lv_top {marks : List Nat} {i : Nat} (h : ∀ m ∈ marks, m ≤ i) : lv marks i = marks.length := by
  unfold lv; rw [List.filter_eq_self.2]; simpa using h
theorem lv_mono (marks : List Nat) {i j : Nat} (h : i ≤ j) : lv marks i ≤ lv marks j := by
  unfold lv
  induction marks with
  | nil => simp
  | cons m ms ih => grind
theorem lv_take {marks : List Nat} (asc : marks.Pairwise (· < ·)) {n i : Nat} (hn : n < marks.length) (hi : i < marks.getD n 0) : lv (marks.take n) i = lv marks i := by
  unfold lv
  conv => rhs; rw [← List.take_append_drop n marks, List.filter_append]
  have : (marks.drop n).filter (· ≤ i) = [] := by
    rw [List.filter_eq_nil_iff]
    intro m hm
    obtain ⟨j, hj, rfl⟩ := List.getElem_of_mem hm
    have : marks[n] ≤ (marks.drop n)[j] := by
      rw [List.getElem_drop]
      rcases Nat.eq_zero_or_pos j with rfl | hp
      · simp
      · exact Nat.le_of_lt (List.pairwise_iff_getElem.1 asc n (n + j) hn (by grind) (by omega))
    grind
  rw [this]; simp
theorem lv_lo {marks : List Nat} (asc : marks.Pairwise (· < ·)) {n i : Nat} (hn : n < marks.length) (hi : i < marks.getD n 0) : lv marks i ≤ n := by
  rw [← lv_take asc hn hi]
  have := lv_le (marks.take n) i
  grind
theorem lv_hi {marks : List Nat} (asc : marks.Pairwise (· < ·)) {n i : Nat} (hn : n < marks.length) (hi : marks.getD n 0 ≤ i) : n < lv marks i := by
  have h1 : lv (marks.take (n + 1)) i = n + 1 := by
    rw [lv_top]
    · grind
    · intro m hm
      obtain ⟨j, hj, rfl⟩ := List.getElem_of_mem hm
      rw [List.getElem_take]
      have hj2 : j < n + 1 := by grind
      have : marks[j]'(by grind) ≤ marks[n] := by
        rcases Nat.lt_or_ge j n with h | h
        · exact Nat.le_of_lt (List.pairwise_iff_getElem.1 asc j n (by grind) hn h)
        · have : j = n := by omega
          subst this; exact Nat.le_refl _
      grind
  have h2 : lv marks i = lv (marks.take (n + 1)) i + lv (marks.drop (n + 1)) i := by
    unfold lv; rw [← List.length_append, ← List.filter_append, List.take_append_drop]
  omega

/-- The trail, the arrays and the marks agree. -/
structure Core (σ : S) (V : Nat) : Prop where
  even : σ.even
  size : σ.value.length = V
  one : 1 ≤ V
  big : V ≤ 1000
  lits : ∀ l ∈ σ.trail, l ≠ 0 ∧ l.natAbs < V
  nodup : (σ.trail.map Int.natAbs).Nodup
  val : ∀ v : Nat, v ≠ 0 → v < V → ((v : Int) ∈ σ.trail ∧ at0 σ.value v = 1) ∨ (-(v : Int) ∈ σ.trail ∧ at0 σ.value v = -1) ∨ ((v : Int) ∉ σ.trail ∧ -(v : Int) ∉ σ.trail ∧ at0 σ.value v = 0)
  asc : σ.marks.Pairwise (· < ·)
  mlt : ∀ m ∈ σ.marks, m < σ.trail.length
  lev : ∀ i, i < σ.trail.length → σ.level.getD (at0 σ.trail i).natAbs 0 = lv σ.marks i

theorem abs_nodup {xs : List Int} (h : (xs.map Int.natAbs).Nodup) {i j : Nat} (hi : i < xs.length) (hj : j < xs.length) (e : (at0 xs i).natAbs = (at0 xs j).natAbs) : i = j := by
  have := List.pairwise_iff_getElem.1 h
  rcases Nat.lt_trichotomy i j with hl | hl | hl
  · exact absurd e (by have := this i j (by simpa) (by simpa) hl; unfold at0; grind)
  · exact hl
  · exact absurd e.symm (by have := this j i (by simpa) (by simpa) hl; unfold at0; grind)

namespace Core
variable {σ : S} {V : Nat} (C : Core σ V)
include C

theorem one_way {l : Int} (h : l ∈ σ.trail) : -l ∉ σ.trail := by
  intro h2
  obtain ⟨i, hi, e1⟩ := mem_at0 h
  obtain ⟨j, hj, e2⟩ := mem_at0 h2
  have := abs_nodup C.nodup hi hj (by rw [e1, e2]; omega)
  subst this
  have := (C.lits l h).1
  omega

theorem tlen : σ.trail.length + 1 ≤ V := by
  have := nodup_bound V (0 :: σ.trail.map Int.natAbs) (List.nodup_cons.2 ⟨by
    intro h; obtain ⟨l, hl, h⟩ := List.mem_map.1 h; have := (C.lits l hl).1; omega, C.nodup⟩) (by
    intro x hx
    rcases List.mem_cons.1 hx with rfl | hx
    · have := C.one; omega
    · obtain ⟨l, hl, rfl⟩ := List.mem_map.1 hx; exact (C.lits l hl).2)
  simpa using this

theorem mlen : σ.marks.length ≤ σ.trail.length :=
  nodup_bound _ _ (C.asc.imp (fun h => by omega)) C.mlt

theorem tri {l : Int} (h0 : l ≠ 0) (hV : l.natAbs < V) :
    (l ∈ σ.trail ∧ -l ∉ σ.trail ∧ σ.of l = 1) ∨ (-l ∈ σ.trail ∧ l ∉ σ.trail ∧ σ.of l = -1) ∨ (l ∉ σ.trail ∧ -l ∉ σ.trail ∧ σ.of l = 0) := by
  have hv := C.val l.natAbs (by omega) hV
  have ow := @C.one_way
  unfold S.of
  by_cases hl : l < 0
  · have e : (l.natAbs : Int) = -l := by omega
    rw [if_pos hl]; rw [e, Int.neg_neg] at hv
    rcases hv with ⟨a, b⟩ | ⟨a, b⟩ | ⟨a, b, c⟩
    · exact .inr (.inl ⟨a, fun h => ow h a, by omega⟩)
    · exact .inl ⟨a, ow a, by omega⟩
    · exact .inr (.inr ⟨b, a, by omega⟩)
  · have e : (l.natAbs : Int) = l := by omega
    rw [if_neg hl]; rw [e] at hv
    rcases hv with ⟨a, b⟩ | ⟨a, b⟩ | ⟨a, b, c⟩
    · exact .inl ⟨a, ow a, b⟩
    · exact .inr (.inl ⟨a, fun h => ow h a, b⟩)
    · exact .inr (.inr ⟨a, b, c⟩)

theorem lit {l : Int} (h0 : l ≠ 0) (hV : l.natAbs < V) : σ.lit l := ⟨h0, by rw [C.size]; exact hV, by have := C.size; have := C.big; omega⟩

theorem ofO {l : Int} (h0 : l ≠ 0) (hV : l.natAbs < V) : σ.ofO l = some (σ.of l) := by
  unfold S.ofO
  rw [if_pos]
  refine ⟨C.lit h0 hV, ?_⟩
  rcases C.val l.natAbs (by omega) hV with h | h | h <;> omega

theorem levle {l : Int} (h : l ∈ σ.trail) : σ.level.getD l.natAbs 0 ≤ σ.marks.length := by
  obtain ⟨i, hi, rfl⟩ := mem_at0 h
  rw [C.lev i hi]; exact lv_le ..

end Core

/-- 'set', behind a new mark or none. -/
theorem set_core {σ : S} {V : Nat} (C : Core σ V) {l : Int} (r : Int) (h0 : l ≠ 0) (hV : l.natAbs < V) (h1 : l ∉ σ.trail) (h2 : -l ∉ σ.trail) {ms : List Nat} (hm : ms = σ.marks ∨ ms = σ.marks ++ [σ.trail.length]) (hs : σ.steps < 60000) :
    ({ σ with marks := ms } : S).setO l r = some (({ σ with marks := ms } : S).set l r) ∧ Core (({ σ with marks := ms } : S).set l r) V := by
  have tl := C.tlen
  have ml := C.mlen
  have bg := C.big
  have sz := C.size
  obtain ⟨ev1, ev2, ev3, ev4⟩ := C.even
  have hms : ms.length ≤ σ.marks.length + 1 := by rcases hm with rfl | rfl <;> simp
  constructor
  · unfold S.setO
    rw [if_pos]
    exact ⟨C.lit h0 hV, C.even, by show σ.trail.length < 60000; omega, hs, by show ms.length ≤ 60000; omega⟩
  · have hmlt : ∀ m ∈ ms, m < σ.trail.length + 1 := by
      have := C.mlt
      rcases hm with rfl | rfl <;> grind
    have hasc : ms.Pairwise (· < ·) := by
      have a := C.asc
      have b := C.mlt
      rcases hm with rfl | rfl
      · exact a
      · rw [List.pairwise_append]; exact ⟨a, by simp, by grind⟩
    have hlv : ∀ i, i < σ.trail.length → lv ms i = lv σ.marks i := by
      intro i hi
      rcases hm with rfl | rfl
      · rfl
      · rw [lv_app, if_neg (by omega), Nat.add_zero]
    have hnew : ∀ x ∈ σ.trail, x.natAbs ≠ l.natAbs := by
      intro x hx he
      rcases Int.natAbs_eq_natAbs_iff.1 he with e | e
      · exact h1 (e ▸ hx)
      · exact h2 (e ▸ hx)
    have hlv1 : l.natAbs < σ.value.length := by omega
    refine ⟨?_, ?_, C.one, C.big, ?_, ?_, ?_, hasc, ?_, ?_⟩
    · unfold S.even S.set; simp; omega
    · simp [S.set]; exact sz
    · show ∀ x ∈ σ.trail ++ [l], _
      have := C.lits
      grind
    · show ((σ.trail ++ [l]).map Int.natAbs).Nodup
      rw [List.map_append, List.nodup_append]
      refine ⟨C.nodup, by simp, ?_⟩
      intro a ha b hb
      obtain ⟨x, hx, rfl⟩ := List.mem_map.1 ha
      simp at hb
      rw [hb]; exact hnew x hx
    · intro v hv0 hvV
      show _ ∨ _ ∨ _
      simp only [S.set]
      rw [at0_set _ _ _ _ hlv1]
      have old := C.val v hv0 hvV
      by_cases he : l.natAbs = v
      · rw [if_pos he]
        unfold sgn
        by_cases hl : l < 0
        · have e : l = -(v : Int) := by omega
          rw [if_pos hl]; right; left; exact ⟨by rw [← e]; simp, rfl⟩
        · have e : l = (v : Int) := by omega
          rw [if_neg hl]; left; exact ⟨by rw [← e]; simp, rfl⟩
      · rw [if_neg he]
        have n1 : (v : Int) ≠ l := by omega
        have n2 : -(v : Int) ≠ l := by omega
        simp only [List.mem_append, List.mem_singleton, n1, n2, or_false]
        exact old
    · show ∀ m ∈ ms, m < (σ.trail ++ [l]).length
      simpa using hmlt
    · intro i hi
      show (σ.level.set l.natAbs ms.length).getD (at0 (σ.trail ++ [l]) i).natAbs 0 = lv ms i
      rw [getD_set _ _ _ _ _ (by omega)]
      rcases Nat.lt_or_ge i σ.trail.length with h | h
      · rw [at0_app_lt h, if_neg (fun e => hnew _ (at0_mem h) e.symm), C.lev i h, hlv i h]
      · have hi2 : i = σ.trail.length := by simp [S.set] at hi; omega
        rw [at0_app_len hi2, if_pos rfl, lv_top (by intro m hm; have := hmlt m hm; omega)]

theorem backAll_is : ∀ (ls : List Int) (σ : S), (∀ l ∈ ls, σ.lit l) → σ.even →
    ∃ vs ps, S.backAll ls σ = some { σ with value := vs, phase := ps } ∧ vs.length = σ.value.length ∧ ps.length = σ.phase.length ∧
      (∀ v : Nat, v ∈ ls.map Int.natAbs → at0 vs v = 0) ∧ (∀ v : Nat, v ∉ ls.map Int.natAbs → at0 vs v = at0 σ.value v)
  | [], σ, _, _ => ⟨σ.value, σ.phase, rfl, rfl, rfl, by simp, by simp⟩
  | l :: ls, σ, hl, he => by
    have h1 := hl l (by simp)
    obtain ⟨e1, e2, e3, e4⟩ := he
    have he' : (σ.backOne l).even := by unfold S.even S.backOne; simp; omega
    have hl' : ∀ x ∈ ls, (σ.backOne l).lit x := by
      intro x hx
      have := hl x (by simp [hx])
      unfold S.lit S.backOne at *
      simpa using this
    obtain ⟨vs, ps, hb, b1, b2, b3, b4⟩ := backAll_is ls (σ.backOne l) hl' he'
    refine ⟨vs, ps, ?_, ?_, ?_, ?_, ?_⟩
    · unfold S.backAll
      rw [if_pos ⟨h1, e1, e2, e3, e4⟩, hb]; rfl
    · rw [b1]; simp [S.backOne]
    · rw [b2]; simp [S.backOne]
    · intro v hv
      by_cases h : v ∈ ls.map Int.natAbs
      · exact b3 v h
      · rw [b4 v h]
        simp only [S.backOne]
        have e : l.natAbs = v := by simp at hv h; grind
        rw [at0_set _ _ _ _ (by have := h1.2.1; exact this), if_pos e]
    · intro v hv
      simp only [List.map_cons, List.mem_cons, not_or] at hv
      rw [b4 v hv.2]
      simp only [S.backOne]
      rw [at0_set _ _ _ _ (by have := h1.2.1; exact this), if_neg (fun e => hv.1 e.symm)]

/-- 'back'. -/
theorem back_core {σ : S} {V : Nat} (C : Core σ V) {n : Nat} (hn : n < σ.marks.length) :
    ∃ vs ps, σ.backO n = some { σ with value := vs, phase := ps, trail := σ.trail.take (σ.marks.getD n 0), marks := σ.marks.take n, head := σ.marks.getD n 0 } ∧
      Core { σ with value := vs, phase := ps, trail := σ.trail.take (σ.marks.getD n 0), marks := σ.marks.take n, head := σ.marks.getD n 0 } V := by
  have tl := C.tlen
  have ml := C.mlen
  have bg := C.big
  have sz := C.size
  obtain ⟨ev1, ev2, ev3, ev4⟩ := C.even
  have hto : σ.marks.getD n 0 < σ.trail.length := C.mlt _ (by grind)
  generalize hT : σ.marks.getD n 0 = to at *
  obtain ⟨vs, ps, hb, b1, b2, b3, b4⟩ := backAll_is (σ.trail.drop to) σ (fun l hl => by
    have := C.lits l (List.mem_of_mem_drop hl); exact C.lit this.1 this.2) C.even
  refine ⟨vs, ps, ?_, ?_⟩
  · unfold S.backO
    rw [if_neg (by omega)]
    simp only [hT]
    rw [if_pos ⟨by omega, by omega, by omega⟩, hb]; rfl
  · have hms : ∀ m ∈ σ.marks.take n, m < to := by
      intro m hm
      obtain ⟨j, hj, rfl⟩ := List.getElem_of_mem hm
      have := List.pairwise_iff_getElem.1 C.asc j n (by grind) hn (by grind)
      grind
    refine ⟨?_, ?_, C.one, C.big, ?_, ?_, ?_, ?_, ?_, ?_⟩
    · unfold S.even; simp; omega
    · simp; omega
    · intro l hl; exact C.lits l (List.mem_of_mem_take hl)
    · show ((σ.trail.take to).map Int.natAbs).Nodup
      rw [List.map_take]; exact C.nodup.sublist (List.take_sublist ..)
    · intro v hv0 hvV
      simp only []
      have nd : ((σ.trail.take to ++ σ.trail.drop to).map Int.natAbs).Nodup := by rw [List.take_append_drop]; exact C.nodup
      rw [List.map_append, List.nodup_append] at nd
      have old := C.val v hv0 hvV
      have sp : ∀ x, x ∈ σ.trail ↔ x ∈ σ.trail.take to ∨ x ∈ σ.trail.drop to := by
        intro x; rw [← List.mem_append, List.take_append_drop]
      by_cases h : v ∈ (σ.trail.drop to).map Int.natAbs
      · rw [b3 v h]
        right; right
        have hx : ∀ x : Int, x.natAbs = v → x ∉ σ.trail.take to := by
          intro x hx hm
          exact nd.2.2 v (List.mem_map.2 ⟨x, hm, hx⟩) v h rfl
        exact ⟨hx _ (by omega), hx _ (by omega), rfl⟩
      · rw [b4 v h]
        have hx : ∀ x : Int, x.natAbs = v → (x ∈ σ.trail ↔ x ∈ σ.trail.take to) := by
          intro x hx
          rw [sp]
          have : x ∉ σ.trail.drop to := fun hm => h (List.mem_map.2 ⟨x, hm, hx⟩)
          simp [this]
        rw [hx _ (by omega), hx _ (by omega)] at old
        exact old
    · exact C.asc.sublist (List.take_sublist ..)
    · intro m hm
      have := hms m hm
      simp; omega
    · intro i hi
      simp only [List.length_take] at hi
      have hi' : i < to := by omega
      show σ.level.getD (at0 (σ.trail.take to) i).natAbs 0 = lv (σ.marks.take n) i
      rw [at0_take hi', C.lev i (by omega), lv_take C.asc hn (by omega)]

theorem grow_one {σ : S} {V : Nat} (C : Core σ V) (hV : V < 1000) : Core σ.growOne (V + 1) := by
  have sz := C.size
  obtain ⟨ev1, ev2, ev3, ev4⟩ := C.even
  refine ⟨?_, ?_, by omega, by omega, ?_, C.nodup, ?_, C.asc, C.mlt, ?_⟩
  · unfold S.even S.growOne; simp; omega
  · unfold S.growOne; simp; omega
  · intro l hl; have := C.lits l hl; exact ⟨this.1, by omega⟩
  · intro v hv0 hvV
    show ((v : Int) ∈ σ.trail ∧ at0 (σ.value ++ [0]) v = 1) ∨ (-(v : Int) ∈ σ.trail ∧ at0 (σ.value ++ [0]) v = -1) ∨ ((v : Int) ∉ σ.trail ∧ -(v : Int) ∉ σ.trail ∧ at0 (σ.value ++ [0]) v = 0)
    rcases Nat.lt_or_ge v V with h | h
    · rw [at0_app_lt (by omega)]; exact C.val v hv0 h
    · right; right
      refine ⟨fun hm => ?_, fun hm => ?_, at0_app_len (by omega)⟩
      · have := (C.lits _ hm).2; omega
      · have := (C.lits _ hm).2; omega
  · intro i hi
    show (σ.level ++ [0]).getD (at0 σ.trail i).natAbs 0 = lv σ.marks i
    rw [← C.lev i hi]
    have := (C.lits _ (at0_mem hi)).2
    grind

theorem grow_core : ∀ (k : Nat) {σ : S} {V : Nat}, Core σ V → V + k ≤ 1000 → Core (S.growN k σ) (V + k)
  | 0, _, _, C, _ => C
  | k + 1, σ, V, C, h => by
    have := grow_core k (grow_one C (by omega)) (by omega)
    rw [Nat.add_assoc, Nat.add_comm 1 k] at this
    exact this

end Go.Proofs.YtdllaphnkbnpoaaGreat
