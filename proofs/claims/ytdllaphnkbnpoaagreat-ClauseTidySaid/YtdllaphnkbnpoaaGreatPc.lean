/- Learning of the pure solver: it answers, and what the learnt clause is. -/
import Derived.Test.YtdllaphnkbnpoaaGreatPb
namespace Go.Proofs.YtdllaphnkbnpoaaGreat

/-- A consistent set of literals out of which nothing more follows from clauses by propagation. -/
structure Closed (N : Int → Prop) (D : List (List Int)) : Prop where
  cons : ∀ x, N x → ¬ N (-x)
  all : ∀ e ∈ D, (∃ x ∈ e, N x) ∨ ∃ x ∈ e, ∃ y ∈ e, x ≠ y ∧ ¬ N (-x) ∧ ¬ N (-y)
theorem Closed.mono {N : Int → Prop} {D E : List (List Int)} (h : Closed N E) (s : ∀ e ∈ D, e ∈ E) : Closed N D := ⟨h.cons, fun e he => h.all e (s e he)⟩

/-- A clause comes by propagation. -/
def Rup (D : List (List Int)) (e : List Int) : Prop := ∀ N, Closed N D → ¬ ∀ x ∈ e, N (-x)

/-- What the solver holds follows by propagation. -/
structure Ent (σ : S) (D : List (List Int)) : Prop where
  cl : ∀ N, Closed N D → ∀ k, k < σ.clauses.length → (¬ ∀ x ∈ σ.clause k, N (-x)) ∧ ∀ t ∈ σ.clause k, (∀ x ∈ σ.clause k, x ≠ t → N (-x)) → N t
  un : ∀ N, Closed N D → ∀ t ∈ σ.trail, σ.level.getD t.natAbs 0 = 0 → at0 σ.reason t.natAbs = -1 → N t
  br : σ.broken = true → ∀ N, ¬ Closed N D

theorem ent_zero {σ : S} {V : Nat} {D : List (List Int)} (C : Core σ V) (R : Reas σ) (T : Ent σ D) {N : Int → Prop} (hN : Closed N D) :
    ∀ t ∈ σ.trail, σ.level.getD t.natAbs 0 = 0 → N t := by
  suffices h : ∀ i, i < σ.trail.length → lv σ.marks i = 0 → N (at0 σ.trail i) by
    intro t ht h0
    obtain ⟨i, hi, rfl⟩ := mem_at0 ht
    exact h i hi (by rw [← C.lev i hi]; exact h0)
  intro i
  induction i using Nat.strongRecOn with
  | _ i ih =>
    intro hi h0
    rcases R.of i hi with ⟨h1, _⟩ | ⟨h1, h2, h3, h4, _⟩
    · exact T.un N hN _ (at0_mem hi) (by rw [C.lev i hi]; exact h0) h1
    · refine (T.cl N hN _ h2).2 _ h3 ?_
      intro x hx hne
      obtain ⟨j, hj, e⟩ := mem_at0 (h4 x hx hne)
      simp only [List.length_take] at hj
      rw [at0_take (by omega)] at e
      rw [← e]
      exact ih j (by omega) (by omega) (by have := lv_mono σ.marks (i := j) (j := i) (by omega); omega)

def opens (σ : S) (seen : List Bool) (now : Nat) : Nat → Nat
  | 0 => 0
  | n + 1 => opens σ seen now n + (if lv σ.marks n = now ∧ seen.getD (at0 σ.trail n).natAbs false = true then 1 else 0)

theorem opens_le (σ : S) (seen : List Bool) (now : Nat) : ∀ n, opens σ seen now n ≤ n
  | 0 => Nat.le_refl _
  | n + 1 => by have := opens_le σ seen now n; unfold opens; split <;> omega
theorem opens_pos {σ : S} {seen : List Bool} {now : Nat} : ∀ {n}, 0 < opens σ seen now n → ∃ p, p < n ∧ lv σ.marks p = now ∧ seen.getD (at0 σ.trail p).natAbs false = true
  | 0, h => absurd h (by simp [opens])
  | n + 1, h => by
    unfold opens at h
    split at h
    · rename_i c; exact ⟨n, by omega, c⟩
    · obtain ⟨p, a, b⟩ := opens_pos (n := n) (by omega); exact ⟨p, by omega, b⟩
theorem opens_zero {σ : S} {seen : List Bool} {now : Nat} : ∀ {n}, opens σ seen now n = 0 → ∀ p, p < n → ¬ (lv σ.marks p = now ∧ seen.getD (at0 σ.trail p).natAbs false = true)
  | 0, _, p, hp => by omega
  | n + 1, h, p, hp => by
    unfold opens at h
    split at h
    · omega
    · rename_i c
      rcases Nat.lt_or_ge p n with q | q
      · exact opens_zero (by omega) p q
      · have : p = n := by omega
        subst this; exact c
theorem opens_succ (σ : S) (seen : List Bool) (now n : Nat) : opens σ seen now (n + 1) = opens σ seen now n + (if lv σ.marks n = now ∧ seen.getD (at0 σ.trail n).natAbs false = true then 1 else 0) := rfl
theorem opens_gap {σ : S} {seen : List Bool} {now : Nat} {i : Nat} : ∀ {n}, i < n → (∀ j, i < j → j < n → seen.getD (at0 σ.trail j).natAbs false = false) → lv σ.marks i = now → seen.getD (at0 σ.trail i).natAbs false = true →
    opens σ seen now n = opens σ seen now i + 1
  | 0, h, _, _, _ => by omega
  | n + 1, h, g, a, b => by
    rw [opens_succ]
    rcases Nat.lt_or_ge i n with q | q
    · rw [opens_gap q (fun j x y => g j x (by omega)) a b, g n q (by omega)]; simp
    · have : i = n := by omega
      subst this
      rw [if_pos ⟨a, b⟩]

theorem getD_setB (xs : List Bool) (i j : Nat) (h : i < xs.length) : (xs.set i true).getD j false = if i = j then true else xs.getD j false := by grind

theorem opens_set {σ : S} {V : Nat} (C : Core σ V) {seen : List Bool} {now p : Nat} (hp : p < σ.trail.length) (hs : (at0 σ.trail p).natAbs < seen.length) (hf : seen.getD (at0 σ.trail p).natAbs false = false) :
    ∀ n, n ≤ σ.trail.length → opens σ (seen.set (at0 σ.trail p).natAbs true) now n = opens σ seen now n + (if p < n ∧ lv σ.marks p = now then 1 else 0)
  | 0, _ => by simp [opens]
  | n + 1, hn => by
    have ih := opens_set C (now := now) hp hs hf n (by omega)
    unfold opens
    rw [ih, getD_setB _ _ _ hs]
    by_cases e : p = n
    · subst e
      rw [if_pos rfl, hf]
      simp
    · have : (at0 σ.trail p).natAbs ≠ (at0 σ.trail n).natAbs := fun h => e (abs_nodup C.nodup hp (by omega) h)
      rw [if_neg this]
      have e2 : (p < n ∧ lv σ.marks p = now) ↔ (p < n + 1 ∧ lv σ.marks p = now) := by
        constructor <;> (rintro ⟨a, b⟩; exact ⟨by omega, b⟩)
      simp only [e2]
      omega

structure LQ (σ : S) (V : Nat) (occ : List Nat) (now n : Nat) (w : List Nat) (q : Scan) : Prop where
  wl : w.length = V
  sl : q.seen.length = V
  wt : ∀ v, w.getD v 0 = σ.weight.getD v 0 + (if q.seen.getD v false = true then 1 else 0)
  sq : ∀ v, q.seen.getD v false = true → v ∈ occ
  op : q.opn = (opens σ q.seen now n : Int)
  re : ∀ x, x ∈ q.rest ↔ (-x ∈ σ.trail ∧ 0 < σ.level.getD x.natAbs 0 ∧ σ.level.getD x.natAbs 0 < now ∧ q.seen.getD x.natAbs false = true)
  rn : (q.rest.map Int.natAbs).Nodup

theorem LQ.rlen {σ : S} {V : Nat} {occ : List Nat} {now n : Nat} {w : List Nat} {q : Scan} (C : Core σ V) (h : LQ σ V occ now n w q) : q.rest.length ≤ V := by
  have := nodup_bound V _ h.rn (by
    intro x hx; obtain ⟨l, hl, rfl⟩ := List.mem_map.1 hx
    have := (C.lits _ ((h.re l).1 hl).1).2; omega)
  simpa using this

theorem scan_ok {σ : S} {V : Nat} {occ : List Nat} (C : Core σ V) {s n : Nat} (hn : n ≤ σ.trail.length) {skip : Int} (hw : ∀ v, σ.weight.getD v 0 ≤ 10000) :
    ∀ (c : List Int) (w : List Nat) (q : Scan), (∀ x ∈ c, x ≠ 0 ∧ x.natAbs < V ∧ x.natAbs ∈ occ) → (∀ x ∈ c, x ≠ skip → -x ∈ σ.trail.take n) → LQ σ V occ σ.marks.length n w q →
    ∃ w' r, S.scanO σ.marks.length skip c { σ with weight := w, steps := s } q = some ({ σ with weight := w', steps := s }, r) ∧ LQ σ V occ σ.marks.length n w' r ∧
      (∀ v, q.seen.getD v false = true → r.seen.getD v false = true) ∧ (∀ x ∈ c, x ≠ skip → σ.level.getD x.natAbs 0 ≠ 0 → r.seen.getD x.natAbs false = true)
  | [], w, q, _, _, Q => ⟨w, q, rfl, Q, fun _ h => h, by simp⟩
  | l :: c, w, q, hc, hf, Q => by
    have h1 := hc l (by simp)
    have hc' : ∀ x ∈ c, x ≠ 0 ∧ x.natAbs < V ∧ x.natAbs ∈ occ := fun x hx => hc x (by simp [hx])
    have hf' : ∀ x ∈ c, x ≠ skip → -x ∈ σ.trail.take n := fun x hx => hf x (by simp [hx])
    have bg := C.big
    have sz := C.size
    have tl := C.tlen
    have ev := C.even
    have rl := Q.rlen C
    have ol := opens_le σ q.seen σ.marks.length n
    have hop := Q.op
    have hwt := Q.wt l.natAbs
    have hw1 := hw l.natAbs
    unfold S.scanO
    rw [if_pos ⟨C.lit h1.1 h1.2.1, ⟨ev.1, ev.2.1, by show w.length = _; rw [Q.wl, sz], ev.2.2.2⟩, by show q.seen.length = σ.value.length; rw [Q.sl, sz], by omega, by omega, by omega, by show w.getD l.natAbs 0 < 60000; rw [hwt]; split <;> omega⟩]
    by_cases hsk : l = skip ∨ q.seen.getD l.natAbs false = true ∨ σ.level.getD l.natAbs 0 = 0
    · rw [if_pos hsk]
      obtain ⟨w', r, a, b, c1, d⟩ := scan_ok C hn hw c w q hc' hf' Q
      refine ⟨w', r, a, b, c1, ?_⟩
      intro x hx hne h0
      rcases List.mem_cons.1 hx with rfl | hx
      · rcases hsk with h | h | h
        · exact absurd h hne
        · exact c1 _ h
        · exact absurd h h0
      · exact d x hx hne h0
    · rw [if_neg hsk]
      have hsk1 : l ≠ skip := fun e => hsk (.inl e)
      have hsk2 : q.seen.getD l.natAbs false = false := by
        cases h : q.seen.getD l.natAbs false with
        | false => rfl
        | true => exact absurd (.inr (.inl h)) hsk
      have hsk3 : 0 < σ.level.getD l.natAbs 0 := Nat.pos_of_ne_zero fun e => hsk (.inr (.inr e))
      have hlt := hf l (by simp) hsk1
      have htr := mem_take_of hlt
      obtain ⟨p, hp, ep⟩ := mem_at0 hlt
      simp only [List.length_take] at hp
      rw [at0_take (by omega)] at ep
      have ea : (at0 σ.trail p).natAbs = l.natAbs := by rw [ep, Int.natAbs_neg]
      have hlv : σ.level.getD l.natAbs 0 = lv σ.marks p := by rw [← ea]; exact C.lev p (by omega)
      have hle := lv_le σ.marks p
      have ho := opens_set C (seen := q.seen) (now := σ.marks.length) (p := p) (by omega) (by rw [ea, Q.sl]; exact h1.2.1) (by rw [ea]; exact hsk2) n hn
      rw [ea] at ho
      have hwl : (w.set l.natAbs (w.getD l.natAbs 0 + 1)).length = V := by simp [Q.wl]
      have hsl : (q.seen.set l.natAbs true).length = V := by simp [Q.sl]
      have hsd : ∀ v, (q.seen.set l.natAbs true).getD v false = if l.natAbs = v then true else q.seen.getD v false := fun v => getD_setB _ _ _ (by rw [Q.sl]; exact h1.2.1)
      have hwt' : ∀ v, (w.set l.natAbs (w.getD l.natAbs 0 + 1)).getD v 0 = σ.weight.getD v 0 + (if (q.seen.set l.natAbs true).getD v false = true then 1 else 0) := by
        intro v
        rw [getD_set _ _ _ _ _ (by rw [Q.wl]; exact h1.2.1), hsd]
        split
        · rename_i e; subst e; rw [hwt, hsk2]; simp
        · exact Q.wt v
      have hsq' : ∀ v, (q.seen.set l.natAbs true).getD v false = true → v ∈ occ := by
        intro v hv
        rw [hsd] at hv
        split at hv
        · rename_i e; rw [← e]; exact h1.2.2
        · exact Q.sq v hv
      have mono : ∀ v, q.seen.getD v false = true → (q.seen.set l.natAbs true).getD v false = true := by
        intro v hv; rw [hsd]; split
        · rfl
        · exact hv
      by_cases hnow : σ.level.getD l.natAbs 0 = σ.marks.length
      · rw [if_pos hnow]
        obtain ⟨w', r, a, b, c1, d⟩ := scan_ok C hn hw c (w.set l.natAbs (w.getD l.natAbs 0 + 1)) { q with seen := q.seen.set l.natAbs true, opn := q.opn + 1 } hc' hf' ⟨hwl, hsl, hwt', hsq', by
          show q.opn + 1 = _
          rw [ho, if_pos ⟨by omega, by omega⟩, hop]; omega, by
          intro x
          rw [Q.re x]
          show _ ↔ _ ∧ _ ∧ _ ∧ (q.seen.set l.natAbs true).getD x.natAbs false = true
          rw [hsd]
          constructor
          · rintro ⟨a, b, c, d⟩; refine ⟨a, b, c, ?_⟩; split
            · rfl
            · exact d
          · rintro ⟨a, b, c, d⟩; refine ⟨a, b, c, ?_⟩
            rw [if_neg] at d
            · exact d
            · intro e; rw [← e] at c; omega, Q.rn⟩
        refine ⟨w', r, a, b, fun v hv => c1 v (mono v hv), ?_⟩
        intro x hx hne h0
        rcases List.mem_cons.1 hx with rfl | hx
        · exact c1 _ (by rw [hsd, if_pos rfl])
        · exact d x hx hne h0
      · rw [if_neg hnow]
        obtain ⟨w', r, a, b, c1, d⟩ := scan_ok C hn hw c (w.set l.natAbs (w.getD l.natAbs 0 + 1)) { q with seen := q.seen.set l.natAbs true, rest := q.rest ++ [l] } hc' hf' ⟨hwl, hsl, hwt', hsq', by
          show q.opn = _
          rw [ho, if_neg (by rw [← hlv]; exact fun h => hnow h.2), hop]; rfl, by
          intro x
          show x ∈ q.rest ++ [l] ↔ _ ∧ _ ∧ _ ∧ (q.seen.set l.natAbs true).getD x.natAbs false = true
          rw [List.mem_append, Q.re x, hsd, List.mem_singleton]
          constructor
          · rintro (⟨a, b, c, d⟩ | rfl)
            · refine ⟨a, b, c, ?_⟩; split
              · rfl
              · exact d
            · exact ⟨htr, hsk3, by omega, by rw [if_pos rfl]⟩
          · rintro ⟨a, b, c, d⟩
            split at d
            · rename_i e
              right
              rcases Int.natAbs_eq_natAbs_iff.1 e with e | e
              · exact e.symm
              · exfalso; rw [e, Int.neg_neg] at htr; exact C.one_way htr a
            · exact .inl ⟨a, b, c, d⟩, by
          show ((q.rest ++ [l]).map Int.natAbs).Nodup
          rw [List.map_append, List.nodup_append]
          refine ⟨Q.rn, by simp, ?_⟩
          intro a ha b hb
          obtain ⟨x, hx, rfl⟩ := List.mem_map.1 ha
          simp at hb
          rw [hb]
          intro e
          have := ((Q.re x).1 hx).2.2.2
          rw [e, hsk2] at this
          cases this⟩
        refine ⟨w', r, a, b, fun v hv => c1 v (mono v hv), ?_⟩
        intro x hx hne h0
        rcases List.mem_cons.1 hx with rfl | hx
        · exact c1 _ (by rw [hsd, if_pos rfl])
        · exact d x hx hne h0

theorem find_ok {σ : S} {V : Nat} (C : Core σ V) {w : List Nat} {s : Nat} {seen : List Bool} (hs : seen.length = V) :
    ∀ n, n ≤ σ.trail.length → (∃ p, p < n ∧ seen.getD (at0 σ.trail p).natAbs false = true) →
    ∃ i, S.findO { σ with weight := w, steps := s } seen n = some i ∧ i < n ∧ seen.getD (at0 σ.trail i).natAbs false = true ∧ ∀ j, i < j → j < n → seen.getD (at0 σ.trail j).natAbs false = false
  | 0, _, h => by obtain ⟨p, hp, _⟩ := h; omega
  | n + 1, hn, h => by
    have tl := C.tlen
    have bg := C.big
    have sz := C.size
    have li := C.lits _ (at0_mem (xs := σ.trail) (i := n) (by omega))
    have lt := C.lit li.1 li.2
    unfold S.findO
    rw [if_pos ⟨lt, by show n < σ.trail.length; omega, by show σ.trail.length ≤ 60000; omega, by show seen.length = σ.value.length; omega⟩]
    show ∃ i, (if seen.getD (at0 σ.trail n).natAbs false = true then some n else S.findO _ seen n) = some i ∧ _
    cases hb : seen.getD (at0 σ.trail n).natAbs false with
    | true => exact ⟨n, by rw [if_pos rfl], by omega, hb, fun j a b => by omega⟩
    | false =>
      obtain ⟨p, hp, hp2⟩ := h
      have : p ≠ n := fun e => by subst e; rw [hb] at hp2; cases hp2
      obtain ⟨i, a, b, c, d⟩ := find_ok C hs n (by omega) ⟨p, by omega, hp2⟩
      refine ⟨i, by rw [if_neg (by simp)]; exact a, by omega, c, fun j x y => ?_⟩
      rcases Nat.lt_or_ge j n with h | h
      · exact d j x h
      · have : j = n := by omega
        subst this; exact hb

theorem placed_ok {σ : S} {V : Nat} (C : Core σ V) {w : List Nat} (hw : w.length = V) {s : Nat} :
    ∀ (n i lev : Nat) (c : List Int), i + n = c.length → 1 ≤ i → (∀ x ∈ c, x ≠ 0 ∧ x.natAbs < V) → (∀ j, 1 ≤ j → j < c.length → 0 < σ.level.getD (at0 c j).natAbs 0) →
      (∀ j, 1 ≤ j → j < i → σ.level.getD (at0 c j).natAbs 0 ≤ lev) → (2 ≤ i → σ.level.getD (at0 c 1).natAbs 0 = lev) → (i = 1 → lev = 0) →
    ∃ c' lev', S.placedO { σ with weight := w, steps := s } n i lev c = some (c', lev') ∧ c'.Perm c ∧ at0 c' 0 = at0 c 0 ∧
      (∀ j, 1 ≤ j → j < c'.length → σ.level.getD (at0 c' j).natAbs 0 ≤ lev') ∧ (2 ≤ c'.length → σ.level.getD (at0 c' 1).natAbs 0 = lev') ∧ (c'.length = 1 → lev' = 0)
  | 0, i, lev, c, h, h1, _, _, a, b, d => by
    have h : i = c.length := h
    subst h
    exact ⟨c, lev, rfl, List.Perm.refl _, rfl, a, b, d⟩
  | n + 1, i, lev, c, h, h1, hl, hz, a, b, d => by
    have li := hl _ (at0_mem (xs := c) (i := i) (by omega))
    have sz := C.size
    have ev := C.even
    have hz1 := hz i h1 (by omega)
    unfold S.placedO
    rw [if_pos ⟨C.lit li.1 li.2, ev.1, ev.2.1, by show w.length = σ.value.length; omega, ev.2.2.2⟩]
    show ∃ c' lev', (if lev < σ.level.getD (at0 c i).natAbs 0 then S.placedO _ n (i + 1) (σ.level.getD (at0 c i).natAbs 0) (swap c 1 i) else S.placedO _ n (i + 1) lev c) = _ ∧ _
    by_cases hgt : lev < σ.level.getD (at0 c i).natAbs 0
    · rw [if_pos hgt]
      have pm : (swap c 1 i).Perm c := swap_perm c (by omega) (by omega)
      have sa := swap_at c (i := 1) (j := i) (by omega) (by omega)
      have sl := swap_len c 1 i
      obtain ⟨c', lev', e1, e2, e3, e4, e5, e6⟩ := placed_ok C hw (s := s) n (i + 1) (σ.level.getD (at0 c i).natAbs 0) (swap c 1 i) (by omega) (by omega) (fun x hx => hl x (pm.mem_iff.1 hx)) (by
          intro j hj hj2
          rw [sa]
          split
          · exact hz 1 (by omega) (by omega)
          · split
            · exact hz1
            · exact hz j hj (by omega)) (by
          intro j hj hj2
          rw [sa]
          split
          · rename_i e
            rcases Nat.lt_or_ge 1 i with q | q
            · have := a 1 (by omega) q; omega
            · have : i = 1 := by omega
              subst this; exact Nat.le_refl _
          · split
            · exact Nat.le_refl _
            · have := a j hj (by omega); omega) (by
          intro _
          rw [sa]
          split
          · rename_i e; rw [← e]
          · rw [if_pos rfl]) (by intro; omega)
      refine ⟨c', lev', e1, e2.trans pm, ?_, e4, e5, e6⟩
      rw [e3, sa, if_neg (by omega), if_neg (by omega)]
    · rw [if_neg hgt]
      have h2 : 2 ≤ i := by
        rcases Nat.lt_or_ge i 2 with q | q
        · have := d (by omega); omega
        · exact q
      exact placed_ok C hw n (i + 1) lev c (by omega) (by omega) hl hz (by
        intro j hj hj2
        rcases Nat.lt_or_ge j i with q | q
        · exact a j hj q
        · have : j = i := by omega
          subst this; omega) (fun _ => b h2) (by intro; omega)

/-- How many of the trail's first n are of variables that occur. -/
def occN (σ : S) (occ : List Nat) (n : Nat) : Nat := ((σ.trail.take n).filter fun l => decide (l.natAbs ∈ occ)).length

theorem occN_step {σ : S} {occ : List Nat} {i n : Nat} (h : i < n) (hn : n ≤ σ.trail.length) (ho : (at0 σ.trail i).natAbs ∈ occ) : occN σ occ i + 1 ≤ occN σ occ n := by
  have e : σ.trail.take n = σ.trail.take i ++ (at0 σ.trail i :: (σ.trail.take n).drop (i + 1)) := by
    conv => lhs; rw [← List.take_append_drop i (σ.trail.take n)]
    rw [List.take_take, Nat.min_eq_left (by omega), List.drop_eq_getElem_cons (by simp; omega)]
    congr 2
    unfold at0; grind
  unfold occN
  rw [e, List.filter_append, List.filter_cons, if_pos (by simpa using ho)]
  simp

theorem lv_before {marks : List Nat} {i p : Nat} (hi : i ∈ marks) (hp : p < i) : lv marks p < marks.length := by
  unfold lv
  have := List.length_filter_le (· ≤ p) marks
  rcases Nat.lt_or_eq_of_le this with h | h
  · exact h
  · have := List.length_filter_eq_length_iff.1 h i hi
    simp at this; omega

/-- What a learnt clause is. -/
structure Learnt (σ : S) (V : Nat) (occ : List Nat) (D : List (List Int)) (c : List Int) (lev : Nat) : Prop where
  one : 1 ≤ c.length
  lit : ∀ x ∈ c, x ≠ 0 ∧ x.natAbs < V ∧ x.natAbs ∈ occ
  nod : (c.map Int.natAbs).Nodup
  neg : ∀ x ∈ c, -x ∈ σ.trail
  top : σ.level.getD (at0 c 0).natAbs 0 = σ.marks.length
  low : lev < σ.marks.length
  oth : ∀ j, 1 ≤ j → j < c.length → σ.level.getD (at0 c j).natAbs 0 ≤ lev
  two : 2 ≤ c.length → σ.level.getD (at0 c 1).natAbs 0 = lev
  unit : c.length = 1 → lev = 0
  rup : Rup D c

theorem learn_ok {σ : S} {V : Nat} {occ : List Nat} {D : List (List Int)} (C : Core σ V) (K : Cls σ V occ) (R : Reas σ) (T : Ent σ D) (hnow : 0 < σ.marks.length) (hw : ∀ v, σ.weight.getD v 0 ≤ 10000) :
    ∀ (m : Nat) (w : List Nat) (s : Nat) (q : Scan) (n k : Nat) (skip : Int), n < m → n ≤ σ.trail.length → k < σ.clauses.length → LQ σ V occ σ.marks.length n w q → (∀ x ∈ σ.clause k, x ≠ skip → -x ∈ σ.trail.take n) →
      (0 < q.opn ∨ ∃ x ∈ σ.clause k, x ≠ skip ∧ σ.level.getD x.natAbs 0 = σ.marks.length) →
      (∀ N, Closed N D → (∀ x ∈ q.rest, N (-x)) → (∀ p, p < n → lv σ.marks p = σ.marks.length → q.seen.getD (at0 σ.trail p).natAbs false = true → N (at0 σ.trail p)) → (∀ x ∈ σ.clause k, x ≠ skip → σ.level.getD x.natAbs 0 ≠ 0 → N (-x)) → False) →
      s + occN σ occ n ≤ 60000 →
    ∃ w' s' c lev, S.learnO σ.marks.length m { σ with weight := w, steps := s } q n k skip = some ({ σ with weight := w', steps := s' }, c, lev) ∧ w'.length = V ∧ s ≤ s' ∧ s' ≤ s + occN σ occ n ∧
      (∀ v, σ.weight.getD v 0 ≤ w'.getD v 0 ∧ w'.getD v 0 ≤ σ.weight.getD v 0 + 1 ∧ (v ∉ occ → w'.getD v 0 = σ.weight.getD v 0)) ∧
      (∀ v, q.seen.getD v false = true → w'.getD v 0 = σ.weight.getD v 0 + 1) ∧
      (∀ x ∈ σ.clause k, x ≠ skip → σ.level.getD x.natAbs 0 ≠ 0 → w'.getD x.natAbs 0 = σ.weight.getD x.natAbs 0 + 1) ∧ Learnt σ V occ D c lev
  | 0, _, _, _, _, _, _, h, _, _, _, _, _, _, _ => absurd h (by omega)
  | m + 1, w, s, q, n, k, skip, hm, hn, hk, Q, hf, hpos, hres, hs => by
    have tl := C.tlen
    have bg := C.big
    have sz := C.size
    have kl := K.len hk
    unfold S.learnO
    rw [if_pos ⟨hk, by show (σ.clause k).length ≤ 60000; omega⟩]
    obtain ⟨w1, r, h1, Q1, h2, h3⟩ := scan_ok (s := s) C hn (skip := skip) hw (σ.clause k) w q (K.lit k hk) hf Q
    rw [show (S.clause { σ with weight := w, steps := s } k) = σ.clause k from rfl, h1]
    simp only [Option.bind_some]
    have ol := opens_le σ r.seen σ.marks.length n
    have rl := Q1.rlen C
    have rop := Q1.op
    have ropen : 0 < opens σ r.seen σ.marks.length n := by
      rcases hpos with h | ⟨x, hx, hne, hl⟩
      · have := Q.op
        obtain ⟨p, a, b, c⟩ := opens_pos (σ := σ) (seen := q.seen) (now := σ.marks.length) (n := n) (by omega)
        rcases Nat.eq_zero_or_pos (opens σ r.seen σ.marks.length n) with h | h
        · exact absurd ⟨b, h2 _ c⟩ (opens_zero h p a)
        · exact h
      · obtain ⟨p, hp, ep⟩ := mem_at0 (hf x hx hne)
        simp only [List.length_take] at hp
        rw [at0_take (by omega)] at ep
        have ea : (at0 σ.trail p).natAbs = x.natAbs := by rw [ep, Int.natAbs_neg]
        rcases Nat.eq_zero_or_pos (opens σ r.seen σ.marks.length n) with h | h
        · exact absurd ⟨by rw [← C.lev p (by omega), ea]; exact hl, by rw [ea]; exact h3 x hx hne (by omega)⟩ (opens_zero h p (by omega))
        · exact h
    obtain ⟨p, hp1, hp2, hp3⟩ := opens_pos ropen
    obtain ⟨i, f1, f2, f3, f4⟩ := find_ok C (w := w1) (s := s) Q1.sl n hn ⟨p, hp1, hp3⟩
    rw [f1]
    simp only [Option.bind_some]
    have hpi : p ≤ i := by
      rcases Nat.lt_or_ge i p with h | h
      · have := f4 p h hp1; rw [hp3] at this; cases this
      · exact h
    have ilv : lv σ.marks i = σ.marks.length := by have := lv_mono σ.marks hpi; have := lv_le σ.marks i; omega
    have og := opens_gap f2 f4 ilv f3
    have imem := at0_mem (xs := σ.trail) (i := i) (by omega)
    have ilit := C.lits _ imem
    have iocc : (at0 σ.trail i).natAbs ∈ occ := Q1.sq _ f3
    have ostep := occN_step f2 hn iocc
    have post : ∀ N, Closed N D → (∀ x ∈ r.rest, N (-x)) → (∀ p, p < n → lv σ.marks p = σ.marks.length → r.seen.getD (at0 σ.trail p).natAbs false = true → N (at0 σ.trail p)) → False := by
      intro N hN hr ho
      refine hres N hN (fun x hx => hr x ?_) (fun p a b c => ho p a b (h2 _ c)) ?_
      · rw [Q1.re]; obtain ⟨a, b, c, d⟩ := (Q.re x).1 hx; exact ⟨a, b, c, h2 _ d⟩
      · intro x hx hne h0
        have sx := h3 x hx hne h0
        have hxt := hf x hx hne
        obtain ⟨p, hp, ep⟩ := mem_at0 hxt
        simp only [List.length_take] at hp
        rw [at0_take (by omega)] at ep
        have ea : (at0 σ.trail p).natAbs = x.natAbs := by rw [ep, Int.natAbs_neg]
        have le := C.levle (mem_take_of hxt)
        rw [Int.natAbs_neg] at le
        rcases Nat.lt_or_ge (σ.level.getD x.natAbs 0) σ.marks.length with h | h
        · exact hr x ((Q1.re x).2 ⟨mem_take_of hxt, by omega, h, sx⟩)
        · rw [← ep]; exact ho p (by omega) (by rw [← C.lev p (by omega), ea]; omega) (by rw [ea]; exact sx)
    have wres : ∀ w' : List Nat, (∀ v, σ.weight.getD v 0 ≤ w1.getD v 0 ∧ w1.getD v 0 ≤ σ.weight.getD v 0 + 1 ∧ (v ∉ occ → w1.getD v 0 = σ.weight.getD v 0)) := by
      intro _ v
      rw [Q1.wt v]
      refine ⟨by omega, by split <;> omega, fun h => ?_⟩
      rw [if_neg (fun e => h (Q1.sq v e))]; rfl
    have hsn : s < 60000 := by omega
    rw [if_pos ⟨hsn, by omega, by omega, by omega⟩]
    show ∃ w' s' c lev, (if r.opn = 1 then (S.placedO { σ with weight := w1, steps := s + 1 } r.rest.length 1 0 (-(at0 σ.trail i) :: r.rest)).map (fun (c, lev) => (({ σ with weight := w1, steps := s + 1 } : S), c, lev))
      else if 0 ≤ at0 σ.reason (at0 σ.trail i).natAbs then S.learnO σ.marks.length m { σ with weight := w1, steps := s + 1 } { r with opn := r.opn - 1 } i (at0 σ.reason (at0 σ.trail i).natAbs).toNat (at0 σ.trail i) else none) = _ ∧ _
    by_cases h1o : r.opn = 1
    · rw [if_pos h1o]
      have oz : opens σ r.seen σ.marks.length i = 0 := by omega
      have nl : ∀ x ∈ r.rest, x.natAbs ≠ (at0 σ.trail i).natAbs := by
        intro x hx e
        have := (Q1.re x).1 hx
        have e2 := C.lev i (by omega)
        rw [← e] at e2
        omega
      obtain ⟨c', lev', e1, e2, e3, e4, e5, e6⟩ := placed_ok C Q1.wl (s := s + 1) r.rest.length 1 0 (-(at0 σ.trail i) :: r.rest) (by simp; omega) (by omega) (by
          intro x hx
          rcases List.mem_cons.1 hx with rfl | hx
          · rw [Int.natAbs_neg]; exact ⟨by omega, ilit.2⟩
          · have := C.lits _ ((Q1.re x).1 hx).1; rw [Int.natAbs_neg] at this; exact ⟨by omega, this.2⟩) (by
          intro j hj hj2
          obtain ⟨j, rfl⟩ : ∃ j', j = j' + 1 := ⟨j - 1, by omega⟩
          have e : at0 (-(at0 σ.trail i) :: r.rest) (j + 1) = at0 r.rest j := by unfold at0; simp
          rw [e]
          exact ((Q1.re _).1 (at0_mem (by simpa using hj2))).2.1) (by intro j a b; omega) (by intro; omega) (fun _ => rfl)
      rw [e1]
      have clen := e2.length_eq
      simp only [List.length_cons] at clen
      have cm : ∀ x, x ∈ c' ↔ x = -(at0 σ.trail i) ∨ x ∈ r.rest := by intro x; rw [e2.mem_iff, List.mem_cons]
      have e3' : at0 c' 0 = -(at0 σ.trail i) := e3
      have nd' : (c'.map Int.natAbs).Nodup := by
        rw [(e2.map _).nodup_iff, List.map_cons, List.nodup_cons, Int.natAbs_neg]
        exact ⟨fun h => by obtain ⟨x, hx, e⟩ := List.mem_map.1 h; exact nl x hx e, Q1.rn⟩
      have lowj : ∀ j, 1 ≤ j → j < c'.length → σ.level.getD (at0 c' j).natAbs 0 < σ.marks.length := by
        intro j hj hj2
        rcases (cm _).1 (at0_mem hj2) with h | h
        · exfalso; have := at0_inj nd' hj2 (j := 0) (by omega) (by rw [h, e3']); omega
        · exact ((Q1.re _).1 h).2.2.1
      refine ⟨w1, s + 1, c', lev', rfl, Q1.wl, by omega, by omega, wres w1, fun v hv => by rw [Q1.wt, if_pos (h2 _ hv)], fun x hx hne h0 => by rw [Q1.wt, if_pos (h3 x hx hne h0)], ?_⟩
      refine ⟨by omega, ?_, nd', ?_, ?_, ?_, e4, e5, e6, ?_⟩
      · intro x hx
        rcases (cm x).1 hx with rfl | hx
        · rw [Int.natAbs_neg]; exact ⟨by omega, ilit.2, iocc⟩
        · have a := (Q1.re x).1 hx
          have := C.lits _ a.1; rw [Int.natAbs_neg] at this; exact ⟨by omega, this.2, Q1.sq _ a.2.2.2⟩
      · intro x hx
        rcases (cm x).1 hx with rfl | hx
        · rw [Int.neg_neg]; exact imem
        · exact ((Q1.re x).1 hx).1
      · rw [e3', Int.natAbs_neg, C.lev i (by omega)]; exact ilv
      · rcases Nat.lt_or_ge c'.length 2 with h | h
        · rw [e6 (by omega)]; exact hnow
        · rw [← e5 h]; exact lowj 1 (by omega) h
      · intro N hN hall
        refine post N hN (fun x hx => hall x ((cm x).2 (.inr hx))) ?_
        intro p a b c
        rcases Nat.lt_trichotomy p i with h | h | h
        · exact absurd ⟨b, c⟩ (opens_zero oz p h)
        · subst h; have := hall _ ((cm _).2 (.inl rfl)); rwa [Int.neg_neg] at this
        · have := f4 p h a; rw [c] at this; cases this
    · rw [if_neg h1o]
      have oz : 0 < opens σ r.seen σ.marks.length i := by omega
      obtain ⟨p2, a1, a2, a3⟩ := opens_pos oz
      rcases R.of i (by omega) with ⟨h1, h4⟩ | ⟨h1, h4, h5, h6, _⟩
      · exfalso
        rcases h4 with h4 | h4
        · omega
        · have := lv_before h4 a1; omega
      · rw [if_pos h1]
        obtain ⟨w', s', c, lev, g1, g2, g3, g4, g5, g6, g7, g8⟩ := learn_ok C K R T hnow hw m w1 (s + 1) { r with opn := r.opn - 1 } i (at0 σ.reason (at0 σ.trail i).natAbs).toNat (at0 σ.trail i) (by omega) (by omega) h4
          ⟨Q1.wl, Q1.sl, Q1.wt, Q1.sq, by show r.opn - 1 = ((opens σ r.seen σ.marks.length i : Nat) : Int); omega, Q1.re, Q1.rn⟩ h6 (.inl (by show 0 < r.opn - 1; omega)) (by
            intro N hN hr ho hc
            have hz := ent_zero C R T hN
            have hl : N (at0 σ.trail i) := by
              refine (T.cl N hN _ h4).2 _ h5 ?_
              intro x hx hne
              by_cases h0 : σ.level.getD x.natAbs 0 = 0
              · exact hz _ (mem_take_of (h6 x hx hne)) (by rw [Int.natAbs_neg]; exact h0)
              · exact hc x hx hne h0
            refine post N hN hr ?_
            intro p a b c
            rcases Nat.lt_trichotomy p i with h | h | h
            · exact ho p h b c
            · subst h; exact hl
            · have := f4 p h a; rw [c] at this; cases this) (by omega)
        exact ⟨w', s', c, lev, g1, g2, by omega, by omega, g5, fun v hv => g6 v (h2 v hv), fun x hx hne h0 => g6 _ (h3 x hx hne h0), g8⟩
end Go.Proofs.YtdllaphnkbnpoaaGreat
