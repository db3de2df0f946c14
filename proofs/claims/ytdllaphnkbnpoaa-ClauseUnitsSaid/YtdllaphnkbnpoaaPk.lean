/- The reference's propagation comes to an end; what its answers mean; what satisfies. -/
import Derived.Test.YtdllaphnkbnpoaaPj
namespace Go.Proofs.Ytdllaphnkbnpoaa

/-- Each variable once, none beyond 200. -/
def Once (now : List Int) : Prop := (now.map Int.natAbs).Nodup ∧ ∀ x ∈ now, x.natAbs ≤ 200

theorem once_len {now : List Int} (h : Once now) : now.length ≤ 201 := by
  have := nodup_sub (now.map Int.natAbs) (List.range 201) h.1 (fun x hx => by
    obtain ⟨y, hy, rfl⟩ := List.mem_map.1 hx
    have := h.2 y hy
    simp; omega)
  simpa using this

theorem once_snoc {now : List Int} {x : Int} (h : Once now) (h1 : x ∉ now) (h2 : -x ∉ now) (h3 : x.natAbs ≤ 200) : Once (now ++ [x]) := by
  refine ⟨?_, fun y hy => ?_⟩
  · rw [List.map_append, List.nodup_append]
    refine ⟨h.1, by simp, ?_⟩
    intro a ha b hb e
    obtain ⟨y, hy, rfl⟩ := List.mem_map.1 ha
    simp at hb
    rw [hb] at e
    rcases Int.natAbs_eq_natAbs_iff.1 e with q | q
    · exact h1 (q ▸ hy)
    · exact h2 (q ▸ hy)
  · rcases List.mem_append.1 hy with z | z
    · exact h.2 y z
    · rw [List.mem_singleton] at z; rw [z]; exact h3

theorem pass_once : ∀ (cs : List (List Int)) (now : List Int) (ag : Bool), (∀ e ∈ cs, ∀ x ∈ e, x ≠ 0 ∧ x.natAbs ≤ 200) → Once now →
    ∀ r, passM cs now ag = some r → Once r.1
  | [], now, ag, _, h, r, hr => by injection hr with hr; subst hr; exact h
  | c :: cs, now, ag, h0, h, r, hr => by
    have I := scan_all (now := now) (fun x hx => (h0 c (by simp) x hx).1)
    have hcs : ∀ e ∈ cs, ∀ x ∈ e, x ≠ 0 ∧ x.natAbs ≤ 200 := fun e he => h0 e (by simp [he])
    unfold passM at hr
    generalize scanM now c 0 0 false = t at *
    by_cases q : t.2.2 = true ∨ 1 < t.2.1
    · rw [if_pos q] at hr
      exact pass_once cs now ag hcs h r hr
    · rw [if_neg q] at hr
      by_cases n0 : t.2.1 = 0
      · rw [if_pos n0] at hr; cases hr
      · rw [if_neg n0] at hr
        obtain ⟨o1, o2⟩ := I.open_ (by omega)
        have onew : t.1 ∉ now := fun z => q (.inl (I.held.2 ⟨_, o1, z⟩))
        exact pass_once cs (now ++ [t.1]) true hcs (once_snoc h onew o2 (h0 c (by simp) _ o1).2) r hr

theorem assume_once : ∀ (as now : List Int), (∀ x ∈ as, x.natAbs ≤ 200) → Once now → ∀ r, assumeM as now = some r → Once r
  | [], now, _, h, r, hr => by injection hr with hr; subst hr; exact h
  | a :: as, now, h0, h, r, hr => by
    unfold assumeM at hr
    by_cases q : now.contains (-a) = true
    · rw [if_pos q] at hr; cases hr
    · rw [if_neg q] at hr
      have hs : ∀ x ∈ as, x.natAbs ≤ 200 := fun x hx => h0 x (by simp [hx])
      by_cases p : now.contains a = true
      · rw [if_pos p] at hr; exact assume_once as now hs h r hr
      · rw [if_neg p] at hr
        exact assume_once as _ hs (once_snoc h (by simpa using p) (by simpa using q) (h0 a (by simp))) r hr

/-- A fixed point: each clause holds or has two open literals. -/
def Fix (D : List (List Int)) (now : List Int) : Prop :=
  ∀ e ∈ D, (∃ x ∈ e, x ∈ now) ∨ ∃ x ∈ e, ∃ y ∈ e, x ≠ y ∧ -x ∉ now ∧ -y ∉ now

theorem prop_end {A : Nat → Bool} {D : List (List Int)} (h0 : ∀ e ∈ D, ∀ x ∈ e, x ≠ 0 ∧ x.natAbs ≤ 200) : ∀ (k : Nat) (now : List Int), Cons now → (∀ x ∈ now, x ≠ 0) → Once now → 202 ≤ now.length + k →
    ∃ R, propM D k now = some R ∧
      (∀ r, R = some r → Cons r ∧ (∀ x ∈ r, x ≠ 0) ∧ Once r ∧ (∀ x ∈ now, x ∈ r) ∧ (∀ x ∈ r, x ∈ now ∨ ∃ e ∈ D, x ∈ e) ∧ Fix D r) ∧
      (SatBy A D → (∀ x ∈ now, Holds1 A x) → ∃ r, R = some r ∧ ∀ x ∈ r, Holds1 A x)
  | 0, now, _, _, ho, hk => by have := once_len ho; omega
  | k + 1, now, hc, hz, ho, hk => by
    have hd : ∀ e ∈ D, ∀ x ∈ e, x ≠ 0 := fun e he x hx => (h0 e he x hx).1
    obtain ⟨p1, p2⟩ := pass_ok (A := A) D now false hd hc hz
    have po := pass_once D now false h0 ho
    unfold propM
    generalize passM D now false = P at *
    cases P with
    | none =>
      refine ⟨none, rfl, fun r hr => (by cases hr), fun hs hA => ?_⟩
      obtain ⟨r, hr, _⟩ := p2 hs hA
      cases hr
    | some P =>
      obtain ⟨nw, ag⟩ := P
      obtain ⟨a1, a2, a3, a4, a5, a6, a7, a8⟩ := p1 _ rfl
      have ho' := po _ rfl
      cases ag with
      | false =>
        obtain ⟨b1, b2⟩ := a8 rfl
        simp only at b1 ho' a1 a2 a3 a7
        refine ⟨some nw, rfl, fun r hr => ?_, fun hs hA => ?_⟩
        · injection hr with hr; subst hr
          subst b1
          exact ⟨a1, a2, ho', a3, a7, b2⟩
        · obtain ⟨r, hr, hh⟩ := p2 hs hA
          injection hr with hr; subst hr
          exact ⟨nw, rfl, hh⟩
      | true =>
        have hlen : now.length < nw.length := by
          rcases a6 rfl with z | z
          · cases z
          · exact z
        simp only at ho' a1 a2 a3 a7
        obtain ⟨R, r1, r2, r3⟩ := prop_end h0 (A := A) k nw a1 a2 ho' (by omega)
        refine ⟨R, r1, fun r hr => ?_, fun hs hA => ?_⟩
        · obtain ⟨c1, c2, c3, c4, c5, c6⟩ := r2 r hr
          refine ⟨c1, c2, c3, fun x hx => c4 x (a3 x hx), fun x hx => ?_, c6⟩
          rcases c5 x hx with z | z
          · exact a7 x z
          · exact .inr z
        · obtain ⟨r, hr, hh⟩ := p2 hs hA
          injection hr with hr; subst hr
          exact r3 hs hh

/-- The whole of it; inside, 'none': a conflict. -/
def propagateM (D : List (List Int)) (as : List Int) : Option (Option (List Int)) :=
  match assumeM as [] with
  | none => some none
  | some now => propM D 300 now

theorem propagate_end {A : Nat → Bool} {D : List (List Int)} {as : List Int} (h0 : ∀ e ∈ D, ∀ x ∈ e, x ≠ 0 ∧ x.natAbs ≤ 200) (ha : ∀ x ∈ as, x ≠ 0 ∧ x.natAbs ≤ 200) :
    ∃ R, propagateM D as = some R ∧
      (∀ r, R = some r → Cons r ∧ (∀ x ∈ r, x ≠ 0) ∧ Once r ∧ (∀ x ∈ as, x ∈ r) ∧ (∀ x ∈ r, x ∈ as ∨ ∃ e ∈ D, x ∈ e) ∧ Fix D r) ∧
      (SatBy A D → (∀ x ∈ as, Holds1 A x) → ∃ r, R = some r ∧ ∀ x ∈ r, Holds1 A x) := by
  obtain ⟨p1, p2⟩ := assume_ok (A := A) as [] (fun x hx => by cases hx) (fun x hx => (ha x hx).1) (fun x hx => by cases hx)
  have po := assume_once as [] (fun x hx => (ha x hx).2) ⟨by simp, by simp⟩
  unfold propagateM
  generalize assumeM as [] = P at *
  cases P with
  | none =>
    refine ⟨none, rfl, fun r hr => (by cases hr), fun _ hA => ?_⟩
    obtain ⟨r, hr⟩ := p2 hA (fun x hx => by cases hx)
    cases hr
  | some now =>
    obtain ⟨a1, a2, a3⟩ := p1 _ rfl
    obtain ⟨R, r1, r2, r3⟩ := prop_end (A := A) h0 300 now a1 a2 (po _ rfl) (by omega)
    refine ⟨R, r1, fun r hr => ?_, fun hs hA => r3 hs (fun x hx => ?_)⟩
    · obtain ⟨c1, c2, c3, c4, c5, c6⟩ := r2 r hr
      refine ⟨c1, c2, c3, fun x hx => c4 x ((a3 x).2 (.inr hx)), fun x hx => ?_, c6⟩
      rcases c5 x hx with z | z
      · rcases (a3 x).1 z with z | z
        · cases z
        · exact .inl z
      · exact .inr z
    · rcases (a3 x).1 hx with z | z
      · cases z
      · exact hA x z

/-- A clause that comes by propagation: its opposites bring a conflict. -/
theorem rup_conflict {D : List (List Int)} {e : List Int} (h0 : ∀ e ∈ D, ∀ x ∈ e, x ≠ 0 ∧ x.natAbs ≤ 200) (he : ∀ x ∈ e, x ≠ 0 ∧ x.natAbs ≤ 200) (hr : Rup D e) :
    propagateM D (e.map fun x => -x) = some none := by
  obtain ⟨R, r1, r2, _⟩ := propagate_end (A := fun _ => true) (D := D) (as := e.map fun x => -x) h0 (fun x hx => by
    obtain ⟨y, hy, rfl⟩ := List.mem_map.1 hx
    have := he y hy
    omega)
  rw [r1]
  cases R with
  | none => rfl
  | some r =>
    exfalso
    obtain ⟨c1, c2, c3, c4, c5, c6⟩ := r2 r rfl
    refine hr (fun x => x ∈ r) ⟨fun x h1 h2 => c1 x h1 h2, fun d hd => ?_⟩ (fun x hx => c4 _ (List.mem_map.2 ⟨x, hx, rfl⟩))
    rcases c6 d hd with z | ⟨x, hx, y, hy, z⟩
    · exact .inl z
    · exact .inr ⟨x, hx, y, hy, z⟩

/-- Where all variables are told, what is told satisfies. -/
theorem all_told {D : List (List Int)} {r : List Int} (h0 : ∀ e ∈ D, ∀ x ∈ e, x ≠ 0) (c : Cons r) (f : Fix D r) (ht : ∀ e ∈ D, ∀ x ∈ e, x ∈ r ∨ -x ∈ r) :
    SatBy (fun v => r.contains (v : Int)) D ∧ ∀ x ∈ r, x ≠ 0 → Holds1 (fun v => r.contains (v : Int)) x := by
  have key : ∀ x ∈ r, x ≠ 0 → Holds1 (fun v => r.contains (v : Int)) x := by
    intro x hx hx0
    unfold Holds1
    by_cases p : 0 < x
    · rw [decide_eq_true p]
      have : ((x.natAbs : Nat) : Int) = x := by omega
      show r.contains ((x.natAbs : Nat) : Int) = true
      rw [this]; simpa using hx
    · rw [decide_eq_false p]
      have : ((x.natAbs : Nat) : Int) = -x := by omega
      show r.contains ((x.natAbs : Nat) : Int) = false
      rw [this]
      cases e : r.contains (-x) with
      | false => rfl
      | true => exact absurd (by simpa using e) (c x hx)
  refine ⟨fun e he => ?_, key⟩
  rcases f e he with ⟨x, hx, hm⟩ | ⟨x, hx, y, hy, _, h1, _⟩
  · exact ⟨x, hx, h0 e he x hx, key x hm (h0 e he x hx)⟩
  · rcases ht e he x hx with z | z
    · exact ⟨x, hx, h0 e he x hx, key x z (h0 e he x hx)⟩
    · exact absurd z h1
end Go.Proofs.Ytdllaphnkbnpoaa
