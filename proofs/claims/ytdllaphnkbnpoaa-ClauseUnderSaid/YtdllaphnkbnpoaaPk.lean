/- The reference's propagation, in plain words: its fixed point is closed, and nothing that holds is lost. The reference's propagation comes to an end; what its answers mean; what satisfies. -/
import Derived.Test.YtdllaphnkbnpoaaPg
namespace Go.Proofs.Ytdllaphnkbnpoaa

/-- The literals that are assumed. -/
def assumeM : List Int → List Int → Option (List Int)
  | [], now => some now
  | a :: as, now => if now.contains (-a) = true then none else assumeM as (if now.contains a = true then now else now ++ [a])

/-- A clause is looked at. -/
def scanM (now : List Int) : List Int → Int → Nat → Bool → Int × Nat × Bool
  | [], o, n, h => (o, n, h)
  | x :: xs, o, n, h => if now.contains (-x) = false ∧ x ≠ o then scanM now xs x (n + 1) (h || now.contains x) else scanM now xs o n (h || now.contains x)

/-- One pass over the clauses. -/
def passM : List (List Int) → List Int → Bool → Option (List Int × Bool)
  | [], now, ag => some (now, ag)
  | c :: cs, now, ag =>
    if (scanM now c 0 0 false).2.2 = true ∨ 1 < (scanM now c 0 0 false).2.1 then passM cs now ag
    else if (scanM now c 0 0 false).2.1 = 0 then none
    else passM cs (now ++ [(scanM now c 0 0 false).1]) true

/-- So many passes at most; inside, 'none': a conflict. -/
def propM (D : List (List Int)) : Nat → List Int → Option (Option (List Int))
  | 0, _ => none
  | k + 1, now => match passM D now false with
    | none => some none
    | some (now', true) => propM D k now'
    | some (now', false) => some (some now')

structure ScanI (now pre : List Int) (o : Int) (n : Nat) (h : Bool) : Prop where
  held : h = true ↔ ∃ x ∈ pre, x ∈ now
  zero : n = 0 → o = 0 ∧ ∀ x ∈ pre, -x ∈ now
  open_ : 1 ≤ n → o ∈ pre ∧ -o ∉ now
  one : n = 1 → ∀ x ∈ pre, -x ∈ now ∨ x = o
  two : 2 ≤ n → ∃ x ∈ pre, ∃ y ∈ pre, x ≠ y ∧ -x ∉ now ∧ -y ∉ now

theorem scan_ok' {now : List Int} : ∀ (xs pre : List Int) (o : Int) (n : Nat) (h : Bool), (∀ x ∈ xs, x ≠ 0) → ScanI now pre o n h →
    ScanI now (pre ++ xs) (scanM now xs o n h).1 (scanM now xs o n h).2.1 (scanM now xs o n h).2.2
  | [], pre, o, n, h, _, I => by rw [List.append_nil]; exact I
  | x :: xs, pre, o, n, h, h0, I => by
    have hx0 := h0 x (by simp)
    have hs : ∀ y ∈ xs, y ≠ 0 := fun y hy => h0 y (by simp [hy])
    have e : pre ++ x :: xs = (pre ++ [x]) ++ xs := by simp
    rw [e]
    have hheld : (h || now.contains x) = true ↔ ∃ y ∈ pre ++ [x], y ∈ now := by
      rw [Bool.or_eq_true, I.held]
      constructor
      · rintro (⟨y, a, b⟩ | q)
        · exact ⟨y, by simp [a], b⟩
        · exact ⟨x, by simp, by simpa using q⟩
      · rintro ⟨y, a, b⟩
        rcases List.mem_append.1 a with a | a
        · exact .inl ⟨y, a, b⟩
        · rw [List.mem_singleton] at a; subst a; exact .inr (by simpa using b)
    unfold scanM
    by_cases c : now.contains (-x) = false ∧ x ≠ o
    · rw [if_pos c]
      have hnx : -x ∉ now := by simpa using c.1
      refine scan_ok' xs (pre ++ [x]) x (n + 1) _ hs ⟨hheld, by omega, fun _ => ⟨by simp, hnx⟩, fun h1 => ?_, fun h2 => ?_⟩
      · have hn : n = 0 := by omega
        intro y hy
        rcases List.mem_append.1 hy with hy | hy
        · exact .inl ((I.zero hn).2 y hy)
        · rw [List.mem_singleton] at hy; exact .inr hy
      · have hn : 1 ≤ n := by omega
        obtain ⟨a, b⟩ := I.open_ hn
        exact ⟨o, by simp [a], x, by simp, fun q => c.2 q.symm, b, hnx⟩
    · rw [if_neg c]
      have hc : -x ∈ now ∨ x = o := by
        by_cases q : now.contains (-x) = false
        · by_cases p : x = o
          · exact .inr p
          · exact absurd ⟨q, p⟩ c
        · left; simpa using q
      refine scan_ok' xs (pre ++ [x]) o n _ hs ⟨hheld, fun hn => ⟨(I.zero hn).1, fun y hy => ?_⟩, fun hn => ⟨by simp [(I.open_ hn).1], (I.open_ hn).2⟩, fun hn y hy => ?_, fun hn => ?_⟩
      · rcases List.mem_append.1 hy with hy | hy
        · exact (I.zero hn).2 y hy
        · rw [List.mem_singleton] at hy; subst hy
          rcases hc with q | q
          · exact q
          · rw [(I.zero hn).1] at q; exact absurd q hx0
      · rcases List.mem_append.1 hy with hy | hy
        · exact I.one hn y hy
        · rw [List.mem_singleton] at hy; subst hy; exact hc
      · obtain ⟨a, ha, b, hb, r⟩ := I.two hn
        exact ⟨a, by simp [ha], b, by simp [hb], r⟩

theorem scan_start (now : List Int) : ScanI now [] 0 0 false := ⟨by simp, fun _ => ⟨rfl, by simp⟩, by omega, by omega, by omega⟩

theorem scan_all {now c : List Int} (h0 : ∀ x ∈ c, x ≠ 0) : ScanI now c (scanM now c 0 0 false).1 (scanM now c 0 0 false).2.1 (scanM now c 0 0 false).2.2 := by
  have := scan_ok' c [] 0 0 false h0 (scan_start now)
  rwa [List.nil_append] at this

/-- What is made true stays consistent, and holds wherever clauses and what was there hold. -/
def Cons (now : List Int) : Prop := ∀ x ∈ now, -x ∉ now

theorem pass_ok {A : Nat → Bool} : ∀ (cs : List (List Int)) (now : List Int) (ag : Bool), (∀ e ∈ cs, ∀ x ∈ e, x ≠ 0) → Cons now → (∀ x ∈ now, x ≠ 0) →
    (∀ r, passM cs now ag = some r → Cons r.1 ∧ (∀ x ∈ r.1, x ≠ 0) ∧ (∀ x ∈ now, x ∈ r.1) ∧ now.length ≤ r.1.length ∧ (ag = true → r.2 = true) ∧ (r.2 = true → ag = true ∨ now.length < r.1.length) ∧
      (∀ x ∈ r.1, x ∈ now ∨ ∃ e ∈ cs, x ∈ e) ∧
      (r.2 = false → r.1 = now ∧ ∀ e ∈ cs, (∃ x ∈ e, x ∈ now) ∨ ∃ x ∈ e, ∃ y ∈ e, x ≠ y ∧ -x ∉ now ∧ -y ∉ now)) ∧
    (SatBy A cs → (∀ x ∈ now, Holds1 A x) → ∃ r, passM cs now ag = some r ∧ ∀ x ∈ r.1, Holds1 A x)
  | [], now, ag, _, hc, hz => ⟨fun r h => by
      injection h with h; subst h
      exact ⟨hc, hz, fun _ h => h, Nat.le_refl _, fun h => h, fun h => .inl h, fun x h => .inl h, fun _ => ⟨rfl, by simp⟩⟩, fun _ hA => ⟨_, rfl, hA⟩⟩
  | c :: cs, now, ag, h0, hc, hz => by
    have I := scan_all (now := now) (h0 c (by simp))
    have hcs : ∀ e ∈ cs, ∀ x ∈ e, x ≠ 0 := fun e he => h0 e (by simp [he])
    unfold passM
    generalize scanM now c 0 0 false = t at *
    by_cases q : t.2.2 = true ∨ 1 < t.2.1
    · rw [if_pos q]
      obtain ⟨p1, p2⟩ := pass_ok (A := A) cs now ag hcs hc hz
      refine ⟨fun r hr => ?_, fun hs => p2 (fun e he => hs e (by simp [he]))⟩
      obtain ⟨a1, a2, a3, a4, a5, a6, a7, a8⟩ := p1 r hr
      refine ⟨a1, a2, a3, a4, a5, a6, fun x hx => ?_, fun h => ⟨(a8 h).1, fun e he => ?_⟩⟩
      · rcases a7 x hx with z | ⟨e, he, z⟩
        · exact .inl z
        · exact .inr ⟨e, by simp [he], z⟩
      · rcases List.mem_cons.1 he with rfl | he
        · rcases q with q | q
          · exact .inl (I.held.1 q)
          · exact .inr (I.two q)
        · exact (a8 h).2 e he
    · rw [if_neg q]
      have q1 : t.2.2 = false := by cases h : t.2.2 with
        | false => rfl
        | true => exact absurd (.inl h) q
      have q2 : ¬ 1 < t.2.1 := fun h => q (.inr h)
      have nheld : ¬ ∃ x ∈ c, x ∈ now := fun h => by have := I.held.2 h; rw [q1] at this; cases this
      by_cases n0 : t.2.1 = 0
      · rw [if_pos n0]
        refine ⟨fun r hr => (by cases hr), fun hs hA => ?_⟩
        exfalso
        obtain ⟨x, hx, hx0, h1⟩ := hs c (by simp)
        have h2 := hA _ ((I.zero n0).2 x hx)
        unfold Holds1 at h1 h2
        rw [Int.natAbs_neg, h1] at h2
        have := decide_eq_decide.1 h2
        omega
      · rw [if_neg n0]
        have n1 : t.2.1 = 1 := by omega
        obtain ⟨o1, o2⟩ := I.open_ (by omega)
        have o0 := h0 c (by simp) _ o1
        have onew : t.1 ∉ now := fun h => nheld ⟨_, o1, h⟩
        have hc' : Cons (now ++ [t.1]) := by
          intro x hx hn
          rcases List.mem_append.1 hx with hx | hx <;> rcases List.mem_append.1 hn with hn | hn
          · exact hc x hx hn
          · rw [List.mem_singleton] at hn; apply o2; rw [← hn, Int.neg_neg]; exact hx
          · rw [List.mem_singleton] at hx; rw [hx] at hn; exact o2 hn
          · rw [List.mem_singleton] at hx hn; omega
        have hz' : ∀ x ∈ now ++ [t.1], x ≠ 0 := by
          intro x hx
          rcases List.mem_append.1 hx with hx | hx
          · exact hz x hx
          · rw [List.mem_singleton] at hx; rw [hx]; exact o0
        obtain ⟨p1, p2⟩ := pass_ok (A := A) cs (now ++ [t.1]) true hcs hc' hz'
        refine ⟨fun r hr => ?_, fun hs hA => p2 (fun e he => hs e (by simp [he])) ?_⟩
        · obtain ⟨a1, a2, a3, a4, a5, a6, a7, a8⟩ := p1 r hr
          have hag := a5 rfl
          simp only [List.length_append, List.length_singleton] at a4
          refine ⟨a1, a2, fun x hx => a3 x (by simp [hx]), by omega, fun _ => hag, fun _ => .inr (by omega), fun x hx => ?_, fun h => by rw [hag] at h; cases h⟩
          rcases a7 x hx with z | ⟨e, he, z⟩
          · rcases List.mem_append.1 z with z | z
            · exact .inl z
            · rw [List.mem_singleton] at z; rw [z]; exact .inr ⟨c, by simp, o1⟩
          · exact .inr ⟨e, by simp [he], z⟩
        · intro x hx
          rcases List.mem_append.1 hx with hx | hx
          · exact hA x hx
          · rw [List.mem_singleton] at hx
            rw [hx]
            obtain ⟨y, hy, hy0, h1⟩ := hs c (by simp)
            rcases I.one n1 y hy with z | z
            · exfalso
              have h2 := hA _ z
              unfold Holds1 at h1 h2
              rw [Int.natAbs_neg, h1] at h2
              have := decide_eq_decide.1 h2
              omega
            · rw [← z]; exact h1

theorem assume_ok {A : Nat → Bool} : ∀ (as now : List Int), Cons now → (∀ x ∈ as, x ≠ 0) → (∀ x ∈ now, x ≠ 0) →
    (∀ r, assumeM as now = some r → Cons r ∧ (∀ x ∈ r, x ≠ 0) ∧ (∀ x, x ∈ r ↔ x ∈ now ∨ x ∈ as)) ∧
    ((∀ x ∈ as, Holds1 A x) → (∀ x ∈ now, Holds1 A x) → ∃ r, assumeM as now = some r)
  | [], now, hc, _, hz => ⟨fun r h => by injection h with h; subst h; exact ⟨hc, hz, by simp⟩, fun _ _ => ⟨_, rfl⟩⟩
  | a :: as, now, hc, h0, hz => by
    have ha0 := h0 a (by simp)
    unfold assumeM
    by_cases q : now.contains (-a) = true
    · rw [if_pos q]
      refine ⟨fun r h => (by cases h), fun h1 h2 => ?_⟩
      exfalso
      have x1 := h1 a (by simp)
      have x2 := h2 (-a) (by simpa using q)
      unfold Holds1 at x1 x2
      rw [Int.natAbs_neg, x1] at x2
      have := decide_eq_decide.1 x2
      omega
    · rw [if_neg q]
      have q' : -a ∉ now := by simpa using q
      have key : ∀ nw, nw = (if now.contains a = true then now else now ++ [a]) → Cons nw ∧ (∀ x ∈ nw, x ≠ 0) ∧ ∀ x, x ∈ nw ↔ x ∈ now ∨ x = a := by
        intro nw e
        by_cases p : now.contains a = true
        · rw [if_pos p] at e; subst e
          have pm : a ∈ nw := by simpa using p
          exact ⟨hc, hz, fun x => ⟨.inl, fun h => h.elim id (fun h => h ▸ pm)⟩⟩
        · rw [if_neg p] at e; subst e
          refine ⟨?_, ?_, fun x => by simp⟩
          · intro x hx hn
            rcases List.mem_append.1 hx with hx | hx <;> rcases List.mem_append.1 hn with hn | hn
            · exact hc x hx hn
            · rw [List.mem_singleton] at hn; apply q'; rw [← hn, Int.neg_neg]; exact hx
            · rw [List.mem_singleton] at hx; rw [hx] at hn; exact q' hn
            · rw [List.mem_singleton] at hx hn; omega
          · intro x hx
            rcases List.mem_append.1 hx with hx | hx
            · exact hz x hx
            · rw [List.mem_singleton] at hx; rw [hx]; exact ha0
      obtain ⟨k1, k2, k3⟩ := key _ rfl
      obtain ⟨p1, p2⟩ := assume_ok (A := A) as _ k1 (fun x hx => h0 x (by simp [hx])) k2
      refine ⟨fun r hr => ?_, fun h1 h2 => p2 (fun x hx => h1 x (by simp [hx])) (fun x hx => ?_)⟩
      · obtain ⟨a1, a2, a3⟩ := p1 r hr
        refine ⟨a1, a2, fun x => ?_⟩
        rw [a3, k3, List.mem_cons, or_assoc]
      · rcases (k3 x).1 hx with z | z
        · exact h2 x z
        · rw [z]; exact h1 a (by simp)
end Go.Proofs.Ytdllaphnkbnpoaa
namespace Go.Proofs.Ytdllaphnkbnpoaa

/-- Each variable once, none beyond 200. -/
def Once (now : List Int) : Prop := (now.map Int.natAbs).Nodup ∧ ∀ x ∈ now, x.natAbs ≤ 200

theorem once_len {now : List Int} (h : Once now) : now.length ≤ 201 := by
  have := nodup_sub (now.map Int.natAbs) (List.range 201) h.1 (fun x hx => by
    obtain ⟨y, hy, rfl⟩ := List.mem_map.1 hx
    have := h.2 y hy
    simp; omega)
  simpa using this

theorem once_snoc {now : List Int} {x : Int} (h : Once now) (h1 : x ∉ now) (h2 : -x ∉ now) (h3 : x.natAbs ≤ 200) : Once (now ++ [x]) := by
  refine ⟨?_, fun y hy => ?_⟩
  · rw [List.map_append, List.nodup_append]
    refine ⟨h.1, by simp, ?_⟩
    intro a ha b hb e
    obtain ⟨y, hy, rfl⟩ := List.mem_map.1 ha
    simp at hb
    rw [hb] at e
    rcases Int.natAbs_eq_natAbs_iff.1 e with q | q
    · exact h1 (q ▸ hy)
    · exact h2 (q ▸ hy)
  · rcases List.mem_append.1 hy with z | z
    · exact h.2 y z
    · rw [List.mem_singleton] at z; rw [z]; exact h3

theorem pass_once : ∀ (cs : List (List Int)) (now : List Int) (ag : Bool), (∀ e ∈ cs, ∀ x ∈ e, x ≠ 0 ∧ x.natAbs ≤ 200) → Once now →
    ∀ r, passM cs now ag = some r → Once r.1
  | [], now, ag, _, h, r, hr => by injection hr with hr; subst hr; exact h
  | c :: cs, now, ag, h0, h, r, hr => by
    have I := scan_all (now := now) (fun x hx => (h0 c (by simp) x hx).1)
    have hcs : ∀ e ∈ cs, ∀ x ∈ e, x ≠ 0 ∧ x.natAbs ≤ 200 := fun e he => h0 e (by simp [he])
    unfold passM at hr
    generalize scanM now c 0 0 false = t at *
    by_cases q : t.2.2 = true ∨ 1 < t.2.1
    · rw [if_pos q] at hr
      exact pass_once cs now ag hcs h r hr
    · rw [if_neg q] at hr
      by_cases n0 : t.2.1 = 0
      · rw [if_pos n0] at hr; cases hr
      · rw [if_neg n0] at hr
        obtain ⟨o1, o2⟩ := I.open_ (by omega)
        have onew : t.1 ∉ now := fun z => q (.inl (I.held.2 ⟨_, o1, z⟩))
        exact pass_once cs (now ++ [t.1]) true hcs (once_snoc h onew o2 (h0 c (by simp) _ o1).2) r hr

theorem assume_once : ∀ (as now : List Int), (∀ x ∈ as, x.natAbs ≤ 200) → Once now → ∀ r, assumeM as now = some r → Once r
  | [], now, _, h, r, hr => by injection hr with hr; subst hr; exact h
  | a :: as, now, h0, h, r, hr => by
    unfold assumeM at hr
    by_cases q : now.contains (-a) = true
    · rw [if_pos q] at hr; cases hr
    · rw [if_neg q] at hr
      have hs : ∀ x ∈ as, x.natAbs ≤ 200 := fun x hx => h0 x (by simp [hx])
      by_cases p : now.contains a = true
      · rw [if_pos p] at hr; exact assume_once as now hs h r hr
      · rw [if_neg p] at hr
        exact assume_once as _ hs (once_snoc h (by simpa using p) (by simpa using q) (h0 a (by simp))) r hr

/-- A fixed point: each clause holds or has two open literals. -/
def Fix (D : List (List Int)) (now : List Int) : Prop :=
  ∀ e ∈ D, (∃ x ∈ e, x ∈ now) ∨ ∃ x ∈ e, ∃ y ∈ e, x ≠ y ∧ -x ∉ now ∧ -y ∉ now

theorem prop_end {A : Nat → Bool} {D : List (List Int)} (h0 : ∀ e ∈ D, ∀ x ∈ e, x ≠ 0 ∧ x.natAbs ≤ 200) : ∀ (k : Nat) (now : List Int), Cons now → (∀ x ∈ now, x ≠ 0) → Once now → 202 ≤ now.length + k →
    ∃ R, propM D k now = some R ∧
      (∀ r, R = some r → Cons r ∧ (∀ x ∈ r, x ≠ 0) ∧ Once r ∧ (∀ x ∈ now, x ∈ r) ∧ (∀ x ∈ r, x ∈ now ∨ ∃ e ∈ D, x ∈ e) ∧ Fix D r) ∧
      (SatBy A D → (∀ x ∈ now, Holds1 A x) → ∃ r, R = some r ∧ ∀ x ∈ r, Holds1 A x)
  | 0, now, _, _, ho, hk => by have := once_len ho; omega
  | k + 1, now, hc, hz, ho, hk => by
    have hd : ∀ e ∈ D, ∀ x ∈ e, x ≠ 0 := fun e he x hx => (h0 e he x hx).1
    obtain ⟨p1, p2⟩ := pass_ok (A := A) D now false hd hc hz
    have po := pass_once D now false h0 ho
    unfold propM
    generalize passM D now false = P at *
    cases P with
    | none =>
      refine ⟨none, rfl, fun r hr => (by cases hr), fun hs hA => ?_⟩
      obtain ⟨r, hr, _⟩ := p2 hs hA
      cases hr
    | some P =>
      obtain ⟨nw, ag⟩ := P
      obtain ⟨a1, a2, a3, a4, a5, a6, a7, a8⟩ := p1 _ rfl
      have ho' := po _ rfl
      cases ag with
      | false =>
        obtain ⟨b1, b2⟩ := a8 rfl
        simp only at b1 ho' a1 a2 a3 a7
        refine ⟨some nw, rfl, fun r hr => ?_, fun hs hA => ?_⟩
        · injection hr with hr; subst hr
          subst b1
          exact ⟨a1, a2, ho', a3, a7, b2⟩
        · obtain ⟨r, hr, hh⟩ := p2 hs hA
          injection hr with hr; subst hr
          exact ⟨nw, rfl, hh⟩
      | true =>
        have hlen : now.length < nw.length := by
          rcases a6 rfl with z | z
          · cases z
          · exact z
        simp only at ho' a1 a2 a3 a7
        obtain ⟨R, r1, r2, r3⟩ := prop_end h0 (A := A) k nw a1 a2 ho' (by omega)
        refine ⟨R, r1, fun r hr => ?_, fun hs hA => ?_⟩
        · obtain ⟨c1, c2, c3, c4, c5, c6⟩ := r2 r hr
          refine ⟨c1, c2, c3, fun x hx => c4 x (a3 x hx), fun x hx => ?_, c6⟩
          rcases c5 x hx with z | z
          · exact a7 x z
          · exact .inr z
        · obtain ⟨r, hr, hh⟩ := p2 hs hA
          injection hr with hr; subst hr
          exact r3 hs hh

/-- The whole of it; inside, 'none': a conflict. -/
def propagateM (D : List (List Int)) (as : List Int) : Option (Option (List Int)) :=
  match assumeM as [] with
  | none => some none
  | some now => propM D 300 now

theorem propagate_end {A : Nat → Bool} {D : List (List Int)} {as : List Int} (h0 : ∀ e ∈ D, ∀ x ∈ e, x ≠ 0 ∧ x.natAbs ≤ 200) (ha : ∀ x ∈ as, x ≠ 0 ∧ x.natAbs ≤ 200) :
    ∃ R, propagateM D as = some R ∧
      (∀ r, R = some r → Cons r ∧ (∀ x ∈ r, x ≠ 0) ∧ Once r ∧ (∀ x ∈ as, x ∈ r) ∧ (∀ x ∈ r, x ∈ as ∨ ∃ e ∈ D, x ∈ e) ∧ Fix D r) ∧
      (SatBy A D → (∀ x ∈ as, Holds1 A x) → ∃ r, R = some r ∧ ∀ x ∈ r, Holds1 A x) := by
  obtain ⟨p1, p2⟩ := assume_ok (A := A) as [] (fun x hx => by cases hx) (fun x hx => (ha x hx).1) (fun x hx => by cases hx)
  have po := assume_once as [] (fun x hx => (ha x hx).2) ⟨by simp, by simp⟩
  unfold propagateM
  generalize assumeM as [] = P at *
  cases P with
  | none =>
    refine ⟨none, rfl, fun r hr => (by cases hr), fun _ hA => ?_⟩
    obtain ⟨r, hr⟩ := p2 hA (fun x hx => by cases hx)
    cases hr
  | some now =>
    obtain ⟨a1, a2, a3⟩ := p1 _ rfl
    obtain ⟨R, r1, r2, r3⟩ := prop_end (A := A) h0 300 now a1 a2 (po _ rfl) (by omega)
    refine ⟨R, r1, fun r hr => ?_, fun hs hA => r3 hs (fun x hx => ?_)⟩
    · obtain ⟨c1, c2, c3, c4, c5, c6⟩ := r2 r hr
      refine ⟨c1, c2, c3, fun x hx => c4 x ((a3 x).2 (.inr hx)), fun x hx => ?_, c6⟩
      rcases c5 x hx with z | z
      · rcases (a3 x).1 z with z | z
        · cases z
        · exact .inl z
      · exact .inr z
    · rcases (a3 x).1 hx with z | z
      · cases z
      · exact hA x z

/-- A clause that comes by propagation: its opposites bring a conflict. -/
theorem rup_conflict {D : List (List Int)} {e : List Int} (h0 : ∀ e ∈ D, ∀ x ∈ e, x ≠ 0 ∧ x.natAbs ≤ 200) (he : ∀ x ∈ e, x ≠ 0 ∧ x.natAbs ≤ 200) (hr : Rup D e) :
    propagateM D (e.map fun x => -x) = some none := by
  obtain ⟨R, r1, r2, _⟩ := propagate_end (A := fun _ => true) (D := D) (as := e.map fun x => -x) h0 (fun x hx => by
    obtain ⟨y, hy, rfl⟩ := List.mem_map.1 hx
    have := he y hy
    omega)
  rw [r1]
  cases R with
  | none => rfl
  | some r =>
    exfalso
    obtain ⟨c1, c2, c3, c4, c5, c6⟩ := r2 r rfl
    refine hr (fun x => x ∈ r) ⟨fun x h1 h2 => c1 x h1 h2, fun d hd => ?_⟩ (fun x hx => c4 _ (List.mem_map.2 ⟨x, hx, rfl⟩))
    rcases c6 d hd with z | ⟨x, hx, y, hy, z⟩
    · exact .inl z
    · exact .inr ⟨x, hx, y, hy, z⟩

/-- Where all variables are told, what is told satisfies. -/
theorem all_told {D : List (List Int)} {r : List Int} (h0 : ∀ e ∈ D, ∀ x ∈ e, x ≠ 0) (c : Cons r) (f : Fix D r) (ht : ∀ e ∈ D, ∀ x ∈ e, x ∈ r ∨ -x ∈ r) :
    SatBy (fun v => r.contains (v : Int)) D ∧ ∀ x ∈ r, x ≠ 0 → Holds1 (fun v => r.contains (v : Int)) x := by
  have key : ∀ x ∈ r, x ≠ 0 → Holds1 (fun v => r.contains (v : Int)) x := by
    intro x hx hx0
    unfold Holds1
    by_cases p : 0 < x
    · rw [decide_eq_true p]
      have : ((x.natAbs : Nat) : Int) = x := by omega
      show r.contains ((x.natAbs : Nat) : Int) = true
      rw [this]; simpa using hx
    · rw [decide_eq_false p]
      have : ((x.natAbs : Nat) : Int) = -x := by omega
      show r.contains ((x.natAbs : Nat) : Int) = false
      rw [this]
      cases e : r.contains (-x) with
      | false => rfl
      | true => exact absurd (by simpa using e) (c x hx)
  refine ⟨fun e he => ?_, key⟩
  rcases f e he with ⟨x, hx, hm⟩ | ⟨x, hx, y, hy, _, h1, _⟩
  · exact ⟨x, hx, h0 e he x hx, key x hm (h0 e he x hx)⟩
  · rcases ht e he x hx with z | z
    · exact ⟨x, hx, h0 e he x hx, key x z (h0 e he x hx)⟩
    · exact absurd z h1
end Go.Proofs.Ytdllaphnkbnpoaa
