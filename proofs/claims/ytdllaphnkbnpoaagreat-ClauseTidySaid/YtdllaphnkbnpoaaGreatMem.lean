/- What a call owns in memory, told by keys: each key holds a block of cells, an owned slice or a map, no two keys the same block; how a store, an append, a new block change it. Plain facts on worlds, no program in sight. -/
import Derived.WalkKit
import Derived.Maps.AppendAt
import Derived.Maps.Range
import Derived.Deep.Draws
namespace Go.Proofs.YtdllaphnkbnpoaaGreat
open Go.RowKit

/-- A thing that is owned: nothing, a block of cells, a slice of one-cell elements, a map. -/
inductive Res where
  | non
  | cells (b : Nat) (cs : List Value) (t : TypeId)
  | row (v : Value) (t : TypeId) (xs : List Value)
  | mapB (b : Nat) (kvs : List (Value × Value))

def Res.blk : Res → Option Nat
  | .non => none
  | .cells b _ _ => some b
  | .row v _ _ => v.ownBlock
  | .mapB b _ => some b

def MapAt (w : World) (b : Nat) (kvs : List (Value × Value)) : Prop :=
  ∃ es c, w.heap[b]? = some (.map es c) ∧ es.toList.map (fun e => (e.key, e.val)) = kvs

def Res.holds (w : World) : Res → Prop
  | .non => True
  | .cells b cs t => w.heap[b]? = some (.cells cs.toArray t (0, 0))
  | .row v t xs => w.ownsRow 0 t 1 v xs.length xs
  | .mapB b kvs => MapAt w b kvs

/-- The names under which things are owned. -/
inductive Key where
  | st
  | fld (i : Nat)
  | cls (i : Nat)
  | log (i : Nat)
  | mp
  | wt (l : Int)
  | loc (i : Nat)
  deriving DecidableEq

structure Holds (base : Nat) (w : World) (L : Key → Res) : Prop where
  holds : ∀ k, (L k).holds w
  disj : ∀ k k' b, (L k).blk = some b → (L k').blk = some b → k = k'
  base : ∀ k b, (L k).blk = some b → base ≤ b

def upd (L : Key → Res) (k : Key) (r : Res) : Key → Res := fun k' => if k' = k then r else L k'

theorem upd_same (L : Key → Res) (k : Key) (r : Res) : upd L k r k = r := by simp [upd]
theorem upd_other (L : Key → Res) {k k' : Key} (r : Res) (h : k' ≠ k) : upd L k r k' = L k' := by simp [upd, h]
theorem upd_id (L : Key → Res) (k : Key) : upd L k (L k) = L := by funext k'; unfold upd; split <;> simp_all

theorem Res.lt {w : World} {r : Res} (h : r.holds w) {b : Nat} (hb : r.blk = some b) : b < w.heap.size := by
  cases r with
  | non => cases hb
  | cells c cs t => cases hb; exact lt_of_block h
  | row v t xs => exact (World.ownsRow.lt h b hb).2
  | mapB c kvs => cases hb; obtain ⟨es, c, h, _⟩ := h; exact lt_of_block h

theorem Res.kept {w w' : World} {r : Res} (h : r.holds w) (hb : ∀ b, r.blk = some b → w'.heap[b]? = w.heap[b]?) : r.holds w' := by
  cases r with
  | non => trivial
  | cells c cs t => exact (hb c rfl).trans h
  | row v t xs =>
    refine ⟨h.1, ?_⟩
    rcases h.2 with hn | ⟨g, cap, cur, rfl, hb0, hgg, rest⟩
    · exact .inl hn
    · exact .inr ⟨g, cap, cur, rfl, hb0, (hb g rfl).trans hgg, rest⟩
  | mapB c kvs => obtain ⟨es, c', h, h'⟩ := h; exact ⟨es, c', (hb c rfl).trans h, h'⟩

section
variable {base : Nat} {w w' : World} {L : Key → Res}

theorem Holds.lt (h : Holds base w L) (k : Key) {b : Nat} (hb : (L k).blk = some b) : base ≤ b ∧ b < w.heap.size := ⟨h.base k b hb, Res.lt (h.holds k) hb⟩

/-- One thing is written, or made anew: what else is owned stays. -/
theorem Holds.put (h : Holds base w L) (k : Key) (r : Res) {row : Option Nat} (hg : w.grownBy w' row) (hrow : ∀ b, row = some b → (L k).blk = some b ∨ w.heap.size ≤ b) (hr : r.holds w')
    (hb : ∀ b, r.blk = some b → (L k).blk = some b ∨ w.heap.size ≤ b) (hbase : base ≤ w.heap.size) : Holds base w' (upd L k r) := by
  have key : ∀ k', k' ≠ k → ∀ b, (L k').blk = some b → w'.heap[b]? = w.heap[b]? := by
    intro k' hk b hb'
    have hlt := (h.lt k' hb').2
    refine hg.block b hlt (fun e => ?_)
    rcases hrow b e.symm with hc | hc
    · exact hk (h.disj _ _ _ hb' hc)
    · omega
  refine ⟨fun k' => ?_, fun k1 k2 b h1 h2 => ?_, fun k' b hb' => ?_⟩
  · by_cases e : k' = k
    · subst e; rw [upd_same]; exact hr
    · rw [upd_other _ _ e]; exact Res.kept (h.holds k') (key k' e)
  · by_cases e1 : k1 = k <;> by_cases e2 : k2 = k
    · rw [e1, e2]
    · subst e1
      rw [upd_same] at h1; rw [upd_other _ _ e2] at h2
      rcases hb b h1 with hc | hc
      · exact (h.disj _ _ _ h2 hc).symm
      · have := (h.lt k2 h2).2; omega
    · subst e2
      rw [upd_same] at h2; rw [upd_other _ _ e1] at h1
      rcases hb b h2 with hc | hc
      · exact h.disj _ _ _ h1 hc
      · have := (h.lt k1 h1).2; omega
    · rw [upd_other _ _ e1] at h1; rw [upd_other _ _ e2] at h2
      exact h.disj _ _ _ h1 h2
  · by_cases e : k' = k
    · subst e
      rw [upd_same] at hb'
      rcases hb b hb' with hc | hc
      · exact h.base _ _ hc
      · omega
    · rw [upd_other _ _ e] at hb'; exact h.base _ _ hb'

theorem below_drewN {B : Nat} {a b : World} (h : Below B a b) (n : Nat) : Below B a (b.drewN n) := ⟨h.os, h.tape, h.output, h.size, h.block⟩

/-- New blocks alone. -/
theorem Holds.grow (h : Holds base w L) (hg : w.grownBy w' none) : Holds base w' L :=
  ⟨fun k => Res.kept (h.holds k) fun b hb => hg.block b (h.lt k hb).2 (by simp), h.disj, h.base⟩
theorem Holds.drew (h : Holds base w L) : Holds base w.drew L := h.grow ⟨rfl, rfl, rfl, Nat.le_refl _, fun _ _ _ => rfl⟩
theorem Holds.drewN (h : Holds base w L) (n : Nat) : Holds base (w.drewN n) L := h.grow ⟨rfl, rfl, rfl, Nat.le_refl _, fun _ _ _ => rfl⟩
theorem Holds.alloc (h : Holds base w L) (o : Obj) : Holds base (w.alloc o) L := h.grow (World.grownBy_alloc _ _ _)

/-- What is owned under one name goes under another one. -/
theorem Holds.move (h : Holds base w L) (k k' : Key) : Holds base w (upd (upd L k' (L k)) k .non) := by
  have hL : ∀ q, upd (upd L k' (L k)) k .non q = if q = k then .non else if q = k' then L k else L q := by
    intro q; simp only [upd]
  refine ⟨fun q => ?_, fun q1 q2 b h1 h2 => ?_, fun q b hq => ?_⟩
  · rw [hL]; split
    · trivial
    · split
      · exact h.holds k
      · exact h.holds q
  · rw [hL] at h1 h2
    by_cases a1 : q1 = k
    · rw [if_pos a1] at h1; cases h1
    · by_cases a2 : q2 = k
      · rw [if_pos a2] at h2; cases h2
      · rw [if_neg a1] at h1; rw [if_neg a2] at h2
        by_cases b1 : q1 = k' <;> by_cases b2 : q2 = k'
        · rw [b1, b2]
        · rw [if_pos b1] at h1; rw [if_neg b2] at h2
          exact absurd (h.disj _ _ _ h2 h1) a2
        · rw [if_neg b1] at h1; rw [if_pos b2] at h2
          exact absurd (h.disj _ _ _ h1 h2) a1
        · rw [if_neg b1] at h1; rw [if_neg b2] at h2
          exact h.disj _ _ _ h1 h2
  · rw [hL] at hq
    split at hq
    · cases hq
    · split at hq
      · exact h.base _ _ hq
      · exact h.base _ _ hq
/-- What is owned may be let go. -/
theorem Holds.drop (h : Holds base w L) (k : Key) : Holds base w (upd L k .non) := by
  have hL : ∀ q b, (upd L k .non q).blk = some b → (L q).blk = some b := by
    intro q b hq
    by_cases e : q = k
    · subst e; rw [upd_same] at hq; cases hq
    · rwa [upd_other _ _ e] at hq
  refine ⟨fun q => ?_, fun q1 q2 b h1 h2 => h.disj _ _ _ (hL _ _ h1) (hL _ _ h2), fun q b hq => h.base _ _ (hL _ _ hq)⟩
  by_cases e : q = k
  · subst e; rw [upd_same]; trivial
  · rw [upd_other _ _ e]; exact h.holds q

theorem Holds.nothing (base : Nat) (w : World) : Holds base w (fun _ => .non) := ⟨fun _ => trivial, (by intro _ _ _ h; cases h), (by intro _ _ h; cases h)⟩

/-- Two names, two blocks. -/
theorem Holds.ne (h : Holds base w L) {k k' : Key} (hk : k ≠ k') {b b' : Nat} (hb : (L k).blk = some b) (hb' : (L k').blk = some b') : b ≠ b' :=
  fun e => hk (h.disj _ _ _ hb (e ▸ hb'))

/-! A block of cells. -/
theorem Holds.cell (h : Holds base w L) {k : Key} {b : Nat} {cs : List Value} {t : TypeId} (hk : L k = .cells b cs t) (i : Nat) {v : Value} (hv : cs[i]? = some v) : w.cell? ⟨b, i, none⟩ = some v := by
  have := h.holds k; rw [hk] at this
  have h' : w.heap[b]? = some (.cells cs.toArray t (0, 0)) := this
  simp [World.cell?, h', hv]
theorem Holds.cellFree (h : Holds base w L) {k : Key} {b : Nat} {cs : List Value} {t : TypeId} (hk : L k = .cells b cs t) (i : Nat) : w.frozen? ⟨b, i, none⟩ = false := by
  have := h.holds k; rw [hk] at this
  have h' : w.heap[b]? = some (.cells cs.toArray t (0, 0)) := this
  simp [World.frozen?, h']
theorem grownBy_setCell (w : World) (a : Addr) (u : Value) : w.grownBy (w.setCell a u) (some a.block) :=
  ⟨rfl, rfl, rfl, by simp, fun k _ hk => Below.heap_setCell w a u k (fun e => hk (by rw [e]))⟩
theorem Holds.setCell (h : Holds base w L) {k : Key} {b : Nat} {cs : List Value} {t : TypeId} (hk : L k = .cells b cs t) (i : Nat) (u : Value) (hbase : base ≤ w.heap.size) : Holds base (w.setCell ⟨b, i, none⟩ u) (upd L k (.cells b (cs.set i u) t)) := by
  refine h.put k _ (grownBy_setCell w _ u) (fun c hc => .inl ?_) ?_ (fun c hc => .inl ?_) hbase
  · rw [hk]; exact hc
  · have := h.holds k; rw [hk] at this
    have h' : w.heap[b]? = some (.cells cs.toArray t (0, 0)) := this
    show (w.setCell ⟨b, i, none⟩ u).heap[b]? = _
    simp [World.setCell, Array.getElem?_modify, h']
  · rw [hk]; exact hc

/-! A slice of one-cell elements. -/
theorem Holds.slice (h : Holds base w L) {k : Key} {v : Value} {t : TypeId} {xs : List Value} (hk : L k = .row v t xs) : ∃ A c, v = .slice A xs.length c := by
  have := h.holds k; rw [hk] at this
  rcases (show w.ownsRow 0 t 1 v xs.length xs from this).2 with ⟨rfl, h0⟩ | ⟨g, cap, cur, rfl, _⟩
  · exact ⟨_, 0, by rw [h0]⟩
  · exact ⟨_, cap, rfl⟩
theorem Holds.form (h : Holds base w L) {k : Key} {v : Value} {t : TypeId} {xs : List Value} (hk : L k = .row v t xs) (hp : 0 < xs.length) :
    ∃ g cap, v = .slice (some ⟨g, 0, none⟩) xs.length cap ∧ xs.length ≤ cap ∧ cap ≤ maxLen ∧ (L k).blk = some g ∧
      (∀ i u, xs[i]? = some u → w.cell? ⟨g, i, none⟩ = some u) ∧ ∀ i, w.frozen? ⟨g, i, none⟩ = false := by
  have := h.holds k; rw [hk] at this
  have hr : w.ownsRow 0 t 1 v xs.length xs := this
  rcases hr.2 with ⟨rfl, h0⟩ | ⟨g, cap, cur, rfl, _, hh, h1, h2, _⟩
  · omega
  · refine ⟨g, cap, rfl, h1, h2, by rw [hk]; rfl, fun i u hu => ?_, fun i => hr.frozenAt i⟩
    have hi := (List.getElem?_eq_some_iff.1 hu).1
    rw [hr.cellAt i (by omega)]; exact hu
theorem Holds.stored (h : Holds base w L) {k : Key} {g n cap : Nat} {t : TypeId} {xs : List Value} (hk : L k = .row (.slice (some ⟨g, 0, none⟩) n cap) t xs) (hn : n = xs.length) (i : Nat) (u : Value) (hbase : base ≤ w.heap.size) :
    Holds base (w.setCell ⟨g, i, none⟩ u) (upd L k (.row (.slice (some ⟨g, 0, none⟩) n cap) t (xs.set i u))) := by
  have := h.holds k; rw [hk] at this
  have hr : w.ownsRow 0 t 1 (.slice (some ⟨g, 0, none⟩) n cap) xs.length xs := this
  subst hn
  have hs := hr.stored i u
  refine h.put k _ hs.2 (fun c hc => .inl ?_) ?_ (fun c hc => .inl ?_) hbase
  · rw [hk]; exact hc
  · show World.ownsRow _ _ _ _ _ _ _
    rw [List.length_set]; exact hs.1
  · rw [hk]; exact hc
/-- A slice is cut to its beginning. -/
theorem ownsRow_take {w : World} {b : Nat} {t : TypeId} {g n cap m : Nat} {xs : List Value} (h : w.ownsRow b t 1 (.slice (some ⟨g, 0, none⟩) n cap) n xs) (hm : m ≤ n) : w.ownsRow b t 1 (.slice (some ⟨g, 0, none⟩) m cap) m (xs.take m) := by
  have hl := h.1
  rcases h.2 with ⟨h', _⟩ | ⟨g', cap', cur, he, hb, hh, h1, h2, h3, h4⟩
  · cases h'
  · injection he with he1 he2 he3
    injection he1 with he1
    injection he1 with he1
    subst he1 he3
    refine ⟨by rw [List.length_take]; omega, .inr ⟨g, cap, cur, rfl, hb, hh, by omega, h2, h3, ?_⟩⟩
    rw [← h4, List.take_take, Nat.min_eq_left (by omega), Nat.mul_one]

/-! append(v, x) of one element, v nil or owned under a name. -/
theorem Holds.appended (h : Holds base w L) {k : Key} {v v' : Value} {t : TypeId} {ys : List Value} (hk : (L k).blk = v.ownBlock) {n : Nat} (hown : w'.ownsRow 0 t 1 v' n ys) (hn : n = ys.length) (hg : w.grownBy w' v.ownBlock) (hat : v'.ownBlock = v.ownBlock ∨ v'.ownBlock = some w.heap.size) (hbase : base ≤ w.heap.size) :
    Holds base w' (upd L k (.row v' t ys)) := by
  subst hn
  refine h.put k _ hg (fun c hc => .inl ?_) hown (fun c hc => ?_) hbase
  · rw [hk]; exact hc
  · have hc' : v'.ownBlock = some c := hc
    rcases hat with hat | hat
    · left; rw [hk]; show v.ownBlock = some c; rw [← hat]; exact hc'
    · right; rw [hat] at hc'; cases hc'; exact Nat.le_refl _
theorem Holds.owns (h : Holds base w L) {k : Key} {v : Value} {t : TypeId} {xs : List Value} (hk : L k = .row v t xs) : w.ownsRow 0 t 1 v xs.length xs := by
  have := h.holds k; rw [hk] at this; exact this
end

/-! The parts of a slice's value. -/
def ad : Value → Option Addr
  | .slice a _ _ => a
  | _ => none
def gb : Value → Nat
  | .slice (some a) _ _ => a.block
  | _ => 0
def cp : Value → Nat
  | .slice _ _ c => c
  | _ => 0

section
variable {base : Nat} {w w' : World} {L : Key → Res} {k : Key} {v : Value} {t : TypeId} {xs : List Value}

theorem Holds.sl (h : Holds base w L) (hk : L k = .row v t xs) : v = .slice (ad v) xs.length (cp v) := by
  obtain ⟨A, c, rfl⟩ := h.slice hk; rfl
theorem Holds.ad_ (h : Holds base w L) (hk : L k = .row v t xs) (hp : 0 < xs.length) : ad v = some ⟨gb v, 0, none⟩ := by
  obtain ⟨g, cap, rfl, _⟩ := h.form hk hp; rfl
theorem Holds.sl1 (h : Holds base w L) (hk : L k = .row v t xs) (hp : 0 < xs.length) : v = .slice (some ⟨gb v, 0, none⟩) xs.length (cp v) := by
  obtain ⟨g, cap, rfl, _⟩ := h.form hk hp; rfl
theorem Holds.gb_ (h : Holds base w L) (hk : L k = .row v t xs) (hp : 0 < xs.length) : (L k).blk = some (gb v) := by
  rw [hk]; obtain ⟨g, cap, rfl, _⟩ := h.form hk hp; rfl
theorem Holds.elem (h : Holds base w L) (hk : L k = .row v t xs) {i : Nat} {u : Value} (hu : xs[i]? = some u) : w.cell? ⟨gb v, i, none⟩ = some u := by
  have hp : 0 < xs.length := by have := (List.getElem?_eq_some_iff.1 hu).1; omega
  obtain ⟨g, cap, rfl, _, _, _, hc, _⟩ := h.form hk hp; exact hc i u hu
theorem Holds.free (h : Holds base w L) (hk : L k = .row v t xs) (hp : 0 < xs.length) (i : Nat) : w.frozen? ⟨gb v, i, none⟩ = false := by
  obtain ⟨g, cap, rfl, _, _, _, _, hf⟩ := h.form hk hp; exact hf i
theorem Holds.cap (h : Holds base w L) (hk : L k = .row v t xs) : xs.length ≤ cp v := by
  rcases Nat.eq_zero_or_pos xs.length with h0 | hp
  · omega
  · obtain ⟨g, cap, rfl, h1, _⟩ := h.form hk hp; exact h1
theorem Holds.capMax (h : Holds base w L) (hk : L k = .row v t xs) : cp v ≤ maxLen := by
  have := h.owns hk
  rcases this.2 with ⟨rfl, _⟩ | ⟨g, cap, cur, rfl, _, _, _, h2, _⟩
  · exact Nat.zero_le _
  · exact h2
theorem Holds.store (h : Holds base w L) (hk : L k = .row v t xs) {i : Nat} (hi : i < xs.length) (u : Value) (hbase : base ≤ w.heap.size) : Holds base (w.setCell ⟨gb v, i, none⟩ u) (upd L k (.row v t (xs.set i u))) := by
  obtain ⟨g, cap, rfl, _⟩ := h.form hk (by omega)
  exact h.stored hk rfl i u hbase
end

/-! 'append(v, x)' of one element, at the operation. -/
section
variable {P : Program} {ops : Array Oper} {rest : List Oper} {o : Oper} {a : Act} {Q : Exit → Act → World → Prop}

theorem law_push {base : Nat} {W : World} {L : Key → Res} (H : Holds base W L) (k : Key) (hgd : o.guard = none) (s x : Operand) (t e : TypeId) (z : Value) (bytes : Nat)
    (ho : o.op = .call { callee := .builtin .append, args := #[s, x], argTypes := #[t, t] })
    (ht : P.underlying t = some (.slice e)) (hinfo : (P.info? e).map (fun i => (i.zero, i.size, i.bytes)) = some (some z, 1, bytes)) (hz : z.cells.size = 1) (hb0 : 0 < bytes)
    (v : Value) (xs : List Value) (y : Value) (hk : (L k).blk = v.ownBlock) (hown : W.ownsRow 0 e 1 v xs.length xs) (hs : a.eval s = v) (b : Nat) (hx : a.eval x = .slice (some ⟨b, 0, none⟩) 1 1)
    (hy : W.cell? ⟨b, 0, none⟩ = some y) (h1 : y.oneCell' = true) (hbase : base ≤ W.heap.size) (hl : (xs.length + 1) * bytes ≤ 140737488355328)
    (h : ∀ A c w1, Holds base w1 (upd L k (.row (.slice A (xs.length + 1) c) e (xs ++ [y]))) → Below base W w1 → W.heap.size ≤ w1.heap.size → wpList P ops Q rest (a.put o.dst (.slice A (xs.length + 1) c)) w1) :
    wpList P ops Q (o :: rest) a W := by
  obtain ⟨i0, hi, hzz⟩ := Option.map_eq_some_iff.1 hinfo
  simp only [Prod.mk.injEq] at hzz
  obtain ⟨hz0, hz1, hz2⟩ := hzz
  have hlen : xs.length + 1 ≤ 140737488355328 := Nat.le_trans (Nat.le_mul_of_pos_right _ hb0) hl
  refine wpList_append_own_at W hgd s x t ho 0 e i0 z 1 bytes ht hi hz0 hz1 hz2 hz (by omega) v xs.length xs hs hown ⟨b, 0, none⟩ 1 1 [y] hx rfl ?_ (by simpa using h1) (by simp only [maxLen]; omega) hl (Nat.zero_le _) ?_
  · intro j u hu
    match j, hu with
    | 0, hu => simp at hu; subst hu; simpa [Addr.add] using hy
  · intro v1 w1 ho1 hg hn hat
    have hform : ∃ A c, v1 = .slice A (xs.length + 1) c := by
      rcases ho1.2 with ⟨_, h0⟩ | ⟨g, cap, cur, rfl, _⟩
      · omega
      · exact ⟨_, cap, rfl⟩
    obtain ⟨A, c, rfl⟩ := hform
    have H1 := H.appended hk ho1 (by simp) hg hat hbase
    refine h A c w1 H1 ?_ hg.size
    refine (Below.refl base W).grown hg hbase (fun b' hb' => H.base k b' (by rw [hk]; exact hb'))
/-- The same for a slice that is owned under a name. -/
theorem law_pushAt {base : Nat} {W : World} {L : Key → Res} (H : Holds base W L) (k : Key) (hgd : o.guard = none) (s x : Operand) (t e : TypeId) (z : Value) (bytes : Nat)
    (ho : o.op = .call { callee := .builtin .append, args := #[s, x], argTypes := #[t, t] })
    (ht : P.underlying t = some (.slice e)) (hinfo : (P.info? e).map (fun i => (i.zero, i.size, i.bytes)) = some (some z, 1, bytes)) (hz : z.cells.size = 1) (hb0 : 0 < bytes)
    {v : Value} {xs : List Value} (n : Nat) (y : Value) (hk : L k = .row v e xs) (hn : xs.length = n) (hs : a.eval s = .slice (ad v) n (cp v)) (b : Nat) (hx : a.eval x = .slice (some ⟨b, 0, none⟩) 1 1)
    (hy : W.cell? ⟨b, 0, none⟩ = some y) (h1 : y.oneCell' = true) (hbase : base ≤ W.heap.size) (hl : (n + 1) * bytes ≤ 140737488355328)
    (h : ∀ A c w1, Holds base w1 (upd L k (.row (.slice A (n + 1) c) e (xs ++ [y]))) → Below base W w1 → W.heap.size ≤ w1.heap.size → wpList P ops Q rest (a.put o.dst (.slice A (n + 1) c)) w1) :
    wpList P ops Q (o :: rest) a W := by
  subst hn
  refine law_push H k hgd s x t e z bytes ho ht hinfo hz hb0 v xs y ?_ (H.owns hk) (by rw [hs, ← H.sl hk]) b hx hy h1 hbase hl h
  rw [hk]; rfl
end

/-- The one cell of a new block. -/
theorem cell_new (W : World) (v : Value) (t : TypeId) (b : Nat) (hb : b = W.heap.size) : (W.alloc (.cells #[v] t)).cell? ⟨b, 0, none⟩ = some v := by subst hb; simp
theorem cell_new_drew (W : World) (v : Value) (t : TypeId) (b : Nat) (hb : b = W.heap.size) : (W.alloc (.cells #[v] t)).drew.cell? ⟨b, 0, none⟩ = some v := by subst hb; simp

/-- A slice cut at its beginning, read alone: the cut's address under a name. -/
theorem run_cut {P : Program} (t e : TypeId) {i : TypeInfo} (ht : P.underlying t = some (.slice e)) (hi : P.info? e = some i) (hsz : i.size = 1) (A : Option Addr) (n c m : Nat) (hm : m ≤ n) :
    ∃ A' : Option Addr, (∀ W : World, (Instr.slice t (.slice A n c) (some (.int .i64 (m : Int))) none none).run P W = .ok (.slice A' (n - m) (c - m)) W) ∧
      (n ≤ c → m < n → ∀ g, A = some ⟨g, 0, none⟩ → A' = some ⟨g, m, none⟩) := by
  refine ⟨if c = m then A else A.map (·.add m), fun W => ?_, fun hc hlt g hg => ?_⟩
  · have hel : P.elem t = e := by simp [Program.elem, ht]
    have hu : P.underlying t = some (.slice (P.elem t)) := by rw [hel]; exact ht
    rw [run_slice_l W t A n c hu .i64 (m : Int) (Int.natCast_nonneg _) (by omega), hel]
    simp [sizeOf, typeInfo, hi, hsz, sliced, Result.andThen]
  · subst hg
    rw [if_neg (by omega)]
    simp [Addr.add]
    omega

/-- What is owned is cut to its beginning. -/
theorem Holds.take {base : Nat} {w : World} {L : Key → Res} (h : Holds base w L) {k : Key} {v : Value} {t : TypeId} {xs : List Value} (hk : L k = .row v t xs) {m : Nat} (hm : m ≤ xs.length) (hbase : base ≤ w.heap.size) :
    Holds base w (upd L k (.row (.slice (ad v) m (cp v)) t (xs.take m))) := by
  have hown := h.owns hk
  rcases hown.2 with ⟨rfl, h0⟩ | ⟨g, cap, cur, rfl, _⟩
  · have hm0 : m = 0 := by omega
    have hx0 : xs = [] := List.eq_nil_of_length_eq_zero h0
    subst hm0 hx0
    have e : (Res.row (.slice (ad (.slice none 0 0)) 0 (cp (.slice none 0 0))) t (List.take 0 ([] : List Value))) = L k := by rw [hk]; rfl
    rw [e, upd_id]; exact h
  · refine h.put k _ (World.grownBy.refl w none) (fun b hb => by cases hb) ?_ (fun b hb => .inl (by rw [hk]; exact hb)) hbase
    show World.ownsRow _ _ _ _ _ _ _
    have hl : (xs.take m).length = m := by rw [List.length_take]; omega
    rw [hl]
    exact ownsRow_take hown hm

/-! The same within a region that draws its order. -/
section
variable {P : Program} {ops : Array Oper} {o : Oper} {a : Act} {Q : Exit → Act → World → Prop} {K : Act → World → Prop} {E : Prop}

theorem step_push {base : Nat} {W : World} {L : Key → Res} (H : Holds base W L) (k : Key) (hgd : o.guard = none) (s x : Operand) (t e : TypeId) (z : Value) (bytes : Nat)
    (ho : o.op = .call { callee := .builtin .append, args := #[s, x], argTypes := #[t, t] })
    (ht : P.underlying t = some (.slice e)) (hinfo : (P.info? e).map (fun i => (i.zero, i.size, i.bytes)) = some (some z, 1, bytes)) (hz : z.cells.size = 1) (hb0 : 0 < bytes)
    (v : Value) (xs : List Value) (y : Value) (hk : (L k).blk = v.ownBlock) (hown : W.ownsRow 0 e 1 v xs.length xs) (hs : a.eval s = v) (b : Nat) (hx : a.eval x = .slice (some ⟨b, 0, none⟩) 1 1)
    (hy : W.cell? ⟨b, 0, none⟩ = some y) (h1 : y.oneCell' = true) (hbase : base ≤ W.heap.size) (hl : (xs.length + 1) * bytes ≤ 140737488355328)
    (h : ∀ A c w1, Holds base w1 (upd L k (.row (.slice A (xs.length + 1) c) e (xs ++ [y]))) → Below base W w1 → W.grownBy w1 v.ownBlock → K (a.put o.dst (.slice A (xs.length + 1) c)) w1) :
    if Region.wanted o (yielded ops a.tmps) = true then Oper.wp P o a W K Q else E := by
  obtain ⟨i0, hi, hzz⟩ := Option.map_eq_some_iff.1 hinfo
  simp only [Prod.mk.injEq] at hzz
  obtain ⟨hz0, hz1, hz2⟩ := hzz
  have hw : Region.wanted o (yielded ops a.tmps) = true := by simp [Region.wanted, hgd]
  rw [if_pos hw]
  have hlen : xs.length + 1 ≤ 140737488355328 := Nat.le_trans (Nat.le_mul_of_pos_right _ hb0) hl
  obtain ⟨v1, w1, hr, ho1, hg, hn, hat⟩ := run_append_own_at (P := P) W 0 t o.type e i0 z 1 bytes ht hi hz0 hz1 hz2 hz (by omega) v xs.length xs hown ⟨b, 0, none⟩ 1 1 [y] (by simp) (by
      intro j u hu
      match j, hu with
      | 0, hu => simp at hu; subst hu; simpa [Addr.add] using hy) (by simpa using h1) (by simp only [maxLen]; omega) hl (Nat.zero_le _)
  have hform : ∃ A c, v1 = .slice A (xs.length + 1) c := by
    rcases ho1.2 with ⟨_, h0⟩ | ⟨g, cap, cur, rfl, _⟩
    · omega
    · exact ⟨_, cap, rfl⟩
  obtain ⟨A, c, rfl⟩ := hform
  have H1 := H.appended hk ho1 (by simp) hg hat hbase
  unfold Oper.wp
  simp [execOp, ho, resolve, invoke, builtin, hs, hx, hr, Result.andThen]
  exact h A c w1 H1 ((Below.refl base W).grown hg hbase (fun b' hb' => H.base k b' (by rw [hk]; exact hb'))) hg
end

theorem run_cut2 {P : Program} (t e : TypeId) {i : TypeInfo} (ht : P.underlying t = some (.slice e)) (hi : P.info? e = some i) (hsz : i.size = 1) (g n c m : Nat) (hm : m ≤ n) (hc : n ≤ c) :
    ∃ a' : Addr, (∀ W : World, (Instr.slice t (.slice (some ⟨g, 0, none⟩) n c) (some (.int .i64 (m : Int))) none none).run P W = .ok (.slice (some a') (n - m) (c - m)) W) ∧ (m < n → a' = ⟨g, m, none⟩) := by
  refine ⟨if c = m then ⟨g, 0, none⟩ else (⟨g, 0, none⟩ : Addr).add m, fun W => ?_, fun hlt => ?_⟩
  · have hel : P.elem t = e := by simp [Program.elem, ht]
    have hu : P.underlying t = some (.slice (P.elem t)) := by rw [hel]; exact ht
    rw [run_slice_l W t (some ⟨g, 0, none⟩) n c hu .i64 (m : Int) (Int.natCast_nonneg _) (by omega), hel]
    by_cases h : c = m
    · simp [sizeOf, typeInfo, hi, hsz, sliced, Result.andThen, h]
    · simp [sizeOf, typeInfo, hi, hsz, sliced, Result.andThen, h]
  · rw [if_neg (by omega)]
    simp [Addr.add]
    omega

/-! 'append(v, ys...)' within a region that draws its order. -/
section
variable {P : Program} {ops : Array Oper} {o : Oper} {a : Act} {Q : Exit → Act → World → Prop} {K : Act → World → Prop} {E : Prop}

theorem step_many {base : Nat} {W : World} {L : Key → Res} (H : Holds base W L) (k : Key) (hgd : o.guard = none) (s x : Operand) (t e : TypeId) (z : Value) (bytes : Nat)
    (ho : o.op = .call { callee := .builtin .append, args := #[s, x], argTypes := #[t, t] })
    (ht : P.underlying t = some (.slice e)) (hinfo : (P.info? e).map (fun i => (i.zero, i.size, i.bytes)) = some (some z, 1, bytes)) (hz : z.cells.size = 1) (hb0 : 0 < bytes)
    {v : Value} {xs : List Value} (n : Nat) (ys : List Value) (hk : L k = .row v e xs) (hn : xs.length = n) (hs : a.eval s = .slice (ad v) n (cp v)) (b : Addr) (m c : Nat) (hx : a.eval x = .slice (some b) m c) (hm : ys.length = m)
    (hy : ∀ j u, ys[j]? = some u → W.cell? (b.add j) = some u) (h1 : ∀ u ∈ ys, u.oneCell' = true) (hbase : base ≤ W.heap.size) (hl : (n + m) * bytes ≤ 140737488355328)
    (h : ∀ A c w1, Holds base w1 (upd L k (.row (.slice A (n + m) c) e (xs ++ ys))) → Below base W w1 → K (a.put o.dst (.slice A (n + m) c)) w1) :
    if Region.wanted o (yielded ops a.tmps) = true then Oper.wp P o a W K Q else E := by
  subst hn hm
  obtain ⟨i0, hi, hzz⟩ := Option.map_eq_some_iff.1 hinfo
  simp only [Prod.mk.injEq] at hzz
  obtain ⟨hz0, hz1, hz2⟩ := hzz
  have hw : Region.wanted o (yielded ops a.tmps) = true := by simp [Region.wanted, hgd]
  rw [if_pos hw]
  have hlen : xs.length + ys.length ≤ 140737488355328 := Nat.le_trans (Nat.le_mul_of_pos_right _ hb0) hl
  rw [← H.sl hk] at hs
  have hbk : (L k).blk = v.ownBlock := by rw [hk]; rfl
  obtain ⟨v1, w1, hr, ho1, hg, hn, hat⟩ := run_append_own_at (P := P) W 0 t o.type e i0 z 1 bytes ht hi hz0 hz1 hz2 hz (by omega) v xs.length xs (H.owns hk) b ys.length c ys (by simp) hy h1 (by simp only [maxLen]; omega) hl (Nat.zero_le _)
  have hform : ∃ A c, v1 = .slice A (xs.length + ys.length) c := by
    rcases ho1.2 with ⟨h', h0⟩ | ⟨g, cap, cur, rfl, _⟩
    · exact ⟨none, 0, by rw [h', h0]⟩
    · exact ⟨_, cap, rfl⟩
  obtain ⟨A, c', rfl⟩ := hform
  have H1 := H.appended hbk ho1 (by simp) hg hat hbase
  unfold Oper.wp
  simp [execOp, ho, resolve, invoke, builtin, hs, hx, hr, Result.andThen]
  exact h A c' w1 H1 ((Below.refl base W).grown hg hbase (fun b' hb' => H.base k b' (by rw [hbk]; exact hb')))
end

end Go.Proofs.YtdllaphnkbnpoaaGreat
