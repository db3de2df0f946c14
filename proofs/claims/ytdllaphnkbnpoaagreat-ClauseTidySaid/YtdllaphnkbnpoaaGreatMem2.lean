/- More of what a call owns in memory: 'append(v, ys...)' with ys nil or not, 'make([]T, n)', a literal of one element. No program in sight. -/
import Derived.Test.YtdllaphnkbnpoaaGreatSol
namespace Go.Proofs.YtdllaphnkbnpoaaGreat
open Go.RowKit

section
variable {P : Program} {ops : Array Oper} {rest : List Oper} {o : Oper} {a : Act} {Q : Exit → Act → World → Prop}

/-- A slice that is read, nil or not: its elements are these. -/
def Reads (W : World) (A : Option Addr) (ys : List Value) : Prop := (A = none → ys = []) ∧ ∀ b, A = some b → ∀ j u, ys[j]? = some u → W.cell? (b.add j) = some u

theorem law_many {base : Nat} {W : World} {L : Key → Res} (H : Holds base W L) (k : Key) (hgd : o.guard = none) (s x : Operand) (t e : TypeId) (z : Value) (bytes : Nat)
    (ho : o.op = .call { callee := .builtin .append, args := #[s, x], argTypes := #[t, t] })
    (ht : P.underlying t = some (.slice e)) (hinfo : (P.info? e).map (fun i => (i.zero, i.size, i.bytes)) = some (some z, 1, bytes)) (hz : z.cells.size = 1) (hb0 : 0 < bytes)
    {v : Value} {xs : List Value} (n : Nat) (ys : List Value) (hk : L k = .row v e xs) (hn : xs.length = n) (hs : a.eval s = .slice (ad v) n (cp v)) (A : Option Addr) (m c : Nat) (hx : a.eval x = .slice A m c) (hm : ys.length = m) (hc0 : A = none → c = 0)
    (hy : Reads W A ys) (h1 : ∀ u ∈ ys, u.oneCell' = true) (hbase : base ≤ W.heap.size) (hl : (n + m) * bytes ≤ 140737488355328)
    (h : ∀ A' c' w1, Holds base w1 (upd L k (.row (.slice A' (n + m) c') e (xs ++ ys))) → Below base W w1 → wpList P ops Q rest (a.put o.dst (.slice A' (n + m) c')) w1) :
    wpList P ops Q (o :: rest) a W := by
  subst hn hm
  obtain ⟨i0, hi, hzz⟩ := Option.map_eq_some_iff.1 hinfo
  simp only [Prod.mk.injEq] at hzz
  obtain ⟨hz0, hz1, hz2⟩ := hzz
  have hlen : xs.length + ys.length ≤ 140737488355328 := Nat.le_trans (Nat.le_mul_of_pos_right _ hb0) hl
  have hv := H.sl hk
  rw [← hv] at hs
  have hbk : (L k).blk = v.ownBlock := by rw [hk]; rfl
  have hrun : ∃ A' c' w1, (Builtin.append_ #[t, t] o.type #[v, .slice A ys.length c]).run P W = .ok (.slice A' (xs.length + ys.length) c') w1 ∧ Holds base w1 (upd L k (.row (.slice A' (xs.length + ys.length) c') e (xs ++ ys))) ∧ Below base W w1 := by
    cases A with
    | none =>
      have hys := hy.1 rfl
      subst hys
      have hc := hc0 rfl
      subst hc
      refine ⟨ad v, cp v, W, ?_, ?_, Below.refl _ _⟩
      · rw [show ([] : List Value).length = 0 from rfl, run_append_owned_none (P := P) (w := W) 0 t o.type e i0 1 ht hi v xs.length xs (H.owns hk)]
        rw [Nat.add_zero, ← hv]
      · rw [List.append_nil, show ([] : List Value).length = 0 from rfl, Nat.add_zero, ← hv, ← hk, upd_id]
        exact H
    | some b =>
      obtain ⟨v1, w1, hr, ho1, hg, hn, hat⟩ := run_append_own_at (P := P) W 0 t o.type e i0 z 1 bytes ht hi hz0 hz1 hz2 hz (by omega) v xs.length xs (H.owns hk) b ys.length c ys (by simp) (hy.2 b rfl) h1 (by simp only [maxLen]; omega) hl (Nat.zero_le _)
      have hform : ∃ A c, v1 = .slice A (xs.length + ys.length) c := by
        rcases ho1.2 with ⟨h', h0⟩ | ⟨g, cap, cur, rfl, _⟩
        · exact ⟨none, 0, by rw [h', h0]⟩
        · exact ⟨_, cap, rfl⟩
      obtain ⟨A, c', rfl⟩ := hform
      exact ⟨A, c', w1, hr, H.appended hbk ho1 (by simp) hg hat hbase, (Below.refl base W).grown hg hbase (fun b' hb' => H.base k b' (by rw [hbk]; exact hb'))⟩
  obtain ⟨A', c', w1, hr, H1, B1⟩ := hrun
  refine wpList_plain hgd fun K hK => ?_
  unfold Oper.wp execOp
  simp only [ho, resolve, invoke, builtin, Sem.run_bind, Sem.run_pure, Result.andThen_ok, List.map_toArray, List.map_cons, List.map_nil, hs, hx, hr]
  exact hK _ _ (h A' c' w1 H1 B1)
end

/-- What is owned reads so. -/
theorem Holds.reads {base : Nat} {w : World} {L : Key → Res} (h : Holds base w L) {k : Key} {v : Value} {t : TypeId} {xs : List Value} (hk : L k = .row v t xs) : Reads w (ad v) xs := by
  refine ⟨fun hA => ?_, fun b hb j u hu => ?_⟩
  · rcases Nat.eq_zero_or_pos xs.length with h0 | hp
    · exact List.eq_nil_of_length_eq_zero h0
    · rw [h.ad_ hk hp] at hA; cases hA
  · have hp : 0 < xs.length := by have := (List.getElem?_eq_some_iff.1 hu).1; omega
    rw [h.ad_ hk hp] at hb
    injection hb with hb
    subst hb
    have e : (⟨gb v, 0, none⟩ : Addr).add j = ⟨gb v, j, none⟩ := by unfold Addr.add; split <;> simp_all
    rw [e]
    exact h.elem hk hu
theorem Holds.cap0 {base : Nat} {w : World} {L : Key → Res} (h : Holds base w L) {k : Key} {v : Value} {t : TypeId} {xs : List Value} (hk : L k = .row v t xs) (hA : ad v = none) : cp v = 0 := by
  rcases (h.owns hk).2 with ⟨rfl, _⟩ | ⟨g, cap, cur, rfl, _⟩
  · rfl
  · cases hA
theorem Reads.keep {w w' : World} {A : Option Addr} {ys : List Value} (h : Reads w A ys) (hc : ∀ a v, w.cell? a = some v → w'.cell? a = some v) : Reads w' A ys := ⟨h.1, fun b hb j u hu => hc _ _ (h.2 b hb j u hu)⟩
theorem cell_alloc_keep (w : World) (o : Obj) (a : Addr) (v : Value) (h : w.cell? a = some v) : (w.alloc o).cell? a = some v := by
  rw [World.cell?_alloc_lt]
  · exact h
  · exact World.block_lt_of_cell? w a h

/-- 'make([]T, n)'. -/
theorem Holds.made {base : Nat} {w : World} {L : Key → Res} (h : Holds base w L) (k : Key) (hbase : base ≤ w.heap.size) {P : Program} (t e : TypeId) (z : Value) (bytes : Nat) (ht : P.underlying t = some (.slice e)) (hinfo : (P.info? e).map (fun i => (i.zero, i.size, i.bytes)) = some (some z, 1, bytes)) (hz : z.cells = #[z]) (n : Nat) (hn : n ≤ 60000) (hb : bytes ≤ 1000) :
    ∃ w', (Instr.makeSlice t (.int .i64 (n : Int)) (.int .i64 (n : Int))).run P w = .ok (.slice (some ⟨w.heap.size, 0, none⟩) n n) w' ∧ Holds base w' (upd L k (.row (.slice (some ⟨w.heap.size, 0, none⟩) n n) e (List.replicate n z))) ∧ Below base w w' := by
  obtain ⟨i0, hi, hzz⟩ := Option.map_eq_some_iff.1 hinfo
  simp only [Prod.mk.injEq] at hzz
  obtain ⟨hz0, hz1, hz2⟩ := hzz
  have hbn : i0.bytes * n ≤ 281474976710656 := by
    rw [hz2]
    have := Nat.mul_le_mul hb hn
    omega
  obtain ⟨w', hr, ho, hg⟩ := run_make_full (P := P) w 0 t e i0 z 1 ht hi hz0 hz1 .i64 .i64 n hbn (by simp only [maxLen]; omega) (Nat.zero_le _)
  have hm : (madeCells z.cells (n * 1)).toList = List.replicate n z := by rw [hz, Nat.mul_one, toList_madeCells_one]
  rw [hm] at ho
  refine ⟨w', hr, ?_, (Below.refl base w).grown hg hbase (fun b hb => by cases hb)⟩
  refine h.put k _ hg (fun b hb => by cases hb) ?_ (fun b hb => ?_) hbase
  · show World.ownsRow _ _ _ _ _ _ _
    rw [List.length_replicate]; exact ho
  · right
    have : some w.heap.size = some b := hb
    cases this; exact Nat.le_refl _

/-- A literal of one element is owned. -/
theorem Holds.lit1 {base : Nat} {w : World} {L : Key → Res} (h : Holds base w L) (k : Key) (hbase : base ≤ w.heap.size) (u : Value) (e : TypeId) :
    Holds base (w.alloc (.cells #[u] e)) (upd L k (.row (.slice (some ⟨w.heap.size, 0, none⟩) 1 1) e [u])) := by
  refine h.put k _ (World.grownBy_alloc w _ none) (fun b hb => by cases hb) ?_ (fun b hb => ?_) hbase
  · exact World.ownsRow_lit w #[u] 1 (Nat.zero_le _) (by simp [maxLen]) rfl
  · right
    have : some w.heap.size = some b := hb
    cases this; exact Nat.le_refl _

def bools (xs : List Bool) : List Value := xs.map (.bool ·)
theorem bools_length (xs : List Bool) : (bools xs).length = xs.length := by simp [bools]
theorem bools_at (xs : List Bool) {i : Nat} (h : i < xs.length) : (bools xs)[i]? = some (.bool (xs.getD i false)) := by simp [bools, h]
theorem bools_set (xs : List Bool) (i : Nat) (x : Bool) : (bools xs).set i (.bool x) = bools (xs.set i x) := by simp [bools, List.map_set]
theorem bools_made (n : Nat) : List.replicate n (Value.bool false) = bools (List.replicate n false) := by simp [bools]

end Go.Proofs.YtdllaphnkbnpoaaGreat
