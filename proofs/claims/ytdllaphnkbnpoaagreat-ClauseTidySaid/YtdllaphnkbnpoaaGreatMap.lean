/- A Go map whose entries are known as a list of keys and values: look-up and store, at the operation; keys are whole numbers or texts. No program in sight. -/
import Derived.Test.YtdllaphnkbnpoaaGreatMem
import Derived.MapKept
import Derived.Maps.OwnOps
namespace Go.Proofs.YtdllaphnkbnpoaaGreat
open Go.RowKit Go.MapKept

/-- How keys of one kind stand as values. -/
structure KeyEnc {α : Type} [DecidableEq α] (d : TypeDesc) (kenc : α → Value) : Prop where
  is : ∀ a, IsKey d (kenc a)
  same : ∀ a b, Instr.sameNow d (kenc a) (kenc b) = some (decide (a = b))

theorem keyInt : KeyEnc (.int .i64) (fun n : Int => Value.int .i64 n) := by
  refine ⟨fun a => rfl, fun a b => ?_⟩
  show (if IntKind.i64 = IntKind.i64 then some (a == b) else none) = _
  rw [if_pos rfl]; rfl

section
variable {α : Type} [DecidableEq α]

def look : List (α × Value) → α → Option Value
  | [], _ => none
  | (a, v) :: m, k => if k = a then some v else look m k
def putM : List (α × Value) → α → Value → List (α × Value)
  | [], k, v => [(k, v)]
  | (a, u) :: m, k, v => if k = a then (a, v) :: m else (a, u) :: putM m k v
def kvs (kenc : α → Value) (m : List (α × Value)) : List (Value × Value) := m.map fun x => (kenc x.1, x.2)

theorem findNow_at {d : TypeDesc} {kenc : α → Value} (K : KeyEnc d kenc) (k : α) : ∀ (m : List (α × Value)) (es : List MapEntry) (i : Nat), es.map (fun e => (e.key, e.val)) = kvs kenc m →
    (look m k = none ∧ Instr.findNow d (kenc k) es i = some none) ∨
    ∃ j v e, look m k = some v ∧ Instr.findNow d (kenc k) es i = some (some (i + j, v)) ∧ es[j]? = some e ∧ e.key = kenc k ∧
      ∀ u, (es.modify j fun x => { x with key := kenc k, val := u }).map (fun x => (x.key, x.val)) = kvs kenc (putM m k u) := by
  intro m
  induction m with
  | nil =>
    intro es i h
    have : es = [] := by simpa [kvs] using h
    subst this
    exact .inl ⟨rfl, rfl⟩
  | cons p m ih =>
    obtain ⟨a, v⟩ := p
    intro es i h
    cases es with
    | nil => simp [kvs] at h
    | cons e es =>
      simp only [kvs, List.map_cons, List.cons.injEq, Prod.mk.injEq] at h
      obtain ⟨⟨hk, hv⟩, ht⟩ := h
      by_cases hka : k = a
      · subst hka
        refine .inr ⟨0, v, e, by simp [look], ?_, rfl, hk, fun u => ?_⟩
        · simp [Instr.findNow, hk, K.same, hv]
        · simp [putM, kvs, ht]
      · have hf : Instr.findNow d (kenc k) (e :: es) i = Instr.findNow d (kenc k) es (i + 1) := by simp [Instr.findNow, hk, K.same, hka]
        rcases ih es (i + 1) ht with ⟨h1, h2⟩ | ⟨j, u, e', h1, h2, h3, h4, h5⟩
        · exact .inl ⟨by simp [look, hka, h1], by rw [hf, h2]⟩
        · refine .inr ⟨j + 1, u, e', by simp [look, hka, h1], by rw [hf, h2]; congr 3; omega, by simpa using h3, h4, fun z => ?_⟩
          have := h5 z
          simp only [List.modify_succ_cons, List.map_cons, this, putM, if_neg hka, kvs, hk, hv]

variable {P : Program} {w : World}

theorem run_lookup_at {d : TypeDesc} {kenc : α → Value} (K : KeyEnc d kenc) {T kt et : TypeId} (hT : P.underlying T = some (.map kt et)) (hk : P.underlying kt = some d) {z : Value} (hz : (zeroValue et).run P w = .ok z w)
    {b : Nat} {m : List (α × Value)} (h : MapAt w b (kvs kenc m)) (k : α) (ok : Bool) :
    (Instr.lookup T (.map (some b)) (kenc k) ok).run P w = .ok (if ok then .tuple #[(look m k).getD z, .bool (look m k).isSome] else (look m k).getD z) w := by
  obtain ⟨es, c, hb, he⟩ := h
  have hc : ∀ e, (Instr.checkKey e 10000 kt (kenc k)).run P w = .ok () w := fun e => run_checkKey hk (K.is k) e 9999
  rcases findNow_at K k m es.toList 0 he with ⟨h1, h2⟩ | ⟨j, v, e, h1, h2, _⟩
  · cases ok <;> simp [Instr.lookup, run_underlying hT, MapKept.run_getObj_map hb, hc, run_findKey hk h2, hz, h1, Result.andThen]
  · cases ok <;> simp [Instr.lookup, run_underlying hT, MapKept.run_getObj_map hb, hc, run_findKey hk h2, h1, Result.andThen]

theorem run_update_at {d : TypeDesc} {kenc : α → Value} (K : KeyEnc d kenc) {T kt et : TypeId} (hT : P.underlying T = some (.map kt et)) (hk : P.underlying kt = some d)
    {b : Nat} {m : List (α × Value)} (h : MapAt w b (kvs kenc m)) (k : α) (v : Value) :
    ∃ w', (Instr.mapUpdate T (.map (some b)) (kenc k) v).run P w = .ok () w' ∧ MapAt w' b (kvs kenc (putM m k v)) ∧ w.grownBy w' (some b) := by
  obtain ⟨es, c, hb, he⟩ := h
  have hc : ∀ e, (Instr.checkKey e 10000 kt (kenc k)).run P w = .ok () w := fun e => run_checkKey hk (K.is k) e 9999
  have hlt : b < w.heap.size := (Array.getElem?_eq_some_iff.1 hb).1
  have hgrow : ∀ o : Obj, w.grownBy { w with heap := w.heap.setIfInBounds b o } (some b) := fun o =>
    ⟨rfl, rfl, rfl, by simp, fun i hi hne => by
      show (w.heap.setIfInBounds b o)[i]? = _
      rw [Array.getElem?_setIfInBounds_ne (fun e => hne (by rw [e]))]⟩
  have hset : ∀ o : Obj, (w.heap.setIfInBounds b o)[b]? = some o := fun o => by simp [hlt]
  rcases findNow_at K k m es.toList 0 he with ⟨h1, h2⟩ | ⟨j, u, e, h1, h2, h3, h4, h5⟩
  · refine ⟨{ w with heap := w.heap.setIfInBounds b (.map (es.push { key := kenc k, val := v, born := c }) (c + 1)) }, ?_, ⟨_, _, hset _, ?_⟩, hgrow _⟩
    · simp [Instr.mapUpdate, run_underlying hT, MapKept.run_getObj_map hb, hc, run_findKey hk h2, MapKept.run_setObj_map _ hb, Result.andThen]
    · have hp : putM m k v = m ++ [(k, v)] := by
        clear h2 he
        induction m with
        | nil => rfl
        | cons p m ih =>
          obtain ⟨a, u⟩ := p
          simp only [look] at h1
          split at h1
          · cases h1
          · rename_i hne
            simp [putM, hne, ih h1]
      rw [hp]
      simp only [kvs] at he
      simp [kvs, he]
  · have hj : es[j]? = some e := by simpa using h3
    refine ⟨{ w with heap := w.heap.setIfInBounds b (.map (es.modify j fun x => { x with key := kenc k, val := v }) c) }, ?_, ⟨_, _, hset _, ?_⟩, hgrow _⟩
    · simp [Instr.mapUpdate, run_underlying hT, MapKept.run_getObj_map hb, hc, run_findKey hk h2, MapKept.run_setObj_map _ hb, Result.andThen, hj, h4, run_keyThatStays (K.is k)]
    · rw [← h5 v]; simp

end

section
variable {α : Type} [DecidableEq α] {P : Program} {ops : Array Oper} {rest : List Oper} {o : Oper} {a : Act} {Q : Exit → Act → World → Prop}

/-- 'm[k]' at the operation. -/
theorem law_lookup {d : TypeDesc} {kenc : α → Value} (K : KeyEnc d kenc) {W : World} (hgd : o.guard = none) (x i : Operand) {T kt et : TypeId} (ok : Bool) (ho : o.op = .lookup T x i ok)
    (hT : P.underlying T = some (.map kt et)) (hk : P.underlying kt = some d) {z : Value} (hz : (zeroValue et).run P W = .ok z W) {b : Nat} {m : List (α × Value)} (hm : MapAt W b (kvs kenc m)) (k : α)
    (hx : a.eval x = .map (some b)) (hi : a.eval i = kenc k)
    (h : wpList P ops Q rest (a.put o.dst (if ok then .tuple #[(look m k).getD z, .bool (look m k).isSome] else (look m k).getD z)) W) : wpList P ops Q (o :: rest) a W := by
  refine wpList_plain hgd fun K' hK' => ?_
  have hrun := run_lookup_at K hT hk hz hm k ok
  unfold Oper.wp
  simp [execOp, ho, hx, hi, hrun, Result.andThen]
  exact hK' _ _ h

/-- 'm[k] = v' at the operation, the map owned under a name. -/
theorem law_update {d : TypeDesc} {kenc : α → Value} (K : KeyEnc d kenc) {base : Nat} {W : World} {L : Key → Res} (H : Holds base W L) (key : Key) (hgd : o.guard = none) (x i y : Operand) {T kt et : TypeId} (ho : o.op = .mapUpdate T x i y)
    (hT : P.underlying T = some (.map kt et)) (hk : P.underlying kt = some d) {b : Nat} {m : List (α × Value)} (hL : L key = .mapB b (kvs kenc m)) (k : α) (v : Value)
    (hx : a.eval x = .map (some b)) (hi : a.eval i = kenc k) (hy : a.eval y = v) (hbase : base ≤ W.heap.size)
    (h : ∀ w1, Holds base w1 (upd L key (.mapB b (kvs kenc (putM m k v)))) → Below base W w1 → W.grownBy w1 (some b) → wpList P ops Q rest (a.put o.dst undef) w1) : wpList P ops Q (o :: rest) a W := by
  have hm : MapAt W b (kvs kenc m) := by have := H.holds key; rw [hL] at this; exact this
  obtain ⟨w1, hrun, h1, h2⟩ := run_update_at K hT hk hm k v
  refine wpList_plain hgd fun K' hK' => ?_
  unfold Oper.wp
  simp [execOp, ho, hx, hi, hy, hrun, Result.andThen]
  refine hK' _ _ (h w1 ?_ ?_ h2)
  · refine H.put key _ h2 (fun b' hb' => .inl ?_) h1 (fun b' hb' => .inl ?_) hbase
    · rw [hL]; exact hb'
    · rw [hL]; exact hb'
  · exact (Below.refl base W).grown h2 hbase (fun b' hb' => H.base key b' (by rw [hL]; exact hb'))
end

end Go.Proofs.YtdllaphnkbnpoaaGreat
