/- A Go map whose entries are known as a list of keys and values: look-up and store, at the operation; keys are texts. No program in sight. Walks over small functions of packages reader and kind. heads, reserved. Texts that are told alike are the same. collect, Names. slices.Sorted(maps.Keys(m)) at this program: what the kit's command lays, in plain words. Names. variance, Variance. reader: numeric, outside, leaf of words and lists. reader: valid, Valid. reader: Compare, Equal. kind: isName; which of the forms are no forms. -/
import Derived.WalkKit
import Derived.MapKept
import Derived.Maps.OwnOps
import Derived.Test.YtcjmplpfebpfpaaGreatDoorPKindNamesx0
import Derived.Carry
import Derived.StringKeys
import Derived.Test.YtcjmplpfebpfpaaGreatDoorShelf
import Derived.Sort.KeysCollected
import Derived.Laws.Cover1
namespace Go.Proofs.YtcjmplpfebpfpaaGreatDoor
open Go.RowKit Go.MapKept

def MapAt (w : World) (b : Nat) (kvs : List (Value × Value)) : Prop :=
  ∃ es c, w.heap[b]? = some (.map es c) ∧ es.toList.map (fun e => (e.key, e.val)) = kvs

theorem MapAt.lt {w : World} {b : Nat} {m : List (Value × Value)} (h : MapAt w b m) : b < w.heap.size := by
  obtain ⟨es, c, hb, _⟩ := h
  exact (Array.getElem?_eq_some_iff.1 hb).1
theorem MapAt.kept {w w' : World} {b : Nat} {m : List (Value × Value)} {row : Option Nat} (h : MapAt w b m) (hg : w.grownBy w' row) (hne : some b ≠ row) : MapAt w' b m := by
  have hlt := h.lt
  obtain ⟨es, c, hb, he⟩ := h
  exact ⟨es, c, (hg.block b hlt hne).trans hb, he⟩
theorem MapAt.made (w : World) : MapAt (w.alloc (.map #[] 0)) w.heap.size [] := ⟨#[], 0, (MapKept.heap_alloc w _).1, rfl⟩

/-- How keys of one kind stand as values. -/
structure KeyEnc {α : Type} [DecidableEq α] (d : TypeDesc) (kenc : α → Value) : Prop where
  is : ∀ a, IsKey d (kenc a)
  same : ∀ a b, Instr.sameNow d (kenc a) (kenc b) = some (decide (a = b))

theorem keyText : KeyEnc .string (fun s : ByteArray => Value.string s) := by
  refine ⟨fun a => trivial, fun a b => ?_⟩
  show some (a == b) = _
  congr 1
  rw [Bool.eq_iff_iff, decide_eq_true_iff]
  exact bytes_beq a b

section
variable {α : Type} [DecidableEq α]

def look : List (α × Value) → α → Option Value
  | [], _ => none
  | (a, v) :: m, k => if k = a then some v else look m k
def putM : List (α × Value) → α → Value → List (α × Value)
  | [], k, v => [(k, v)]
  | (a, u) :: m, k, v => if k = a then (a, v) :: m else (a, u) :: putM m k v
def kvs (kenc : α → Value) (m : List (α × Value)) : List (Value × Value) := m.map fun x => (kenc x.1, x.2)

theorem findNow_at {d : TypeDesc} {kenc : α → Value} (K : KeyEnc d kenc) (k : α) : ∀ (m : List (α × Value)) (es : List MapEntry) (i : Nat), es.map (fun e => (e.key, e.val)) = kvs kenc m →
    (look m k = none ∧ Instr.findNow d (kenc k) es i = some none) ∨
    ∃ j v e, look m k = some v ∧ Instr.findNow d (kenc k) es i = some (some (i + j, v)) ∧ es[j]? = some e ∧ e.key = kenc k ∧
      ∀ u, (es.modify j fun x => { x with key := kenc k, val := u }).map (fun x => (x.key, x.val)) = kvs kenc (putM m k u) := by
  intro m
  induction m with
  | nil =>
    intro es i h
    have : es = [] := by simpa [kvs] using h
    subst this
    exact .inl ⟨rfl, rfl⟩
  | cons p m ih =>
    obtain ⟨a, v⟩ := p
    intro es i h
    cases es with
    | nil => simp [kvs] at h
    | cons e es =>
      simp only [kvs, List.map_cons, List.cons.injEq, Prod.mk.injEq] at h
      obtain ⟨⟨hk, hv⟩, ht⟩ := h
      by_cases hka : k = a
      · subst hka
        refine .inr ⟨0, v, e, by simp [look], ?_, rfl, hk, fun u => ?_⟩
        · simp [Instr.findNow, hk, K.same, hv]
        · simp [putM, kvs, ht]
      · have hf : Instr.findNow d (kenc k) (e :: es) i = Instr.findNow d (kenc k) es (i + 1) := by simp [Instr.findNow, hk, K.same, hka]
        rcases ih es (i + 1) ht with ⟨h1, h2⟩ | ⟨j, u, e', h1, h2, h3, h4, h5⟩
        · exact .inl ⟨by simp [look, hka, h1], by rw [hf, h2]⟩
        · refine .inr ⟨j + 1, u, e', by simp [look, hka, h1], by rw [hf, h2]; congr 3; omega, by simpa using h3, h4, fun z => ?_⟩
          have := h5 z
          simp only [List.modify_succ_cons, List.map_cons, this, putM, if_neg hka, kvs, hk, hv]

variable {P : Program} {w : World}

theorem run_lookup_at {d : TypeDesc} {kenc : α → Value} (K : KeyEnc d kenc) {T kt et : TypeId} (hT : P.underlying T = some (.map kt et)) (hk : P.underlying kt = some d) {z : Value} (hz : (zeroValue et).run P w = .ok z w)
    {b : Nat} {m : List (α × Value)} (h : MapAt w b (kvs kenc m)) (k : α) (ok : Bool) :
    (Instr.lookup T (.map (some b)) (kenc k) ok).run P w = .ok (if ok then .tuple #[(look m k).getD z, .bool (look m k).isSome] else (look m k).getD z) w := by
  obtain ⟨es, c, hb, he⟩ := h
  have hc : ∀ e, (Instr.checkKey e 10000 kt (kenc k)).run P w = .ok () w := fun e => run_checkKey hk (K.is k) e 9999
  rcases findNow_at K k m es.toList 0 he with ⟨h1, h2⟩ | ⟨j, v, e, h1, h2, _⟩
  · cases ok <;> simp [Instr.lookup, run_underlying hT, MapKept.run_getObj_map hb, hc, run_findKey hk h2, hz, h1, Result.andThen]
  · cases ok <;> simp [Instr.lookup, run_underlying hT, MapKept.run_getObj_map hb, hc, run_findKey hk h2, h1, Result.andThen]

theorem run_update_at {d : TypeDesc} {kenc : α → Value} (K : KeyEnc d kenc) {T kt et : TypeId} (hT : P.underlying T = some (.map kt et)) (hk : P.underlying kt = some d)
    {b : Nat} {m : List (α × Value)} (h : MapAt w b (kvs kenc m)) (k : α) (v : Value) :
    ∃ w', (Instr.mapUpdate T (.map (some b)) (kenc k) v).run P w = .ok () w' ∧ MapAt w' b (kvs kenc (putM m k v)) ∧ w.grownBy w' (some b) := by
  obtain ⟨es, c, hb, he⟩ := h
  have hc : ∀ e, (Instr.checkKey e 10000 kt (kenc k)).run P w = .ok () w := fun e => run_checkKey hk (K.is k) e 9999
  have hlt : b < w.heap.size := (Array.getElem?_eq_some_iff.1 hb).1
  have hgrow : ∀ o : Obj, w.grownBy { w with heap := w.heap.setIfInBounds b o } (some b) := fun o =>
    ⟨rfl, rfl, rfl, by simp, fun i hi hne => by
      show (w.heap.setIfInBounds b o)[i]? = _
      rw [Array.getElem?_setIfInBounds_ne (fun e => hne (by rw [e]))]⟩
  have hset : ∀ o : Obj, (w.heap.setIfInBounds b o)[b]? = some o := fun o => by simp [hlt]
  rcases findNow_at K k m es.toList 0 he with ⟨h1, h2⟩ | ⟨j, u, e, h1, h2, h3, h4, h5⟩
  · refine ⟨{ w with heap := w.heap.setIfInBounds b (.map (es.push { key := kenc k, val := v, born := c }) (c + 1)) }, ?_, ⟨_, _, hset _, ?_⟩, hgrow _⟩
    · simp [Instr.mapUpdate, run_underlying hT, MapKept.run_getObj_map hb, hc, run_findKey hk h2, MapKept.run_setObj_map _ hb, Result.andThen]
    · have hp : putM m k v = m ++ [(k, v)] := by
        clear h2 he
        induction m with
        | nil => rfl
        | cons p m ih =>
          obtain ⟨a, u⟩ := p
          simp only [look] at h1
          split at h1
          · cases h1
          · rename_i hne
            simp [putM, hne, ih h1]
      rw [hp]
      simp only [kvs] at he
      simp [kvs, he]
  · have hj : es[j]? = some e := by simpa using h3
    refine ⟨{ w with heap := w.heap.setIfInBounds b (.map (es.modify j fun x => { x with key := kenc k, val := v }) c) }, ?_, ⟨_, _, hset _, ?_⟩, hgrow _⟩
    · simp [Instr.mapUpdate, run_underlying hT, MapKept.run_getObj_map hb, hc, run_findKey hk h2, MapKept.run_setObj_map _ hb, Result.andThen, hj, h4, run_keyThatStays (K.is k)]
    · rw [← h5 v]; simp

end


section
variable {α : Type} [DecidableEq α] {P : Program} {ops : Array Oper} {rest : List Oper} {o : Oper} {a : Act} {Q : Exit → Act → World → Prop}

/-- 'm[k]' at the operation. -/
theorem law_lookup {d : TypeDesc} {kenc : α → Value} (K : KeyEnc d kenc) {W : World} (hgd : o.guard = none) (x i : Operand) {T kt et : TypeId} (ok : Bool) (ho : o.op = .lookup T x i ok)
    (hT : P.underlying T = some (.map kt et)) (hk : P.underlying kt = some d) {z : Value} (hz : (zeroValue et).run P W = .ok z W) {b : Nat} {m : List (α × Value)} (hm : MapAt W b (kvs kenc m)) (k : α)
    (hx : a.eval x = .map (some b)) (hi : a.eval i = kenc k)
    (h : wpList P ops Q rest (a.put o.dst (if ok then .tuple #[(look m k).getD z, .bool (look m k).isSome] else (look m k).getD z)) W) : wpList P ops Q (o :: rest) a W := by
  refine wpList_plain hgd fun K' hK' => ?_
  have hrun := run_lookup_at K hT hk hz hm k ok
  unfold Oper.wp
  simp [execOp, ho, hx, hi, hrun, Result.andThen]
  exact hK' _ _ h

/-- 'm[k] = v' at the operation. -/
theorem law_update {d : TypeDesc} {kenc : α → Value} (K : KeyEnc d kenc) {W : World} (hgd : o.guard = none) (x i y : Operand) {T kt et : TypeId} (ho : o.op = .mapUpdate T x i y ∨ o.op = .insert T x i y)
    (hT : P.underlying T = some (.map kt et)) (hk : P.underlying kt = some d) {b : Nat} {m : List (α × Value)} (hm : MapAt W b (kvs kenc m)) (k : α) (v : Value)
    (hx : a.eval x = .map (some b)) (hi : a.eval i = kenc k) (hy : a.eval y = v)
    (h : ∀ w1, MapAt w1 b (kvs kenc (putM m k v)) → W.grownBy w1 (some b) → wpList P ops Q rest (a.put o.dst undef) w1) : wpList P ops Q (o :: rest) a W := by
  obtain ⟨w1, hrun, h1, h2⟩ := run_update_at K hT hk hm k v
  refine wpList_plain hgd fun K' hK' => ?_
  unfold Oper.wp
  rcases ho with ho | ho <;>
  · simp [execOp, ho, hx, hi, hy, hrun, Result.andThen]
    exact hK' _ _ (h w1 h1 h2)
end

end Go.Proofs.YtcjmplpfebpfpaaGreatDoor
namespace Go.Proofs.YtcjmplpfebpfpaaGreatDoor
open Go.RowKit Go.Proofs Go.Proofs.YtcjmplpfebpfpaaGreatDoorW.PrintWords Go.Proofs.YtcjmplpfebpfpaaGreatDoorW.PrintLast Go.Proofs.YtcjmplpfebpfpaaGreatDoorW.PrintMore PKindNames
set_option linter.unusedVariables false
set_option linter.unusedSimpArgs false

/-- A form as a value. -/
@[reducible] def formV (a b : Int) (s : ByteArray) (A : Option Addr) (n c : Nat) : Value := .agg #[.int .i64 a, .int .i64 b, .string s, .slice A n c]

theorem kids_three (b : Int) (s : ByteArray) (A : Option Addr) (n c : Nat) (w : World) :
    Calls Tryz.prog 122 #[formV 3 b s A n c] w fun e w' => e = .returned (.slice A n c) ∧ Below w.heap.size w w' := by
  have hu24 := Tryz.underlying24
  go_enter Tryz.func122, Tryz.ntmps122
  go_wp2
  go_ret
  exact ⟨rfl, by repeat (first | exact Below.refl _ _ | apply below_alloc | apply pw_below_drewN | apply below_drew1)⟩

theorem kids_other {a : Int} (h : a ≠ 3) (b : Int) (s : ByteArray) (A : Option Addr) (n c : Nat) (w : World) :
    Calls Tryz.prog 122 #[formV a b s A n c] w fun e w' => e = .returned (.slice none 0 0) ∧ Below w.heap.size w w' := by
  have hu24 := Tryz.underlying24
  have h1 : (a == 3) = false := beq_eq_false_iff_ne.mpr h
  go_enter Tryz.func122, Tryz.ntmps122
  go_wp2
  go_ret
  exact ⟨rfl, by repeat (first | exact Below.refl _ _ | apply below_alloc | apply pw_below_drewN | apply below_drew1)⟩


/-- The head of a form. -/
def headL (l : List S24) : ByteArray := match l with | [] => ⟨#[]⟩ | k :: _ => if k.f0 = 1 then k.f2 else ⟨#[]⟩
def headOf (a : Int) (l : List S24) : ByteArray := if a = 3 then headL l else ⟨#[]⟩

theorem below_after {w X w1 : World} (h : Below w.heap.size w X) (hb : Below X.heap.size X w1) : Below w.heap.size w w1 := h.trans (hb.mono (below_size h))


theorem Head_other {a : Int} (ha : a ≠ 3) (b : Int) (s : ByteArray) (A : Option Addr) (n c : Nat) (w : World) :
    Calls Tryz.prog 79 #[formV a b s A n c] w fun e w' => e = .returned (.string (⟨#[]⟩ : ByteArray)) ∧ Below w.heap.size w w' := by
  have hu24 := Tryz.underlying24
  go_enter Tryz.func79, Tryz.ntmps79
  go_wp2_with fail
  refine (kids_other ha _ _ _ _ _ _).mono ?_
  rintro e w1 ⟨rfl, hb⟩
  have B1 : Below w.heap.size w w1 := below_after (by (repeat (first | assumption | exact Below.refl _ _ | apply below_alloc | apply pw_below_drewN | apply below_drew1))) hb
  go_wp2
  go_ret
  exact ⟨rfl, by (repeat (first | assumption | exact Below.refl _ _ | apply below_alloc | apply pw_below_drewN | apply below_drew1))⟩

theorem add_none (ad : Addr) : ad.add 0 = ad := by cases ad; rfl
/-- The cells of the first of a row of forms. -/
theorem first_at {w : World} {A : Option Addr} {n : Nat} {k : S24} {l : List S24} (h : Kd.C k24 w A n (k :: l)) (hn : 0 < n) :
    ∃ ad A3 c3, A = some ad ∧ w.cell? ad = some (.int .i64 k.f0) ∧ w.cell? ⟨ad.block, ad.off + 1, none⟩ = some (.int .i64 k.f1) ∧ w.cell? ⟨ad.block, ad.off + 2, none⟩ = some (.string k.f2) ∧
      w.cell? ⟨ad.block, ad.off + 3, none⟩ = some (.slice A3 k.f3.length c3) ∧ k.f3.length ≤ c3 ∧ k24.C w A3 k.f3.length k.f3 := by
  obtain ⟨ad, A3, c3, e, g0, g1, g2, g3, g4, g5⟩ := at_T24 h 0 (by omega) (by omega)
  have e0 : rd_T24 (k :: l) 0 = k := rfl
  have e1 : ad.add (Int.toNat 0 * 4) = ad := add_none ad
  rw [e1, e0] at g0 g1 g2 g3
  rw [e0] at g4 g5
  exact ⟨ad, A3, c3, e, g0, g1, g2, g3, g4, g5⟩

theorem rd_at {l : List S24} {k : Nat} {x : S24} (h : l[k]? = some x) : rd_T24 l (k : Int) = x := by
  simp [rd_T24, List.getD, h]

set_option maxRecDepth 100000 in
theorem Head_three (b : Int) (s : ByteArray) {A : Option Addr} {l : List S24} (c : Nat) (w : World) (hr : Kd.C k24 w A l.length l) :
    Calls Tryz.prog 79 #[formV 3 b s A l.length c] w fun e w' => e = .returned (.string (headL l)) ∧ Below w.heap.size w w' := by
  have hu24 := Tryz.underlying24
  cases l with
  | nil =>
    go_enter Tryz.func79, Tryz.ntmps79
    go_wp2_with fail
    refine (kids_three _ _ _ _ _ _).mono ?_
    rintro e w1 ⟨rfl, hb⟩
    have B1 : Below w.heap.size w w1 := below_after (by (repeat (first | assumption | exact Below.refl _ _ | apply below_alloc | apply pw_below_drewN | apply below_drew1))) hb
    go_wp2
    go_ret
    exact ⟨rfl, by (repeat (first | assumption | exact Below.refl _ _ | apply below_alloc | apply pw_below_drewN | apply below_drew1))⟩
  | cons k l =>
    obtain ⟨n, hn⟩ : ∃ n, (k :: l).length = n := ⟨_, rfl⟩
    have hn0 : 0 < n := by rw [← hn]; simp
    have hn1 : decide ((0 : Int) < n) = true := decide_eq_true (by omega)
    rw [hn] at hr ⊢
    by_cases hk : k.f0 = 1
    · have e1 : headL (k :: l) = k.f2 := by simp [headL, hk]
      rw [e1]; clear e1
      go_enter Tryz.func79, Tryz.ntmps79
      go_wp2_with fail
      refine (kids_three _ _ _ _ _ _).mono ?_
      rintro e w1 ⟨rfl, hb⟩
      have B1 : Below w.heap.size w w1 := below_after (by (repeat (first | assumption | exact Below.refl _ _ | apply below_alloc | apply pw_below_drewN | apply below_drew1))) hb
      obtain ⟨ad, A3, c3, rfl, g0, g1, g2, g3, _, _⟩ := first_at (Kd.C_below hr B1) hn0
      clear hr
      go_wp2
      go_ret
      exact ⟨rfl, by (repeat (first | assumption | exact Below.refl _ _ | apply below_alloc | apply pw_below_drewN | apply below_drew1))⟩
    · have hk1 : (k.f0 == 1) = false := beq_eq_false_iff_ne.mpr hk
      have e1 : headL (k :: l) = (⟨#[]⟩ : ByteArray) := by simp [headL, hk]
      rw [e1]; clear e1
      go_enter Tryz.func79, Tryz.ntmps79
      go_wp2_with fail
      refine (kids_three _ _ _ _ _ _).mono ?_
      rintro e w1 ⟨rfl, hb⟩
      have B1 : Below w.heap.size w w1 := below_after (by (repeat (first | assumption | exact Below.refl _ _ | apply below_alloc | apply pw_below_drewN | apply below_drew1))) hb
      obtain ⟨ad, A3, c3, rfl, g0, g1, g2, g3, _, _⟩ := first_at (Kd.C_below hr B1) hn0
      clear hr
      go_wp2
      go_ret
      exact ⟨rfl, by (repeat (first | assumption | exact Below.refl _ _ | apply below_alloc | apply pw_below_drewN | apply below_drew1))⟩

/-- The parts of a form that stand as types. -/
def typesL (a : Int) (l : List S24) (bare : Bool) : List S24 :=
  if a = 3 then (match l with | [] => [] | k :: r => if bare = false ∧ k.f0 = 1 then r else k :: r) else []

/-- What the cut of a row by one is. -/
def TypesR (w : World) (v : Value) (ys : List S24) : Prop := ∃ A c, v = .slice A ys.length c ∧ Kd.C k24 w A ys.length ys ∧ ys.length ≤ c

theorem TypesR_nil (w : World) : TypesR w (.slice none 0 0) [] := ⟨none, 0, rfl, Kd.C_nil _ _, Nat.le_refl _⟩

theorem types_cut {w : World} {ad : Addr} {n c : Nat} {k : S24} {l : List S24} (hr : Kd.C k24 w (some ad) (k :: l).length (k :: l)) (hc : (k :: l).length ≤ c) (hn : (k :: l).length = n) (h1 : c ≠ 1) :
    TypesR w (.slice (some ⟨ad.block, ad.off + 4, none⟩) (n - 1) (c - 1)) l := by
  have h := Kd.C_drop (m := 1) hr (by simp) hc
  rw [if_neg h1] at h
  have e : (k :: l).drop 1 = l := rfl
  rw [e] at h
  have hl : n - 1 = l.length := by rw [← hn]; simp
  rw [hl]
  exact ⟨some ⟨ad.block, ad.off + 4, none⟩, c - 1, rfl, h, by rw [← hl, ← hn]; omega⟩
theorem types_cut1 {w : World} {ad : Addr} {n : Nat} {k : S24} {l : List S24} (hr : Kd.C k24 w (some ad) (k :: l).length (k :: l)) (hc : (k :: l).length ≤ 1) (hn : (k :: l).length = n) :
    TypesR w (.slice (some ad) (n - 1) 0) l := by
  have h := Kd.C_drop (m := 1) (c := 1) hr (by simp) hc
  rw [if_pos rfl] at h
  have e : (k :: l).drop 1 = l := rfl
  rw [e] at h
  have hl : n - 1 = l.length := by rw [← hn]; simp
  rw [hl]
  exact ⟨some ad, 0, rfl, h, by simp at hc ⊢; simp [hc]⟩

set_option maxRecDepth 100000 in
theorem types_any (a b : Int) (s : ByteArray) {A : Option Addr} {l : List S24} (c : Nat) (bare : Bool) (w : World) (hr : Kd.C k24 w A l.length l) (hc : l.length ≤ c) :
    Calls Tryz.prog 111 #[formV a b s A l.length c, .bool bare] w fun e w' => ∃ v, e = .returned v ∧ TypesR w' v (typesL a l bare) ∧ Below w.heap.size w w' := by
  have hu24 := Tryz.underlying24
  by_cases ha : a = 3
  · subst ha
    have h1 : ((3 : Int) != 3) = false := by decide
    cases bare with
    | true =>
      have e1 : typesL 3 l true = l := by cases l <;> simp [typesL]
      rw [e1]; clear e1
      go_enter Tryz.func111, Tryz.ntmps111
      go_wp2
      go_ret
      have B : Below w.heap.size w (w.alloc (Obj.cells #[Value.int IntKind.i64 3, Value.int IntKind.i64 b, Value.string s, Value.slice A l.length c] 24)) := by (repeat (first | assumption | exact Below.refl _ _ | apply below_alloc | apply pw_below_drewN | apply below_drew1))
      exact ⟨_, rfl, ⟨A, c, rfl, Kd.C_below hr B, hc⟩, B⟩
    | false =>
      cases l with
      | nil =>
        go_enter Tryz.func111, Tryz.ntmps111
        go_wp2
        go_ret
        have B : Below w.heap.size w (w.alloc (Obj.cells #[Value.int IntKind.i64 3, Value.int IntKind.i64 b, Value.string s, Value.slice A 0 c] 24)) := by (repeat (first | assumption | exact Below.refl _ _ | apply below_alloc | apply pw_below_drewN | apply below_drew1))
        exact ⟨_, rfl, ⟨A, c, rfl, Kd.C_below hr B, hc⟩, B⟩
      | cons k l =>
        obtain ⟨n, hn⟩ : ∃ n, (k :: l).length = n := ⟨_, rfl⟩
        have hn0 : 0 < n := by rw [← hn]; simp
        have hn1 : decide ((0 : Int) < n) = true := decide_eq_true (by omega)
        have hr0 := hr
        rw [hn] at hr ⊢
        obtain ⟨ad, A3, c3, rfl, g0, g1, g2, g3, _, _⟩ := first_at (Kd.C_alloc hr (Obj.cells #[Value.int IntKind.i64 3, Value.int IntKind.i64 b, Value.string s, Value.slice A n c] 24)) hn0
        by_cases hk : k.f0 = 1
        · have e1 : typesL 3 (k :: l) false = l := by simp [typesL, hk]
          rw [e1]; clear e1
          have hnc : n ≤ c := by rw [← hn]; exact hc
          go_enter Tryz.func111, Tryz.ntmps111
          go_wp2
          all_goals go_ret
          · exact ⟨_, rfl, types_cut1 (Kd.C_alloc hr0 _) (by omega) hn, by (repeat (first | assumption | exact Below.refl _ _ | apply below_alloc | apply pw_below_drewN | apply below_drew1))⟩
          · exact ⟨_, rfl, types_cut (Kd.C_alloc hr0 _) hc hn (by assumption), by (repeat (first | assumption | exact Below.refl _ _ | apply below_alloc | apply pw_below_drewN | apply below_drew1))⟩
        · have hk1 : (k.f0 == 1) = false := beq_eq_false_iff_ne.mpr hk
          have e1 : typesL 3 (k :: l) false = k :: l := by simp [typesL, hk]
          rw [e1]; clear e1
          go_enter Tryz.func111, Tryz.ntmps111
          go_wp2
          go_ret
          have B : Below w.heap.size w (w.alloc (Obj.cells #[Value.int IntKind.i64 3, Value.int IntKind.i64 b, Value.string s, Value.slice (some ad) n c] 24)) := by (repeat (first | assumption | exact Below.refl _ _ | apply below_alloc | apply pw_below_drewN | apply below_drew1))
          exact ⟨.slice (some ad) n c, rfl, ⟨some ad, c, by rw [hn], Kd.C_below hr0 B, hc⟩, B⟩
  · have h1 : (a != 3) = true := bne_iff_ne.mpr ha
    have e1 : typesL a l bare = [] := by simp [typesL, ha]
    rw [e1]; clear e1
    go_enter Tryz.func111, Tryz.ntmps111
    go_wp2
    go_ret
    exact ⟨_, rfl, TypesR_nil _, by (repeat (first | assumption | exact Below.refl _ _ | apply below_alloc | apply pw_below_drewN | apply below_drew1))⟩
end Go.Proofs.YtcjmplpfebpfpaaGreatDoor
namespace Go.Proofs.YtcjmplpfebpfpaaGreatDoor
open Go.RowKit Go.Proofs Go.Proofs.YtcjmplpfebpfpaaGreatDoorW.PrintWords Go.Proofs.YtcjmplpfebpfpaaGreatDoorW.PrintLast Go.Proofs.YtcjmplpfebpfpaaGreatDoorW.PrintMore PKindNames
set_option linter.unusedVariables false
set_option linter.unusedSimpArgs false

def textV (s : ByteArray) : Value := .string s
theorem keyText' : KeyEnc .string textV := keyText

def headsM : List (ByteArray × Value) :=
  [(⟨#[98, 105, 116, 115]⟩, .int .i64 1), (⟨#[115, 101, 113]⟩, .int .i64 1), (⟨#[115, 101, 116]⟩, .int .i64 1), (⟨#[98, 97, 103]⟩, .int .i64 1), (⟨#[109, 97, 121, 98, 101]⟩, .int .i64 1),
   (⟨#[109, 97, 112]⟩, .int .i64 2), (⟨#[105, 109, 97, 112]⟩, .int .i64 2), (⟨#[102, 117, 110]⟩, .int .i64 2)]

theorem below_grown1 {w W w1 : World} {b : Nat} (h : Below w.heap.size w W) (hg : W.grownBy w1 (some b)) (hb : w.heap.size ≤ b) : Below w.heap.size w w1 :=
  pw_below_grown h (some b) (below_size h) hg (fun k hk => by cases hk; exact hb)

set_option maxRecDepth 100000 in
theorem heads_any (w : World) : Calls Tryz.prog 87 #[] w fun e w' => ∃ b, e = .returned (.map (some b)) ∧ w.heap.size ≤ b ∧ MapAt w' b (kvs textV headsM) ∧ Below w.heap.size w w' := by
  have hu := Tryz.underlying132
  have hk := Tryz.underlying9
  go_enter Tryz.func87, Tryz.ntmps87
  go_wp2
  simp only [run_makeMap]
  have m0 : MapAt (w.alloc (.map #[] 0)) w.heap.size (kvs textV []) := MapAt.made w
  have B0 : Below w.heap.size w (w.alloc (.map #[] 0)) := by (repeat (first | assumption | exact Below.refl _ _ | apply below_alloc | apply pw_below_drewN | apply below_drew1))
  go_wp2_with (first | (refine law_update keyText' rfl _ _ _ (.inr rfl) hu hk (by assumption) _ _ rfl rfl rfl ?_; intro w1 m1 hg1; have B1 : Below w.heap.size w w1 := below_grown1 (by assumption) hg1 (Nat.le_refl _); clear hg1))
  have e8 : MapAt w1 w.heap.size (kvs textV headsM) := m1
  go_ret
  exact ⟨_, rfl, Nat.le_refl _, e8, B1⟩

/-- A word that is no name. -/
def resM (s : ByteArray) : Bool := (look headsM s).isSome || (s.toList == [105, 110, 116]) || (s.toList == [98, 111, 111, 108])

set_option maxRecDepth 100000 in
theorem reserved_any (s : ByteArray) (w : World) : Calls Tryz.prog 44 #[.string s] w fun e w' => e = .returned (.bool (resM s)) ∧ Below w.heap.size w w' := by
  have hu := Tryz.underlying132
  have hk := Tryz.underlying9
  obtain ⟨r, hR⟩ : ∃ r, r = resM s := ⟨_, rfl⟩
  rw [← hR]
  unfold resM at hR
  obtain ⟨v, hv⟩ : ∃ v, v = (look headsM s).getD (.int .i64 0) := ⟨_, rfl⟩
  cases hl : (look headsM s).isSome with
  | true =>
    rw [hl] at hR
    obtain rfl : r = true := by rw [hR]; rfl
    clear hR
    go_enter Tryz.func44, Tryz.ntmps44
    go_wp2_with fail
    refine (heads_any _).mono ?_
    rintro e w1 ⟨b, rfl, hb, hm, B⟩
    have hz : (zeroValue 3).run Tryz.prog w1 = .ok (.int .i64 0) w1 := by go_simp
    go_wp2_with (first | (refine law_lookup keyText' rfl _ _ true rfl hu hk hz hm s rfl rfl ?_; rw [hl, ← hv]))
    go_ret
    exact ⟨rfl, B⟩
  | false =>
    rw [hl] at hR
    cases hi : (s.toList == [105, 110, 116]) with
    | true =>
      rw [hi] at hR
      obtain rfl : r = true := by rw [hR]; rfl
      clear hR
      go_enter Tryz.func44, Tryz.ntmps44
      go_wp2_with fail
      refine (heads_any _).mono ?_
      rintro e w1 ⟨b, rfl, hb, hm, B⟩
      have hz : (zeroValue 3).run Tryz.prog w1 = .ok (.int .i64 0) w1 := by go_simp
      go_wp2_with (first | (refine law_lookup keyText' rfl _ _ true rfl hu hk hz hm s rfl rfl ?_; rw [hl, ← hv]))
      go_ret
      exact ⟨rfl, B⟩
    | false =>
      rw [hi] at hR
      obtain ⟨x, hx⟩ : ∃ x, x = (s.toList == [98, 111, 111, 108]) := ⟨_, rfl⟩
      rw [← hx] at hR
      obtain rfl : r = x := by rw [hR]; simp
      clear hR
      go_enter Tryz.func44, Tryz.ntmps44
      go_wp2_with fail
      refine (heads_any _).mono ?_
      rintro e w1 ⟨b, rfl, hb, hm, B⟩
      have hz : (zeroValue 3).run Tryz.prog w1 = .ok (.int .i64 0) w1 := by go_simp
      go_wp2_with (first | (refine law_lookup keyText' rfl _ _ true rfl hu hk hz hm s rfl rfl ?_; rw [hl, ← hv]))
      go_ret
      exact ⟨by simp [hi, hx], B⟩

end Go.Proofs.YtcjmplpfebpfpaaGreatDoor
namespace Go.Proofs.YtcjmplpfebpfpaaGreatDoor
open Go.RowKit Go.Proofs

instance : LawfulBEq ByteArray where
  eq_of_beq h := (MapKept.bytes_beq _ _).1 h
  rfl := (MapKept.bytes_beq _ _).2 rfl

theorem bytes_inj {a b : ByteArray} (h : a.toList = b.toList) : a = b := by
  rw [ByteArray.toList_eq, ByteArray.toList_eq] at h
  cases a with
  | mk a =>
    cases b with
    | mk b =>
      have : a = b := Array.toList_inj.1 h
      rw [this]

end Go.Proofs.YtcjmplpfebpfpaaGreatDoor
namespace Go.Proofs.YtcjmplpfebpfpaaGreatDoor
open Go.RowKit Go.Proofs Go.Proofs.YtcjmplpfebpfpaaGreatDoorW.PrintWords Go.Proofs.YtcjmplpfebpfpaaGreatDoorW.PrintLast Go.Proofs.YtcjmplpfebpfpaaGreatDoorW.PrintMore PKindNames
set_option linter.unusedVariables false
set_option linter.unusedSimpArgs false

mutual
/-- The words of a form that are names, in their order. -/
def nm : S24 → List ByteArray
  | ⟨a, _, s, l⟩ => (if a = 1 ∧ resM s = false then [s] else []) ++ (if a = 3 then nms l else [])
def nms : List S24 → List ByteArray
  | [] => []
  | x :: l => nm x ++ nms l
end
mutual
/-- How many parts a form has. -/
def siz : S24 → Nat
  | ⟨_, _, s, l⟩ => 1 + s.size + sizs l
def sizs : List S24 → Nat
  | [] => 0
  | x :: l => siz x + sizs l
end
theorem sizs_len : ∀ l : List S24, l.length ≤ sizs l
  | [] => by simp [sizs]
  | x :: l => by have := sizs_len l; cases x; simp only [sizs, siz, List.length_cons]; omega

def keyD (s : ByteArray) : Lit := .string s.data.toList
def colD {H : Type} (D : DataW H) (l : List ByteArray) : DataW H := l.foldl (fun D s => D.put (keyD s) (.lit (.bool true))) D

/-- What holds of the loop. -/
def ColRel {H : Type} (W0 : World) (b n : Nat) (D : DataW H) (l : List S24) (k : Nat) (x24 : Value) (wr : World) : Prop :=
  ∃ i, x24 = .int .i64 ((i : Nat) : Int) ∧ k + i = l.length ∧ wr.ownsMap Tryz.prog 9 (plainElem Tryz.prog 4) b (n + (nms (l.take i)).length) (colD D (nms (l.take i))) ∧ Below W0.heap.size W0 wr

/-- The cells of a form in a row. -/
theorem row_at {w : World} {A : Option Addr} {n : Nat} {l : List S24} (h : Kd.C k24 w A n l) {i : Nat} (hi : i < n) {x : S24} (hx : l[i]? = some x) :
    ∃ ad A3 c3, A = some ad ∧ w.cell? (ad.add (i * 4)) = some (.int .i64 x.f0) ∧ w.cell? ⟨(ad.add (i * 4)).block, (ad.add (i * 4)).off + 1, none⟩ = some (.int .i64 x.f1) ∧
      w.cell? ⟨(ad.add (i * 4)).block, (ad.add (i * 4)).off + 2, none⟩ = some (.string x.f2) ∧ w.cell? ⟨(ad.add (i * 4)).block, (ad.add (i * 4)).off + 3, none⟩ = some (.slice A3 x.f3.length c3) ∧
      x.f3.length ≤ c3 ∧ k24.C w A3 x.f3.length x.f3 := by
  obtain ⟨ad, A3, c3, e, g0, g1, g2, g3, g4, g5⟩ := at_T24 h (i : Int) (by omega) (by omega)
  rw [rd_at hx] at g0 g1 g2 g3 g4 g5
  rw [Int.toNat_natCast] at g0 g1 g2 g3
  exact ⟨ad, A3, c3, e, g0, g1, g2, g3, g4, g5⟩

theorem cell_grown {w w1 : World} {row : Option Nat} (h : w.grownBy w1 row) {p : Addr} {v : Value} (hc : w.cell? p = some v) (hne : some p.block ≠ row) : w1.cell? p = some v :=
  (World.cell?_of_block (h.block p.block (World.block_lt_of_cell? w p hc) hne)).trans hc
theorem size_new (w : World) (o : Obj) : (w.alloc o).heap.size = w.heap.size + 1 := Array.size_push ..
set_option maxRecDepth 100000 in
/-- What a form's own block holds later. -/
theorem box_at {w w1 : World} {a bb : Int} {s : ByteArray} {A : Option Addr} {m c : Nat} (h : Below (w.alloc (Obj.cells #[.int .i64 a, .int .i64 bb, .string s, .slice A m c] 24)).heap.size (w.alloc (Obj.cells #[.int .i64 a, .int .i64 bb, .string s, .slice A m c] 24)) w1) :
    w1.cell? ⟨w.heap.size, 0, none⟩ = some (.int .i64 a) ∧ w1.cell? ⟨w.heap.size, 1, none⟩ = some (.int .i64 bb) ∧ w1.cell? ⟨w.heap.size, 2, none⟩ = some (.string s) ∧ w1.cell? ⟨w.heap.size, 3, none⟩ = some (.slice A m c) := by
  refine ⟨pw_cell_below h ?_, pw_cell_below h ?_, pw_cell_below h ?_, pw_cell_below h ?_⟩ <;> go_simp

theorem nms_snoc (l : List S24) {i : Nat} {x : S24} (hx : l[i]? = some x) : nms (l.take (i + 1)) = nms (l.take i) ++ nm x := by
  have key : ∀ (p : List S24), nms (p ++ [x]) = nms p ++ nm x := by
    intro p
    induction p with
    | nil => simp [nms]
    | cons y p ih => simp [nms, ih]
  rw [List.take_add_one, hx]
  exact key _
theorem colD_append {H : Type} (D : DataW H) (p q : List ByteArray) : colD D (p ++ q) = colD (colD D p) q := List.foldl_append ..

/-- What the call does on one form. -/
def ColOk (H : Type) (x : S24) : Prop :=
  ∀ (W0 : World) (A : Option Addr) (c : Nat) (w : World) (b n : Nat) (D : DataW H), Kd.C k24 W0 A x.f3.length x.f3 → x.f3.length ≤ c → Below W0.heap.size W0 w → W0.heap.size ≤ b →
    w.ownsMap Tryz.prog 9 (plainElem Tryz.prog 4) b n D → n + siz x < 10000000 →
    Calls Tryz.prog 68 #[formV x.f0 x.f1 x.f2 A x.f3.length c, .map (some b)] w fun e w' => e = .returned (.tuple #[]) ∧ w'.ownsMap Tryz.prog 9 (plainElem Tryz.prog 4) b (n + (nm x).length) (colD D (nm x)) ∧ Below W0.heap.size W0 w'

set_option maxRecDepth 100000 in
set_option maxHeartbeats 2000000 in
theorem collect_list {H : Type} (W0 : World) (bb : Int) (s : ByteArray) (A : Option Addr) (l : List S24) (c : Nat) (w : World) (b n : Nat) (D : DataW H)
    (hr : Kd.C k24 W0 A l.length l) (hc : l.length ≤ c) (hw : Below W0.heap.size W0 w) (hb : W0.heap.size ≤ b) (hm : w.ownsMap Tryz.prog 9 (plainElem Tryz.prog 4) b n D) (hn : n + sizs l < 10000000)
    (hq : ∀ i x, l[i]? = some x → ColOk H x ∧ (nms (l.take i)).length + siz x ≤ sizs l) :
    Calls Tryz.prog 68 #[formV 3 bb s A l.length c, .map (some b)] w fun e w' => e = .returned (.tuple #[]) ∧ w'.ownsMap Tryz.prog 9 (plainElem Tryz.prog 4) b (n + (nms l).length) (colD D (nms l)) ∧ Below W0.heap.size W0 w' := by
  have hu24 := Tryz.underlying24
  have hll := sizs_len l
  have hbig : l.length < 10000000 := by omega
  have start : Hid (ColRel W0 b n D l l.length (.int .i64 ((0 : Nat) : Int)) (w.alloc (Obj.cells #[.int .i64 3, .int .i64 bb, .string s, .slice A l.length c] 24))) :=
    ⟨0, rfl, rfl, by simpa [nms, colD] using hm.alloc _, below_alloc hw _⟩
  have HQ : Hid _ := hq
  have HN : Hid _ := hn
  have HR : Hid _ := hr
  clear hm hq hw hn hr
  go_enter Tryz.func68, Tryz.ntmps68
  go_wp2_with fail
  go_loopg [24] l.length (fun k x24 wr => ColRel W0 b n D l k x24 wr)
  case atStart => exact start.out
  case round =>
    clear start
    obtain ⟨i, rfl, hki, M, B⟩ := hrel
    by_cases hlt : i < l.length
    · obtain ⟨m, rfl⟩ : ∃ m, gk = m + 1 := ⟨gk - 1, by omega⟩
      have e1 : decide (i < l.length) = true := decide_eq_true hlt
      obtain ⟨x, hx⟩ : ∃ x, l[i]? = some x := ⟨l[i], by simp [hlt]⟩
      obtain ⟨ad, A3, c3, rfl, g0, g1, g2, g3, g4, g5⟩ := row_at HR.out hlt hx
      replace g0 := pw_cell_below B g0
      replace g1 := pw_cell_below B g1
      replace g2 := pw_cell_below B g2
      replace g3 := pw_cell_below B g3
      obtain ⟨hok, hsz⟩ := HQ.out i x hx
      have es : Hid _ := nms_snoc l hx
      have MH : Hid _ := M
      have BH : Hid _ := B
      have G5 : Hid _ := g5
      have OK : Hid _ := hok
      have SZ : Hid _ := hsz
      clear M B g5 hok hsz hx
      obtain ⟨x0, x1, x2, x3⟩ := x
      go_wp2_with fail
      refine (OK.out W0 A3 c3 _ b _ _ G5.out g4 (below_alloc BH.out _) hb (World.ownsMap.alloc MH.out _) (by have := SZ.out; have := HN.out; omega)).mono ?_
      rintro e w' ⟨rfl, M2, B2⟩
      rw [← colD_append, ← es.out] at M2
      have M3 : w'.ownsMap Tryz.prog 9 (plainElem Tryz.prog 4) b (n + (nms (l.take (i + 1))).length) (colD D (nms (l.take (i + 1)))) := by
        rw [es.out, List.length_append, ← Nat.add_assoc, ← es.out]; exact M2
      have MH3 : Hid _ := M3
      have BH3 : Hid _ := B2
      clear M2 M3 B2
      go_wp2_with fail
      go_roundg m
      case measure => omega
      case rel => exact ⟨i + 1, by go_num, by omega, MH3.out, BH3.out⟩
    · have e1 : decide (i < l.length) = false := decide_eq_false hlt
      have hge2 : l.length ≤ i := by omega
      have e2 : l.take i = l := List.take_of_length_le (by omega)
      rw [e2] at M
      have MH : Hid _ := M
      have BH : Hid _ := B
      clear M B e2
      go_wp2_with fail
      go_end0
      exact ⟨rfl, MH.out, BH.out⟩


set_option maxRecDepth 100000 in
set_option maxHeartbeats 2000000 in
/-- A form that is no list. -/
theorem collect_leaf {H : Type} (W0 : World) (a : Int) (ha : a ≠ 3) (bb : Int) (s : ByteArray) (A : Option Addr) (m c : Nat) (w : World) (b n : Nat) (D : DataW H)
    (hw : Below W0.heap.size W0 w) (hb : W0.heap.size ≤ b) (hm : w.ownsMap Tryz.prog 9 (plainElem Tryz.prog 4) b n D) (hn : n + s.size < 10000000) :
    Calls Tryz.prog 68 #[formV a bb s A m c, .map (some b)] w fun e w' => e = .returned (.tuple #[]) ∧
      w'.ownsMap Tryz.prog 9 (plainElem Tryz.prog 4) b (n + (if a = 1 ∧ resM s = false then [s] else []).length) (colD D (if a = 1 ∧ resM s = false then [s] else [])) ∧ Below W0.heap.size W0 w' := by
  have hu24 := Tryz.underlying24
  have h3 : (a == 3) = false := beq_eq_false_iff_ne.mpr ha
  have hsz := hw.size
  by_cases h1 : a = 1
  · subst h1
    cases hr : resM s with
    | true =>
      rw [if_neg (by simp)]
      have M0 : Hid _ := hm
      have B0 : Hid _ := hw
      clear hm hw
      go_enter Tryz.func68, Tryz.ntmps68
      go_wp2_with fail
      refine (reserved_any _ _).mono ?_
      rintro e w1 ⟨rfl, B1⟩
      rw [hr]
      have hbw : b < w.heap.size := World.ownsMap.lt M0.out
      obtain ⟨q0, q1, q2, q3⟩ := box_at B1
      have B2 : Below W0.heap.size W0 w1 := (below_alloc B0.out _).trans (B1.mono (by rw [size_new]; omega))
      have M2 := (World.ownsMap.alloc M0.out (Obj.cells #[.int .i64 1, .int .i64 bb, .string s, .slice A m c] 24)).kept (grown_of_below B1 none) (by simp)
      go_wp2_with fail
      go_end0
      exact ⟨rfl, M2, B2⟩
    | false =>
      rw [if_pos ⟨rfl, rfl⟩]
      have M0 : Hid _ := hm
      have B0 : Hid _ := hw
      clear hm hw
      go_enter Tryz.func68, Tryz.ntmps68
      go_wp2_with fail
      refine (reserved_any _ _).mono ?_
      rintro e w1 ⟨rfl, B1⟩
      rw [hr]
      have hbw : b < w.heap.size := World.ownsMap.lt M0.out
      obtain ⟨q0, q1, q2, q3⟩ := box_at B1
      have B2 : Below W0.heap.size W0 w1 := (below_alloc B0.out _).trans (B1.mono (by rw [size_new]; omega))
      have M2 := (World.ownsMap.alloc M0.out (Obj.cells #[.int .i64 1, .int .i64 bb, .string s, .slice A m c] 24)).kept (grown_of_below B1 none) (by simp)
      go_wp2_with (first | (at_mapUpdate; refine wpList_mapUpdate_own _ rfl _ _ _ 100 rfl 9 4 (Maps.string_keyed Tryz.underlying9) Tryz.underlying100 _ b n D rfl M2 (by simp [maxLen]; omega) _ _ (keyD s) rfl rfl (WideMaps.keyOf_string_mk Tryz.underlying9 (by simp [maxLen]; omega)) (.lit (.bool true)) [] (plainElem_bool Tryz.underlying4 true) ?_; intro w3 M3 hg3; have p0 := cell_grown hg3 q0 (by simp; omega)))
      have B3 : Below W0.heap.size W0 w3 := pw_below_grown B2 (some b) B2.size hg3 (fun k hk => by cases hk; exact hb)
      go_end0
      exact ⟨rfl, M3, B3⟩
  · have h1' : (a == 1) = false := beq_eq_false_iff_ne.mpr h1
    rw [if_neg (by simp [h1])]
    have M0 : Hid _ := hm
    have B0 : Hid _ := hw
    clear hm hw
    go_enter Tryz.func68, Tryz.ntmps68
    go_wp2_with fail
    go_end0
    exact ⟨rfl, World.ownsMap.alloc M0.out _, below_alloc B0.out _⟩

mutual
theorem nm_len : ∀ x : S24, (nm x).length ≤ siz x
  | ⟨a, _, s, l⟩ => by
    have := nms_len l
    simp only [nm, siz, List.length_append]
    split <;> split <;> simp <;> omega
theorem nms_len : ∀ l : List S24, (nms l).length ≤ sizs l
  | [] => by simp [nms, sizs]
  | x :: l => by
    have := nms_len l
    have := nm_len x
    simp only [nms, sizs, List.length_append]
    omega
end
theorem sizs_at : ∀ (l : List S24) {i : Nat} {x : S24}, l[i]? = some x → (nms (l.take i)).length + siz x ≤ sizs l
  | [], i, x, h => by simp at h
  | y :: l, 0, x, h => by
    simp at h; subst h; simp [nms, sizs]
  | y :: l, i + 1, x, h => by
    have := sizs_at l (i := i) (x := x) (by simpa using h)
    have := nm_len y
    simp only [List.take_succ_cons, nms, sizs, List.length_append]
    omega

mutual
/-- The call on every form. -/
theorem col_ok (H : Type) : ∀ x : S24, ColOk H x
  | ⟨a, bb, s, l⟩ => by
    have hl := col_oks H l
    intro W0 A c w b n D hr hc hw hb hm hn
    by_cases ha : a = 3
    · subst ha
      have e1 : nm ⟨3, bb, s, l⟩ = nms l := by simp [nm]
      rw [e1]
      simp only [siz] at hn
      exact collect_list W0 bb s A l c w b n D hr hc hw hb hm (by omega) (fun i x hx => ⟨hl x (List.mem_of_getElem? hx), sizs_at l hx⟩)
    · have e1 : nm ⟨a, bb, s, l⟩ = (if a = 1 ∧ resM s = false then [s] else []) := by simp [nm, ha]
      rw [e1]
      simp only [siz] at hn
      exact collect_leaf W0 a ha bb s A l.length c w b n D hw hb hm (by omega)
theorem col_oks (H : Type) : ∀ (l : List S24), ∀ x ∈ l, ColOk H x
  | [], x, h => absurd h (List.not_mem_nil)
  | y :: l, x, h => by
    rcases List.mem_cons.1 h with h | h
    · rw [h]; exact col_ok H y
    · exact col_oks H l x h
end

end Go.Proofs.YtcjmplpfebpfpaaGreatDoor
namespace Go.Proofs
open Go.RowKit Go.Maps Go.Sort Go.Shelf

/-- slices.Sort's two contracts at this dump, at the fence that asks nothing. -/
theorem Tryz.sorts64 (m : Nat) : AnyZ.SortsIn Tryz.prog Tryz.sorted64_ren Fence.wide m :=
  ⟨fun blk off cap ss W hH hblk hsz => callsIn_wide.2 (AnyM.slices_Sort_string Tryz.sort108 blk off cap ss W hH hblk hsz),
   fun p cap W => callsIn_wide.2 (AnyM.slices_Sort_string_none Tryz.sort108 p cap W)⟩

/-- **maps.Keys[map[string]bool,string,bool], at whatever map, the nil one too:** a function value over ONE NEW BLOCK, which holds the map. -/
theorem Tryz.maps_Keys_69 (mb : Option Nat) (W : World) : CallsIn Fence.wide 5 Tryz.prog 69 #[.map mb] W fun e w' => e = .returned (.func (.func 110) #[] #[.pointer (some ⟨W.heap.size, 0, none⟩)]) ∧ w' = W.alloc (.cells #[.map mb] 100) :=
  AnyZ.keys_in Tryz.keys69 Fence.wide 5 trivial rfl mb W

set_option maxHeartbeats 1000000 in
/-- **slices.Sorted[string] AT WHAT maps.Keys[map[string]bool,string,bool] HANDED BACK FOR A MAP THAT IS NOT nil** ('w': the world AHEAD of maps.Keys' call): A NEW SLICE THAT HOLDS THE MAP's KEYS, SORTED; nil just where it has none; nothing that lay before has turned. -/
theorem Tryz.slices_Sorted_keys_64_69 {H : Type} (b nn : Nat) (D0 : DataW H) (R : Value → Option (DataW H × List MemPlace)) (w : World) (hown : w.ownsMap Tryz.prog 9 R b nn D0) (hmax : Maps.size D0 ≤ maxLen) (hbytes : Maps.size D0 * 16 ≤ 140737488355328) :
    CallsIn Fence.wide 5 Tryz.prog 64 #[.func (.func 110) #[] #[.pointer (some ⟨w.heap.size, 0, none⟩)]] (w.alloc (.cells #[.map (some b)] 100)) fun e w' => ∃ (v : Value) (ss : List (List UInt8)), e = .returned v ∧ ss.Perm (strKeys D0) ∧
      w'.ownsRow (w.alloc (.cells #[.map (some b)] 100)).heap.size 9 1 v ss.length ((ss.mergeSort (fun x y => decide (x ≤ y))).map encStr) ∧ (v = .slice none 0 0 ↔ ss = []) ∧ Below (w.alloc (.cells #[.map (some b)] 100)).heap.size (w.alloc (.cells #[.map (some b)] 100)) w' := by
  have hbl := hown.lt
  have hseq : SeqGives Fence.wide 2 Tryz.prog 110 #[.pointer (some ⟨w.heap.size, 0, none⟩)] encStr (fun ss => ss.Perm (strKeys D0)) (Maps.size D0) (w.alloc (.cells #[.map (some b)] 100)) :=
    AnyZ.keys_gives (ρ := Tryz.keys69_ren) { Tryz.keys69 with } Fence.wide _ trivial rfl (by omega) w.heap.size b nn D0 _ (by simp) (by simp) (by
      obtain ⟨es, clock, hb, Ft, hs, hD⟩ := hown
      exact ⟨es, clock, (Below.heap_alloc _ _ b hbl).trans hb, Ft, hs, hD⟩)
  exact AnyZ.sorted_in Tryz.sorted64 Fence.wide 5 trivial trivial trivial trivial rfl (by omega) (Tryz.sorts64 _) (enters_of Tryz.func108 (by kernel_rfl) rfl) 110 #[.pointer (some ⟨w.heap.size, 0, none⟩)] trivial (enters_of Tryz.func110 (by kernel_rfl) rfl) _ _ hmax hbytes _ hseq

/-- **maps.Keys[map[string]plinth/api.Form,string,plinth/api.Form], at whatever map, the nil one too:** a function value over ONE NEW BLOCK, which holds the map. -/
theorem Tryz.maps_Keys_65 (mb : Option Nat) (W : World) : CallsIn Fence.wide 5 Tryz.prog 65 #[.map mb] W fun e w' => e = .returned (.func (.func 109) #[] #[.pointer (some ⟨W.heap.size, 0, none⟩)]) ∧ w' = W.alloc (.cells #[.map mb] 72) :=
  AnyZ.keys_in Tryz.keys65 Fence.wide 5 trivial rfl mb W

set_option maxHeartbeats 1000000 in
/-- **slices.Sorted[string] AT WHAT maps.Keys[map[string]plinth/api.Form,string,plinth/api.Form] HANDED BACK FOR A MAP THAT IS NOT nil** ('w': the world AHEAD of maps.Keys' call): A NEW SLICE THAT HOLDS THE MAP's KEYS, SORTED; nil just where it has none; nothing that lay before has turned. -/
theorem Tryz.slices_Sorted_keys_64_65 {H : Type} (b nn : Nat) (D0 : DataW H) (R : Value → Option (DataW H × List MemPlace)) (w : World) (hown : w.ownsMap Tryz.prog 9 R b nn D0) (hmax : Maps.size D0 ≤ maxLen) (hbytes : Maps.size D0 * 16 ≤ 140737488355328) :
    CallsIn Fence.wide 5 Tryz.prog 64 #[.func (.func 109) #[] #[.pointer (some ⟨w.heap.size, 0, none⟩)]] (w.alloc (.cells #[.map (some b)] 72)) fun e w' => ∃ (v : Value) (ss : List (List UInt8)), e = .returned v ∧ ss.Perm (strKeys D0) ∧
      w'.ownsRow (w.alloc (.cells #[.map (some b)] 72)).heap.size 9 1 v ss.length ((ss.mergeSort (fun x y => decide (x ≤ y))).map encStr) ∧ (v = .slice none 0 0 ↔ ss = []) ∧ Below (w.alloc (.cells #[.map (some b)] 72)).heap.size (w.alloc (.cells #[.map (some b)] 72)) w' := by
  have hbl := hown.lt
  have hseq : SeqGives Fence.wide 2 Tryz.prog 109 #[.pointer (some ⟨w.heap.size, 0, none⟩)] encStr (fun ss => ss.Perm (strKeys D0)) (Maps.size D0) (w.alloc (.cells #[.map (some b)] 72)) :=
    AnyZ.keys_gives (ρ := Tryz.keys65_ren) { Tryz.keys65 with } Fence.wide _ trivial rfl (by omega) w.heap.size b nn D0 _ (by simp) (by simp) (by
      obtain ⟨es, clock, hb, Ft, hs, hD⟩ := hown
      exact ⟨es, clock, (Below.heap_alloc _ _ b hbl).trans hb, Ft, hs, hD⟩)
  exact AnyZ.sorted_in Tryz.sorted64 Fence.wide 5 trivial trivial trivial trivial rfl (by omega) (Tryz.sorts64 _) (enters_of Tryz.func108 (by kernel_rfl) rfl) 109 #[.pointer (some ⟨w.heap.size, 0, none⟩)] trivial (enters_of Tryz.func109 (by kernel_rfl) rfl) _ _ hmax hbytes _ hseq

end Go.Proofs
namespace Go.Proofs.YtcjmplpfebpfpaaGreatDoor
open Go.RowKit Go.Proofs Go.Proofs.YtcjmplpfebpfpaaGreatDoorW.PrintWords Go.Proofs.YtcjmplpfebpfpaaGreatDoorW.PrintLast Go.Proofs.YtcjmplpfebpfpaaGreatDoorW.PrintMore PKindNames
set_option linter.unusedVariables false
set_option linter.unusedSimpArgs false

def backB (l : List UInt8) : ByteArray := ⟨l.toArray⟩
/-- What the call answers. -/
def namesB (x : S24) : List ByteArray := ((strKeys (colD (H := Unit) (.map []) (nm x))).mergeSort leB).map backB

theorem enc_back (l : List (List UInt8)) : l.map encStr = encs Value.string (l.map backB) := by
  simp [encs, backB, List.map_map, Function.comp_def, encStr]

/-- A row of texts, as it lies. -/
def TextsAt (w : World) (v : Value) (l : List ByteArray) : Prop := ∃ A c, v = .slice A l.length c ∧ l.length ≤ c ∧ Kd.C Kd.string w A l.length l

set_option maxRecDepth 100000 in
set_option maxHeartbeats 2000000 in
theorem Names_any (x : S24) (A : Option Addr) (c : Nat) (w : World) (hr : Kd.C k24 w A x.f3.length x.f3) (hc : x.f3.length ≤ c) (hn : siz x < 9000000) :
    Calls Tryz.prog 29 #[formV x.f0 x.f1 x.f2 A x.f3.length c] w fun e w' => ∃ v, e = .returned v ∧ TextsAt w' v (namesB x) ∧ Below w.heap.size w w' := by
  have hu24 := Tryz.underlying24
  have hcol := col_ok Unit x
  have hlen := nm_len x
  obtain ⟨a, bb, s, l⟩ := x
  have HR : Hid _ := hr
  have HC : Hid _ := hcol
  have HN : Hid _ := hn
  have HL : Hid _ := hlen
  obtain ⟨T, hT⟩ : ∃ T, T = namesB ⟨a, bb, s, l⟩ := ⟨_, rfl⟩
  rw [← hT]
  have TT : Hid _ := hT
  clear hr hcol hn hT hlen
  go_enter Tryz.func29, Tryz.ntmps29
  go_wp2_with fail
  simp only [run_makeMap]
  go_wp2_with fail
  have m0 : ((w.alloc (Obj.cells #[.int .i64 a, .int .i64 bb, .string s, .slice A l.length c] 24)).alloc (Obj.map #[] 0)).ownsMap Tryz.prog 9 (plainElem (H := Unit) Tryz.prog 4) (w.heap.size + 1) 0 (.map []) := by
    have h := World.ownsMap_made (H := Unit) (w.alloc (Obj.cells #[.int .i64 a, .int .i64 bb, .string s, .slice A l.length c] 24)) Tryz.prog 9 (plainElem (H := Unit) Tryz.prog 4)
    rw [size_new] at h
    exact h
  have B0 : Below w.heap.size w ((w.alloc (Obj.cells #[.int .i64 a, .int .i64 bb, .string s, .slice A l.length c] 24)).alloc (Obj.map #[] 0)) := by (repeat (first | assumption | exact Below.refl _ _ | apply below_alloc | apply pw_below_drewN | apply below_drew1))
  refine (HC.out w A c _ _ 0 (.map []) HR.out hc B0 (by omega) m0 (by have := HN.out; omega)).mono ?_
  rintro e w1 ⟨rfl, M1, B1⟩
  have S1 := World.ownsMap.size_le M1
  have SL := Nat.le_trans S1 (by have := HL.out; have := HN.out; omega : 0 + (nm ⟨a, bb, s, l⟩).length ≤ 9000000)
  have MH : Hid _ := M1
  have BH : Hid _ := B1
  clear M1 B1 S1 m0 B0 HC HN HL HR
  go_wp2_with fail
  refine (callsIn_wide.1 (Tryz.maps_Keys_69 _ _)).mono ?_
  rintro e w' ⟨rfl, rfl⟩
  go_wp2_with fail
  refine (callsIn_wide.1 (Tryz.slices_Sorted_keys_64_69 _ _ _ _ w1 MH.out (by simp [maxLen]; omega) (by omega))).mono ?_
  rintro e w2 ⟨v, ss, rfl, hperm, hrow, hnil, B2⟩
  have B3 : Below w.heap.size w w2 := (below_alloc BH.out _).trans (B2.mono (below_size (below_alloc BH.out _)))
  have hT : T = (ss.mergeSort leB).map backB := by
    rw [TT.out, namesB, mergeSort_of_perm hperm]
  have hTl : T.length = ss.length := by rw [hT]; simp
  have key : TextsAt w2 v T := by
    have h1 : ((ss.mergeSort (fun x y => decide (x ≤ y))).map encStr) = encs Value.string T := by
      rw [hT]; exact enc_back _
    rw [h1, ← hTl] at hrow
    obtain ⟨A2, c2, hv, h2, h3⟩ := Kd.R_reads (Kd.R_of_own (h1 := fun _ => rfl) (ok := fun _ => True) hrow (fun _ _ => trivial))
    exact ⟨A2, c2, hv, h2, h3⟩
  clear hperm hrow hnil B2 hT hTl
  go_wp2_with fail
  go_ret
  exact ⟨_, rfl, key, B3⟩

end Go.Proofs.YtcjmplpfebpfpaaGreatDoor
namespace Go.Proofs.YtcjmplpfebpfpaaGreatDoor
open Go.RowKit Go.Proofs Go.Proofs.YtcjmplpfebpfpaaGreatDoorW.PrintWords Go.Proofs.YtcjmplpfebpfpaaGreatDoorW.PrintLast Go.Proofs.YtcjmplpfebpfpaaGreatDoorW.PrintMore PKindNames
set_option linter.unusedVariables false
set_option linter.unusedSimpArgs false

mutual
/-- How wide a form is: its texts, its rows. -/
def wid : S24 → Nat
  | ⟨_, _, s, l⟩ => max (s.size + 1) (wids l)
def wids : List S24 → Nat
  | [] => 0
  | x :: l => max (l.length + 1) (max (wid x) (wids l))
end
theorem wids_len : ∀ l : List S24, l.length ≤ wids l
  | [] => by simp [wids]
  | x :: l => by simp only [wids, List.length_cons]; omega
theorem wid_kids (x : S24) : wids x.f3 ≤ wid x := by
  obtain ⟨a, b, s, l⟩ := x
  simp only [wid]
  omega

def turnM (v : Int) : Int := if v = 2 then 2 else wrap64 (-v)
def bothM (a b : Int) : Int := if a = 0 then b else if b = 0 then a else if a = b then a else 2
def isFunW (s : ByteArray) : Bool := s.toList == [102, 117, 110]

mutual
/-- The variance of a name in a form. -/
def varM : S24 → ByteArray → Bool → Int
  | ⟨a, _, s, l⟩, name, bare =>
    if a = 1 then (if s.toList = name.toList then 1 else 0) else
    if a = 3 then varL l name (!bare && isFunW (headL l)) (!bare && (match l with | [] => false | k :: _ => k.f0 == 1)) true 0 else 0
def varL : List S24 → ByteArray → Bool → Bool → Bool → Int → Int
  | [], _, _, _, _, out => out
  | k :: l, name, fn, skip, first, out =>
    if skip then varL l name fn false first out else
    varL l name fn false false (bothM out (if fn && first && (k.f0 == 3) then turnM (varM k name (fn && first && (k.f0 == 3))) else varM k name (fn && first && (k.f0 == 3))))
end

theorem turn_any (v : Int) (w : World) : Calls Tryz.prog 112 #[.int .i64 v] w fun e w' => e = .returned (.int .i64 (turnM v)) ∧ w = w' := by
  by_cases h : v = 2
  · subst h
    go_enter Tryz.func112, Tryz.ntmps112
    go_wp2
    go_ret
    exact ⟨rfl, rfl⟩
  · have h1 : (v == 2) = false := beq_eq_false_iff_ne.mpr h
    have e1 : turnM v = wrap64 (-v) := by simp [turnM, h]
    rw [e1]
    go_enter Tryz.func112, Tryz.ntmps112
    go_wp2
    go_ret
    exact ⟨rfl, rfl⟩

theorem both_any (a b : Int) (w : World) : Calls Tryz.prog 113 #[.int .i64 a, .int .i64 b] w fun e w' => e = .returned (.int .i64 (bothM a b)) ∧ w = w' := by
  by_cases ha : a = 0
  · have e1 : bothM a b = b := by simp [bothM, ha]
    rw [e1]
    subst ha
    go_enter Tryz.func113, Tryz.ntmps113
    go_wp2
    go_ret
    exact ⟨rfl, rfl⟩
  · have a1 : (a == 0) = false := beq_eq_false_iff_ne.mpr ha
    by_cases hb : b = 0
    · have e1 : bothM a b = a := by simp [bothM, ha, hb]
      rw [e1]
      subst hb
      go_enter Tryz.func113, Tryz.ntmps113
      go_wp2
      go_ret
      exact ⟨rfl, rfl⟩
    · have b1 : (b == 0) = false := beq_eq_false_iff_ne.mpr hb
      by_cases hab : a = b
      · subst hab
        have e1 : bothM a a = a := by simp [bothM, ha]
        rw [e1]
        go_enter Tryz.func113, Tryz.ntmps113
        go_wp2
        go_ret
        exact ⟨rfl, rfl⟩
      · have ab : (a == b) = false := beq_eq_false_iff_ne.mpr hab
        have e1 : bothM a b = 2 := by simp [bothM, ha, hb, hab]
        rw [e1]
        go_enter Tryz.func113, Tryz.ntmps113
        go_wp2
        go_ret
        exact ⟨rfl, rfl⟩

/-- What the call does on one form. -/
def VarOk (x : S24) : Prop :=
  ∀ (name : ByteArray) (bare : Bool) (A : Option Addr) (c : Nat) (w : World), Kd.C k24 w A x.f3.length x.f3 → x.f3.length ≤ c → wid x < 9000000 →
    Calls Tryz.prog 70 #[formV x.f0 x.f1 x.f2 A x.f3.length c, .string name, .bool bare] w fun e w' => e = .returned (.int .i64 (varM x name bare)) ∧ Below w.heap.size w w'

/-- What holds of the loop. -/
def VarRel (W1 : World) (name : ByteArray) (fn : Bool) (ys : List S24) (T : Int) (k : Nat) (x8 x31 : Value) (wr : World) : Prop :=
  ∃ (i : Nat) (out : Int), x31 = .int .i64 (i : Int) ∧ x8 = .int .i64 out ∧ k + i = ys.length ∧ Below W1.heap.size W1 wr ∧ varL (ys.drop i) name fn false (decide (i = 0)) out = T

set_option maxRecDepth 100000 in
set_option maxHeartbeats 4000000 in
theorem variance_word (bb : Int) (s : ByteArray) (A : Option Addr) (m c : Nat) (name : ByteArray) (bare : Bool) (w : World) :
    Calls Tryz.prog 70 #[formV 1 bb s A m c, .string name, .bool bare] w fun e w' => e = .returned (.int .i64 (if s.toList = name.toList then 1 else 0)) ∧ Below w.heap.size w w' := by
  have hu24 := Tryz.underlying24
  by_cases h : s.toList = name.toList
  · have h1 : (s.toList == name.toList) = true := beq_iff_eq.mpr h
    rw [if_pos h]
    clear h
    go_enter Tryz.func70, Tryz.ntmps70
    go_wp2
    go_ret
    exact ⟨rfl, by (repeat (first | assumption | exact Below.refl _ _ | apply below_alloc | apply pw_below_drewN | apply below_drew1))⟩
  · have h1 : (s.toList == name.toList) = false := beq_eq_false_iff_ne.mpr h
    rw [if_neg h]
    clear h
    go_enter Tryz.func70, Tryz.ntmps70
    go_wp2
    go_ret
    exact ⟨rfl, by (repeat (first | assumption | exact Below.refl _ _ | apply below_alloc | apply pw_below_drewN | apply below_drew1))⟩

theorem Head_any (a b : Int) (s : ByteArray) {A : Option Addr} {l : List S24} (c : Nat) (w : World) (hr : Kd.C k24 w A l.length l) :
    Calls Tryz.prog 79 #[formV a b s A l.length c] w fun e w' => e = .returned (.string (headOf a l)) ∧ Below w.heap.size w w' := by
  by_cases ha : a = 3
  · subst ha
    have e1 : headOf 3 l = headL l := by simp [headOf]
    rw [e1]
    exact Head_three b s c w hr
  · have e1 : headOf a l = ⟨#[]⟩ := by simp [headOf, ha]
    rw [e1]
    exact Head_other ha b s A l.length c w

set_option maxRecDepth 100000 in
set_option maxHeartbeats 4000000 in
/-- The loop over the types in a form. -/
theorem variance_list (a : Int) (ha : a ≠ 1) (bb : Int) (s : ByteArray) (A : Option Addr) (l : List S24) (c : Nat) (name : ByteArray) (bare : Bool) (fn : Bool) (w : World)
    (hfn : fn = (!bare && isFunW (headOf a l))) (hr : Kd.C k24 w A l.length l) (hc : l.length ≤ c) (hn : wids l < 9000000)
    (hq : ∀ x ∈ typesL a l bare, VarOk x ∧ wid x < 9000000) (hys : (typesL a l bare).length < 9000000) :
    Calls Tryz.prog 70 #[formV a bb s A l.length c, .string name, .bool bare] w fun e w' => e = .returned (.int .i64 (varL (typesL a l bare) name fn false true 0)) ∧ Below w.heap.size w w' := by
  have hu24 := Tryz.underlying24
  have h1 : (a == 1) = false := beq_eq_false_iff_ne.mpr ha
  have ht := fun w => types_any a bb s (A := A) (l := l) c bare w
  obtain ⟨ys, hy⟩ : ∃ ys, ys = typesL a l bare := ⟨_, rfl⟩
  rw [← hy] at hq hys ht ⊢
  obtain ⟨T, hT⟩ : ∃ T, T = varL ys name fn false true 0 := ⟨_, rfl⟩
  rw [← hT]
  have HR : Hid _ := hr
  have HQ : Hid _ := hq
  have HT : Hid _ := hT
  have TY : Hid _ := ht
  clear hr hq hT hy ht
  have start : Hid (∀ W1 : World, VarRel W1 name fn ys T ys.length (.int .i64 0) (.int .i64 ((0 : Nat) : Int)) W1) := fun W1 => ⟨0, 0, rfl, rfl, rfl, Below.refl _ _, HT.out.symm⟩
  cases bare with
  | true =>
    simp only [Bool.not_true, Bool.false_and] at hfn
    subst hfn
    go_enter Tryz.func70, Tryz.ntmps70
    go_wp2_with fail
    have B0 : Below w.heap.size w (w.alloc (Obj.cells #[.int .i64 a, .int .i64 bb, .string s, .slice A l.length c] 24)) := by (repeat (first | assumption | exact Below.refl _ _ | apply below_alloc | apply pw_below_drewN | apply below_drew1))
    refine (TY.out _ (Kd.C_below HR.out B0) hc).mono ?_
    rintro e w1 ⟨v, rfl, ⟨A', c', rfl, hr1, hc1⟩, B1⟩
    replace B1 := below_after B0 B1
    have R1 : Hid _ := hr1
    have BB : Hid _ := B1
    clear hr1 B1
    go_wp2_with fail
    go_loopg [8, 31] ys.length (fun k x8 x31 wr => VarRel w1 name false ys T k x8 x31 wr)
    case atStart => exact start.out w1
    case round =>
      clear start
      obtain ⟨i, out, rfl, rfl, hki, B, hV⟩ := hrel
      by_cases hlt : i < ys.length
      · obtain ⟨m, rfl⟩ : ∃ m, gk = m + 1 := ⟨gk - 1, by omega⟩
        have e1 : decide (i < ys.length) = true := decide_eq_true hlt
        obtain ⟨x, hx⟩ : ∃ x, ys[i]? = some x := ⟨ys[i], by simp [hlt]⟩
        obtain ⟨ad, A3, c3, rfl, g0, g1, g2, g3, g4, g5⟩ := row_at R1.out hlt hx
        replace g0 := pw_cell_below B g0
        replace g1 := pw_cell_below B g1
        replace g2 := pw_cell_below B g2
        replace g3 := pw_cell_below B g3
        obtain ⟨hok, hsz⟩ := HQ.out x (List.mem_of_getElem? hx)
        have hd : ys.drop i = x :: ys.drop (i + 1) := by
          rw [List.drop_eq_getElem_cons hlt]; congr 1; simpa [hlt] using hx
        rw [hd] at hV
        have BH : Hid _ := B
        have G5 : Hid _ := g5
        have OK : Hid _ := hok
        have SZ : Hid _ := hsz
        clear B g5 hok hsz hx hd
        obtain ⟨x0, x1, x2, x3⟩ := x
        have HV := hV; simp only [varL, Bool.false_and, Bool.false_eq_true, if_false, if_true, Bool.and_true, Bool.true_and, Bool.false_and, Bool.and_false, Nat.zero_add] at HV
        clear hV
        go_wp2_with fail
        refine (OK.out name false A3 c3 _ (Kd.C_below G5.out (below_alloc BH.out _)) g4 SZ.out).mono ?_
        rintro e w2 ⟨rfl, B2⟩
        obtain ⟨vv, hvv⟩ : ∃ vv, vv = varM ⟨x0, x1, x2, x3⟩ name false := ⟨_, rfl⟩
        rw [← hvv] at HV
        rw [← hvv]
        clear hvv
        have B3 : Below w1.heap.size w1 w2 := (below_alloc BH.out _).trans (B2.mono (below_size (below_alloc BH.out _)))
        obtain ⟨q0, q1, q2, q3⟩ := box_at B2
        have BH3 : Hid _ := B3
        clear B2 B3
        go_wp2_with fail
        refine (both_any _ _ _).mono ?_
        rintro e w3 ⟨rfl, rfl⟩
        go_wp2_with fail
        go_roundg m
        case measure => omega
        case rel => exact ⟨i + 1, _, by go_num, rfl, by omega, BH3.out, by simpa using HV⟩
      · have hnil : ys.drop i = [] := List.drop_eq_nil_of_le (by omega)
        have hge : decide (i < ys.length) = false := decide_eq_false (by omega)
        have hge2 : ys.length ≤ i := by omega
        rw [hnil] at hV
        have hT : out = T := by simpa [varL] using hV
        subst hT
        have B9 : Below w.heap.size w wr := below_after BB.out B
        clear hnil hV hlt
        go_wp2_with fail
        go_ret
        exact ⟨rfl, B9⟩
  | false =>
    simp only [Bool.not_false, Bool.true_and] at hfn
    have hf : ((headOf a l).toList == [102, 117, 110]) = fn := hfn.symm
    clear hfn
    cases fn with
    | false =>
      go_enter Tryz.func70, Tryz.ntmps70
      go_wp2_with fail
      have B0 : Below w.heap.size w (w.alloc (Obj.cells #[.int .i64 a, .int .i64 bb, .string s, .slice A l.length c] 24)) := by (repeat (first | assumption | exact Below.refl _ _ | apply below_alloc | apply pw_below_drewN | apply below_drew1))
      refine (Head_any a bb s c _ (Kd.C_below HR.out B0)).mono ?_
      rintro e w0 ⟨rfl, B00⟩
      obtain ⟨q0, q1, q2, q3⟩ := box_at B00
      have B01 := below_after B0 B00
      clear B0 B00
      go_wp2_with fail
      refine (TY.out _ (Kd.C_below HR.out B01) hc).mono ?_
      rintro e w1 ⟨v, rfl, ⟨A', c', rfl, hr1, hc1⟩, B1⟩
      replace B1 := below_after B01 B1
      clear q0 q1 q2 q3 B01
      have R1 : Hid _ := hr1
      have BB : Hid _ := B1
      clear hr1 B1
      go_wp2_with fail
      go_loopg [8, 31] ys.length (fun k x8 x31 wr => VarRel w1 name false ys T k x8 x31 wr)
      case atStart => exact start.out w1
      case round =>
        clear start
        obtain ⟨i, out, rfl, rfl, hki, B, hV⟩ := hrel
        by_cases hlt : i < ys.length
        · obtain ⟨m, rfl⟩ : ∃ m, gk = m + 1 := ⟨gk - 1, by omega⟩
          have e1 : decide (i < ys.length) = true := decide_eq_true hlt
          obtain ⟨x, hx⟩ : ∃ x, ys[i]? = some x := ⟨ys[i], by simp [hlt]⟩
          obtain ⟨ad, A3, c3, rfl, g0, g1, g2, g3, g4, g5⟩ := row_at R1.out hlt hx
          replace g0 := pw_cell_below B g0
          replace g1 := pw_cell_below B g1
          replace g2 := pw_cell_below B g2
          replace g3 := pw_cell_below B g3
          obtain ⟨hok, hsz⟩ := HQ.out x (List.mem_of_getElem? hx)
          have hd : ys.drop i = x :: ys.drop (i + 1) := by
            rw [List.drop_eq_getElem_cons hlt]; congr 1; simpa [hlt] using hx
          rw [hd] at hV
          have BH : Hid _ := B
          have G5 : Hid _ := g5
          have OK : Hid _ := hok
          have SZ : Hid _ := hsz
          clear B g5 hok hsz hx hd
          obtain ⟨x0, x1, x2, x3⟩ := x
          have HV := hV; simp only [varL, Bool.false_and, Bool.false_eq_true, if_false, if_true, Bool.and_true, Bool.true_and, Bool.false_and, Bool.and_false, Nat.zero_add] at HV
          clear hV
          go_wp2_with fail
          refine (OK.out name false A3 c3 _ (Kd.C_below G5.out (below_alloc BH.out _)) g4 SZ.out).mono ?_
          rintro e w2 ⟨rfl, B2⟩
          obtain ⟨vv, hvv⟩ : ∃ vv, vv = varM ⟨x0, x1, x2, x3⟩ name false := ⟨_, rfl⟩
          rw [← hvv] at HV
          rw [← hvv]
          clear hvv
          have B3 : Below w1.heap.size w1 w2 := (below_alloc BH.out _).trans (B2.mono (below_size (below_alloc BH.out _)))
          obtain ⟨q0, q1, q2, q3⟩ := box_at B2
          have BH3 : Hid _ := B3
          clear B2 B3
          go_wp2_with fail
          refine (both_any _ _ _).mono ?_
          rintro e w3 ⟨rfl, rfl⟩
          go_wp2_with fail
          go_roundg m
          case measure => omega
          case rel => exact ⟨i + 1, _, by go_num, rfl, by omega, BH3.out, by simpa using HV⟩
        · have hnil : ys.drop i = [] := List.drop_eq_nil_of_le (by omega)
          have hge : decide (i < ys.length) = false := decide_eq_false (by omega)
          have hge2 : ys.length ≤ i := by omega
          rw [hnil] at hV
          have hT : out = T := by simpa [varL] using hV
          subst hT
          have B9 : Below w.heap.size w wr := below_after BB.out B
          clear hnil hV hlt
          go_wp2_with fail
          go_ret
          exact ⟨rfl, B9⟩
    | true =>
      go_enter Tryz.func70, Tryz.ntmps70
      go_wp2_with fail
      have B0 : Below w.heap.size w (w.alloc (Obj.cells #[.int .i64 a, .int .i64 bb, .string s, .slice A l.length c] 24)) := by (repeat (first | assumption | exact Below.refl _ _ | apply below_alloc | apply pw_below_drewN | apply below_drew1))
      refine (Head_any a bb s c _ (Kd.C_below HR.out B0)).mono ?_
      rintro e w0 ⟨rfl, B00⟩
      obtain ⟨q0, q1, q2, q3⟩ := box_at B00
      have B01 := below_after B0 B00
      clear B0 B00
      go_wp2_with fail
      refine (TY.out _ (Kd.C_below HR.out B01) hc).mono ?_
      rintro e w1 ⟨v, rfl, ⟨A', c', rfl, hr1, hc1⟩, B1⟩
      replace B1 := below_after B01 B1
      clear q0 q1 q2 q3 B01
      have R1 : Hid _ := hr1
      have BB : Hid _ := B1
      clear hr1 B1
      go_wp2_with fail
      go_loopg [8, 31] ys.length (fun k x8 x31 wr => VarRel w1 name true ys T k x8 x31 wr)
      case atStart => exact start.out w1
      case round =>
        clear start
        obtain ⟨i, out, rfl, rfl, hki, B, hV⟩ := hrel
        by_cases hlt : i < ys.length
        · obtain ⟨m, rfl⟩ : ∃ m, gk = m + 1 := ⟨gk - 1, by omega⟩
          have e1 : decide (i < ys.length) = true := decide_eq_true hlt
          obtain ⟨x, hx⟩ : ∃ x, ys[i]? = some x := ⟨ys[i], by simp [hlt]⟩
          obtain ⟨ad, A3, c3, rfl, g0, g1, g2, g3, g4, g5⟩ := row_at R1.out hlt hx
          replace g0 := pw_cell_below B g0
          replace g1 := pw_cell_below B g1
          replace g2 := pw_cell_below B g2
          replace g3 := pw_cell_below B g3
          obtain ⟨hok, hsz⟩ := HQ.out x (List.mem_of_getElem? hx)
          have hd : ys.drop i = x :: ys.drop (i + 1) := by
            rw [List.drop_eq_getElem_cons hlt]; congr 1; simpa [hlt] using hx
          rw [hd] at hV
          have BH : Hid _ := B
          have G5 : Hid _ := g5
          have OK : Hid _ := hok
          have SZ : Hid _ := hsz
          clear B g5 hok hsz hx hd
          obtain ⟨x0, x1, x2, x3⟩ := x
          by_cases hi : i = 0
          · have hi1 : decide (i = 0) = true := decide_eq_true hi
            have hi2 : ((i : Int) == 0) = true := beq_iff_eq.mpr (by omega)
            clear hi
            by_cases hx0 : x0 = 3
            · subst hx0
              have HV := hV; simp only [varL, hi1, beq_self_eq_true, Bool.false_eq_true, if_false, if_true, Bool.and_true, Bool.true_and, Bool.false_and, Bool.and_false, Nat.zero_add] at HV
              clear hV
              go_wp2_with fail
              refine (OK.out name true A3 c3 _ (Kd.C_below G5.out (below_alloc BH.out _)) g4 SZ.out).mono ?_
              rintro e w2 ⟨rfl, B2⟩
              obtain ⟨vv, hvv⟩ : ∃ vv, vv = varM ⟨3, x1, x2, x3⟩ name true := ⟨_, rfl⟩
              rw [← hvv] at HV
              rw [← hvv]
              clear hvv
              have B3 : Below w1.heap.size w1 w2 := (below_alloc BH.out _).trans (B2.mono (below_size (below_alloc BH.out _)))
              obtain ⟨q0, q1, q2, q3⟩ := box_at B2
              have BH3 : Hid _ := B3
              clear B2 B3
              go_wp2_with fail
              refine (turn_any _ _).mono ?_
              rintro e w3 ⟨rfl, rfl⟩
              go_wp2_with fail
              refine (both_any _ _ _).mono ?_
              rintro e w3 ⟨rfl, rfl⟩
              go_wp2_with fail
              go_roundg m
              case measure => omega
              case rel => exact ⟨i + 1, _, by go_num, rfl, by omega, BH3.out, by simpa using HV⟩
            · have hx1 : (x0 == 3) = false := beq_eq_false_iff_ne.mpr hx0
              have HV := hV; simp only [varL, hi1, hx1, Bool.false_eq_true, if_false, if_true, Bool.and_true, Bool.true_and, Bool.false_and, Bool.and_false, Nat.zero_add] at HV
              clear hV
              go_wp2_with fail
              refine (OK.out name false A3 c3 _ (Kd.C_below G5.out (below_alloc BH.out _)) g4 SZ.out).mono ?_
              rintro e w2 ⟨rfl, B2⟩
              obtain ⟨vv, hvv⟩ : ∃ vv, vv = varM ⟨x0, x1, x2, x3⟩ name false := ⟨_, rfl⟩
              rw [← hvv] at HV
              rw [← hvv]
              clear hvv
              have B3 : Below w1.heap.size w1 w2 := (below_alloc BH.out _).trans (B2.mono (below_size (below_alloc BH.out _)))
              obtain ⟨q0, q1, q2, q3⟩ := box_at B2
              have BH3 : Hid _ := B3
              clear B2 B3
              go_wp2_with fail
              refine (both_any _ _ _).mono ?_
              rintro e w3 ⟨rfl, rfl⟩
              go_wp2_with fail
              go_roundg m
              case measure => omega
              case rel => exact ⟨i + 1, _, by go_num, rfl, by omega, BH3.out, by simpa using HV⟩
          · have hi1 : decide (i = 0) = false := decide_eq_false hi
            have hi2 : ((i : Int) == 0) = false := beq_eq_false_iff_ne.mpr (by omega)
            have HV := hV; simp only [varL, hi1, Bool.false_eq_true, if_false, if_true, Bool.and_true, Bool.true_and, Bool.false_and, Bool.and_false, Nat.zero_add] at HV
            clear hV
            go_wp2_with fail
            refine (OK.out name false A3 c3 _ (Kd.C_below G5.out (below_alloc BH.out _)) g4 SZ.out).mono ?_
            rintro e w2 ⟨rfl, B2⟩
            obtain ⟨vv, hvv⟩ : ∃ vv, vv = varM ⟨x0, x1, x2, x3⟩ name false := ⟨_, rfl⟩
            rw [← hvv] at HV
            rw [← hvv]
            clear hvv
            have B3 : Below w1.heap.size w1 w2 := (below_alloc BH.out _).trans (B2.mono (below_size (below_alloc BH.out _)))
            obtain ⟨q0, q1, q2, q3⟩ := box_at B2
            have BH3 : Hid _ := B3
            clear B2 B3
            go_wp2_with fail
            refine (both_any _ _ _).mono ?_
            rintro e w3 ⟨rfl, rfl⟩
            go_wp2_with fail
            go_roundg m
            case measure => omega
            case rel => exact ⟨i + 1, _, by go_num, rfl, by omega, BH3.out, by simpa using HV⟩
        · have hnil : ys.drop i = [] := List.drop_eq_nil_of_le (by omega)
          have hge : decide (i < ys.length) = false := decide_eq_false (by omega)
          have hge2 : ys.length ≤ i := by omega
          rw [hnil] at hV
          have hT : out = T := by simpa [varL] using hV
          subst hT
          have B9 : Below w.heap.size w wr := below_after BB.out B
          clear hnil hV hlt
          go_wp2_with fail
          go_ret
          exact ⟨rfl, B9⟩

theorem varM_word (bb : Int) (s : ByteArray) (l : List S24) (name : ByteArray) (bare : Bool) : varM ⟨1, bb, s, l⟩ name bare = if s.toList = name.toList then 1 else 0 := by
  simp [varM]
theorem varM_list {a : Int} (ha : a ≠ 1) (bb : Int) (s : ByteArray) (l : List S24) (name : ByteArray) (bare : Bool) :
    varM ⟨a, bb, s, l⟩ name bare = varL (typesL a l bare) name (!bare && isFunW (headOf a l)) false true 0 := by
  by_cases h3 : a = 3
  · subst h3
    cases l with
    | nil => simp [varM, varL, typesL]
    | cons k r =>
      cases bare with
      | true => simp [varM, varL, typesL, headOf]
      | false =>
        by_cases hk : k.f0 = 1
        · simp [varM, varL, typesL, headOf, hk]
        · simp [varM, varL, typesL, headOf, hk]
  · simp [varM, varL, typesL, h3, ha]

theorem typesL_mem {a : Int} {l : List S24} {bare : Bool} {x : S24} (h : x ∈ typesL a l bare) : x ∈ l := by
  unfold typesL at h
  split at h
  · split at h
    · exact h
    · split at h
      · exact List.mem_cons_of_mem _ h
      · exact h
  · exact absurd h List.not_mem_nil
theorem typesL_len (a : Int) (l : List S24) (bare : Bool) : (typesL a l bare).length ≤ l.length := by
  unfold typesL
  split
  · split
    · simp
    · split <;> simp
  · simp
theorem wid_mem : ∀ {l : List S24} {x : S24}, x ∈ l → wid x ≤ wids l
  | [], x, h => absurd h List.not_mem_nil
  | y :: l, x, h => by
    rcases List.mem_cons.1 h with h | h
    · rw [h]; simp only [wids]; omega
    · have := wid_mem h; simp only [wids]; omega

mutual
/-- The call on every form. -/
theorem var_ok : ∀ x : S24, VarOk x
  | ⟨a, bb, s, l⟩ => by
    have hl := var_oks l
    intro name bare A c w hr hc hn
    by_cases ha : a = 1
    · subst ha
      rw [varM_word]
      exact variance_word bb s A l.length c name bare w
    · rw [varM_list ha]
      simp only [wid] at hn
      have h1 := wids_len l
      have h2 := typesL_len a l bare
      exact variance_list a ha bb s A l c name bare _ w rfl hr hc (by omega) (fun x hx => ⟨hl x (typesL_mem hx), by have := wid_mem (typesL_mem hx); omega⟩) (by omega)
theorem var_oks : ∀ (l : List S24), ∀ x ∈ l, VarOk x
  | [], x, h => absurd h (List.not_mem_nil)
  | y :: l, x, h => by
    rcases List.mem_cons.1 h with h | h
    · rw [h]; exact var_ok y
    · exact var_oks l x h
end

def VarianceM (x : S24) (name : ByteArray) : Int := if resM name then 0 else varM x name false

set_option maxRecDepth 100000 in
theorem Variance_any (x : S24) (A : Option Addr) (c : Nat) (name : ByteArray) (w : World) (hr : Kd.C k24 w A x.f3.length x.f3) (hc : x.f3.length ≤ c) (hn : wid x < 9000000) :
    Calls Tryz.prog 30 #[formV x.f0 x.f1 x.f2 A x.f3.length c, .string name] w fun e w' => e = .returned (.int .i64 (VarianceM x name)) ∧ Below w.heap.size w w' := by
  have hu24 := Tryz.underlying24
  have hv := var_ok x name false A c
  obtain ⟨a, bb, s, l⟩ := x
  have HR : Hid _ := hr
  have HV : Hid _ := hv
  have HN : Hid _ := hn
  obtain ⟨T, hT⟩ : ∃ T, T = varM ⟨a, bb, s, l⟩ name false := ⟨_, rfl⟩
  unfold VarianceM
  rw [← hT]
  have TT : Hid _ := hT
  clear hr hv hn hT
  have B0 : Below w.heap.size w (w.alloc (Obj.cells #[.int .i64 a, .int .i64 bb, .string s, .slice A l.length c] 24)) := by (repeat (first | assumption | exact Below.refl _ _ | apply below_alloc | apply pw_below_drewN | apply below_drew1))
  cases hres : resM name with
  | true =>
    rw [if_pos rfl]
    go_enter Tryz.func30, Tryz.ntmps30
    go_wp2_with fail
    refine (reserved_any _ _).mono ?_
    rintro e w1 ⟨rfl, B1⟩
    rw [hres]
    have B2 := below_after B0 B1
    go_wp2_with fail
    go_ret
    exact ⟨rfl, B2⟩
  | false =>
    rw [if_neg (by simp)]
    go_enter Tryz.func30, Tryz.ntmps30
    go_wp2_with fail
    refine (reserved_any _ _).mono ?_
    rintro e w1 ⟨rfl, B1⟩
    rw [hres]
    have B2 := below_after B0 B1
    obtain ⟨q0, q1, q2, q3⟩ := box_at B1
    go_wp2_with fail
    refine (HV.out w1 (Kd.C_below HR.out B2) hc HN.out).mono ?_
    rintro e w2 ⟨rfl, B3⟩
    rw [← TT.out]
    have B4 := below_after B2 B3
    go_wp2_with fail
    go_ret
    exact ⟨rfl, B4⟩

end Go.Proofs.YtcjmplpfebpfpaaGreatDoor
namespace Go.Proofs.YtcjmplpfebpfpaaGreatDoor
open Go.RowKit Go.Proofs Go.Proofs.YtcjmplpfebpfpaaGreatDoorW.PrintWords Go.Proofs.YtcjmplpfebpfpaaGreatDoorW.PrintLast Go.Proofs.YtcjmplpfebpfpaaGreatDoorW.PrintMore PKindNames
set_option linter.unusedVariables false
set_option linter.unusedSimpArgs false

def digitsB : List UInt8 := [48, 49, 50, 51, 52, 53, 54, 55, 56, 57]
def cutMinus (s : ByteArray) : List UInt8 := Lib.trimPrefix s.data.toList [45]
/-- Whether a text is digits, or - and digits. -/
def numM (s : ByteArray) : Bool := !(cutMinus s == []) && (Lib.trimS (cutMinus s) digitsB == [])

theorem trim_any (s : ByteArray) (w : World) (hs : s.size ≤ 9223372036854775807) :
    Calls Tryz.prog 178 #[.string s, .string ⟨#[48, 49, 50, 51, 52, 53, 54, 55, 56, 57]⟩] w fun e w' => e = .returned (.string ⟨(Lib.trimS s.data.toList digitsB).toArray⟩) ∧ Below w.heap.size w w' :=
  Any.strings_Trim_laid Tryz.lays160 (by kernel_rfl) s _ w hs (by decide) (ascii_of_all (by decide))

theorem bytes_toList (l : List UInt8) : (ByteArray.mk l.toArray).toList = l := by rw [ByteArray.toList_eq]
theorem bytes_data (l : List UInt8) : (ByteArray.mk l.toArray).data.toList = l := rfl

set_option maxRecDepth 100000 in
theorem numeric_any (s : ByteArray) (w : World) (hs : s.size ≤ 1000) : Calls Tryz.prog 167 #[.string s] w fun e w' => e = .returned (.bool (numM s)) ∧ Below w.heap.size w w' := by
  obtain ⟨t, ht⟩ : ∃ t, t = cutMinus s := ⟨_, rfl⟩
  have hl : t.length ≤ 1000 := by
    rw [ht]
    have := Lib.trimPrefix_le s.data.toList [45]
    rw [Lib.size_eq] at hs
    unfold cutMinus
    omega
  have hsz : (ByteArray.mk t.toArray).size ≤ 9223372036854775807 := by
    rw [Lib.size_eq]; simp; omega
  have e0 : numM s = (!(t == []) && (Lib.trimS t digitsB == [])) := by rw [ht]; rfl
  rw [e0]
  have PT : Hid (∀ w, Calls Tryz.prog 177 #[.string s, .string ⟨#[45]⟩] w fun e w' => e = .returned (.string ⟨t.toArray⟩) ∧ w = w') := by
    intro w
    refine (Tryz.strings_TrimPrefix s ⟨#[45]⟩ w).mono ?_
    rintro e w' ⟨rfl, rfl⟩
    exact ⟨by rw [ht]; rfl, rfl⟩
  have q1 := bytes_toList t
  clear ht e0
  cases t with
  | nil =>
    go_enter Tryz.func167, Tryz.ntmps167
    go_wp2_with fail
    refine (PT.out _).mono ?_
    rintro e w1 ⟨rfl, rfl⟩
    go_wp2_with fail
    go_ret
    exact ⟨rfl, Below.refl _ _⟩
  | cons c t =>
    have q2 : ((ByteArray.mk (c :: t).toArray).toList == ([] : List UInt8)) = false := by rw [q1]; rfl
    obtain ⟨v, hv⟩ : ∃ v, v = Lib.trimS (c :: t) digitsB := ⟨_, rfl⟩
    have TT : Hid (∀ w, Calls Tryz.prog 178 #[.string ⟨(c :: t).toArray⟩, .string ⟨#[48, 49, 50, 51, 52, 53, 54, 55, 56, 57]⟩] w fun e w' => e = .returned (.string ⟨v.toArray⟩) ∧ Below w.heap.size w w') := by
      rw [hv]; exact fun w => trim_any _ w hsz
    rw [← hv]
    have q3 := bytes_toList v
    clear hv hsz
    generalize hB : ByteArray.mk (c :: t).toArray = B at *
    go_enter Tryz.func167, Tryz.ntmps167
    go_wp2_with fail
    refine (PT.out _).mono ?_
    rintro e w1 ⟨rfl, rfl⟩
    go_wp2_with fail
    refine (TT.out _).mono ?_
    rintro e w1 ⟨rfl, B1⟩
    go_wp2_with fail
    go_ret
    exact ⟨by simp [q3], B1⟩

/-- Whether a byte ends a word. -/
def outM (c : Int) : Bool := decide (c < 33) || (decide (126 < c) || decide (0 ≤ Lib.indexByte [40, 41, 34, 59] c.toNat.toUInt8))

set_option maxRecDepth 100000 in
theorem outside_any (c : Int) (w : World) : Calls Tryz.prog 168 #[.int .u8 c] w fun e w' => e = .returned (.bool (outM c)) ∧ Below w.heap.size w w' := by
  by_cases h1 : c < 33
  · have q1 : decide (c < 33) = true := decide_eq_true h1
    have e1 : outM c = true := by simp [outM, h1]
    rw [e1]
    clear h1 e1
    go_enter Tryz.func168, Tryz.ntmps168
    go_wp2_with fail
    go_ret
    exact ⟨rfl, Below.refl _ _⟩
  · have q1 : decide (c < 33) = false := decide_eq_false h1
    by_cases h2 : 126 < c
    · have q2 : decide (126 < c) = true := decide_eq_true h2
      have e1 : outM c = true := by simp [outM, h2]
      rw [e1]
      clear h1 h2 e1
      go_enter Tryz.func168, Tryz.ntmps168
      go_wp2_with fail
      go_ret
      exact ⟨rfl, Below.refl _ _⟩
    · have q2 : decide (126 < c) = false := decide_eq_false h2
      obtain ⟨v, hv⟩ : ∃ v, v = Lib.indexByte [40, 41, 34, 59] c.toNat.toUInt8 := ⟨_, rfl⟩
      have e1 : outM c = decide (0 ≤ v) := by simp only [outM, q1, q2, hv, Bool.false_or]
      have PT : Hid (∀ w, Calls Tryz.prog 179 #[.string ⟨#[40, 41, 34, 59]⟩, .int .u8 c] w fun e w' => e = .returned (.int .i64 v) ∧ w = w') := by
        intro w
        refine (Tryz.strings_IndexByte ⟨#[40, 41, 34, 59]⟩ c w).mono ?_
        rintro e w' ⟨rfl, rfl⟩
        exact ⟨by rw [hv], rfl⟩
      rw [e1]
      clear h1 h2 e1 hv
      go_enter Tryz.func168, Tryz.ntmps168
      go_wp2_with fail
      refine (PT.out _).mono ?_
      rintro e w1 ⟨rfl, rfl⟩
      go_wp2_with fail
      go_ret
      exact ⟨rfl, Below.refl _ _⟩

/-- A list's own fields. -/
theorem leaf_list (b : Int) (s : ByteArray) (A : Option Addr) (n c : Nat) (w : World) :
    Calls Tryz.prog 146 #[formV 3 b s A n c] w fun e w' => e = .returned (.bool ((s.toList == []) && (b == 0))) ∧ Below w.heap.size w w' := by
  have hu24 := Tryz.underlying24
  cases h : (s.toList == []) with
  | false =>
    go_enter Tryz.func146, Tryz.ntmps146
    go_wp2_with fail
    go_ret
    exact ⟨rfl, by (repeat (first | assumption | exact Below.refl _ _ | apply below_alloc | apply pw_below_drewN | apply below_drew1))⟩
  | true =>
    go_enter Tryz.func146, Tryz.ntmps146
    go_wp2_with fail
    go_ret
    exact ⟨rfl, by (repeat (first | assumption | exact Below.refl _ _ | apply below_alloc | apply pw_below_drewN | apply below_drew1))⟩

def bytesI (s : ByteArray) : List Int := s.data.toList.map fun b => (b.toNat : Int)
/-- Whether a text may be a word's. -/
def wordM (s : ByteArray) : Bool := (!(s.toList == []) && (decide (s.size ≤ 30) && !numM s)) && (bytesI s).all fun c => !outM c

/-- What holds of the loop over a word's bytes. -/
def LeafRel (w : World) (s : ByteArray) (T : Bool) (k : Nat) (x3 x4 : Value) (wr : World) : Prop :=
  ∃ (i : Nat) (g : Bool), x3 = .bool g ∧ x4 = .int .i64 (i : Int) ∧ k + i = s.size ∧ Below w.heap.size w wr ∧ (g && ((bytesI s).drop i).all fun c => !outM c) = T

set_option maxRecDepth 100000 in
set_option maxHeartbeats 2000000 in
/-- A word's own fields. -/
theorem leaf_word (b : Int) (s : ByteArray) (A : Option Addr) (n c : Nat) (w : World) (hs : s.size ≤ 30) (hne : (s.toList == []) = false) :
    Calls Tryz.prog 146 #[formV 1 b s A n c] w fun e w' => e = .returned (.bool (wordM s && (b == 0) && ((n : Int) == 0))) ∧ Below w.heap.size w w' := by
  have hu24 := Tryz.underlying24
  obtain ⟨T, hT⟩ : ∃ T, T = wordM s := ⟨_, rfl⟩
  rw [← hT]
  have hT2 : T = (!numM s && (bytesI s).all fun c => !outM c) := by
    rw [hT]; unfold wordM; rw [hne]; simp [hs]
  have hs2 : decide (s.size ≤ 30) = true := decide_eq_true hs
  obtain ⟨g, hg⟩ : ∃ g, g = numM s := ⟨_, rfl⟩
  have NA : Hid (∀ w, Calls Tryz.prog 167 #[.string s] w fun e w' => e = .returned (.bool g) ∧ Below w.heap.size w w') := by
    rw [hg]; exact fun w => numeric_any s w (by omega)
  rw [← hg] at hT2
  have start : Hid (∀ w : World, LeafRel w s T s.size (.bool (!g)) (.int .i64 ((0 : Nat) : Int)) w) := fun w => ⟨0, !g, rfl, rfl, rfl, Below.refl _ _, by rw [hT2]; rfl⟩
  clear hT hT2 hg
  go_enter Tryz.func146, Tryz.ntmps146
  go_wp2_with fail
  refine (NA.out _).mono ?_
  rintro e w1 ⟨rfl, B1⟩
  obtain ⟨q0, q1, q2, q3⟩ := box_at B1
  have B2 : Below w.heap.size w w1 := below_after (by (repeat (first | assumption | exact Below.refl _ _ | apply below_alloc | apply pw_below_drewN | apply below_drew1))) B1
  have BH : Hid _ := B2
  clear B1 B2
  go_wp2_with fail
  go_loopg [3, 4] s.size (fun k x3 x4 wr => LeafRel w1 s T k x3 x4 wr)
  case atStart => exact start.out w1
  case round =>
    clear start
    obtain ⟨i, g2, rfl, rfl, hki, B, hV⟩ := hrel
    have p0 := pw_cell_below B q0
    have p1 := pw_cell_below B q1
    have p2 := pw_cell_below B q2
    have p3 := pw_cell_below B q3
    by_cases hlt : i < s.size
    · obtain ⟨m, rfl⟩ : ∃ m, gk = m + 1 := ⟨gk - 1, by omega⟩
      have e1 : decide (i < s.size) = true := decide_eq_true hlt
      cases g2 with
      | false =>
        have hT : T = false := by rw [← hV]; rfl
        subst hT
        have B9 : Below w.heap.size w wr := below_after BH.out B
        clear hV
        go_wp2_with fail
        go_ret
        exact ⟨by simp, B9⟩
      | true =>
        have hd : (bytesI s).drop i = ((s[i]'hlt).toNat : Int) :: (bytesI s).drop (i + 1) := by
          have hl : i < (bytesI s).length := by simpa [bytesI] using hlt
          rw [List.drop_eq_getElem_cons hl]
          congr 1
          simp [bytesI]; rfl
        rw [hd] at hV
        have B9 : Hid _ := B
        clear B hd
        go_wp2_with fail
        refine (outside_any _ _).mono ?_
        rintro e w2 ⟨rfl, B2⟩
        obtain ⟨o, ho⟩ : ∃ o, o = outM ((s[i]'hlt).toNat : Int) := ⟨_, rfl⟩
        rw [← ho]
        have hV2 : ((!o) && ((bytesI s).drop (i + 1)).all fun c => !outM c) = T := by rw [← hV, ho]; simp
        have B3 : Below w1.heap.size w1 w2 := below_after B9.out B2
        replace p0 := pw_cell_below B2 p0
        replace p1 := pw_cell_below B2 p1
        replace p2 := pw_cell_below B2 p2
        replace p3 := pw_cell_below B2 p3
        have BH3 : Hid _ := B3
        clear hV ho B2 B3
        go_wp2_with fail
        go_roundg m
        case measure => omega
        case rel => exact ⟨i + 1, !o, rfl, by go_num, by omega, BH3.out, hV2⟩
    · have hge : decide (i < s.size) = false := decide_eq_false (by omega)
      have hge2 : s.size ≤ i := by omega
      have hnil : (bytesI s).drop i = [] := List.drop_eq_nil_of_le (by simpa [bytesI] using hge2)
      rw [hnil] at hV
      have hT : g2 = T := by rw [← hV]; simp
      subst hT
      have B9 : Below w.heap.size w wr := below_after BH.out B
      clear hnil hV hlt B
      cases g2 with
      | false =>
        go_wp2_with fail
        go_ret
        exact ⟨by simp, B9⟩
      | true =>
        cases hb : (b == 0) with
        | false =>
          go_wp2_with fail
          go_ret
          exact ⟨by rw [hb]; rfl, B9⟩
        | true =>
          cases hn : ((n : Int) == 0) with
          | false =>
            go_wp2_with fail
            go_ret
            exact ⟨by rw [hb, hn]; rfl, B9⟩
          | true =>
            go_wp2_with fail
            go_ret
            exact ⟨by rw [hb, hn]; rfl, B9⟩

end Go.Proofs.YtcjmplpfebpfpaaGreatDoor
namespace Go.Proofs.YtcjmplpfebpfpaaGreatDoor
open Go.RowKit Go.Proofs Go.Proofs.YtcjmplpfebpfpaaGreatDoorW.PrintWords Go.Proofs.YtcjmplpfebpfpaaGreatDoorW.PrintLast Go.Proofs.YtcjmplpfebpfpaaGreatDoorW.PrintMore PKindNames
set_option linter.unusedVariables false
set_option linter.unusedSimpArgs false

def textM (s : ByteArray) : Bool := decide (s.size ≤ 2000) && (bytesI s).all fun c => c == 10 || (decide (32 ≤ c) && decide (c ≤ 126))
/-- Whether a form's own fields are as they must be. -/
def leafM (x : S24) : Bool :=
  if x.f0 = 0 then (x.f2.toList == []) && ((x.f3.length : Int) == 0) && (decide (-1152921504606846976 ≤ x.f1) && decide (x.f1 ≤ 1152921504606846976)) else
  if x.f0 = 1 then wordM x.f2 && (x.f1 == 0) && ((x.f3.length : Int) == 0) else
  if x.f0 = 2 then textM x.f2 && (x.f1 == 0) && ((x.f3.length : Int) == 0) else
  if x.f0 = 3 then (x.f2.toList == []) && (x.f1 == 0) else false
/-- What the call on a form's own fields does. -/
def LeafC (x : S24) : Prop :=
  ∀ (A : Option Addr) (c : Nat) (w : World), Calls Tryz.prog 146 #[formV x.f0 x.f1 x.f2 A x.f3.length c] w fun e w' => e = .returned (.bool (leafM x)) ∧ Below w.heap.size w w'

mutual
/-- Whether a form is valid, with so many parts and levels left; the parts left behind. -/
def validM : S24 → Int → Int → Bool × Int
  | ⟨a, b, s, l⟩, n, d => if decide (n - 1 < 0) || (d == 0) || !(leafM ⟨a, b, s, l⟩) then (false, n - 1) else validL l (n - 1) (d - 1)
def validL : List S24 → Int → Int → Bool × Int
  | [], n, _ => (true, n)
  | x :: l, n, d => if (validM x n d).1 then validL l (validM x n d).2 d else (false, (validM x n d).2)
end
mutual
def allC : S24 → Prop
  | ⟨a, b, s, l⟩ => LeafC ⟨a, b, s, l⟩ ∧ allCs l
def allCs : List S24 → Prop
  | [] => True
  | x :: l => allC x ∧ allCs l
end

def ValidOk (x : S24) : Prop :=
  ∀ (W0 : World) (A : Option Addr) (c : Nat) (w : World) (pb : Nat) (n d : Int), Kd.C k24 W0 A x.f3.length x.f3 → x.f3.length ≤ c → Below W0.heap.size W0 w → W0.heap.size ≤ pb →
    w.heap[pb]? = some (.cells #[.int .i64 n] 3 (0, 0)) → 0 ≤ n → n ≤ 20000 → 0 ≤ d → d ≤ 100 → allC x → wid x < 9000000 →
    Calls Tryz.prog 116 #[formV x.f0 x.f1 x.f2 A x.f3.length c, .pointer (some ⟨pb, 0, none⟩), .int .i64 d] w fun e w' => e = .returned (.bool (validM x n d).1) ∧
      w'.heap[pb]? = some (.cells #[.int .i64 (validM x n d).2] 3 (0, 0)) ∧ Below W0.heap.size W0 w'

mutual
theorem validM_bd : ∀ (x : S24) (n d : Int), 0 ≤ n → (validM x n d).1 = true → 0 ≤ (validM x n d).2 ∧ (validM x n d).2 ≤ n
  | ⟨a, b, s, l⟩, n, d, hn, h => by
    simp only [validM] at h ⊢
    split at h
    · cases h
    · rename_i hc
      rw [if_neg hc]
      have h1 : decide (n - 1 < 0) = false := by
        cases hh : decide (n - 1 < 0) with
        | false => rfl
        | true => simp [hh] at hc
      have h2 : ¬ (n - 1 < 0) := of_decide_eq_false h1
      have := validL_bd l (n - 1) (d - 1) (by omega) h
      omega
theorem validL_bd : ∀ (l : List S24) (n d : Int), 0 ≤ n → (validL l n d).1 = true → 0 ≤ (validL l n d).2 ∧ (validL l n d).2 ≤ n
  | [], n, d, hn, h => by simp only [validL]; omega
  | x :: l, n, d, hn, h => by
    simp only [validL] at h ⊢
    split at h
    · rename_i hc
      rw [if_pos hc]
      have h1 := validM_bd x n d hn hc
      have h2 := validL_bd l _ d h1.1 h
      omega
    · cases h
end

theorem allCs_mem : ∀ {l : List S24} {x : S24}, allCs l → x ∈ l → allC x
  | [], x, _, h => absurd h List.not_mem_nil
  | y :: l, x, hl, h => by
    simp only [allCs] at hl
    rcases List.mem_cons.1 h with h | h
    · rw [h]; exact hl.1
    · exact allCs_mem hl.2 h

/-- What holds of the loop. -/
def ValRel (W0 : World) (pb : Nat) (l : List S24) (d : Int) (R : Bool × Int) (k : Nat) (x30 : Value) (wr : World) : Prop :=
  ∃ (i : Nat) (m : Int), x30 = .int .i64 (i : Int) ∧ k + i = l.length ∧ wr.heap[pb]? = some (.cells #[.int .i64 m] 3 (0, 0)) ∧ 0 ≤ m ∧ m ≤ 20000 ∧ Below W0.heap.size W0 wr ∧ validL (l.drop i) m d = R

theorem cells_set {w : World} {pb : Nat} {n v : Value} (hp : w.heap[pb]? = some (.cells #[n] 3 (0, 0))) : (w.setCell ⟨pb, 0, none⟩ v).heap[pb]? = some (.cells #[v] 3 (0, 0)) := by
  have hlt : pb < w.heap.size := (Array.getElem?_eq_some_iff.1 hp).1
  exact heap_setCell_same w pb 0 #[n] 3 v hp

set_option maxRecDepth 100000 in
set_option maxHeartbeats 4000000 in
theorem valid_x (W0 : World) (a bb : Int) (s : ByteArray) (l : List S24) (A : Option Addr) (c : Nat) (w : World) (pb : Nat) (n d : Int) (hr : Kd.C k24 W0 A l.length l) (hc : l.length ≤ c) (hw : Below W0.heap.size W0 w) (hpb : W0.heap.size ≤ pb)
    (hp : w.heap[pb]? = some (.cells #[.int .i64 n] 3 (0, 0))) (hn0 : 0 ≤ n) (hn1 : n ≤ 20000) (hd0 : 0 ≤ d) (hd1 : d ≤ 100) (hleaf : LeafC ⟨a, bb, s, l⟩) (hq : ∀ x ∈ l, ValidOk x ∧ allC x ∧ wid x < 9000000) (hbig : l.length < 9000000) :
    Calls Tryz.prog 116 #[formV a bb s A l.length c, .pointer (some ⟨pb, 0, none⟩), .int .i64 d] w fun e w' => e = .returned (.bool (validM ⟨a, bb, s, l⟩ n d).1) ∧
      w'.heap[pb]? = some (.cells #[.int .i64 (validM ⟨a, bb, s, l⟩ n d).2] 3 (0, 0)) ∧ Below W0.heap.size W0 w' := by
  have hu24 := Tryz.underlying24
  have hcell0 : w.cell? ⟨pb, 0, none⟩ = some (.int .i64 n) := by simp [World.cell?, hp]
  have hcell := pw_cell_below (below_alloc (Below.refl _ _) (Obj.cells #[.int .i64 a, .int .i64 bb, .string s, .slice A l.length c] 24)) hcell0
  have hfz : w.frozen? ⟨pb, 0, none⟩ = false := by simp [World.frozen?, hp]
  have hlt : pb < w.heap.size := (Array.getElem?_eq_some_iff.1 hp).1
  have hX : ((w.setCell ⟨pb, 0, none⟩ (.int .i64 (n - 1))).alloc (Obj.cells #[.int .i64 a, .int .i64 bb, .string s, .slice A l.length c] 24)).heap[pb]? = some (.cells #[.int .i64 (n - 1)] 3 (0, 0)) := (Below.heap_alloc _ _ pb (Array.getElem?_eq_some_iff.1 (cells_set (v := .int .i64 (n - 1)) hp)).1).trans (cells_set hp)
  have BX : Below W0.heap.size W0 ((w.setCell ⟨pb, 0, none⟩ (.int .i64 (n - 1))).alloc (Obj.cells #[.int .i64 a, .int .i64 bb, .string s, .slice A l.length c] 24)) := below_alloc (hw.setCell hpb _) _
  have SZ : (w.setCell ⟨pb, 0, none⟩ (.int .i64 (n - 1))).heap.size = w.heap.size := by simp [World.setCell]
  have HX : Hid _ := hX
  have HB : Hid _ := BX
  have HR : Hid _ := hr
  have HL : Hid _ := hleaf
  have HQ : Hid _ := hq
  clear hX BX hr hleaf hq hw
  obtain ⟨R, hR⟩ : ∃ R, R = validM ⟨a, bb, s, l⟩ n d := ⟨_, rfl⟩
  rw [← hR]
  simp only [validM] at hR
  by_cases hn : n - 1 < 0
  · have b1 : decide (n - 1 < 0) = true := decide_eq_true hn
    rw [b1] at hR
    simp only [Bool.true_or, if_true] at hR
    subst hR
    clear hn
    go_enter Tryz.func116, Tryz.ntmps116
    go_wp2_with fail
    go_ret
    exact ⟨rfl, HX.out, HB.out⟩
  · have b1 : decide (n - 1 < 0) = false := decide_eq_false hn
    rw [b1] at hR
    by_cases hd : d = 0
    · have b2 : (d == 0) = true := beq_iff_eq.mpr hd
      rw [b2] at hR
      simp only [Bool.true_or, Bool.or_true, if_true] at hR
      subst hR
      subst hd
      clear hn
      go_enter Tryz.func116, Tryz.ntmps116
      go_wp2_with fail
      go_ret
      exact ⟨rfl, HX.out, HB.out⟩
    · have b2 : (d == 0) = false := beq_eq_false_iff_ne.mpr hd
      rw [b2] at hR
      clear hn
      cases hlf : leafM ⟨a, bb, s, l⟩ with
      | false =>
        rw [hlf] at hR
        simp only [Bool.false_or, Bool.not_false, if_true] at hR
        subst hR
        go_enter Tryz.func116, Tryz.ntmps116
        go_wp2_with fail
        refine (HL.out A c _).mono ?_
        rintro e w1 ⟨rfl, B1⟩
        rw [hlf]
        have h1 : w1.heap[pb]? = some (.cells #[.int .i64 (n - 1)] 3 (0, 0)) := (B1.block pb (Array.getElem?_eq_some_iff.1 HX.out).1).trans HX.out
        have B2 : Below W0.heap.size W0 w1 := HB.out.trans (B1.mono HB.out.size)
        have H1 : Hid _ := h1
        have H2 : Hid _ := B2
        clear h1 B2 B1
        go_wp2_with fail
        go_ret
        exact ⟨rfl, H1.out, H2.out⟩
      | true =>
        rw [hlf] at hR
        simp only [Bool.false_or, Bool.not_true, Bool.false_eq_true, if_false] at hR
        go_enter Tryz.func116, Tryz.ntmps116
        go_wp2_with fail
        refine (HL.out A c _).mono ?_
        rintro e w1 ⟨rfl, B1⟩
        rw [hlf]
        have h1 : w1.heap[pb]? = some (.cells #[.int .i64 (n - 1)] 3 (0, 0)) := (B1.block pb (Array.getElem?_eq_some_iff.1 HX.out).1).trans HX.out
        have B2 : Below W0.heap.size W0 w1 := HB.out.trans (B1.mono HB.out.size)
        obtain ⟨x0, x1, x2, x3⟩ := box_at B1
        rw [SZ] at x0 x1 x2 x3
        have hd1' : 1 ≤ d := by omega
        have start : Hid (ValRel W0 pb l (d - 1) R l.length (.int .i64 ((0 : Nat) : Int)) w1) := ⟨0, n - 1, rfl, rfl, h1, by have := of_decide_eq_false b1; omega, by omega, B2, hR.symm⟩
        clear h1 B2 B1 hR
        go_wp2_with fail
        go_loopg [30] l.length (fun k x30 wr => ValRel W0 pb l (d - 1) R k x30 wr)
        case atStart => exact start.out
        case round =>
          clear start
          obtain ⟨i, m, rfl, hki, hm, hm0, hm1, B, hV⟩ := hrel
          by_cases hli : i < l.length
          · obtain ⟨g, rfl⟩ : ∃ g, gk = g + 1 := ⟨gk - 1, by omega⟩
            have e1 : decide (i < l.length) = true := decide_eq_true hli
            obtain ⟨x, hx⟩ : ∃ x, l[i]? = some x := ⟨l[i], by simp [hli]⟩
            obtain ⟨ad, A3, c3, rfl, g0, g1, g2, g3, g4, g5⟩ := row_at HR.out hli hx
            replace g0 := pw_cell_below B g0
            replace g1 := pw_cell_below B g1
            replace g2 := pw_cell_below B g2
            replace g3 := pw_cell_below B g3
            obtain ⟨hok, hall, hsz⟩ := HQ.out x (List.mem_of_getElem? hx)
            have hdr : l.drop i = x :: l.drop (i + 1) := by
              rw [List.drop_eq_getElem_cons hli]; congr 1; simpa [hli] using hx
            rw [hdr] at hV
            simp only [validL] at hV
            have BH : Hid _ := B
            have G5 : Hid _ := g5
            have MH : Hid _ := hm
            have OK : Hid _ := hok W0 A3 c3 (wr.alloc (Obj.cells #[.int .i64 x.f0, .int .i64 x.f1, .string x.f2, .slice A3 x.f3.length c3] 24)) pb m (d - 1) g5 g4 (below_alloc B _) hpb ((Below.heap_alloc wr _ pb (Array.getElem?_eq_some_iff.1 hm).1).trans hm) hm0 hm1 (by omega) (by omega) hall hsz
            have BD : Hid _ := validM_bd x m (d - 1) hm0
            clear B g5 hok hall hsz hx hm hdr
            obtain ⟨x0', x1', x2', x3'⟩ := x
            obtain ⟨Q, hQ⟩ : ∃ Q, Q = validM ⟨x0', x1', x2', x3'⟩ m (d - 1) := ⟨_, rfl⟩
            rw [← hQ] at OK BD hV
            clear hQ
            obtain ⟨q, m2⟩ := Q
            cases q with
            | false =>
              simp only [Bool.false_eq_true, if_false] at hV
              subst hV
              go_wp2_with fail
              refine Calls.mono OK.out ?_
              rintro e w2 ⟨rfl, hm2, B2⟩
              have H1 : Hid _ := hm2
              have H2 : Hid _ := B2
              clear hm2 B2
              go_wp2_with fail
              go_ret
              exact ⟨rfl, H1.out, H2.out⟩
            | true =>
              simp only [if_true] at hV
              have hbd := BD.out rfl
              simp only [] at hbd
              go_wp2_with fail
              refine Calls.mono OK.out ?_
              rintro e w2 ⟨rfl, hm2, B2⟩
              have H1 : Hid _ := hm2
              have H2 : Hid _ := B2
              have HV : Hid _ := hV
              clear hm2 B2 hV
              go_wp2_with fail
              go_roundg g
              case measure => omega
              case rel => exact ⟨i + 1, m2, by go_num, by omega, H1.out, hbd.1, by omega, H2.out, HV.out⟩
          · have hnil : l.drop i = [] := List.drop_eq_nil_of_le (by omega)
            have hge : decide (i < l.length) = false := decide_eq_false (by omega)
            have hge2 : l.length ≤ i := by omega
            rw [hnil] at hV
            simp only [validL] at hV
            subst hV
            have H1 : Hid _ := hm
            have H2 : Hid _ := B
            clear hm B hnil hli
            go_wp2_with fail
            go_ret
            exact ⟨rfl, H1.out, H2.out⟩

mutual
theorem valid_ok : ∀ x : S24, ValidOk x
  | ⟨a, bb, s, l⟩ => by
    have hl := valid_oks l
    intro W0 A c w pb n d hr hc hw hpb hp hn0 hn1 hd0 hd1 hall hsz
    simp only [allC] at hall
    simp only [wid] at hsz
    have h1 := wids_len l
    exact valid_x W0 a bb s l A c w pb n d hr hc hw hpb hp hn0 hn1 hd0 hd1 hall.1 (fun x hx => ⟨hl x hx, allCs_mem hall.2 hx, by have := wid_mem hx; omega⟩) (by omega)
theorem valid_oks : ∀ (l : List S24), ∀ x ∈ l, ValidOk x
  | [], x, h => absurd h (List.not_mem_nil)
  | y :: l, x, h => by
    rcases List.mem_cons.1 h with h | h
    · rw [h]; exact valid_ok y
    · exact valid_oks l x h
end

def ValidM (x : S24) : Bool := (validM x 20000 100).1

set_option maxRecDepth 100000 in
theorem Valid_any (x : S24) (A : Option Addr) (c : Nat) (w : World) (hr : Kd.C k24 w A x.f3.length x.f3) (hc : x.f3.length ≤ c) (hall : allC x) (hn : wid x < 9000000) :
    Calls Tryz.prog 73 #[formV x.f0 x.f1 x.f2 A x.f3.length c] w fun e w' => e = .returned (.bool (ValidM x)) ∧ Below w.heap.size w w' := by
  have hu24 := Tryz.underlying24
  have hv := fun w1 hw hp => valid_ok x w A c w1 (w.heap.size + 1) 20000 100 hr hc hw (by omega) hp (by decide) (by decide) (by decide) (by decide) hall hn
  obtain ⟨a, bb, s, l⟩ := x
  obtain ⟨Q, hQ⟩ : ∃ Q, Q = validM ⟨a, bb, s, l⟩ 20000 100 := ⟨_, rfl⟩
  unfold ValidM
  rw [← hQ] at hv ⊢
  have B0 : Below w.heap.size w ((w.alloc (Obj.cells #[.int .i64 a, .int .i64 bb, .string s, .slice A l.length c] 24)).alloc (Obj.cells #[.int .i64 20000] 3)) := by (repeat (first | assumption | exact Below.refl _ _ | apply below_alloc | apply pw_below_drewN | apply below_drew1))
  have hp0 : ((w.alloc (Obj.cells #[.int .i64 a, .int .i64 bb, .string s, .slice A l.length c] 24)).alloc (Obj.cells #[.int .i64 20000] 3)).heap[w.heap.size + 1]? = some (Obj.cells #[.int .i64 20000] 3 (0, 0)) := by
    have h := (MapKept.heap_alloc (w.alloc (Obj.cells #[.int .i64 a, .int .i64 bb, .string s, .slice A l.length c] 24)) (Obj.cells #[.int .i64 20000] 3)).1
    rw [size_new] at h
    exact h
  have HV : Hid _ := hv _ B0 hp0
  clear hr hv hall hn hQ hp0
  go_enter Tryz.func73, Tryz.ntmps73
  go_wp2_with fail
  refine Calls.mono HV.out ?_
  rintro e w2 ⟨rfl, _, B2⟩
  have H2 : Hid _ := B2
  clear B2
  go_wp2_with fail
  go_ret
  exact ⟨rfl, H2.out⟩

end Go.Proofs.YtcjmplpfebpfpaaGreatDoor
namespace Go.Proofs.YtcjmplpfebpfpaaGreatDoor
open Go.RowKit Go.Proofs Go.Proofs.YtcjmplpfebpfpaaGreatDoorW.PrintWords Go.Proofs.YtcjmplpfebpfpaaGreatDoorW.PrintLast Go.Proofs.YtcjmplpfebpfpaaGreatDoorW.PrintMore PKindNames
set_option linter.unusedVariables false
set_option linter.unusedSimpArgs false

def cmpStr (a b : ByteArray) : Int := if Op.bytesLess a.toList b.toList then -1 else if !(Op.bytesLess a.toList b.toList || a.toList == b.toList) then 1 else 0
mutual
/-- How two forms compare. -/
def cmpM : S24 → S24 → Int
  | ⟨a, n, s, l⟩, y =>
    if a ≠ y.f0 then Lib.compareInt a y.f0 else
    if a = 0 then Lib.compareInt n y.f1 else
    if a = 1 ∨ a = 2 then cmpStr s y.f2 else
    if a = 3 then cmpL l y.f3 else 0
def cmpL : List S24 → List S24 → Int
  | [], m => if 0 < m.length then -1 else 0
  | _ :: _, [] => 1
  | x :: l, y :: m => if cmpM x y ≠ 0 then cmpM x y else cmpL l m
end

theorem isNaN_any (a : ByteArray) (w : World) : Calls Tryz.prog 90 #[.string a] w fun e w' => e = .returned (.bool false) ∧ w = w' := by
  go_enter Tryz.func90, Tryz.ntmps90
  go_wp2
  go_ret
  exact ⟨by simp, rfl⟩

theorem cmpStr_any (a b : ByteArray) (w : World) : Calls Tryz.prog 47 #[.string a, .string b] w fun e w' => e = .returned (.int .i64 (cmpStr a b)) ∧ w = w' := by
  unfold cmpStr
  generalize hA : a.toList = A
  generalize hB : b.toList = B
  cases h1 : Op.bytesLess A B with
  | true =>
    rw [if_pos rfl]
    go_enter Tryz.func47, Tryz.ntmps47
    go_wp2_with (first | (go_at_call 90; refine (isNaN_any _ _).mono ?_; rintro e w' ⟨rfl, rfl⟩))
    go_ret
    exact ⟨rfl, rfl⟩
  | false =>
    rw [if_neg (by simp)]
    cases h2 : (A == B) with
    | true =>
      rw [if_neg (by simp)]
      go_enter Tryz.func47, Tryz.ntmps47
      go_wp2_with (first | (go_at_call 90; refine (isNaN_any _ _).mono ?_; rintro e w' ⟨rfl, rfl⟩))
      go_ret
      exact ⟨rfl, rfl⟩
    | false =>
      rw [if_pos (by simp)]
      go_enter Tryz.func47, Tryz.ntmps47
      go_wp2_with (first | (go_at_call 90; refine (isNaN_any _ _).mono ?_; rintro e w' ⟨rfl, rfl⟩))
      go_ret
      exact ⟨rfl, rfl⟩

theorem cmpInt_any (x y : Int) (w : World) : Calls Tryz.prog 154 #[.int .i64 x, .int .i64 y] w fun e w' => e = .returned (.int .i64 (Lib.compareInt x y)) ∧ w = w' := by
  refine (Tryz.cmp_Compare_int x y w).mono ?_
  rintro e w' ⟨rfl, rfl⟩
  exact ⟨rfl, rfl⟩

/-- What the call does on one form and whatever other. -/
def CmpOk (x : S24) : Prop :=
  ∀ (y : S24) (A B : Option Addr) (c d : Nat) (w : World), Kd.C k24 w A x.f3.length x.f3 → x.f3.length ≤ c → Kd.C k24 w B y.f3.length y.f3 → y.f3.length ≤ d → wid x < 9000000 → wid y < 9000000 →
    Calls Tryz.prog 137 #[formV x.f0 x.f1 x.f2 A x.f3.length c, formV y.f0 y.f1 y.f2 B y.f3.length d] w fun e w' => e = .returned (.int .i64 (cmpM x y)) ∧ Below w.heap.size w w'

/-- What holds of the loop. -/
def CmpRel (W0 : World) (l m : List S24) (R : Int) (k : Nat) (x13 : Value) (wr : World) : Prop :=
  ∃ (i : Nat), x13 = .int .i64 (i : Int) ∧ k + i = l.length ∧ i ≤ m.length ∧ Below W0.heap.size W0 wr ∧ cmpL (l.drop i) (m.drop i) = R

theorem drop_at' {l : List S24} {i : Nat} {x : S24} (hx : l[i]? = some x) : l.drop i = x :: l.drop (i + 1) := by
  obtain ⟨h, e⟩ := List.getElem?_eq_some_iff.1 hx
  rw [List.drop_eq_getElem_cons h, e]

set_option maxRecDepth 100000 in
set_option maxHeartbeats 4000000 in
theorem compareFunc_any (l m : List S24) (A B : Option Addr) (c d : Nat) (w : World) (hr : Kd.C k24 w A l.length l) (hc : l.length ≤ c) (hs : Kd.C k24 w B m.length m) (hd : m.length ≤ d) (hn : wids l < 9000000) (hm : wids m < 9000000)
    (hq : ∀ x ∈ l, CmpOk x) :
    Calls Tryz.prog 155 #[.slice A l.length c, .slice B m.length d, .func (.func 137) #[] #[]] w fun e w' => e = .returned (.int .i64 (cmpL l m)) ∧ Below w.heap.size w w' := by
  have hu24 := Tryz.underlying24
  have h1 := wids_len l
  have h2 := wids_len m
  obtain ⟨R, hR⟩ : ∃ R, R = cmpL l m := ⟨_, rfl⟩
  rw [← hR]
  have start : Hid (CmpRel w l m R l.length (.int .i64 ((0 : Nat) : Int)) w) := ⟨0, rfl, rfl, Nat.zero_le _, Below.refl _ _, hR.symm⟩
  have HR : Hid _ := hr
  have HS : Hid _ := hs
  have HQ : Hid _ := hq
  have HN : Hid (∀ x ∈ l, wid x < 9000000) := fun x hx => by have := wid_mem hx; omega
  have HM : Hid (∀ x ∈ m, wid x < 9000000) := fun x hx => by have := wid_mem hx; omega
  clear hr hs hq hR
  go_enter Tryz.func155, Tryz.ntmps155
  go_wp2_with fail
  go_loopg [13] l.length (fun k x13 wr => CmpRel w l m R k x13 wr)
  case atStart => exact start.out
  case round =>
    clear start
    obtain ⟨i, rfl, hki, him, Bl, hV⟩ := hrel
    by_cases hlt : i < l.length
    · obtain ⟨g, rfl⟩ : ∃ g, gk = g + 1 := ⟨gk - 1, by omega⟩
      have e1 : decide (i < l.length) = true := decide_eq_true hlt
      obtain ⟨x, hx⟩ : ∃ x, l[i]? = some x := ⟨l[i], by simp [hlt]⟩
      obtain ⟨ad, A3, c3, rfl, g0, g1, g2, g3, g4, g5⟩ := row_at (Kd.C_below HR.out Bl) hlt hx
      rw [drop_at' hx] at hV
      by_cases hlm : i < m.length
      · have e2 : decide (m.length ≤ i) = false := decide_eq_false (by omega)
        obtain ⟨y, hy⟩ : ∃ y, m[i]? = some y := ⟨m[i], by simp [hlm]⟩
        have bal : Below wr.heap.size wr (wr.alloc (Obj.cells #[.int .i64 x.f0, .int .i64 x.f1, .string x.f2, .slice A3 x.f3.length c3] 24)) := below_alloc (Below.refl _ _) _
        obtain ⟨ad', A4, c4, rfl, k0, k1, k2, k3, k4, k5⟩ := row_at (Kd.C_below (Kd.C_below HS.out Bl) bal) hlm hy
        rw [drop_at' hy] at hV
        simp only [cmpL] at hV
        have BL : Hid _ := Bl
        have OK : Hid _ := HQ.out x (List.mem_of_getElem? hx) y A3 A4 c3 c4 ((wr.alloc (Obj.cells #[.int .i64 x.f0, .int .i64 x.f1, .string x.f2, .slice A3 x.f3.length c3] 24)).alloc (Obj.cells #[.int .i64 y.f0, .int .i64 y.f1, .string y.f2, .slice A4 y.f3.length c4] 24)) (Kd.C_alloc (Kd.C_alloc g5 _) _) g4 (Kd.C_alloc k5 _) k4 (HN.out x (List.mem_of_getElem? hx)) (HM.out y (List.mem_of_getElem? hy))
        clear Bl g5 k5 hx hy bal
        obtain ⟨x0, x1, x2, x3⟩ := x
        obtain ⟨y0, y1, y2, y3⟩ := y
        obtain ⟨q, hq⟩ : ∃ q, q = cmpM ⟨x0, x1, x2, x3⟩ ⟨y0, y1, y2, y3⟩ := ⟨_, rfl⟩
        rw [← hq] at OK hV
        clear hq
        by_cases hz : q = 0
        · subst hz
          simp only [ne_eq, not_true_eq_false, if_false] at hV
          have HV : Hid _ := hV
          clear hV
          go_wp2_with fail
          refine Calls.mono OK.out ?_
          rintro e w2 ⟨rfl, B2⟩
          have B3 : Below w.heap.size w w2 := (below_alloc (below_alloc BL.out _) _).trans (B2.mono (below_size (below_alloc (below_alloc BL.out _) _)))
          have BH3 : Hid _ := B3
          clear B2 B3
          go_wp2_with fail
          go_roundg g
          case measure => omega
          case rel => exact ⟨i + 1, by go_num, by omega, by omega, BH3.out, HV.out⟩
        · have qz : (q == 0) = false := beq_eq_false_iff_ne.mpr hz
          have qn : (q != 0) = true := bne_iff_ne.mpr hz
          rw [if_pos hz] at hV
          subst hV
          clear hz
          go_wp2_with fail
          refine Calls.mono OK.out ?_
          rintro e w2 ⟨rfl, B2⟩
          have B3 : Below w.heap.size w w2 := (below_alloc (below_alloc BL.out _) _).trans (B2.mono (below_size (below_alloc (below_alloc BL.out _) _)))
          have BH3 : Hid _ := B3
          clear B2 B3
          go_wp2_with fail
          go_ret
          exact ⟨rfl, BH3.out⟩
      · have e2 : decide (m.length ≤ i) = true := decide_eq_true (by omega)
        have e3 : m.drop i = [] := List.drop_eq_nil_of_le (by omega)
        rw [e3] at hV
        simp only [cmpL] at hV
        subst hV
        have BL : Hid _ := below_alloc Bl (Obj.cells #[.int .i64 x.f0, .int .i64 x.f1, .string x.f2, .slice A3 x.f3.length c3] 24)
        clear Bl g5 hx e3
        obtain ⟨x0, x1, x2, x3⟩ := x
        have hge3 : m.length ≤ i := by omega
        go_wp2_with fail
        go_ret
        exact ⟨rfl, BL.out⟩
    · have e1 : decide (i < l.length) = false := decide_eq_false hlt
      have e3 : l.drop i = [] := List.drop_eq_nil_of_le (by omega)
      rw [e3] at hV
      have hil : i = l.length := by omega
      have BL : Hid _ := Bl
      clear e3 Bl
      by_cases hlm : l.length < m.length
      · have e2 : decide (l.length < m.length) = true := decide_eq_true hlm
        have e4 : (m.drop i).length = m.length - i := List.length_drop
        simp only [cmpL] at hV
        rw [if_pos (by omega)] at hV
        subst hV
        clear e4
        go_wp2_with fail
        go_ret
        exact ⟨rfl, BL.out⟩
      · have e2 : decide (l.length < m.length) = false := decide_eq_false hlm
        have e4 : (m.drop i).length = m.length - i := List.length_drop
        simp only [cmpL] at hV
        rw [if_neg (by omega)] at hV
        subst hV
        clear e4
        go_wp2_with fail
        go_ret
        exact ⟨rfl, BL.out⟩

set_option maxRecDepth 100000 in
set_option maxHeartbeats 4000000 in
theorem compare_x (a n : Int) (s : ByteArray) (l : List S24) (y0 y1 : Int) (y2 : ByteArray) (y3 : List S24) (A B : Option Addr) (c d : Nat) (w : World) (hr : Kd.C k24 w A l.length l) (hc : l.length ≤ c) (hs : Kd.C k24 w B y3.length y3) (hd : y3.length ≤ d)
    (hn : wids l < 9000000) (hm : wids y3 < 9000000) (hq : ∀ x ∈ l, CmpOk x) :
    Calls Tryz.prog 137 #[formV a n s A l.length c, formV y0 y1 y2 B y3.length d] w fun e w' => e = .returned (.int .i64 (cmpM ⟨a, n, s, l⟩ ⟨y0, y1, y2, y3⟩)) ∧ Below w.heap.size w w' := by
  have hu24 := Tryz.underlying24
  have HC : Hid _ := compareFunc_any l y3 A B c d ((w.alloc (Obj.cells #[.int .i64 a, .int .i64 n, .string s, .slice A l.length c] 24)).alloc (Obj.cells #[.int .i64 y0, .int .i64 y1, .string y2, .slice B y3.length d] 24)) (Kd.C_alloc (Kd.C_alloc hr _) _) hc (Kd.C_alloc (Kd.C_alloc hs _) _) hd hn hm hq
  clear hr hs hq
  by_cases h0 : a = y0
  · have b0 : (a != y0) = false := bne_eq_false_iff_eq.mpr h0
    subst h0
    by_cases h1 : a = 0
    · have e1 : cmpM ⟨a, n, s, l⟩ ⟨a, y1, y2, y3⟩ = Lib.compareInt n y1 := by simp [cmpM, h1]
      rw [e1]
      subst h1
      clear e1 HC
      go_enter Tryz.func137, Tryz.ntmps137
      go_wp2_with fail
      refine (cmpInt_any _ _ _).mono ?_
      rintro e w2 ⟨rfl, rfl⟩
      go_wp2_with fail
      go_ret
      exact ⟨rfl, by (repeat (first | assumption | exact Below.refl _ _ | apply below_alloc | apply pw_below_drewN | apply below_drew1))⟩
    · have b1 : (a == 0) = false := beq_eq_false_iff_ne.mpr h1
      by_cases h2 : a = 1
      · have e1 : cmpM ⟨a, n, s, l⟩ ⟨a, y1, y2, y3⟩ = cmpStr s y2 := by simp [cmpM, h2]
        rw [e1]
        subst h2
        clear e1 HC h1
        go_enter Tryz.func137, Tryz.ntmps137
        go_wp2_with fail
        refine (cmpStr_any _ _ _).mono ?_
        rintro e w2 ⟨rfl, rfl⟩
        go_wp2_with fail
        go_ret
        exact ⟨rfl, by (repeat (first | assumption | exact Below.refl _ _ | apply below_alloc | apply pw_below_drewN | apply below_drew1))⟩
      · have b2 : (a == 1) = false := beq_eq_false_iff_ne.mpr h2
        by_cases h3 : a = 2
        · have e1 : cmpM ⟨a, n, s, l⟩ ⟨a, y1, y2, y3⟩ = cmpStr s y2 := by simp [cmpM, h3]
          rw [e1]
          subst h3
          clear e1 HC h1 h2
          go_enter Tryz.func137, Tryz.ntmps137
          go_wp2_with fail
          refine (cmpStr_any _ _ _).mono ?_
          rintro e w2 ⟨rfl, rfl⟩
          go_wp2_with fail
          go_ret
          exact ⟨rfl, by (repeat (first | assumption | exact Below.refl _ _ | apply below_alloc | apply pw_below_drewN | apply below_drew1))⟩
        · have b3 : (a == 2) = false := beq_eq_false_iff_ne.mpr h3
          by_cases h4 : a = 3
          · have e1 : cmpM ⟨a, n, s, l⟩ ⟨a, y1, y2, y3⟩ = cmpL l y3 := by simp [cmpM, h4]
            rw [e1]
            subst h4
            clear e1 h1 h2 h3
            go_enter Tryz.func137, Tryz.ntmps137
            go_wp2_with fail
            refine Calls.mono HC.out ?_
            rintro e w2 ⟨rfl, B2⟩
            have B3 : Below w.heap.size w w2 := below_after (by (repeat (first | assumption | exact Below.refl _ _ | apply below_alloc | apply pw_below_drewN | apply below_drew1))) B2
            clear B2
            go_wp2_with fail
            go_ret
            exact ⟨rfl, B3⟩
          · have b4 : (a == 3) = false := beq_eq_false_iff_ne.mpr h4
            have e1 : cmpM ⟨a, n, s, l⟩ ⟨a, y1, y2, y3⟩ = 0 := by simp [cmpM, h1, h2, h3, h4]
            rw [e1]
            clear e1 HC h1 h2 h3 h4
            go_enter Tryz.func137, Tryz.ntmps137
            go_wp2_with fail
            go_ret
            exact ⟨rfl, by (repeat (first | assumption | exact Below.refl _ _ | apply below_alloc | apply pw_below_drewN | apply below_drew1))⟩
  · have b0 : (a != y0) = true := bne_iff_ne.mpr h0
    have e1 : cmpM ⟨a, n, s, l⟩ ⟨y0, y1, y2, y3⟩ = Lib.compareInt a y0 := by simp [cmpM, h0]
    rw [e1]
    clear e1 HC h0
    go_enter Tryz.func137, Tryz.ntmps137
    go_wp2_with fail
    refine (cmpInt_any _ _ _).mono ?_
    rintro e w2 ⟨rfl, rfl⟩
    go_wp2_with fail
    go_ret
    exact ⟨rfl, by (repeat (first | assumption | exact Below.refl _ _ | apply below_alloc | apply pw_below_drewN | apply below_drew1))⟩

mutual
theorem cmp_ok : ∀ x : S24, CmpOk x
  | ⟨a, n, s, l⟩ => by
    have hl := cmp_oks l
    intro y A B c d w hr hc hs hd hx hy
    obtain ⟨y0, y1, y2, y3⟩ := y
    simp only [wid] at hx hy
    exact compare_x a n s l y0 y1 y2 y3 A B c d w hr hc hs hd (by omega) (by omega) hl
theorem cmp_oks : ∀ (l : List S24), ∀ x ∈ l, CmpOk x
  | [], x, h => absurd h (List.not_mem_nil)
  | y :: l, x, h => by
    rcases List.mem_cons.1 h with h | h
    · rw [h]; exact cmp_ok y
    · exact cmp_oks l x h
end

def eqM (x y : S24) : Bool := cmpM x y == 0

set_option maxRecDepth 100000 in
theorem Equal_any (x y : S24) (A B : Option Addr) (c d : Nat) (w : World) (hr : Kd.C k24 w A x.f3.length x.f3) (hc : x.f3.length ≤ c) (hs : Kd.C k24 w B y.f3.length y.f3) (hd : y.f3.length ≤ d) (hx : wid x < 9000000) (hy : wid y < 9000000) :
    Calls Tryz.prog 96 #[formV x.f0 x.f1 x.f2 A x.f3.length c, formV y.f0 y.f1 y.f2 B y.f3.length d] w fun e w' => e = .returned (.bool (eqM x y)) ∧ Below w.heap.size w w' := by
  have hu24 := Tryz.underlying24
  have HC := fun w1 h1 h2 => cmp_ok x y A B c d w1 h1 hc h2 hd hx hy
  obtain ⟨a, n, s, l⟩ := x
  obtain ⟨y0, y1, y2, y3⟩ := y
  have HC : Hid _ := HC ((w.alloc (Obj.cells #[.int .i64 a, .int .i64 n, .string s, .slice A l.length c] 24)).alloc (Obj.cells #[.int .i64 y0, .int .i64 y1, .string y2, .slice B y3.length d] 24)) (Kd.C_alloc (Kd.C_alloc hr _) _) (Kd.C_alloc (Kd.C_alloc hs _) _)
  obtain ⟨q, hq⟩ : ∃ q, q = cmpM ⟨a, n, s, l⟩ ⟨y0, y1, y2, y3⟩ := ⟨_, rfl⟩
  unfold eqM
  rw [← hq] at HC ⊢
  clear hr hs hq hx hy
  go_enter Tryz.func96, Tryz.ntmps96
  go_wp2_with fail
  refine Calls.mono HC.out ?_
  rintro e w2 ⟨rfl, B2⟩
  have B3 : Below w.heap.size w w2 := below_after (by (repeat (first | assumption | exact Below.refl _ _ | apply below_alloc | apply pw_below_drewN | apply below_drew1))) B2
  clear B2
  go_wp2_with fail
  go_ret
  exact ⟨rfl, B3⟩

end Go.Proofs.YtcjmplpfebpfpaaGreatDoor
namespace Go.Proofs.YtcjmplpfebpfpaaGreatDoor
open Go.RowKit Go.Proofs Go.Proofs.YtcjmplpfebpfpaaGreatDoorW.PrintWords Go.Proofs.YtcjmplpfebpfpaaGreatDoorW.PrintLast Go.Proofs.YtcjmplpfebpfpaaGreatDoorW.PrintMore PKindNames
set_option linter.unusedVariables false
set_option linter.unusedSimpArgs false

def isNameM (s : ByteArray) : Bool := !resM s && ValidM ⟨1, 0, s, []⟩

set_option maxRecDepth 100000 in
theorem isName_any (s : ByteArray) (w : World) (hl : LeafC ⟨1, 0, s, []⟩) (hs : s.size < 8000000) : Calls Tryz.prog 91 #[.string s] w fun e w' => e = .returned (.bool (isNameM s)) ∧ Below w.heap.size w w' := by
  have hu24 := Tryz.underlying24
  have HV : Hid _ := fun w1 => Valid_any ⟨1, 0, s, []⟩ none 0 w1 (Kd.C_nil _ _) (Nat.le_refl _) ⟨hl, trivial⟩ (by simp [wid, wids]; omega)
  unfold isNameM
  cases hr : resM s with
  | true =>
    go_enter Tryz.func91, Tryz.ntmps91
    go_wp2_with fail
    refine (reserved_any _ _).mono ?_
    rintro e w1 ⟨rfl, B1⟩
    rw [hr]
    go_wp2_with fail
    go_ret
    exact ⟨rfl, B1⟩
  | false =>
    obtain ⟨v, hv⟩ : ∃ v, v = ValidM ⟨1, 0, s, []⟩ := ⟨_, rfl⟩
    rw [← hv] at HV ⊢
    clear hv
    go_enter Tryz.func91, Tryz.ntmps91
    go_wp2_with fail
    refine (reserved_any _ _).mono ?_
    rintro e w1 ⟨rfl, B1⟩
    rw [hr]
    go_wp2_with fail
    refine Calls.mono (HV.out _) ?_
    rintro e w2 ⟨rfl, B2⟩
    have B3 := below_after B1 B2
    clear B1 B2
    go_wp2_with fail
    go_ret
    exact ⟨rfl, B3⟩

set_option maxRecDepth 100000 in
theorem notValid_any (x : S24) (A : Option Addr) (c : Nat) (w : World) (hr : Kd.C k24 w A x.f3.length x.f3) (hc : x.f3.length ≤ c) (hall : allC x) (hn : wid x < 9000000) :
    Calls Tryz.prog 93 #[formV x.f0 x.f1 x.f2 A x.f3.length c] w fun e w' => e = .returned (.bool (!ValidM x)) ∧ Below w.heap.size w w' := by
  have hu24 := Tryz.underlying24
  have HV := fun w1 h1 => Valid_any x A c w1 h1 hc hall hn
  obtain ⟨a, n, s, l⟩ := x
  have HV : Hid _ := HV (w.alloc (Obj.cells #[.int .i64 a, .int .i64 n, .string s, .slice A l.length c] 24)) (Kd.C_alloc hr _)
  obtain ⟨v, hv⟩ : ∃ v, v = ValidM ⟨a, n, s, l⟩ := ⟨_, rfl⟩
  rw [← hv] at HV ⊢
  clear hv hr hall hn
  go_enter Tryz.func93, Tryz.ntmps93
  go_wp2_with fail
  refine Calls.mono HV.out ?_
  rintro e w2 ⟨rfl, B2⟩
  have B3 : Below w.heap.size w w2 := below_after (by (repeat (first | assumption | exact Below.refl _ _ | apply below_alloc | apply pw_below_drewN | apply below_drew1))) B2
  clear B2
  go_wp2_with fail
  go_ret
  exact ⟨rfl, B3⟩

/-- What holds of the loop. -/
def IdxRel (W0 : World) (l : List S24) (R : Bool) (k : Nat) (x8 : Value) (wr : World) : Prop :=
  ∃ (i : Nat), x8 = .int .i64 (i : Int) ∧ k + i = l.length ∧ Below W0.heap.size W0 wr ∧ (l.drop i).any (fun x => !ValidM x) = R

theorem drop_at2 {l : List S24} {i : Nat} {x : S24} (hx : l[i]? = some x) : l.drop i = x :: l.drop (i + 1) := by
  obtain ⟨h, e⟩ := List.getElem?_eq_some_iff.1 hx
  rw [List.drop_eq_getElem_cons h, e]

set_option maxRecDepth 100000 in
set_option maxHeartbeats 4000000 in
theorem indexBad_any (l : List S24) (A : Option Addr) (c : Nat) (w : World) (hr : Kd.C k24 w A l.length l) (hc : l.length ≤ c) (hn : l.length < 9000000) (hq : ∀ x ∈ l, allC x ∧ wid x < 9000000) :
    Calls Tryz.prog 135 #[.slice A l.length c, .func (.func 93) #[] #[]] w fun e w' => ∃ r, e = .returned (.int .i64 r) ∧ decide (0 ≤ r) = l.any (fun x => !ValidM x) ∧ Below w.heap.size w w' := by
  have hu24 := Tryz.underlying24
  obtain ⟨R, hR⟩ : ∃ R, R = l.any (fun x => !ValidM x) := ⟨_, rfl⟩
  rw [← hR]
  have start : Hid (IdxRel w l R l.length (.int .i64 ((0 : Nat) : Int)) w) := ⟨0, rfl, rfl, Below.refl _ _, hR.symm⟩
  have HR : Hid _ := hr
  have HQ : Hid _ := hq
  clear hr hq hR
  go_enter Tryz.func135, Tryz.ntmps135
  go_wp2_with fail
  go_loopg [8] l.length (fun k x8 wr => IdxRel w l R k x8 wr)
  case atStart => exact start.out
  case round =>
    clear start
    obtain ⟨i, rfl, hki, Bl, hV⟩ := hrel
    by_cases hlt : i < l.length
    · obtain ⟨g, rfl⟩ : ∃ g, gk = g + 1 := ⟨gk - 1, by omega⟩
      have e1 : decide (i < l.length) = true := decide_eq_true hlt
      obtain ⟨x, hx⟩ : ∃ x, l[i]? = some x := ⟨l[i], by simp [hlt]⟩
      obtain ⟨ad, A3, c3, rfl, g0, g1, g2, g3, g4, g5⟩ := row_at (Kd.C_below HR.out Bl) hlt hx
      rw [drop_at2 hx, List.any_cons] at hV
      have OK : Hid _ := notValid_any x A3 c3 wr g5 g4 (HQ.out x (List.mem_of_getElem? hx)).1 (HQ.out x (List.mem_of_getElem? hx)).2
      have BL : Hid _ := Bl
      clear Bl g5 hx
      obtain ⟨x0, x1, x2, x3⟩ := x
      cases hv : ValidM ⟨x0, x1, x2, x3⟩ with
      | true =>
        rw [hv] at OK hV
        have HV : Hid _ := hV
        clear hV hv
        go_wp2_with fail
        refine Calls.mono OK.out ?_
        rintro e w2 ⟨rfl, B2⟩
        have B3 : Hid _ := below_after BL.out B2
        clear B2
        go_wp2_with fail
        go_roundg g
        case measure => omega
        case rel => exact ⟨i + 1, by go_num, by omega, B3.out, by simpa using HV.out⟩
      | false =>
        rw [hv] at OK hV
        have HV : Hid _ := hV
        clear hV hv
        go_wp2_with fail
        refine Calls.mono OK.out ?_
        rintro e w2 ⟨rfl, B2⟩
        have B3 : Hid _ := below_after BL.out B2
        clear B2
        go_wp2_with fail
        go_ret
        exact ⟨_, rfl, by have h := HV.out; simp at h; rw [h]; exact decide_eq_true (Int.natCast_nonneg i), B3.out⟩
    · have e1 : decide (i < l.length) = false := decide_eq_false hlt
      have hge2 : l.length ≤ i := by omega
      have e3 : l.drop i = [] := List.drop_eq_nil_of_le (by omega)
      rw [e3] at hV
      have HV : Hid _ := hV
      have BL : Hid _ := Bl
      clear e3 Bl hV
      go_wp2_with fail
      go_ret
      exact ⟨_, rfl, by rw [← HV.out]; rfl, BL.out⟩

theorem anyBad_any (l : List S24) (A : Option Addr) (c : Nat) (w : World) (hr : Kd.C k24 w A l.length l) (hc : l.length ≤ c) (hn : l.length < 9000000) (hq : ∀ x ∈ l, allC x ∧ wid x < 9000000) :
    Calls Tryz.prog 92 #[.slice A l.length c, .func (.func 93) #[] #[]] w fun e w' => e = .returned (.bool (l.any (fun x => !ValidM x))) ∧ Below w.heap.size w w' := by
  have HI : Hid _ := indexBad_any l A c w hr hc hn hq
  obtain ⟨R, hR⟩ : ∃ R, R = l.any (fun x => !ValidM x) := ⟨_, rfl⟩
  rw [← hR] at HI ⊢
  clear hr hq hR
  go_enter Tryz.func92, Tryz.ntmps92
  go_wp2_with fail
  refine Calls.mono HI.out ?_
  rintro e w2 ⟨r, rfl, hr, B2⟩
  go_wp2_with fail
  go_ret
  exact ⟨by rw [← hr]; rfl, B2⟩

end Go.Proofs.YtcjmplpfebpfpaaGreatDoor
