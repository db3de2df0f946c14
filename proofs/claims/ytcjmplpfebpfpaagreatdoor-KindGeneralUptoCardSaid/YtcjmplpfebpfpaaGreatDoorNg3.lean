/- Part 3 of what the law's row leans on (Ng): the print's words and functions, cut to what is reached, and own texts. -/
import Derived.BigQuiet
import Derived.Test.YtcjmplpfebpfpaaGreatDoorNg2
namespace Go.Proofs.YtcjmplpfebpfpaaGreatDoor
open Go.RowKit Go.Proofs Go.Proofs.YtcjmplpfebpfpaaGreatDoorW.PrintWords Go.Proofs.YtcjmplpfebpfpaaGreatDoorW.PrintLast Go.Proofs.YtcjmplpfebpfpaaGreatDoorW.PrintMore PKindInstances
set_option linter.unusedVariables false
set_option linter.unusedSimpArgs false

/-- A solver in memory: its block, its two maps. -/
structure SolvAt (base : Nat) (w : World) (sp vb tb : Nat) (mv mt : List (ByteArray × Value)) : Prop where
  blk : w.heap[sp]? = some (.cells #[.map (some vb), .map (some tb)] 102 (0, 0))
  vars : MapAt w vb (kvs textV mv)
  tos : MapAt w tb (kvs textV mt)
  bs : base ≤ sp
  bv : base ≤ vb
  bt : base ≤ tb
  ne : vb ≠ tb

theorem blk_notMap {w : World} {sp vb : Nat} {cs : Array Value} {t : TypeId} {m : List (Value × Value)} (h : w.heap[sp]? = some (.cells cs t (0, 0))) (hm : MapAt w vb m) : sp ≠ vb := by
  rintro rfl
  obtain ⟨es, c, hb, _⟩ := hm
  rw [h] at hb
  cases hb

theorem SolvAt.lt {base : Nat} {w : World} {sp vb tb : Nat} {mv mt : List (ByteArray × Value)} (h : SolvAt base w sp vb tb mv mt) : sp < w.heap.size := (Array.getElem?_eq_some_iff.1 h.blk).1
theorem SolvAt.below {base : Nat} {w w1 : World} {sp vb tb : Nat} {mv mt : List (ByteArray × Value)} (h : SolvAt base w sp vb tb mv mt) (hb : Below w.heap.size w w1) : SolvAt base w1 sp vb tb mv mt :=
  ⟨(hb.block sp h.lt).trans h.blk, h.vars.kept (grown_of_below hb none) (by simp), h.tos.kept (grown_of_below hb none) (by simp), h.bs, h.bv, h.bt, h.ne⟩
theorem SolvAt.putVars {base : Nat} {w w1 : World} {sp vb tb : Nat} {mv mt mv' : List (ByteArray × Value)} (h : SolvAt base w sp vb tb mv mt) (hm : MapAt w1 vb (kvs textV mv')) (hg : w.grownBy w1 (some vb)) : SolvAt base w1 sp vb tb mv' mt :=
  ⟨(hg.block sp h.lt (by simp; exact blk_notMap h.blk h.vars)).trans h.blk, hm, h.tos.kept hg (by simp; exact fun e => h.ne e.symm), h.bs, h.bv, h.bt, h.ne⟩
theorem SolvAt.putTo {base : Nat} {w w1 : World} {sp vb tb : Nat} {mv mt mt' : List (ByteArray × Value)} (h : SolvAt base w sp vb tb mv mt) (hm : MapAt w1 tb (kvs textV mt')) (hg : w.grownBy w1 (some tb)) : SolvAt base w1 sp vb tb mv mt' :=
  ⟨(hg.block sp h.lt (by simp; exact blk_notMap h.blk h.tos)).trans h.blk, h.vars.kept hg (by simp; exact h.ne), hm, h.bs, h.bv, h.bt, h.ne⟩
theorem SolvAt.c0 {base : Nat} {w : World} {sp vb tb : Nat} {mv mt : List (ByteArray × Value)} (h : SolvAt base w sp vb tb mv mt) : w.cell? ⟨sp, 0, none⟩ = some (.map (some vb)) := by simp [World.cell?, h.blk]
theorem SolvAt.c1 {base : Nat} {w : World} {sp vb tb : Nat} {mv mt : List (ByteArray × Value)} (h : SolvAt base w sp vb tb mv mt) : w.cell? ⟨sp, 1, none⟩ = some (.map (some tb)) := by simp [World.cell?, h.blk]

/-- The variables as the map's entries. -/
def varsV (l : List ByteArray) : List (ByteArray × Value) := l.map fun v => (v, .bool true)
theorem look_vars : ∀ (l : List ByteArray) (v : ByteArray), look (varsV l) v = if v ∈ l then some (.bool true) else none
  | [], v => by simp [varsV, look]
  | a :: l, v => by
    have := look_vars l v
    simp only [varsV] at this
    simp only [varsV, List.map_cons, look, this, List.mem_cons]
    by_cases h : v = a <;> simp [h]
theorem look_bool (l : List ByteArray) (v : ByteArray) : (look (varsV l) v).getD (.bool false) = .bool (decide (v ∈ l)) := by
  rw [look_vars]
  by_cases h : v ∈ l <;> simp [h]
theorem put_vars : ∀ (l : List ByteArray) (v : ByteArray), v ∉ l → putM (varsV l) v (.bool true) = varsV (l ++ [v])
  | [], v, _ => rfl
  | a :: l, v, h => by
    have := put_vars l v (fun e => h (List.mem_cons_of_mem _ e))
    simp only [varsV] at this
    simp only [varsV, List.map_cons, List.cons_append, putM]
    rw [if_neg (fun e => h (by rw [e]; exact List.mem_cons_self)), this]

/-- Whether names are such, each once. -/
def namesM : List ByteArray → List ByteArray → Bool
  | _, [] => true
  | seen, v :: l => if decide (v ∈ seen) || !isNameM v then false else namesM (seen ++ [v]) l
def rowsM (rows : List (List S24)) : Bool := rows.all fun l => !(l.any fun x => !ValidM x)

/-- What holds of the loop over the names. -/
def OpenRel (w : World) (sp vb tb : Nat) (vars : List ByteArray) (R : Bool) (k : Nat) (x17 : Value) (wr : World) : Prop :=
  ∃ (i : Nat), x17 = .int .i64 (i : Int) ∧ k + i = vars.length ∧ SolvAt w.heap.size wr sp vb tb (varsV (vars.take i)) [] ∧ Below w.heap.size w wr ∧ namesM (vars.take i) (vars.drop i) = R

theorem text_at {w : World} {A : Option Addr} {l : List ByteArray} (h : Kd.C Kd.string w A l.length l) {i : Nat} {v : ByteArray} (hv : l[i]? = some v) : ∃ ad, A = some ad ∧ w.cell? (ad.add i) = some (.string v) := by
  have hi : i < l.length := (List.getElem?_eq_some_iff.1 hv).1
  obtain ⟨ad, e, g⟩ := Kd.at_string h (i : Int) (by omega) (by omega)
  refine ⟨ad, e, ?_⟩
  have : rdOf ByteArray.empty l (i : Int) = v := by simp [rdOf, List.getD, hv]
  rw [this] at g
  simpa using g

/-- What holds of the loop over the rows. -/
def OpenRel2 (w : World) (sp vb tb : Nat) (vars : List ByteArray) (rows : List (List S24)) (R : Bool) (k : Nat) (x40 : Value) (wr : World) : Prop :=
  ∃ (i : Nat), x40 = .int .i64 (i : Int) ∧ k + i = rows.length ∧ SolvAt w.heap.size wr sp vb tb (varsV vars) [] ∧ Below w.heap.size w wr ∧ rowsM (rows.drop i) = R

/-- What comes back. -/
def OpenPost (w : World) (sp vb tb : Nat) (vars : List ByteArray) (R : Bool) (e : Ending) (w' : World) : Prop :=
  e = .returned (if R then .tuple #[.pointer (some ⟨sp, 0, none⟩), .bool true] else .tuple #[.pointer none, .bool false]) ∧ (R = true → SolvAt w.heap.size w' sp vb tb (varsV vars) []) ∧ Below w.heap.size w w'

theorem SolvAt.made (w : World) : SolvAt w.heap.size (((w.alloc (.map #[] 0)).alloc (.map #[] 0)).alloc (.cells #[.map (some w.heap.size), .map (some (w.heap.size + 1))] 102)) (w.heap.size + 1 + 1) w.heap.size (w.heap.size + 1) [] [] := by
  have s1 : (w.alloc (.map #[] 0)).heap.size = w.heap.size + 1 := size_new _ _
  have s2 : ((w.alloc (.map #[] 0)).alloc (.map #[] 0)).heap.size = w.heap.size + 1 + 1 := by rw [size_new, s1]
  have h2 := MapAt.made (w.alloc (.map #[] 0))
  rw [s1] at h2
  have h3 := (MapKept.heap_alloc ((w.alloc (.map #[] 0)).alloc (.map #[] 0)) (.cells #[.map (some w.heap.size), .map (some (w.heap.size + 1))] 102)).1
  rw [s2] at h3
  refine ⟨h3, ?_, ?_, by omega, by omega, by omega, by omega⟩
  · exact ((MapAt.made w).kept (World.grownBy_alloc _ _ none) (by simp)).kept (World.grownBy_alloc _ _ none) (by simp)
  · exact h2.kept (World.grownBy_alloc _ _ none) (by simp)

theorem rows_at {w : World} {A : Option Addr} {rows : List (List S24)} (h : Kd.C (Kd.slice 22 k24) w A rows.length rows) {i : Nat} {l : List S24} (hl : rows[i]? = some l) :
    ∃ ad B d, A = some ad ∧ w.cell? (ad.add i) = some (.slice B l.length d) ∧ l.length ≤ d ∧ Kd.C k24 w B l.length l := by
  have hi : i < rows.length := (List.getElem?_eq_some_iff.1 hl).1
  obtain ⟨ad, cs, e, _, hK, hc⟩ := Kd.C_get h ([] : List S24) (i : Int) (by omega) (by omega)
  have e1 : rows.getD (i : Int).toNat [] = l := by simp [List.getD, hl]
  obtain ⟨B, d, rfl, h1, h2⟩ := hK
  rw [e1] at h1 h2 hc
  have := hc 0 _ rfl
  refine ⟨ad, B, d, e, ?_, h1, h2⟩
  have e2 : (i : Int).toNat * (Kd.slice 22 k24).sz + 0 = i := by simp [show (Kd.slice 22 k24).sz = 1 from rfl]
  rw [e2] at this
  exact this

set_option maxRecDepth 100000 in
set_option maxHeartbeats 4000000 in
theorem open_any (vars : List ByteArray) (rows : List (List S24)) (AN AL : Option Addr) (c d : Nat) (w : World) (hv : Kd.C Kd.string w AN vars.length vars) (hc : vars.length ≤ c) (hl : Kd.C (Kd.slice 22 k24) w AL rows.length rows) (hd : rows.length ≤ d)
    (hn : vars.length < 9000000) (hn2 : rows.length < 9000000) (hq : ∀ v ∈ vars, LeafC ⟨1, 0, v, []⟩ ∧ v.size < 8000000) (hr : ∀ l ∈ rows, l.length < 9000000 ∧ ∀ x ∈ l, allC x ∧ wid x < 9000000) :
    Calls Tryz.prog 53 #[.slice AN vars.length c, .slice AL rows.length d] w (OpenPost w (w.heap.size + 1 + 1) w.heap.size (w.heap.size + 1) vars (namesM [] vars && rowsM rows)) := by
  have hu := Tryz.underlying100
  have hu9 := Tryz.underlying9
  obtain ⟨R, hR⟩ : ∃ R, R = namesM [] vars := ⟨_, rfl⟩
  obtain ⟨T, hT⟩ : ∃ T, T = rowsM rows := ⟨_, rfl⟩
  rw [← hR, ← hT]
  have start : Hid (OpenRel w (w.heap.size + 1 + 1) w.heap.size (w.heap.size + 1) vars R vars.length (.int .i64 ((0 : Nat) : Int)) (((w.alloc (.map #[] 0)).alloc (.map #[] 0)).alloc (.cells #[.map (some w.heap.size), .map (some (w.heap.size + 1))] 102))) := ⟨0, rfl, rfl, SolvAt.made w, by (repeat (first | assumption | exact Below.refl _ _ | apply below_alloc | apply pw_below_drewN | apply below_drew1)), hR.symm⟩
  have HVV : Hid _ := hv
  have HLL : Hid _ := hl
  have HQ : Hid _ := hq
  have HR2 : Hid _ := hr
  have HT : Hid _ := hT
  clear hv hl hq hr hR hT
  go_enter Tryz.func53, Tryz.ntmps53
  go_wp2_with fail
  simp only [run_makeMap]
  go_wp2_with fail
  simp only [run_makeMap]
  go_wp2_with fail
  go_loopg [17] vars.length (fun k x17 wr => OpenRel w (w.heap.size + 1 + 1) w.heap.size (w.heap.size + 1) vars R k x17 wr)
  case atStart => exact start.out
  case round =>
    clear start
    obtain ⟨i, rfl, hki, hS, hB, hV⟩ := hrel
    by_cases hlt : i < vars.length
    · obtain ⟨g, rfl⟩ : ∃ g, gk = g + 1 := ⟨gk - 1, by omega⟩
      have e1 : decide (i < vars.length) = true := decide_eq_true hlt
      obtain ⟨v, hv⟩ : ∃ v, vars[i]? = some v := ⟨vars[i], by simp [hlt]⟩
      obtain ⟨ad, rfl, g0⟩ := text_at (Kd.C_below HVV.out hB) hv
      have hdr : vars.drop i = v :: vars.drop (i + 1) := by
        obtain ⟨h, e⟩ := List.getElem?_eq_some_iff.1 hv
        rw [List.drop_eq_getElem_cons h, e]
      have htk : vars.take (i + 1) = vars.take i ++ [v] := by rw [List.take_add_one, hv]; rfl
      rw [hdr] at hV
      have c0 := hS.c0
      have hz : (zeroValue 4).run Tryz.prog wr = .ok (.bool false) wr := by go_simp
      have NM : Hid (∀ w, Calls Tryz.prog 91 #[.string v] w fun e w' => e = .returned (.bool (isNameM v)) ∧ Below w.heap.size w w') := fun w => isName_any v w (HQ.out v (List.mem_of_getElem? hv)).1 (HQ.out v (List.mem_of_getElem? hv)).2
      have SH : Hid _ := hS
      have BH : Hid _ := hB
      have TK : Hid _ := htk
      clear hS hB hdr hv htk
      simp only [namesM] at hV
      cases hmem : decide (v ∈ vars.take i) with
      | true =>
        rw [hmem] at hV
        simp only [Bool.true_or, if_true] at hV
        subst hV
        go_wp2_with (first | (refine law_lookup keyText' rfl _ _ false rfl hu hu9 hz SH.out.vars v rfl rfl ?_; rw [if_neg (by simp), look_bool, hmem]))
        go_ret2
        exact ⟨rfl, fun h => absurd h (by simp), BH.out⟩
      | false =>
        rw [hmem] at hV
        have hmem2 : v ∉ vars.take i := of_decide_eq_false hmem
        obtain ⟨q, hq⟩ : ∃ q, q = isNameM v := ⟨_, rfl⟩
        rw [← hq] at hV NM
        clear hq
        cases q with
        | false =>
          simp only [Bool.false_or, Bool.not_false, if_true] at hV
          subst hV
          go_wp2_with (first | (refine law_lookup keyText' rfl _ _ false rfl hu hu9 hz SH.out.vars v rfl rfl ?_; rw [if_neg (by simp), look_bool, hmem]))
          refine Calls.mono (NM.out _) ?_
          rintro e w2 ⟨rfl, B2⟩
          have B3 : Hid _ := below_after BH.out B2
          clear B2
          go_wp2_with fail
          go_ret2
          exact ⟨rfl, fun h => absurd h (by simp), B3.out⟩
        | true =>
          simp only [Bool.false_or, Bool.not_true, Bool.false_eq_true, if_false] at hV
          go_wp2_with (first | (refine law_lookup keyText' rfl _ _ false rfl hu hu9 hz SH.out.vars v rfl rfl ?_; rw [if_neg (by simp), look_bool, hmem]))
          refine Calls.mono (NM.out _) ?_
          rintro e w2 ⟨rfl, B2⟩
          have S2 := SH.out.below B2
          have B3 : Hid _ := below_after BH.out B2
          have c02 := S2.c0
          have V2 : Hid _ := S2.vars
          have SH2 : Hid _ := S2
          clear B2 S2
          go_wp2_with (first | (refine law_update keyText' rfl _ _ _ (.inl rfl) hu hu9 V2.out v (.bool true) rfl rfl rfl ?_; intro w3 M3 G3))
          rw [put_vars _ _ hmem2, ← TK.out] at M3
          have S3 : Hid _ := SH2.out.putVars M3 G3
          have B4 : Hid _ := below_grown1 B3.out G3 (Nat.le_refl _)
          have HV : Hid _ := hV
          clear M3 G3 hV
          go_roundg g
          case measure => omega
          case rel => exact ⟨i + 1, by go_num, by omega, S3.out, B4.out, by rw [TK.out]; exact HV.out⟩
    · have e1 : decide (i < vars.length) = false := decide_eq_false hlt
      have hge2 : vars.length ≤ i := by omega
      have e3 : vars.drop i = [] := List.drop_eq_nil_of_le (by omega)
      have e4 : vars.take i = vars := List.take_of_length_le (by omega)
      rw [e3, e4] at hV
      rw [e4] at hS
      simp only [namesM] at hV
      subst hV
      have start2 : Hid (OpenRel2 w (w.heap.size + 1 + 1) w.heap.size (w.heap.size + 1) vars rows T rows.length (.int .i64 ((0 : Nat) : Int)) wr) := ⟨0, rfl, rfl, hS, hB, HT.out.symm⟩
      clear hS hB e3 e4
      go_wp2_with fail
      go_loopg [40] rows.length (fun k x40 w1 => OpenRel2 w (w.heap.size + 1 + 1) w.heap.size (w.heap.size + 1) vars rows T k x40 w1)
      case atStart => exact start2.out
      case round =>
        clear start2
        obtain ⟨j, rfl, hkj, hS, hB, hV⟩ := hrel
        by_cases hjt : j < rows.length
        · obtain ⟨g, rfl⟩ : ∃ g, gk = g + 1 := ⟨gk - 1, by omega⟩
          have e1 : decide (j < rows.length) = true := decide_eq_true hjt
          obtain ⟨l, hl⟩ : ∃ l, rows[j]? = some l := ⟨rows[j], by simp [hjt]⟩
          obtain ⟨ad, B, db, rfl, g0, g1, g2⟩ := rows_at (Kd.C_below HLL.out hB) hl
          have hdr : rows.drop j = l :: rows.drop (j + 1) := by
            obtain ⟨h, e⟩ := List.getElem?_eq_some_iff.1 hl
            rw [List.drop_eq_getElem_cons h, e]
          rw [hdr] at hV
          have hRl := HR2.out l (List.mem_of_getElem? hl)
          have AB : Hid _ := anyBad_any l B db _ g2 g1 hRl.1 hRl.2
          have SH : Hid _ := hS
          have BH : Hid _ := hB
          clear hS hB g2 hRl hdr hl
          simp only [rowsM, List.all_cons] at hV
          obtain ⟨q, hq⟩ : ∃ q, q = l.any (fun x => !ValidM x) := ⟨_, rfl⟩
          rw [← hq] at hV AB
          clear hq
          cases q with
          | true =>
            simp only [Bool.not_true, Bool.false_and] at hV
            subst hV
            go_wp2_with fail
            refine Calls.mono AB.out ?_
            rintro e w2 ⟨rfl, B2⟩
            have B3 : Hid _ := below_after BH.out B2
            clear B2
            go_wp2_with fail
            go_ret2
            exact ⟨rfl, fun h => absurd h (by simp), B3.out⟩
          | false =>
            simp only [Bool.not_false, Bool.true_and] at hV
            have HV : Hid (rowsM (rows.drop (j + 1)) = T) := hV
            clear hV
            go_wp2_with fail
            refine Calls.mono AB.out ?_
            rintro e w2 ⟨rfl, B2⟩
            have B3 : Hid _ := below_after BH.out B2
            have S3 : Hid _ := SH.out.below B2
            clear B2
            go_wp2_with fail
            go_roundg g
            case measure => omega
            case rel => exact ⟨j + 1, by go_num, by omega, S3.out, B3.out, HV.out⟩
        · have e1 : decide (j < rows.length) = false := decide_eq_false hjt
          have hge3 : rows.length ≤ j := by omega
          have e3 : rows.drop j = [] := List.drop_eq_nil_of_le (by omega)
          rw [e3] at hV
          have hT2 : T = true := by rw [← hV]; rfl
          subst hT2
          have SH : Hid _ := hS
          have BH : Hid _ := hB
          clear hS hB hV e3
          go_wp2_with fail
          go_ret2
          exact ⟨rfl, fun _ => SH.out, BH.out⟩

end Go.Proofs.YtcjmplpfebpfpaaGreatDoor

namespace Go.Proofs.YtcjmplpfebpfpaaGreatDoor
open Go.RowKit Go.Proofs Go.Proofs.YtcjmplpfebpfpaaGreatDoorW.PrintWords Go.Proofs.YtcjmplpfebpfpaaGreatDoorW.PrintLast Go.Proofs.YtcjmplpfebpfpaaGreatDoorW.PrintMore PKindInstances
set_option linter.unusedVariables false
set_option linter.unusedSimpArgs false

/-- A form as a value whose parts lie in memory. -/
def FormAt (W0 : World) (v : Value) (x : S24) : Prop := ∃ A c, v = formV x.f0 x.f1 x.f2 A x.f3.length c ∧ Kd.C k24 W0 A x.f3.length x.f3 ∧ x.f3.length ≤ c ∧ wid x < 9000000

/-- What is known of the variables, and the map's entries. -/
def ToAt (W0 : World) : List (ByteArray × S24) → List (ByteArray × Value) → Prop
  | [], [] => True
  | (a, x) :: m, (b, v) :: n => a = b ∧ FormAt W0 v x ∧ ToAt W0 m n
  | _, _ => False

def lookT : List (ByteArray × S24) → ByteArray → Option S24
  | [], _ => none
  | (a, x) :: m, k => if k = a then some x else lookT m k
def putT : List (ByteArray × S24) → ByteArray → S24 → List (ByteArray × S24)
  | [], k, x => [(k, x)]
  | (a, y) :: m, k, x => if k = a then (a, x) :: m else (a, y) :: putT m k x

theorem look_to {W0 : World} : ∀ {m : List (ByteArray × S24)} {n : List (ByteArray × Value)}, ToAt W0 m n → ∀ k, (lookT m k = none ∧ look n k = none) ∨ ∃ x v, lookT m k = some x ∧ look n k = some v ∧ FormAt W0 v x
  | [], [], _, k => .inl ⟨rfl, rfl⟩
  | (a, x) :: m, (b, v) :: n, h, k => by
    obtain ⟨rfl, h1, h2⟩ := h
    by_cases hk : k = a
    · exact .inr ⟨x, v, by simp [lookT, hk], by simp [look, hk], h1⟩
    · rcases look_to h2 k with ⟨e1, e2⟩ | ⟨y, u, e1, e2, e3⟩
      · exact .inl ⟨by simp [lookT, hk, e1], by simp [look, hk, e2]⟩
      · exact .inr ⟨y, u, by simp [lookT, hk, e1], by simp [look, hk, e2], e3⟩
theorem put_to {W0 : World} : ∀ {m : List (ByteArray × S24)} {n : List (ByteArray × Value)}, ToAt W0 m n → ∀ (k : ByteArray) {x : S24} {v : Value}, FormAt W0 v x → ToAt W0 (putT m k x) (putM n k v)
  | [], [], _, k, x, v, h => ⟨rfl, h, trivial⟩
  | (a, y) :: m, (b, u) :: n, h, k, x, v, hx => by
    obtain ⟨rfl, h1, h2⟩ := h
    by_cases hk : k = a
    · simp only [putT, putM, hk, if_true]
      exact ⟨rfl, hx, h2⟩
    · simp only [putT, putM, if_neg hk]
      exact ⟨rfl, h1, put_to h2 k hx⟩

/-- A form with what is known of its outermost variable. -/
def knownM (vs : List ByteArray) (mt : List (ByteArray × S24)) : Nat → S24 → Option S24
  | 0, _ => none
  | n + 1, x => if x.f0 = 1 ∧ x.f2 ∈ vs then (match lookT mt x.f2 with | none => some x | some y => knownM vs mt n y) else some x

/-- What holds of the loop. -/
def KnRel (W0 w : World) (vs : List ByteArray) (mt : List (ByteArray × S24)) (y : S24) (k : Nat) (wr : World) : Prop :=
  ∃ (x : S24) (A : Option Addr) (c : Nat), wr.heap[w.heap.size]? = some (.cells #[.int .i64 x.f0, .int .i64 x.f1, .string x.f2, .slice A x.f3.length c] 24 (0, 0)) ∧
    wr.heap[w.heap.size + 1]? = some (.cells #[.int .i64 0, .int .i64 0, .string ⟨#[]⟩, .slice none 0 0] 24 (0, 0)) ∧
    Kd.C k24 W0 A x.f3.length x.f3 ∧ x.f3.length ≤ c ∧ Below w.heap.size w wr ∧ wid x < 9000000 ∧ knownM vs mt k x = some y

theorem cells4 {w : World} {b : Nat} {v0 v1 v2 v3 : Value} {t : TypeId} (h : w.heap[b]? = some (.cells #[v0, v1, v2, v3] t (0, 0))) :
    w.cell? ⟨b, 0, none⟩ = some v0 ∧ w.cell? ⟨b, 1, none⟩ = some v1 ∧ w.cell? ⟨b, 2, none⟩ = some v2 ∧ w.cell? ⟨b, 3, none⟩ = some v3 := by
  refine ⟨?_, ?_, ?_, ?_⟩ <;> simp [World.cell?, h]
theorem frozen4 {w : World} {b i : Nat} {cs : Array Value} {t : TypeId} (h : w.heap[b]? = some (.cells cs t (0, 0))) : w.frozen? ⟨b, i, none⟩ = false := by
  simp [World.frozen?, h]

theorem set4 {w : World} {b : Nat} {v0 v1 v2 v3 a0 a1 a2 a3 : Value} {t : TypeId} (h : w.heap[b]? = some (.cells #[v0, v1, v2, v3] t (0, 0))) :
    ((((w.setCell ⟨b, 0, none⟩ a0).setCell ⟨b, 1, none⟩ a1).setCell ⟨b, 2, none⟩ a2).setCell ⟨b, 3, none⟩ a3).heap[b]? = some (.cells #[a0, a1, a2, a3] t (0, 0)) :=
  heap_setCell_same _ b 3 #[a0, a1, a2, v3] t a3 (heap_setCell_same _ b 2 #[a0, a1, v2, v3] t a2 (heap_setCell_same _ b 1 #[a0, v1, v2, v3] t a1 (heap_setCell_same w b 0 #[v0, v1, v2, v3] t a0 h)))
theorem below4 {base : Nat} {w0 w : World} {b : Nat} {a0 a1 a2 a3 : Value} (h : Below base w0 w) (hb : base ≤ b) :
    Below base w0 ((((w.setCell ⟨b, 0, none⟩ a0).setCell ⟨b, 1, none⟩ a1).setCell ⟨b, 2, none⟩ a2).setCell ⟨b, 3, none⟩ a3) := (((h.setCell hb _).setCell hb _).setCell hb _).setCell hb _
theorem stay4 {w : World} {b k : Nat} {a0 a1 a2 a3 : Value} (h : k ≠ b) :
    ((((w.setCell ⟨b, 0, none⟩ a0).setCell ⟨b, 1, none⟩ a1).setCell ⟨b, 2, none⟩ a2).setCell ⟨b, 3, none⟩ a3).heap[k]? = w.heap[k]? :=
  (heap_setCell_other _ ⟨b, 3, none⟩ k _ h).trans ((heap_setCell_other _ ⟨b, 2, none⟩ k _ h).trans ((heap_setCell_other _ ⟨b, 1, none⟩ k _ h).trans (heap_setCell_other _ ⟨b, 0, none⟩ k _ h)))
theorem heap_drewN (w : World) (b n : Nat) : (w.drewN n).heap[b]? = w.heap[b]? := by
  induction n generalizing w with
  | zero => rfl
  | succ n ih => exact ih w.drew

theorem look_drewN {base : Nat} {w : World} {sp vb tb : Nat} {vs : List ByteArray} {mt : List (ByteArray × Value)} (h : SolvAt base w sp vb tb (varsV vs) mt) (x : ByteArray) (m : Nat) :
    (Instr.lookup 100 (.map (some vb)) (.string x) false).run Tryz.prog (w.drewN m) = .ok (.bool (decide (x ∈ vs))) (w.drewN m) := by
  have hz : (zeroValue 4).run Tryz.prog (w.drewN m) = .ok (.bool false) (w.drewN m) := by go_simp
  have hm : MapAt (w.drewN m) vb (kvs textV (varsV vs)) := by
    obtain ⟨es, c, hb, he⟩ := h.vars
    exact ⟨es, c, (heap_drewN _ _ _).trans hb, he⟩
  have r := run_lookup_at keyText' Tryz.underlying100 Tryz.underlying9 hz hm x false
  rw [if_neg (by simp), look_bool] at r
  exact r

set_option maxRecDepth 100000 in
set_option maxHeartbeats 4000000 in
theorem known_any (W0 w : World) (base sp vb tb : Nat) (vs : List ByteArray) (mt : List (ByteArray × S24)) (mtv : List (ByteArray × Value)) (hs : SolvAt base w sp vb tb (varsV vs) mtv) (ht : ToAt W0 mt mtv)
    (hw : Below W0.heap.size W0 w) (x : S24) (A : Option Addr) (c : Nat) (hr : Kd.C k24 W0 A x.f3.length x.f3) (hc : x.f3.length ≤ c) (hx : wid x < 9000000) (n : Nat) (y : S24) (hk : knownM vs mt n x = some y) :
    Calls Tryz.prog 94 #[.pointer (some ⟨sp, 0, none⟩), formV x.f0 x.f1 x.f2 A x.f3.length c] w fun e w' => ∃ u, e = .returned u ∧ FormAt W0 u y ∧ Below w.heap.size w w' := by
  have hu24 := Tryz.underlying24
  have hu := Tryz.underlying100
  have hu72 := Tryz.underlying72
  have hu9 := Tryz.underlying9
  obtain ⟨a, bb, s, l⟩ := x
  have h2 : ((w.alloc (Obj.cells #[.int .i64 a, .int .i64 bb, .string s, .slice A l.length c] 24)).alloc (Obj.cells #[.int .i64 0, .int .i64 0, .string ⟨#[]⟩, .slice none 0 0] 24)).heap[w.heap.size + 1]? = some (.cells #[.int .i64 0, .int .i64 0, .string ⟨#[]⟩, .slice none 0 0] 24 (0, 0)) := by
    have h := (MapKept.heap_alloc (w.alloc (Obj.cells #[.int .i64 a, .int .i64 bb, .string s, .slice A l.length c] 24)) (Obj.cells #[.int .i64 0, .int .i64 0, .string ⟨#[]⟩, .slice none 0 0] 24)).1
    rw [size_new] at h
    exact h
  have h1 : ((w.alloc (Obj.cells #[.int .i64 a, .int .i64 bb, .string s, .slice A l.length c] 24)).alloc (Obj.cells #[.int .i64 0, .int .i64 0, .string ⟨#[]⟩, .slice none 0 0] 24)).heap[w.heap.size]? = some (.cells #[.int .i64 a, .int .i64 bb, .string s, .slice A l.length c] 24 (0, 0)) := by
    refine (Below.heap_alloc _ _ _ ?_).trans (MapKept.heap_alloc w _).1
    rw [size_new]; omega
  have start : Hid (KnRel W0 w vs mt y n ((w.alloc (Obj.cells #[.int .i64 a, .int .i64 bb, .string s, .slice A l.length c] 24)).alloc (Obj.cells #[.int .i64 0, .int .i64 0, .string ⟨#[]⟩, .slice none 0 0] 24))) :=
    ⟨⟨a, bb, s, l⟩, A, c, h1, h2, hr, hc, by (repeat (first | assumption | exact Below.refl _ _ | apply below_alloc)), hx, hk⟩
  have HS : Hid _ := hs
  have HT : Hid _ := ht
  clear hs ht hr hk h1 h2
  go_enter Tryz.func94, Tryz.ntmps94
  go_wp2_with fail
  go_loopg [] n (fun k wr => KnRel W0 w vs mt y k wr)
  case atStart => exact start.out
  case round =>
    clear start
    obtain ⟨⟨x0, x1, x2, x3⟩, A3, c3, hb1, hb2, hr3, hc3, hB, hsz, hK⟩ := hrel
    have hS := SolvAt.below HS.out hB
    obtain ⟨q0, q1, q2, q3⟩ := cells4 hb1
    obtain ⟨p0, p1, p2, p3⟩ := cells4 hb2
    have c0 := hS.c0
    have c1 := hS.c1
    have r1 := fun m => look_drewN hS x2 m
    cases gk with
    | zero => simp [knownM] at hK
    | succ g =>
      simp only [knownM] at hK
      by_cases h0 : x0 = 1
      · subst h0
        cases hm : decide (x2 ∈ vs) with
        | false =>
          rw [hm] at r1
          have hm2 : x2 ∉ vs := of_decide_eq_false hm
          rw [if_neg (fun e => hm2 e.2)] at hK
          obtain rfl := Option.some.inj hK
          have HH2 : Hid _ := hb2
          have RR : Hid _ := hr3
          have BB : Hid _ := hB
          have f0 := frozen4 (i := 0) hb2
          have f1 := frozen4 (i := 1) hb2
          have f2 := frozen4 (i := 2) hb2
          have f3 := frozen4 (i := 3) hb2
          clear hK hm hm2 hr3 hB hb1 hb2 hS
          go_wp2_with fail
          go_quiet (fail)
          go_wp2_with fail
          refine bodyPost_ret (results_cell_row rfl _ _ (w.heap.size + 1) 24 #[.int .i64 1, .int .i64 x1, .string x2, .slice A3 x3.length c3] (0, 0) _ rfl (set4 ((heap_drewN _ _ _).trans HH2.out)) Tryz.underlying24 rfl (by kernel_rfl)) rfl ?_
          exact ⟨_, rfl, ⟨A3, c3, rfl, RR.out, hc3, hsz⟩, below4 (pw_below_drewN BB.out _) (by omega)⟩
        | true =>
          rw [hm] at r1
          have hm2 : x2 ∈ vs := of_decide_eq_true hm
          rw [if_pos ⟨rfl, hm2⟩] at hK
          have HK : Hid _ := hK
          have RR : Hid _ := hr3
          have HB1 : Hid _ := hb1
          have HB2 : Hid _ := hb2
          have SS : Hid _ := hS
          have BB : Hid _ := hB
          clear hK hm hm2 hr3 hB hb1 hb2 hS
          go_wp2_with fail
          go_quiet (fail)
          have BD : Below wr.heap.size wr (wr.drewN nq) := pw_below_drewN (Below.refl _ _) nq
          clear q0 q1 q2 q3 p0 p1 p2 p3 c0 c1 r1
          generalize wr.drewN nq = w1 at *
          have B1 : Hid _ := below_after BB.out BD
          have S1 : Hid _ := SS.out.below BD
          have hb1 := (BD.block _ (Array.getElem?_eq_some_iff.1 HB1.out).1).trans HB1.out
          have hb2 := (BD.block _ (Array.getElem?_eq_some_iff.1 HB2.out).1).trans HB2.out
          obtain ⟨q0, q1, q2, q3⟩ := cells4 hb1
          obtain ⟨p0, p1, p2, p3⟩ := cells4 hb2
          have c1 := S1.out.c1
          have H1 : Hid _ := hb1
          have H2 : Hid _ := hb2
          have hz1 : (zeroValue 24).run Tryz.prog w1.drew = .ok (formV 0 0 ⟨#[]⟩ none 0 0) w1.drew := by go_simp
          have hz2 : (zeroValue 24).run Tryz.prog (w1.alloc (Obj.cells #[.int .i64 0, .int .i64 0, .string ⟨#[]⟩, .slice none 0 0] 24)).drew = .ok (formV 0 0 ⟨#[]⟩ none 0 0) (w1.alloc (Obj.cells #[.int .i64 0, .int .i64 0, .string ⟨#[]⟩, .slice none 0 0] 24)).drew := by go_simp
          have r1 := run_lookup_at keyText' hu72 hu9 hz1 (show MapAt w1.drew tb _ from S1.out.tos) x2 true
          have r2 := run_lookup_at keyText' hu72 hu9 hz2 (show MapAt (w1.alloc (Obj.cells #[.int .i64 0, .int .i64 0, .string ⟨#[]⟩, .slice none 0 0] 24)).drew tb _ from (show MapAt (w1.alloc (Obj.cells #[.int .i64 0, .int .i64 0, .string ⟨#[]⟩, .slice none 0 0] 24)) tb _ from S1.out.tos.kept (World.grownBy_alloc _ _ none) (by simp))) x2 true
          rw [if_pos rfl] at r1 r2
          change (Instr.lookup 72 (.map (some tb)) (.string x2) true).run Tryz.prog _ = _ at r1
          change (Instr.lookup 72 (.map (some tb)) (.string x2) true).run Tryz.prog _ = _ at r2
          have q2' := pw_cell_below (below_alloc (Below.refl _ _) (Obj.cells #[.int .i64 0, .int .i64 0, .string ⟨#[]⟩, .slice none 0 0] 24)) q2
          have c1' := pw_cell_below (below_alloc (Below.refl _ _) (Obj.cells #[.int .i64 0, .int .i64 0, .string ⟨#[]⟩, .slice none 0 0] 24)) c1
          clear BD hb1 hb2 hz1 hz2
          rcases look_to HT.out x2 with ⟨e1, e2⟩ | ⟨y1, u1, e1, e2, e3⟩
          · have hK := HK.out
            rw [e1] at hK
            obtain rfl := Option.some.inj hK
            rw [e2] at r1 r2
            simp only [Option.getD_none, Option.isSome_none] at r1 r2
            clear hK e1 e2
            have al := fun {p v} h => pw_cell_below (a := p) (v := v) (below_alloc (Below.refl _ w1) (Obj.cells #[.int .i64 0, .int .i64 0, .string ⟨#[]⟩, .slice none 0 0] 24)) h
            have q0' := al q0
            have q1' := al q1
            have q3' := al q3
            have p0' := al p0
            have p1' := al p1
            have p2' := al p2
            have p3' := al p3
            have f0 := frozen4 (i := 0) H2.out
            have f1 := frozen4 (i := 1) H2.out
            have f2 := frozen4 (i := 2) H2.out
            have f3 := frozen4 (i := 3) H2.out
            have ha : (w1.alloc (Obj.cells #[.int .i64 0, .int .i64 0, .string ⟨#[]⟩, .slice none 0 0] 24)).heap[w.heap.size + 1]? = _ := (Below.heap_alloc w1 _ _ (Array.getElem?_eq_some_iff.1 H2.out).1).trans H2.out
            have HA : Hid _ := ha
            have f0' := frozen4 (i := 0) ha
            have f1' := frozen4 (i := 1) ha
            have f2' := frozen4 (i := 2) ha
            have f3' := frozen4 (i := 3) ha
            clear al ha
            go_wp2_with fail
            go_region
            all_goals
              go_wp2_with fail
              refine bodyPost_ret (results_cell_row rfl _ _ (w.heap.size + 1) 24 #[.int .i64 1, .int .i64 x1, .string x2, .slice A3 x3.length c3] (0, 0) _ rfl (set4 HA.out) Tryz.underlying24 rfl (by kernel_rfl)) rfl ?_
              exact ⟨_, rfl, ⟨A3, c3, rfl, RR.out, hc3, hsz⟩, below_drew (below4 (below_alloc B1.out _) (by omega))⟩
          · have hK := HK.out
            rw [e1] at hK
            simp only [] at hK
            obtain ⟨A5, c5, rfl, e4, e5, e6⟩ := e3
            rw [e2] at r1 r2
            simp only [Option.getD_some, Option.isSome_some] at r1 r2
            obtain ⟨y0, y1, y2, y3⟩ := y1
            have F4 : Hid _ := e4
            have K4 : Hid _ := hK
            have ha : (w1.alloc (Obj.cells #[.int .i64 y0, .int .i64 y1, .string y2, .slice A5 y3.length c5] 24)).heap[w.heap.size]? = _ := (Below.heap_alloc w1 _ _ (Array.getElem?_eq_some_iff.1 H1.out).1).trans H1.out
            have ha2 : (w1.alloc (Obj.cells #[.int .i64 y0, .int .i64 y1, .string y2, .slice A5 y3.length c5] 24)).heap[w.heap.size + 1]? = _ := (Below.heap_alloc w1 _ _ (Array.getElem?_eq_some_iff.1 H2.out).1).trans H2.out
            have HA : Hid _ := ha
            have HA2 : Hid _ := ha2
            have f0' := frozen4 (i := 0) ha
            have f1' := frozen4 (i := 1) ha
            have f2' := frozen4 (i := 2) ha
            have f3' := frozen4 (i := 3) ha
            obtain ⟨t0, t1, t2, t3⟩ := cells4 ha
            clear e1 e2 e4 hK ha ha2 p0 p1 p2 p3 q0 q1 q3
            go_wp2_with fail
            go_region
            all_goals
              go_wp2_with fail
              go_roundg g
              case measure => omega
              case rel => exact ⟨⟨y0, y1, y2, y3⟩, A5, c5, set4 HA.out, (stay4 (by omega)).trans HA2.out, F4.out, e5, below_drew (below4 (below_alloc B1.out _) (Nat.le_refl _)), e6, K4.out⟩
      · have b0 : (x0 == 1) = false := beq_eq_false_iff_ne.mpr h0
        rw [if_neg (fun e => h0 e.1)] at hK
        obtain rfl := Option.some.inj hK
        clear hK r1
        go_wp2_with fail
        go_quiet (fail)
        have f0 := frozen4 (i := 0) hb2
        have f1 := frozen4 (i := 1) hb2
        have f2 := frozen4 (i := 2) hb2
        have f3 := frozen4 (i := 3) hb2
        go_wp2_with fail
        refine bodyPost_ret (results_cell_row rfl _ _ (w.heap.size + 1) 24 #[.int .i64 x0, .int .i64 x1, .string x2, .slice A3 x3.length c3] (0, 0) _ rfl (set4 ((heap_drewN _ _ _).trans hb2)) Tryz.underlying24 rfl (by kernel_rfl)) rfl ?_
        exact ⟨_, rfl, ⟨A3, c3, rfl, hr3, hc3, hsz⟩, below4 (pw_below_drewN hB _) (by omega)⟩

end Go.Proofs.YtcjmplpfebpfpaaGreatDoor

namespace Go.Proofs.YtcjmplpfebpfpaaGreatDoor
open Go.RowKit Go.Proofs Go.Proofs.YtcjmplpfebpfpaaGreatDoorW.PrintWords Go.Proofs.YtcjmplpfebpfpaaGreatDoorW.PrintLast Go.Proofs.YtcjmplpfebpfpaaGreatDoorW.PrintMore PKindInstances
set_option linter.unusedVariables false
set_option linter.unusedSimpArgs false

def withinL (f : S24 → Bool → Option Bool) (fn : Bool) : Bool → List S24 → Option Bool
  | _, [] => some false
  | first, k :: l => match f k (fn && first && (k.f0 == 3)) with | none => none | some true => some true | some false => withinL f fn false l
/-- Whether a variable stands in a type. -/
def withinM (vs : List ByteArray) (mt : List (ByteArray × S24)) : Nat → ByteArray → S24 → Bool → Option Bool
  | 0, _, _, _ => none
  | n + 1, name, x, bare =>
    match (if bare then some x else knownM vs mt n x) with
    | none => none
    | some t => if t.f0 = 1 then some (!bare && t.f2.toList == name.toList) else withinL (withinM vs mt n name) (!bare && isFunW (headOf t.f0 t.f3)) true (typesL t.f0 t.f3 bare)

theorem FormAt.below {W w : World} {v : Value} {x : S24} (h : FormAt W v x) (hb : Below W.heap.size W w) : FormAt w v x := by
  obtain ⟨A, c, e, h1, h2, h3⟩ := h
  exact ⟨A, c, e, Kd.C_below h1 hb, h2, h3⟩
theorem ToAt.below {W w : World} (hb : Below W.heap.size W w) : ∀ {m : List (ByteArray × S24)} {n : List (ByteArray × Value)}, ToAt W m n → ToAt w m n
  | [], [], _ => trivial
  | (a, x) :: m, (b, v) :: n, h => ⟨h.1, h.2.1.below hb, ToAt.below hb h.2.2⟩

def WithinOk (vs : List ByteArray) (mt : List (ByteArray × S24)) (mtv : List (ByteArray × Value)) (n : Nat) : Prop :=
  ∀ (base sp vb tb : Nat) (w : World) (name : ByteArray) (x : S24) (bare : Bool) (A : Option Addr) (c : Nat) (r : Bool), SolvAt base w sp vb tb (varsV vs) mtv → ToAt w mt mtv →
    Kd.C k24 w A x.f3.length x.f3 → x.f3.length ≤ c → wid x < 9000000 → withinM vs mt n name x bare = some r →
    Calls Tryz.prog 136 #[.pointer (some ⟨sp, 0, none⟩), .string name, formV x.f0 x.f1 x.f2 A x.f3.length c, .bool bare] w fun e w' => e = .returned (.bool r) ∧ Below w.heap.size w w'

/-- What holds of the loop. -/
def WiRel (W1 : World) (f : S24 → Bool → Option Bool) (fn : Bool) (ys : List S24) (r : Bool) (k : Nat) (x39 : Value) (wr : World) : Prop :=
  ∃ i, x39 = .int .i64 ((i : Nat) : Int) ∧ k + i = ys.length ∧ Below W1.heap.size W1 wr ∧ withinL f fn (decide (i = 0)) (ys.drop i) = some r

theorem drop_at3 {l : List S24} {i : Nat} {x : S24} (hx : l[i]? = some x) : l.drop i = x :: l.drop (i + 1) := by
  obtain ⟨h, e⟩ := List.getElem?_eq_some_iff.1 hx
  rw [List.drop_eq_getElem_cons h, e]
theorem below_self4 {w w1 : World} {a0 a1 a2 a3 : Value} (h : Below w.heap.size w w1) : Below w.heap.size w ((((w1.setCell ⟨w.heap.size, 0, none⟩ a0).setCell ⟨w.heap.size, 1, none⟩ a1).setCell ⟨w.heap.size, 2, none⟩ a2).setCell ⟨w.heap.size, 3, none⟩ a3) := below4 h (Nat.le_refl _)
theorem box_heap {w w1 : World} {o : Obj} (h : Below (w.alloc o).heap.size (w.alloc o) w1) : w1.heap[w.heap.size]? = some o :=
  (h.block _ (by rw [size_new]; omega)).trans (MapKept.heap_alloc w o).1

set_option maxRecDepth 100000 in
set_option maxHeartbeats 8000000 in
theorem within_step (vs : List ByteArray) (mt : List (ByteArray × S24)) (mtv : List (ByteArray × Value)) (n : Nat) (ih : WithinOk vs mt mtv n) : WithinOk vs mt mtv (n + 1) := by
  intro base sp vb tb w name x bare A c r hs ht hr hc hx hk
  have hu24 := Tryz.underlying24
  have IH : Hid _ := ih
  obtain ⟨x0, x1, x2, x3⟩ := x
  have B0 : Below w.heap.size w (w.alloc (Obj.cells #[.int .i64 x0, .int .i64 x1, .string x2, .slice A x3.length c] 24)) := below_alloc (Below.refl _ _) _
  simp only [withinM] at hk
  cases bare with
  | true =>
    simp only [if_true] at hk
    have hK := hk
    simp only [Bool.not_true, Bool.false_and] at hK
    have S2 : Hid _ := hs.below B0
    have T2 : Hid _ := ht.below B0
    have HT : Hid _ := Kd.C_below hr B0
    have HSZ : Hid _ := hx
    have B2 : Hid _ := B0
    clear hs ht hr hx hk B0 ih
    by_cases h1 : x0 = 1
    · subst h1
      rw [if_pos rfl] at hK
      obtain rfl := Option.some.inj hK
      clear hK
      go_enter Tryz.func136, Tryz.ntmps136
      go_wp2_with fail
      go_ret
      exact ⟨rfl, B2.out⟩
    · have b1 : (x0 == 1) = false := beq_eq_false_iff_ne.mpr h1
      rw [if_neg h1] at hK
      obtain ⟨ys, hy⟩ : ∃ ys, ys = typesL x0 x3 true := ⟨_, rfl⟩
      have hys : ∀ x ∈ ys, wid x < 9000000 := by
        intro x hx
        rw [hy] at hx
        have e1 := wid_mem (typesL_mem hx)
        have e2 := HSZ.out
        simp only [wid] at e2
        omega
      have hyl : ys.length < 9000000 := by
        rw [hy]
        have e1 := typesL_len x0 x3 true
        have e2 := wids_len x3
        have e3 := HSZ.out
        simp only [wid] at e3
        omega
      have YS : Hid _ := hys
      clear hys
      have TA := fun w h => types_any x0 x1 x2 (A := A) (l := x3) c true w h hc
      rw [← hy] at hK TA
      have TA : Hid _ := TA
      clear hy h1
      have HW : Hid (withinL (withinM vs mt n name) false true ys = some r) := hK
      clear hK
      go_enter Tryz.func136, Tryz.ntmps136
      go_wp2_with fail
      refine (TA.out _ HT.out).mono ?_
      rintro e w5 ⟨v5, rfl, ⟨A', c', rfl, hr5, hc5⟩, B5'⟩
      have B5 := below_after B2.out B5'
      have SS : Hid _ := S2.out.below B5'
      have TT : Hid _ := T2.out.below B5'
      clear B5'
      have R5 : Hid _ := hr5
      have BX : Hid _ := B5
      have start : Hid (WiRel w5 (withinM vs mt n name) false ys r ys.length (.int .i64 ((0 : Nat) : Int)) w5) := ⟨0, rfl, rfl, Below.refl _ _, HW.out⟩
      clear hr5 B5
      go_wp2_with fail
      go_loopg [39] ys.length (fun k x39 wr => WiRel w5 (withinM vs mt n name) false ys r k x39 wr)
      case atStart => exact start.out
      case round =>
        clear start
        obtain ⟨i, rfl, hki, hB, hV⟩ := hrel
        by_cases hlt : i < ys.length
        · obtain ⟨g, rfl⟩ : ∃ g, gk = g + 1 := ⟨gk - 1, by omega⟩
          have e1 : decide (i < ys.length) = true := decide_eq_true hlt
          obtain ⟨k, hk⟩ : ∃ k, ys[i]? = some k := ⟨ys[i], by simp [hlt]⟩
          obtain ⟨ad, A5, c5, rfl, g0, g1, g2, g3, g4, g5⟩ := row_at (Kd.C_below R5.out hB) hlt hk
          rw [drop_at3 hk] at hV
          simp only [withinL] at hV
          have SZ : Hid _ := YS.out k (List.mem_of_getElem? hk)
          have BL : Hid _ := hB
          have G5 : Hid _ := g5
          clear hB g5 hk
          obtain ⟨k0, k1, k2, k3⟩ := k
          rw [show (false && decide (i = 0) && (k0 == 3)) = false from rfl] at hV
          cases hq : withinM vs mt n name ⟨k0, k1, k2, k3⟩ false with
          | none => rw [hq] at hV; cases hV
          | some q =>
            rw [hq] at hV
            have OK : Hid _ := IH.out base sp vb tb (wr.alloc (Obj.cells #[.int .i64 k0, .int .i64 k1, .string k2, .slice A5 k3.length c5] 24)) name ⟨k0, k1, k2, k3⟩ false A5 c5 q ((SS.out.below BL.out).below (below_alloc (Below.refl _ _) _)) ((TT.out.below BL.out).below (below_alloc (Below.refl _ _) _)) (Kd.C_alloc G5.out _) g4 SZ.out hq
            clear hq
            cases q with
            | true =>
              simp only [Option.some.injEq] at hV
              subst hV
              go_wp2_with fail
              refine Calls.mono OK.out ?_
              rintro e w6 ⟨rfl, B6⟩
              have B7 : Hid _ := (below_after BX.out (below_after BL.out (below_after (below_alloc (Below.refl _ _) _) B6)))
              clear B6
              go_wp2_with fail
              go_ret
              exact ⟨rfl, B7.out⟩
            | false =>
              simp only [] at hV
              have HV : Hid _ := hV
              clear hV
              go_wp2_with fail
              refine Calls.mono OK.out ?_
              rintro e w6 ⟨rfl, B6⟩
              have B7 : Hid _ := (below_after BL.out (below_after (below_alloc (Below.refl _ _) _) B6))
              clear B6
              go_wp2_with fail
              go_roundg g
              case measure => omega
              case rel => exact ⟨i + 1, by go_num, by omega, B7.out, by simpa using HV.out⟩
        · have e1 : decide (i < ys.length) = false := decide_eq_false hlt
          have hge2 : ys.length ≤ i := by omega
          have e3 : ys.drop i = [] := List.drop_eq_nil_of_le (by omega)
          rw [e3] at hV
          simp only [withinL, Option.some.injEq] at hV
          subst hV
          have B7 : Hid _ := below_after BX.out hB
          clear hB e3
          go_wp2_with fail
          go_ret
          exact ⟨rfl, B7.out⟩
  | false =>
    simp only [Bool.false_eq_true, if_false] at hk
    cases hkn : knownM vs mt n ⟨x0, x1, x2, x3⟩ with
    | none => rw [hkn] at hk; cases hk
    | some t =>
      rw [hkn] at hk
      simp only [Bool.not_false, Bool.true_and] at hk
      have KN : Hid _ := known_any w (w.alloc (Obj.cells #[.int .i64 x0, .int .i64 x1, .string x2, .slice A x3.length c] 24)) base sp vb tb vs mt mtv (hs.below B0) ht B0 ⟨x0, x1, x2, x3⟩ A c hr hc hx n t hkn
      have S0 : Hid _ := hs
      have T0 : Hid _ := ht
      have HB0 : Hid _ := B0
      have HK : Hid _ := hk
      clear hs ht hr hx B0 ih hkn hk
      go_enter Tryz.func136, Tryz.ntmps136
      go_wp2_with fail
      refine Calls.mono KN.out ?_
      rintro e w1 ⟨u, rfl, ⟨A3, c3, rfl, hr3, hct, hsz⟩, B1⟩
      obtain ⟨t0, t1, t2, t3⟩ := t
      have hb1 := box_heap B1
      obtain ⟨p0, p1, p2, p3⟩ := cells4 hb1
      have f0 := frozen4 (i := 0) hb1
      have f1 := frozen4 (i := 1) hb1
      have f2 := frozen4 (i := 2) hb1
      have f3 := frozen4 (i := 3) hb1
      have hb2 := set4 (a0 := .int .i64 t0) (a1 := .int .i64 t1) (a2 := .string t2) (a3 := .slice A3 t3.length c3) hb1
      have B2' := below_self4 (a0 := .int .i64 t0) (a1 := .int .i64 t1) (a2 := .string t2) (a3 := .slice A3 t3.length c3) (below_after HB0.out B1)
      have S2 : Hid _ := S0.out.below B2'
      have T2 : Hid _ := T0.out.below B2'
      have HT : Hid _ := Kd.C_below hr3 B2'
      have B2 : Hid _ := B2'
      have HSZ : Hid _ := hsz
      have HB2 : Hid _ := hb2
      have hK := HK.out
      clear hb1 hb2 B1 B2' S0 T0 HB0 hr3 hsz HK KN
      by_cases h1 : t0 = 1
      · subst h1
        rw [if_pos rfl] at hK
        obtain rfl := Option.some.inj hK
        clear hK
        go_wp2_with fail
        go_ret
        exact ⟨rfl, B2.out⟩
      · have b1 : (t0 == 1) = false := beq_eq_false_iff_ne.mpr h1
        rw [if_neg h1] at hK
        obtain ⟨ys, hy⟩ : ∃ ys, ys = typesL t0 t3 false := ⟨_, rfl⟩
        have hys : ∀ x ∈ ys, wid x < 9000000 := by
          intro x hx
          rw [hy] at hx
          have e1 := wid_mem (typesL_mem hx)
          have e2 := HSZ.out
          simp only [wid] at e2
          omega
        have hyl : ys.length < 9000000 := by
          rw [hy]
          have e1 := typesL_len t0 t3 false
          have e2 := wids_len t3
          have e3 := HSZ.out
          simp only [wid] at e3
          omega
        have YS : Hid _ := hys
        clear hys
        have TA := fun w h => types_any t0 t1 t2 (A := A3) (l := t3) c3 false w h hct
        rw [← hy] at hK TA
        have TA : Hid _ := TA
        clear hy h1
        obtain ⟨fn, hfn⟩ : ∃ fn, fn = isFunW (headOf t0 t3) := ⟨_, rfl⟩
        have hf : ((headOf t0 t3).toList == [102, 117, 110]) = fn := hfn.symm
        rw [← hfn] at hK
        clear hfn
        try simp only [Bool.not_false, Bool.true_and] at hK
        have HA : Hid (∀ w, Kd.C k24 w A3 t3.length t3 → _) := fun w h => Head_any t0 t1 t2 c3 w h
        rcases (by cases fn <;> simp : fn = false ∨ fn = true) with hfv | hfv
        · obtain rfl : fn = false := hfv
          have HW : Hid (withinL (withinM vs mt n name) false true ys = some r) := hK
          clear hK
          go_wp2_with fail
          refine Calls.mono (HA.out _ HT.out) ?_
          rintro e w4 ⟨rfl, B4'⟩
          have hb4 := (B4'.block _ (Array.getElem?_eq_some_iff.1 HB2.out).1).trans HB2.out
          have B4 := below_after B2.out B4'
          have S4 : Hid _ := S2.out.below B4'
          have T4 : Hid _ := T2.out.below B4'
          have HT4 := Kd.C_below HT.out B4'
          obtain ⟨q0, q1, q2, q3⟩ := cells4 hb4
          clear hb4 B4'
          go_wp2_with fail
          refine (TA.out _ HT4).mono ?_
          rintro e w5 ⟨v5, rfl, ⟨A', c', rfl, hr5, hc5⟩, B5'⟩
          have B5 := below_after B4 B5'
          have SS : Hid _ := S4.out.below B5'
          have TT : Hid _ := T4.out.below B5'
          clear B5' HT4 B4
          have R5 : Hid _ := hr5
          have BX : Hid _ := B5
          have start : Hid (WiRel w5 (withinM vs mt n name) false ys r ys.length (.int .i64 ((0 : Nat) : Int)) w5) := ⟨0, rfl, rfl, Below.refl _ _, HW.out⟩
          clear hr5 B5
          go_wp2_with fail
          go_loopg [39] ys.length (fun k x39 wr => WiRel w5 (withinM vs mt n name) false ys r k x39 wr)
          case atStart => exact start.out
          case round =>
            clear start
            obtain ⟨i, rfl, hki, hB, hV⟩ := hrel
            by_cases hlt : i < ys.length
            · obtain ⟨g, rfl⟩ : ∃ g, gk = g + 1 := ⟨gk - 1, by omega⟩
              have e1 : decide (i < ys.length) = true := decide_eq_true hlt
              obtain ⟨k, hk⟩ : ∃ k, ys[i]? = some k := ⟨ys[i], by simp [hlt]⟩
              obtain ⟨ad, A5, c5, rfl, g0, g1, g2, g3, g4, g5⟩ := row_at (Kd.C_below R5.out hB) hlt hk
              rw [drop_at3 hk] at hV
              simp only [withinL] at hV
              have SZ : Hid _ := YS.out k (List.mem_of_getElem? hk)
              have BL : Hid _ := hB
              have G5 : Hid _ := g5
              clear hB g5 hk
              obtain ⟨k0, k1, k2, k3⟩ := k
              rw [show (false && decide (i = 0) && (k0 == 3)) = false from rfl] at hV
              cases hq : withinM vs mt n name ⟨k0, k1, k2, k3⟩ false with
              | none => rw [hq] at hV; cases hV
              | some q =>
                rw [hq] at hV
                have OK : Hid _ := IH.out base sp vb tb (wr.alloc (Obj.cells #[.int .i64 k0, .int .i64 k1, .string k2, .slice A5 k3.length c5] 24)) name ⟨k0, k1, k2, k3⟩ false A5 c5 q ((SS.out.below BL.out).below (below_alloc (Below.refl _ _) _)) ((TT.out.below BL.out).below (below_alloc (Below.refl _ _) _)) (Kd.C_alloc G5.out _) g4 SZ.out hq
                clear hq
                cases q with
                | true =>
                  simp only [Option.some.injEq] at hV
                  subst hV
                  go_wp2_with fail
                  refine Calls.mono OK.out ?_
                  rintro e w6 ⟨rfl, B6⟩
                  have B7 : Hid _ := (below_after BX.out (below_after BL.out (below_after (below_alloc (Below.refl _ _) _) B6)))
                  clear B6
                  go_wp2_with fail
                  go_ret
                  exact ⟨rfl, B7.out⟩
                | false =>
                  simp only [] at hV
                  have HV : Hid _ := hV
                  clear hV
                  go_wp2_with fail
                  refine Calls.mono OK.out ?_
                  rintro e w6 ⟨rfl, B6⟩
                  have B7 : Hid _ := (below_after BL.out (below_after (below_alloc (Below.refl _ _) _) B6))
                  clear B6
                  go_wp2_with fail
                  go_roundg g
                  case measure => omega
                  case rel => exact ⟨i + 1, by go_num, by omega, B7.out, by simpa using HV.out⟩
            · have e1 : decide (i < ys.length) = false := decide_eq_false hlt
              have hge2 : ys.length ≤ i := by omega
              have e3 : ys.drop i = [] := List.drop_eq_nil_of_le (by omega)
              rw [e3] at hV
              simp only [withinL, Option.some.injEq] at hV
              subst hV
              have B7 : Hid _ := below_after BX.out hB
              clear hB e3
              go_wp2_with fail
              go_ret
              exact ⟨rfl, B7.out⟩
        · obtain rfl : fn = true := hfv
          have HW : Hid (withinL (withinM vs mt n name) true true ys = some r) := hK
          clear hK
          go_wp2_with fail
          refine Calls.mono (HA.out _ HT.out) ?_
          rintro e w4 ⟨rfl, B4'⟩
          have hb4 := (B4'.block _ (Array.getElem?_eq_some_iff.1 HB2.out).1).trans HB2.out
          have B4 := below_after B2.out B4'
          have S4 : Hid _ := S2.out.below B4'
          have T4 : Hid _ := T2.out.below B4'
          have HT4 := Kd.C_below HT.out B4'
          obtain ⟨q0, q1, q2, q3⟩ := cells4 hb4
          clear hb4 B4'
          go_wp2_with fail
          refine (TA.out _ HT4).mono ?_
          rintro e w5 ⟨v5, rfl, ⟨A', c', rfl, hr5, hc5⟩, B5'⟩
          have B5 := below_after B4 B5'
          have SS : Hid _ := S4.out.below B5'
          have TT : Hid _ := T4.out.below B5'
          clear B5' HT4 B4
          have R5 : Hid _ := hr5
          have BX : Hid _ := B5
          have start : Hid (WiRel w5 (withinM vs mt n name) true ys r ys.length (.int .i64 ((0 : Nat) : Int)) w5) := ⟨0, rfl, rfl, Below.refl _ _, HW.out⟩
          clear hr5 B5
          go_wp2_with fail
          go_loopg [39] ys.length (fun k x39 wr => WiRel w5 (withinM vs mt n name) true ys r k x39 wr)
          case atStart => exact start.out
          case round =>
            clear start
            obtain ⟨i, rfl, hki, hB, hV⟩ := hrel
            by_cases hlt : i < ys.length
            · obtain ⟨g, rfl⟩ : ∃ g, gk = g + 1 := ⟨gk - 1, by omega⟩
              have e1 : decide (i < ys.length) = true := decide_eq_true hlt
              obtain ⟨k, hk⟩ : ∃ k, ys[i]? = some k := ⟨ys[i], by simp [hlt]⟩
              obtain ⟨ad, A5, c5, rfl, g0, g1, g2, g3, g4, g5⟩ := row_at (Kd.C_below R5.out hB) hlt hk
              rw [drop_at3 hk] at hV
              simp only [withinL] at hV
              have SZ : Hid _ := YS.out k (List.mem_of_getElem? hk)
              have BL : Hid _ := hB
              have G5 : Hid _ := g5
              clear hB g5 hk
              obtain ⟨k0, k1, k2, k3⟩ := k
              by_cases hi : i = 0
              · have hi1 : decide (i = 0) = true := decide_eq_true hi
                have hi2 : ((i : Int) == 0) = true := beq_iff_eq.mpr (by omega)
                clear hi
                by_cases h3 : k0 = 3
                · subst h3
                  rw [show (true && decide (i = 0) && ((3 : Int) == 3)) = true by rw [hi1]; rfl] at hV
                  cases hq : withinM vs mt n name ⟨3, k1, k2, k3⟩ true with
                  | none => rw [hq] at hV; cases hV
                  | some q =>
                    rw [hq] at hV
                    have OK : Hid _ := IH.out base sp vb tb (wr.alloc (Obj.cells #[.int .i64 3, .int .i64 k1, .string k2, .slice A5 k3.length c5] 24)) name ⟨3, k1, k2, k3⟩ true A5 c5 q ((SS.out.below BL.out).below (below_alloc (Below.refl _ _) _)) ((TT.out.below BL.out).below (below_alloc (Below.refl _ _) _)) (Kd.C_alloc G5.out _) g4 SZ.out hq
                    clear hq
                    cases q with
                    | true =>
                      simp only [Option.some.injEq] at hV
                      subst hV
                      go_wp2_with fail
                      refine Calls.mono OK.out ?_
                      rintro e w6 ⟨rfl, B6⟩
                      have B7 : Hid _ := (below_after BX.out (below_after BL.out (below_after (below_alloc (Below.refl _ _) _) B6)))
                      clear B6
                      go_wp2_with fail
                      go_ret
                      exact ⟨rfl, B7.out⟩
                    | false =>
                      simp only [] at hV
                      have HV : Hid _ := hV
                      clear hV
                      go_wp2_with fail
                      refine Calls.mono OK.out ?_
                      rintro e w6 ⟨rfl, B6⟩
                      have B7 : Hid _ := (below_after BL.out (below_after (below_alloc (Below.refl _ _) _) B6))
                      clear B6
                      go_wp2_with fail
                      go_roundg g
                      case measure => omega
                      case rel => exact ⟨i + 1, by go_num, by omega, B7.out, by simpa using HV.out⟩
                · have h4 : (k0 == 3) = false := beq_eq_false_iff_ne.mpr h3
                  rw [show (true && decide (i = 0) && (k0 == 3)) = false by rw [h4]; simp] at hV
                  cases hq : withinM vs mt n name ⟨k0, k1, k2, k3⟩ false with
                  | none => rw [hq] at hV; cases hV
                  | some q =>
                    rw [hq] at hV
                    have OK : Hid _ := IH.out base sp vb tb (wr.alloc (Obj.cells #[.int .i64 k0, .int .i64 k1, .string k2, .slice A5 k3.length c5] 24)) name ⟨k0, k1, k2, k3⟩ false A5 c5 q ((SS.out.below BL.out).below (below_alloc (Below.refl _ _) _)) ((TT.out.below BL.out).below (below_alloc (Below.refl _ _) _)) (Kd.C_alloc G5.out _) g4 SZ.out hq
                    clear hq
                    cases q with
                    | true =>
                      simp only [Option.some.injEq] at hV
                      subst hV
                      go_wp2_with fail
                      refine Calls.mono OK.out ?_
                      rintro e w6 ⟨rfl, B6⟩
                      have B7 : Hid _ := (below_after BX.out (below_after BL.out (below_after (below_alloc (Below.refl _ _) _) B6)))
                      clear B6
                      go_wp2_with fail
                      go_ret
                      exact ⟨rfl, B7.out⟩
                    | false =>
                      simp only [] at hV
                      have HV : Hid _ := hV
                      clear hV
                      go_wp2_with fail
                      refine Calls.mono OK.out ?_
                      rintro e w6 ⟨rfl, B6⟩
                      have B7 : Hid _ := (below_after BL.out (below_after (below_alloc (Below.refl _ _) _) B6))
                      clear B6
                      go_wp2_with fail
                      go_roundg g
                      case measure => omega
                      case rel => exact ⟨i + 1, by go_num, by omega, B7.out, by simpa using HV.out⟩
              · have hi1 : decide (i = 0) = false := decide_eq_false hi
                have hi2 : ((i : Int) == 0) = false := beq_eq_false_iff_ne.mpr (by omega)
                rw [show (true && decide (i = 0) && (k0 == 3)) = false by rw [hi1]; rfl] at hV
                cases hq : withinM vs mt n name ⟨k0, k1, k2, k3⟩ false with
                | none => rw [hq] at hV; cases hV
                | some q =>
                  rw [hq] at hV
                  have OK : Hid _ := IH.out base sp vb tb (wr.alloc (Obj.cells #[.int .i64 k0, .int .i64 k1, .string k2, .slice A5 k3.length c5] 24)) name ⟨k0, k1, k2, k3⟩ false A5 c5 q ((SS.out.below BL.out).below (below_alloc (Below.refl _ _) _)) ((TT.out.below BL.out).below (below_alloc (Below.refl _ _) _)) (Kd.C_alloc G5.out _) g4 SZ.out hq
                  clear hq
                  cases q with
                  | true =>
                    simp only [Option.some.injEq] at hV
                    subst hV
                    go_wp2_with fail
                    refine Calls.mono OK.out ?_
                    rintro e w6 ⟨rfl, B6⟩
                    have B7 : Hid _ := (below_after BX.out (below_after BL.out (below_after (below_alloc (Below.refl _ _) _) B6)))
                    clear B6
                    go_wp2_with fail
                    go_ret
                    exact ⟨rfl, B7.out⟩
                  | false =>
                    simp only [] at hV
                    have HV : Hid _ := hV
                    clear hV
                    go_wp2_with fail
                    refine Calls.mono OK.out ?_
                    rintro e w6 ⟨rfl, B6⟩
                    have B7 : Hid _ := (below_after BL.out (below_after (below_alloc (Below.refl _ _) _) B6))
                    clear B6
                    go_wp2_with fail
                    go_roundg g
                    case measure => omega
                    case rel => exact ⟨i + 1, by go_num, by omega, B7.out, by simpa using HV.out⟩
            · have e1 : decide (i < ys.length) = false := decide_eq_false hlt
              have hge2 : ys.length ≤ i := by omega
              have e3 : ys.drop i = [] := List.drop_eq_nil_of_le (by omega)
              rw [e3] at hV
              simp only [withinL, Option.some.injEq] at hV
              subst hV
              have B7 : Hid _ := below_after BX.out hB
              clear hB e3
              go_wp2_with fail
              go_ret
              exact ⟨rfl, B7.out⟩
theorem within_ok (vs : List ByteArray) (mt : List (ByteArray × S24)) (mtv : List (ByteArray × Value)) : ∀ n, WithinOk vs mt mtv n
  | 0 => fun _ _ _ _ _ _ _ _ _ _ _ _ _ _ _ _ h => by simp [withinM] at h
  | n + 1 => within_step vs mt mtv n (within_ok vs mt mtv n)

end Go.Proofs.YtcjmplpfebpfpaaGreatDoor

namespace Go.Proofs.YtcjmplpfebpfpaaGreatDoor.PKindInstances
open Go.RowKit Go.Proofs.YtcjmplpfebpfpaaGreatDoorW.PrintWords Go.Proofs.YtcjmplpfebpfpaaGreatDoorW.PrintLast Go.Proofs.YtcjmplpfebpfpaaGreatDoorW.PrintMore
attribute [local go_sem] max2_int min2_int max_two min_two max_three min_three max_four min_four   -- for this text's walks alone
set_option linter.unusedVariables false
set_option linter.unusedSimpArgs false

end Go.Proofs.YtcjmplpfebpfpaaGreatDoor.PKindInstances

namespace Go.Proofs.YtcjmplpfebpfpaaGreatDoor
open Go.RowKit Go.Proofs Go.Proofs.YtcjmplpfebpfpaaGreatDoorW.PrintWords Go.Proofs.YtcjmplpfebpfpaaGreatDoorW.PrintLast Go.Proofs.YtcjmplpfebpfpaaGreatDoorW.PrintMore PKindInstances
set_option linter.unusedVariables false
set_option linter.unusedSimpArgs false

end Go.Proofs.YtcjmplpfebpfpaaGreatDoor

namespace Go.Proofs.YtcjmplpfebpfpaaGreatDoor.PKindInstances
open Go.RowKit Go.Proofs.YtcjmplpfebpfpaaGreatDoorW.PrintWords Go.Proofs.YtcjmplpfebpfpaaGreatDoorW.PrintLast Go.Proofs.YtcjmplpfebpfpaaGreatDoorW.PrintMore
attribute [local go_sem] max2_int min2_int max_two min_two max_three min_three max_four min_four   -- for this text's walks alone
set_option linter.unusedVariables false
set_option linter.unusedSimpArgs false

end Go.Proofs.YtcjmplpfebpfpaaGreatDoor.PKindInstances

namespace Go.Proofs.YtcjmplpfebpfpaaGreatDoor.PKindInstances
open Go.RowKit Go.Proofs.YtcjmplpfebpfpaaGreatDoorW.PrintWords Go.Proofs.YtcjmplpfebpfpaaGreatDoorW.PrintLast Go.Proofs.YtcjmplpfebpfpaaGreatDoorW.PrintMore
attribute [local go_sem] max2_int min2_int max_two min_two max_three min_three max_four min_four   -- for this text's walks alone
set_option linter.unusedVariables false
set_option linter.unusedSimpArgs false

end Go.Proofs.YtcjmplpfebpfpaaGreatDoor.PKindInstances

namespace Go.Proofs.YtcjmplpfebpfpaaGreatDoor.PKindInstances
open Go.RowKit Go.Proofs.YtcjmplpfebpfpaaGreatDoorW.PrintWords Go.Proofs.YtcjmplpfebpfpaaGreatDoorW.PrintLast Go.Proofs.YtcjmplpfebpfpaaGreatDoorW.PrintMore
attribute [local go_sem] max2_int min2_int max_two min_two max_three min_three max_four min_four   -- for this text's walks alone
set_option linter.unusedVariables false
set_option linter.unusedSimpArgs false

end Go.Proofs.YtcjmplpfebpfpaaGreatDoor.PKindInstances

namespace Go.Proofs.YtcjmplpfebpfpaaGreatDoor
open Go.RowKit Go.Proofs Go.Proofs.YtcjmplpfebpfpaaGreatDoorW.PrintWords Go.Proofs.YtcjmplpfebpfpaaGreatDoorW.PrintLast Go.Proofs.YtcjmplpfebpfpaaGreatDoorW.PrintMore PKindInstances
set_option linter.unusedVariables false
set_option linter.unusedSimpArgs false

theorem wr64 {z : Int} (h1 : 0 ≤ z) (h2 : z < 9000000000) : wrap64 z = z := by unfold wrap64; omega

end Go.Proofs.YtcjmplpfebpfpaaGreatDoor

namespace Go.Proofs.YtcjmplpfebpfpaaGreatDoor.PKindInstances
open Go.RowKit Go.Proofs.YtcjmplpfebpfpaaGreatDoorW.PrintWords Go.Proofs.YtcjmplpfebpfpaaGreatDoorW.PrintLast Go.Proofs.YtcjmplpfebpfpaaGreatDoorW.PrintMore
attribute [local go_sem] max2_int min2_int max_two min_two max_three min_three max_four min_four   -- for this text's walks alone
set_option linter.unusedVariables false
set_option linter.unusedSimpArgs false

def plinthref03_put.l0 : Nat → List ByteArray → ByteArray → Int → Option (List ByteArray)
  | 0, _, _, _ => none
  | k + 1, x0, x1, x5 => if x5 < (x0.length : Int) then (if 0 ≤ x5 then (if (Op.bytesLess ((rdOf ByteArray.empty x0 x5).toList) x1.toList) = true then (plinthref03_put.l0 k x0 x1 (wrap64 (x5 + 1))) else (if (rdOf ByteArray.empty x0 x5).toList = x1.toList then (some x0) else ((some (([] : List ByteArray) : List ByteArray)).bind fun y358 => (if x5 ≤ (x0.length : Int) then ((some (x0.take (x5 : Int).toNat : List ByteArray)).bind fun y361 => (if y358.length + y361.length < 8796093022208 then ((some (y358 ++ y361 : List ByteArray)).bind fun y365 => (if y365.length < 8796093022208 then ((some (y365 ++ [x1] : List ByteArray)).bind fun y368 => ((some (x0.drop (x5 : Int).toNat : List ByteArray)).bind fun y371 => (if y368.length + y371.length < 8796093022208 then (some (y368 ++ y371)) else (none)))) else (none))) else (none))) else (none))))) else (none)) else ((some (([] : List ByteArray) : List ByteArray)).bind fun y378 => (if 0 ≤ x5 then (if x5 ≤ (x0.length : Int) then ((some (x0.take (x5 : Int).toNat : List ByteArray)).bind fun y381 => (if y378.length + y381.length < 8796093022208 then ((some (y378 ++ y381 : List ByteArray)).bind fun y385 => (if y385.length < 8796093022208 then ((some (y385 ++ [x1] : List ByteArray)).bind fun y388 => ((some (x0.drop (x5 : Int).toNat : List ByteArray)).bind fun y391 => (if y388.length + y391.length < 8796093022208 then (some (y388 ++ y391)) else (none)))) else (none))) else (none))) else (none)) else (none)))
def plinthref03_put.f (k : Nat) (l0 : List ByteArray) (a1 : ByteArray) : Option (List ByteArray) := plinthref03_put.l0 k l0 a1 0
set_option maxHeartbeats 8000000 in
set_option maxRecDepth 100000 in
theorem plinthref03_put.calls (k : Nat) (P0_ : Nat → Prop) (u9000_ : Value) (l0 : List ByteArray) (a1 : ByteArray) (r : List ByteArray) (w0 w : World) (hB : Below w0.heap.size w0 w) (ho0 : Kd.R Kd.string 9 w w0.heap.size P0_ u9000_ l0) (h : plinthref03_put.f k l0 a1 = some r) :
    Calls Tryz.prog 48 #[u9000_, .string a1] w fun e w' => ∃ v0_ : Value, e = .returned (v0_) ∧ Kd.R Kd.string 9 w' w0.heap.size (fun k_ => (P0_ k_ ∨ w.heap.size ≤ k_)) v0_ r ∧ Below w0.heap.size w0 w' ∧ Kept w w' (fun k_ => P0_ k_) := by
  have HO0 := Aside0.mk (show Kd.R Kd.string 9 w w0.heap.size (fun k_ => (P0_ k_ ∨ w.heap.size ≤ k_)) u9000_ l0 from Kd.R_mono ho0 (fun k_ hk => (.inl hk)))
  have HK := Aside0.mk (Kept.refl w (fun k_ => P0_ k_))
  have HW0 := Aside0.mk hB.size
  have HB := Aside0.mk hB
  clear hB
  have H : (plinthref03_put.l0 k l0 a1 0) = some r := h
  clear h
  have H' := Aside0.mk H
  clear H
  go_enter Tryz.func48, Tryz.ntmps48
  go_wp2
  go_loopg [5] k (fun kq v5 w' => ∃ (x5_1 : Int), v5 = .int .i64 x5_1 ∧ Aside0 (plinthref03_put.l0 kq l0 a1 x5_1 = some r) ∧ Aside0 (kq ≤ k) ∧ Aside0 (Kd.R Kd.string 9 w' w0.heap.size (fun k_ => (P0_ k_ ∨ w.heap.size ≤ k_)) u9000_ l0) ∧ Aside0 (Kept w w' (fun k_ => P0_ k_)) ∧ Aside0 (Below w0.heap.size w0 w'))
  case atStart => exact ⟨(0), (by first | rfl | (simp; done) | (simp [*]; done)), H', ⟨Nat.le_refl _⟩, ⟨by (with_reducible repeat (first | apply Kd.R_alloc | apply Kd.R_drewN | apply Kd.R_drew)); exact HO0.out⟩, ⟨by repeat (first | (with_reducible first | exact HK.out | apply Kept.alloc | apply Kept.drewN | apply Kept.drew) | exact HK.out)⟩, ⟨by repeat (first | (with_reducible first | exact HB.out | apply below_alloc | apply pw_below_drewN | apply below_drew1) | exact HB.out)⟩⟩
  case round =>
    clear H'
    try clear p2
    obtain ⟨x5_1, rfl, HA, HK1, HO_0, HK, HB⟩ := hrel
    cases gk with
    | zero => exact absurd HA.out (by simp [plinthref03_put.l0])
    | succ k1 =>
      have H := HA.out
      clear HA
      simp only [plinthref03_put.l0] at H
      by_cases c3 : x5_1 < (l0.length : Int)
      · rw [if_pos c3] at H
        have c3b0 : decide (x5_1 < (l0.length : Int)) = true := decide_eq_true c3
        clear c3
        by_cases c4 : 0 ≤ x5_1
        · rw [if_pos c4] at H
          have c4b0 : decide (0 ≤ x5_1) = true := decide_eq_true c4
          clear c4
          by_cases c5 : (Op.bytesLess ((rdOf ByteArray.empty l0 x5_1).toList) a1.toList) = true
          · rw [if_pos c5] at H
            have c5b0 : (Op.bytesLess ((rdOf ByteArray.empty l0 x5_1).toList) a1.toList) = true := c5
            clear c5
            have H' := Aside0.mk H
            clear H
            obtain ⟨Ao6, co6, eo6⟩ := Kd.R_slice HO_0.out
            subst eo6
            have p356 : 0 ≤ (x5_1 : Int) := of_decide_eq_true (by first | (with_reducible assumption) | assumption)
            have q356 : x5_1 < (l0.length : Int) := of_decide_eq_true (by first | (with_reducible assumption) | assumption)
            obtain ⟨ad356, e356, hx356_0⟩ := Kd.at_string (Kd.R_reads' HO_0.out).2.2 x5_1 p356 q356
            cases e356
            replace p356 := eq_true p356
            replace q356 := eq_true q356
            go_wp2
            go_roundg k1
            case measure => have := HK1.out; omega
            case rel => exact ⟨(wrap64 (x5_1 + 1)), (by first | rfl | (simp; done) | (simp [*]; done)), H', ⟨by have := HK1.out; omega⟩, ⟨by (with_reducible repeat (first | apply Kd.R_alloc | apply Kd.R_drewN | apply Kd.R_drew)); exact HO_0.out⟩, ⟨by repeat (first | (with_reducible first | exact HK.out | apply Kept.alloc | apply Kept.drewN | apply Kept.drew) | exact HK.out)⟩, ⟨by repeat (first | (with_reducible first | exact HB.out | apply below_alloc | apply pw_below_drewN | apply below_drew1) | exact HB.out)⟩⟩
          · rw [if_neg c5] at H
            have c5b0 : (Op.bytesLess ((rdOf ByteArray.empty l0 x5_1).toList) a1.toList) = false := by simpa using c5
            clear c5
            by_cases c7 : (rdOf ByteArray.empty l0 x5_1).toList = a1.toList
            · rw [if_pos c7] at H
              have c7b0 : ((rdOf ByteArray.empty l0 x5_1).toList == a1.toList) = true := beq_iff_eq.mpr c7
              have c7b1 : ((rdOf ByteArray.empty l0 x5_1).toList != a1.toList) = false := bne_eq_false_iff_eq.mpr c7
              clear c7
              obtain rfl := Option.some.inj H
              obtain ⟨Ao8, co8, eo8⟩ := Kd.R_slice HO_0.out
              subst eo8
              have p356 : 0 ≤ (x5_1 : Int) := of_decide_eq_true (by first | (with_reducible assumption) | assumption)
              have q356 : x5_1 < (l0.length : Int) := of_decide_eq_true (by first | (with_reducible assumption) | assumption)
              obtain ⟨ad356, e356, hx356_0⟩ := Kd.at_string (Kd.R_reads' HO_0.out).2.2 x5_1 p356 q356
              cases e356
              replace p356 := eq_true p356
              replace q356 := eq_true q356
              have p357 : 0 ≤ (x5_1 : Int) := of_decide_eq_true (by first | (with_reducible assumption) | assumption)
              have q357 : x5_1 < (l0.length : Int) := of_decide_eq_true (by first | (with_reducible assumption) | assumption)
              obtain ⟨ad357, e357, hx357_0⟩ := Kd.at_string (Kd.R_reads' HO_0.out).2.2 x5_1 p357 q357
              obtain rfl : ad356 = ad357 := (by injection e357)
              replace p357 := eq_true p357
              replace q357 := eq_true q357
              go_wp2
              go_ret
              exact ⟨_, by first | rfl | (simp [errW_none, errW_some] <;> rfl) | (simp [*, errW_none, errW_some] <;> rfl), by (with_reducible repeat (first | apply Kd.R_alloc | apply Kd.R_drewN | apply Kd.R_drew)); exact HO_0.out, by repeat (first | (with_reducible first | exact HB.out | apply below_alloc | apply pw_below_drewN | apply below_drew1) | exact HB.out), by repeat (first | (with_reducible first | exact HK.out | apply Kept.alloc | apply Kept.drewN | apply Kept.drew) | exact HK.out)⟩
            · rw [if_neg c7] at H
              have c7b0 : ((rdOf ByteArray.empty l0 x5_1).toList == a1.toList) = false := beq_eq_false_iff_ne.mpr c7
              have c7b1 : ((rdOf ByteArray.empty l0 x5_1).toList != a1.toList) = true := bne_iff_ne.mpr c7
              obtain ⟨y358, hy358⟩ : ∃ y_ : List ByteArray, y_ = (([] : List ByteArray)) := ⟨_, rfl⟩
              replace H : (if x5_1 ≤ (l0.length : Int) then ((some (l0.take (x5_1 : Int).toNat : List ByteArray)).bind fun y361 => (if y358.length + y361.length < 8796093022208 then ((some (y358 ++ y361 : List ByteArray)).bind fun y365 => (if y365.length < 8796093022208 then ((some (y365 ++ [a1] : List ByteArray)).bind fun y368 => ((some (l0.drop (x5_1 : Int).toNat : List ByteArray)).bind fun y371 => (if y368.length + y371.length < 8796093022208 then (some (y368 ++ y371)) else (none)))) else (none))) else (none))) else (none)) = some r := by first | (rw [hy358]; with_reducible exact H) | (have H2_ := (Option.bind_some _ _).symm.trans H; rw [hy358]; with_reducible exact H2_) | (have H2_ := (Option.bind_some _ _).symm.trans H; with_reducible exact H2_) | with_reducible exact H | (rw [hy358]; exact H) | exact H
              have Ny358 := Aside0.mk hy358
              clear hy358
              have c9b0 := eq_true (of_decide_eq_true (by first | (with_reducible assumption) | assumption) : 0 ≤ x5_1)
              by_cases c10 : x5_1 ≤ (l0.length : Int)
              · rw [if_pos c10] at H
                have c10b0 := eq_true c10
                have c10b1 : decide (x5_1 ≤ (l0.length : Int)) = true := decide_eq_true c10
                clear c10
                obtain ⟨y361, hy361⟩ : ∃ y_ : List ByteArray, y_ = (l0.take (x5_1 : Int).toNat) := ⟨_, rfl⟩
                replace H : (if y358.length + y361.length < 8796093022208 then ((some (y358 ++ y361 : List ByteArray)).bind fun y365 => (if y365.length < 8796093022208 then ((some (y365 ++ [a1] : List ByteArray)).bind fun y368 => ((some (l0.drop (x5_1 : Int).toNat : List ByteArray)).bind fun y371 => (if y368.length + y371.length < 8796093022208 then (some (y368 ++ y371)) else (none)))) else (none))) else (none)) = some r := by first | (rw [hy361]; with_reducible exact H) | (have H2_ := (Option.bind_some _ _).symm.trans H; rw [hy361]; with_reducible exact H2_) | (have H2_ := (Option.bind_some _ _).symm.trans H; with_reducible exact H2_) | with_reducible exact H | (rw [hy361]; exact H) | exact H
                have Ny361 := Aside0.mk hy361
                clear hy361
                by_cases c11 : y358.length + y361.length < 8796093022208
                · rw [if_pos c11] at H
                  have LMc11 := Aside0.mk c11
                  clear c11
                  obtain ⟨y365, hy365⟩ : ∃ y_ : List ByteArray, y_ = (y358 ++ y361) := ⟨_, rfl⟩
                  replace H : (if y365.length < 8796093022208 then ((some (y365 ++ [a1] : List ByteArray)).bind fun y368 => ((some (l0.drop (x5_1 : Int).toNat : List ByteArray)).bind fun y371 => (if y368.length + y371.length < 8796093022208 then (some (y368 ++ y371)) else (none)))) else (none)) = some r := by first | (rw [hy365]; with_reducible exact H) | (have H2_ := (Option.bind_some _ _).symm.trans H; rw [hy365]; with_reducible exact H2_) | (have H2_ := (Option.bind_some _ _).symm.trans H; with_reducible exact H2_) | with_reducible exact H | (rw [hy365]; exact H) | exact H
                  have Ny365 := Aside0.mk hy365
                  clear hy365
                  by_cases c12 : y365.length < 8796093022208
                  · rw [if_pos c12] at H
                    have LMc12 := Aside0.mk c12
                    clear c12
                    obtain ⟨y368, hy368⟩ : ∃ y_ : List ByteArray, y_ = (y365 ++ [a1]) := ⟨_, rfl⟩
                    replace H : ((some (l0.drop (x5_1 : Int).toNat : List ByteArray)).bind fun y371 => (if y368.length + y371.length < 8796093022208 then (some (y368 ++ y371)) else (none))) = some r := by first | (rw [hy368]; with_reducible exact H) | (have H2_ := (Option.bind_some _ _).symm.trans H; rw [hy368]; with_reducible exact H2_) | (have H2_ := (Option.bind_some _ _).symm.trans H; with_reducible exact H2_) | with_reducible exact H | (rw [hy368]; exact H) | exact H
                    have Ny368 := Aside0.mk hy368
                    clear hy368
                    have c13b0 := eq_true (of_decide_eq_true (by first | (with_reducible assumption) | assumption) : 0 ≤ x5_1)
                    have c14b0 := eq_true (of_decide_eq_true (by first | (with_reducible assumption) | assumption) : x5_1 ≤ (l0.length : Int))
                    obtain ⟨y371, hy371⟩ : ∃ y_ : List ByteArray, y_ = (l0.drop (x5_1 : Int).toNat) := ⟨_, rfl⟩
                    replace H : (if y368.length + y371.length < 8796093022208 then (some (y368 ++ y371)) else (none)) = some r := by first | (rw [hy371]; with_reducible exact H) | (have H2_ := (Option.bind_some _ _).symm.trans H; rw [hy371]; with_reducible exact H2_) | (have H2_ := (Option.bind_some _ _).symm.trans H; with_reducible exact H2_) | with_reducible exact H | (rw [hy371]; exact H) | exact H
                    have Ny371 := Aside0.mk hy371
                    clear hy371
                    by_cases c15 : y368.length + y371.length < 8796093022208
                    · rw [if_pos c15] at H
                      have LMc15 := Aside0.mk c15
                      clear c15
                      obtain ⟨y375, hy375⟩ : ∃ y_ : List ByteArray, y_ = (y368 ++ y371) := ⟨_, rfl⟩
                      replace H : (some y375) = some r := by first | (rw [hy375]; with_reducible exact H) | (have H2_ := (Option.bind_some _ _).symm.trans H; rw [hy375]; with_reducible exact H2_) | (have H2_ := (Option.bind_some _ _).symm.trans H; with_reducible exact H2_) | with_reducible exact H | (rw [hy375]; exact H) | exact H
                      have Ny375 := Aside0.mk hy375
                      clear hy375
                      obtain rfl := Option.some.inj H
                      obtain ⟨Ao16, co16, eo16⟩ := Kd.R_slice HO_0.out
                      subst eo16
                      have p356 : 0 ≤ (x5_1 : Int) := of_decide_eq_true (by first | (with_reducible assumption) | assumption)
                      have q356 : x5_1 < (l0.length : Int) := of_decide_eq_true (by first | (with_reducible assumption) | assumption)
                      obtain ⟨ad356, e356, hx356_0⟩ := Kd.at_string (Kd.R_reads' HO_0.out).2.2 x5_1 p356 q356
                      cases e356
                      replace p356 := eq_true p356
                      replace q356 := eq_true q356
                      have p357 : 0 ≤ (x5_1 : Int) := of_decide_eq_true (by first | (with_reducible assumption) | assumption)
                      have q357 : x5_1 < (l0.length : Int) := of_decide_eq_true (by first | (with_reducible assumption) | assumption)
                      obtain ⟨ad357, e357, hx357_0⟩ := Kd.at_string (Kd.R_reads' HO_0.out).2.2 x5_1 p357 q357
                      obtain rfl : ad356 = ad357 := (by injection e357)
                      replace p357 := eq_true p357
                      replace q357 := eq_true q357
                      go_wp2_with (first | ((with_reducible refine gate_dst (N := 34) rfl ?_); refine Kd.R_lit Kd.string _ 9 ?hg (N := 34) ?hd (xs := ([] : List ByteArray)) (inner := []) (ok := fun _ => True) (okp := fun _ => True) ?hr ?hp (fun _ hk => hk) trivial (Below.refl _ _) (Nat.le_refl _) (by simp) ?_; (case hd => rfl); (case hg => rfl); (case hr => first | (go_simp; done) | (go_simp; rfl)); (case hp => exact (Reps.none _ _)); intro v359 w17 ho18 hb hg_ hnew_; clear hg_ hnew_; (first | rw [← Ny358.out] at ho18 | (simp only [Int.reduceToNat] at ho18; rw [← Ny358.out] at ho18)); have n0_ := Aside0.mk (Kd.R_elder' (by (with_reducible repeat (first | apply Kd.R_alloc | apply Kd.R_drewN | apply Kd.R_drew)); exact HO_0.out) (Kd.R_base ho18) hb); have n1_ := Aside0.mk (Kd.R_lower (Kd.R_new' (Kd.R_newM (M := fun k_ => (P0_ k_ ∨ w.heap.size ≤ k_)) ho18 (by first | exact HK.out.1 | exact (show Kept w _ (fun k_ => P0_ k_) from by repeat (first | (with_reducible first | exact HK.out | apply Kept.alloc | apply Kept.drewN | apply Kept.drew) | exact HK.out)).1) (fun k_ h_ => .inr h_)) (Kd.R_lt (by (with_reducible repeat (first | apply Kd.R_alloc | apply Kd.R_drewN | apply Kd.R_drew)); exact HO_0.out))) (below_size (by repeat (first | (with_reducible first | exact HB.out | apply below_alloc | apply pw_below_drewN | apply below_drew1) | exact HB.out)))); have n2_ := Aside0.mk (Kept.below (S := (fun k_ => P0_ k_)) (by repeat (first | (with_reducible first | exact HK.out | apply Kept.alloc | apply Kept.drewN | apply Kept.drew) | exact HK.out)) hb); have n3_ := Aside0.mk (below_step (by repeat (first | (with_reducible first | exact HB.out | apply below_alloc | apply pw_below_drewN | apply below_drew1) | exact HB.out)) hb); clear HO_0; clear HK; clear HB; have HO_0 := n0_; have HO360 := n1_; have HK := n2_; have HB := n3_; clear n0_ n1_ n2_ n3_; clear hb ho18; have q19 : (x5_1 : Int) ≤ ((l0.length : Int) : Int) := of_decide_eq_true (by first | (with_reducible assumption) | assumption); obtain ⟨i019, hi019, _, hsz19, _⟩ := info_parts info9; have hroom19 : l0.length ≤ co16 := (Kd.R_reads' HO_0.out).2.1; have hC19 : Kd.C Kd.string _ (some ad356) l0.length l0 := (Kd.R_reads' HO_0.out).2.2; have hcut19 := cut_to (P := Tryz.prog) 38 9 .i64 Tryz.underlying38 hi019 (some ad356) l0.length co16 x5_1 (of_decide_eq_true (by first | (with_reducible assumption) | assumption)) q19 hroom19; have hr19 := Kd.C_take (m := (x5_1 : Int).toNat) hC19 (by omega); have hy19 : y361.length = (x5_1 : Int).toNat := (by rw [Ny361.out, List.length_take]; omega); rw [← Ny361.out] at hr19; rw [← hy19] at hcut19; have HR364 := Aside0.mk hr19; have HC364 := Aside0.mk (show y361.length ≤ co16 from by omega); clear hr19 hC19 hroom19 hi019 hsz19; have KY19 := Aside0.mk hy19; clear hy19; have KL19 := Aside0.mk (show (x5_1 : Int).toNat ≤ l0.length from by omega); replace q19 := eq_true q19) | ((with_reducible refine gate_builtin (b := .append) (xs := #[.tmp 34, .tmp 37]) rfl ?_); at_builtin; refine Kd.R_append_rows Kd.string (w0 := w0) w0.heap.size rfl (.tmp 34) (.tmp 37) 38 9 (.string ⟨#[]⟩) 16 rfl Tryz.underlying38 info9 rfl (by decide) (by omega) v359 y358 y361 _ _ _ (fun k_ => (P0_ k_ ∨ w.heap.size ≤ k_) ∧ some k_ ≠ (.slice (some ad356) l0.length co16 : Value).ownBlock) (fun _ => False) rfl rfl ?aO ?aR (fun _ _ h => h) (fun _ h => h.elim) ?aF ?aB ?aS ?aL ?_; (case aR => repeat (first | exact (by repeat (first | (with_reducible exact HR364.out) | (with_reducible refine Kd.C_alloc ?_ _) | (with_reducible refine Kd.C_drewN ?_ _) | (with_reducible refine Kd.C_drew ?_) | exact HR364.out)) | (with_reducible refine Kd.C_alloc ?_ _) | (with_reducible refine Kd.C_drewN ?_ _) | (with_reducible refine Kd.C_drew ?_))); (case aB => exact (by repeat (first | (with_reducible first | exact HB.out | apply below_alloc | apply pw_below_drewN | apply below_drew1) | exact HB.out))); (case aF => exact (fun k_ hk => ⟨(.inr (Nat.le_trans (by first | exact HK.out.1 | exact (show Kept w _ (fun k_ => P0_ k_) from by repeat (first | (with_reducible first | exact HK.out | apply Kept.alloc | apply Kept.drewN | apply Kept.drew) | exact HK.out)).1) hk)), Kd.fresh' (Kd.R_lt (by (with_reducible repeat (first | apply Kd.R_alloc | apply Kd.R_drewN | apply Kd.R_drew)); exact HO_0.out)) k_ hk⟩)); (case aO => exact (by (with_reducible repeat (first | apply Kd.R_alloc | apply Kd.R_drewN | apply Kd.R_drew)); exact Kd.R_mono HO360.out (fun _ hk => ⟨hk.1.1, hk.2⟩))); (case aS => exact (below_size (by repeat (first | (with_reducible first | exact HB.out | apply below_alloc | apply pw_below_drewN | apply below_drew1) | exact HB.out)))); (case aL => have := LMc11.out; omega); intro v366 w20 ho hb hg hat; rw [← Ny365.out] at ho; have n0_ := Aside0.mk (Kd.R_after (ok := (fun k_ => (P0_ k_ ∨ w.heap.size ≤ k_))) (by (with_reducible repeat (first | apply Kd.R_alloc | apply Kd.R_drewN | apply Kd.R_drew)); exact HO_0.out) hg hat); have n1_ := Aside0.mk (hb); have n2_ := Aside0.mk (Kept.of_grown (S := (fun k_ => P0_ k_)) hg (by repeat (first | (with_reducible first | exact HK.out | apply Kept.alloc | apply Kept.drewN | apply Kept.drew) | exact HK.out)) (fun k_ e_ => (HO360.out.1 k_ e_).1.1)); have n3_ := Aside0.mk ((show Kd.C Kd.string w20 (some ad356) y361.length y361 from by rw [Ny361.out]; exact Kd.C_take (m := (x5_1 : Int).toNat) ((Kd.R_reads' (Kd.R_after (ok := (fun k_ => (P0_ k_ ∨ w.heap.size ≤ k_))) (by (with_reducible repeat (first | apply Kd.R_alloc | apply Kd.R_drewN | apply Kd.R_drew)); exact HO_0.out) hg hat)).2.2) KL19.out)); have n4_ := Aside0.mk (ho); clear HO_0; clear HB; clear HK; clear HR364; clear HO360; have HO_0 := n0_; have HB := n1_; have HK := n2_; have HR364 := n3_; have HO367 := n4_; clear n0_ n1_ n2_ n3_ n4_; clear ho hb hg hat) | ((with_reducible refine gate_builtin (b := .append) (xs := #[.tmp 39, .tmp 41]) rfl ?_); at_builtin; refine Kd.R_append Kd.string (w0 := w0) w0.heap.size rfl (.tmp 39) (.tmp 41) 38 9 (.string ⟨#[]⟩) 16 rfl Tryz.underlying38 info9 rfl (by decide) (by omega) v366 y365 a1 [.string a1] (fun k_ => (P0_ k_ ∨ w.heap.size ≤ k_) ∧ some k_ ≠ (.slice (some ad356) l0.length co16 : Value).ownBlock) (fun _ => False) rfl rfl ?aP (fun _ hk => hk.elim) ?aF ?aO ?aB ?aS ?aL ?_; (case aP => exact rfl); (case aB => exact (by repeat (first | (with_reducible first | exact HB.out | apply below_alloc | apply pw_below_drewN | apply below_drew1) | exact HB.out))); (case aF => exact (fun k_ hk => ⟨(.inr (Nat.le_trans (by first | exact HK.out.1 | exact (show Kept w _ (fun k_ => P0_ k_) from by repeat (first | (with_reducible first | exact HK.out | apply Kept.alloc | apply Kept.drewN | apply Kept.drew) | exact HK.out)).1) hk)), Kd.fresh' (Kd.R_lt (by (with_reducible repeat (first | apply Kd.R_alloc | apply Kd.R_drewN | apply Kd.R_drew)); exact HO_0.out)) k_ hk⟩)); (case aO => exact (by (with_reducible repeat (first | apply Kd.R_alloc | apply Kd.R_drewN | apply Kd.R_drew)); exact HO367.out)); (case aS => exact (below_size (by repeat (first | (with_reducible first | exact HB.out | apply below_alloc | apply pw_below_drewN | apply below_drew1) | exact HB.out)))); (case aL => have := LMc12.out; omega); intro v369 w21 ho hb hg hat; rw [← Ny368.out] at ho; have n0_ := Aside0.mk (Kd.R_after (ok := (fun k_ => (P0_ k_ ∨ w.heap.size ≤ k_))) (by (with_reducible repeat (first | apply Kd.R_alloc | apply Kd.R_drewN | apply Kd.R_drew)); exact HO_0.out) hg hat); have n1_ := Aside0.mk (hb); have n2_ := Aside0.mk (Kept.of_grown (S := (fun k_ => P0_ k_)) hg (by repeat (first | (with_reducible first | exact HK.out | apply Kept.alloc | apply Kept.drewN | apply Kept.drew) | exact HK.out)) (fun k_ e_ => (HO367.out.1 k_ e_).1)); have n3_ := Aside0.mk ((show Kd.C Kd.string w21 (some ad356) y361.length y361 from by rw [Ny361.out]; exact Kd.C_take (m := (x5_1 : Int).toNat) ((Kd.R_reads' (Kd.R_after (ok := (fun k_ => (P0_ k_ ∨ w.heap.size ≤ k_))) (by (with_reducible repeat (first | apply Kd.R_alloc | apply Kd.R_drewN | apply Kd.R_drew)); exact HO_0.out) hg hat)).2.2) KL19.out)); have n4_ := Aside0.mk (ho); clear HO_0; clear HB; clear HK; clear HR364; clear HO367; have HO_0 := n0_; have HB := n1_; have HK := n2_; have HR364 := n3_; have HO370 := n4_; clear n0_ n1_ n2_ n3_ n4_; clear ho hb hg hat; have q22 : (x5_1 : Int) ≤ ((l0.length : Int) : Int) := of_decide_eq_true (by first | (with_reducible assumption) | assumption); obtain ⟨i022, hi022, _, hsz22, _⟩ := info_parts info9; have hroom22 : l0.length ≤ co16 := (Kd.R_reads' HO_0.out).2.1; have hC22 : Kd.C Kd.string _ (some ad356) l0.length l0 := (Kd.R_reads' HO_0.out).2.2; have q022 : (0 : Int) ≤ (x5_1 : Int) := of_decide_eq_true (by first | (with_reducible assumption) | assumption); have hcut22 := cut_from (P := Tryz.prog) 38 9 .i64 Tryz.underlying38 hi022 1 hsz22 (some ad356) l0.length co16 x5_1 q022 q22; have hr22 := Kd.C_drop (m := (x5_1 : Int).toNat) (c := co16) hC22 (by omega) hroom22; obtain ⟨A22, hA22⟩ : ∃ A1, A1 = (if co16 = (x5_1 : Int).toNat then (some ad356) else ((some ad356) : Option Addr).map (·.add ((x5_1 : Int).toNat * 1))) := ⟨_, rfl⟩; obtain ⟨c22, hc22⟩ : ∃ c1, c1 = co16 - (x5_1 : Int).toNat := ⟨_, rfl⟩; have hy22 : y371.length = l0.length - (x5_1 : Int).toNat := (by rw [Ny371.out, List.length_drop] <;> omega); rw [show (l0).drop (x5_1 : Int).toNat = y371 from Ny371.out.symm] at hr22; replace hr22 : Kd.C Kd.string _ A22 y371.length y371 := (by rw [hA22]; exact hr22); rw [← hy22, ← hA22, ← hc22] at hcut22; have HR374 := Aside0.mk hr22; have HC374 := Aside0.mk (show y371.length ≤ c22 from by rw [hy22, hc22]; exact Nat.sub_le_sub_right hroom22 _); clear hr22 hC22 hroom22 hi022 hsz22 hc22; have KY22 := Aside0.mk hy22; have KA22 := Aside0.mk hA22; clear hy22 hA22; have KL22 := Aside0.mk (show (x5_1 : Int).toNat ≤ l0.length from by omega); replace q22 := eq_true q22) | ((with_reducible refine gate_builtin (b := .append) (xs := #[.tmp 43, .tmp 46]) rfl ?_); at_builtin; refine Kd.R_append_rows Kd.string (w0 := w0) w0.heap.size rfl (.tmp 43) (.tmp 46) 38 9 (.string ⟨#[]⟩) 16 rfl Tryz.underlying38 info9 rfl (by decide) (by omega) v369 y368 y371 _ _ _ (fun k_ => (P0_ k_ ∨ w.heap.size ≤ k_) ∧ some k_ ≠ (.slice (some ad356) l0.length co16 : Value).ownBlock) (fun _ => False) rfl rfl ?aO ?aR (fun _ _ h => h) (fun _ h => h.elim) ?aF ?aB ?aS ?aL ?_; (case aR => repeat (first | exact (by repeat (first | (with_reducible exact HR374.out) | (with_reducible refine Kd.C_alloc ?_ _) | (with_reducible refine Kd.C_drewN ?_ _) | (with_reducible refine Kd.C_drew ?_) | exact HR374.out)) | (with_reducible refine Kd.C_alloc ?_ _) | (with_reducible refine Kd.C_drewN ?_ _) | (with_reducible refine Kd.C_drew ?_))); (case aB => exact (by repeat (first | (with_reducible first | exact HB.out | apply below_alloc | apply pw_below_drewN | apply below_drew1) | exact HB.out))); (case aF => exact (fun k_ hk => ⟨(.inr (Nat.le_trans (by first | exact HK.out.1 | exact (show Kept w _ (fun k_ => P0_ k_) from by repeat (first | (with_reducible first | exact HK.out | apply Kept.alloc | apply Kept.drewN | apply Kept.drew) | exact HK.out)).1) hk)), Kd.fresh' (Kd.R_lt (by (with_reducible repeat (first | apply Kd.R_alloc | apply Kd.R_drewN | apply Kd.R_drew)); exact HO_0.out)) k_ hk⟩)); (case aO => exact (by (with_reducible repeat (first | apply Kd.R_alloc | apply Kd.R_drewN | apply Kd.R_drew)); exact HO370.out)); (case aS => exact (below_size (by repeat (first | (with_reducible first | exact HB.out | apply below_alloc | apply pw_below_drewN | apply below_drew1) | exact HB.out)))); (case aL => have := LMc15.out; omega); intro v376 w23 ho hb hg hat; rw [← Ny375.out] at ho; have n0_ := Aside0.mk (Kd.R_after (ok := (fun k_ => (P0_ k_ ∨ w.heap.size ≤ k_))) (by (with_reducible repeat (first | apply Kd.R_alloc | apply Kd.R_drewN | apply Kd.R_drew)); exact HO_0.out) hg hat); have n1_ := Aside0.mk (hb); have n2_ := Aside0.mk (Kept.of_grown (S := (fun k_ => P0_ k_)) hg (by repeat (first | (with_reducible first | exact HK.out | apply Kept.alloc | apply Kept.drewN | apply Kept.drew) | exact HK.out)) (fun k_ e_ => (HO370.out.1 k_ e_).1)); have n3_ := Aside0.mk ((show Kd.C Kd.string w23 (some ad356) y361.length y361 from by rw [Ny361.out]; exact Kd.C_take (m := (x5_1 : Int).toNat) ((Kd.R_reads' (Kd.R_after (ok := (fun k_ => (P0_ k_ ∨ w.heap.size ≤ k_))) (by (with_reducible repeat (first | apply Kd.R_alloc | apply Kd.R_drewN | apply Kd.R_drew)); exact HO_0.out) hg hat)).2.2) KL19.out)); have n4_ := Aside0.mk ((show Kd.C Kd.string w23 A22 y371.length y371 from by rw [Ny371.out, KA22.out]; exact Kd.C_drop (m := (x5_1 : Int).toNat) (c := co16) ((Kd.R_reads' (Kd.R_after (ok := (fun k_ => (P0_ k_ ∨ w.heap.size ≤ k_))) (by (with_reducible repeat (first | apply Kd.R_alloc | apply Kd.R_drewN | apply Kd.R_drew)); exact HO_0.out) hg hat)).2.2) KL22.out ((Kd.R_reads' (Kd.R_after (ok := (fun k_ => (P0_ k_ ∨ w.heap.size ≤ k_))) (by (with_reducible repeat (first | apply Kd.R_alloc | apply Kd.R_drewN | apply Kd.R_drew)); exact HO_0.out) hg hat)).2.1))); have n5_ := Aside0.mk (ho); clear HO_0; clear HB; clear HK; clear HR364; clear HR374; clear HO370; have HO_0 := n0_; have HB := n1_; have HK := n2_; have HR364 := n3_; have HR374 := n4_; have HO377 := n5_; clear n0_ n1_ n2_ n3_ n4_ n5_; clear ho hb hg hat))
                      go_ret
                      exact ⟨_, by first | rfl | (simp [errW_none, errW_some] <;> rfl) | (simp [*, errW_none, errW_some] <;> rfl), by (with_reducible repeat (first | apply Kd.R_alloc | apply Kd.R_drewN | apply Kd.R_drew)); exact Kd.R_mono HO377.out (fun _ hk => hk.1), by repeat (first | (with_reducible first | exact HB.out | apply below_alloc | apply pw_below_drewN | apply below_drew1) | exact HB.out), by repeat (first | (with_reducible first | exact HK.out | apply Kept.alloc | apply Kept.drewN | apply Kept.drew) | exact HK.out)⟩
                    · rw [if_neg c15] at H
                      exact absurd H (by simp)
                  · rw [if_neg c12] at H
                    exact absurd H (by simp)
                · rw [if_neg c11] at H
                  exact absurd H (by simp)
              · rw [if_neg c10] at H
                exact absurd H (by simp)
        · rw [if_neg c4] at H
          exact absurd H (by simp)
      · rw [if_neg c3] at H
        have c3b0 : decide (x5_1 < (l0.length : Int)) = false := decide_eq_false c3
        clear c3
        obtain ⟨y378, hy378⟩ : ∃ y_ : List ByteArray, y_ = (([] : List ByteArray)) := ⟨_, rfl⟩
        replace H : (if 0 ≤ x5_1 then (if x5_1 ≤ (l0.length : Int) then ((some (l0.take (x5_1 : Int).toNat : List ByteArray)).bind fun y381 => (if y378.length + y381.length < 8796093022208 then ((some (y378 ++ y381 : List ByteArray)).bind fun y385 => (if y385.length < 8796093022208 then ((some (y385 ++ [a1] : List ByteArray)).bind fun y388 => ((some (l0.drop (x5_1 : Int).toNat : List ByteArray)).bind fun y391 => (if y388.length + y391.length < 8796093022208 then (some (y388 ++ y391)) else (none)))) else (none))) else (none))) else (none)) else (none)) = some r := by first | (rw [hy378]; with_reducible exact H) | (have H2_ := (Option.bind_some _ _).symm.trans H; rw [hy378]; with_reducible exact H2_) | (have H2_ := (Option.bind_some _ _).symm.trans H; with_reducible exact H2_) | with_reducible exact H | (rw [hy378]; exact H) | exact H
        have Ny378 := Aside0.mk hy378
        clear hy378
        by_cases c24 : 0 ≤ x5_1
        · rw [if_pos c24] at H
          have c24b0 := eq_true c24
          have c24b1 : decide (0 ≤ x5_1) = true := decide_eq_true c24
          clear c24
          by_cases c25 : x5_1 ≤ (l0.length : Int)
          · rw [if_pos c25] at H
            have c25b0 := eq_true c25
            have c25b1 : decide (x5_1 ≤ (l0.length : Int)) = true := decide_eq_true c25
            clear c25
            obtain ⟨y381, hy381⟩ : ∃ y_ : List ByteArray, y_ = (l0.take (x5_1 : Int).toNat) := ⟨_, rfl⟩
            replace H : (if y378.length + y381.length < 8796093022208 then ((some (y378 ++ y381 : List ByteArray)).bind fun y385 => (if y385.length < 8796093022208 then ((some (y385 ++ [a1] : List ByteArray)).bind fun y388 => ((some (l0.drop (x5_1 : Int).toNat : List ByteArray)).bind fun y391 => (if y388.length + y391.length < 8796093022208 then (some (y388 ++ y391)) else (none)))) else (none))) else (none)) = some r := by first | (rw [hy381]; with_reducible exact H) | (have H2_ := (Option.bind_some _ _).symm.trans H; rw [hy381]; with_reducible exact H2_) | (have H2_ := (Option.bind_some _ _).symm.trans H; with_reducible exact H2_) | with_reducible exact H | (rw [hy381]; exact H) | exact H
            have Ny381 := Aside0.mk hy381
            clear hy381
            by_cases c26 : y378.length + y381.length < 8796093022208
            · rw [if_pos c26] at H
              have LMc26 := Aside0.mk c26
              clear c26
              obtain ⟨y385, hy385⟩ : ∃ y_ : List ByteArray, y_ = (y378 ++ y381) := ⟨_, rfl⟩
              replace H : (if y385.length < 8796093022208 then ((some (y385 ++ [a1] : List ByteArray)).bind fun y388 => ((some (l0.drop (x5_1 : Int).toNat : List ByteArray)).bind fun y391 => (if y388.length + y391.length < 8796093022208 then (some (y388 ++ y391)) else (none)))) else (none)) = some r := by first | (rw [hy385]; with_reducible exact H) | (have H2_ := (Option.bind_some _ _).symm.trans H; rw [hy385]; with_reducible exact H2_) | (have H2_ := (Option.bind_some _ _).symm.trans H; with_reducible exact H2_) | with_reducible exact H | (rw [hy385]; exact H) | exact H
              have Ny385 := Aside0.mk hy385
              clear hy385
              by_cases c27 : y385.length < 8796093022208
              · rw [if_pos c27] at H
                have LMc27 := Aside0.mk c27
                clear c27
                obtain ⟨y388, hy388⟩ : ∃ y_ : List ByteArray, y_ = (y385 ++ [a1]) := ⟨_, rfl⟩
                replace H : ((some (l0.drop (x5_1 : Int).toNat : List ByteArray)).bind fun y391 => (if y388.length + y391.length < 8796093022208 then (some (y388 ++ y391)) else (none))) = some r := by first | (rw [hy388]; with_reducible exact H) | (have H2_ := (Option.bind_some _ _).symm.trans H; rw [hy388]; with_reducible exact H2_) | (have H2_ := (Option.bind_some _ _).symm.trans H; with_reducible exact H2_) | with_reducible exact H | (rw [hy388]; exact H) | exact H
                have Ny388 := Aside0.mk hy388
                clear hy388
                have c28b0 := eq_true (of_decide_eq_true (by first | (with_reducible assumption) | assumption) : 0 ≤ x5_1)
                have c29b0 := eq_true (of_decide_eq_true (by first | (with_reducible assumption) | assumption) : x5_1 ≤ (l0.length : Int))
                obtain ⟨y391, hy391⟩ : ∃ y_ : List ByteArray, y_ = (l0.drop (x5_1 : Int).toNat) := ⟨_, rfl⟩
                replace H : (if y388.length + y391.length < 8796093022208 then (some (y388 ++ y391)) else (none)) = some r := by first | (rw [hy391]; with_reducible exact H) | (have H2_ := (Option.bind_some _ _).symm.trans H; rw [hy391]; with_reducible exact H2_) | (have H2_ := (Option.bind_some _ _).symm.trans H; with_reducible exact H2_) | with_reducible exact H | (rw [hy391]; exact H) | exact H
                have Ny391 := Aside0.mk hy391
                clear hy391
                by_cases c30 : y388.length + y391.length < 8796093022208
                · rw [if_pos c30] at H
                  have LMc30 := Aside0.mk c30
                  clear c30
                  obtain ⟨y395, hy395⟩ : ∃ y_ : List ByteArray, y_ = (y388 ++ y391) := ⟨_, rfl⟩
                  replace H : (some y395) = some r := by first | (rw [hy395]; with_reducible exact H) | (have H2_ := (Option.bind_some _ _).symm.trans H; rw [hy395]; with_reducible exact H2_) | (have H2_ := (Option.bind_some _ _).symm.trans H; with_reducible exact H2_) | with_reducible exact H | (rw [hy395]; exact H) | exact H
                  have Ny395 := Aside0.mk hy395
                  clear hy395
                  obtain rfl := Option.some.inj H
                  obtain ⟨Ao31, co31, eo31⟩ := Kd.R_slice HO_0.out
                  subst eo31
                  go_wp2_with (first | ((with_reducible refine gate_dst (N := 34) rfl ?_); refine Kd.R_lit Kd.string _ 9 ?hg (N := 34) ?hd (xs := ([] : List ByteArray)) (inner := []) (ok := fun _ => True) (okp := fun _ => True) ?hr ?hp (fun _ hk => hk) trivial (Below.refl _ _) (Nat.le_refl _) (by simp) ?_; (case hd => rfl); (case hg => rfl); (case hr => first | (go_simp; done) | (go_simp; rfl)); (case hp => exact (Reps.none _ _)); intro v379 w32 ho33 hb hg_ hnew_; clear hg_ hnew_; (first | rw [← Ny378.out] at ho33 | (simp only [Int.reduceToNat] at ho33; rw [← Ny378.out] at ho33)); have n0_ := Aside0.mk (Kd.R_elder' (by (with_reducible repeat (first | apply Kd.R_alloc | apply Kd.R_drewN | apply Kd.R_drew)); exact HO_0.out) (Kd.R_base ho33) hb); have n1_ := Aside0.mk (Kd.R_lower (Kd.R_new' (Kd.R_newM (M := fun k_ => (P0_ k_ ∨ w.heap.size ≤ k_)) ho33 (by first | exact HK.out.1 | exact (show Kept w _ (fun k_ => P0_ k_) from by repeat (first | (with_reducible first | exact HK.out | apply Kept.alloc | apply Kept.drewN | apply Kept.drew) | exact HK.out)).1) (fun k_ h_ => .inr h_)) (Kd.R_lt (by (with_reducible repeat (first | apply Kd.R_alloc | apply Kd.R_drewN | apply Kd.R_drew)); exact HO_0.out))) (below_size (by repeat (first | (with_reducible first | exact HB.out | apply below_alloc | apply pw_below_drewN | apply below_drew1) | exact HB.out)))); have n2_ := Aside0.mk (Kept.below (S := (fun k_ => P0_ k_)) (by repeat (first | (with_reducible first | exact HK.out | apply Kept.alloc | apply Kept.drewN | apply Kept.drew) | exact HK.out)) hb); have n3_ := Aside0.mk (below_step (by repeat (first | (with_reducible first | exact HB.out | apply below_alloc | apply pw_below_drewN | apply below_drew1) | exact HB.out)) hb); clear HO_0; clear HK; clear HB; have HO_0 := n0_; have HO380 := n1_; have HK := n2_; have HB := n3_; clear n0_ n1_ n2_ n3_; clear hb ho33; have q34 : (x5_1 : Int) ≤ ((l0.length : Int) : Int) := of_decide_eq_true (by first | (with_reducible assumption) | assumption); obtain ⟨i034, hi034, _, hsz34, _⟩ := info_parts info9; have hroom34 : l0.length ≤ co31 := (Kd.R_reads' HO_0.out).2.1; have hC34 : Kd.C Kd.string _ Ao31 l0.length l0 := (Kd.R_reads' HO_0.out).2.2; have hcut34 := cut_to (P := Tryz.prog) 38 9 .i64 Tryz.underlying38 hi034 Ao31 l0.length co31 x5_1 (of_decide_eq_true (by first | (with_reducible assumption) | assumption)) q34 hroom34; have hr34 := Kd.C_take (m := (x5_1 : Int).toNat) hC34 (by omega); have hy34 : y381.length = (x5_1 : Int).toNat := (by rw [Ny381.out, List.length_take]; omega); rw [← Ny381.out] at hr34; rw [← hy34] at hcut34; have HR384 := Aside0.mk hr34; have HC384 := Aside0.mk (show y381.length ≤ co31 from by omega); clear hr34 hC34 hroom34 hi034 hsz34; have KY34 := Aside0.mk hy34; clear hy34; have KL34 := Aside0.mk (show (x5_1 : Int).toNat ≤ l0.length from by omega); replace q34 := eq_true q34) | ((with_reducible refine gate_builtin (b := .append) (xs := #[.tmp 34, .tmp 37]) rfl ?_); at_builtin; refine Kd.R_append_rows Kd.string (w0 := w0) w0.heap.size rfl (.tmp 34) (.tmp 37) 38 9 (.string ⟨#[]⟩) 16 rfl Tryz.underlying38 info9 rfl (by decide) (by omega) v379 y378 y381 _ _ _ (fun k_ => (P0_ k_ ∨ w.heap.size ≤ k_) ∧ some k_ ≠ (.slice Ao31 l0.length co31 : Value).ownBlock) (fun _ => False) rfl rfl ?aO ?aR (fun _ _ h => h) (fun _ h => h.elim) ?aF ?aB ?aS ?aL ?_; (case aR => repeat (first | exact (by repeat (first | (with_reducible exact HR384.out) | (with_reducible refine Kd.C_alloc ?_ _) | (with_reducible refine Kd.C_drewN ?_ _) | (with_reducible refine Kd.C_drew ?_) | exact HR384.out)) | (with_reducible refine Kd.C_alloc ?_ _) | (with_reducible refine Kd.C_drewN ?_ _) | (with_reducible refine Kd.C_drew ?_))); (case aB => exact (by repeat (first | (with_reducible first | exact HB.out | apply below_alloc | apply pw_below_drewN | apply below_drew1) | exact HB.out))); (case aF => exact (fun k_ hk => ⟨(.inr (Nat.le_trans (by first | exact HK.out.1 | exact (show Kept w _ (fun k_ => P0_ k_) from by repeat (first | (with_reducible first | exact HK.out | apply Kept.alloc | apply Kept.drewN | apply Kept.drew) | exact HK.out)).1) hk)), Kd.fresh' (Kd.R_lt (by (with_reducible repeat (first | apply Kd.R_alloc | apply Kd.R_drewN | apply Kd.R_drew)); exact HO_0.out)) k_ hk⟩)); (case aO => exact (by (with_reducible repeat (first | apply Kd.R_alloc | apply Kd.R_drewN | apply Kd.R_drew)); exact Kd.R_mono HO380.out (fun _ hk => ⟨hk.1.1, hk.2⟩))); (case aS => exact (below_size (by repeat (first | (with_reducible first | exact HB.out | apply below_alloc | apply pw_below_drewN | apply below_drew1) | exact HB.out)))); (case aL => have := LMc26.out; omega); intro v386 w35 ho hb hg hat; rw [← Ny385.out] at ho; have n0_ := Aside0.mk (Kd.R_after (ok := (fun k_ => (P0_ k_ ∨ w.heap.size ≤ k_))) (by (with_reducible repeat (first | apply Kd.R_alloc | apply Kd.R_drewN | apply Kd.R_drew)); exact HO_0.out) hg hat); have n1_ := Aside0.mk (hb); have n2_ := Aside0.mk (Kept.of_grown (S := (fun k_ => P0_ k_)) hg (by repeat (first | (with_reducible first | exact HK.out | apply Kept.alloc | apply Kept.drewN | apply Kept.drew) | exact HK.out)) (fun k_ e_ => (HO380.out.1 k_ e_).1.1)); have n3_ := Aside0.mk ((show Kd.C Kd.string w35 Ao31 y381.length y381 from by rw [Ny381.out]; exact Kd.C_take (m := (x5_1 : Int).toNat) ((Kd.R_reads' (Kd.R_after (ok := (fun k_ => (P0_ k_ ∨ w.heap.size ≤ k_))) (by (with_reducible repeat (first | apply Kd.R_alloc | apply Kd.R_drewN | apply Kd.R_drew)); exact HO_0.out) hg hat)).2.2) KL34.out)); have n4_ := Aside0.mk (ho); clear HO_0; clear HB; clear HK; clear HR384; clear HO380; have HO_0 := n0_; have HB := n1_; have HK := n2_; have HR384 := n3_; have HO387 := n4_; clear n0_ n1_ n2_ n3_ n4_; clear ho hb hg hat) | ((with_reducible refine gate_builtin (b := .append) (xs := #[.tmp 39, .tmp 41]) rfl ?_); at_builtin; refine Kd.R_append Kd.string (w0 := w0) w0.heap.size rfl (.tmp 39) (.tmp 41) 38 9 (.string ⟨#[]⟩) 16 rfl Tryz.underlying38 info9 rfl (by decide) (by omega) v386 y385 a1 [.string a1] (fun k_ => (P0_ k_ ∨ w.heap.size ≤ k_) ∧ some k_ ≠ (.slice Ao31 l0.length co31 : Value).ownBlock) (fun _ => False) rfl rfl ?aP (fun _ hk => hk.elim) ?aF ?aO ?aB ?aS ?aL ?_; (case aP => exact rfl); (case aB => exact (by repeat (first | (with_reducible first | exact HB.out | apply below_alloc | apply pw_below_drewN | apply below_drew1) | exact HB.out))); (case aF => exact (fun k_ hk => ⟨(.inr (Nat.le_trans (by first | exact HK.out.1 | exact (show Kept w _ (fun k_ => P0_ k_) from by repeat (first | (with_reducible first | exact HK.out | apply Kept.alloc | apply Kept.drewN | apply Kept.drew) | exact HK.out)).1) hk)), Kd.fresh' (Kd.R_lt (by (with_reducible repeat (first | apply Kd.R_alloc | apply Kd.R_drewN | apply Kd.R_drew)); exact HO_0.out)) k_ hk⟩)); (case aO => exact (by (with_reducible repeat (first | apply Kd.R_alloc | apply Kd.R_drewN | apply Kd.R_drew)); exact HO387.out)); (case aS => exact (below_size (by repeat (first | (with_reducible first | exact HB.out | apply below_alloc | apply pw_below_drewN | apply below_drew1) | exact HB.out)))); (case aL => have := LMc27.out; omega); intro v389 w36 ho hb hg hat; rw [← Ny388.out] at ho; have n0_ := Aside0.mk (Kd.R_after (ok := (fun k_ => (P0_ k_ ∨ w.heap.size ≤ k_))) (by (with_reducible repeat (first | apply Kd.R_alloc | apply Kd.R_drewN | apply Kd.R_drew)); exact HO_0.out) hg hat); have n1_ := Aside0.mk (hb); have n2_ := Aside0.mk (Kept.of_grown (S := (fun k_ => P0_ k_)) hg (by repeat (first | (with_reducible first | exact HK.out | apply Kept.alloc | apply Kept.drewN | apply Kept.drew) | exact HK.out)) (fun k_ e_ => (HO387.out.1 k_ e_).1)); have n3_ := Aside0.mk ((show Kd.C Kd.string w36 Ao31 y381.length y381 from by rw [Ny381.out]; exact Kd.C_take (m := (x5_1 : Int).toNat) ((Kd.R_reads' (Kd.R_after (ok := (fun k_ => (P0_ k_ ∨ w.heap.size ≤ k_))) (by (with_reducible repeat (first | apply Kd.R_alloc | apply Kd.R_drewN | apply Kd.R_drew)); exact HO_0.out) hg hat)).2.2) KL34.out)); have n4_ := Aside0.mk (ho); clear HO_0; clear HB; clear HK; clear HR384; clear HO387; have HO_0 := n0_; have HB := n1_; have HK := n2_; have HR384 := n3_; have HO390 := n4_; clear n0_ n1_ n2_ n3_ n4_; clear ho hb hg hat; have q37 : (x5_1 : Int) ≤ ((l0.length : Int) : Int) := of_decide_eq_true (by first | (with_reducible assumption) | assumption); obtain ⟨i037, hi037, _, hsz37, _⟩ := info_parts info9; have hroom37 : l0.length ≤ co31 := (Kd.R_reads' HO_0.out).2.1; have hC37 : Kd.C Kd.string _ Ao31 l0.length l0 := (Kd.R_reads' HO_0.out).2.2; have q037 : (0 : Int) ≤ (x5_1 : Int) := of_decide_eq_true (by first | (with_reducible assumption) | assumption); have hcut37 := cut_from (P := Tryz.prog) 38 9 .i64 Tryz.underlying38 hi037 1 hsz37 Ao31 l0.length co31 x5_1 q037 q37; have hr37 := Kd.C_drop (m := (x5_1 : Int).toNat) (c := co31) hC37 (by omega) hroom37; obtain ⟨A37, hA37⟩ : ∃ A1, A1 = (if co31 = (x5_1 : Int).toNat then Ao31 else (Ao31 : Option Addr).map (·.add ((x5_1 : Int).toNat * 1))) := ⟨_, rfl⟩; obtain ⟨c37, hc37⟩ : ∃ c1, c1 = co31 - (x5_1 : Int).toNat := ⟨_, rfl⟩; have hy37 : y391.length = l0.length - (x5_1 : Int).toNat := (by rw [Ny391.out, List.length_drop] <;> omega); rw [show (l0).drop (x5_1 : Int).toNat = y391 from Ny391.out.symm] at hr37; replace hr37 : Kd.C Kd.string _ A37 y391.length y391 := (by rw [hA37]; exact hr37); rw [← hy37, ← hA37, ← hc37] at hcut37; have HR394 := Aside0.mk hr37; have HC394 := Aside0.mk (show y391.length ≤ c37 from by rw [hy37, hc37]; exact Nat.sub_le_sub_right hroom37 _); clear hr37 hC37 hroom37 hi037 hsz37 hc37; have KY37 := Aside0.mk hy37; have KA37 := Aside0.mk hA37; clear hy37 hA37; have KL37 := Aside0.mk (show (x5_1 : Int).toNat ≤ l0.length from by omega); replace q37 := eq_true q37) | ((with_reducible refine gate_builtin (b := .append) (xs := #[.tmp 43, .tmp 46]) rfl ?_); at_builtin; refine Kd.R_append_rows Kd.string (w0 := w0) w0.heap.size rfl (.tmp 43) (.tmp 46) 38 9 (.string ⟨#[]⟩) 16 rfl Tryz.underlying38 info9 rfl (by decide) (by omega) v389 y388 y391 _ _ _ (fun k_ => (P0_ k_ ∨ w.heap.size ≤ k_) ∧ some k_ ≠ (.slice Ao31 l0.length co31 : Value).ownBlock) (fun _ => False) rfl rfl ?aO ?aR (fun _ _ h => h) (fun _ h => h.elim) ?aF ?aB ?aS ?aL ?_; (case aR => repeat (first | exact (by repeat (first | (with_reducible exact HR394.out) | (with_reducible refine Kd.C_alloc ?_ _) | (with_reducible refine Kd.C_drewN ?_ _) | (with_reducible refine Kd.C_drew ?_) | exact HR394.out)) | (with_reducible refine Kd.C_alloc ?_ _) | (with_reducible refine Kd.C_drewN ?_ _) | (with_reducible refine Kd.C_drew ?_))); (case aB => exact (by repeat (first | (with_reducible first | exact HB.out | apply below_alloc | apply pw_below_drewN | apply below_drew1) | exact HB.out))); (case aF => exact (fun k_ hk => ⟨(.inr (Nat.le_trans (by first | exact HK.out.1 | exact (show Kept w _ (fun k_ => P0_ k_) from by repeat (first | (with_reducible first | exact HK.out | apply Kept.alloc | apply Kept.drewN | apply Kept.drew) | exact HK.out)).1) hk)), Kd.fresh' (Kd.R_lt (by (with_reducible repeat (first | apply Kd.R_alloc | apply Kd.R_drewN | apply Kd.R_drew)); exact HO_0.out)) k_ hk⟩)); (case aO => exact (by (with_reducible repeat (first | apply Kd.R_alloc | apply Kd.R_drewN | apply Kd.R_drew)); exact HO390.out)); (case aS => exact (below_size (by repeat (first | (with_reducible first | exact HB.out | apply below_alloc | apply pw_below_drewN | apply below_drew1) | exact HB.out)))); (case aL => have := LMc30.out; omega); intro v396 w38 ho hb hg hat; rw [← Ny395.out] at ho; have n0_ := Aside0.mk (Kd.R_after (ok := (fun k_ => (P0_ k_ ∨ w.heap.size ≤ k_))) (by (with_reducible repeat (first | apply Kd.R_alloc | apply Kd.R_drewN | apply Kd.R_drew)); exact HO_0.out) hg hat); have n1_ := Aside0.mk (hb); have n2_ := Aside0.mk (Kept.of_grown (S := (fun k_ => P0_ k_)) hg (by repeat (first | (with_reducible first | exact HK.out | apply Kept.alloc | apply Kept.drewN | apply Kept.drew) | exact HK.out)) (fun k_ e_ => (HO390.out.1 k_ e_).1)); have n3_ := Aside0.mk ((show Kd.C Kd.string w38 Ao31 y381.length y381 from by rw [Ny381.out]; exact Kd.C_take (m := (x5_1 : Int).toNat) ((Kd.R_reads' (Kd.R_after (ok := (fun k_ => (P0_ k_ ∨ w.heap.size ≤ k_))) (by (with_reducible repeat (first | apply Kd.R_alloc | apply Kd.R_drewN | apply Kd.R_drew)); exact HO_0.out) hg hat)).2.2) KL34.out)); have n4_ := Aside0.mk ((show Kd.C Kd.string w38 A37 y391.length y391 from by rw [Ny391.out, KA37.out]; exact Kd.C_drop (m := (x5_1 : Int).toNat) (c := co31) ((Kd.R_reads' (Kd.R_after (ok := (fun k_ => (P0_ k_ ∨ w.heap.size ≤ k_))) (by (with_reducible repeat (first | apply Kd.R_alloc | apply Kd.R_drewN | apply Kd.R_drew)); exact HO_0.out) hg hat)).2.2) KL37.out ((Kd.R_reads' (Kd.R_after (ok := (fun k_ => (P0_ k_ ∨ w.heap.size ≤ k_))) (by (with_reducible repeat (first | apply Kd.R_alloc | apply Kd.R_drewN | apply Kd.R_drew)); exact HO_0.out) hg hat)).2.1))); have n5_ := Aside0.mk (ho); clear HO_0; clear HB; clear HK; clear HR384; clear HR394; clear HO390; have HO_0 := n0_; have HB := n1_; have HK := n2_; have HR384 := n3_; have HR394 := n4_; have HO397 := n5_; clear n0_ n1_ n2_ n3_ n4_ n5_; clear ho hb hg hat))
                  go_ret
                  exact ⟨_, by first | rfl | (simp [errW_none, errW_some] <;> rfl) | (simp [*, errW_none, errW_some] <;> rfl), by (with_reducible repeat (first | apply Kd.R_alloc | apply Kd.R_drewN | apply Kd.R_drew)); exact Kd.R_mono HO397.out (fun _ hk => hk.1), by repeat (first | (with_reducible first | exact HB.out | apply below_alloc | apply pw_below_drewN | apply below_drew1) | exact HB.out), by repeat (first | (with_reducible first | exact HK.out | apply Kept.alloc | apply Kept.drewN | apply Kept.drew) | exact HK.out)⟩
                · rw [if_neg c30] at H
                  exact absurd H (by simp)
              · rw [if_neg c27] at H
                exact absurd H (by simp)
            · rw [if_neg c26] at H
              exact absurd H (by simp)
          · rw [if_neg c25] at H
            exact absurd H (by simp)
        · rw [if_neg c24] at H
          exact absurd H (by simp)

end Go.Proofs.YtcjmplpfebpfpaaGreatDoor.PKindInstances

namespace Go.Proofs.YtcjmplpfebpfpaaGreatDoor.PKindInstances
open Go.RowKit Go.Proofs.YtcjmplpfebpfpaaGreatDoorW.PrintWords Go.Proofs.YtcjmplpfebpfpaaGreatDoorW.PrintLast Go.Proofs.YtcjmplpfebpfpaaGreatDoorW.PrintMore
attribute [local go_sem] max2_int min2_int max_two min_two max_three min_three max_four min_four   -- for this text's walks alone
set_option linter.unusedVariables false
set_option linter.unusedSimpArgs false

def plinthref03_Has.l0 : Nat → List ByteArray → ByteArray → Int → Option (Bool)
  | 0, _, _, _ => none
  | k + 1, x0, x1, x5 => if x5 < (x0.length : Int) then (if 0 ≤ x5 then (if (rdOf ByteArray.empty x0 x5).toList = x1.toList then (some true) else (plinthref03_Has.l0 k x0 x1 (wrap64 (x5 + 1)))) else (none)) else (some false)
def plinthref03_Has.f (k : Nat) (l0 : List ByteArray) (a1 : ByteArray) : Option (Bool) := plinthref03_Has.l0 k l0 a1 0
set_option maxHeartbeats 8000000 in
set_option maxRecDepth 100000 in
theorem plinthref03_Has.calls (k : Nat) (A0 : Option Addr) (c0 : Nat) (l0 : List ByteArray) (a1 : ByteArray) (r : Bool) (w : World) (hr0 : Kd.C Kd.string w A0 l0.length l0) (hc0 : l0.length ≤ c0) (h : plinthref03_Has.f k l0 a1 = some r) :
    Calls Tryz.prog 102 #[.slice A0 l0.length c0, .string a1] w fun e w' => e = .returned (.bool r) ∧ Drawn0 w w' := by
  have HR0 := Aside0.mk hr0
  have HC0 := Aside0.mk hc0
  clear hr0 hc0
  have H : (plinthref03_Has.l0 k l0 a1 0) = some r := h
  clear h
  have H' := Aside0.mk H
  clear H
  go_enter Tryz.func102, Tryz.ntmps102
  go_wp2
  go_loopg [5] k (fun kq v5 w' => ∃ (x5_1 : Int), v5 = .int .i64 x5_1 ∧ Aside0 (plinthref03_Has.l0 kq l0 a1 x5_1 = some r) ∧ Aside0 (kq ≤ k) ∧ Drawn0 w w')
  case atStart => exact ⟨(0), (by first | rfl | (simp; done) | (simp [*]; done)), H', ⟨Nat.le_refl _⟩, by repeat (first | exact Drawn0.refl _ | apply Drawn0.step)⟩
  case round =>
    clear H'
    try clear c1
    try clear p2
    obtain ⟨x5_1, rfl, HA, HK1, ⟨m1, rfl⟩⟩ := hrel
    cases gk with
    | zero => exact absurd HA.out (by simp [plinthref03_Has.l0])
    | succ k1 =>
      have H := HA.out
      clear HA
      simp only [plinthref03_Has.l0] at H
      by_cases c3 : x5_1 < (l0.length : Int)
      · rw [if_pos c3] at H
        have c3b0 : decide (x5_1 < (l0.length : Int)) = true := decide_eq_true c3
        clear c3
        by_cases c4 : 0 ≤ x5_1
        · rw [if_pos c4] at H
          have c4b0 : decide (0 ≤ x5_1) = true := decide_eq_true c4
          clear c4
          by_cases c5 : (rdOf ByteArray.empty l0 x5_1).toList = a1.toList
          · rw [if_pos c5] at H
            have c5b0 : ((rdOf ByteArray.empty l0 x5_1).toList == a1.toList) = true := beq_iff_eq.mpr c5
            have c5b1 : ((rdOf ByteArray.empty l0 x5_1).toList != a1.toList) = false := bne_eq_false_iff_eq.mpr c5
            clear c5
            obtain rfl := Option.some.inj H
            have p417 : 0 ≤ (x5_1 : Int) := of_decide_eq_true (by first | (with_reducible assumption) | assumption)
            have q417 : x5_1 < (l0.length : Int) := of_decide_eq_true (by first | (with_reducible assumption) | assumption)
            obtain ⟨ad417, e417, hx417_0⟩ := Kd.at_string HR0.out x5_1 p417 q417
            cases e417
            replace p417 := eq_true p417
            replace q417 := eq_true q417
            go_wp2
            go_ret
            exact ⟨by first | rfl | (simp; done) | (simp [*]; done), by repeat (first | exact Drawn0.refl _ | apply Drawn0.step)⟩
          · rw [if_neg c5] at H
            have c5b0 : ((rdOf ByteArray.empty l0 x5_1).toList == a1.toList) = false := beq_eq_false_iff_ne.mpr c5
            have c5b1 : ((rdOf ByteArray.empty l0 x5_1).toList != a1.toList) = true := bne_iff_ne.mpr c5
            have H' := Aside0.mk H
            clear H
            have p417 : 0 ≤ (x5_1 : Int) := of_decide_eq_true (by first | (with_reducible assumption) | assumption)
            have q417 : x5_1 < (l0.length : Int) := of_decide_eq_true (by first | (with_reducible assumption) | assumption)
            obtain ⟨ad417, e417, hx417_0⟩ := Kd.at_string HR0.out x5_1 p417 q417
            cases e417
            replace p417 := eq_true p417
            replace q417 := eq_true q417
            go_wp2
            go_roundg k1
            case measure => have := HK1.out; omega
            case rel => exact ⟨(wrap64 (x5_1 + 1)), (by first | rfl | (simp; done) | (simp [*]; done)), H', ⟨by have := HK1.out; omega⟩, by repeat (first | exact Drawn0.refl _ | apply Drawn0.step)⟩
        · rw [if_neg c4] at H
          exact absurd H (by simp)
      · rw [if_neg c3] at H
        have c3b0 : decide (x5_1 < (l0.length : Int)) = false := decide_eq_false c3
        clear c3
        obtain rfl := Option.some.inj H
        go_wp2
        go_ret
        exact ⟨by first | rfl | (simp; done) | (simp [*]; done), by repeat (first | exact Drawn0.refl _ | apply Drawn0.step)⟩

end Go.Proofs.YtcjmplpfebpfpaaGreatDoor.PKindInstances
