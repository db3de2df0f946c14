/- Part 6 of what the law's row leans on (Ng): the print's words and functions, cut to what is reached, and own texts. -/
import Derived.Sort.KeysCollected
import Derived.WideShapes
import Derived.StringKeys
import Derived.Test.YtcjmplpfebpfpaaGreatDoorNg5
namespace Go.Proofs.YtcjmplpfebpfpaaGreatDoor
open Go.RowKit Go.Proofs Go.Proofs.YtcjmplpfebpfpaaGreatDoorW.PrintWords Go.Proofs.YtcjmplpfebpfpaaGreatDoorW.PrintLast Go.Proofs.YtcjmplpfebpfpaaGreatDoorW.PrintMore PKindInstances
set_option linter.unusedVariables false
set_option linter.unusedSimpArgs false

/-- Pairs of forms unified, one by one. -/
def allM (vs : List ByteArray) (n : Nat) : List (ByteArray × S24) → List S24 → List S24 → Option URes
  | mt, x :: la, y :: lb => match unifyM vs n mt x y false with | none => none | some (.stop e) => some (.stop e) | some (.ok mt') => allM vs n mt' la lb
  | mt, _, _ => some (.ok mt)

theorem two_rows {w : World} {b : Nat} {t : TypeId} {la lb : List S24} {A B : Option Addr} {c d : Nat} (h : w.heap[b]? = some (.cells #[.slice A la.length c, .slice B lb.length d] t (0, 0))) (ha : Kd.C k24 w A la.length la) (hc : la.length ≤ c) (hb : Kd.C k24 w B lb.length lb) (hd : lb.length ≤ d) :
    Kd.C (Kd.slice 22 k24) w (some ⟨b, 0, none⟩) [la, lb].length [la, lb] := by
  refine ⟨rfl, by simp, fun _ => ⟨_, rfl, fun j p hj => ?_⟩⟩
  match j, hj with
  | 0, hj =>
    obtain rfl : la = p := by simpa using hj
    refine ⟨[.slice A la.length c], rfl, ⟨A, c, rfl, hc, ha⟩, fun i u hu => ?_⟩
    match i, hu with
    | 0, hu =>
      obtain rfl : Value.slice A la.length c = u := by simpa using hu
      simp [World.cell?, h, Addr.add]
    | i + 1, hu => simp at hu
  | 1, hj =>
    obtain rfl : lb = p := by simpa using hj
    refine ⟨[.slice B lb.length d], rfl, ⟨B, d, rfl, hd, hb⟩, fun i u hu => ?_⟩
    match i, hu with
    | 0, hu =>
      obtain rfl : Value.slice B lb.length d = u := by simpa using hu
      simp [World.cell?, h, Addr.add, Kd.slice]
    | i + 1, hu => simp at hu
  | j + 2, hj => simp at hj

/-- The named results are read out of their cells. -/
theorem ua_results {w : World} {tmps : Array Value} {p q : Nat} {A : Option Addr} {n c : Nat} {z : Int} (h6 : tmps[6]? = some (.pointer (some ⟨p, 0, none⟩))) (h7 : tmps[7]? = some (.pointer (some ⟨q, 0, none⟩))) (hp : w.heap[p]? = some (.cells #[.slice A n c] 25 (0, 0))) (hq : w.heap[q]? = some (.cells #[.int .i64 z] 39 (0, 0))) :
    (results Tryz.f20 tmps).run Tryz.prog w = .ok (.tuple #[.slice A n c, .int .i64 z]) w := by
  have p3 : w.cell? ⟨p, 0, none⟩ = some (.slice A n c) := by simp [World.cell?, hp]
  have p4 : w.cell? ⟨q, 0, none⟩ = some (.int .i64 z) := by simp [World.cell?, hq]
  simp [results, Tryz.results20, go_sem, h6, h7, p3, p4]

/-- The world in which UnifyAll opens its solver. -/
def uaW (w : World) (A B : Option Addr) (n c m d : Nat) : World := ((w.alloc (.cells #[.slice none 0 0] 25)).alloc (.cells #[.int .i64 0] 39)).alloc (.cells #[.slice A n c, .slice B m d] 22)
theorem uaW_facts (w : World) (A B : Option Addr) (n c m d : Nat) : (uaW w A B n c m d).heap.size = w.heap.size + 3 ∧ Below w.heap.size w (uaW w A B n c m d) ∧
    (uaW w A B n c m d).heap[w.heap.size]? = some (.cells #[.slice none 0 0] 25 (0, 0)) ∧ (uaW w A B n c m d).heap[w.heap.size + 1]? = some (.cells #[.int .i64 0] 39 (0, 0)) ∧ (uaW w A B n c m d).heap[w.heap.size + 1 + 1]? = some (.cells #[.slice A n c, .slice B m d] 22 (0, 0)) := by
  have s1 := size_new w (.cells #[.slice none 0 0] 25)
  have s2 := size_new (w.alloc (.cells #[.slice none 0 0] 25)) (.cells #[.int .i64 0] 39)
  have s3 := size_new ((w.alloc (.cells #[.slice none 0 0] 25)).alloc (.cells #[.int .i64 0] 39)) (.cells #[.slice A n c, .slice B m d] 22)
  have h1 := (MapKept.heap_alloc w (.cells #[.slice none 0 0] 25)).1
  have h2 := (MapKept.heap_alloc (w.alloc (.cells #[.slice none 0 0] 25)) (.cells #[.int .i64 0] 39)).1
  have h3 := (MapKept.heap_alloc ((w.alloc (.cells #[.slice none 0 0] 25)).alloc (.cells #[.int .i64 0] 39)) (.cells #[.slice A n c, .slice B m d] 22)).1
  rw [s1] at h2
  rw [s2, s1] at h3
  unfold uaW
  refine ⟨by omega, below_alloc (below_alloc (below_alloc (Below.refl _ _) _) _) _, ?_, ?_, h3⟩
  · exact (Below.heap_alloc _ _ _ (by omega)).trans ((Below.heap_alloc _ _ _ (by omega)).trans h1)
  · exact (Below.heap_alloc _ _ _ (by omega)).trans h2

set_option maxRecDepth 100000 in
set_option maxHeartbeats 4000000 in
theorem UnifyAll_bad (la lb : List S24) (vars : List ByteArray) (A B AN : Option Addr) (c d cn : Nat) (w : World) (hv : Kd.C Kd.string w AN vars.length vars) (hcn : vars.length ≤ cn) (ha : Kd.C k24 w A la.length la) (hc : la.length ≤ c) (hb : Kd.C k24 w B lb.length lb) (hd : lb.length ≤ d)
    (hn : vars.length < 9000000) (hq : ∀ v ∈ vars, LeafC ⟨1, 0, v, []⟩ ∧ v.size < 8000000) (hla : la.length < 9000000 ∧ ∀ x ∈ la, allC x ∧ wid x < 9000000) (hlb : lb.length < 9000000 ∧ ∀ x ∈ lb, allC x ∧ wid x < 9000000) (hbad : (namesM [] vars && rowsM [la, lb]) = false) :
    Calls Tryz.prog 20 #[.slice A la.length c, .slice B lb.length d, .slice AN vars.length cn] w fun e w' => e = .returned (.tuple #[.slice none 0 0, .int .i64 1]) ∧ Below w.heap.size w w' := by
  obtain ⟨f1, f2, f3, f4, f5⟩ := uaW_facts w A B la.length c lb.length d
  have OP := open_any vars [la, lb] AN (some ⟨w.heap.size + 1 + 1, 0, none⟩) cn 2 (uaW w A B la.length c lb.length d) (Kd.C_below hv f2) hcn (two_rows f5 (Kd.C_below ha f2) hc (Kd.C_below hb f2) hd) (Nat.le_refl _) hn (by simp) hq (by
    intro l hl
    simp only [List.mem_cons, List.not_mem_nil, or_false] at hl
    rcases hl with rfl | rfl
    · exact hla
    · exact hlb)
  rw [hbad] at OP
  have OP : Hid _ := OP
  clear hv ha hb hq hla hlb hbad
  go_enter_defers Tryz.func20, Tryz.ntmps20
  go_wp2_with fail
  refine Calls.mono OP.out ?_
  rintro e w1 ⟨rfl, _, B1⟩
  have q3 := (B1.block _ (by omega)).trans f3
  have q4 := (B1.block _ (by omega)).trans f4
  have B2 : Below w.heap.size w w1 := below_after f2 B1
  have p3 : w1.cell? ⟨w.heap.size, 0, none⟩ = some (.slice none 0 0) := by simp [World.cell?, q3]
  have p4 : w1.cell? ⟨w.heap.size + 1, 0, none⟩ = some (.int .i64 0) := by simp [World.cell?, q4]
  have r3 := frozen4 (i := 0) q3
  have r4 := frozen4 (i := 0) q4
  clear B1 OP f1 f2 f3 f4 f5
  simp only [Bool.false_eq_true, if_false]
  go_wp2_with fail
  refine ⟨_, ua_results rfl rfl (A := none) (n := 0) (c := 0) (z := 1) ?_ ?_, rfl, ?_⟩
  · exact (heap_setCell_other _ ⟨w.heap.size + 1, 0, none⟩ w.heap.size _ (by simp)).trans (heap_setCell_same w1 w.heap.size 0 #[.slice none 0 0] 25 _ q3)
  · exact heap_setCell_same _ (w.heap.size + 1) 0 #[.int .i64 0] 39 _ ((heap_setCell_other w1 ⟨w.heap.size, 0, none⟩ (w.heap.size + 1) _ (by simp)).trans q4)
  · exact (B2.setCell (Nat.le_refl _) _).setCell (by simp) _

/-- What holds of the loop. -/
def UaRel (w X : World) (base sp vb tb : Nat) (vs : List ByteArray) (n : Nat) (la lb : List S24) (R : URes) (k : Nat) (x10 : Value) (wr : World) : Prop :=
  ∃ (i : Nat) (mt : List (ByteArray × S24)) (mtv : List (ByteArray × Value)), x10 = .int .i64 (i : Int) ∧ k + i = la.length ∧ i ≤ lb.length ∧ X.grownBy wr (some tb) ∧ SolvAt base wr sp vb tb (varsV vs) mtv ∧ ToAt w mt mtv ∧ allM vs n mt (la.drop i) (lb.drop i) = some R
/-- What comes back. -/
def UaPost (w : World) (RP : Value → Int → World → Prop) (la lb : List S24) : URes → Ending → World → Prop
  | .stop n, e, w' => e = .returned (.tuple #[.slice none 0 0, .int .i64 n]) ∧ Below w.heap.size w w'
  | .ok mt, e, w' => if la.length = lb.length then (∃ v E, e = .returned (.tuple #[v, .int .i64 E]) ∧ RP v E w' ∧ Below w.heap.size w w') else e = .returned (.tuple #[.slice none 0 0, .int .i64 8]) ∧ Below w.heap.size w w'

theorem allM_end {vs : List ByteArray} {n : Nat} {mt : List (ByteArray × S24)} {la lb : List S24} (h : la = [] ∨ lb = []) : allM vs n mt la lb = some (.ok mt) := by
  rcases h with rfl | rfl
  · cases lb <;> rfl
  · cases la <;> rfl

theorem leaves_congr {P : Program} {fn : Func} {R : Ending → World → Prop} {tmps tmps' : Array Value} (hr : results fn tmps = results fn tmps') : ∀ (ds : List Deferred) (u : FrameMode) (w : World), Leaves P fn tmps R ds u w → Leaves P fn tmps' R ds u w
  | [], .returning, w, ⟨v, h1, h2⟩ => ⟨v, by rw [← hr]; exact h1, h2⟩
  | [], .panicking chain, w, h => h
  | [], .run, w, h => h.elim
  | d :: ds, u, w, ⟨h1, fv, cap, f, args, h2, h3, h4⟩ => ⟨h1, fv, cap, f, args, h2, h3, h4.mono fun e u' w' h => by
      cases e with
      | returned v => exact leaves_congr hr ds _ w' h
      | panicked chain => exact leaves_congr hr ds _ w' h
      | outgrown => exact h⟩
theorem ua_res_put (tmps : Array Value) (d : Nat) (v : Value) (h6 : d ≠ 6) (h7 : d ≠ 7) : results Tryz.f20 (tmps.setIfInBounds d v) = results Tryz.f20 tmps := by
  unfold results
  rw [Tryz.results20]
  simp [Array.getElem?_setIfInBounds_ne h6, Array.getElem?_setIfInBounds_ne h7]
theorem ua_panic {R : Ending → World → Prop} {c : List PanicEntry} {a : Act} {w : World} {d : Nat} {v : Value} (h6 : d ≠ 6) (h7 : d ≠ 7) (h : bodyPostD Tryz.prog Tryz.f20 R (.panic c) (a.put (some d) v) w) : bodyPostD Tryz.prog Tryz.f20 R (.panic c) a w :=
  leaves_congr (ua_res_put a.tmps d v h6 h7) _ _ _ h

set_option maxRecDepth 100000 in
set_option maxHeartbeats 8000000 in
theorem UnifyAll_good (la lb : List S24) (vars : List ByteArray) (A B AN : Option Addr) (c d cn : Nat) (w : World) (hv : Kd.C Kd.string w AN vars.length vars) (hcn : vars.length ≤ cn) (ha : Kd.C k24 w A la.length la) (hc : la.length ≤ c) (hb : Kd.C k24 w B lb.length lb) (hd : lb.length ≤ d)
    (hn : vars.length < 9000000) (hq : ∀ v ∈ vars, LeafC ⟨1, 0, v, []⟩ ∧ v.size < 8000000) (hla : la.length < 9000000 ∧ ∀ x ∈ la, allC x ∧ wid x < 9000000) (hlb : lb.length < 9000000 ∧ ∀ x ∈ lb, allC x ∧ wid x < 9000000) (hgood : (namesM [] vars && rowsM [la, lb]) = true)
    (n : Nat) (R : URes) (hR : allM vars n [] la lb = some R) (RP : Value → Int → World → Prop) (hRP : ∀ v E w' W2, RP v E w' → (∀ k, k < w'.heap.size → k ≠ w.heap.size → k ≠ w.heap.size + 1 → W2.heap[k]? = w'.heap[k]?) → RP v E W2)
    (hres : ∀ mt, R = .ok mt → la.length = lb.length → ∀ (W1 : World) (sp vb tb : Nat) (mtv : List (ByteArray × Value)), Below w.heap.size w W1 → w.heap.size + 3 ≤ W1.heap.size → SolvAt (w.heap.size + 3) W1 sp vb tb (varsV vars) mtv → ToAt w mt mtv →
      Calls Tryz.prog 56 #[.pointer (some ⟨sp, 0, none⟩)] W1 fun e w' => ∃ A n c E, e = .returned (.tuple #[.slice A n c, .int .i64 E]) ∧ RP (.slice A n c) E w' ∧ Below W1.heap.size W1 w') :
    Calls Tryz.prog 20 #[.slice A la.length c, .slice B lb.length d, .slice AN vars.length cn] w (UaPost w RP la lb R) := by
  obtain ⟨f1, f2, f3, f4, f5⟩ := uaW_facts w A B la.length c lb.length d
  have OP := open_any vars [la, lb] AN (some ⟨w.heap.size + 1 + 1, 0, none⟩) cn 2 (uaW w A B la.length c lb.length d) (Kd.C_below hv f2) hcn (two_rows f5 (Kd.C_below ha f2) hc (Kd.C_below hb f2) hd) (Nat.le_refl _) hn (by simp) hq (by
    intro l hl
    simp only [List.mem_cons, List.not_mem_nil, or_false] at hl
    rcases hl with rfl | rfl
    · exact hla
    · exact hlb)
  rw [hgood, f1] at OP
  have OP : Hid _ := OP
  have HA : Hid _ := ha
  have HB : Hid _ := hb
  have HLA : Hid _ := hla
  have HLB : Hid _ := hlb
  have HRes : Hid _ := hres
  have HRP : Hid _ := hRP
  have HR : Hid _ := hR
  have hmf : ∀ (fn : Fn) (first cap : Array Value) (w : World), (Instr.makeFunc fn first cap).run Tryz.prog w = .ok (.func fn first cap) w := fun _ _ _ _ => rfl
  have hlaw : la.length < 9000000 := hla.1
  have hlbw : lb.length < 9000000 := hlb.1
  clear hv ha hb hq hla hlb hgood hres hRP hR
  go_enter_defers Tryz.func20, Tryz.ntmps20
  go_wp2_with fail
  refine Calls.mono OP.out ?_
  rintro e w1 ⟨rfl, hS1, B1⟩
  have S1 := hS1 rfl
  have q3 := (B1.block _ (by omega)).trans f3
  have q4 := (B1.block _ (by omega)).trans f4
  have B2 : Below w.heap.size w w1 := below_after f2 B1
  have hsz1 : w.heap.size + 3 ≤ w1.heap.size := by rw [← f1]; exact B1.size
  rw [f1] at S1
  have start : Hid (UaRel w w1 (w.heap.size + 3) (w.heap.size + 3 + 1 + 1) (w.heap.size + 3) (w.heap.size + 3 + 1) vars n la lb R la.length (.int .i64 ((0 : Nat) : Int)) w1) := ⟨0, [], [], rfl, rfl, Nat.zero_le _, ⟨rfl, rfl, rfl, Nat.le_refl _, fun _ _ _ => rfl⟩, S1, trivial, HR.out⟩
  have Q3 : Hid _ := q3
  have Q4 : Hid _ := q4
  have HB2 : Hid _ := B2
  clear B1 OP f1 f2 f3 f4 f5 S1 hS1 q3 q4 B2
  simp only [if_true]
  go_wp2_with fail
  go_loopg [10] la.length (fun k x10 wr => UaRel w w1 (w.heap.size + 3) (w.heap.size + 3 + 1 + 1) (w.heap.size + 3) (w.heap.size + 3 + 1) vars n la lb R k x10 wr)
  case atStart => exact start.out
  case round =>
    clear start
    obtain ⟨i, mt, mtv, rfl, hki, hil, hg, hS, hT, hV⟩ := hrel
    have hW := pw_below_grown HB2.out (some (w.heap.size + 3 + 1)) HB2.out.size hg (fun k hk => by cases hk; omega)
    have emin : min (la.length : Int) (lb.length : Int) = ((min la.length lb.length : Nat) : Int) := by omega
    by_cases hlt : i < min la.length lb.length
    · obtain ⟨g, rfl⟩ : ∃ g, gk = g + 1 := ⟨gk - 1, by omega⟩
      have elt : decide (i < min la.length lb.length) = true := decide_eq_true hlt
      obtain ⟨x, hx⟩ : ∃ x, la[i]? = some x := ⟨la[i]'(by omega), List.getElem?_eq_getElem _⟩
      obtain ⟨y, hy⟩ : ∃ y, lb[i]? = some y := ⟨lb[i]'(by omega), List.getElem?_eq_getElem _⟩
      obtain ⟨ad, A5, c5, rfl, g0, g1, g2, g3, g4, g5⟩ := row_at HA.out (by omega) hx
      obtain ⟨ae, B5, d5, rfl, k0, k1, k2, k3, k4, k5⟩ := row_at HB.out (by omega) hy
      rw [drop_at3 hx, drop_at3 hy] at hV
      simp only [allM] at hV
      have SX := (HLA.out.2 x (List.mem_of_getElem? hx)).2
      have SY := (HLB.out.2 y (List.mem_of_getElem? hy)).2
      clear hx hy
      obtain ⟨x0, x1, x2, x3⟩ := x
      obtain ⟨y0, y1, y2, y3⟩ := y
      have HC : Hid (∀ W' : World, Below w.heap.size w W' → (W'.cell? (ad.add (i * 4)) = some (.int .i64 x0) ∧ W'.cell? ⟨(ad.add (i * 4)).block, (ad.add (i * 4)).off + 1, none⟩ = some (.int .i64 x1) ∧ W'.cell? ⟨(ad.add (i * 4)).block, (ad.add (i * 4)).off + 2, none⟩ = some (.string x2) ∧ W'.cell? ⟨(ad.add (i * 4)).block, (ad.add (i * 4)).off + 3, none⟩ = some (.slice A5 x3.length c5)) ∧ (W'.cell? (ae.add (i * 4)) = some (.int .i64 y0) ∧ W'.cell? ⟨(ae.add (i * 4)).block, (ae.add (i * 4)).off + 1, none⟩ = some (.int .i64 y1) ∧ W'.cell? ⟨(ae.add (i * 4)).block, (ae.add (i * 4)).off + 2, none⟩ = some (.string y2) ∧ W'.cell? ⟨(ae.add (i * 4)).block, (ae.add (i * 4)).off + 3, none⟩ = some (.slice B5 y3.length d5))) :=
        fun W' h => ⟨⟨pw_cell_below h g0, pw_cell_below h g1, pw_cell_below h g2, pw_cell_below h g3⟩, pw_cell_below h k0, pw_cell_below h k1, pw_cell_below h k2, pw_cell_below h k3⟩
      have HWW : Hid _ := hW
      clear g0 g1 g2 g3 k0 k1 k2 k3
      cases hq1 : unifyM vars n mt ⟨x0, x1, x2, x3⟩ ⟨y0, y1, y2, y3⟩ false with
      | none => rw [hq1] at hV; cases hV
      | some R1 =>
        rw [hq1] at hV
        have UU : Hid (∀ wq, Below wr.heap.size wr wq → _) := fun wq hwq => unify_ok vars n w wq (w.heap.size + 3) (w.heap.size + 3 + 1 + 1) (w.heap.size + 3) (w.heap.size + 3 + 1) mt mtv ⟨x0, x1, x2, x3⟩ ⟨y0, y1, y2, y3⟩ false A5 B5 c5 d5 R1 (hS.below hwq) hT (hW.trans (hwq.mono hW.size)) (by omega) g5 g4 SX k5 k4 SY hq1
        have HG : Hid _ := hg
        have HV : Hid _ := hV
        clear hq1 SX SY hg hS hT hV g5 k5 hW
        go_wp2_with fail
        refine wp_region_held_drew (S := fun w' => (w'.cell? (ad.add (i * 4)) = some (.int .i64 x0) ∧ w'.cell? ⟨(ad.add (i * 4)).block, (ad.add (i * 4)).off + 1, none⟩ = some (.int .i64 x1) ∧ w'.cell? ⟨(ad.add (i * 4)).block, (ad.add (i * 4)).off + 2, none⟩ = some (.string x2) ∧ w'.cell? ⟨(ad.add (i * 4)).block, (ad.add (i * 4)).off + 3, none⟩ = some (.slice A5 x3.length c5)) ∧ (w'.cell? (ae.add (i * 4)) = some (.int .i64 y0) ∧ w'.cell? ⟨(ae.add (i * 4)).block, (ae.add (i * 4)).off + 1, none⟩ = some (.int .i64 y1) ∧ w'.cell? ⟨(ae.add (i * 4)).block, (ae.add (i * 4)).off + 2, none⟩ = some (.string y2) ∧ w'.cell? ⟨(ae.add (i * 4)).block, (ae.add (i * 4)).off + 3, none⟩ = some (.slice B5 y3.length d5))) (by kernel_rfl) (HC.out _ (below_drew HWW.out)) (fun hHeld => ?_)
        have i1 : decide (i < la.length) = true := decide_eq_true (by omega)
        have i2 : decide (i < lb.length) = true := decide_eq_true (by omega)
        refine takeV 0 (some 31) (.pointer (some ⟨w.heap.size + 3 + 1 + 1, 0, none⟩)) rfl rfl (by kernel_rfl) (by kernel_rfl) (by kernel_rfl) (fun _ _ _ h => ua_panic (by decide) (by decide) h) (Or.inl ⟨by kernel_rfl, fun W hSw => by go_simp⟩) hHeld ?_
        try simp only [Act.put, List.setIfInBounds_toArray, List.set_cons_zero, List.set_cons_succ]
        refine takeV 1 (some 32) (.slice (some ad) la.length c) rfl rfl (by kernel_rfl) (by kernel_rfl) (by kernel_rfl) (fun _ _ _ h => ua_panic (by decide) (by decide) h) (Or.inl ⟨by kernel_rfl, fun W hSw => by go_simp⟩) hHeld ?_
        try simp only [Act.put, List.setIfInBounds_toArray, List.set_cons_zero, List.set_cons_succ]
        refine takeV 2 (some 33) (.int .i64 (i : Int)) rfl rfl (by kernel_rfl) (by kernel_rfl) (by kernel_rfl) (fun _ _ _ h => ua_panic (by decide) (by decide) h) (Or.inl ⟨by kernel_rfl, fun W hSw => by go_simp⟩) hHeld ?_
        try simp only [Act.put, List.setIfInBounds_toArray, List.set_cons_zero, List.set_cons_succ]
        refine takeV 3 (some 34) (.pointer (some (ad.add (i * 4)))) rfl rfl (by kernel_rfl) (by kernel_rfl) (by kernel_rfl) (fun _ _ _ h => ua_panic (by decide) (by decide) h) (Or.inl ⟨by kernel_rfl, fun W hSw => by go_simp; intro h9; exact absurd h9 (by omega)⟩) hHeld ?_
        try simp only [Act.put, List.setIfInBounds_toArray, List.set_cons_zero, List.set_cons_succ]
        refine takeV 4 (some 35) (formV x0 x1 x2 A5 x3.length c5) rfl rfl (by kernel_rfl) (by kernel_rfl) (by kernel_rfl) (fun _ _ _ h => ua_panic (by decide) (by decide) h) (Or.inl ⟨by kernel_rfl, fun W hSw => by obtain ⟨⟨s0, s1, s2, s3⟩, t0, t1, t2, t3⟩ := hSw; go_simp⟩) hHeld ?_
        try simp only [Act.put, List.setIfInBounds_toArray, List.set_cons_zero, List.set_cons_succ]
        refine takeV 5 (some 36) (.slice (some ae) lb.length d) rfl rfl (by kernel_rfl) (by kernel_rfl) (by kernel_rfl) (fun _ _ _ h => ua_panic (by decide) (by decide) h) (Or.inl ⟨by kernel_rfl, fun W hSw => by go_simp⟩) hHeld ?_
        try simp only [Act.put, List.setIfInBounds_toArray, List.set_cons_zero, List.set_cons_succ]
        refine takeV 6 (some 37) (.int .i64 (i : Int)) rfl rfl (by kernel_rfl) (by kernel_rfl) (by kernel_rfl) (fun _ _ _ h => ua_panic (by decide) (by decide) h) (Or.inl ⟨by kernel_rfl, fun W hSw => by go_simp⟩) hHeld ?_
        try simp only [Act.put, List.setIfInBounds_toArray, List.set_cons_zero, List.set_cons_succ]
        refine takeV 7 (some 38) (.pointer (some (ae.add (i * 4)))) rfl rfl (by kernel_rfl) (by kernel_rfl) (by kernel_rfl) (fun _ _ _ h => ua_panic (by decide) (by decide) h) (Or.inl ⟨by kernel_rfl, fun W hSw => by go_simp; intro h9; exact absurd h9 (by omega)⟩) hHeld ?_
        try simp only [Act.put, List.setIfInBounds_toArray, List.set_cons_zero, List.set_cons_succ]
        refine takeV 8 (some 39) (formV y0 y1 y2 B5 y3.length d5) rfl rfl (by kernel_rfl) (by kernel_rfl) (by kernel_rfl) (fun _ _ _ h => ua_panic (by decide) (by decide) h) (Or.inl ⟨by kernel_rfl, fun W hSw => by obtain ⟨⟨s0, s1, s2, s3⟩, t0, t1, t2, t3⟩ := hSw; go_simp⟩) hHeld ?_
        try simp only [Act.put, List.setIfInBounds_toArray, List.set_cons_zero, List.set_cons_succ]
        refine wpAnyH_ready (rs := [9]) (by kernel_rfl) (by simp) ?_
        refine AllReadyH.cons rfl (fun K hK => ?_) AllReadyH.nil
        clear hHeld
        go_simp
        go_at_call 55
        refine Calls.mono (UU.out _ (below_drew (Below.refl _ _))) ?_
        rintro e w6 h6
        cases R1 with
        | stop e1 =>
          obtain ⟨rfl, h7⟩ := h6
          have hV := HV.out
          simp only [Option.some.injEq] at hV
          subst hV
          have G6 : w1.grownBy w6 (some (w.heap.size + 3 + 1)) := HG.out.trans ((grown_of_below (below_drew (Below.refl _ _)) (some (w.heap.size + 3 + 1))).trans h7)
          have W6 := pw_below_grown HB2.out (some (w.heap.size + 3 + 1)) HB2.out.size G6 (fun k hk => by cases hk; omega)
          have q3 := (G6.block _ (by omega) (by intro h; injection h; omega)).trans Q3.out
          have q4 := (G6.block _ (by omega) (by intro h; injection h; omega)).trans Q4.out
          show bodyPostD Tryz.prog Tryz.f20 _ (.panic _) _ _
          refine leaves_cons (f := 54) (args := #[.pointer (some ⟨w.heap.size, 0, none⟩), .pointer (some ⟨w.heap.size + 1, 0, none⟩)]) (by simp) (by simp [go_sem]) ?_
          refine (catch_stop w.heap.size (w.heap.size + 1) _ _ e1 w6 q3 q4 (by omega)).mono ?_
          rintro e u' w7 ⟨rfl, rfl, t3, t4, hbel⟩
          simp only [settle, stopE, List.dropWhile_nil]
          exact ⟨_, ua_results rfl rfl t3 t4, rfl, hbel w W6 (Nat.le_refl _) (by omega)⟩
        | ok mt3 =>
          obtain ⟨rfl, h7, mtv3, h8, h9⟩ := h6
          have hV := HV.out
          simp only [] at hV
          have G6 : w1.grownBy w6 (some (w.heap.size + 3 + 1)) := HG.out.trans ((grown_of_below (below_drew (Below.refl _ _)) (some (w.heap.size + 3 + 1))).trans h7)
          have W6 := pw_below_grown HB2.out (some (w.heap.size + 3 + 1)) HB2.out.size G6 (fun k hk => by cases hk; omega)
          refine hK.out _ _ (HC.out _ W6) (fun hHeld => ?_)
          have H7 : Hid _ := G6
          have H8 : Hid _ := h8
          have H9 : Hid _ := h9
          have HV9 : Hid _ := hV
          clear hK K hHeld h7 h8 h9 hV G6 W6 HV
          try simp only [Act.put, List.setIfInBounds_toArray, List.set_cons_zero, List.set_cons_succ]
          refine ⟨by kernel_rfl, ?_⟩
          go_wp2_with fail
          go_roundg g
          case measure => omega
          case rel => exact ⟨i + 1, mt3, mtv3, by go_num, by omega, by omega, H7.out, H8.out, H9.out, HV9.out⟩
    · have elt : decide (i < min la.length lb.length) = false := decide_eq_false hlt
      have ele : min la.length lb.length ≤ i := by omega
      rw [allM_end (by rcases (by omega : la.length ≤ i ∨ lb.length ≤ i) with h | h; exact .inl (List.drop_eq_nil_of_le h); exact .inr (List.drop_eq_nil_of_le h))] at hV
      obtain rfl := Option.some.inj hV
      have q3 := (hg.block _ (by omega) (by intro h; injection h; omega)).trans Q3.out
      have q4 := (hg.block _ (by omega) (by intro h; injection h; omega)).trans Q4.out
      have p3 : wr.cell? ⟨w.heap.size, 0, none⟩ = some (.slice none 0 0) := by simp [World.cell?, q3]
      have p4 : wr.cell? ⟨w.heap.size + 1, 0, none⟩ = some (.int .i64 0) := by simp [World.cell?, q4]
      have r3 := frozen4 (i := 0) q3
      have r4 := frozen4 (i := 0) q4
      have HQ3 : Hid _ := q3
      have HQ4 : Hid _ := q4
      have S9 : Hid _ := hS
      have T9 : Hid _ := hT
      have W9 : Hid _ := hW
      have Z9 : w.heap.size + 3 ≤ wr.heap.size := Nat.le_trans hsz1 hg.size
      clear hV hg hS hT hW q3 q4
      by_cases hll : la.length = lb.length
      · have en : ((la.length : Int) != (lb.length : Int)) = false := bne_eq_false_iff_eq.mpr (by omega)
        have RS : Hid _ := HRes.out mt rfl hll wr (w.heap.size + 3 + 1 + 1) (w.heap.size + 3) (w.heap.size + 3 + 1) mtv W9.out Z9 S9.out T9.out
        go_wp2_with fail
        refine Calls.mono RS.out ?_
        rintro e w7 ⟨A7, n7, c7, E7, rfl, hR7, B7⟩
        have q3 := (B7.block _ (by omega)).trans HQ3.out
        have q4 := (B7.block _ (by omega)).trans HQ4.out
        have p3 : w7.cell? ⟨w.heap.size, 0, none⟩ = some (.slice none 0 0) := by simp [World.cell?, q3]
        have p4 : w7.cell? ⟨w.heap.size + 1, 0, none⟩ = some (.int .i64 0) := by simp [World.cell?, q4]
        have r3 := frozen4 (i := 0) q3
        have r4 := frozen4 (i := 0) q4
        have W7 : Hid _ := below_after W9.out B7
        have R7 : Hid _ := hR7
        have K3 : Hid _ := q3
        have K4 : Hid _ := q4
        clear B7 hR7 q3 q4
        go_wp2_with fail
        refine leaves_cons (f := 54) (args := #[.pointer (some ⟨w.heap.size, 0, none⟩), .pointer (some ⟨w.heap.size + 1, 0, none⟩)]) (by simp) (by simp [go_sem]) ?_
        refine (catch_idle _ _ _).mono ?_
        rintro e u' w8 ⟨rfl, rfl, rfl⟩
        refine ⟨_, ua_results rfl rfl (A := A7) (n := n7) (c := c7) (z := E7) ?_ ?_, ?_⟩
        · exact (heap_setCell_other _ ⟨w.heap.size + 1, 0, none⟩ w.heap.size _ (by simp)).trans (heap_setCell_same w7 w.heap.size 0 #[.slice none 0 0] 25 _ K3.out)
        · exact heap_setCell_same _ (w.heap.size + 1) 0 #[.int .i64 0] 39 _ ((heap_setCell_other w7 ⟨w.heap.size, 0, none⟩ (w.heap.size + 1) _ (by simp)).trans K4.out)
        · show (if la.length = lb.length then _ else _)
          rw [if_pos hll]
          refine ⟨_, _, rfl, HRP.out _ _ _ _ R7.out (fun k hk h1 h2 => ?_), (W7.out.setCell (Nat.le_refl _) _).setCell (by simp) _⟩
          exact (heap_setCell_other _ ⟨w.heap.size + 1, 0, none⟩ k _ h2).trans (heap_setCell_other _ ⟨w.heap.size, 0, none⟩ k _ h1)
      · have en : ((la.length : Int) != (lb.length : Int)) = true := bne_iff_ne.mpr (by omega)
        go_wp2_with fail
        refine leaves_cons (f := 54) (args := #[.pointer (some ⟨w.heap.size, 0, none⟩), .pointer (some ⟨w.heap.size + 1, 0, none⟩)]) (by simp) (by simp [go_sem]) ?_
        refine (catch_idle _ _ _).mono ?_
        rintro e u' w8 ⟨rfl, rfl, rfl⟩
        refine ⟨_, ua_results rfl rfl (A := none) (n := 0) (c := 0) (z := 8) ?_ ?_, ?_⟩
        · exact (heap_setCell_other _ ⟨w.heap.size + 1, 0, none⟩ w.heap.size _ (by simp)).trans (heap_setCell_same wr w.heap.size 0 #[.slice none 0 0] 25 _ HQ3.out)
        · exact heap_setCell_same _ (w.heap.size + 1) 0 #[.int .i64 0] 39 _ ((heap_setCell_other wr ⟨w.heap.size, 0, none⟩ (w.heap.size + 1) _ (by simp)).trans HQ4.out)
        · show (if la.length = lb.length then _ else _)
          rw [if_neg hll]
          exact ⟨rfl, (W9.out.setCell (Nat.le_refl _) _).setCell (by simp) _⟩

end Go.Proofs.YtcjmplpfebpfpaaGreatDoor

namespace Go.Proofs.YtcjmplpfebpfpaaGreatDoor
open Go.RowKit Go.Proofs Go.Proofs.YtcjmplpfebpfpaaGreatDoorW.PrintWords Go.Proofs.YtcjmplpfebpfpaaGreatDoorW.PrintLast Go.Proofs.YtcjmplpfebpfpaaGreatDoorW.PrintMore PKindInstances
set_option linter.unusedVariables false
set_option linter.unusedSimpArgs false

theorem one_row {w : World} {b : Nat} {x : S24} {A : Option Addr} {c : Nat} (h : w.heap[b]? = some (.cells #[.int .i64 x.f0, .int .i64 x.f1, .string x.f2, .slice A x.f3.length c] 24 (0, 0))) (hx : Kd.C k24 w A x.f3.length x.f3) (hc : x.f3.length ≤ c) :
    Kd.C k24 w (some ⟨b, 0, none⟩) [x].length [x] := by
  refine ⟨rfl, by simp, fun _ => ⟨_, rfl, fun j p hj => ?_⟩⟩
  match j, hj with
  | 0, hj =>
    obtain rfl : x = p := by simpa using hj
    refine ⟨_, rfl, k24_mk w x hc hx, fun i u hu => ?_⟩
    match i, hu with
    | 0, hu => obtain rfl := Option.some.inj hu; simp [World.cell?, h, Addr.add]
    | 1, hu => obtain rfl := Option.some.inj hu; simp [World.cell?, h, Addr.add]
    | 2, hu => obtain rfl := Option.some.inj hu; simp [World.cell?, h, Addr.add]
    | 3, hu => obtain rfl := Option.some.inj hu; simp [World.cell?, h, Addr.add]
    | i + 4, hu => simp at hu
  | j + 1, hj => simp at hj

/-- Four blocks, one behind the other. -/
theorem four_boxes (w : World) (o1 o2 o3 o4 : Obj) : Below w.heap.size w ((((w.alloc o1).alloc o2).alloc o3).alloc o4) ∧ ((((w.alloc o1).alloc o2).alloc o3).alloc o4).heap[w.heap.size + 1 + 1]? = some o3 ∧ ((((w.alloc o1).alloc o2).alloc o3).alloc o4).heap[w.heap.size + 1 + 1 + 1]? = some o4 := by
  have s1 := size_new w o1
  have s2 := size_new (w.alloc o1) o2
  have s3 := size_new ((w.alloc o1).alloc o2) o3
  have h3 := (MapKept.heap_alloc ((w.alloc o1).alloc o2) o3).1
  have h4 := (MapKept.heap_alloc (((w.alloc o1).alloc o2).alloc o3) o4).1
  rw [s2, s1] at h3
  rw [s3, s2, s1] at h4
  exact ⟨below_alloc (below_alloc (below_alloc (below_alloc (Below.refl _ _) _) _) _) _, (Below.heap_alloc _ _ _ (by omega)).trans h3, h4⟩

/-- What comes back of a call of two results. -/
def TwoPost (w : World) (RP : Value → Int → World → Prop) (e : Ending) (w' : World) : Prop := ∃ A n c E, e = .returned (.tuple #[.slice A n c, .int .i64 E]) ∧ RP (.slice A n c) E w' ∧ Below w.heap.size w w'

set_option maxRecDepth 100000 in
theorem Unify_of (x y : S24) (A B : Option Addr) (c d : Nat) (v : Value) (w : World) (RP : Value → Int → World → Prop) (hx : Kd.C k24 w A x.f3.length x.f3) (hc : x.f3.length ≤ c) (hy : Kd.C k24 w B y.f3.length y.f3) (hd : y.f3.length ≤ d)
    (h : ∀ (W : World) (p q : Nat), Below w.heap.size w W → Kd.C k24 W (some ⟨p, 0, none⟩) [x].length [x] → Kd.C k24 W (some ⟨q, 0, none⟩) [y].length [y] → Calls Tryz.prog 20 #[.slice (some ⟨p, 0, none⟩) 1 1, .slice (some ⟨q, 0, none⟩) 1 1, v] W (TwoPost W RP)) :
    Calls Tryz.prog 22 #[formV x.f0 x.f1 x.f2 A x.f3.length c, formV y.f0 y.f1 y.f2 B y.f3.length d, v] w (TwoPost w RP) := by
  have hu24 := Tryz.underlying24
  have F := fun o1 o2 => four_boxes w o1 o2 (.cells #[.int .i64 x.f0, .int .i64 x.f1, .string x.f2, .slice A x.f3.length c] 24) (.cells #[.int .i64 y.f0, .int .i64 y.f1, .string y.f2, .slice B y.f3.length d] 24)
  have HC : Hid (∀ o1 o2, Calls Tryz.prog 20 _ _ (TwoPost _ RP)) := fun o1 o2 => h _ _ _ (F o1 o2).1 (one_row (F o1 o2).2.1 (Kd.C_below hx (F o1 o2).1) hc) (one_row (F o1 o2).2.2 (Kd.C_below hy (F o1 o2).1) hd)
  have HB : Hid (∀ o1 o2, _) := fun o1 o2 => (F o1 o2).1
  clear h F hx hy
  obtain ⟨x0, x1, x2, x3⟩ := x
  obtain ⟨y0, y1, y2, y3⟩ := y
  go_enter Tryz.func22, Tryz.ntmps22
  go_wp2_with fail
  refine Calls.mono (HC.out _ _) ?_
  rintro e w1 ⟨A1, n1, c1, E1, rfl, h1, B1⟩
  have B2 : Hid _ := below_after (HB.out _ _) B1
  have R1 : Hid _ := h1
  clear B1 h1
  go_wp2_with fail
  go_ret2
  exact ⟨A1, n1, c1, E1, rfl, R1.out, B2.out⟩

set_option maxRecDepth 100000 in
theorem Word_any (s : ByteArray) (w : World) : Calls Tryz.prog 49 #[.string s] w fun e w' => e = .returned (formV 1 0 s none 0 0) ∧ Below w.heap.size w w' := by
  have hu24 := Tryz.underlying24
  go_enter Tryz.func49, Tryz.ntmps49
  go_wp2
  refine bodyPost_ret (results_cell_row rfl _ _ w.heap.size 24 #[.int .i64 1, .int .i64 0, .string s, .slice none 0 0] (0, 0) _ rfl (MapKept.heap_alloc w _).1 Tryz.underlying24 rfl (by kernel_rfl)) rfl ?_
  exact ⟨rfl, below_alloc (Below.refl _ _) _⟩
set_option maxRecDepth 100000 in
theorem word_any (s : ByteArray) (w : World) : Calls Tryz.prog 52 #[.string s] w fun e w' => e = .returned (formV 1 0 s none 0 0) ∧ Below w.heap.size w w' := by
  have hu24 := Tryz.underlying24
  go_enter Tryz.func52, Tryz.ntmps52
  go_wp2_with fail
  refine (Word_any _ _).mono ?_
  rintro e w1 ⟨rfl, B1⟩
  have hb := box_heap B1
  obtain ⟨p0, p1, p2, p3⟩ := cells4 hb
  have f0 := frozen4 (i := 0) hb
  have f1 := frozen4 (i := 1) hb
  have f2 := frozen4 (i := 2) hb
  have f3 := frozen4 (i := 3) hb
  have B2 : Hid _ := below_after (below_alloc (Below.refl w.heap.size w) (Obj.cells #[.int .i64 0, .int .i64 0, .string ⟨#[]⟩, .slice none 0 0] 24)) B1
  have HB : Hid _ := hb
  clear B1 hb
  go_wp2_with fail
  refine bodyPost_ret (results_cell_row rfl _ _ w.heap.size 24 #[.int .i64 1, .int .i64 0, .string s, .slice none 0 0] (0, 0) _ rfl (set4 HB.out) Tryz.underlying24 rfl (by kernel_rfl)) rfl ?_
  exact ⟨rfl, below4 B2.out (Nat.le_refl _)⟩
set_option maxRecDepth 100000 in
theorem list_any (A : Option Addr) (n c : Nat) (w : World) : Calls Tryz.prog 51 #[.slice A n c] w fun e w' => e = .returned (formV 3 0 ⟨#[]⟩ A n c) ∧ Below w.heap.size w w' := by
  have hu24 := Tryz.underlying24
  go_enter Tryz.func51, Tryz.ntmps51
  go_wp2
  refine bodyPost_ret (results_cell_row rfl _ _ w.heap.size 24 #[.int .i64 3, .int .i64 0, .string ⟨#[]⟩, .slice A n c] (0, 0) _ rfl (MapKept.heap_alloc w _).1 Tryz.underlying24 rfl (by kernel_rfl)) rfl ?_
  exact ⟨rfl, below_alloc (Below.refl _ _) _⟩
end Go.Proofs.YtcjmplpfebpfpaaGreatDoor

namespace Go.Proofs.YtcjmplpfebpfpaaGreatDoor
open Go.RowKit Go.Proofs Go.Proofs.YtcjmplpfebpfpaaGreatDoorW.PrintWords Go.Proofs.YtcjmplpfebpfpaaGreatDoorW.PrintLast Go.Proofs.YtcjmplpfebpfpaaGreatDoorW.PrintMore PKindInstances
set_option linter.unusedVariables false
set_option linter.unusedSimpArgs false

end Go.Proofs.YtcjmplpfebpfpaaGreatDoor

namespace Go.Proofs.YtcjmplpfebpfpaaGreatDoor.PKindInstances
open Go.RowKit Go.Proofs.YtcjmplpfebpfpaaGreatDoorW.PrintWords Go.Proofs.YtcjmplpfebpfpaaGreatDoorW.PrintLast Go.Proofs.YtcjmplpfebpfpaaGreatDoorW.PrintMore
attribute [local go_sem] max2_int min2_int max_two min_two max_three min_three max_four min_four   -- for this text's walks alone
set_option linter.unusedVariables false
set_option linter.unusedSimpArgs false

def plinthref03_isWord.f (a0_0 : Int) (a0_1 : Int) (a0_2 : ByteArray) (l0_3 : List (S24)) : Option (Bool) := some (a0_0 == 1)
set_option maxHeartbeats 8000000 in
set_option maxRecDepth 100000 in
theorem plinthref03_isWord.calls (a0_0 : Int) (a0_1 : Int) (a0_2 : ByteArray) (A0_3 : Option Addr) (c0_3 : Nat) (l0_3 : List (S24)) (r : Bool) (w : World) (hr0_3 : Kd.C k24 w A0_3 l0_3.length l0_3) (hc0_3 : l0_3.length ≤ c0_3) (h : plinthref03_isWord.f a0_0 a0_1 a0_2 l0_3 = some r) :
    Calls Tryz.prog 61 #[.agg #[.int .i64 a0_0, .int .i64 a0_1, .string a0_2, .slice A0_3 l0_3.length c0_3]] w fun e w' => e = .returned (.bool r) ∧ Below w.heap.size w w' := by
  have hu24 := Tryz.underlying24
  have HR0_3 := Aside0.mk hr0_3
  have HC0_3 := Aside0.mk hc0_3
  clear hr0_3 hc0_3
  have HB := Aside0.mk (Below.refl w.heap.size w)
  have H : (some (a0_0 == 1)) = some r := h
  clear h
  obtain rfl := Option.some.inj H
  go_enter Tryz.func61, Tryz.ntmps61
  go_wp2_with (first | ((with_reducible refine gate_dst (N := 1) rfl ?_); refine box_event ?hg (N := 1) ?hd (cs := #[.int .i64 a0_0, .int .i64 a0_1, .string a0_2, .slice A0_3 l0_3.length c0_3]) (t := 24) ?hr ?_; (case hd => rfl); (case hg => rfl); (case hr => first | (go_simp; done) | (go_simp; rfl)); intro gb429 hg w2 hbox hb; have n0_ := Aside0.mk (below_step (by repeat (first | (with_reducible first | exact HB.out | apply below_alloc | apply pw_below_drewN | apply below_drew1) | exact HB.out)) hb); have n1_ := Aside0.mk (hbox); have n2_ := Aside0.mk ((by rw [hg]; exact (below_size (by repeat (first | (with_reducible first | exact HB.out | apply below_alloc | apply pw_below_drewN | apply below_drew1) | exact HB.out))) : w.heap.size ≤ gb429)); have n3_ := Aside0.mk ((by rw [hg]; exact (below_size (by repeat (first | (with_reducible first | exact HB.out | apply below_alloc | apply pw_below_drewN | apply below_drew1) | exact HB.out))) : w.heap.size ≤ gb429)); clear HB; have HB := n0_; have BK429 := n1_; have GW429 := n2_; have GE429 := n3_; clear n0_ n1_ n2_ n3_; clear hb hbox hg; have hcz3_0 : w2.cell? ⟨gb429, 0, none⟩ = some (.int .i64 a0_0) := (blk_cell BK429.out 0).trans rfl; have hcz3_1 : w2.cell? ⟨gb429, 1, none⟩ = some (.int .i64 a0_1) := (blk_cell BK429.out 1).trans rfl; have hcz3_2 : w2.cell? ⟨gb429, 2, none⟩ = some (.string a0_2) := (blk_cell BK429.out 2).trans rfl; have hcz3_3 : w2.cell? ⟨gb429, 3, none⟩ = some (.slice A0_3 l0_3.length c0_3) := (blk_cell BK429.out 3).trans rfl; have hfz3_0 := blk_frozen BK429.out 0; have hfz3_1 := blk_frozen BK429.out 1; have hfz3_2 := blk_frozen BK429.out 2; have hfz3_3 := blk_frozen BK429.out 3))
  go_ret
  exact ⟨by first | rfl | (simp [errW_none, errW_some] <;> rfl) | (simp [*, errW_none, errW_some] <;> rfl), by repeat (first | (with_reducible first | exact HB.out | apply below_alloc | apply pw_below_drewN | apply below_drew1 | refine below_set ?_ GE429.out) | exact HB.out)⟩

end Go.Proofs.YtcjmplpfebpfpaaGreatDoor.PKindInstances

namespace Go.Proofs.YtcjmplpfebpfpaaGreatDoor.PKindInstances
open Go.RowKit Go.Proofs.YtcjmplpfebpfpaaGreatDoorW.PrintWords Go.Proofs.YtcjmplpfebpfpaaGreatDoorW.PrintLast Go.Proofs.YtcjmplpfebpfpaaGreatDoorW.PrintMore
attribute [local go_sem] max2_int min2_int max_two min_two max_three min_three max_four min_four   -- for this text's walks alone
set_option linter.unusedVariables false
set_option linter.unusedSimpArgs false

end Go.Proofs.YtcjmplpfebpfpaaGreatDoor.PKindInstances

namespace Go.Proofs.YtcjmplpfebpfpaaGreatDoor.PKindInstances
open Go.RowKit Go.Proofs.YtcjmplpfebpfpaaGreatDoorW.PrintWords Go.Proofs.YtcjmplpfebpfpaaGreatDoorW.PrintLast Go.Proofs.YtcjmplpfebpfpaaGreatDoorW.PrintMore
attribute [local go_sem] max2_int min2_int max_two min_two max_three min_three max_four min_four   -- for this text's walks alone
set_option linter.unusedVariables false
set_option linter.unusedSimpArgs false

end Go.Proofs.YtcjmplpfebpfpaaGreatDoor.PKindInstances

namespace Go.Proofs.YtcjmplpfebpfpaaGreatDoor
open Go.RowKit Go.Proofs Go.Proofs.YtcjmplpfebpfpaaGreatDoorW.PrintWords Go.Proofs.YtcjmplpfebpfpaaGreatDoorW.PrintLast Go.Proofs.YtcjmplpfebpfpaaGreatDoorW.PrintMore PKindInstances
set_option linter.unusedVariables false
set_option linter.unusedSimpArgs false

end Go.Proofs.YtcjmplpfebpfpaaGreatDoor

namespace Go.Proofs.YtcjmplpfebpfpaaGreatDoor
open Go.RowKit Go.Proofs Go.Proofs.YtcjmplpfebpfpaaGreatDoorW.PrintWords Go.Proofs.YtcjmplpfebpfpaaGreatDoorW.PrintLast Go.Proofs.YtcjmplpfebpfpaaGreatDoorW.PrintMore PKindInstances
set_option linter.unusedVariables false
set_option linter.unusedSimpArgs false

end Go.Proofs.YtcjmplpfebpfpaaGreatDoor

namespace Go.Proofs.YtcjmplpfebpfpaaGreatDoor
open Go.RowKit Go.Proofs Go.Proofs.YtcjmplpfebpfpaaGreatDoorW.PrintWords Go.Proofs.YtcjmplpfebpfpaaGreatDoorW.PrintLast Go.Proofs.YtcjmplpfebpfpaaGreatDoorW.PrintMore PKindInstances
set_option linter.unusedVariables false
set_option linter.unusedSimpArgs false

theorem siz_pos (x : S24) : 0 < siz x := by obtain ⟨a, b, s, l⟩ := x; simp only [siz]; omega
end Go.Proofs.YtcjmplpfebpfpaaGreatDoor

namespace Go.Proofs.YtcjmplpfebpfpaaGreatDoor
open Go.RowKit Go.Proofs Go.Proofs.YtcjmplpfebpfpaaGreatDoorW.PrintWords Go.Proofs.YtcjmplpfebpfpaaGreatDoorW.PrintLast Go.Proofs.YtcjmplpfebpfpaaGreatDoorW.PrintMore PKindInstances
set_option linter.unusedVariables false
set_option linter.unusedSimpArgs false

end Go.Proofs.YtcjmplpfebpfpaaGreatDoor

namespace Go.Proofs.YtcjmplpfebpfpaaGreatDoor.PKindInstances
open Go.RowKit Go.Proofs.YtcjmplpfebpfpaaGreatDoorW.PrintWords Go.Proofs.YtcjmplpfebpfpaaGreatDoorW.PrintLast Go.Proofs.YtcjmplpfebpfpaaGreatDoorW.PrintMore
attribute [local go_sem] max2_int min2_int max_two min_two max_three min_three max_four min_four   -- for this text's walks alone
set_option linter.unusedVariables false
set_option linter.unusedSimpArgs false

end Go.Proofs.YtcjmplpfebpfpaaGreatDoor.PKindInstances

namespace Go.Proofs.YtcjmplpfebpfpaaGreatDoor
open Go.RowKit Go.Proofs Go.Proofs.YtcjmplpfebpfpaaGreatDoorW.PrintWords Go.Proofs.YtcjmplpfebpfpaaGreatDoorW.PrintLast Go.Proofs.YtcjmplpfebpfpaaGreatDoorW.PrintMore PKindInstances
set_option linter.unusedVariables false
set_option linter.unusedSimpArgs false

end Go.Proofs.YtcjmplpfebpfpaaGreatDoor

namespace Go.Proofs
open Go.RowKit Go.Maps Go.Sort Go.Shelf

/-- slices.Sort's two contracts at this dump, at the fence that asks nothing. -/
theorem Tryz.sorts64 (m : Nat) : AnyZ.SortsIn Tryz.prog Tryz.sorted64_ren Fence.wide m :=
  ⟨fun blk off cap ss W hH hblk hsz => callsIn_wide.2 (AnyM.slices_Sort_string Tryz.sort108 blk off cap ss W hH hblk hsz),
   fun p cap W => callsIn_wide.2 (AnyM.slices_Sort_string_none Tryz.sort108 p cap W)⟩

/-- **maps.Keys[map[string]plinth/api.Form,string,plinth/api.Form], at whatever map, the nil one too:** a function value over ONE NEW BLOCK, which holds the map. -/
theorem Tryz.maps_Keys_65 (mb : Option Nat) (W : World) : CallsIn Fence.wide 5 Tryz.prog 65 #[.map mb] W fun e w' => e = .returned (.func (.func 109) #[] #[.pointer (some ⟨W.heap.size, 0, none⟩)]) ∧ w' = W.alloc (.cells #[.map mb] 72) :=
  AnyZ.keys_in Tryz.keys65 Fence.wide 5 trivial rfl mb W

set_option maxHeartbeats 1000000 in
/-- **slices.Sorted[string] AT WHAT maps.Keys[map[string]plinth/api.Form,string,plinth/api.Form] HANDED BACK FOR A MAP THAT IS NOT nil** ('w': the world AHEAD of maps.Keys' call): A NEW SLICE THAT HOLDS THE MAP's KEYS, SORTED; nil just where it has none; nothing that lay before has turned. -/
theorem Tryz.slices_Sorted_keys_64_65 {H : Type} (b nn : Nat) (D0 : DataW H) (R : Value → Option (DataW H × List MemPlace)) (w : World) (hown : w.ownsMap Tryz.prog 9 R b nn D0) (hmax : Maps.size D0 ≤ maxLen) (hbytes : Maps.size D0 * 16 ≤ 140737488355328) :
    CallsIn Fence.wide 5 Tryz.prog 64 #[.func (.func 109) #[] #[.pointer (some ⟨w.heap.size, 0, none⟩)]] (w.alloc (.cells #[.map (some b)] 72)) fun e w' => ∃ (v : Value) (ss : List (List UInt8)), e = .returned v ∧ ss.Perm (strKeys D0) ∧
      w'.ownsRow (w.alloc (.cells #[.map (some b)] 72)).heap.size 9 1 v ss.length ((ss.mergeSort (fun x y => decide (x ≤ y))).map encStr) ∧ (v = .slice none 0 0 ↔ ss = []) ∧ Below (w.alloc (.cells #[.map (some b)] 72)).heap.size (w.alloc (.cells #[.map (some b)] 72)) w' := by
  have hbl := hown.lt
  have hseq : SeqGives Fence.wide 2 Tryz.prog 109 #[.pointer (some ⟨w.heap.size, 0, none⟩)] encStr (fun ss => ss.Perm (strKeys D0)) (Maps.size D0) (w.alloc (.cells #[.map (some b)] 72)) :=
    AnyZ.keys_gives (ρ := Tryz.keys65_ren) { Tryz.keys65 with } Fence.wide _ trivial rfl (by omega) w.heap.size b nn D0 _ (by simp) (by simp) (by
      obtain ⟨es, clock, hb, Ft, hs, hD⟩ := hown
      exact ⟨es, clock, (Below.heap_alloc _ _ b hbl).trans hb, Ft, hs, hD⟩)
  exact AnyZ.sorted_in Tryz.sorted64 Fence.wide 5 trivial trivial trivial trivial rfl (by omega) (Tryz.sorts64 _) (enters_of Tryz.func108 (by kernel_rfl) rfl) 109 #[.pointer (some ⟨w.heap.size, 0, none⟩)] trivial (enters_of Tryz.func109 (by kernel_rfl) rfl) _ _ hmax hbytes _ hseq

end Go.Proofs

namespace Go.Proofs.YtcjmplpfebpfpaaGreatDoor
open Go.RowKit Go.Proofs Go.Proofs.YtcjmplpfebpfpaaGreatDoorW.PrintWords Go.Proofs.YtcjmplpfebpfpaaGreatDoorW.PrintLast Go.Proofs.YtcjmplpfebpfpaaGreatDoorW.PrintMore PKindInstances
set_option linter.unusedVariables false
set_option linter.unusedSimpArgs false

def backB (l : List UInt8) : ByteArray := ⟨l.toArray⟩
theorem enc_back (l : List (List UInt8)) : l.map encStr = encs Value.string (l.map backB) := by
  simp [encs, backB, List.map_map, Function.comp_def, encStr]

end Go.Proofs.YtcjmplpfebpfpaaGreatDoor

namespace Go.Proofs.YtcjmplpfebpfpaaGreatDoor
open Go.RowKit Go.Proofs Go.Proofs.YtcjmplpfebpfpaaGreatDoorW.PrintWords Go.Proofs.YtcjmplpfebpfpaaGreatDoorW.PrintLast Go.Proofs.YtcjmplpfebpfpaaGreatDoorW.PrintMore PKindInstances
set_option linter.unusedVariables false
set_option linter.unusedSimpArgs false

theorem less_lt : ∀ (x y : List UInt8), Op.bytesLess x y = decide (x < y)
  | [], [] => by simp [Op.bytesLess]
  | _ :: _, [] => by simp [Op.bytesLess]
  | [], _ :: _ => by simp [Op.bytesLess]
  | p :: x, q :: y => by
    have ih := less_lt x y
    unfold Op.bytesLess
    rw [ih, Bool.eq_iff_iff]
    simp [List.cons_lt_cons_iff]

abbrev lessB (a b : ByteArray) : Bool := Op.bytesLess a.toList b.toList
theorem lessB_trans {a b c : ByteArray} (h : lessB a b = true) (h2 : lessB b c = true) : lessB a c = true := by
  simp only [lessB, less_lt, decide_eq_true_eq] at *
  exact List.lt_trans h h2
theorem lessB_irrefl (a : ByteArray) : lessB a a = false := by
  simp only [lessB, less_lt, decide_eq_false_iff_not]
  exact List.lt_irrefl _
theorem lessB_total {a b : ByteArray} (h : lessB a b = false) (h2 : a.toList ≠ b.toList) : lessB b a = true := by
  simp only [lessB, less_lt, decide_eq_false_iff_not, decide_eq_true_eq] at *
  exact (List.le_iff_lt_or_eq.1 (List.not_lt.1 h)).resolve_right (fun e => h2 e.symm)

/-- Ascending, each once. -/
def Asc (l : List ByteArray) : Prop := l.Pairwise fun a b => lessB a b = true
theorem Asc.nodup {l : List ByteArray} (h : Asc l) : l.Nodup := h.imp (fun {a b} h e => by rw [e, lessB_irrefl] at h; cases h)
theorem mem_putL : ∀ (l : List ByteArray) (s t : ByteArray), t ∈ putL l s ↔ t = s ∨ t ∈ l
  | [], s, t => by simp [putL]
  | x :: l, s, t => by
    have ih := mem_putL l s t
    simp only [putL]
    split
    · simp only [List.mem_cons, ih]
      constructor
      · rintro (h | h | h)
        · exact .inr (.inl h)
        · exact .inl h
        · exact .inr (.inr h)
      · rintro (h | h | h)
        · exact .inr (.inl h)
        · exact .inl h
        · exact .inr (.inr h)
    · split
      · rename_i e
        have := bytes_inj e
        subst this
        simp only [List.mem_cons]
        constructor
        · exact .inr
        · rintro (h | h)
          · exact .inl h
          · exact h
      · simp only [List.mem_cons]
theorem asc_putL : ∀ (l : List ByteArray) (s : ByteArray), Asc l → Asc (putL l s)
  | [], s, _ => by simp [putL, Asc]
  | x :: l, s, h => by
    have h1 := List.pairwise_cons.1 h
    have ih := asc_putL l s h1.2
    simp only [putL]
    split
    · rename_i e
      refine List.pairwise_cons.2 ⟨fun y hy => ?_, ih⟩
      rcases (mem_putL l s y).1 hy with rfl | hy
      · exact e
      · exact h1.1 y hy
    · rename_i e
      split
      · exact h
      · rename_i e2
        have e3 := lessB_total (a := x) (b := s) (by simpa [lessB] using e) e2
        refine List.pairwise_cons.2 ⟨fun y hy => ?_, h⟩
        rcases List.mem_cons.1 hy with rfl | hy
        · exact e3
        · exact lessB_trans e3 (h1.1 y hy)
theorem putAll_asc : ∀ (m l : List ByteArray), Asc l → Asc (m.foldl putL l) ∧ ∀ t, t ∈ m.foldl putL l ↔ t ∈ l ∨ t ∈ m
  | [], l, h => ⟨h, fun t => by simp⟩
  | s :: m, l, h => by
    obtain ⟨h1, h2⟩ := putAll_asc m (putL l s) (asc_putL l s h)
    refine ⟨h1, fun t => ?_⟩
    simp only [List.foldl_cons, h2, mem_putL, List.mem_cons]
    constructor
    · rintro ((h | h) | h)
      · exact .inr (.inl h)
      · exact .inl h
      · exact .inr (.inr h)
    · rintro (h | h | h)
      · exact .inl (.inr h)
      · exact .inl (.inl h)
      · exact .inr h
theorem backB_toList (t : List UInt8) : (backB t).toList = t := by rw [ByteArray.toList_eq]; rfl
theorem sorted_asc {l : List (List UInt8)} (h : l.Nodup) : Asc ((l.mergeSort leB).map backB) := by
  have tr : ∀ a b c : List UInt8, leB a b = true → leB b c = true → leB a c = true := fun a b c h1 h2 => by simp only [leB, decide_eq_true_eq] at *; exact List.le_trans h1 h2
  have tot : ∀ a b : List UInt8, (leB a b || leB b a) = true := fun a b => by simp only [leB, Bool.or_eq_true, decide_eq_true_eq]; exact List.le_total a b
  have hp := List.pairwise_mergeSort tr tot l
  have hn : (l.mergeSort leB).Nodup := ((List.mergeSort_perm l leB).nodup_iff).2 h
  refine List.pairwise_map.2 ((hp.and hn).imp fun {a b} hab => ?_)
  simp only [lessB, less_lt, backB_toList, decide_eq_true_eq]
  have h1 := hab.1
  simp only [leB, decide_eq_true_eq] at h1
  exact (List.le_iff_lt_or_eq.1 h1).resolve_right hab.2

end Go.Proofs.YtcjmplpfebpfpaaGreatDoor

namespace Go.Proofs.YtcjmplpfebpfpaaGreatDoor
open Go.RowKit Go.Proofs Go.MapKept Go.WideElems Go.Maps Go.Proofs.YtcjmplpfebpfpaaGreatDoorW.PrintWords Go.Proofs.YtcjmplpfebpfpaaGreatDoorW.PrintLast Go.Proofs.YtcjmplpfebpfpaaGreatDoorW.PrintMore PKindInstances
set_option linter.unusedVariables false
set_option linter.unusedSimpArgs false

def anyR (v : Value) : Option (DataW Unit × List MemPlace) := some (.lit (.bool true), [])
theorem map_owns {w : World} {b : Nat} {mv : List (ByteArray × Value)} (h : MapAt w b (kvs textV mv)) (hz : ∀ p ∈ mv, p.1.size ≤ maxLen) (hn : mv.length ≤ maxLen) :
    ∃ D : DataW Unit, w.ownsMap Tryz.prog 9 anyR b mv.length D ∧ (strKeys D).Nodup ∧ (∀ t, t ∈ strKeys D ↔ ∃ p ∈ mv, p.1.data.toList = t) ∧ Maps.size D = mv.length := by
  obtain ⟨es, c, hb, hl, hs⟩ := h
  have hes : es.size = mv.length := by
    have := congrArg List.length hl
    simpa [kvs] using this
  have hk : ∀ x ∈ es.toList, ∃ p ∈ mv, x.key = .string p.1 := by
    intro x hx
    have h1 : (x.key, x.val) ∈ kvs textV mv := by rw [← hl]; exact List.mem_map.2 ⟨x, hx, rfl⟩
    obtain ⟨p, hp, e⟩ := List.mem_map.1 h1
    exact ⟨p, hp, (Prod.mk.inj e).1.symm⟩
  have hrd : ∀ x ∈ es.toList, ∀ s : ByteArray, s.size ≤ maxLen → x.key = .string s → WideElems.rd Tryz.prog 9 anyR x = some (.string s.data.toList, .lit (.bool true)) := by
    intro x hx s hs9 e
    unfold WideElems.rd
    rw [e, WideMaps.keyOf_string_mk Tryz.underlying9 hs9]
    rfl
  have F : Fit Tryz.prog 9 anyR es c := ⟨by omega, hs, fun x hx => by
    obtain ⟨p, hp, e⟩ := hk x hx
    exact ⟨_, hrd x hx p.1 (hz p hp) e⟩⟩
  have own : w.ownsMap Tryz.prog 9 anyR b mv.length (.map ((es.toList.map (rg Tryz.prog 9 anyR)).foldr DataW.insert [])) := ⟨es, c, hb, F, by omega, rfl⟩
  refine ⟨_, own, ?_, ?_, ?_⟩
  · show (((es.toList.map (rg Tryz.prog 9 anyR)).foldr DataW.insert []).map fun p => strOf p.1).Nodup
    refine (((WideShapes.sorted_perm _).map fun p => strOf p.1).nodup_iff).2 ?_
    rw [List.map_map]
    refine List.pairwise_map.2 ?_
    have hp := ((MapKept.stamped_iff es c).1 hs).2.2
    refine hp.imp_of_mem ?_
    intro x y hx hy hne e
    obtain ⟨p, hp, e1⟩ := hk x hx
    obtain ⟨q, hq, e2⟩ := hk y hy
    simp only [Function.comp_def] at e
    rw [rg_of (hrd x hx p.1 (hz p hp) e1), rg_of (hrd y hy q.1 (hz q hq) e2)] at e
    apply hne
    rw [e1, e2]
    have e3 : p.1.data.toList = q.1.data.toList := e
    congr 1
    have := Array.toList_inj.1 e3
    cases hp1 : p.1; cases hq1 : q.1
    rw [hp1, hq1] at this
    simp only [] at this
    rw [this]
  · intro t
    show t ∈ (((es.toList.map (rg Tryz.prog 9 anyR)).foldr DataW.insert []).map fun p => strOf p.1) ↔ _
    rw [((WideShapes.sorted_perm _).map fun p => strOf p.1).mem_iff, List.map_map, List.mem_map]
    constructor
    · rintro ⟨x, hx, e⟩
      obtain ⟨p, hp, e1⟩ := hk x hx
      simp only [Function.comp_def] at e
      rw [rg_of (hrd x hx p.1 (hz p hp) e1)] at e
      exact ⟨p, hp, e⟩
    · rintro ⟨p, hp, e⟩
      have h1 : (Value.string p.1, p.2) ∈ es.toList.map (fun e => (e.key, e.val)) := by rw [hl]; exact List.mem_map.2 ⟨p, hp, rfl⟩
      obtain ⟨x, hx, e2⟩ := List.mem_map.1 h1
      refine ⟨x, hx, ?_⟩
      simp only [Function.comp_def]
      rw [rg_of (hrd x hx p.1 (hz p hp) (Prod.mk.inj e2).1)]
      exact e
  · show (((es.toList.map (rg Tryz.prog 9 anyR)).foldr DataW.insert [])).length = _
    rw [length_sorted, List.length_map]
    exact hes
end Go.Proofs.YtcjmplpfebpfpaaGreatDoor

namespace Go.Proofs.YtcjmplpfebpfpaaGreatDoor
open Go.RowKit Go.Proofs Go.Proofs.YtcjmplpfebpfpaaGreatDoorW.PrintWords Go.Proofs.YtcjmplpfebpfpaaGreatDoorW.PrintLast Go.Proofs.YtcjmplpfebpfpaaGreatDoorW.PrintMore PKindInstances
set_option linter.unusedVariables false
set_option linter.unusedSimpArgs false

end Go.Proofs.YtcjmplpfebpfpaaGreatDoor

namespace Go.Proofs.YtcjmplpfebpfpaaGreatDoor
open Go.RowKit Go.Proofs Go.Proofs.YtcjmplpfebpfpaaGreatDoorW.PrintWords Go.Proofs.YtcjmplpfebpfpaaGreatDoorW.PrintLast Go.Proofs.YtcjmplpfebpfpaaGreatDoorW.PrintMore PKindInstances
set_option linter.unusedVariables false
set_option linter.unusedSimpArgs false

end Go.Proofs.YtcjmplpfebpfpaaGreatDoor

namespace Go.Proofs.YtcjmplpfebpfpaaGreatDoor
open Go.RowKit Go.Proofs Go.Proofs.YtcjmplpfebpfpaaGreatDoorW.PrintWords Go.Proofs.YtcjmplpfebpfpaaGreatDoorW.PrintLast Go.Proofs.YtcjmplpfebpfpaaGreatDoorW.PrintMore PKindInstances
set_option linter.unusedVariables false
set_option linter.unusedSimpArgs false

/-- Whether a rune may not stand in a text. -/
def badR (x : Nat) : Bool := !(x == 10) && (decide (x < 32) || decide (126 < x))

theorem badR_any (x : Nat) (hx : x ≤ 1114111) (w : World) : Calls Tryz.prog 169 #[.int .i32 (x : Int)] w fun e w' => e = .returned (.bool (badR x)) ∧ ∃ q, w' = w.drewN q := by
  unfold badR
  by_cases h1 : x = 10
  · subst h1
    go_enter Tryz.func169, Tryz.ntmps169
    go_wp2_with fail
    go_ret
    exact ⟨rfl, 0, rfl⟩
  · have b1 : (x == 10) = false := beq_eq_false_iff_ne.mpr h1
    have b2 : (((x : Int)) != 10) = true := bne_iff_ne.mpr (by omega)
    rw [b1]
    by_cases h2 : x < 32
    · have c1 : decide (x < 32) = true := decide_eq_true h2
      have c2 : decide ((x : Int) < 32) = true := decide_eq_true (by omega)
      rw [c1]
      clear h1 h2 b1 c1
      go_enter Tryz.func169, Tryz.ntmps169
      go_wp2_with fail
      go_ret
      exact ⟨rfl, 0, rfl⟩
    · have c1 : decide (x < 32) = false := decide_eq_false h2
      have c2 : decide ((x : Int) < 32) = false := decide_eq_false (by omega)
      have c3 : decide (126 < (x : Int)) = decide (126 < x) := by
        by_cases h : 126 < x
        · rw [decide_eq_true h, decide_eq_true (by omega)]
        · rw [decide_eq_false h, decide_eq_false (by omega)]
      rw [c1, ← c3]
      clear h1 h2 b1 c1 c3
      go_enter Tryz.func169, Tryz.ntmps169
      go_wp2_with fail
      go_ret
      exact ⟨by simp, 0, rfl⟩

theorem decode_low {s : ByteArray} {i : Nat} (h : (s.get! i).toNat < 128) : Utf8.decode s i = ((s.get! i).toNat, 1) := by
  unfold Utf8.decode
  simp only [Nat.add_zero]
  rw [if_pos (by simpa using h)]
theorem decode_high {s : ByteArray} {i : Nat} (h : ¬ (s.get! i).toNat < 128) : 128 ≤ (Utf8.decode s i).1 := by
  unfold Utf8.decode
  simp only [Nat.add_zero]
  rw [if_neg (by simpa using h)]
  repeat' split
  all_goals first | (simp [Utf8.runeError]; done) | omega | (rename_i h9; simp only [Bool.and_eq_true, decide_eq_true_eq, ge_iff_le] at h9; omega)

def goodB (c : Int) : Bool := c == 10 || (decide (32 ≤ c) && decide (c ≤ 126))
theorem byte_at {s : ByteArray} {pos : Nat} (h : pos < s.size) : (bytesI s).drop pos = ((s.get! pos).toNat : Int) :: (bytesI s).drop (pos + 1) := by
  have hl : pos < (bytesI s).length := by simpa [bytesI] using h
  rw [List.drop_eq_getElem_cons hl]
  congr 1
  simp [bytesI, ByteArray.get!, h]
theorem idx_text (s : ByteArray) : ∀ (f pos : Nat), s.size ≤ f + pos → decide (0 ≤ Lib.idxFuncFrom badR true s f pos) = !(((bytesI s).drop pos).all goodB)
  | 0, pos, h => by
    have e : (bytesI s).drop pos = [] := List.drop_eq_nil_of_le (by simp [bytesI]; omega)
    rw [e]
    simp [Lib.idxFuncFrom]
  | f + 1, pos, h => by
    unfold Lib.idxFuncFrom
    by_cases hp : pos < s.size
    · rw [if_pos hp, byte_at hp, List.all_cons]
      by_cases hl : (s.get! pos).toNat < 128
      · rw [decode_low hl]
        have e : badR (s.get! pos).toNat = !(goodB ((s.get! pos).toNat : Int)) := by
          unfold badR goodB
          rw [Bool.eq_iff_iff]
          simp
          omega
        cases hg : goodB ((s.get! pos).toNat : Int) with
        | true =>
          rw [hg] at e
          simp only [e]
          rw [if_neg (by simp), idx_text s f (pos + 1) (by omega)]
          simp
        | false =>
          rw [hg] at e
          simp only [e]
          rw [if_pos (by simp), decide_eq_true (by omega)]
          simp
      · have h1 := decode_high hl
        have e : badR (Utf8.decode s pos).1 = true := by
          unfold badR
          simp
          omega
        have e2 : goodB ((s.get! pos).toNat : Int) = false := by
          unfold goodB
          simp
          omega
        rw [if_pos e, e2, decide_eq_true (by omega)]
        simp
    · have e : (bytesI s).drop pos = [] := List.drop_eq_nil_of_le (by simp [bytesI]; omega)
      rw [if_neg hp, e]
      simp
theorem textM_idx (s : ByteArray) : textM s = (decide (s.size ≤ 2000) && !(decide (0 ≤ Lib.idxFunc badR true s))) := by
  unfold Lib.idxFunc
  rw [idx_text s s.size 0 (by omega)]
  simp [textM]
  rfl

theorem ContainsBad_any (s : ByteArray) (w : World) : Calls Tryz.prog 170 #[.string s, .func (.func 169) #[] #[]] w fun e w' => e = .returned (.bool (decide (0 ≤ Lib.idxFunc badR true s))) ∧ Below w.heap.size w w' := by
  refine Tryz.strings_ContainsFunc_runes 169 #[] (enters_of Tryz.func169 (by kernel_rfl) rfl) badR s w ?_
  intro W x hx _
  exact badR_any x hx W

/-- A number's own fields. -/
theorem leaf_num (b : Int) (s : ByteArray) (A : Option Addr) (n c : Nat) (w : World) :
    Calls Tryz.prog 146 #[formV 0 b s A n c] w fun e w' => e = .returned (.bool (((s.toList == []) && ((n : Int) == 0)) && (decide (-1152921504606846976 ≤ b) && decide (b ≤ 1152921504606846976)))) ∧ Below w.heap.size w w' := by
  have hu24 := Tryz.underlying24
  cases h1 : (s.toList == []) with
  | false =>
    go_enter Tryz.func146, Tryz.ntmps146
    go_wp2_with fail
    go_ret
    exact ⟨rfl, by (repeat (first | assumption | exact Below.refl _ _ | apply below_alloc | apply pw_below_drewN | apply below_drew1))⟩
  | true =>
    cases h2 : ((n : Int) == 0) with
    | false =>
      go_enter Tryz.func146, Tryz.ntmps146
      go_wp2_with fail
      go_ret
      exact ⟨rfl, by (repeat (first | assumption | exact Below.refl _ _ | apply below_alloc | apply pw_below_drewN | apply below_drew1))⟩
    | true =>
      cases h3 : decide (-1152921504606846976 ≤ b) with
      | false =>
        go_enter Tryz.func146, Tryz.ntmps146
        go_wp2_with fail
        go_ret
        exact ⟨rfl, by (repeat (first | assumption | exact Below.refl _ _ | apply below_alloc | apply pw_below_drewN | apply below_drew1))⟩
      | true =>
        go_enter Tryz.func146, Tryz.ntmps146
        go_wp2_with fail
        go_ret
        exact ⟨rfl, by (repeat (first | assumption | exact Below.refl _ _ | apply below_alloc | apply pw_below_drewN | apply below_drew1))⟩

set_option maxRecDepth 100000 in
/-- A word that is none. -/
theorem leaf_noword (b : Int) (s : ByteArray) (A : Option Addr) (n c : Nat) (w : World) (hs : (s.toList == []) = true ∨ (s.toList == []) = false ∧ ¬ s.size ≤ 30) :
    Calls Tryz.prog 146 #[formV 1 b s A n c] w fun e w' => e = .returned (.bool false) ∧ Below w.heap.size w w' := by
  have hu24 := Tryz.underlying24
  rcases hs with h1 | ⟨h1, h2⟩
  · go_enter Tryz.func146, Tryz.ntmps146
    go_wp2_with fail
    go_loopg [3, 4] 0 (fun k x3 x4 wr => x3 = .bool false ∧ x4 = .int .i64 ((0 : Nat) : Int) ∧ wr = w.alloc (Obj.cells #[.int .i64 1, .int .i64 b, .string s, .slice A n c] 24))
    case atStart => exact ⟨rfl, rfl, rfl⟩
    case round =>
      obtain ⟨rfl, rfl, rfl⟩ := hrel
      by_cases hlt : 0 < s.size
      · have e1 : decide (0 < s.size) = true := decide_eq_true hlt
        go_wp2_with fail
        go_ret
        exact ⟨rfl, below_alloc (Below.refl _ _) _⟩
      · have e1 : decide (0 < s.size) = false := decide_eq_false hlt
        go_wp2_with fail
        go_ret
        exact ⟨rfl, below_alloc (Below.refl _ _) _⟩
  · have h3 : decide (s.size ≤ 30) = false := decide_eq_false h2
    go_enter Tryz.func146, Tryz.ntmps146
    go_wp2_with fail
    go_loopg [3, 4] 0 (fun k x3 x4 wr => x3 = .bool false ∧ x4 = .int .i64 ((0 : Nat) : Int) ∧ wr = w.alloc (Obj.cells #[.int .i64 1, .int .i64 b, .string s, .slice A n c] 24))
    case atStart => exact ⟨rfl, rfl, rfl⟩
    case round =>
      obtain ⟨rfl, rfl, rfl⟩ := hrel
      by_cases hlt : 0 < s.size
      · have e1 : decide (0 < s.size) = true := decide_eq_true hlt
        go_wp2_with fail
        go_ret
        exact ⟨rfl, below_alloc (Below.refl _ _) _⟩
      · exact absurd (by omega : 0 < s.size) hlt

set_option maxRecDepth 100000 in
/-- A text's own fields. -/
theorem leaf_text (b : Int) (s : ByteArray) (A : Option Addr) (n c : Nat) (w : World) :
    Calls Tryz.prog 146 #[formV 2 b s A n c] w fun e w' => e = .returned (.bool (textM s && (b == 0) && ((n : Int) == 0))) ∧ Below w.heap.size w w' := by
  have hu24 := Tryz.underlying24
  have hmf : ∀ (fn : Fn) (first cap : Array Value) (w : World), (Instr.makeFunc fn first cap).run Tryz.prog w = .ok (.func fn first cap) w := fun _ _ _ _ => rfl
  rw [textM_idx]
  obtain ⟨q, hq⟩ : ∃ q, q = decide (0 ≤ Lib.idxFunc badR true s) := ⟨_, rfl⟩
  have CB : Hid (∀ w, Calls Tryz.prog 170 #[.string s, .func (.func 169) #[] #[]] w fun e w' => e = .returned (.bool q) ∧ Below w.heap.size w w') := by rw [hq]; exact fun w => ContainsBad_any s w
  rw [← hq]
  clear hq
  cases h1 : decide (s.size ≤ 2000) with
  | false =>
    have h1' := of_decide_eq_false h1
    go_enter Tryz.func146, Tryz.ntmps146
    go_wp2_with fail
    go_ret
    exact ⟨rfl, by (repeat (first | assumption | exact Below.refl _ _ | apply below_alloc | apply pw_below_drewN | apply below_drew1))⟩
  | true =>
    have h1' := of_decide_eq_true h1
    cases q with
    | true =>
      go_enter Tryz.func146, Tryz.ntmps146
      go_wp2_with fail
      refine (CB.out _).mono ?_
      rintro e w1 ⟨rfl, B1⟩
      have B2 : Hid _ := below_after (below_alloc (Below.refl w.heap.size w) (Obj.cells #[.int .i64 2, .int .i64 b, .string s, .slice A n c] 24)) B1
      clear B1
      go_wp2_with fail
      go_ret
      exact ⟨rfl, B2.out⟩
    | false =>
      go_enter Tryz.func146, Tryz.ntmps146
      go_wp2_with fail
      refine (CB.out _).mono ?_
      rintro e w1 ⟨rfl, B1⟩
      have B2 : Hid _ := below_after (below_alloc (Below.refl w.heap.size w) (Obj.cells #[.int .i64 2, .int .i64 b, .string s, .slice A n c] 24)) B1
      obtain ⟨q0, q1, q2, q3⟩ := box_at B1
      clear B1
      cases h2 : (b == 0) with
      | false =>
        go_wp2_with fail
        go_ret
        exact ⟨by rw [h2]; rfl, B2.out⟩
      | true =>
        go_wp2_with fail
        go_ret
        exact ⟨by rw [h2]; rfl, B2.out⟩
theorem leaf_other (a b : Int) (s : ByteArray) (A : Option Addr) (n c : Nat) (w : World) (h0 : a ≠ 0) (h1 : a ≠ 1) (h2 : a ≠ 2) (h3 : a ≠ 3) :
    Calls Tryz.prog 146 #[formV a b s A n c] w fun e w' => e = .returned (.bool false) ∧ Below w.heap.size w w' := by
  have hu24 := Tryz.underlying24
  have b0 : (a == 0) = false := beq_eq_false_iff_ne.mpr h0
  have b1 : (a == 1) = false := beq_eq_false_iff_ne.mpr h1
  have b2 : (a == 2) = false := beq_eq_false_iff_ne.mpr h2
  have b3 : (a == 3) = false := beq_eq_false_iff_ne.mpr h3
  go_enter Tryz.func146, Tryz.ntmps146
  go_wp2_with fail
  go_ret
  exact ⟨rfl, by (repeat (first | assumption | exact Below.refl _ _ | apply below_alloc | apply pw_below_drewN | apply below_drew1))⟩

/-- What the call on a form's own fields does, whatever the form. -/
theorem leafC_all (x : S24) : LeafC x := by
  obtain ⟨a, b, s, l⟩ := x
  intro A c w
  unfold leafM
  simp only []
  by_cases h0 : a = 0
  · subst h0
    rw [if_pos rfl]
    exact leaf_num b s A l.length c w
  rw [if_neg h0]
  by_cases h1 : a = 1
  · subst h1
    rw [if_pos rfl]
    by_cases hs : (s.toList == []) = false ∧ s.size ≤ 30
    · exact leaf_word b s A l.length c w hs.2 hs.1
    · have hw : wordM s = false := by
        unfold wordM
        by_cases h : (s.toList == []) = false
        · have : ¬ s.size ≤ 30 := fun h2 => hs ⟨h, h2⟩
          rw [decide_eq_false this]
          simp
        · have : (s.toList == []) = true := by simpa using h
          rw [this]
          simp
      rw [hw]
      refine leaf_noword b s A l.length c w ?_
      by_cases h : (s.toList == []) = false
      · exact .inr ⟨h, fun h2 => hs ⟨h, h2⟩⟩
      · exact .inl (by simpa using h)
  rw [if_neg h1]
  by_cases h2 : a = 2
  · subst h2
    rw [if_pos rfl]
    exact leaf_text b s A l.length c w
  rw [if_neg h2]
  by_cases h3 : a = 3
  · subst h3
    rw [if_pos rfl]
    exact leaf_list b s A l.length c w
  rw [if_neg h3]
  exact leaf_other a b s A l.length c w h0 h1 h2 h3
mutual
theorem allC_all : ∀ x : S24, allC x
  | ⟨a, b, s, l⟩ => ⟨leafC_all _, allCs_all l⟩
theorem allCs_all : ∀ l : List S24, allCs l
  | [] => trivial
  | x :: l => ⟨allC_all x, allCs_all l⟩
end

end Go.Proofs.YtcjmplpfebpfpaaGreatDoor

namespace Go.Proofs.YtcjmplpfebpfpaaGreatDoor
open Go.RowKit Go.Proofs Go.Proofs.YtcjmplpfebpfpaaGreatDoorW.PrintWords Go.Proofs.YtcjmplpfebpfpaaGreatDoorW.PrintLast Go.Proofs.YtcjmplpfebpfpaaGreatDoorW.PrintMore PKindInstances
set_option linter.unusedVariables false
set_option linter.unusedSimpArgs false

theorem info51 : (Tryz.prog.info? 51).map (fun i => (i.zero, i.size, i.bytes)) = some (some (.agg #[(.string ⟨#[]⟩), (.int .i64 0), (.int .i64 0), (.string ⟨#[]⟩), (.slice none 0 0)]), 5, 72) := by kernel_rfl
theorem toAt_keys {W0 : World} : ∀ {m : List (ByteArray × S24)} {n : List (ByteArray × Value)}, ToAt W0 m n → n.map (·.1) = m.map (·.1)
  | [], [], _ => rfl
  | (a, x) :: m, (b, v) :: n, h => by obtain ⟨rfl, _, h2⟩ := h; simp only [List.map_cons, toAt_keys h2]
theorem lookT_none : ∀ {m : List (ByteArray × S24)} {k : ByteArray}, lookT m k = none → ∀ p ∈ m, p.1 ≠ k
  | [], k, _, p, hp => absurd hp List.not_mem_nil
  | (a, x) :: m, k, h, p, hp => by
    simp only [lookT] at h
    split at h
    · cases h
    · rename_i hk
      rcases List.mem_cons.1 hp with hp | hp
      · rw [hp]; exact fun e => hk e.symm
      · exact lookT_none h p hp
def kOut (mt : List (ByteArray × S24)) (T : List ByteArray) : List S51 := T.map fun s => ⟨s, (lookT mt s).getD z24⟩
end Go.Proofs.YtcjmplpfebpfpaaGreatDoor

namespace Go.Proofs.YtcjmplpfebpfpaaGreatDoor
open Go.RowKit Go.Proofs Go.Proofs.YtcjmplpfebpfpaaGreatDoorW.PrintWords Go.Proofs.YtcjmplpfebpfpaaGreatDoorW.PrintLast Go.Proofs.YtcjmplpfebpfpaaGreatDoorW.PrintMore PKindInstances
set_option linter.unusedVariables false
set_option linter.unusedSimpArgs false

theorem less_self (s : ByteArray) : Op.bytesLess s.toList s.toList = false := lessB_irrefl s
mutual
theorem cmp_self : ∀ x : S24, cmpM x x = 0
  | ⟨a, n, s, l⟩ => by
    simp only [cmpM]
    rw [if_neg (by simp), cmps_self l]
    split
    · simp [Lib.compareInt]
    · split
      · simp [cmpStr, less_self]
      · simp
theorem cmps_self : ∀ l : List S24, cmpL l l = 0
  | [] => rfl
  | x :: l => by simp only [cmpL]; rw [cmp_self x, cmps_self l]; simp
end
theorem eq_self (x : S24) : eqM x x = true := by unfold eqM; rw [cmp_self]; rfl
end Go.Proofs.YtcjmplpfebpfpaaGreatDoor

namespace Go.Proofs.YtcjmplpfebpfpaaGreatDoor
open Go.RowKit Go.Proofs Go.Proofs.YtcjmplpfebpfpaaGreatDoorW.PrintWords Go.Proofs.YtcjmplpfebpfpaaGreatDoorW.PrintLast Go.Proofs.YtcjmplpfebpfpaaGreatDoorW.PrintMore PKindInstances
set_option linter.unusedVariables false
set_option linter.unusedSimpArgs false

def wordF (s : ByteArray) : S24 := ⟨1, 0, s, []⟩
def listF (l : List S24) : S24 := ⟨3, 0, ⟨#[]⟩, l⟩

/-- A row of forms out of a block's cells. -/
theorem row_of_cells {w : World} {b : Nat} {t : TypeId} {xs : List S24} {cs : Array Value} (h : w.heap[b]? = some (.cells cs t (0, 0))) (hl : xs.length < 9000000)
    (hK : ∀ (j : Nat) (x : S24), xs[j]? = some x → ∃ A c, x.f3.length ≤ c ∧ Kd.C k24 w A x.f3.length x.f3 ∧ cs[j * 4]? = some (.int .i64 x.f0) ∧ cs[j * 4 + 1]? = some (.int .i64 x.f1) ∧ cs[j * 4 + 2]? = some (.string x.f2) ∧ cs[j * 4 + 3]? = some (.slice A x.f3.length c)) :
    Kd.C k24 w (some ⟨b, 0, none⟩) xs.length xs := by
  refine ⟨rfl, by omega, fun _ => ⟨_, rfl, fun j p hj => ?_⟩⟩
  obtain ⟨A, c, hc, hx, c0, c1, c2, c3⟩ := hK j p hj
  refine ⟨_, rfl, k24_mk w p hc hx, fun i u hu => ?_⟩
  have e : (Addr.mk b 0 none).add (j * k24.sz + i) = ⟨b, j * 4 + i, none⟩ := by
    rw [show k24.sz = 4 from rfl]; simp [Addr.add]; intros; omega
  rw [e]
  match i, hu with
  | 0, hu => obtain rfl := Option.some.inj hu; simpa [World.cell?, h] using c0
  | 1, hu => obtain rfl := Option.some.inj hu; simpa [World.cell?, h] using c1
  | 2, hu => obtain rfl := Option.some.inj hu; simpa [World.cell?, h] using c2
  | 3, hu => obtain rfl := Option.some.inj hu; simpa [World.cell?, h] using c3
  | i + 4, hu => simp at hu

theorem leafC_word {s : ByteArray} (hs : s.size ≤ 30) (hne : (s.toList == []) = false) : LeafC (wordF s) := by
  intro A c w
  refine (leaf_word 0 s A 0 c w hs hne).mono ?_
  rintro e w' ⟨rfl, B⟩
  exact ⟨rfl, B⟩
theorem leafC_list (l : List S24) : LeafC (listF l) := by
  intro A c w
  refine (leaf_list 0 ⟨#[]⟩ A l.length c w).mono ?_
  rintro e w' ⟨rfl, B⟩
  exact ⟨rfl, B⟩

theorem texts_of_cells {w : World} {b : Nat} {t : TypeId} {xs : List ByteArray} {cs : Array Value} (h : w.heap[b]? = some (.cells cs t (0, 0))) (hl : xs.length < 9000000) (hK : ∀ (j : Nat) (x : ByteArray), xs[j]? = some x → cs[j]? = some (.string x)) :
    Kd.C Kd.string w (some ⟨b, 0, none⟩) xs.length xs := by
  refine ⟨rfl, by omega, fun _ => ⟨_, rfl, fun j p hj => ⟨[.string p], rfl, rfl, fun i u hu => ?_⟩⟩⟩
  match i, hu with
  | 0, hu =>
    obtain rfl := Option.some.inj hu
    have e : (Addr.mk b 0 none).add (j * Kd.string.sz + 0) = ⟨b, j, none⟩ := by
      rw [show Kd.string.sz = 1 from rfl]; simp [Addr.add]; intros; omega
    rw [e]
    simpa [World.cell?, h] using hK j p hj
  | i + 1, hu => simp at hu

/-- Unify where the forms do not go together. -/
theorem unify_stop (x y : S24) (vars : List ByteArray) (A B AN : Option Addr) (c d cn : Nat) (w : World) (n : Nat) (r : Int) (hx : Kd.C k24 w A x.f3.length x.f3) (hc : x.f3.length ≤ c) (hy : Kd.C k24 w B y.f3.length y.f3) (hd : y.f3.length ≤ d)
    (hv : Kd.C Kd.string w AN vars.length vars) (hcn : vars.length ≤ cn) (hn : vars.length < 9000000) (hq : ∀ v ∈ vars, LeafC ⟨1, 0, v, []⟩ ∧ v.size < 8000000) (hax : allC x) (hwx : wid x < 9000000) (hay : allC y) (hwy : wid y < 9000000)
    (hgood : (namesM [] vars && rowsM [[x], [y]]) = true) (hR : allM vars n [] [x] [y] = some (.stop r)) :
    Calls Tryz.prog 22 #[formV x.f0 x.f1 x.f2 A x.f3.length c, formV y.f0 y.f1 y.f2 B y.f3.length d, .slice AN vars.length cn] w fun e w' => e = .returned (.tuple #[.slice none 0 0, .int .i64 r]) ∧ Below w.heap.size w w' := by
  have h := Unify_of x y A B c d (.slice AN vars.length cn) w (fun v E _ => v = .slice none 0 0 ∧ E = r) hx hc hy hd (fun W p q hW hp hq' => by
    refine (UnifyAll_good [x] [y] vars (some ⟨p, 0, none⟩) (some ⟨q, 0, none⟩) AN 1 1 cn W (Kd.C_below hv hW) hcn hp (Nat.le_refl _) hq' (Nat.le_refl _) hn hq ⟨by simp, by simp; exact ⟨hax, hwx⟩⟩ ⟨by simp, by simp; exact ⟨hay, hwy⟩⟩ hgood n _ hR (fun _ _ _ => True) (fun _ _ _ _ _ _ => trivial) (fun mt h => by cases h)).mono ?_
    rintro e w' ⟨rfl, hb⟩
    exact ⟨none, 0, 0, r, rfl, ⟨rfl, rfl⟩, hb⟩)
  refine h.mono ?_
  rintro e w' ⟨A1, n1, c1, E1, rfl, ⟨h1, rfl⟩, hb⟩
  cases h1
  exact ⟨rfl, hb⟩

def wSeq : ByteArray := ⟨#[115, 101, 113]⟩
def wA : ByteArray := ⟨#[97]⟩
def wB : ByteArray := ⟨#[98]⟩
def wMap : ByteArray := ⟨#[109, 97, 112]⟩
def wInt : ByteArray := ⟨#[105, 110, 116]⟩
theorem leaf_w {s : ByteArray} (h : s = wSeq ∨ s = wA ∨ s = wB ∨ s = wMap ∨ s = wInt) : LeafC (wordF s) := by
  rcases h with rfl | rfl | rfl | rfl | rfl <;> exact leafC_word (by decide) (by kernel_rfl)

theorem words_row {w : World} {b : Nat} {t : TypeId} {x y : ByteArray} (h : w.heap[b]? = some (.cells #[.int .i64 1, .int .i64 0, .string x, .slice none 0 0, .int .i64 1, .int .i64 0, .string y, .slice none 0 0] t (0, 0))) :
    Kd.C k24 w (some ⟨b, 0, none⟩) [wordF x, wordF y].length [wordF x, wordF y] := by
  refine row_of_cells h (by simp) fun j p hj => ?_
  match j, hj with
  | 0, hj => obtain rfl := Option.some.inj hj; exact ⟨none, 0, Nat.le_refl _, Kd.C_nil _ _, rfl, rfl, rfl, rfl⟩
  | 1, hj => obtain rfl := Option.some.inj hj; exact ⟨none, 0, Nat.le_refl _, Kd.C_nil _ _, rfl, rfl, rfl, rfl⟩
  | j + 2, hj => simp at hj

def exX : S24 := listF [wordF wSeq, wordF wA]
def exM : S24 := listF [wordF wMap, wordF wA, listF [wordF wSeq, wordF wB]]
def exN : S24 := listF [wordF wMap, wordF wInt, wordF wA]
theorem ex1 (A AN : Option Addr) (w : World) (hx : Kd.C k24 w A 2 [wordF wSeq, wordF wA]) (hv : Kd.C Kd.string w AN 1 [wA]) :
    Calls Tryz.prog 22 #[formV 3 0 ⟨#[]⟩ A 2 2, formV 1 0 wA none 0 0, .slice AN 1 1] w fun e w' => e = .returned (.tuple #[.slice none 0 0, .int .i64 11]) ∧ Below w.heap.size w w' :=
  unify_stop exX (wordF wA) [wA] A none AN 2 0 1 w 10 11 hx (Nat.le_refl _) (Kd.C_nil _ _) (Nat.le_refl _) hv (Nat.le_refl _) (by simp) (by simp; exact ⟨leaf_w (.inr (.inl rfl)), by decide⟩)
    ⟨leafC_list _, ⟨leaf_w (.inl rfl), trivial⟩, ⟨leaf_w (.inr (.inl rfl)), trivial⟩, trivial⟩ (by decide) ⟨leaf_w (.inr (.inl rfl)), trivial⟩ (by decide) (by kernel_rfl) (by kernel_rfl)
theorem ex2 (A B AN : Option Addr) (w : World) (hx : Kd.C k24 w A 3 [wordF wMap, wordF wA, listF [wordF wSeq, wordF wB]]) (hy : Kd.C k24 w B 3 [wordF wMap, wordF wInt, wordF wA]) (hv : Kd.C Kd.string w AN 2 [wA, wB]) :
    Calls Tryz.prog 22 #[formV 3 0 ⟨#[]⟩ A 3 3, formV 3 0 ⟨#[]⟩ B 3 3, .slice AN 2 2] w fun e w' => e = .returned (.tuple #[.slice none 0 0, .int .i64 8]) ∧ Below w.heap.size w w' :=
  unify_stop exM exN [wA, wB] A B AN 3 3 2 w 10 8 hx (Nat.le_refl _) hy (Nat.le_refl _) hv (Nat.le_refl _) (by simp) (by simp; exact ⟨⟨leaf_w (.inr (.inl rfl)), by decide⟩, leaf_w (.inr (.inr (.inl rfl))), by decide⟩)
    ⟨leafC_list _, ⟨leaf_w (.inr (.inr (.inr (.inl rfl)))), trivial⟩, ⟨leaf_w (.inr (.inl rfl)), trivial⟩, ⟨leafC_list _, ⟨leaf_w (.inl rfl), trivial⟩, ⟨leaf_w (.inr (.inr (.inl rfl))), trivial⟩, trivial⟩, trivial⟩ (by decide)
    ⟨leafC_list _, ⟨leaf_w (.inr (.inr (.inr (.inl rfl)))), trivial⟩, ⟨leaf_w (.inr (.inr (.inr (.inr rfl)))), trivial⟩, ⟨leaf_w (.inr (.inl rfl)), trivial⟩, trivial⟩ (by decide) (by kernel_rfl) (by kernel_rfl)

set_option maxRecDepth 100000 in
set_option maxHeartbeats 4000000 in
theorem sane_any (w : World) : Calls Tryz.prog 19 #[] w fun e w' => e = .returned (.bool true) ∧ Below w.heap.size w w' := by
  have hu24 := Tryz.underlying24
  go_enter Tryz.func19, Tryz.ntmps19
  go_wp2_with fail
  refine (word_any _ _).mono ?_
  rintro e w1 ⟨rfl, B1⟩
  go_wp2_with fail
  refine (word_any _ _).mono ?_
  rintro e w2 ⟨rfl, B2⟩
  go_wp2_with fail
  refine (list_any _ _ _ _).mono ?_
  rintro e w3 ⟨rfl, B3⟩
  go_wp2_with fail
  have X3 := box_heap B3
  have B4 : Below w.heap.size w (w3.alloc (.cells #[.int .i64 3, .int .i64 0, .string ⟨#[]⟩, .slice (some ⟨w2.heap.size, 0, none⟩) 2 2] 24)) := below_alloc (below_after (below_alloc (below_after B1 B2) _) B3) _
  have X4 := (MapKept.heap_alloc w3 (.cells #[.int .i64 3, .int .i64 0, .string ⟨#[]⟩, .slice (some ⟨w2.heap.size, 0, none⟩) 2 2] 24)).1
  have X5 : (w3.alloc (.cells #[.int .i64 3, .int .i64 0, .string ⟨#[]⟩, .slice (some ⟨w2.heap.size, 0, none⟩) 2 2] 24)).heap[w2.heap.size]? = some (.cells #[.int .i64 1, .int .i64 0, .string wSeq, .slice none 0 0, .int .i64 1, .int .i64 0, .string wA, .slice none 0 0] 24 (0, 0)) := (Below.heap_alloc _ _ _ (Array.getElem?_eq_some_iff.1 X3).1).trans X3
  generalize hX : w3.alloc (.cells #[.int .i64 3, .int .i64 0, .string ⟨#[]⟩, .slice (some ⟨w2.heap.size, 0, none⟩) 2 2] 24) = X at *
  generalize w3.heap.size = b3 at *
  generalize w2.heap.size = b2 at *
  clear hX X3 B1 B2 B3
  have R5 : Kd.C k24 X (some ⟨b2, 0, none⟩) 2 [wordF wSeq, wordF wA] := words_row X5
  obtain ⟨p0, p1, p2, p3⟩ := cells4 X4
  have HS : Hid (∀ W, Below X.heap.size X W → W.cell? ⟨b3, 0, none⟩ = some (.int .i64 3) ∧ W.cell? ⟨b3, 1, none⟩ = some (.int .i64 0) ∧ W.cell? ⟨b3, 2, none⟩ = some (.string ⟨#[]⟩) ∧ W.cell? ⟨b3, 3, none⟩ = some (.slice (some ⟨b2, 0, none⟩) 2 2)) := fun W h => ⟨pw_cell_below h p0, pw_cell_below h p1, pw_cell_below h p2, pw_cell_below h p3⟩
  have HB : Hid _ := B4
  have HR : Hid _ := R5
  clear p0 p1 p2 p3 X4 X5 B4 R5
  go_cut [2, 3] from 12 to 18 (fun x2 x3 wx => x3 = .int .i64 11 ∧ Below X.heap.size X wx)
  case first =>
    refine wp_region_held_drew (S := fun W => W.cell? ⟨b3, 0, none⟩ = some (.int .i64 3) ∧ W.cell? ⟨b3, 1, none⟩ = some (.int .i64 0) ∧ W.cell? ⟨b3, 2, none⟩ = some (.string ⟨#[]⟩) ∧ W.cell? ⟨b3, 3, none⟩ = some (.slice (some ⟨b2, 0, none⟩) 2 2)) (by kernel_rfl) (HS.out _ (below_drew (Below.refl _ _))) (fun hHeld => ?_)
    refine takeV 0 (some 13) (formV 3 0 ⟨#[]⟩ (some ⟨b2, 0, none⟩) 2 2) rfl rfl (by kernel_rfl) (by kernel_rfl) (by kernel_rfl) (fun _ _ _ h => h) (Or.inl ⟨by kernel_rfl, fun W hSw => by obtain ⟨s0, s1, s2, s3⟩ := hSw; go_simp⟩) hHeld ?_
    try simp only [Act.put, List.setIfInBounds_toArray, List.set_cons_zero, List.set_cons_succ]
    refine wpAnyH_ready (rs := [1, 2]) (by kernel_rfl) (by simp) ?_
    refine AllReadyH.cons rfl (fun K hK => ?_) (AllReadyH.cons rfl (fun K hK => ?_) AllReadyH.nil)
    · clear hHeld
      go_simp
      go_at_call 52
      refine (word_any _ _).mono ?_
      rintro e w4 ⟨rfl, B4⟩
      have B5 := below_after (below_drew (Below.refl _ _)) B4
      have HS5 := HS.out _ B5
      clear B4
      go_wp2_with fail
      refine hK.out _ _ HS5 (fun hHeld => ?_)
      clear hK K HS5
      try simp only [Act.put, List.setIfInBounds_toArray, List.set_cons_zero, List.set_cons_succ]
      refine wpAnyH_ready (rs := [2]) (by kernel_rfl) (by simp) ?_
      refine AllReadyH.cons rfl (fun K hK => ?_) AllReadyH.nil
      go_simp
      have X6 := (MapKept.heap_alloc w4 (.cells #[.string wA] 9)).1
      have B6 := below_alloc B5 (.cells #[.string wA] 9)
      refine hK.out _ _ (HS.out _ B6) (fun hHeld => ?_)
      clear hK K B5
      have UU : Hid _ := ex1 (some ⟨b2, 0, none⟩) (some ⟨w4.heap.size, 0, none⟩) (w4.alloc (.cells #[.string wA] 9)) (Kd.C_below HR.out B6) (texts_of_cells (xs := [wA]) X6 (by simp) (fun j x hj => by cases j with | zero => obtain rfl := Option.some.inj hj; rfl | succ j => simp at hj))
      have BX : Hid _ := B6
      clear X6 B6
      try simp only [Act.put, List.setIfInBounds_toArray, List.set_cons_zero, List.set_cons_succ]
      refine wpAnyH_ready (rs := [3]) (by kernel_rfl) (by simp) ?_
      refine AllReadyH.cons rfl (fun K hK => ?_) AllReadyH.nil
      go_simp
      go_at_call 22
      refine Calls.mono UU.out ?_
      rintro e w6 ⟨rfl, B6'⟩
      have B6 : Hid _ := below_after BX.out B6'
      have HS6 := HS.out _ B6.out
      clear B6'
      go_wp2_with fail
      refine hK.out _ _ HS6 (fun hHeld => ?_)
      clear hK K
      try simp only [Act.put, List.setIfInBounds_toArray, List.set_cons_zero, List.set_cons_succ]
      refine takeV 4 (some 12) (.tuple #[.slice none 0 0, .int .i64 11]) rfl rfl (by kernel_rfl) (by kernel_rfl) (by kernel_rfl) (fun _ _ _ h => h) (Or.inl ⟨by kernel_rfl, fun W hSw => by go_simp⟩) hHeld ?_
      try simp only [Act.put, List.setIfInBounds_toArray, List.set_cons_zero, List.set_cons_succ]
      refine takeV 5 (some 17) (.slice none 0 0) rfl rfl (by kernel_rfl) (by kernel_rfl) (by kernel_rfl) (fun _ _ _ h => h) (Or.inl ⟨by kernel_rfl, fun W hSw => by go_simp⟩) hHeld ?_
      try simp only [Act.put, List.setIfInBounds_toArray, List.set_cons_zero, List.set_cons_succ]
      refine takeV 6 (some 18) (.int .i64 11) rfl rfl (by kernel_rfl) (by kernel_rfl) (by kernel_rfl) (fun _ _ _ h => h) (Or.inl ⟨by kernel_rfl, fun W hSw => by go_simp⟩) hHeld ?_
      try simp only [Act.put, List.setIfInBounds_toArray, List.set_cons_zero, List.set_cons_succ]
      refine takeV 7 (some 2) (.slice none 0 0) rfl rfl (by kernel_rfl) (by kernel_rfl) (by kernel_rfl) (fun _ _ _ h => h) (Or.inl ⟨by kernel_rfl, fun W hSw => by go_simp⟩) hHeld ?_
      try simp only [Act.put, List.setIfInBounds_toArray, List.set_cons_zero, List.set_cons_succ]
      refine takeV 8 (some 3) (.int .i64 11) rfl rfl (by kernel_rfl) (by kernel_rfl) (by kernel_rfl) (fun _ _ _ h => h) (Or.inl ⟨by kernel_rfl, fun W hSw => by go_simp⟩) hHeld ?_
      try simp only [Act.put, List.setIfInBounds_toArray, List.set_cons_zero, List.set_cons_succ]
      clear hHeld HS6 UU BX HS
      refine wpAnyH_done (by kernel_rfl) ?_ _
      go_wp2_with fail
      go_meet
      case rel => exact ⟨rfl, B6.out⟩
    · clear hHeld
      go_simp
      have X6 := (MapKept.heap_alloc X.drew (.cells #[.string wA] 9)).1
      have B6 := below_alloc (below_drew (Below.refl X.heap.size X)) (.cells #[.string wA] 9)
      refine hK.out _ _ (HS.out _ B6) (fun hHeld => ?_)
      clear hK K hHeld
      try simp only [Act.put, List.setIfInBounds_toArray, List.set_cons_zero, List.set_cons_succ]
      refine wpAnyH_ready (rs := [1]) (by kernel_rfl) (by simp) ?_
      refine AllReadyH.cons rfl (fun K hK => ?_) AllReadyH.nil
      go_simp
      go_at_call 52
      refine (word_any _ _).mono ?_
      rintro e w4 ⟨rfl, B4⟩
      have B7 := below_after B6 B4
      have X7 := (B4.block _ (Array.getElem?_eq_some_iff.1 X6).1).trans X6
      have HS5 := HS.out _ B7
      clear B4
      go_wp2_with fail
      refine hK.out _ _ HS5 (fun hHeld => ?_)
      clear hK K HS5 B6 X6
      try simp only [Act.put, List.setIfInBounds_toArray, List.set_cons_zero, List.set_cons_succ]
      have UU : Hid _ := ex1 (some ⟨b2, 0, none⟩) (some ⟨X.heap.size, 0, none⟩) w4 (Kd.C_below HR.out B7) (texts_of_cells (xs := [wA]) X7 (by simp) (fun j x hj => by cases j with | zero => obtain rfl := Option.some.inj hj; rfl | succ j => simp at hj))
      have BX : Hid _ := B7
      clear X7 B7
      refine wpAnyH_ready (rs := [3]) (by kernel_rfl) (by simp) ?_
      refine AllReadyH.cons rfl (fun K hK => ?_) AllReadyH.nil
      go_simp
      go_at_call 22
      refine Calls.mono UU.out ?_
      rintro e w6 ⟨rfl, B6'⟩
      have B6 : Hid _ := below_after BX.out B6'
      have HS6 := HS.out _ B6.out
      clear B6'
      go_wp2_with fail
      refine hK.out _ _ HS6 (fun hHeld => ?_)
      clear hK K
      try simp only [Act.put, List.setIfInBounds_toArray, List.set_cons_zero, List.set_cons_succ]
      refine takeV 4 (some 12) (.tuple #[.slice none 0 0, .int .i64 11]) rfl rfl (by kernel_rfl) (by kernel_rfl) (by kernel_rfl) (fun _ _ _ h => h) (Or.inl ⟨by kernel_rfl, fun W hSw => by go_simp⟩) hHeld ?_
      try simp only [Act.put, List.setIfInBounds_toArray, List.set_cons_zero, List.set_cons_succ]
      refine takeV 5 (some 17) (.slice none 0 0) rfl rfl (by kernel_rfl) (by kernel_rfl) (by kernel_rfl) (fun _ _ _ h => h) (Or.inl ⟨by kernel_rfl, fun W hSw => by go_simp⟩) hHeld ?_
      try simp only [Act.put, List.setIfInBounds_toArray, List.set_cons_zero, List.set_cons_succ]
      refine takeV 6 (some 18) (.int .i64 11) rfl rfl (by kernel_rfl) (by kernel_rfl) (by kernel_rfl) (fun _ _ _ h => h) (Or.inl ⟨by kernel_rfl, fun W hSw => by go_simp⟩) hHeld ?_
      try simp only [Act.put, List.setIfInBounds_toArray, List.set_cons_zero, List.set_cons_succ]
      refine takeV 7 (some 2) (.slice none 0 0) rfl rfl (by kernel_rfl) (by kernel_rfl) (by kernel_rfl) (fun _ _ _ h => h) (Or.inl ⟨by kernel_rfl, fun W hSw => by go_simp⟩) hHeld ?_
      try simp only [Act.put, List.setIfInBounds_toArray, List.set_cons_zero, List.set_cons_succ]
      refine takeV 8 (some 3) (.int .i64 11) rfl rfl (by kernel_rfl) (by kernel_rfl) (by kernel_rfl) (fun _ _ _ h => h) (Or.inl ⟨by kernel_rfl, fun W hSw => by go_simp⟩) hHeld ?_
      try simp only [Act.put, List.setIfInBounds_toArray, List.set_cons_zero, List.set_cons_succ]
      clear hHeld HS6 UU BX HS
      refine wpAnyH_done (by kernel_rfl) ?_ _
      go_wp2_with fail
      go_meet
      case rel => exact ⟨rfl, B6.out⟩
  case rest =>
    obtain ⟨rfl, BX⟩ := hcut
    have B8 : Hid _ := below_after HB.out BX
    clear BX HS HR HB
    go_wp2_with fail
    refine (word_any _ _).mono ?_
    rintro e y1 ⟨rfl, B1⟩
    go_wp2_with fail
    refine (word_any _ _).mono ?_
    rintro e y2 ⟨rfl, B2⟩
    go_wp2_with fail
    refine (word_any _ _).mono ?_
    rintro e y3 ⟨rfl, B3⟩
    go_wp2_with fail
    refine (word_any _ _).mono ?_
    rintro e y4 ⟨rfl, B4⟩
    go_wp2_with fail
    refine (list_any _ _ _ _).mono ?_
    rintro e y5 ⟨rfl, B5⟩
    have B6 : Below w.heap.size w y4 := below_after B8.out (below_after B1 (below_after B2 (below_after B3 B4)))
    have X5 := box_heap B5
    have B7 : Below w.heap.size w y5 := below_after (below_alloc B6 _) B5
    generalize y4.heap.size = b4 at *
    clear B1 B2 B3 B4 B5 B6 B8
    go_wp2_with fail
    refine (list_any _ _ _ _).mono ?_
    rintro e y6 ⟨rfl, B6⟩
    have X6 := box_heap B6
    have X7 := (below_after (below_alloc (Below.refl y5.heap.size y5) _) B6).block _ (Array.getElem?_eq_some_iff.1 X5).1 |>.trans X5
    have B8 : Below w.heap.size w y6 := below_after (below_alloc B7 _) B6
    generalize y5.heap.size = b5 at *
    clear B6 B7 X5
    have H6 : Hid _ := X6
    have H7 : Hid _ := X7
    clear X6 X7
    go_wp2_with fail
    have R1 : Kd.C k24 y6 (some ⟨b4, 0, none⟩) 2 [wordF wSeq, wordF wB] := words_row H7.out
    have R2 : Hid (Kd.C k24 y6 (some ⟨b5, 0, none⟩) 3 [wordF wMap, wordF wA, listF [wordF wSeq, wordF wB]]) := row_of_cells (xs := [wordF wMap, wordF wA, listF [wordF wSeq, wordF wB]]) H6.out (by simp) (fun j p hj => by
      match j, hj with
      | 0, hj => obtain rfl := Option.some.inj hj; exact ⟨none, 0, Nat.le_refl _, Kd.C_nil _ _, rfl, rfl, rfl, rfl⟩
      | 1, hj => obtain rfl := Option.some.inj hj; exact ⟨none, 0, Nat.le_refl _, Kd.C_nil _ _, rfl, rfl, rfl, rfl⟩
      | 2, hj => obtain rfl := Option.some.inj hj; exact ⟨some ⟨b4, 0, none⟩, 2, Nat.le_refl _, R1, rfl, rfl, rfl, rfl⟩
      | j + 3, hj => simp at hj)
    clear R1 H6 H7
    have B9 : Hid _ := below_alloc B8 (.cells #[.int .i64 3, .int .i64 0, .string ⟨#[]⟩, .slice (some ⟨b5, 0, none⟩) 3 3] 24)
    have R3 : Hid _ := Kd.C_below R2.out (below_alloc (Below.refl y6.heap.size y6) (.cells #[.int .i64 3, .int .i64 0, .string ⟨#[]⟩, .slice (some ⟨b5, 0, none⟩) 3 3] 24))
    have X8 : Hid _ := (MapKept.heap_alloc y6 (.cells #[.int .i64 3, .int .i64 0, .string ⟨#[]⟩, .slice (some ⟨b5, 0, none⟩) 3 3] 24)).1
    generalize y6.alloc (.cells #[.int .i64 3, .int .i64 0, .string ⟨#[]⟩, .slice (some ⟨b5, 0, none⟩) 3 3] 24) = Y at *
    generalize y6.heap.size = b6 at *
    clear B8 R2
    refine (word_any _ _).mono ?_
    rintro e z1 ⟨rfl, B1⟩
    go_wp2_with fail
    refine (word_any _ _).mono ?_
    rintro e z2 ⟨rfl, B2⟩
    go_wp2_with fail
    refine (word_any _ _).mono ?_
    rintro e z3 ⟨rfl, B3⟩
    have B4 := below_after B1 (below_after B2 B3)
    clear B1 B2 B3
    go_wp2_with fail
    refine (list_any _ _ _ _).mono ?_
    rintro e z4 ⟨rfl, B5⟩
    have Z5 := box_heap B5
    have B6 := below_after (below_alloc B4 _) B5
    generalize z3.heap.size = b7 at *
    clear B4 B5
    have R5 : Hid (Kd.C k24 z4 (some ⟨b7, 0, none⟩) 3 [wordF wMap, wordF wInt, wordF wA]) := row_of_cells (xs := [wordF wMap, wordF wInt, wordF wA]) Z5 (by simp) (fun j p hj => by
      match j, hj with
      | 0, hj => obtain rfl := Option.some.inj hj; exact ⟨none, 0, Nat.le_refl _, Kd.C_nil _ _, rfl, rfl, rfl, rfl⟩
      | 1, hj => obtain rfl := Option.some.inj hj; exact ⟨none, 0, Nat.le_refl _, Kd.C_nil _ _, rfl, rfl, rfl, rfl⟩
      | 2, hj => obtain rfl := Option.some.inj hj; exact ⟨none, 0, Nat.le_refl _, Kd.C_nil _ _, rfl, rfl, rfl, rfl⟩
      | j + 3, hj => simp at hj)
    obtain ⟨q0, q1, q2, q3⟩ := cells4 X8.out
    have BB : Hid _ := B6
    replace q0 := pw_cell_below (below_alloc B6 (.cells #[.int .i64 3, .int .i64 0, .string ⟨#[]⟩, .slice (some ⟨b7, 0, none⟩) 3 3] 24)) q0
    replace q1 := pw_cell_below (below_alloc B6 (.cells #[.int .i64 3, .int .i64 0, .string ⟨#[]⟩, .slice (some ⟨b7, 0, none⟩) 3 3] 24)) q1
    replace q2 := pw_cell_below (below_alloc B6 (.cells #[.int .i64 3, .int .i64 0, .string ⟨#[]⟩, .slice (some ⟨b7, 0, none⟩) 3 3] 24)) q2
    replace q3 := pw_cell_below (below_alloc B6 (.cells #[.int .i64 3, .int .i64 0, .string ⟨#[]⟩, .slice (some ⟨b7, 0, none⟩) 3 3] 24)) q3
    clear Z5 B6
    have s1 := size_new z4 (.cells #[.int .i64 3, .int .i64 0, .string ⟨#[]⟩, .slice (some ⟨b7, 0, none⟩) 3 3] 24)
    have V1 := (MapKept.heap_alloc (z4.alloc (.cells #[.int .i64 3, .int .i64 0, .string ⟨#[]⟩, .slice (some ⟨b7, 0, none⟩) 3 3] 24)) (.cells #[.string wA, .string wB] 9)).1
    rw [s1] at V1
    have BZ : Below z4.heap.size z4 ((z4.alloc (.cells #[.int .i64 3, .int .i64 0, .string ⟨#[]⟩, .slice (some ⟨b7, 0, none⟩) 3 3] 24)).alloc (.cells #[.string wA, .string wB] 9)) := below_alloc (below_alloc (Below.refl _ _) _) _
    have UU : Hid _ := ex2 (some ⟨b5, 0, none⟩) (some ⟨b7, 0, none⟩) (some ⟨z4.heap.size + 1, 0, none⟩) _ (Kd.C_below R3.out (below_after BB.out BZ)) (Kd.C_below R5.out BZ) (texts_of_cells (xs := [wA, wB]) V1 (by simp) (fun j x hj => by
      match j, hj with
      | 0, hj => obtain rfl := Option.some.inj hj; rfl
      | 1, hj => obtain rfl := Option.some.inj hj; rfl
      | j + 2, hj => simp at hj))
    have BF : Hid _ := below_after B9.out (below_after BB.out BZ)
    clear s1 V1 BZ R3 R5
    go_wp2_with fail
    refine Calls.mono UU.out ?_
    rintro e z9 ⟨rfl, BL⟩
    have BG : Hid _ := below_after BF.out BL
    clear BL
    go_wp2_with fail
    go_ret
    exact ⟨rfl, BG.out⟩
end Go.Proofs.YtcjmplpfebpfpaaGreatDoor

namespace Go.Proofs.YtcjmplpfebpfpaaGreatDoor.PKindInstances
open Go.RowKit Go.Proofs.YtcjmplpfebpfpaaGreatDoorW.PrintWords Go.Proofs.YtcjmplpfebpfpaaGreatDoorW.PrintLast Go.Proofs.YtcjmplpfebpfpaaGreatDoorW.PrintMore
attribute [local go_sem] max2_int min2_int max_two min_two max_three min_three max_four min_four   -- for this text's walks alone
set_option linter.unusedVariables false
set_option linter.unusedSimpArgs false

end Go.Proofs.YtcjmplpfebpfpaaGreatDoor.PKindInstances

namespace Go.Proofs.YtcjmplpfebpfpaaGreatDoor.PKindInstances
open Go.RowKit Go.Proofs.YtcjmplpfebpfpaaGreatDoorW.PrintWords Go.Proofs.YtcjmplpfebpfpaaGreatDoorW.PrintLast Go.Proofs.YtcjmplpfebpfpaaGreatDoorW.PrintMore
attribute [local go_sem] max2_int min2_int max_two min_two max_three min_three max_four min_four   -- for this text's walks alone
set_option linter.unusedVariables false
set_option linter.unusedSimpArgs false

def plinthref01_Head.f (a0_0 : Int) (a0_1 : Int) (a0_2 : ByteArray) (l0_3 : List (S24)) : Option (ByteArray) := if a0_0 = 3 then (if (l0_3.length : Int) = 0 then (some (⟨#[]⟩ : ByteArray)) else (if 0 < (l0_3.length : Int) then (if ((rd_T24 l0_3 0).f0) = 1 then (some ((rd_T24 l0_3 0).f2)) else (some (⟨#[]⟩ : ByteArray))) else (none))) else (some (⟨#[]⟩ : ByteArray))
set_option maxHeartbeats 8000000 in
set_option maxRecDepth 100000 in
theorem plinthref01_Head.calls (a0_0 : Int) (a0_1 : Int) (a0_2 : ByteArray) (A0_3 : Option Addr) (c0_3 : Nat) (l0_3 : List (S24)) (r : ByteArray) (w : World) (hr0_3 : Kd.C k24 w A0_3 l0_3.length l0_3) (hc0_3 : l0_3.length ≤ c0_3) (h : plinthref01_Head.f a0_0 a0_1 a0_2 l0_3 = some r) :
    Calls Tryz.prog 50 #[.agg #[.int .i64 a0_0, .int .i64 a0_1, .string a0_2, .slice A0_3 l0_3.length c0_3]] w fun e w' => e = .returned (.string r) ∧ Below w.heap.size w w' := by
  have hu24 := Tryz.underlying24
  have HR0_3 := Aside0.mk hr0_3
  have HC0_3 := Aside0.mk hc0_3
  clear hr0_3 hc0_3
  have HB := Aside0.mk (Below.refl w.heap.size w)
  have H : (if a0_0 = 3 then (if (l0_3.length : Int) = 0 then (some (⟨#[]⟩ : ByteArray)) else (if 0 < (l0_3.length : Int) then (if ((rd_T24 l0_3 0).f0) = 1 then (some ((rd_T24 l0_3 0).f2)) else (some (⟨#[]⟩ : ByteArray))) else (none))) else (some (⟨#[]⟩ : ByteArray))) = some r := h
  clear h
  by_cases c2 : a0_0 = 3
  · rw [if_pos c2] at H
    have c2b0 : (a0_0 == 3) = true := beq_iff_eq.mpr c2
    have c2b1 : (a0_0 != 3) = false := bne_eq_false_iff_eq.mpr c2
    clear c2
    by_cases c3 : (l0_3.length : Int) = 0
    · rw [if_pos c3] at H
      have c3b0 : ((l0_3.length : Int) == 0) = true := beq_iff_eq.mpr c3
      have c3b1 : ((l0_3.length : Int) != 0) = false := bne_eq_false_iff_eq.mpr c3
      clear c3
      obtain rfl := Option.some.inj H
      go_enter Tryz.func50, Tryz.ntmps50
      go_wp2_with (first | ((with_reducible refine gate_dst (N := 1) rfl ?_); (try (refine gate_guard (by rfl) ?_; dsimp only)); refine box_event ?hg (N := 1) ?hd (cs := #[.int .i64 a0_0, .int .i64 a0_1, .string a0_2, .slice A0_3 l0_3.length c0_3]) (t := 24) ?hr ?_; (case hd => rfl); (case hg => rfl); (case hr => first | (go_simp; done) | (go_simp; rfl)); intro gb123 hg w4 hbox hb; have n0_ := Aside0.mk (below_step (by repeat (first | (with_reducible first | exact HB.out | apply below_alloc | apply pw_below_drewN | apply below_drew1) | exact HB.out)) hb); have n1_ := Aside0.mk (hbox); have n2_ := Aside0.mk ((by rw [hg]; exact (below_size (by repeat (first | (with_reducible first | exact HB.out | apply below_alloc | apply pw_below_drewN | apply below_drew1) | exact HB.out))) : w.heap.size ≤ gb123)); have n3_ := Aside0.mk ((by rw [hg]; exact (below_size (by repeat (first | (with_reducible first | exact HB.out | apply below_alloc | apply pw_below_drewN | apply below_drew1) | exact HB.out))) : w.heap.size ≤ gb123)); clear HB; have HB := n0_; have BK123 := n1_; have GW123 := n2_; have GE123 := n3_; clear n0_ n1_ n2_ n3_; clear hb hbox hg; have hcz5_0 : w4.cell? ⟨gb123, 0, none⟩ = some (.int .i64 a0_0) := (blk_cell BK123.out 0).trans rfl; have hcz5_1 : w4.cell? ⟨gb123, 1, none⟩ = some (.int .i64 a0_1) := (blk_cell BK123.out 1).trans rfl; have hcz5_2 : w4.cell? ⟨gb123, 2, none⟩ = some (.string a0_2) := (blk_cell BK123.out 2).trans rfl; have hcz5_3 : w4.cell? ⟨gb123, 3, none⟩ = some (.slice A0_3 l0_3.length c0_3) := (blk_cell BK123.out 3).trans rfl; have hfz5_0 := blk_frozen BK123.out 0; have hfz5_1 := blk_frozen BK123.out 1; have hfz5_2 := blk_frozen BK123.out 2; have hfz5_3 := blk_frozen BK123.out 3))
      go_ret
      exact ⟨by first | rfl | (simp [errW_none, errW_some] <;> rfl) | (simp [*, errW_none, errW_some] <;> rfl), by repeat (first | (with_reducible first | exact HB.out | apply below_alloc | apply pw_below_drewN | apply below_drew1 | refine below_set ?_ GE123.out) | exact HB.out)⟩
    · rw [if_neg c3] at H
      have c3b0 : ((l0_3.length : Int) == 0) = false := beq_eq_false_iff_ne.mpr c3
      have c3b1 : ((l0_3.length : Int) != 0) = true := bne_iff_ne.mpr c3
      have c3b2 : ¬ (l0_3 = []) := fun h_ => c3 (by rw [h_]; rfl)
      by_cases c6 : 0 < (l0_3.length : Int)
      · rw [if_pos c6] at H
        have c6b0 : decide (0 < (l0_3.length : Int)) = true := decide_eq_true c6
        have c6b1 : decide (0 < l0_3.length) = true := decide_eq_true (by omega)
        clear c6
        by_cases c7 : ((rd_T24 l0_3 0).f0) = 1
        · rw [if_pos c7] at H
          have c7b0 : (((rd_T24 l0_3 0).f0) == 1) = true := beq_iff_eq.mpr c7
          have c7b1 : (((rd_T24 l0_3 0).f0) != 1) = false := bne_eq_false_iff_eq.mpr c7
          clear c7
          obtain rfl := Option.some.inj H
          go_enter Tryz.func50, Tryz.ntmps50
          go_wp2_with (first | ((with_reducible refine gate_dst (N := 1) rfl ?_); (try (refine gate_guard (by rfl) ?_; dsimp only)); refine box_event ?hg (N := 1) ?hd (cs := #[.int .i64 a0_0, .int .i64 a0_1, .string a0_2, .slice A0_3 l0_3.length c0_3]) (t := 24) ?hr ?_; (case hd => rfl); (case hg => rfl); (case hr => first | (go_simp; done) | (go_simp; rfl)); intro gb123 hg w8 hbox hb; have n0_ := Aside0.mk (below_step (by repeat (first | (with_reducible first | exact HB.out | apply below_alloc | apply pw_below_drewN | apply below_drew1) | exact HB.out)) hb); have n1_ := Aside0.mk (hbox); have n2_ := Aside0.mk ((by rw [hg]; exact (below_size (by repeat (first | (with_reducible first | exact HB.out | apply below_alloc | apply pw_below_drewN | apply below_drew1) | exact HB.out))) : w.heap.size ≤ gb123)); have n3_ := Aside0.mk ((by rw [hg]; exact (below_size (by repeat (first | (with_reducible first | exact HB.out | apply below_alloc | apply pw_below_drewN | apply below_drew1) | exact HB.out))) : w.heap.size ≤ gb123)); clear HB; have HB := n0_; have BK123 := n1_; have GW123 := n2_; have GE123 := n3_; clear n0_ n1_ n2_ n3_; clear hb hbox hg; have hcz9_0 : w8.cell? ⟨gb123, 0, none⟩ = some (.int .i64 a0_0) := (blk_cell BK123.out 0).trans rfl; have hcz9_1 : w8.cell? ⟨gb123, 1, none⟩ = some (.int .i64 a0_1) := (blk_cell BK123.out 1).trans rfl; have hcz9_2 : w8.cell? ⟨gb123, 2, none⟩ = some (.string a0_2) := (blk_cell BK123.out 2).trans rfl; have hcz9_3 : w8.cell? ⟨gb123, 3, none⟩ = some (.slice A0_3 l0_3.length c0_3) := (blk_cell BK123.out 3).trans rfl; have hfz9_0 := blk_frozen BK123.out 0; have hfz9_1 := blk_frozen BK123.out 1; have hfz9_2 := blk_frozen BK123.out 2; have hfz9_3 := blk_frozen BK123.out 3; have p124 : 0 ≤ (0 : Int) := (by omega); have q124 : 0 < (l0_3.length : Int) := of_decide_eq_true (by first | (with_reducible assumption) | assumption); obtain ⟨ad124, A124_3, c124_3, e124, hx124_0, hx124_1, hx124_2, hx124_3, hl124_3, hi124_3⟩ := at_T24 HR0_3.out 0 p124 q124; cases e124; have qi124 : (0 < l0_3.length) = True := eq_true (by omega); (try rw [show ((0 : Int)).toNat = 0 from rfl] at hx124_0); (try rw [show 0 * 4 = 0 from rfl] at hx124_0); (try rw [Addr.add_zero'] at hx124_0); (try rw [show ((0 : Int)).toNat = 0 from rfl] at hx124_1); (try rw [show 0 * 4 = 0 from rfl] at hx124_1); (try rw [Addr.add_zero'] at hx124_1); (try rw [show ((0 : Int)).toNat = 0 from rfl] at hx124_2); (try rw [show 0 * 4 = 0 from rfl] at hx124_2); (try rw [Addr.add_zero'] at hx124_2); (try rw [show ((0 : Int)).toNat = 0 from rfl] at hx124_3); (try rw [show 0 * 4 = 0 from rfl] at hx124_3); (try rw [Addr.add_zero'] at hx124_3); replace hx124_0 := (HB.out.cell (World.block_lt_of_cell? w _ hx124_0)).trans hx124_0; replace hx124_1 := (HB.out.cell (World.block_lt_of_cell? w _ hx124_1)).trans hx124_1; replace hx124_2 := (HB.out.cell (World.block_lt_of_cell? w _ hx124_2)).trans hx124_2; replace hx124_3 := (HB.out.cell (World.block_lt_of_cell? w _ hx124_3)).trans hx124_3; have HR124_3 := Aside0.mk hi124_3; have HC124_3 := Aside0.mk hl124_3; clear hi124_3 hl124_3; replace p124 := eq_true p124; replace q124 := eq_true q124; have p125 : 0 ≤ (0 : Int) := (by omega); have q125 : 0 < (l0_3.length : Int) := of_decide_eq_true (by first | (with_reducible assumption) | assumption); obtain ⟨ad125, A125_3, c125_3, e125, hx125_0, hx125_1, hx125_2, hx125_3, hl125_3, hi125_3⟩ := at_T24 HR0_3.out 0 p125 q125; obtain rfl : ad124 = ad125 := (by injection e125); have qi125 : (0 < l0_3.length) = True := eq_true (by omega); (try rw [show ((0 : Int)).toNat = 0 from rfl] at hx125_0); (try rw [show 0 * 4 = 0 from rfl] at hx125_0); (try rw [Addr.add_zero'] at hx125_0); (try rw [show ((0 : Int)).toNat = 0 from rfl] at hx125_1); (try rw [show 0 * 4 = 0 from rfl] at hx125_1); (try rw [Addr.add_zero'] at hx125_1); (try rw [show ((0 : Int)).toNat = 0 from rfl] at hx125_2); (try rw [show 0 * 4 = 0 from rfl] at hx125_2); (try rw [Addr.add_zero'] at hx125_2); (try rw [show ((0 : Int)).toNat = 0 from rfl] at hx125_3); (try rw [show 0 * 4 = 0 from rfl] at hx125_3); (try rw [Addr.add_zero'] at hx125_3); replace hx125_0 := (HB.out.cell (World.block_lt_of_cell? w _ hx125_0)).trans hx125_0; replace hx125_1 := (HB.out.cell (World.block_lt_of_cell? w _ hx125_1)).trans hx125_1; replace hx125_2 := (HB.out.cell (World.block_lt_of_cell? w _ hx125_2)).trans hx125_2; replace hx125_3 := (HB.out.cell (World.block_lt_of_cell? w _ hx125_3)).trans hx125_3; have HR125_3 := Aside0.mk hi125_3; have HC125_3 := Aside0.mk hl125_3; clear hi125_3 hl125_3; replace p125 := eq_true p125; replace q125 := eq_true q125; have ea_ := Option.some.inj (hx124_3.symm.trans hx125_3); injection ea_ with ea_ en_ ec_; subst ea_; subst ec_; clear en_))
          go_ret
          exact ⟨by first | rfl | (simp [errW_none, errW_some] <;> rfl) | (simp [*, errW_none, errW_some] <;> rfl), by repeat (first | (with_reducible first | exact HB.out | apply below_alloc | apply pw_below_drewN | apply below_drew1 | refine below_set ?_ GE123.out) | exact HB.out)⟩
        · rw [if_neg c7] at H
          have c7b0 : (((rd_T24 l0_3 0).f0) == 1) = false := beq_eq_false_iff_ne.mpr c7
          have c7b1 : (((rd_T24 l0_3 0).f0) != 1) = true := bne_iff_ne.mpr c7
          obtain rfl := Option.some.inj H
          go_enter Tryz.func50, Tryz.ntmps50
          go_wp2_with (first | ((with_reducible refine gate_dst (N := 1) rfl ?_); (try (refine gate_guard (by rfl) ?_; dsimp only)); refine box_event ?hg (N := 1) ?hd (cs := #[.int .i64 a0_0, .int .i64 a0_1, .string a0_2, .slice A0_3 l0_3.length c0_3]) (t := 24) ?hr ?_; (case hd => rfl); (case hg => rfl); (case hr => first | (go_simp; done) | (go_simp; rfl)); intro gb123 hg w10 hbox hb; have n0_ := Aside0.mk (below_step (by repeat (first | (with_reducible first | exact HB.out | apply below_alloc | apply pw_below_drewN | apply below_drew1) | exact HB.out)) hb); have n1_ := Aside0.mk (hbox); have n2_ := Aside0.mk ((by rw [hg]; exact (below_size (by repeat (first | (with_reducible first | exact HB.out | apply below_alloc | apply pw_below_drewN | apply below_drew1) | exact HB.out))) : w.heap.size ≤ gb123)); have n3_ := Aside0.mk ((by rw [hg]; exact (below_size (by repeat (first | (with_reducible first | exact HB.out | apply below_alloc | apply pw_below_drewN | apply below_drew1) | exact HB.out))) : w.heap.size ≤ gb123)); clear HB; have HB := n0_; have BK123 := n1_; have GW123 := n2_; have GE123 := n3_; clear n0_ n1_ n2_ n3_; clear hb hbox hg; have hcz11_0 : w10.cell? ⟨gb123, 0, none⟩ = some (.int .i64 a0_0) := (blk_cell BK123.out 0).trans rfl; have hcz11_1 : w10.cell? ⟨gb123, 1, none⟩ = some (.int .i64 a0_1) := (blk_cell BK123.out 1).trans rfl; have hcz11_2 : w10.cell? ⟨gb123, 2, none⟩ = some (.string a0_2) := (blk_cell BK123.out 2).trans rfl; have hcz11_3 : w10.cell? ⟨gb123, 3, none⟩ = some (.slice A0_3 l0_3.length c0_3) := (blk_cell BK123.out 3).trans rfl; have hfz11_0 := blk_frozen BK123.out 0; have hfz11_1 := blk_frozen BK123.out 1; have hfz11_2 := blk_frozen BK123.out 2; have hfz11_3 := blk_frozen BK123.out 3; have p124 : 0 ≤ (0 : Int) := (by omega); have q124 : 0 < (l0_3.length : Int) := of_decide_eq_true (by first | (with_reducible assumption) | assumption); obtain ⟨ad124, A124_3, c124_3, e124, hx124_0, hx124_1, hx124_2, hx124_3, hl124_3, hi124_3⟩ := at_T24 HR0_3.out 0 p124 q124; cases e124; have qi124 : (0 < l0_3.length) = True := eq_true (by omega); (try rw [show ((0 : Int)).toNat = 0 from rfl] at hx124_0); (try rw [show 0 * 4 = 0 from rfl] at hx124_0); (try rw [Addr.add_zero'] at hx124_0); (try rw [show ((0 : Int)).toNat = 0 from rfl] at hx124_1); (try rw [show 0 * 4 = 0 from rfl] at hx124_1); (try rw [Addr.add_zero'] at hx124_1); (try rw [show ((0 : Int)).toNat = 0 from rfl] at hx124_2); (try rw [show 0 * 4 = 0 from rfl] at hx124_2); (try rw [Addr.add_zero'] at hx124_2); (try rw [show ((0 : Int)).toNat = 0 from rfl] at hx124_3); (try rw [show 0 * 4 = 0 from rfl] at hx124_3); (try rw [Addr.add_zero'] at hx124_3); replace hx124_0 := (HB.out.cell (World.block_lt_of_cell? w _ hx124_0)).trans hx124_0; replace hx124_1 := (HB.out.cell (World.block_lt_of_cell? w _ hx124_1)).trans hx124_1; replace hx124_2 := (HB.out.cell (World.block_lt_of_cell? w _ hx124_2)).trans hx124_2; replace hx124_3 := (HB.out.cell (World.block_lt_of_cell? w _ hx124_3)).trans hx124_3; have HR124_3 := Aside0.mk hi124_3; have HC124_3 := Aside0.mk hl124_3; clear hi124_3 hl124_3; replace p124 := eq_true p124; replace q124 := eq_true q124))
          go_ret
          exact ⟨by first | rfl | (simp [errW_none, errW_some] <;> rfl) | (simp [*, errW_none, errW_some] <;> rfl), by repeat (first | (with_reducible first | exact HB.out | apply below_alloc | apply pw_below_drewN | apply below_drew1 | refine below_set ?_ GE123.out) | exact HB.out)⟩
      · rw [if_neg c6] at H
        exact absurd H (by simp)
  · rw [if_neg c2] at H
    have c2b0 : (a0_0 == 3) = false := beq_eq_false_iff_ne.mpr c2
    have c2b1 : (a0_0 != 3) = true := bne_iff_ne.mpr c2
    obtain rfl := Option.some.inj H
    go_enter Tryz.func50, Tryz.ntmps50
    go_wp2_with (first | ((with_reducible refine gate_dst (N := 1) rfl ?_); (try (refine gate_guard (by rfl) ?_; dsimp only)); refine box_event ?hg (N := 1) ?hd (cs := #[.int .i64 a0_0, .int .i64 a0_1, .string a0_2, .slice A0_3 l0_3.length c0_3]) (t := 24) ?hr ?_; (case hd => rfl); (case hg => rfl); (case hr => first | (go_simp; done) | (go_simp; rfl)); intro gb123 hg w12 hbox hb; have n0_ := Aside0.mk (below_step (by repeat (first | (with_reducible first | exact HB.out | apply below_alloc | apply pw_below_drewN | apply below_drew1) | exact HB.out)) hb); have n1_ := Aside0.mk (hbox); have n2_ := Aside0.mk ((by rw [hg]; exact (below_size (by repeat (first | (with_reducible first | exact HB.out | apply below_alloc | apply pw_below_drewN | apply below_drew1) | exact HB.out))) : w.heap.size ≤ gb123)); have n3_ := Aside0.mk ((by rw [hg]; exact (below_size (by repeat (first | (with_reducible first | exact HB.out | apply below_alloc | apply pw_below_drewN | apply below_drew1) | exact HB.out))) : w.heap.size ≤ gb123)); clear HB; have HB := n0_; have BK123 := n1_; have GW123 := n2_; have GE123 := n3_; clear n0_ n1_ n2_ n3_; clear hb hbox hg; have hcz13_0 : w12.cell? ⟨gb123, 0, none⟩ = some (.int .i64 a0_0) := (blk_cell BK123.out 0).trans rfl; have hcz13_1 : w12.cell? ⟨gb123, 1, none⟩ = some (.int .i64 a0_1) := (blk_cell BK123.out 1).trans rfl; have hcz13_2 : w12.cell? ⟨gb123, 2, none⟩ = some (.string a0_2) := (blk_cell BK123.out 2).trans rfl; have hcz13_3 : w12.cell? ⟨gb123, 3, none⟩ = some (.slice A0_3 l0_3.length c0_3) := (blk_cell BK123.out 3).trans rfl; have hfz13_0 := blk_frozen BK123.out 0; have hfz13_1 := blk_frozen BK123.out 1; have hfz13_2 := blk_frozen BK123.out 2; have hfz13_3 := blk_frozen BK123.out 3))
    go_ret
    exact ⟨by first | rfl | (simp [errW_none, errW_some] <;> rfl) | (simp [*, errW_none, errW_some] <;> rfl), by repeat (first | (with_reducible first | exact HB.out | apply below_alloc | apply pw_below_drewN | apply below_drew1 | refine below_set ?_ GE123.out) | exact HB.out)⟩

end Go.Proofs.YtcjmplpfebpfpaaGreatDoor.PKindInstances
