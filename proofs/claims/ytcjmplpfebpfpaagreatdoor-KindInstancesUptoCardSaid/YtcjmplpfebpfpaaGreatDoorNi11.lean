/- KindInstances, part 11: the print's words and functions that it leans on, cut to what is reached, and own texts. -/
import Derived.Test.YtcjmplpfebpfpaaGreatDoorNi10
namespace Go.Proofs.YtcjmplpfebpfpaaGreatDoor
open Go.RowKit Go.Proofs Go.Proofs.YtcjmplpfebpfpaaGreatDoorW.PrintWords Go.Proofs.YtcjmplpfebpfpaaGreatDoorW.PrintLast Go.Proofs.YtcjmplpfebpfpaaGreatDoorW.PrintMore PKindInstances
set_option linter.unusedVariables false
set_option linter.unusedSimpArgs false

set_option maxRecDepth 100000 in
set_option maxHeartbeats 8000000 in
theorem matched_found (vs : List ByteArray) (w : World) (by_ : List S71) (n : Int) (s : ByteArray) (l : List S24) (y : S24) (inner : Bool) (A B V Y : Option Addr) (c d cv cy : Nat)
    (ha : Kd.C k24 w A l.length l) (hac : l.length ≤ c) (haw : wid ⟨1, n, s, l⟩ < 9000000) (hb : Kd.C k24 w B y.f3.length y.f3) (hbc : y.f3.length ≤ d) (hbw : wid y < 9000000) (hv : Kd.C Kd.string w V vs.length vs) (hvc : vs.length ≤ cv) (hvn : vs.length < 9000000)
    (hy : Kd.C k71 w Y by_.length by_) (hyc : by_.length ≤ cy) (hyn : by_.length < 9000000) (was : S24) (hww : wid was < 9000000) (hres : resM s = false) (hmem : s ∈ vs) (hfind : findM by_ s = some was) :
    Calls Tryz.prog 66 #[formV 1 n s A l.length c, formV y.f0 y.f1 y.f2 B y.f3.length d, .slice V vs.length cv, .slice Y by_.length cy, .bool inner] w (MRPost w (eqM was y, by_)) := by
  have hu24 := Tryz.underlying24
  have hu71 := Tryz.underlying71
  obtain ⟨y0, y1, y2, y3⟩ := y
  obtain ⟨x1, x2, xb⟩ := boxes2 w (Obj.cells #[.int .i64 1, .int .i64 n, .string s, .slice A l.length c] 24) (Obj.cells #[.int .i64 y0, .int .i64 y1, .string y2, .slice B y3.length d] 24)
  have XB : Hid _ := xb
  have HAA : Hid _ := ha
  have HY : Hid _ := hy
  have HBB : Hid _ := hb
  have IW : Hid (∀ w1, Below w.heap.size w w1 → _) := fun w1 h1 => isWord_any ⟨1, n, s, l⟩ A c w1 (Kd.C_below ha h1) hac
  have IR : Hid _ := fun w1 => RReserved_any s w1
  have IH : Hid (∀ w1, Below w.heap.size w w1 → _) := fun w1 h1 => RHas_any vs s V cv w1 (Kd.C_below hv h1) hvc hvn
  rw [hres] at IR
  rw [decide_eq_true hmem] at IH
  have FI : Hid (∀ w1, Below w.heap.size w w1 → _) := fun w1 h1 => find_any by_ s Y cy w1 (Kd.C_below hy h1) hyn
  rw [hfind] at FI
  have EQ : Hid (∀ w1 A9 c9, Kd.C k24 w1 A9 was.f3.length was.f3 → was.f3.length ≤ c9 → Below w.heap.size w w1 → _) := fun w1 A9 c9 h0 hc9 h1 => REqual_any was ⟨y0, y1, y2, y3⟩ A9 B c9 d w1 h0 hc9 (Kd.C_below hb h1) hbc hww hbw
  obtain ⟨q, hq⟩ : ∃ q, q = eqM was ⟨y0, y1, y2, y3⟩ := ⟨_, rfl⟩
  rw [← hq] at EQ ⊢
  clear xb ha hb hv hy hmem hfind hres hq haw hbw hww
  go_enter Tryz.func66, Tryz.ntmps66
  go_upto_region 1 with fail
  generalize (w.alloc (Obj.cells #[.int .i64 1, .int .i64 n, .string s, .slice A l.length c] 24)).alloc (Obj.cells #[.int .i64 y0, .int .i64 y1, .string y2, .slice B y3.length d] 24) = X at *
  have X1 : Hid _ := x1
  have X2 : Hid _ := x2
  obtain ⟨p0, p1, p2, p3⟩ := cells4 x1
  obtain ⟨q0, q1, q2, q3⟩ := cells4 x2
  generalize hbA : w.heap.size = bA at *
  generalize hbB : bA + 1 = bB at *
  clear x1 x2
  go_wp2_with fail
  refine Calls.mono (IW.out _ (by subst hbA; exact XB.out)) ?_
  rintro e w1 ⟨rfl, B1⟩
  have HB1 : Hid (Below X.heap.size X w1) := B1
  replace p0 := pw_cell_below B1 p0
  replace p1 := pw_cell_below B1 p1
  replace p2 := pw_cell_below B1 p2
  replace p3 := pw_cell_below B1 p3
  replace q0 := pw_cell_below B1 q0
  replace q1 := pw_cell_below B1 q1
  replace q2 := pw_cell_below B1 q2
  replace q3 := pw_cell_below B1 q3
  clear B1
  go_wp2_with fail
  refine Calls.mono (IR.out _) ?_
  rintro e w2 ⟨rfl, B2⟩
  have HB2 : Hid (Below X.heap.size X w2) := below_after HB1.out B2
  replace p0 := pw_cell_below B2 p0
  replace p1 := pw_cell_below B2 p1
  replace p2 := pw_cell_below B2 p2
  replace p3 := pw_cell_below B2 p3
  replace q0 := pw_cell_below B2 q0
  replace q1 := pw_cell_below B2 q1
  replace q2 := pw_cell_below B2 q2
  replace q3 := pw_cell_below B2 q3
  clear B2
  go_wp2_with fail
  refine Calls.mono (IH.out _ (by subst hbA; exact below_after XB.out HB2.out)) ?_
  rintro e w3 ⟨rfl, B3⟩
  have HB3 : Hid (Below X.heap.size X w3) := below_after HB2.out B3
  replace p0 := pw_cell_below B3 p0
  replace p1 := pw_cell_below B3 p1
  replace p2 := pw_cell_below B3 p2
  replace p3 := pw_cell_below B3 p3
  replace q0 := pw_cell_below B3 q0
  replace q1 := pw_cell_below B3 q1
  replace q2 := pw_cell_below B3 q2
  replace q3 := pw_cell_below B3 q3
  clear B3
  go_wp2_with fail
  refine Calls.mono (FI.out _ (by subst hbA; exact below_after XB.out HB3.out)) ?_
  rintro e w4 ⟨A9, c9, rfl, hc9, hC9, B4⟩
  have HB4 : Hid (Below X.heap.size X w4) := below_after HB3.out B4
  have HC9 : Hid _ := hC9
  replace p0 := pw_cell_below B4 p0
  replace p1 := pw_cell_below B4 p1
  replace p2 := pw_cell_below B4 p2
  replace p3 := pw_cell_below B4 p3
  replace q0 := pw_cell_below B4 q0
  replace q1 := pw_cell_below B4 q1
  replace q2 := pw_cell_below B4 q2
  replace q3 := pw_cell_below B4 q3
  clear B4 hC9
  obtain ⟨was0, was1, was2, was3⟩ := was
  go_upto_region 4 with fail
  have z1 : (w4.alloc (Obj.cells #[Value.int IntKind.i64 was0, Value.int IntKind.i64 was1, Value.string was2, Value.slice A9 was3.length c9] 24)).heap[w4.heap.size]? = some (Obj.cells #[Value.int IntKind.i64 was0, Value.int IntKind.i64 was1, Value.string was2, Value.slice A9 was3.length c9] 24) := (MapKept.heap_alloc w4 _).1
  have HBZ : Hid (Below X.heap.size X (w4.alloc (Obj.cells #[Value.int IntKind.i64 was0, Value.int IntKind.i64 was1, Value.string was2, Value.slice A9 was3.length c9] 24))) := below_after HB4.out (below_alloc (Below.refl _ _) _)
  have HCZ : Hid (Kd.C k24 (w4.alloc (Obj.cells #[Value.int IntKind.i64 was0, Value.int IntKind.i64 was1, Value.string was2, Value.slice A9 was3.length c9] 24)) A9 was3.length was3) := Kd.C_below HC9.out (below_alloc (Below.refl _ _) _)
  have HZ9 : Hid (Below w4.heap.size w4 (w4.alloc (Obj.cells #[Value.int IntKind.i64 was0, Value.int IntKind.i64 was1, Value.string was2, Value.slice A9 was3.length c9] 24))) := below_alloc (Below.refl _ _) _
  replace p0 := pw_cell_below HZ9.out p0
  replace p1 := pw_cell_below HZ9.out p1
  replace p2 := pw_cell_below HZ9.out p2
  replace p3 := pw_cell_below HZ9.out p3
  replace q0 := pw_cell_below HZ9.out q0
  replace q1 := pw_cell_below HZ9.out q1
  replace q2 := pw_cell_below HZ9.out q2
  replace q3 := pw_cell_below HZ9.out q3
  generalize w4.alloc (Obj.cells #[Value.int IntKind.i64 was0, Value.int IntKind.i64 was1, Value.string was2, Value.slice A9 was3.length c9] 24) = Z at *
  obtain ⟨z0, z1, z2, z3⟩ := cells4 z1
  generalize w4.heap.size = bZ at *
  go_wp2_with fail
  refine Calls.mono (EQ.out _ A9 c9 HCZ.out hc9 (by subst hbA; exact below_after XB.out HBZ.out)) ?_
  rintro e w9 ⟨rfl, B9⟩
  have HB9 : Hid (Below X.heap.size X w9) := below_after HBZ.out B9
  clear B9
  go_wp2_with fail
  go_ret2
  have BB : Below w.heap.size w w9 := by subst hbA; exact below_after XB.out HB9.out
  exact ⟨Y, cy, rfl, hyc, Kd.C_below HY.out BB, BB⟩
set_option maxRecDepth 100000 in
set_option maxHeartbeats 8000000 in
theorem matched_eq1 (vs : List ByteArray) (w : World) (by_ : List S71) (n : Int) (s : ByteArray) (l : List S24) (y : S24) (inner : Bool) (A B V Y : Option Addr) (c d cv cy : Nat)
    (ha : Kd.C k24 w A l.length l) (hac : l.length ≤ c) (haw : wid ⟨1, n, s, l⟩ < 9000000) (hb : Kd.C k24 w B y.f3.length y.f3) (hbc : y.f3.length ≤ d) (hbw : wid y < 9000000) (hv : Kd.C Kd.string w V vs.length vs) (hvc : vs.length ≤ cv) (hvn : vs.length < 9000000)
    (hy : Kd.C k71 w Y by_.length by_) (hyc : by_.length ≤ cy) (hyn : by_.length < 9000000) (hres : resM s = true) :
    Calls Tryz.prog 66 #[formV 1 n s A l.length c, formV y.f0 y.f1 y.f2 B y.f3.length d, .slice V vs.length cv, .slice Y by_.length cy, .bool inner] w (MRPost w (eqM ⟨1, n, s, l⟩ y, by_)) := by
  have hu24 := Tryz.underlying24
  have hu71 := Tryz.underlying71
  obtain ⟨y0, y1, y2, y3⟩ := y
  obtain ⟨x1, x2, xb⟩ := boxes2 w (Obj.cells #[.int .i64 1, .int .i64 n, .string s, .slice A l.length c] 24) (Obj.cells #[.int .i64 y0, .int .i64 y1, .string y2, .slice B y3.length d] 24)
  have XB : Hid _ := xb
  have HAA : Hid _ := ha
  have HY : Hid _ := hy
  have HBB : Hid _ := hb
  have IW : Hid (∀ w1, Below w.heap.size w w1 → _) := fun w1 h1 => isWord_any ⟨1, n, s, l⟩ A c w1 (Kd.C_below ha h1) hac
  have EQ : Hid (∀ w1, Below w.heap.size w w1 → _) := fun w1 h1 => REqual_any ⟨1, n, s, l⟩ ⟨y0, y1, y2, y3⟩ A B c d w1 (Kd.C_below ha h1) hac (Kd.C_below hb h1) hbc haw hbw
  obtain ⟨q, hq⟩ : ∃ q, q = eqM ⟨1, n, s, l⟩ ⟨y0, y1, y2, y3⟩ := ⟨_, rfl⟩
  rw [← hq] at EQ ⊢
  have IR : Hid _ := fun w1 => RReserved_any s w1
  have IH : Hid (∀ w1, Below w.heap.size w w1 → _) := fun w1 h1 => RHas_any vs s V cv w1 (Kd.C_below hv h1) hvc hvn
  rw [hres] at IR
  clear xb ha hb hv hy haw hbw hq hres
  go_enter Tryz.func66, Tryz.ntmps66
  go_upto_region 1 with fail
  generalize (w.alloc (Obj.cells #[.int .i64 1, .int .i64 n, .string s, .slice A l.length c] 24)).alloc (Obj.cells #[.int .i64 y0, .int .i64 y1, .string y2, .slice B y3.length d] 24) = X at *
  have X1 : Hid _ := x1
  have X2 : Hid _ := x2
  obtain ⟨p0, p1, p2, p3⟩ := cells4 x1
  obtain ⟨q0, q1, q2, q3⟩ := cells4 x2
  generalize hbA : w.heap.size = bA at *
  generalize hbB : bA + 1 = bB at *
  clear x1 x2
  go_wp2_with fail
  refine Calls.mono (IW.out _ (by subst hbA; exact XB.out)) ?_
  rintro e w1 ⟨rfl, B1⟩
  have HB1 : Hid (Below X.heap.size X w1) := B1
  replace p0 := pw_cell_below B1 p0
  replace p1 := pw_cell_below B1 p1
  replace p2 := pw_cell_below B1 p2
  replace p3 := pw_cell_below B1 p3
  replace q0 := pw_cell_below B1 q0
  replace q1 := pw_cell_below B1 q1
  replace q2 := pw_cell_below B1 q2
  replace q3 := pw_cell_below B1 q3
  clear B1
  go_wp2_with fail
  refine Calls.mono (IR.out _) ?_
  rintro e w2 ⟨rfl, B2⟩
  have HB2 : Hid (Below X.heap.size X w2) := below_after HB1.out B2
  replace p0 := pw_cell_below B2 p0
  replace p1 := pw_cell_below B2 p1
  replace p2 := pw_cell_below B2 p2
  replace p3 := pw_cell_below B2 p3
  replace q0 := pw_cell_below B2 q0
  replace q1 := pw_cell_below B2 q1
  replace q2 := pw_cell_below B2 q2
  replace q3 := pw_cell_below B2 q3
  clear B2
  go_wp2_with fail
  refine Calls.mono (EQ.out _ (by subst hbA; exact below_after XB.out HB2.out)) ?_
  rintro e w9 ⟨rfl, B9⟩
  have HB9 : Hid (Below X.heap.size X w9) := below_after HB2.out B9
  clear B9
  go_wp2_with fail
  go_ret2
  have BB : Below w.heap.size w w9 := by subst hbA; exact below_after XB.out HB9.out
  exact ⟨Y, cy, rfl, hyc, Kd.C_below HY.out BB, BB⟩
set_option maxRecDepth 100000 in
set_option maxHeartbeats 8000000 in
theorem matched_eq2 (vs : List ByteArray) (w : World) (by_ : List S71) (n : Int) (s : ByteArray) (l : List S24) (y : S24) (inner : Bool) (A B V Y : Option Addr) (c d cv cy : Nat)
    (ha : Kd.C k24 w A l.length l) (hac : l.length ≤ c) (haw : wid ⟨1, n, s, l⟩ < 9000000) (hb : Kd.C k24 w B y.f3.length y.f3) (hbc : y.f3.length ≤ d) (hbw : wid y < 9000000) (hv : Kd.C Kd.string w V vs.length vs) (hvc : vs.length ≤ cv) (hvn : vs.length < 9000000)
    (hy : Kd.C k71 w Y by_.length by_) (hyc : by_.length ≤ cy) (hyn : by_.length < 9000000) (hres : resM s = false) (hmem : s ∉ vs) :
    Calls Tryz.prog 66 #[formV 1 n s A l.length c, formV y.f0 y.f1 y.f2 B y.f3.length d, .slice V vs.length cv, .slice Y by_.length cy, .bool inner] w (MRPost w (eqM ⟨1, n, s, l⟩ y, by_)) := by
  have hu24 := Tryz.underlying24
  have hu71 := Tryz.underlying71
  obtain ⟨y0, y1, y2, y3⟩ := y
  obtain ⟨x1, x2, xb⟩ := boxes2 w (Obj.cells #[.int .i64 1, .int .i64 n, .string s, .slice A l.length c] 24) (Obj.cells #[.int .i64 y0, .int .i64 y1, .string y2, .slice B y3.length d] 24)
  have XB : Hid _ := xb
  have HAA : Hid _ := ha
  have HY : Hid _ := hy
  have HBB : Hid _ := hb
  have IW : Hid (∀ w1, Below w.heap.size w w1 → _) := fun w1 h1 => isWord_any ⟨1, n, s, l⟩ A c w1 (Kd.C_below ha h1) hac
  have EQ : Hid (∀ w1, Below w.heap.size w w1 → _) := fun w1 h1 => REqual_any ⟨1, n, s, l⟩ ⟨y0, y1, y2, y3⟩ A B c d w1 (Kd.C_below ha h1) hac (Kd.C_below hb h1) hbc haw hbw
  obtain ⟨q, hq⟩ : ∃ q, q = eqM ⟨1, n, s, l⟩ ⟨y0, y1, y2, y3⟩ := ⟨_, rfl⟩
  rw [← hq] at EQ ⊢
  have IR : Hid _ := fun w1 => RReserved_any s w1
  have IH : Hid (∀ w1, Below w.heap.size w w1 → _) := fun w1 h1 => RHas_any vs s V cv w1 (Kd.C_below hv h1) hvc hvn
  rw [hres] at IR
  rw [decide_eq_false hmem] at IH
  clear xb ha hb hv hy haw hbw hq hres hmem
  go_enter Tryz.func66, Tryz.ntmps66
  go_upto_region 1 with fail
  generalize (w.alloc (Obj.cells #[.int .i64 1, .int .i64 n, .string s, .slice A l.length c] 24)).alloc (Obj.cells #[.int .i64 y0, .int .i64 y1, .string y2, .slice B y3.length d] 24) = X at *
  have X1 : Hid _ := x1
  have X2 : Hid _ := x2
  obtain ⟨p0, p1, p2, p3⟩ := cells4 x1
  obtain ⟨q0, q1, q2, q3⟩ := cells4 x2
  generalize hbA : w.heap.size = bA at *
  generalize hbB : bA + 1 = bB at *
  clear x1 x2
  go_wp2_with fail
  refine Calls.mono (IW.out _ (by subst hbA; exact XB.out)) ?_
  rintro e w1 ⟨rfl, B1⟩
  have HB1 : Hid (Below X.heap.size X w1) := B1
  replace p0 := pw_cell_below B1 p0
  replace p1 := pw_cell_below B1 p1
  replace p2 := pw_cell_below B1 p2
  replace p3 := pw_cell_below B1 p3
  replace q0 := pw_cell_below B1 q0
  replace q1 := pw_cell_below B1 q1
  replace q2 := pw_cell_below B1 q2
  replace q3 := pw_cell_below B1 q3
  clear B1
  go_wp2_with fail
  refine Calls.mono (IR.out _) ?_
  rintro e w2 ⟨rfl, B2⟩
  have HB2 : Hid (Below X.heap.size X w2) := below_after HB1.out B2
  replace p0 := pw_cell_below B2 p0
  replace p1 := pw_cell_below B2 p1
  replace p2 := pw_cell_below B2 p2
  replace p3 := pw_cell_below B2 p3
  replace q0 := pw_cell_below B2 q0
  replace q1 := pw_cell_below B2 q1
  replace q2 := pw_cell_below B2 q2
  replace q3 := pw_cell_below B2 q3
  clear B2
  go_wp2_with fail
  refine Calls.mono (IH.out _ (by subst hbA; exact below_after XB.out HB2.out)) ?_
  rintro e w3 ⟨rfl, B3⟩
  have HB3 : Hid (Below X.heap.size X w3) := below_after HB2.out B3
  replace p0 := pw_cell_below B3 p0
  replace p1 := pw_cell_below B3 p1
  replace p2 := pw_cell_below B3 p2
  replace p3 := pw_cell_below B3 p3
  replace q0 := pw_cell_below B3 q0
  replace q1 := pw_cell_below B3 q1
  replace q2 := pw_cell_below B3 q2
  replace q3 := pw_cell_below B3 q3
  clear B3
  go_wp2_with fail
  refine Calls.mono (EQ.out _ (by subst hbA; exact below_after XB.out HB3.out)) ?_
  rintro e w9 ⟨rfl, B9⟩
  have HB9 : Hid (Below X.heap.size X w9) := below_after HB3.out B9
  clear B9
  go_wp2_with fail
  go_ret2
  have BB : Below w.heap.size w w9 := by subst hbA; exact below_after XB.out HB9.out
  exact ⟨Y, cy, rfl, hyc, Kd.C_below HY.out BB, BB⟩
set_option maxRecDepth 100000 in
set_option maxHeartbeats 8000000 in
theorem matched_eq3 (vs : List ByteArray) (w : World) (by_ : List S71) (a n : Int) (s : ByteArray) (l : List S24) (y : S24) (inner : Bool) (A B V Y : Option Addr) (c d cv cy : Nat)
    (ha : Kd.C k24 w A l.length l) (hac : l.length ≤ c) (haw : wid ⟨a, n, s, l⟩ < 9000000) (hb : Kd.C k24 w B y.f3.length y.f3) (hbc : y.f3.length ≤ d) (hbw : wid y < 9000000) (hv : Kd.C Kd.string w V vs.length vs) (hvc : vs.length ≤ cv) (hvn : vs.length < 9000000)
    (hy : Kd.C k71 w Y by_.length by_) (hyc : by_.length ≤ cy) (hyn : by_.length < 9000000) (h1 : a ≠ 1) (h3 : a ≠ 3) :
    Calls Tryz.prog 66 #[formV a n s A l.length c, formV y.f0 y.f1 y.f2 B y.f3.length d, .slice V vs.length cv, .slice Y by_.length cy, .bool inner] w (MRPost w (eqM ⟨a, n, s, l⟩ y, by_)) := by
  have hu24 := Tryz.underlying24
  have hu71 := Tryz.underlying71
  obtain ⟨y0, y1, y2, y3⟩ := y
  obtain ⟨x1, x2, xb⟩ := boxes2 w (Obj.cells #[.int .i64 a, .int .i64 n, .string s, .slice A l.length c] 24) (Obj.cells #[.int .i64 y0, .int .i64 y1, .string y2, .slice B y3.length d] 24)
  have XB : Hid _ := xb
  have HAA : Hid _ := ha
  have HY : Hid _ := hy
  have HBB : Hid _ := hb
  have IW : Hid (∀ w1, Below w.heap.size w w1 → _) := fun w1 h1 => isWord_any ⟨a, n, s, l⟩ A c w1 (Kd.C_below ha h1) hac
  have EQ : Hid (∀ w1, Below w.heap.size w w1 → _) := fun w1 h1 => REqual_any ⟨a, n, s, l⟩ ⟨y0, y1, y2, y3⟩ A B c d w1 (Kd.C_below ha h1) hac (Kd.C_below hb h1) hbc haw hbw
  obtain ⟨q, hq⟩ : ∃ q, q = eqM ⟨a, n, s, l⟩ ⟨y0, y1, y2, y3⟩ := ⟨_, rfl⟩
  rw [← hq] at EQ ⊢
  have a1 : (a == 1) = false := beq_eq_false_iff_ne.mpr h1
  have a3 : (a != 3) = true := bne_iff_ne.mpr h3
  simp only [a1] at IW
  clear xb ha hb hv hy haw hbw hq h1 h3
  go_enter Tryz.func66, Tryz.ntmps66
  go_upto_region 1 with fail
  generalize (w.alloc (Obj.cells #[.int .i64 a, .int .i64 n, .string s, .slice A l.length c] 24)).alloc (Obj.cells #[.int .i64 y0, .int .i64 y1, .string y2, .slice B y3.length d] 24) = X at *
  have X1 : Hid _ := x1
  have X2 : Hid _ := x2
  obtain ⟨p0, p1, p2, p3⟩ := cells4 x1
  obtain ⟨q0, q1, q2, q3⟩ := cells4 x2
  generalize hbA : w.heap.size = bA at *
  generalize hbB : bA + 1 = bB at *
  clear x1 x2
  go_wp2_with fail
  refine Calls.mono (IW.out _ (by subst hbA; exact XB.out)) ?_
  rintro e w1 ⟨rfl, B1⟩
  have HB1 : Hid (Below X.heap.size X w1) := B1
  replace p0 := pw_cell_below B1 p0
  replace p1 := pw_cell_below B1 p1
  replace p2 := pw_cell_below B1 p2
  replace p3 := pw_cell_below B1 p3
  replace q0 := pw_cell_below B1 q0
  replace q1 := pw_cell_below B1 q1
  replace q2 := pw_cell_below B1 q2
  replace q3 := pw_cell_below B1 q3
  clear B1
  go_wp2_with fail
  refine Calls.mono (EQ.out _ (by subst hbA; exact below_after XB.out HB1.out)) ?_
  rintro e w9 ⟨rfl, B9⟩
  have HB9 : Hid (Below X.heap.size X w9) := below_after HB1.out B9
  clear B9
  go_wp2_with fail
  go_ret2
  have BB : Below w.heap.size w w9 := by subst hbA; exact below_after XB.out HB9.out
  exact ⟨Y, cy, rfl, hyc, Kd.C_below HY.out BB, BB⟩
set_option maxRecDepth 100000 in
set_option maxHeartbeats 8000000 in
theorem matched_eq4 (vs : List ByteArray) (w : World) (by_ : List S71) (n : Int) (s : ByteArray) (l : List S24) (y : S24) (inner : Bool) (A B V Y : Option Addr) (c d cv cy : Nat)
    (ha : Kd.C k24 w A l.length l) (hac : l.length ≤ c) (haw : wid ⟨3, n, s, l⟩ < 9000000) (hb : Kd.C k24 w B y.f3.length y.f3) (hbc : y.f3.length ≤ d) (hbw : wid y < 9000000) (hv : Kd.C Kd.string w V vs.length vs) (hvc : vs.length ≤ cv) (hvn : vs.length < 9000000)
    (hy : Kd.C k71 w Y by_.length by_) (hyc : by_.length ≤ cy) (hyn : by_.length < 9000000) (h3 : y.f0 ≠ 3) :
    Calls Tryz.prog 66 #[formV 3 n s A l.length c, formV y.f0 y.f1 y.f2 B y.f3.length d, .slice V vs.length cv, .slice Y by_.length cy, .bool inner] w (MRPost w (eqM ⟨3, n, s, l⟩ y, by_)) := by
  have hu24 := Tryz.underlying24
  have hu71 := Tryz.underlying71
  obtain ⟨y0, y1, y2, y3⟩ := y
  obtain ⟨x1, x2, xb⟩ := boxes2 w (Obj.cells #[.int .i64 3, .int .i64 n, .string s, .slice A l.length c] 24) (Obj.cells #[.int .i64 y0, .int .i64 y1, .string y2, .slice B y3.length d] 24)
  have XB : Hid _ := xb
  have HAA : Hid _ := ha
  have HY : Hid _ := hy
  have HBB : Hid _ := hb
  have IW : Hid (∀ w1, Below w.heap.size w w1 → _) := fun w1 h1 => isWord_any ⟨3, n, s, l⟩ A c w1 (Kd.C_below ha h1) hac
  have EQ : Hid (∀ w1, Below w.heap.size w w1 → _) := fun w1 h1 => REqual_any ⟨3, n, s, l⟩ ⟨y0, y1, y2, y3⟩ A B c d w1 (Kd.C_below ha h1) hac (Kd.C_below hb h1) hbc haw hbw
  obtain ⟨q, hq⟩ : ∃ q, q = eqM ⟨3, n, s, l⟩ ⟨y0, y1, y2, y3⟩ := ⟨_, rfl⟩
  rw [← hq] at EQ ⊢
  have b3 : (y0 != 3) = true := bne_iff_ne.mpr h3
  clear xb ha hb hv hy haw hbw hq h3
  go_enter Tryz.func66, Tryz.ntmps66
  go_upto_region 1 with fail
  generalize (w.alloc (Obj.cells #[.int .i64 3, .int .i64 n, .string s, .slice A l.length c] 24)).alloc (Obj.cells #[.int .i64 y0, .int .i64 y1, .string y2, .slice B y3.length d] 24) = X at *
  have X1 : Hid _ := x1
  have X2 : Hid _ := x2
  obtain ⟨p0, p1, p2, p3⟩ := cells4 x1
  obtain ⟨q0, q1, q2, q3⟩ := cells4 x2
  generalize hbA : w.heap.size = bA at *
  generalize hbB : bA + 1 = bB at *
  clear x1 x2
  go_wp2_with fail
  refine Calls.mono (IW.out _ (by subst hbA; exact XB.out)) ?_
  rintro e w1 ⟨rfl, B1⟩
  have HB1 : Hid (Below X.heap.size X w1) := B1
  replace p0 := pw_cell_below B1 p0
  replace p1 := pw_cell_below B1 p1
  replace p2 := pw_cell_below B1 p2
  replace p3 := pw_cell_below B1 p3
  replace q0 := pw_cell_below B1 q0
  replace q1 := pw_cell_below B1 q1
  replace q2 := pw_cell_below B1 q2
  replace q3 := pw_cell_below B1 q3
  clear B1
  go_wp2_with fail
  refine Calls.mono (EQ.out _ (by subst hbA; exact below_after XB.out HB1.out)) ?_
  rintro e w9 ⟨rfl, B9⟩
  have HB9 : Hid (Below X.heap.size X w9) := below_after HB1.out B9
  clear B9
  go_wp2_with fail
  go_ret2
  have BB : Below w.heap.size w w9 := by subst hbA; exact below_after XB.out HB9.out
  exact ⟨Y, cy, rfl, hyc, Kd.C_below HY.out BB, BB⟩
set_option maxRecDepth 100000 in
set_option maxHeartbeats 8000000 in
theorem matched_len (vs : List ByteArray) (w : World) (by_ : List S71) (n : Int) (s : ByteArray) (l : List S24) (y : S24) (inner : Bool) (A B V Y : Option Addr) (c d cv cy : Nat)
    (ha : Kd.C k24 w A l.length l) (hac : l.length ≤ c) (haw : wid ⟨3, n, s, l⟩ < 9000000) (hb : Kd.C k24 w B y.f3.length y.f3) (hbc : y.f3.length ≤ d) (hbw : wid y < 9000000) (hv : Kd.C Kd.string w V vs.length vs) (hvc : vs.length ≤ cv) (hvn : vs.length < 9000000)
    (hy : Kd.C k71 w Y by_.length by_) (hyc : by_.length ≤ cy) (hyn : by_.length < 9000000) (h3 : y.f0 = 3) (hll : l.length ≠ y.f3.length) :
    Calls Tryz.prog 66 #[formV 3 n s A l.length c, formV y.f0 y.f1 y.f2 B y.f3.length d, .slice V vs.length cv, .slice Y by_.length cy, .bool inner] w (MRPost w (false, by_)) := by
  have hu24 := Tryz.underlying24
  have hu71 := Tryz.underlying71
  obtain ⟨y0, y1, y2, y3⟩ := y
  obtain ⟨x1, x2, xb⟩ := boxes2 w (Obj.cells #[.int .i64 3, .int .i64 n, .string s, .slice A l.length c] 24) (Obj.cells #[.int .i64 y0, .int .i64 y1, .string y2, .slice B y3.length d] 24)
  have XB : Hid _ := xb
  have HAA : Hid _ := ha
  have HY : Hid _ := hy
  have HBB : Hid _ := hb
  have IW : Hid (∀ w1, Below w.heap.size w w1 → _) := fun w1 h1 => isWord_any ⟨3, n, s, l⟩ A c w1 (Kd.C_below ha h1) hac
  have hln : l.length ≠ y3.length := hll
  have b3 : y0 = 3 := h3
  subst b3
  have en : ((l.length : Int) != (y3.length : Int)) = true := bne_iff_ne.mpr (by omega)
  clear xb ha hb hv hy haw hbw h3 hll hln
  go_enter Tryz.func66, Tryz.ntmps66
  go_upto_region 1 with fail
  generalize (w.alloc (Obj.cells #[.int .i64 3, .int .i64 n, .string s, .slice A l.length c] 24)).alloc (Obj.cells #[.int .i64 3, .int .i64 y1, .string y2, .slice B y3.length d] 24) = X at *
  have X1 : Hid _ := x1
  have X2 : Hid _ := x2
  obtain ⟨p0, p1, p2, p3⟩ := cells4 x1
  obtain ⟨q0, q1, q2, q3⟩ := cells4 x2
  generalize hbA : w.heap.size = bA at *
  generalize hbB : bA + 1 = bB at *
  clear x1 x2
  go_wp2_with fail
  refine Calls.mono (IW.out _ (by subst hbA; exact XB.out)) ?_
  rintro e w1 ⟨rfl, B1⟩
  have HB1 : Hid (Below X.heap.size X w1) := B1
  replace p0 := pw_cell_below B1 p0
  replace p1 := pw_cell_below B1 p1
  replace p2 := pw_cell_below B1 p2
  replace p3 := pw_cell_below B1 p3
  replace q0 := pw_cell_below B1 q0
  replace q1 := pw_cell_below B1 q1
  replace q2 := pw_cell_below B1 q2
  replace q3 := pw_cell_below B1 q3
  clear B1
  go_wp2_with fail
  go_ret2
  have BB : Below w.heap.size w w1 := by subst hbA; exact below_after XB.out HB1.out
  exact ⟨Y, cy, rfl, hyc, Kd.C_below HY.out BB, BB⟩
end Go.Proofs.YtcjmplpfebpfpaaGreatDoor

namespace Go.Proofs.YtcjmplpfebpfpaaGreatDoor
open Go.RowKit Go.Proofs Go.Proofs.YtcjmplpfebpfpaaGreatDoorW.PrintWords Go.Proofs.YtcjmplpfebpfpaaGreatDoorW.PrintLast Go.Proofs.YtcjmplpfebpfpaaGreatDoorW.PrintMore PKindInstances
set_option linter.unusedVariables false
set_option linter.unusedSimpArgs false

theorem heads_f (n : Int) (s : ByteArray) (l : List S24) (inner : Bool) : plinthref03_heads.f 3 n s l inner = some (!inner && hasHead l) := by
  cases inner with
  | true => simp [plinthref03_heads.f]
  | false =>
    cases l with
    | nil => simp [plinthref03_heads.f, hasHead]
    | cons k l =>
      have : rd_T24 (k :: l) 0 = k := rfl
      simp only [plinthref03_heads.f, plinthref03_isWord.f, this]
      rw [if_neg (by simp), if_pos trivial, if_pos (by simp only [List.length_cons]; omega), if_pos (by simp only [List.length_cons]; omega)]
      rfl
theorem isFun_f (n : Int) (s : ByteArray) (l : List S24) (i : Nat) (inner : Bool) {k : S24} (hk : l[i]? = some k) : plinthref03_isFun.f 3 n s l (i : Int) inner = some (!inner && isFunW (headL l) && decide (i = 1) && (k.f0 == 3)) := by
  unfold plinthref03_isFun.f
  rw [heads_f]
  have hi : i < l.length := (List.getElem?_eq_some_iff.1 hk).1
  cases inner with
  | true => simp
  | false =>
    cases l with
    | nil => simp at hi
    | cons k0 l =>
      have e0 : rd_T24 (k0 :: l) 0 = k0 := rfl
      simp only [Bool.not_false, Bool.true_and, Option.bind_some, hasHead, headL, e0]
      by_cases h1 : k0.f0 = 1
      · rw [if_pos h1, if_pos (by simp [h1])]
        by_cases h2 : i = 1
        · subst h2
          rw [if_pos (by omega), if_pos (by simp only [List.length_cons]; omega)]
          have e1 : rd_T24 (k0 :: l) 1 = k := rd_at (k := 1) hk
          by_cases h3 : k0.f2.toList = [102, 117, 110]
          · rw [if_pos h3, if_pos (by omega), e1]
            simp [isFunW, h3]
          · rw [if_neg h3]
            simp [isFunW, h3]
        · rw [if_neg (by omega)]
          simp [h2]
      · rw [if_neg h1, if_neg (by simp [h1])]
        simp [isFunW, bytes_toList']
theorem siz_pos (x : S24) : 0 < siz x := by obtain ⟨a, b, s, l⟩ := x; simp only [siz]; omega
theorem findM_mem {by_ : List S71} {s : ByteArray} {x : S24} (h : findM by_ s = some x) : ∃ p ∈ by_, p.f1 = x := by
  unfold findM at h
  split at h
  · cases h
  · induction by_ with
    | nil => cases h
    | cons p r ih =>
      simp only [lookR] at h
      split at h
      · exact ⟨p, List.mem_cons_self, Option.some.inj h⟩
      · obtain ⟨q, h1, h2⟩ := ih h
        exact ⟨q, List.mem_cons_of_mem _ h1, h2⟩
mutual
theorem mrM_grows (vs : List ByteArray) : ∀ (x y : S24) (b : Bool) (by_ : List S71) (N : Nat), (∀ p ∈ by_, wid p.f1 < N) → wid y < N → (∀ p ∈ (mrM vs x y b by_).2, wid p.f1 < N) ∧ (mrM vs x y b by_).2.length ≤ by_.length + siz x
  | ⟨a, n, s, l⟩, y, b, by_, N, h1, h2 => by
    simp only [mrM]
    have hp := siz_pos ⟨a, n, s, l⟩
    split
    · split
      · refine ⟨fun p hp => ?_, by simp only [List.length_append, List.length_cons, List.length_nil]; omega⟩
        rcases List.mem_append.1 hp with hp | hp
        · exact h1 p hp
        · obtain rfl := List.mem_singleton.1 hp; exact h2
      · exact ⟨h1, by simp only []; omega⟩
    · split
      · exact ⟨h1, by simp only []; omega⟩
      · split
        · exact ⟨h1, by simp only []; omega⟩
        · have h3 := wid_kids y
          have := mrL_grows vs (!b && isFunW (headL l)) (!b && (hasHead l || hasHead y.f3)) 0 l y.f3 by_ N h1 (fun z hz => by have := wid_mem hz; omega)
          refine ⟨this.1, ?_⟩
          have := this.2
          simp only [siz]
          omega
theorem mrL_grows (vs : List ByteArray) (fn hd : Bool) : ∀ (i : Nat) (la lb : List S24) (by_ : List S71) (N : Nat), (∀ p ∈ by_, wid p.f1 < N) → (∀ z ∈ lb, wid z < N) → (∀ p ∈ (mrL vs fn hd i la lb by_).2, wid p.f1 < N) ∧ (mrL vs fn hd i la lb by_).2.length ≤ by_.length + sizs la
  | i, [], lb, by_, N, h1, h2 => by simp only [mrL]; exact ⟨h1, by omega⟩
  | i, x :: la, [], by_, N, h1, h2 => by simp only [mrL]; exact ⟨h1, by omega⟩
  | i, x :: la, y :: lb, by_, N, h1, h2 => by
    simp only [mrL, sizs]
    have h3 := mrL_grows vs fn hd (i + 1) la lb by_ N h1 (fun z hz => h2 z (List.mem_cons_of_mem _ hz))
    have h4 := mrM_grows vs x y (fn && decide (i = 1) && (x.f0 == 3)) by_ N h1 (h2 y List.mem_cons_self)
    have h5 := mrL_grows vs fn hd (i + 1) la lb (mrM vs x y (fn && decide (i = 1) && (x.f0 == 3)) by_).2 N h4.1 (fun z hz => h2 z (List.mem_cons_of_mem _ hz))
    split
    · split
      · exact ⟨h3.1, by have := h3.2; omega⟩
      · exact ⟨h1, by simp only []; omega⟩
    · split
      · exact ⟨h5.1, by have := h5.2; have := h4.2; omega⟩
      · exact ⟨h4.1, by have := h4.2; simp only []; omega⟩
end
/-- What holds of the loop. -/
def MlRel (X : World) (vs : List ByteArray) (fn hd : Bool) (l m : List S24) (R : Bool × List S71) (k : Nat) (x3 x14 : Value) (wr : World) : Prop :=
  ∃ (i : Nat) (by2 : List S71) (Y2 : Option Addr) (cy2 : Nat), x14 = .int .i64 (i : Int) ∧ x3 = .slice Y2 by2.length cy2 ∧ by2.length ≤ cy2 ∧ k + i = l.length ∧ Below X.heap.size X wr ∧ Kd.C k71 wr Y2 by2.length by2 ∧
    by2.length + sizs (l.drop i) < 9000000 ∧ (∀ p ∈ by2, wid p.f1 < 9000000) ∧ mrL vs fn hd i (l.drop i) (m.drop i) by2 = R
set_option maxRecDepth 100000 in
set_option maxHeartbeats 16000000 in
theorem matched_list (vs : List ByteArray) (w : World) (by_ : List S71) (n : Int) (s : ByteArray) (l : List S24) (y : S24) (inner : Bool) (A B V Y : Option Addr) (c d cv cy : Nat)
    (ha : Kd.C k24 w A l.length l) (hac : l.length ≤ c) (haw : wid ⟨3, n, s, l⟩ < 9000000) (hb : Kd.C k24 w B y.f3.length y.f3) (hbc : y.f3.length ≤ d) (hbw : wid y < 9000000) (hv : Kd.C Kd.string w V vs.length vs) (hvc : vs.length ≤ cv) (hvn : vs.length < 9000000)
    (hy : Kd.C k71 w Y by_.length by_) (hyc : by_.length ≤ cy) (hyn : by_.length < 9000000) (h3 : y.f0 = 3) (hll : l.length = y.f3.length) (hyz : by_.length + sizs l < 9000000) (hpw : ∀ p ∈ by_, wid p.f1 < 9000000) (hq : ∀ x ∈ l, MROk vs x) :
    Calls Tryz.prog 66 #[formV 3 n s A l.length c, formV y.f0 y.f1 y.f2 B y.f3.length d, .slice V vs.length cv, .slice Y by_.length cy, .bool inner] w (MRPost w (mrL vs (!inner && isFunW (headL l)) (!inner && (hasHead l || hasHead y.f3)) 0 l y.f3 by_)) := by
  have hu24 := Tryz.underlying24
  have hu71 := Tryz.underlying71
  obtain ⟨y0, y1, y2, y3⟩ := y
  obtain ⟨x1, x2, xb⟩ := boxes2 w (Obj.cells #[.int .i64 3, .int .i64 n, .string s, .slice A l.length c] 24) (Obj.cells #[.int .i64 y0, .int .i64 y1, .string y2, .slice B y3.length d] 24)
  have XB : Hid _ := xb
  have HAA : Hid _ := ha
  have HY : Hid _ := hy
  have HBB : Hid _ := hb
  have IW : Hid (∀ w1, Below w.heap.size w w1 → _) := fun w1 h1 => isWord_any ⟨3, n, s, l⟩ A c w1 (Kd.C_below ha h1) hac
  have b3 : y0 = 3 := h3
  subst b3
  have hlm : l.length = y3.length := hll
  have en : ((l.length : Int) != (y3.length : Int)) = false := bne_eq_false_iff_eq.mpr (by omega)
  have hwl := wid_kids ⟨3, n, s, l⟩
  have hwm := wid_kids ⟨3, y1, y2, y3⟩
  simp only [] at hwl hwm hbc hb HBB
  have hw1 := wids_len l
  have hw2 := wids_len y3
  have HQ : Hid _ := hq
  have HPQ : Hid _ := hpw
  have HM : Hid (∀ y ∈ y3, wid y < 9000000) := fun y hy => by have := wid_mem hy; omega
  have HL : Hid (∀ x ∈ l, wid x < 9000000) := fun x hx => by have := wid_mem hx; omega
  have HVV : Hid _ := hv
  have HO1 : Hid (∀ w1, Below w.heap.size w w1 → _) := fun w1 h1 => plinthref03_heads.calls 3 n s A c l inner _ w1 (Kd.C_below ha h1) hac (heads_f n s l inner)
  have HO2 : Hid (∀ w1, Below w.heap.size w w1 → _) := fun w1 h1 => plinthref03_heads.calls 3 y1 y2 B d y3 inner _ w1 (Kd.C_below hb h1) hbc (heads_f y1 y2 y3 inner)
  obtain ⟨d1, hd1⟩ : ∃ d1, d1 = (!inner && hasHead l) := ⟨_, rfl⟩
  obtain ⟨d2, hd2⟩ : ∃ d2, d2 = (!inner && hasHead y3) := ⟨_, rfl⟩
  rw [← hd1] at HO1
  rw [← hd2] at HO2
  have hdd : (!inner && (hasHead l || hasHead y3)) = (d1 || d2) := by rw [hd1, hd2]; cases inner <;> simp
  obtain ⟨R, hR⟩ : ∃ R, R = mrL vs (!inner && isFunW (headL l)) (!inner && (hasHead l || hasHead y3)) 0 l y3 by_ := ⟨_, rfl⟩
  rw [← hR]
  rw [hdd] at hR
  have HLM : Hid _ := hlm
  have hln : l.length < 9000000 := by have := sizs_len l; omega
  clear xb ha hb hv hy haw hbw h3 hll hq hpw hwl hwm hd1 hd2 hdd hlm
  go_enter Tryz.func66, Tryz.ntmps66
  go_upto_region 1 with fail
  generalize (w.alloc (Obj.cells #[.int .i64 3, .int .i64 n, .string s, .slice A l.length c] 24)).alloc (Obj.cells #[.int .i64 3, .int .i64 y1, .string y2, .slice B y3.length d] 24) = X at *
  have X1 : Hid _ := x1
  have X2 : Hid _ := x2
  obtain ⟨p0, p1, p2, p3⟩ := cells4 x1
  obtain ⟨q0, q1, q2, q3⟩ := cells4 x2
  generalize hbA : w.heap.size = bA at *
  generalize hbB : bA + 1 = bB at *
  clear x1 x2
  go_wp2_with fail
  refine Calls.mono (IW.out _ (by subst hbA; exact XB.out)) ?_
  rintro e w1 ⟨rfl, B1⟩
  have HB1 : Hid (Below X.heap.size X w1) := B1
  replace p0 := pw_cell_below B1 p0
  replace p1 := pw_cell_below B1 p1
  replace p2 := pw_cell_below B1 p2
  replace p3 := pw_cell_below B1 p3
  replace q0 := pw_cell_below B1 q0
  replace q1 := pw_cell_below B1 q1
  replace q2 := pw_cell_below B1 q2
  replace q3 := pw_cell_below B1 q3
  clear B1
  have start : Hid (∀ W, Below X.heap.size X W → MlRel X vs (!inner && isFunW (headL l)) (d1 || d2) l y3 R l.length (.slice Y by_.length cy) (.int .i64 ((0 : Nat) : Int)) W) := fun W h => ⟨0, by_, Y, cy, rfl, rfl, hyc, rfl, h, Kd.C_below HY.out (by subst hbA; exact below_after XB.out h), by simpa using hyz, HPQ.out, hR.symm⟩
  have P0 : Hid _ := p0
  have P1 : Hid _ := p1
  have P2 : Hid _ := p2
  have P3 : Hid _ := p3
  have Q3 : Hid _ := q3
  clear hR
  go_wp2_with fail
  go_loopg [3, 14] l.length (fun k x3 x14 wr => MlRel X vs (!inner && isFunW (headL l)) (d1 || d2) l y3 R k x3 x14 wr)
  case atStart => exact start.out _ HB1.out
  case round =>
    clear start HB1 p0 p1 p2 p3 q0 q1 q2 q3
    obtain ⟨i, by2, Y2, cy2, rfl, rfl, hcy2, hki, hB0, hY2, hsz2, hW2', hV⟩ := hrel
    obtain ⟨p0, p1, p2, p3⟩ := cells4 (blk_below X1.out hB0)
    obtain ⟨q0, q1, q2, q3⟩ := cells4 (blk_below X2.out hB0)
    have HBL : Hid _ := hB0
    have HY2 : Hid _ := hY2
    have HW2 : Hid _ := hW2'
    have hBw : Hid (Below w.heap.size w wr) := (by subst hbA; exact below_after XB.out hB0)
    clear hB0 hY2 hW2'
    by_cases hlt : i < l.length
    · obtain ⟨g, rfl⟩ : ∃ g, gk = g + 1 := ⟨gk - 1, by omega⟩
      have e1 : decide (i < l.length) = true := decide_eq_true hlt
      obtain ⟨x, hx⟩ : ∃ x, l[i]? = some x := ⟨l[i]'(by omega), List.getElem?_eq_getElem _⟩
      obtain ⟨z, hz⟩ : ∃ z, y3[i]? = some z := ⟨y3[i]'(by have := HLM.out; omega), List.getElem?_eq_getElem _⟩
      have hxw := HL.out x (List.mem_of_getElem? hx)
      have hzw := HM.out z (List.mem_of_getElem? hz)
      obtain ⟨ad, A5, c5, rfl, g0, g1, g2, g3, g4, g5⟩ := row_at HAA.out (by omega) hx
      obtain ⟨ae, B5, d5, rfl, k0, k1, k2, k3, k4, k5⟩ := row_at HBB.out (by have := HLM.out; omega) hz
      rw [drop_at3 hx, drop_at3 hz] at hV
      rw [drop_at3 hx] at hsz2
      simp only [mrL] at hV
      simp only [sizs] at hsz2
      have MQ : Hid _ := HQ.out x (List.mem_of_getElem? hx)
      have SX : wid x < 9000000 := hxw
      have SY : wid z < 9000000 := hzw
      have hsx := siz_pos x
      have HAL : Hid (∀ wq, Below wr.heap.size wr wq → Kd.C k24 wq (some ad) l.length l) := fun wq h => Kd.C_below HAA.out (by subst hbA; exact below_after hBw.out h)
      have HVS : Hid (∀ wq, Below wr.heap.size wr wq → Kd.C Kd.string wq V vs.length vs) := fun wq h => Kd.C_below HVV.out (by subst hbA; exact below_after hBw.out h)
      have G5 : Hid (∀ wq, Below wr.heap.size wr wq → Kd.C k24 wq A5 x.f3.length x.f3) := fun wq h => Kd.C_below g5 (by subst hbA; exact below_after hBw.out h)
      have K5 : Hid (∀ wq, Below wr.heap.size wr wq → Kd.C k24 wq B5 z.f3.length z.f3) := fun wq h => Kd.C_below k5 (by subst hbA; exact below_after hBw.out h)
      have HO3 : Hid (∀ wq, Below wr.heap.size wr wq → _) := fun wq h => HO1.out wq (by subst hbA; exact below_after hBw.out h)
      have HO4 : Hid (∀ wq, Below wr.heap.size wr wq → _) := fun wq h => HO2.out wq (by subst hbA; exact below_after hBw.out h)
      clear hz g5 k5 hxw hzw
      obtain ⟨x0, x1, x2, x3⟩ := x
      obtain ⟨z0, z1, z2, z3⟩ := z
      simp only [] at g0 g1 g2 g3 g4 k0 k1 k2 k3 k4 G5 K5
      have HF : Hid (∀ W : World, Below wr.heap.size wr W → (W.cell? ⟨bA, 0, none⟩ = some (.int .i64 3) ∧ W.cell? ⟨bA, 1, none⟩ = some (.int .i64 n) ∧ W.cell? ⟨bA, 2, none⟩ = some (.string s) ∧ W.cell? ⟨bA, 3, none⟩ = some (.slice (some ad) l.length c)) ∧ W.cell? ⟨bB, 3, none⟩ = some (.slice (some ae) y3.length d) ∧ (W.cell? (ad.add (i * 4)) = some (.int .i64 x0) ∧ W.cell? ⟨(ad.add (i * 4)).block, (ad.add (i * 4)).off + 1, none⟩ = some (.int .i64 x1) ∧ W.cell? ⟨(ad.add (i * 4)).block, (ad.add (i * 4)).off + 2, none⟩ = some (.string x2) ∧ W.cell? ⟨(ad.add (i * 4)).block, (ad.add (i * 4)).off + 3, none⟩ = some (.slice A5 x3.length c5)) ∧ (W.cell? (ae.add (i * 4)) = some (.int .i64 z0) ∧ W.cell? ⟨(ae.add (i * 4)).block, (ae.add (i * 4)).off + 1, none⟩ = some (.int .i64 z1) ∧ W.cell? ⟨(ae.add (i * 4)).block, (ae.add (i * 4)).off + 2, none⟩ = some (.string z2) ∧ W.cell? ⟨(ae.add (i * 4)).block, (ae.add (i * 4)).off + 3, none⟩ = some (.slice B5 z3.length d5))) := by
        intro W h
        have hW : Below w.heap.size w W := by subst hbA; exact below_after hBw.out h
        exact ⟨⟨pw_cell_below h p0, pw_cell_below h p1, pw_cell_below h p2, pw_cell_below h p3⟩, pw_cell_below h q3, ⟨pw_cell_below hW g0, pw_cell_below hW g1, pw_cell_below hW g2, pw_cell_below hW g3⟩, pw_cell_below hW k0, pw_cell_below hW k1, pw_cell_below hW k2, pw_cell_below hW k3⟩
      clear g0 g1 g2 g3 k0 k1 k2 k3
      by_cases hi : i = 0
      · have hi2 : ((i : Int) == 0) = true := beq_iff_eq.mpr (by omega)
        have hla0 : l ≠ [] := by intro h; rw [h] at hlt; simp at hlt
        have hlm0 : y3 ≠ [] := by intro h; have hlm := HLM.out; rw [h] at hlm; rw [hlm] at hlt; simp at hlt
        have hla1 : decide (0 < l.length) = true := decide_eq_true (by omega)
        have hlm1 : decide (0 < y3.length) = true := decide_eq_true (by have := HLM.out; omega)
        have hltm : i < y3.length := by have := HLM.out; omega
        cases d1 with
        | true =>
          go_wp2_with fail
          refine Calls.mono (HO3.out _ (Below.refl _ _)) ?_
          rintro e w2 ⟨rfl, B2⟩
          have HB2 : Hid (Below wr.heap.size wr w2) := below_after (Below.refl _ _) B2
          replace p0 := pw_cell_below B2 p0
          replace p1 := pw_cell_below B2 p1
          replace p2 := pw_cell_below B2 p2
          replace p3 := pw_cell_below B2 p3
          replace q0 := pw_cell_below B2 q0
          replace q1 := pw_cell_below B2 q1
          replace q2 := pw_cell_below B2 q2
          replace q3 := pw_cell_below B2 q3
          clear B2
          go_upto_region 14 with fail
          clear p0 p1 p2 p3 q0 q1 q2 q3
          have HF2 : Hid (∀ W : World, Below wr.heap.size wr W → (W.cell? ⟨bA, 0, none⟩ = some (.int .i64 3) ∧ W.cell? ⟨bA, 1, none⟩ = some (.int .i64 n) ∧ W.cell? ⟨bA, 2, none⟩ = some (.string s) ∧ W.cell? ⟨bA, 3, none⟩ = some (.slice (some ad) l.length c)) ∧ W.cell? ⟨bB, 3, none⟩ = some (.slice (some ae) y3.length d) ∧ (W.cell? ad = some (.int .i64 x0) ∧ W.cell? ⟨ad.block, ad.off + 1, none⟩ = some (.int .i64 x1) ∧ W.cell? ⟨ad.block, ad.off + 2, none⟩ = some (.string x2) ∧ W.cell? ⟨ad.block, ad.off + 3, none⟩ = some (.slice A5 x3.length c5)) ∧ (W.cell? ae = some (.int .i64 z0) ∧ W.cell? ⟨ae.block, ae.off + 1, none⟩ = some (.int .i64 z1) ∧ W.cell? ⟨ae.block, ae.off + 2, none⟩ = some (.string z2) ∧ W.cell? ⟨ae.block, ae.off + 3, none⟩ = some (.slice B5 z3.length d5))) := by
            have e0 : ad.add (i * 4) = ad := by rw [hi]; exact add_none ad
            have e9 : ae.add (i * 4) = ae := by rw [hi]; exact add_none ae
            intro W h
            have := HF.out W h
            rw [e0, e9] at this
            exact this
          have EQ : Hid (∀ wq, Below wr.heap.size wr wq → _) := fun wq hwq => REqual_any ⟨x0, x1, x2, x3⟩ ⟨z0, z1, z2, z3⟩ A5 B5 c5 d5 wq (G5.out _ hwq) g4 (K5.out _ hwq) k4 SX SY
          obtain ⟨q1, hq1⟩ : ∃ q1, q1 = eqM ⟨x0, x1, x2, x3⟩ ⟨z0, z1, z2, z3⟩ := ⟨_, rfl⟩
          rw [if_pos ⟨hi, rfl⟩, ← hq1] at hV
          rw [← hq1] at EQ
          have HI : Hid (i = 0) := hi
          clear hq1 hi
          refine wp_region_held_drew (S := fun W => (W.cell? ⟨bA, 0, none⟩ = some (.int .i64 3) ∧ W.cell? ⟨bA, 1, none⟩ = some (.int .i64 n) ∧ W.cell? ⟨bA, 2, none⟩ = some (.string s) ∧ W.cell? ⟨bA, 3, none⟩ = some (.slice (some ad) l.length c)) ∧ W.cell? ⟨bB, 3, none⟩ = some (.slice (some ae) y3.length d) ∧ (W.cell? ad = some (.int .i64 x0) ∧ W.cell? ⟨ad.block, ad.off + 1, none⟩ = some (.int .i64 x1) ∧ W.cell? ⟨ad.block, ad.off + 2, none⟩ = some (.string x2) ∧ W.cell? ⟨ad.block, ad.off + 3, none⟩ = some (.slice A5 x3.length c5)) ∧ (W.cell? ae = some (.int .i64 z0) ∧ W.cell? ⟨ae.block, ae.off + 1, none⟩ = some (.int .i64 z1) ∧ W.cell? ⟨ae.block, ae.off + 2, none⟩ = some (.string z2) ∧ W.cell? ⟨ae.block, ae.off + 3, none⟩ = some (.slice B5 z3.length d5))) (by kernel_rfl) (HF2.out _ (below_drew HB2.out)) (fun hHeld => ?_)
          refine takeV 0 (some 90) (.pointer (some ⟨bA, 3, none⟩)) rfl rfl (by kernel_rfl) (by kernel_rfl) (by kernel_rfl) (fun _ _ _ h => h) (Or.inl ⟨by kernel_rfl, fun W hSw => by obtain ⟨⟨o0, o1, o2, o3⟩, s1, ⟨t0, t1, t2, t3⟩, u0, u1, u2, u3⟩ := hSw; go_simp⟩) hHeld ?_
          try simp only [Act.put, List.setIfInBounds_toArray, List.set_cons_zero, List.set_cons_succ]
          refine takeV 1 (some 91) (.slice (some ad) l.length c) rfl rfl (by kernel_rfl) (by kernel_rfl) (by kernel_rfl) (fun _ _ _ h => h) (Or.inl ⟨by kernel_rfl, fun W hSw => by obtain ⟨⟨o0, o1, o2, o3⟩, s1, ⟨t0, t1, t2, t3⟩, u0, u1, u2, u3⟩ := hSw; go_simp⟩) hHeld ?_
          try simp only [Act.put, List.setIfInBounds_toArray, List.set_cons_zero, List.set_cons_succ]
          refine takeV 2 (some 92) (.pointer (some ad)) rfl rfl (by kernel_rfl) (by kernel_rfl) (by kernel_rfl) (fun _ _ _ h => h) (Or.inl ⟨by kernel_rfl, fun W hSw => by obtain ⟨⟨o0, o1, o2, o3⟩, s1, ⟨t0, t1, t2, t3⟩, u0, u1, u2, u3⟩ := hSw; go_simp; first | done | (intro h9; exact absurd h9 hla0) | (intro h9; exact absurd h9 hlm0) | (intro h9; exact absurd h9 (by omega))⟩) hHeld ?_
          try simp only [Act.put, List.setIfInBounds_toArray, List.set_cons_zero, List.set_cons_succ]
          refine takeV 3 (some 93) (formV x0 x1 x2 A5 x3.length c5) rfl rfl (by kernel_rfl) (by kernel_rfl) (by kernel_rfl) (fun _ _ _ h => h) (Or.inl ⟨by kernel_rfl, fun W hSw => by obtain ⟨⟨o0, o1, o2, o3⟩, s1, ⟨t0, t1, t2, t3⟩, u0, u1, u2, u3⟩ := hSw; go_simp⟩) hHeld ?_
          try simp only [Act.put, List.setIfInBounds_toArray, List.set_cons_zero, List.set_cons_succ]
          refine takeV 4 (some 94) (.pointer (some ⟨bB, 3, none⟩)) rfl rfl (by kernel_rfl) (by kernel_rfl) (by kernel_rfl) (fun _ _ _ h => h) (Or.inl ⟨by kernel_rfl, fun W hSw => by obtain ⟨⟨o0, o1, o2, o3⟩, s1, ⟨t0, t1, t2, t3⟩, u0, u1, u2, u3⟩ := hSw; go_simp⟩) hHeld ?_
          try simp only [Act.put, List.setIfInBounds_toArray, List.set_cons_zero, List.set_cons_succ]
          refine takeV 5 (some 95) (.slice (some ae) y3.length d) rfl rfl (by kernel_rfl) (by kernel_rfl) (by kernel_rfl) (fun _ _ _ h => h) (Or.inl ⟨by kernel_rfl, fun W hSw => by obtain ⟨⟨o0, o1, o2, o3⟩, s1, ⟨t0, t1, t2, t3⟩, u0, u1, u2, u3⟩ := hSw; go_simp⟩) hHeld ?_
          try simp only [Act.put, List.setIfInBounds_toArray, List.set_cons_zero, List.set_cons_succ]
          refine takeV 6 (some 96) (.pointer (some ae)) rfl rfl (by kernel_rfl) (by kernel_rfl) (by kernel_rfl) (fun _ _ _ h => h) (Or.inl ⟨by kernel_rfl, fun W hSw => by obtain ⟨⟨o0, o1, o2, o3⟩, s1, ⟨t0, t1, t2, t3⟩, u0, u1, u2, u3⟩ := hSw; go_simp; first | done | (intro h9; exact absurd h9 hla0) | (intro h9; exact absurd h9 hlm0) | (intro h9; exact absurd h9 (by omega))⟩) hHeld ?_
          try simp only [Act.put, List.setIfInBounds_toArray, List.set_cons_zero, List.set_cons_succ]
          refine takeV 7 (some 97) (formV z0 z1 z2 B5 z3.length d5) rfl rfl (by kernel_rfl) (by kernel_rfl) (by kernel_rfl) (fun _ _ _ h => h) (Or.inl ⟨by kernel_rfl, fun W hSw => by obtain ⟨⟨o0, o1, o2, o3⟩, s1, ⟨t0, t1, t2, t3⟩, u0, u1, u2, u3⟩ := hSw; go_simp⟩) hHeld ?_
          try simp only [Act.put, List.setIfInBounds_toArray, List.set_cons_zero, List.set_cons_succ]
          refine wpAnyH_ready (rs := [8]) (by kernel_rfl) (by simp) ?_
          refine AllReadyH.cons rfl (fun K hK => ?_) AllReadyH.nil
          clear hHeld
          go_simp
          go_at_call 11
          refine Calls.mono (EQ.out _ (below_drew HB2.out)) ?_
          rintro e w6 ⟨rfl, B6⟩
          have HB6 : Hid (Below wr.heap.size wr w6) := below_after (below_drew HB2.out) B6
          have HSn := HF2.out _ HB6.out
          clear B6
          cases q1 with
          | true =>
            simp only [if_true] at hV
            have HV9 : Hid _ := hV
            clear hV
            go_wp2_with fail
            refine hK.out _ _ HSn (fun hHeld => ?_)
            clear hK K
            try simp only [Act.put, List.setIfInBounds_toArray, List.set_cons_zero, List.set_cons_succ]
            clear HSn
            refine takeV 9 (some 99) (.bool false) rfl rfl (by kernel_rfl) (by kernel_rfl) (by kernel_rfl) (fun _ _ _ h => h) (Or.inl ⟨by kernel_rfl, fun W hSw => by go_simp⟩) hHeld ?_
            try simp only [Act.put, List.setIfInBounds_toArray, List.set_cons_zero, List.set_cons_succ]
            refine wpAnyH_done (by kernel_rfl) ?_ _
            go_wp2_with fail
            go_roundg g
            case measure => omega
            case rel => exact ⟨i + 1, by2, Y2, cy2, by first | (have := HI.out; go_num) | (have hi := HI.out; subst hi; first | rfl | go_num), rfl, hcy2, by omega, below_after HBL.out HB6.out, Kd.C_below HY2.out HB6.out, by omega, HW2.out, HV9.out⟩
          | false =>
            simp only [Bool.false_eq_true, if_false] at hV
            subst hV
            go_wp2_with fail
            refine hK.out _ _ HSn (fun hHeld => ?_)
            clear hK K
            try simp only [Act.put, List.setIfInBounds_toArray, List.set_cons_zero, List.set_cons_succ]
            clear HSn
            refine takeV 9 (some 99) (.bool true) rfl rfl (by kernel_rfl) (by kernel_rfl) (by kernel_rfl) (fun _ _ _ h => h) (Or.inl ⟨by kernel_rfl, fun W hSw => by go_simp⟩) hHeld ?_
            try simp only [Act.put, List.setIfInBounds_toArray, List.set_cons_zero, List.set_cons_succ]
            refine wpAnyH_done (by kernel_rfl) ?_ _
            go_wp2_with fail
            go_ret2
            have BB := below_after HBL.out HB6.out
            exact ⟨Y2, cy2, rfl, hcy2, Kd.C_below HY2.out HB6.out, by subst hbA; exact below_after XB.out BB⟩
        | false =>
          cases d2 with
          | true =>
            go_wp2_with fail
            refine Calls.mono (HO3.out _ (Below.refl _ _)) ?_
            rintro e w2 ⟨rfl, B2⟩
            have HB2 : Hid (Below wr.heap.size wr w2) := below_after (Below.refl _ _) B2
            replace p0 := pw_cell_below B2 p0
            replace p1 := pw_cell_below B2 p1
            replace p2 := pw_cell_below B2 p2
            replace p3 := pw_cell_below B2 p3
            replace q0 := pw_cell_below B2 q0
            replace q1 := pw_cell_below B2 q1
            replace q2 := pw_cell_below B2 q2
            replace q3 := pw_cell_below B2 q3
            clear B2
            go_wp2_with fail
            refine Calls.mono (HO4.out _ HB2.out) ?_
            rintro e w3 ⟨rfl, B3⟩
            have HB3 : Hid (Below wr.heap.size wr w3) := below_after HB2.out B3
            replace p0 := pw_cell_below B3 p0
            replace p1 := pw_cell_below B3 p1
            replace p2 := pw_cell_below B3 p2
            replace p3 := pw_cell_below B3 p3
            replace q0 := pw_cell_below B3 q0
            replace q1 := pw_cell_below B3 q1
            replace q2 := pw_cell_below B3 q2
            replace q3 := pw_cell_below B3 q3
            clear B3
            go_upto_region 14 with fail
            clear p0 p1 p2 p3 q0 q1 q2 q3
            have HF2 : Hid (∀ W : World, Below wr.heap.size wr W → (W.cell? ⟨bA, 0, none⟩ = some (.int .i64 3) ∧ W.cell? ⟨bA, 1, none⟩ = some (.int .i64 n) ∧ W.cell? ⟨bA, 2, none⟩ = some (.string s) ∧ W.cell? ⟨bA, 3, none⟩ = some (.slice (some ad) l.length c)) ∧ W.cell? ⟨bB, 3, none⟩ = some (.slice (some ae) y3.length d) ∧ (W.cell? ad = some (.int .i64 x0) ∧ W.cell? ⟨ad.block, ad.off + 1, none⟩ = some (.int .i64 x1) ∧ W.cell? ⟨ad.block, ad.off + 2, none⟩ = some (.string x2) ∧ W.cell? ⟨ad.block, ad.off + 3, none⟩ = some (.slice A5 x3.length c5)) ∧ (W.cell? ae = some (.int .i64 z0) ∧ W.cell? ⟨ae.block, ae.off + 1, none⟩ = some (.int .i64 z1) ∧ W.cell? ⟨ae.block, ae.off + 2, none⟩ = some (.string z2) ∧ W.cell? ⟨ae.block, ae.off + 3, none⟩ = some (.slice B5 z3.length d5))) := by
              have e0 : ad.add (i * 4) = ad := by rw [hi]; exact add_none ad
              have e9 : ae.add (i * 4) = ae := by rw [hi]; exact add_none ae
              intro W h
              have := HF.out W h
              rw [e0, e9] at this
              exact this
            have EQ : Hid (∀ wq, Below wr.heap.size wr wq → _) := fun wq hwq => REqual_any ⟨x0, x1, x2, x3⟩ ⟨z0, z1, z2, z3⟩ A5 B5 c5 d5 wq (G5.out _ hwq) g4 (K5.out _ hwq) k4 SX SY
            obtain ⟨q1, hq1⟩ : ∃ q1, q1 = eqM ⟨x0, x1, x2, x3⟩ ⟨z0, z1, z2, z3⟩ := ⟨_, rfl⟩
            rw [if_pos ⟨hi, rfl⟩, ← hq1] at hV
            rw [← hq1] at EQ
            have HI : Hid (i = 0) := hi
            clear hq1 hi
            refine wp_region_held_drew (S := fun W => (W.cell? ⟨bA, 0, none⟩ = some (.int .i64 3) ∧ W.cell? ⟨bA, 1, none⟩ = some (.int .i64 n) ∧ W.cell? ⟨bA, 2, none⟩ = some (.string s) ∧ W.cell? ⟨bA, 3, none⟩ = some (.slice (some ad) l.length c)) ∧ W.cell? ⟨bB, 3, none⟩ = some (.slice (some ae) y3.length d) ∧ (W.cell? ad = some (.int .i64 x0) ∧ W.cell? ⟨ad.block, ad.off + 1, none⟩ = some (.int .i64 x1) ∧ W.cell? ⟨ad.block, ad.off + 2, none⟩ = some (.string x2) ∧ W.cell? ⟨ad.block, ad.off + 3, none⟩ = some (.slice A5 x3.length c5)) ∧ (W.cell? ae = some (.int .i64 z0) ∧ W.cell? ⟨ae.block, ae.off + 1, none⟩ = some (.int .i64 z1) ∧ W.cell? ⟨ae.block, ae.off + 2, none⟩ = some (.string z2) ∧ W.cell? ⟨ae.block, ae.off + 3, none⟩ = some (.slice B5 z3.length d5))) (by kernel_rfl) (HF2.out _ (below_drew HB3.out)) (fun hHeld => ?_)
            refine takeV 0 (some 90) (.pointer (some ⟨bA, 3, none⟩)) rfl rfl (by kernel_rfl) (by kernel_rfl) (by kernel_rfl) (fun _ _ _ h => h) (Or.inl ⟨by kernel_rfl, fun W hSw => by obtain ⟨⟨o0, o1, o2, o3⟩, s1, ⟨t0, t1, t2, t3⟩, u0, u1, u2, u3⟩ := hSw; go_simp⟩) hHeld ?_
            try simp only [Act.put, List.setIfInBounds_toArray, List.set_cons_zero, List.set_cons_succ]
            refine takeV 1 (some 91) (.slice (some ad) l.length c) rfl rfl (by kernel_rfl) (by kernel_rfl) (by kernel_rfl) (fun _ _ _ h => h) (Or.inl ⟨by kernel_rfl, fun W hSw => by obtain ⟨⟨o0, o1, o2, o3⟩, s1, ⟨t0, t1, t2, t3⟩, u0, u1, u2, u3⟩ := hSw; go_simp⟩) hHeld ?_
            try simp only [Act.put, List.setIfInBounds_toArray, List.set_cons_zero, List.set_cons_succ]
            refine takeV 2 (some 92) (.pointer (some ad)) rfl rfl (by kernel_rfl) (by kernel_rfl) (by kernel_rfl) (fun _ _ _ h => h) (Or.inl ⟨by kernel_rfl, fun W hSw => by obtain ⟨⟨o0, o1, o2, o3⟩, s1, ⟨t0, t1, t2, t3⟩, u0, u1, u2, u3⟩ := hSw; go_simp; first | done | (intro h9; exact absurd h9 hla0) | (intro h9; exact absurd h9 hlm0) | (intro h9; exact absurd h9 (by omega))⟩) hHeld ?_
            try simp only [Act.put, List.setIfInBounds_toArray, List.set_cons_zero, List.set_cons_succ]
            refine takeV 3 (some 93) (formV x0 x1 x2 A5 x3.length c5) rfl rfl (by kernel_rfl) (by kernel_rfl) (by kernel_rfl) (fun _ _ _ h => h) (Or.inl ⟨by kernel_rfl, fun W hSw => by obtain ⟨⟨o0, o1, o2, o3⟩, s1, ⟨t0, t1, t2, t3⟩, u0, u1, u2, u3⟩ := hSw; go_simp⟩) hHeld ?_
            try simp only [Act.put, List.setIfInBounds_toArray, List.set_cons_zero, List.set_cons_succ]
            refine takeV 4 (some 94) (.pointer (some ⟨bB, 3, none⟩)) rfl rfl (by kernel_rfl) (by kernel_rfl) (by kernel_rfl) (fun _ _ _ h => h) (Or.inl ⟨by kernel_rfl, fun W hSw => by obtain ⟨⟨o0, o1, o2, o3⟩, s1, ⟨t0, t1, t2, t3⟩, u0, u1, u2, u3⟩ := hSw; go_simp⟩) hHeld ?_
            try simp only [Act.put, List.setIfInBounds_toArray, List.set_cons_zero, List.set_cons_succ]
            refine takeV 5 (some 95) (.slice (some ae) y3.length d) rfl rfl (by kernel_rfl) (by kernel_rfl) (by kernel_rfl) (fun _ _ _ h => h) (Or.inl ⟨by kernel_rfl, fun W hSw => by obtain ⟨⟨o0, o1, o2, o3⟩, s1, ⟨t0, t1, t2, t3⟩, u0, u1, u2, u3⟩ := hSw; go_simp⟩) hHeld ?_
            try simp only [Act.put, List.setIfInBounds_toArray, List.set_cons_zero, List.set_cons_succ]
            refine takeV 6 (some 96) (.pointer (some ae)) rfl rfl (by kernel_rfl) (by kernel_rfl) (by kernel_rfl) (fun _ _ _ h => h) (Or.inl ⟨by kernel_rfl, fun W hSw => by obtain ⟨⟨o0, o1, o2, o3⟩, s1, ⟨t0, t1, t2, t3⟩, u0, u1, u2, u3⟩ := hSw; go_simp; first | done | (intro h9; exact absurd h9 hla0) | (intro h9; exact absurd h9 hlm0) | (intro h9; exact absurd h9 (by omega))⟩) hHeld ?_
            try simp only [Act.put, List.setIfInBounds_toArray, List.set_cons_zero, List.set_cons_succ]
            refine takeV 7 (some 97) (formV z0 z1 z2 B5 z3.length d5) rfl rfl (by kernel_rfl) (by kernel_rfl) (by kernel_rfl) (fun _ _ _ h => h) (Or.inl ⟨by kernel_rfl, fun W hSw => by obtain ⟨⟨o0, o1, o2, o3⟩, s1, ⟨t0, t1, t2, t3⟩, u0, u1, u2, u3⟩ := hSw; go_simp⟩) hHeld ?_
            try simp only [Act.put, List.setIfInBounds_toArray, List.set_cons_zero, List.set_cons_succ]
            refine wpAnyH_ready (rs := [8]) (by kernel_rfl) (by simp) ?_
            refine AllReadyH.cons rfl (fun K hK => ?_) AllReadyH.nil
            clear hHeld
            go_simp
            go_at_call 11
            refine Calls.mono (EQ.out _ (below_drew HB3.out)) ?_
            rintro e w6 ⟨rfl, B6⟩
            have HB6 : Hid (Below wr.heap.size wr w6) := below_after (below_drew HB3.out) B6
            have HSn := HF2.out _ HB6.out
            clear B6
            cases q1 with
            | true =>
              simp only [if_true] at hV
              have HV9 : Hid _ := hV
              clear hV
              go_wp2_with fail
              refine hK.out _ _ HSn (fun hHeld => ?_)
              clear hK K
              try simp only [Act.put, List.setIfInBounds_toArray, List.set_cons_zero, List.set_cons_succ]
              clear HSn
              refine takeV 9 (some 99) (.bool false) rfl rfl (by kernel_rfl) (by kernel_rfl) (by kernel_rfl) (fun _ _ _ h => h) (Or.inl ⟨by kernel_rfl, fun W hSw => by go_simp⟩) hHeld ?_
              try simp only [Act.put, List.setIfInBounds_toArray, List.set_cons_zero, List.set_cons_succ]
              refine wpAnyH_done (by kernel_rfl) ?_ _
              go_wp2_with fail
              go_roundg g
              case measure => omega
              case rel => exact ⟨i + 1, by2, Y2, cy2, by first | (have := HI.out; go_num) | (have hi := HI.out; subst hi; first | rfl | go_num), rfl, hcy2, by omega, below_after HBL.out HB6.out, Kd.C_below HY2.out HB6.out, by omega, HW2.out, HV9.out⟩
            | false =>
              simp only [Bool.false_eq_true, if_false] at hV
              subst hV
              go_wp2_with fail
              refine hK.out _ _ HSn (fun hHeld => ?_)
              clear hK K
              try simp only [Act.put, List.setIfInBounds_toArray, List.set_cons_zero, List.set_cons_succ]
              clear HSn
              refine takeV 9 (some 99) (.bool true) rfl rfl (by kernel_rfl) (by kernel_rfl) (by kernel_rfl) (fun _ _ _ h => h) (Or.inl ⟨by kernel_rfl, fun W hSw => by go_simp⟩) hHeld ?_
              try simp only [Act.put, List.setIfInBounds_toArray, List.set_cons_zero, List.set_cons_succ]
              refine wpAnyH_done (by kernel_rfl) ?_ _
              go_wp2_with fail
              go_ret2
              have BB := below_after HBL.out HB6.out
              exact ⟨Y2, cy2, rfl, hcy2, Kd.C_below HY2.out HB6.out, by subst hbA; exact below_after XB.out BB⟩
          | false =>
            rw [if_neg (by simp)] at hV
            have HI : Hid (i = 0) := hi
            clear hi
            go_wp2_with fail
            refine Calls.mono (HO3.out _ (Below.refl _ _)) ?_
            rintro e w2 ⟨rfl, B2⟩
            have HB2 : Hid (Below wr.heap.size wr w2) := below_after (Below.refl _ _) B2
            replace p0 := pw_cell_below B2 p0
            replace p1 := pw_cell_below B2 p1
            replace p2 := pw_cell_below B2 p2
            replace p3 := pw_cell_below B2 p3
            replace q0 := pw_cell_below B2 q0
            replace q1 := pw_cell_below B2 q1
            replace q2 := pw_cell_below B2 q2
            replace q3 := pw_cell_below B2 q3
            clear B2
            go_wp2_with fail
            refine Calls.mono (HO4.out _ HB2.out) ?_
            rintro e w3 ⟨rfl, B3⟩
            have HB3 : Hid (Below wr.heap.size wr w3) := below_after HB2.out B3
            replace p0 := pw_cell_below B3 p0
            replace p1 := pw_cell_below B3 p1
            replace p2 := pw_cell_below B3 p2
            replace p3 := pw_cell_below B3 p3
            replace q0 := pw_cell_below B3 q0
            replace q1 := pw_cell_below B3 q1
            replace q2 := pw_cell_below B3 q2
            replace q3 := pw_cell_below B3 q3
            clear B3
            obtain ⟨b, hb⟩ : ∃ b, b = (!inner && isFunW (headL l) && decide (i = 1) && (x0 == 3)) := ⟨_, rfl⟩
            have IF : Hid (∀ wq, Below wr.heap.size wr wq → _) := fun wq hwq => plinthref03_isFun.calls 3 n s (some ad) c l (i : Int) inner _ wq (HAL.out _ hwq) hac (isFun_f n s l i inner hx)
            rw [show (⟨x0, x1, x2, x3⟩ : S24).f0 = x0 from rfl, ← hb] at IF
            rw [← hb] at hV
            have MM : Hid (∀ wq, Below wr.heap.size wr wq → _) := fun wq hwq => MQ.out wq by2 ⟨z0, z1, z2, z3⟩ b A5 B5 V Y2 c5 d5 cv cy2 (G5.out _ hwq) g4 SX (K5.out _ hwq) k4 SY (HVS.out _ hwq) hvc hvn (Kd.C_below HY2.out hwq) hcy2 (by omega) HW2.out
            have GR := mrM_grows vs ⟨x0, x1, x2, x3⟩ ⟨z0, z1, z2, z3⟩ b by2 9000000 HW2.out SY
            obtain ⟨Q, hQ⟩ : ∃ Q, Q = mrM vs ⟨x0, x1, x2, x3⟩ ⟨z0, z1, z2, z3⟩ b by2 := ⟨_, rfl⟩
            rw [← hQ] at MM hV GR
            clear hQ MQ hb hx
            obtain ⟨qq, by3⟩ := Q
            simp only [] at hV GR
            have GR2 : Hid _ := GR.1
            have gr3 := GR.2
            clear GR
            go_upto_region 17 with fail
            clear p0 p1 p2 p3 q0 q1 q2 q3
            refine wp_region_held_drew (S := fun W => (W.cell? ⟨bA, 0, none⟩ = some (.int .i64 3) ∧ W.cell? ⟨bA, 1, none⟩ = some (.int .i64 n) ∧ W.cell? ⟨bA, 2, none⟩ = some (.string s) ∧ W.cell? ⟨bA, 3, none⟩ = some (.slice (some ad) l.length c)) ∧ W.cell? ⟨bB, 3, none⟩ = some (.slice (some ae) y3.length d) ∧ (W.cell? (ad.add (i * 4)) = some (.int .i64 x0) ∧ W.cell? ⟨(ad.add (i * 4)).block, (ad.add (i * 4)).off + 1, none⟩ = some (.int .i64 x1) ∧ W.cell? ⟨(ad.add (i * 4)).block, (ad.add (i * 4)).off + 2, none⟩ = some (.string x2) ∧ W.cell? ⟨(ad.add (i * 4)).block, (ad.add (i * 4)).off + 3, none⟩ = some (.slice A5 x3.length c5)) ∧ (W.cell? (ae.add (i * 4)) = some (.int .i64 z0) ∧ W.cell? ⟨(ae.add (i * 4)).block, (ae.add (i * 4)).off + 1, none⟩ = some (.int .i64 z1) ∧ W.cell? ⟨(ae.add (i * 4)).block, (ae.add (i * 4)).off + 2, none⟩ = some (.string z2) ∧ W.cell? ⟨(ae.add (i * 4)).block, (ae.add (i * 4)).off + 3, none⟩ = some (.slice B5 z3.length d5))) (by kernel_rfl) (HF.out _ (below_drew HB3.out)) (fun hHeld => ?_)
            refine takeV 0 (some 102) (.pointer (some ⟨bA, 3, none⟩)) rfl rfl (by kernel_rfl) (by kernel_rfl) (by kernel_rfl) (fun _ _ _ h => h) (Or.inl ⟨by kernel_rfl, fun W hSw => by obtain ⟨⟨o0, o1, o2, o3⟩, s1, ⟨t0, t1, t2, t3⟩, u0, u1, u2, u3⟩ := hSw; go_simp⟩) hHeld ?_
            try simp only [Act.put, List.setIfInBounds_toArray, List.set_cons_zero, List.set_cons_succ]
            refine takeV 1 (some 103) (.slice (some ad) l.length c) rfl rfl (by kernel_rfl) (by kernel_rfl) (by kernel_rfl) (fun _ _ _ h => h) (Or.inl ⟨by kernel_rfl, fun W hSw => by obtain ⟨⟨o0, o1, o2, o3⟩, s1, ⟨t0, t1, t2, t3⟩, u0, u1, u2, u3⟩ := hSw; go_simp⟩) hHeld ?_
            try simp only [Act.put, List.setIfInBounds_toArray, List.set_cons_zero, List.set_cons_succ]
            refine takeV 2 (some 104) (.int .i64 (i : Int)) rfl rfl (by kernel_rfl) (by kernel_rfl) (by kernel_rfl) (fun _ _ _ h => h) (Or.inl ⟨by kernel_rfl, fun W hSw => by obtain ⟨⟨o0, o1, o2, o3⟩, s1, ⟨t0, t1, t2, t3⟩, u0, u1, u2, u3⟩ := hSw; go_simp⟩) hHeld ?_
            try simp only [Act.put, List.setIfInBounds_toArray, List.set_cons_zero, List.set_cons_succ]
            refine takeV 3 (some 105) (.pointer (some (ad.add (i * 4)))) rfl rfl (by kernel_rfl) (by kernel_rfl) (by kernel_rfl) (fun _ _ _ h => h) (Or.inl ⟨by kernel_rfl, fun W hSw => by obtain ⟨⟨o0, o1, o2, o3⟩, s1, ⟨t0, t1, t2, t3⟩, u0, u1, u2, u3⟩ := hSw; go_simp; first | done | (intro h9; exact absurd h9 (by omega))⟩) hHeld ?_
            try simp only [Act.put, List.setIfInBounds_toArray, List.set_cons_zero, List.set_cons_succ]
            refine takeV 4 (some 106) (formV x0 x1 x2 A5 x3.length c5) rfl rfl (by kernel_rfl) (by kernel_rfl) (by kernel_rfl) (fun _ _ _ h => h) (Or.inl ⟨by kernel_rfl, fun W hSw => by obtain ⟨⟨o0, o1, o2, o3⟩, s1, ⟨t0, t1, t2, t3⟩, u0, u1, u2, u3⟩ := hSw; go_simp⟩) hHeld ?_
            try simp only [Act.put, List.setIfInBounds_toArray, List.set_cons_zero, List.set_cons_succ]
            refine takeV 5 (some 107) (.pointer (some ⟨bB, 3, none⟩)) rfl rfl (by kernel_rfl) (by kernel_rfl) (by kernel_rfl) (fun _ _ _ h => h) (Or.inl ⟨by kernel_rfl, fun W hSw => by obtain ⟨⟨o0, o1, o2, o3⟩, s1, ⟨t0, t1, t2, t3⟩, u0, u1, u2, u3⟩ := hSw; go_simp⟩) hHeld ?_
            try simp only [Act.put, List.setIfInBounds_toArray, List.set_cons_zero, List.set_cons_succ]
            refine takeV 6 (some 108) (.slice (some ae) y3.length d) rfl rfl (by kernel_rfl) (by kernel_rfl) (by kernel_rfl) (fun _ _ _ h => h) (Or.inl ⟨by kernel_rfl, fun W hSw => by obtain ⟨⟨o0, o1, o2, o3⟩, s1, ⟨t0, t1, t2, t3⟩, u0, u1, u2, u3⟩ := hSw; go_simp⟩) hHeld ?_
            try simp only [Act.put, List.setIfInBounds_toArray, List.set_cons_zero, List.set_cons_succ]
            refine takeV 7 (some 109) (.int .i64 (i : Int)) rfl rfl (by kernel_rfl) (by kernel_rfl) (by kernel_rfl) (fun _ _ _ h => h) (Or.inl ⟨by kernel_rfl, fun W hSw => by obtain ⟨⟨o0, o1, o2, o3⟩, s1, ⟨t0, t1, t2, t3⟩, u0, u1, u2, u3⟩ := hSw; go_simp⟩) hHeld ?_
            try simp only [Act.put, List.setIfInBounds_toArray, List.set_cons_zero, List.set_cons_succ]
            refine takeV 8 (some 110) (.pointer (some (ae.add (i * 4)))) rfl rfl (by kernel_rfl) (by kernel_rfl) (by kernel_rfl) (fun _ _ _ h => h) (Or.inl ⟨by kernel_rfl, fun W hSw => by obtain ⟨⟨o0, o1, o2, o3⟩, s1, ⟨t0, t1, t2, t3⟩, u0, u1, u2, u3⟩ := hSw; go_simp; first | done | (intro h9; exact absurd h9 (by omega))⟩) hHeld ?_
            try simp only [Act.put, List.setIfInBounds_toArray, List.set_cons_zero, List.set_cons_succ]
            refine takeV 9 (some 111) (formV z0 z1 z2 B5 z3.length d5) rfl rfl (by kernel_rfl) (by kernel_rfl) (by kernel_rfl) (fun _ _ _ h => h) (Or.inl ⟨by kernel_rfl, fun W hSw => by obtain ⟨⟨o0, o1, o2, o3⟩, s1, ⟨t0, t1, t2, t3⟩, u0, u1, u2, u3⟩ := hSw; go_simp⟩) hHeld ?_
            try simp only [Act.put, List.setIfInBounds_toArray, List.set_cons_zero, List.set_cons_succ]
            refine takeV 10 (some 112) (.slice V vs.length cv) rfl rfl (by kernel_rfl) (by kernel_rfl) (by kernel_rfl) (fun _ _ _ h => h) (Or.inl ⟨by kernel_rfl, fun W hSw => by obtain ⟨⟨o0, o1, o2, o3⟩, s1, ⟨t0, t1, t2, t3⟩, u0, u1, u2, u3⟩ := hSw; go_simp⟩) hHeld ?_
            try simp only [Act.put, List.setIfInBounds_toArray, List.set_cons_zero, List.set_cons_succ]
            refine takeV 11 (some 113) (.slice Y2 by2.length cy2) rfl rfl (by kernel_rfl) (by kernel_rfl) (by kernel_rfl) (fun _ _ _ h => h) (Or.inl ⟨by kernel_rfl, fun W hSw => by obtain ⟨⟨o0, o1, o2, o3⟩, s1, ⟨t0, t1, t2, t3⟩, u0, u1, u2, u3⟩ := hSw; go_simp⟩) hHeld ?_
            try simp only [Act.put, List.setIfInBounds_toArray, List.set_cons_zero, List.set_cons_succ]
            refine takeV 12 (some 114) (formV 3 n s (some ad) l.length c) rfl rfl (by kernel_rfl) (by kernel_rfl) (by kernel_rfl) (fun _ _ _ h => h) (Or.inl ⟨by kernel_rfl, fun W hSw => by obtain ⟨⟨o0, o1, o2, o3⟩, s1, ⟨t0, t1, t2, t3⟩, u0, u1, u2, u3⟩ := hSw; go_simp⟩) hHeld ?_
            try simp only [Act.put, List.setIfInBounds_toArray, List.set_cons_zero, List.set_cons_succ]
            refine takeV 13 (some 115) (.int .i64 (i : Int)) rfl rfl (by kernel_rfl) (by kernel_rfl) (by kernel_rfl) (fun _ _ _ h => h) (Or.inl ⟨by kernel_rfl, fun W hSw => by obtain ⟨⟨o0, o1, o2, o3⟩, s1, ⟨t0, t1, t2, t3⟩, u0, u1, u2, u3⟩ := hSw; go_simp⟩) hHeld ?_
            try simp only [Act.put, List.setIfInBounds_toArray, List.set_cons_zero, List.set_cons_succ]
            refine takeV 14 (some 116) (.bool inner) rfl rfl (by kernel_rfl) (by kernel_rfl) (by kernel_rfl) (fun _ _ _ h => h) (Or.inl ⟨by kernel_rfl, fun W hSw => by obtain ⟨⟨o0, o1, o2, o3⟩, s1, ⟨t0, t1, t2, t3⟩, u0, u1, u2, u3⟩ := hSw; go_simp⟩) hHeld ?_
            try simp only [Act.put, List.setIfInBounds_toArray, List.set_cons_zero, List.set_cons_succ]
            refine wpAnyH_ready (rs := [15]) (by kernel_rfl) (by simp) ?_
            refine AllReadyH.cons rfl (fun K hK => ?_) AllReadyH.nil
            clear hHeld
            go_simp
            go_at_call 85
            refine Calls.mono (IF.out _ (below_drew HB3.out)) ?_
            rintro e w6 ⟨rfl, B6⟩
            have HB6 : Hid (Below wr.heap.size wr w6) := below_after (below_drew HB3.out) B6
            have HSn := HF.out _ HB6.out
            clear B6
            go_wp2_with fail
            refine hK.out _ _ HSn (fun hHeld => ?_)
            clear hK K
            try simp only [Act.put, List.setIfInBounds_toArray, List.set_cons_zero, List.set_cons_succ]
            clear HSn
            refine wpAnyH_ready (rs := [16]) (by kernel_rfl) (by simp) ?_
            refine AllReadyH.cons rfl (fun K hK => ?_) AllReadyH.nil
            clear hHeld
            go_simp
            go_at_call 66
            refine Calls.mono (MM.out _ HB6.out) ?_
            rintro e w7 ⟨A7, c7, rfl, hc7, hC7, B7⟩
            have HB7 : Hid (Below wr.heap.size wr w7) := below_after HB6.out B7
            have HSm := HF.out _ HB7.out
            have HC7 : Hid _ := hC7
            clear B7 hC7
            simp only [] at hc7 HC7
            go_wp2_with fail
            refine hK.out _ _ HSm (fun hHeld => ?_)
            clear hK K
            try simp only [Act.put, List.setIfInBounds_toArray, List.set_cons_zero, List.set_cons_succ]
            clear HSm
            refine takeV 17 (some 101) (.tuple #[.slice A7 by3.length c7, .bool qq]) rfl rfl (by kernel_rfl) (by kernel_rfl) (by kernel_rfl) (fun _ _ _ h => h) (Or.inl ⟨by kernel_rfl, fun W hSw => by go_simp⟩) hHeld ?_
            try simp only [Act.put, List.setIfInBounds_toArray, List.set_cons_zero, List.set_cons_succ]
            refine takeV 18 (some 119) (.slice A7 by3.length c7) rfl rfl (by kernel_rfl) (by kernel_rfl) (by kernel_rfl) (fun _ _ _ h => h) (Or.inl ⟨by kernel_rfl, fun W hSw => by go_simp⟩) hHeld ?_
            try simp only [Act.put, List.setIfInBounds_toArray, List.set_cons_zero, List.set_cons_succ]
            refine takeV 19 (some 120) (.bool qq) rfl rfl (by kernel_rfl) (by kernel_rfl) (by kernel_rfl) (fun _ _ _ h => h) (Or.inl ⟨by kernel_rfl, fun W hSw => by go_simp⟩) hHeld ?_
            try simp only [Act.put, List.setIfInBounds_toArray, List.set_cons_zero, List.set_cons_succ]
            refine takeV 20 (some 3) (.slice A7 by3.length c7) rfl rfl (by kernel_rfl) (by kernel_rfl) (by kernel_rfl) (fun _ _ _ h => h) (Or.inl ⟨by kernel_rfl, fun W hSw => by go_simp⟩) hHeld ?_
            try simp only [Act.put, List.setIfInBounds_toArray, List.set_cons_zero, List.set_cons_succ]
            refine takeV 21 (some 15) (.bool qq) rfl rfl (by kernel_rfl) (by kernel_rfl) (by kernel_rfl) (fun _ _ _ h => h) (Or.inl ⟨by kernel_rfl, fun W hSw => by go_simp⟩) hHeld ?_
            try simp only [Act.put, List.setIfInBounds_toArray, List.set_cons_zero, List.set_cons_succ]
            refine wpAnyH_done (by kernel_rfl) ?_ _
            cases qq with
            | true =>
              simp only [if_true] at hV
              have HV9 : Hid _ := hV
              clear hV
              go_wp2_with fail
              go_roundg g
              case measure => omega
              case rel => exact ⟨i + 1, by3, A7, c7, by first | go_num | (have hi := HI.out; go_num) | (have hi := HI.out; subst hi; first | rfl | go_num), rfl, hc7, by omega, below_after HBL.out HB7.out, HC7.out, by omega, GR2.out, HV9.out⟩
            | false =>
              simp only [Bool.false_eq_true, if_false] at hV
              subst hV
              go_wp2_with fail
              go_ret2
              have BB := below_after HBL.out HB7.out
              exact ⟨A7, c7, rfl, hc7, HC7.out, by subst hbA; exact below_after XB.out BB⟩
      · have hi2 : ((i : Int) == 0) = false := beq_eq_false_iff_ne.mpr (by omega)
        rw [if_neg (fun h => hi h.1)] at hV
        clear hi
        have hltm : i < y3.length := by have := HLM.out; omega
        go_wp2_with fail
        have HBr : Hid (Below wr.heap.size wr wr) := Below.refl _ _
        obtain ⟨b, hb⟩ : ∃ b, b = (!inner && isFunW (headL l) && decide (i = 1) && (x0 == 3)) := ⟨_, rfl⟩
        have IF : Hid (∀ wq, Below wr.heap.size wr wq → _) := fun wq hwq => plinthref03_isFun.calls 3 n s (some ad) c l (i : Int) inner _ wq (HAL.out _ hwq) hac (isFun_f n s l i inner hx)
        rw [show (⟨x0, x1, x2, x3⟩ : S24).f0 = x0 from rfl, ← hb] at IF
        rw [← hb] at hV
        have MM : Hid (∀ wq, Below wr.heap.size wr wq → _) := fun wq hwq => MQ.out wq by2 ⟨z0, z1, z2, z3⟩ b A5 B5 V Y2 c5 d5 cv cy2 (G5.out _ hwq) g4 SX (K5.out _ hwq) k4 SY (HVS.out _ hwq) hvc hvn (Kd.C_below HY2.out hwq) hcy2 (by omega) HW2.out
        have GR := mrM_grows vs ⟨x0, x1, x2, x3⟩ ⟨z0, z1, z2, z3⟩ b by2 9000000 HW2.out SY
        obtain ⟨Q, hQ⟩ : ∃ Q, Q = mrM vs ⟨x0, x1, x2, x3⟩ ⟨z0, z1, z2, z3⟩ b by2 := ⟨_, rfl⟩
        rw [← hQ] at MM hV GR
        clear hQ MQ hb hx
        obtain ⟨qq, by3⟩ := Q
        simp only [] at hV GR
        have GR2 : Hid _ := GR.1
        have gr3 := GR.2
        clear GR
        clear p0 p1 p2 p3 q0 q1 q2 q3
        refine wp_region_held_drew (S := fun W => (W.cell? ⟨bA, 0, none⟩ = some (.int .i64 3) ∧ W.cell? ⟨bA, 1, none⟩ = some (.int .i64 n) ∧ W.cell? ⟨bA, 2, none⟩ = some (.string s) ∧ W.cell? ⟨bA, 3, none⟩ = some (.slice (some ad) l.length c)) ∧ W.cell? ⟨bB, 3, none⟩ = some (.slice (some ae) y3.length d) ∧ (W.cell? (ad.add (i * 4)) = some (.int .i64 x0) ∧ W.cell? ⟨(ad.add (i * 4)).block, (ad.add (i * 4)).off + 1, none⟩ = some (.int .i64 x1) ∧ W.cell? ⟨(ad.add (i * 4)).block, (ad.add (i * 4)).off + 2, none⟩ = some (.string x2) ∧ W.cell? ⟨(ad.add (i * 4)).block, (ad.add (i * 4)).off + 3, none⟩ = some (.slice A5 x3.length c5)) ∧ (W.cell? (ae.add (i * 4)) = some (.int .i64 z0) ∧ W.cell? ⟨(ae.add (i * 4)).block, (ae.add (i * 4)).off + 1, none⟩ = some (.int .i64 z1) ∧ W.cell? ⟨(ae.add (i * 4)).block, (ae.add (i * 4)).off + 2, none⟩ = some (.string z2) ∧ W.cell? ⟨(ae.add (i * 4)).block, (ae.add (i * 4)).off + 3, none⟩ = some (.slice B5 z3.length d5))) (by kernel_rfl) (HF.out _ (below_drew HBr.out)) (fun hHeld => ?_)
        refine takeV 0 (some 102) (.pointer (some ⟨bA, 3, none⟩)) rfl rfl (by kernel_rfl) (by kernel_rfl) (by kernel_rfl) (fun _ _ _ h => h) (Or.inl ⟨by kernel_rfl, fun W hSw => by obtain ⟨⟨o0, o1, o2, o3⟩, s1, ⟨t0, t1, t2, t3⟩, u0, u1, u2, u3⟩ := hSw; go_simp⟩) hHeld ?_
        try simp only [Act.put, List.setIfInBounds_toArray, List.set_cons_zero, List.set_cons_succ]
        refine takeV 1 (some 103) (.slice (some ad) l.length c) rfl rfl (by kernel_rfl) (by kernel_rfl) (by kernel_rfl) (fun _ _ _ h => h) (Or.inl ⟨by kernel_rfl, fun W hSw => by obtain ⟨⟨o0, o1, o2, o3⟩, s1, ⟨t0, t1, t2, t3⟩, u0, u1, u2, u3⟩ := hSw; go_simp⟩) hHeld ?_
        try simp only [Act.put, List.setIfInBounds_toArray, List.set_cons_zero, List.set_cons_succ]
        refine takeV 2 (some 104) (.int .i64 (i : Int)) rfl rfl (by kernel_rfl) (by kernel_rfl) (by kernel_rfl) (fun _ _ _ h => h) (Or.inl ⟨by kernel_rfl, fun W hSw => by obtain ⟨⟨o0, o1, o2, o3⟩, s1, ⟨t0, t1, t2, t3⟩, u0, u1, u2, u3⟩ := hSw; go_simp⟩) hHeld ?_
        try simp only [Act.put, List.setIfInBounds_toArray, List.set_cons_zero, List.set_cons_succ]
        refine takeV 3 (some 105) (.pointer (some (ad.add (i * 4)))) rfl rfl (by kernel_rfl) (by kernel_rfl) (by kernel_rfl) (fun _ _ _ h => h) (Or.inl ⟨by kernel_rfl, fun W hSw => by obtain ⟨⟨o0, o1, o2, o3⟩, s1, ⟨t0, t1, t2, t3⟩, u0, u1, u2, u3⟩ := hSw; go_simp; first | done | (intro h9; exact absurd h9 (by omega))⟩) hHeld ?_
        try simp only [Act.put, List.setIfInBounds_toArray, List.set_cons_zero, List.set_cons_succ]
        refine takeV 4 (some 106) (formV x0 x1 x2 A5 x3.length c5) rfl rfl (by kernel_rfl) (by kernel_rfl) (by kernel_rfl) (fun _ _ _ h => h) (Or.inl ⟨by kernel_rfl, fun W hSw => by obtain ⟨⟨o0, o1, o2, o3⟩, s1, ⟨t0, t1, t2, t3⟩, u0, u1, u2, u3⟩ := hSw; go_simp⟩) hHeld ?_
        try simp only [Act.put, List.setIfInBounds_toArray, List.set_cons_zero, List.set_cons_succ]
        refine takeV 5 (some 107) (.pointer (some ⟨bB, 3, none⟩)) rfl rfl (by kernel_rfl) (by kernel_rfl) (by kernel_rfl) (fun _ _ _ h => h) (Or.inl ⟨by kernel_rfl, fun W hSw => by obtain ⟨⟨o0, o1, o2, o3⟩, s1, ⟨t0, t1, t2, t3⟩, u0, u1, u2, u3⟩ := hSw; go_simp⟩) hHeld ?_
        try simp only [Act.put, List.setIfInBounds_toArray, List.set_cons_zero, List.set_cons_succ]
        refine takeV 6 (some 108) (.slice (some ae) y3.length d) rfl rfl (by kernel_rfl) (by kernel_rfl) (by kernel_rfl) (fun _ _ _ h => h) (Or.inl ⟨by kernel_rfl, fun W hSw => by obtain ⟨⟨o0, o1, o2, o3⟩, s1, ⟨t0, t1, t2, t3⟩, u0, u1, u2, u3⟩ := hSw; go_simp⟩) hHeld ?_
        try simp only [Act.put, List.setIfInBounds_toArray, List.set_cons_zero, List.set_cons_succ]
        refine takeV 7 (some 109) (.int .i64 (i : Int)) rfl rfl (by kernel_rfl) (by kernel_rfl) (by kernel_rfl) (fun _ _ _ h => h) (Or.inl ⟨by kernel_rfl, fun W hSw => by obtain ⟨⟨o0, o1, o2, o3⟩, s1, ⟨t0, t1, t2, t3⟩, u0, u1, u2, u3⟩ := hSw; go_simp⟩) hHeld ?_
        try simp only [Act.put, List.setIfInBounds_toArray, List.set_cons_zero, List.set_cons_succ]
        refine takeV 8 (some 110) (.pointer (some (ae.add (i * 4)))) rfl rfl (by kernel_rfl) (by kernel_rfl) (by kernel_rfl) (fun _ _ _ h => h) (Or.inl ⟨by kernel_rfl, fun W hSw => by obtain ⟨⟨o0, o1, o2, o3⟩, s1, ⟨t0, t1, t2, t3⟩, u0, u1, u2, u3⟩ := hSw; go_simp; first | done | (intro h9; exact absurd h9 (by omega))⟩) hHeld ?_
        try simp only [Act.put, List.setIfInBounds_toArray, List.set_cons_zero, List.set_cons_succ]
        refine takeV 9 (some 111) (formV z0 z1 z2 B5 z3.length d5) rfl rfl (by kernel_rfl) (by kernel_rfl) (by kernel_rfl) (fun _ _ _ h => h) (Or.inl ⟨by kernel_rfl, fun W hSw => by obtain ⟨⟨o0, o1, o2, o3⟩, s1, ⟨t0, t1, t2, t3⟩, u0, u1, u2, u3⟩ := hSw; go_simp⟩) hHeld ?_
        try simp only [Act.put, List.setIfInBounds_toArray, List.set_cons_zero, List.set_cons_succ]
        refine takeV 10 (some 112) (.slice V vs.length cv) rfl rfl (by kernel_rfl) (by kernel_rfl) (by kernel_rfl) (fun _ _ _ h => h) (Or.inl ⟨by kernel_rfl, fun W hSw => by obtain ⟨⟨o0, o1, o2, o3⟩, s1, ⟨t0, t1, t2, t3⟩, u0, u1, u2, u3⟩ := hSw; go_simp⟩) hHeld ?_
        try simp only [Act.put, List.setIfInBounds_toArray, List.set_cons_zero, List.set_cons_succ]
        refine takeV 11 (some 113) (.slice Y2 by2.length cy2) rfl rfl (by kernel_rfl) (by kernel_rfl) (by kernel_rfl) (fun _ _ _ h => h) (Or.inl ⟨by kernel_rfl, fun W hSw => by obtain ⟨⟨o0, o1, o2, o3⟩, s1, ⟨t0, t1, t2, t3⟩, u0, u1, u2, u3⟩ := hSw; go_simp⟩) hHeld ?_
        try simp only [Act.put, List.setIfInBounds_toArray, List.set_cons_zero, List.set_cons_succ]
        refine takeV 12 (some 114) (formV 3 n s (some ad) l.length c) rfl rfl (by kernel_rfl) (by kernel_rfl) (by kernel_rfl) (fun _ _ _ h => h) (Or.inl ⟨by kernel_rfl, fun W hSw => by obtain ⟨⟨o0, o1, o2, o3⟩, s1, ⟨t0, t1, t2, t3⟩, u0, u1, u2, u3⟩ := hSw; go_simp⟩) hHeld ?_
        try simp only [Act.put, List.setIfInBounds_toArray, List.set_cons_zero, List.set_cons_succ]
        refine takeV 13 (some 115) (.int .i64 (i : Int)) rfl rfl (by kernel_rfl) (by kernel_rfl) (by kernel_rfl) (fun _ _ _ h => h) (Or.inl ⟨by kernel_rfl, fun W hSw => by obtain ⟨⟨o0, o1, o2, o3⟩, s1, ⟨t0, t1, t2, t3⟩, u0, u1, u2, u3⟩ := hSw; go_simp⟩) hHeld ?_
        try simp only [Act.put, List.setIfInBounds_toArray, List.set_cons_zero, List.set_cons_succ]
        refine takeV 14 (some 116) (.bool inner) rfl rfl (by kernel_rfl) (by kernel_rfl) (by kernel_rfl) (fun _ _ _ h => h) (Or.inl ⟨by kernel_rfl, fun W hSw => by obtain ⟨⟨o0, o1, o2, o3⟩, s1, ⟨t0, t1, t2, t3⟩, u0, u1, u2, u3⟩ := hSw; go_simp⟩) hHeld ?_
        try simp only [Act.put, List.setIfInBounds_toArray, List.set_cons_zero, List.set_cons_succ]
        refine wpAnyH_ready (rs := [15]) (by kernel_rfl) (by simp) ?_
        refine AllReadyH.cons rfl (fun K hK => ?_) AllReadyH.nil
        clear hHeld
        go_simp
        go_at_call 85
        refine Calls.mono (IF.out _ (below_drew HBr.out)) ?_
        rintro e w6 ⟨rfl, B6⟩
        have HB6 : Hid (Below wr.heap.size wr w6) := below_after (below_drew HBr.out) B6
        have HSn := HF.out _ HB6.out
        clear B6
        go_wp2_with fail
        refine hK.out _ _ HSn (fun hHeld => ?_)
        clear hK K
        try simp only [Act.put, List.setIfInBounds_toArray, List.set_cons_zero, List.set_cons_succ]
        clear HSn
        refine wpAnyH_ready (rs := [16]) (by kernel_rfl) (by simp) ?_
        refine AllReadyH.cons rfl (fun K hK => ?_) AllReadyH.nil
        clear hHeld
        go_simp
        go_at_call 66
        refine Calls.mono (MM.out _ HB6.out) ?_
        rintro e w7 ⟨A7, c7, rfl, hc7, hC7, B7⟩
        have HB7 : Hid (Below wr.heap.size wr w7) := below_after HB6.out B7
        have HSm := HF.out _ HB7.out
        have HC7 : Hid _ := hC7
        clear B7 hC7
        simp only [] at hc7 HC7
        go_wp2_with fail
        refine hK.out _ _ HSm (fun hHeld => ?_)
        clear hK K
        try simp only [Act.put, List.setIfInBounds_toArray, List.set_cons_zero, List.set_cons_succ]
        clear HSm
        refine takeV 17 (some 101) (.tuple #[.slice A7 by3.length c7, .bool qq]) rfl rfl (by kernel_rfl) (by kernel_rfl) (by kernel_rfl) (fun _ _ _ h => h) (Or.inl ⟨by kernel_rfl, fun W hSw => by go_simp⟩) hHeld ?_
        try simp only [Act.put, List.setIfInBounds_toArray, List.set_cons_zero, List.set_cons_succ]
        refine takeV 18 (some 119) (.slice A7 by3.length c7) rfl rfl (by kernel_rfl) (by kernel_rfl) (by kernel_rfl) (fun _ _ _ h => h) (Or.inl ⟨by kernel_rfl, fun W hSw => by go_simp⟩) hHeld ?_
        try simp only [Act.put, List.setIfInBounds_toArray, List.set_cons_zero, List.set_cons_succ]
        refine takeV 19 (some 120) (.bool qq) rfl rfl (by kernel_rfl) (by kernel_rfl) (by kernel_rfl) (fun _ _ _ h => h) (Or.inl ⟨by kernel_rfl, fun W hSw => by go_simp⟩) hHeld ?_
        try simp only [Act.put, List.setIfInBounds_toArray, List.set_cons_zero, List.set_cons_succ]
        refine takeV 20 (some 3) (.slice A7 by3.length c7) rfl rfl (by kernel_rfl) (by kernel_rfl) (by kernel_rfl) (fun _ _ _ h => h) (Or.inl ⟨by kernel_rfl, fun W hSw => by go_simp⟩) hHeld ?_
        try simp only [Act.put, List.setIfInBounds_toArray, List.set_cons_zero, List.set_cons_succ]
        refine takeV 21 (some 15) (.bool qq) rfl rfl (by kernel_rfl) (by kernel_rfl) (by kernel_rfl) (fun _ _ _ h => h) (Or.inl ⟨by kernel_rfl, fun W hSw => by go_simp⟩) hHeld ?_
        try simp only [Act.put, List.setIfInBounds_toArray, List.set_cons_zero, List.set_cons_succ]
        refine wpAnyH_done (by kernel_rfl) ?_ _
        cases qq with
        | true =>
          simp only [if_true] at hV
          have HV9 : Hid _ := hV
          clear hV
          go_wp2_with fail
          go_roundg g
          case measure => omega
          case rel => exact ⟨i + 1, by3, A7, c7, by first | go_num | (have hi := HI.out; go_num) | (have hi := HI.out; subst hi; first | rfl | go_num), rfl, hc7, by omega, below_after HBL.out HB7.out, HC7.out, by omega, GR2.out, HV9.out⟩
        | false =>
          simp only [Bool.false_eq_true, if_false] at hV
          subst hV
          go_wp2_with fail
          go_ret2
          have BB := below_after HBL.out HB7.out
          exact ⟨A7, c7, rfl, hc7, HC7.out, by subst hbA; exact below_after XB.out BB⟩
    · have e1 : decide (i < l.length) = false := decide_eq_false hlt
      have hge2 : l.length ≤ i := by omega
      have e3 : l.drop i = [] := List.drop_eq_nil_of_le (by omega)
      rw [e3] at hV
      simp only [mrL] at hV
      subst hV
      clear e3
      go_wp2_with fail
      go_ret2
      exact ⟨Y2, cy2, rfl, hcy2, HY2.out, by subst hbA; exact hBw.out⟩
end Go.Proofs.YtcjmplpfebpfpaaGreatDoor

namespace Go.Proofs.YtcjmplpfebpfpaaGreatDoor
open Go.RowKit Go.Proofs Go.Proofs.YtcjmplpfebpfpaaGreatDoorW.PrintWords Go.Proofs.YtcjmplpfebpfpaaGreatDoorW.PrintLast Go.Proofs.YtcjmplpfebpfpaaGreatDoorW.PrintMore PKindInstances
set_option linter.unusedVariables false
set_option linter.unusedSimpArgs false

mutual
theorem matched_ok (vs : List ByteArray) : ∀ x : S24, MROk vs x
  | ⟨a, n, s, l⟩ => by
    have hl := matched_oks vs l
    intro w by_ y inner A B V Y c d cv cy ha hac haw hb hbc hbw hv hvc hvn hy hyc hyz hpw
    have hsp := siz_pos ⟨a, n, s, l⟩
    have hyn : by_.length < 9000000 := by omega
    simp only [mrM]
    by_cases hvar : a = 1 ∧ resM s = false ∧ s ∈ vs
    · rw [if_pos hvar]
      obtain ⟨rfl, h1, h2⟩ := hvar
      cases hf : findM by_ s with
      | none => exact matched_add vs w by_ n s l y inner A B V Y c d cv cy ha hac hb hbc hv hvc hvn hy hyc hyn h1 h2 hf
      | some was =>
        obtain ⟨p, hp, e⟩ := findM_mem hf
        exact matched_found vs w by_ n s l y inner A B V Y c d cv cy ha hac haw hb hbc hbw hv hvc hvn hy hyc hyn was (by rw [← e]; exact hpw p hp) h1 h2 hf
    · rw [if_neg hvar]
      by_cases h3 : a ≠ 3 ∨ y.f0 ≠ 3
      · rw [if_pos h3]
        by_cases h1 : a = 1
        · subst h1
          cases hr : resM s with
          | true => exact matched_eq1 vs w by_ n s l y inner A B V Y c d cv cy ha hac haw hb hbc hbw hv hvc hvn hy hyc hyn hr
          | false => exact matched_eq2 vs w by_ n s l y inner A B V Y c d cv cy ha hac haw hb hbc hbw hv hvc hvn hy hyc hyn hr (fun h => hvar ⟨rfl, hr, h⟩)
        · by_cases h4 : a = 3
          · subst h4
            exact matched_eq4 vs w by_ n s l y inner A B V Y c d cv cy ha hac haw hb hbc hbw hv hvc hvn hy hyc hyn (h3.resolve_left (fun h => h rfl))
          · exact matched_eq3 vs w by_ a n s l y inner A B V Y c d cv cy ha hac haw hb hbc hbw hv hvc hvn hy hyc hyn h1 h4
      · rw [if_neg h3]
        have h4 : a = 3 := Classical.byContradiction fun h => h3 (.inl h)
        have h5 : y.f0 = 3 := Classical.byContradiction fun h => h3 (.inr h)
        subst h4
        by_cases hll : l.length ≠ y.f3.length
        · rw [if_pos hll]
          exact matched_len vs w by_ n s l y inner A B V Y c d cv cy ha hac haw hb hbc hbw hv hvc hvn hy hyc hyn h5 hll
        · rw [if_neg hll]
          exact matched_list vs w by_ n s l y inner A B V Y c d cv cy ha hac haw hb hbc hbw hv hvc hvn hy hyc hyn h5 (Classical.not_not.1 hll) (by simp only [siz] at hyz; omega) hpw hl
theorem matched_oks (vs : List ByteArray) : ∀ (l : List S24), ∀ x ∈ l, MROk vs x
  | [], x, h => absurd h (List.not_mem_nil)
  | y :: l, x, h => by
    rcases List.mem_cons.1 h with h | h
    · rw [h]; exact matched_ok vs y
    · exact matched_oks vs l x h
end

end Go.Proofs.YtcjmplpfebpfpaaGreatDoor

namespace Go.Proofs.YtcjmplpfebpfpaaGreatDoor
open Go.RowKit Go.Proofs Go.Proofs.YtcjmplpfebpfpaaGreatDoorW.PrintWords Go.Proofs.YtcjmplpfebpfpaaGreatDoorW.PrintLast Go.Proofs.YtcjmplpfebpfpaaGreatDoorW.PrintMore PKindInstances
set_option linter.unusedVariables false
set_option linter.unusedSimpArgs false

mutual
def cnt : S24 → Nat
  | ⟨a, _, _, l⟩ => 1 + (if a = 3 then cnts l else 0)
def cnts : List S24 → Nat
  | [] => 0
  | x :: l => cnt x + cnts l
end
mutual
def dep : S24 → Nat
  | ⟨a, _, _, l⟩ => (if a = 3 then deps l else 0) + 1
def deps : List S24 → Nat
  | [] => 0
  | x :: l => max (dep x) (deps l)
end
mutual
theorem cnt_siz : ∀ x : S24, cnt x ≤ siz x
  | ⟨a, b, s, l⟩ => by
    have := cnts_siz l
    simp only [cnt, siz]
    split <;> omega
theorem cnts_siz : ∀ l : List S24, cnts l ≤ sizs l
  | [] => Nat.le_refl _
  | x :: l => by have h1 := cnt_siz x; have h2 := cnts_siz l; simp only [cnts, sizs]; omega
end
mutual
theorem dep_siz : ∀ x : S24, dep x ≤ siz x
  | ⟨a, b, s, l⟩ => by
    have := deps_siz l
    simp only [dep, siz]
    split <;> omega
theorem deps_siz : ∀ l : List S24, deps l ≤ sizs l
  | [] => Nat.le_refl _
  | x :: l => by have h1 := dep_siz x; have h2 := deps_siz l; simp only [deps, sizs]; omega
end
theorem siz_in : ∀ {l : List S24} {x : S24}, x ∈ l → siz x ≤ sizs l
  | [], _, h => absurd h List.not_mem_nil
  | y :: l, x, h => by
    simp only [sizs]
    rcases List.mem_cons.1 h with h | h
    · rw [h]; omega
    · have := siz_in h; omega
theorem wr64 {z : Int} (h1 : 0 ≤ z) (h2 : z < 9000000000) : wrap64 z = z := by unfold wrap64; omega

theorem size_l0 (n : Int) (s : ByteArray) (l : List S24) (hl : l.length < 9000000) (hq : ∀ x ∈ l, Ev (fun k => plinthref01_Size.f k x.f0 x.f1 x.f2 x.f3) ((cnt x : Nat) : Int)) (d : Nat) :
    ∀ (i acc : Nat), d + i = l.length → acc + cnts (l.drop i) < 9000000000 → Ev (fun k => plinthref01_Size.l0 k (acc : Int) (i : Int) 3 n s l) ((acc + cnts (l.drop i) : Nat) : Int) := by
  induction d with
  | zero =>
    intro i acc h hb
    refine ⟨1, fun k hk => ?_⟩
    obtain ⟨k, rfl⟩ : ∃ m, k = m + 1 := ⟨k - 1, by omega⟩
    have e : l.drop i = [] := List.drop_eq_nil_of_le (by omega)
    simp only [plinthref01_Size.l0]
    rw [if_pos trivial, if_neg (by omega), e]
    rfl
  | succ d ih =>
    intro i acc h hb
    obtain ⟨x, hx⟩ : ∃ x, l[i]? = some x := ⟨l[i]'(by omega), List.getElem?_eq_getElem _⟩
    have e : l.drop i = x :: l.drop (i + 1) := by obtain ⟨h9, h10⟩ := List.getElem?_eq_some_iff.1 hx; rw [← h10]; exact List.drop_eq_getElem_cons h9
    rw [e] at hb ⊢
    simp only [cnts] at hb ⊢
    obtain ⟨K1, h1⟩ := hq x (List.mem_of_getElem? hx)
    obtain ⟨K2, h2⟩ := ih (i + 1) (acc + cnt x) (by omega) (by omega)
    refine ⟨max K1 K2 + 1, fun k hk => ?_⟩
    obtain ⟨k, rfl⟩ : ∃ m, k = m + 1 := ⟨k - 1, by omega⟩
    have h1' := h1 k (by omega)
    have h2' := h2 k (by omega)
    simp only [] at h1' h2'
    simp only [plinthref01_Size.l0]
    rw [if_pos trivial, if_pos (by omega), if_pos (by omega), rd_at hx, h1', Option.bind_some, wr64 (by omega) (by omega), wr64 (by omega) (by omega), show (acc : Int) + (cnt x : Int) = ((acc + cnt x : Nat) : Int) from by omega, show (i : Int) + 1 = ((i + 1 : Nat) : Int) from by omega, h2', Nat.add_assoc]
mutual
theorem size_ev : ∀ x : S24, siz x < 9000000 → Ev (fun k => plinthref01_Size.f k x.f0 x.f1 x.f2 x.f3) ((cnt x : Nat) : Int)
  | ⟨a, n, s, l⟩, h => by
    have hl := size_evs l
    simp only [siz] at h
    have h1 := sizs_len l
    have h2 := cnts_siz l
    by_cases h3 : a = 3
    · subst h3
      obtain ⟨K, hK⟩ := size_l0 n s l (by omega) (fun x hx => hl x hx (by have := siz_in hx; omega)) l.length 0 1 (by omega) (by rw [List.drop_zero]; omega)
      refine ⟨K + 1, fun k hk => ?_⟩
      obtain ⟨k, rfl⟩ : ∃ m, k = m + 1 := ⟨k - 1, by omega⟩
      have := hK k (by omega)
      simp only [List.drop_zero] at this
      simp only [plinthref01_Size.f, cnt, if_true]
      exact this
    · refine ⟨2, fun k hk => ?_⟩
      obtain ⟨k, rfl⟩ : ∃ m, k = m + 2 := ⟨k - 2, by omega⟩
      simp only [plinthref01_Size.f, plinthref01_Size.l0, cnt]
      rw [if_neg h3, if_neg h3]
      rfl
theorem size_evs : ∀ (l : List S24), ∀ x ∈ l, siz x < 9000000 → Ev (fun k => plinthref01_Size.f k x.f0 x.f1 x.f2 x.f3) ((cnt x : Nat) : Int)
  | [], x, h => absurd h (List.not_mem_nil)
  | y :: l, x, h => by
    rcases List.mem_cons.1 h with h | h
    · rw [h]; exact size_ev y
    · exact size_evs l x h
end
theorem mx_max (a b : Nat) : mx (a : Int) (b : Int) = ((max a b : Nat) : Int) := by unfold mx; split <;> omega
theorem depth_l0 (n : Int) (s : ByteArray) (l : List S24) (hl : l.length < 9000000) (hq : ∀ x ∈ l, Ev (fun k => plinthref01_Depth.f k x.f0 x.f1 x.f2 x.f3) ((dep x : Nat) : Int)) (d : Nat) :
    ∀ (i acc : Nat), d + i = l.length → max acc (deps (l.drop i)) < 9000000000 - 1 → Ev (fun k => plinthref01_Depth.l0 k (acc : Int) (i : Int) 3 n s l) ((max acc (deps (l.drop i)) + 1 : Nat) : Int) := by
  induction d with
  | zero =>
    intro i acc h hb
    refine ⟨1, fun k hk => ?_⟩
    obtain ⟨k, rfl⟩ : ∃ m, k = m + 1 := ⟨k - 1, by omega⟩
    have e : l.drop i = [] := List.drop_eq_nil_of_le (by omega)
    rw [e] at hb ⊢
    simp only [deps] at hb ⊢
    simp only [plinthref01_Depth.l0]
    rw [if_pos trivial, if_neg (by omega), wr64 (by omega) (by omega)]
    simp
  | succ d ih =>
    intro i acc h hb
    obtain ⟨x, hx⟩ : ∃ x, l[i]? = some x := ⟨l[i]'(by omega), List.getElem?_eq_getElem _⟩
    have e : l.drop i = x :: l.drop (i + 1) := by obtain ⟨h9, h10⟩ := List.getElem?_eq_some_iff.1 hx; rw [← h10]; exact List.drop_eq_getElem_cons h9
    rw [e] at hb ⊢
    simp only [deps] at hb ⊢
    obtain ⟨K1, h1⟩ := hq x (List.mem_of_getElem? hx)
    obtain ⟨K2, h2⟩ := ih (i + 1) (max acc (dep x)) (by omega) (by omega)
    refine ⟨max K1 K2 + 1, fun k hk => ?_⟩
    obtain ⟨k, rfl⟩ : ∃ m, k = m + 1 := ⟨k - 1, by omega⟩
    have h1' := h1 k (by omega)
    have h2' := h2 k (by omega)
    simp only [] at h1' h2'
    simp only [plinthref01_Depth.l0]
    rw [if_pos trivial, if_pos (by omega), if_pos (by omega), rd_at hx, h1', Option.bind_some, wr64 (by omega) (by omega), mx_max, show (i : Int) + 1 = ((i + 1 : Nat) : Int) from by omega, h2', Nat.max_assoc]
mutual
theorem depth_ev : ∀ x : S24, siz x < 9000000 → Ev (fun k => plinthref01_Depth.f k x.f0 x.f1 x.f2 x.f3) ((dep x : Nat) : Int)
  | ⟨a, n, s, l⟩, h => by
    have hl := depth_evs l
    simp only [siz] at h
    have h1 := sizs_len l
    have h2 := deps_siz l
    by_cases h3 : a = 3
    · subst h3
      obtain ⟨K, hK⟩ := depth_l0 n s l (by omega) (fun x hx => hl x hx (by have := siz_in hx; omega)) l.length 0 0 (by omega) (by rw [List.drop_zero]; omega)
      refine ⟨K + 1, fun k hk => ?_⟩
      obtain ⟨k, rfl⟩ : ∃ m, k = m + 1 := ⟨k - 1, by omega⟩
      have := hK k (by omega)
      simp only [List.drop_zero, Nat.zero_max] at this
      simp only [plinthref01_Depth.f, dep, if_true]
      exact this
    · refine ⟨2, fun k hk => ?_⟩
      obtain ⟨k, rfl⟩ : ∃ m, k = m + 2 := ⟨k - 2, by omega⟩
      simp only [plinthref01_Depth.f, plinthref01_Depth.l0, dep]
      rw [if_neg h3, if_neg h3, wr64 (by omega) (by omega)]
      rfl
theorem depth_evs : ∀ (l : List S24), ∀ x ∈ l, siz x < 9000000 → Ev (fun k => plinthref01_Depth.f k x.f0 x.f1 x.f2 x.f3) ((dep x : Nat) : Int)
  | [], x, h => absurd h (List.not_mem_nil)
  | y :: l, x, h => by
    rcases List.mem_cons.1 h with h | h
    · rw [h]; exact depth_ev y
    · exact depth_evs l x h
end
def smallM (x : S24) : Bool := decide (cnt x ≤ 20000) && decide (dep x ≤ 100)
theorem small_any (x : S24) (A : Option Addr) (c : Nat) (w : World) (hr : Kd.C k24 w A x.f3.length x.f3) (hc : x.f3.length ≤ c) (hz : siz x < 9000000) :
    Calls Tryz.prog 100 #[formV x.f0 x.f1 x.f2 A x.f3.length c] w fun e w' => e = .returned (.bool (smallM x)) ∧ Below w.heap.size w w' := by
  obtain ⟨K1, h1⟩ := size_ev x hz
  obtain ⟨K2, h2⟩ := depth_ev x hz
  refine plinthref01_small.calls (max K1 K2) x.f0 x.f1 x.f2 A c x.f3 _ w hr hc ?_
  have h1' := h1 (max K1 K2) (by omega)
  have h2' := h2 (max K1 K2) (by omega)
  simp only [] at h1' h2'
  unfold plinthref01_small.f smallM
  rw [h1', Option.bind_some]
  by_cases h : cnt x ≤ 20000
  · rw [if_pos (by omega), h2', Option.bind_some, decide_eq_true h, Bool.true_and]
    congr 1
    by_cases h' : dep x ≤ 100
    · rw [decide_eq_true h', decide_eq_true (by omega)]
    · rw [decide_eq_false h', decide_eq_false (by omega)]
  · rw [if_neg (by omega), decide_eq_false h]
    rfl
def ValidR (x : S24) : Bool := fieldsM x && smallM x
set_option maxRecDepth 100000 in
theorem RValid_any (x : S24) (A : Option Addr) (c : Nat) (w : World) (hr : Kd.C k24 w A x.f3.length x.f3) (hc : x.f3.length ≤ c) (hz : siz x < 9000000) (hw : wid x < 9000000) :
    Calls Tryz.prog 57 #[formV x.f0 x.f1 x.f2 A x.f3.length c] w fun e w' => e = .returned (.bool (ValidR x)) ∧ Below w.heap.size w w' := by
  have hu24 := Tryz.underlying24
  have FI : Hid (∀ w1, Below w.heap.size w w1 → _) := fun w1 h1 => fields_ok x A c w1 (Kd.C_below hr h1) hc hw
  have SM : Hid (∀ w1, Below w.heap.size w w1 → _) := fun w1 h1 => small_any x A c w1 (Kd.C_below hr h1) hc hz
  unfold ValidR
  obtain ⟨g, hg⟩ : ∃ g, g = smallM x := ⟨_, rfl⟩
  rw [← hg] at SM ⊢
  cases hq : fieldsM x with
  | false =>
    rw [hq] at FI
    obtain ⟨a, n, s, l⟩ := x
    clear hr hg hq
    go_enter Tryz.func57, Tryz.ntmps57
    go_wp2_with fail
    refine Calls.mono (FI.out _ (below_alloc (Below.refl _ _) _)) ?_
    rintro e w2 ⟨rfl, B2⟩
    have HB : Hid _ := below_after (below_alloc (Below.refl w.heap.size w) _) B2
    clear B2
    go_wp2_with fail
    go_ret
    exact ⟨rfl, HB.out⟩
  | true =>
    rw [hq] at FI
    obtain ⟨a, n, s, l⟩ := x
    clear hr hg hq
    go_enter Tryz.func57, Tryz.ntmps57
    go_wp2_with fail
    refine Calls.mono (FI.out _ (below_alloc (Below.refl _ _) _)) ?_
    rintro e w2 ⟨rfl, B2⟩
    obtain ⟨p0, p1, p2, p3⟩ := cells4 (box_heap B2)
    have HB : Hid _ := below_after (below_alloc (Below.refl w.heap.size w) _) B2
    clear B2
    go_wp2_with fail
    refine Calls.mono (SM.out _ HB.out) ?_
    rintro e w3 ⟨rfl, B3⟩
    have HB3 : Hid _ := below_after HB.out B3
    clear B3
    go_wp2_with fail
    go_ret
    exact ⟨rfl, HB3.out⟩

end Go.Proofs.YtcjmplpfebpfpaaGreatDoor
