/- Part 4 of what the law's row leans on (Na): the print's words and functions, cut to what is reached, and own texts. -/
import Derived.Laws.Cover1
import Derived.Deep.RegionLaw
import Derived.Deep.CutRange
import Derived.Deep.DeepCutAuto
import Derived.Deep.CutBlock
import Derived.Deep.RegionHeld3
import Derived.BigQuiet
import Derived.Deep.DeepMust
import Derived.Test.YtcjmplpfebpfpaaGreatDoorNa3
namespace Go.Proofs.YtcjmplpfebpfpaaGreatDoor
open Go.RowKit Go.Proofs Go.Proofs.YtcjmplpfebpfpaaGreatDoorW.PrintWords Go.Proofs.YtcjmplpfebpfpaaGreatDoorW.PrintLast Go.Proofs.YtcjmplpfebpfpaaGreatDoorW.PrintMore PKindInstances
set_option linter.unusedVariables false
set_option linter.unusedSimpArgs false

def cmpStr (a b : ByteArray) : Int := if Op.bytesLess a.toList b.toList then -1 else if !(Op.bytesLess a.toList b.toList || a.toList == b.toList) then 1 else 0
mutual
/-- How two forms compare. -/
def cmpM : S24 → S24 → Int
  | ⟨a, n, s, l⟩, y =>
    if a ≠ y.f0 then Lib.compareInt a y.f0 else
    if a = 0 then Lib.compareInt n y.f1 else
    if a = 1 ∨ a = 2 then cmpStr s y.f2 else
    if a = 3 then cmpL l y.f3 else 0
def cmpL : List S24 → List S24 → Int
  | [], m => if 0 < m.length then -1 else 0
  | _ :: _, [] => 1
  | x :: l, y :: m => if cmpM x y ≠ 0 then cmpM x y else cmpL l m
end

theorem isNaN_any (a : ByteArray) (w : World) : Calls Tryz.prog 90 #[.string a] w fun e w' => e = .returned (.bool false) ∧ w = w' := by
  go_enter Tryz.func90, Tryz.ntmps90
  go_wp2
  go_ret
  exact ⟨by simp, rfl⟩

theorem cmpStr_any (a b : ByteArray) (w : World) : Calls Tryz.prog 47 #[.string a, .string b] w fun e w' => e = .returned (.int .i64 (cmpStr a b)) ∧ w = w' := by
  unfold cmpStr
  generalize hA : a.toList = A
  generalize hB : b.toList = B
  cases h1 : Op.bytesLess A B with
  | true =>
    rw [if_pos rfl]
    go_enter Tryz.func47, Tryz.ntmps47
    go_wp2_with (first | (go_at_call 90; refine (isNaN_any _ _).mono ?_; rintro e w' ⟨rfl, rfl⟩))
    go_ret
    exact ⟨rfl, rfl⟩
  | false =>
    rw [if_neg (by simp)]
    cases h2 : (A == B) with
    | true =>
      rw [if_neg (by simp)]
      go_enter Tryz.func47, Tryz.ntmps47
      go_wp2_with (first | (go_at_call 90; refine (isNaN_any _ _).mono ?_; rintro e w' ⟨rfl, rfl⟩))
      go_ret
      exact ⟨rfl, rfl⟩
    | false =>
      rw [if_pos (by simp)]
      go_enter Tryz.func47, Tryz.ntmps47
      go_wp2_with (first | (go_at_call 90; refine (isNaN_any _ _).mono ?_; rintro e w' ⟨rfl, rfl⟩))
      go_ret
      exact ⟨rfl, rfl⟩

theorem cmpInt_any (x y : Int) (w : World) : Calls Tryz.prog 154 #[.int .i64 x, .int .i64 y] w fun e w' => e = .returned (.int .i64 (Lib.compareInt x y)) ∧ w = w' := by
  refine (Tryz.cmp_Compare_int x y w).mono ?_
  rintro e w' ⟨rfl, rfl⟩
  exact ⟨rfl, rfl⟩

/-- What the call does on one form and whatever other. -/
def CmpOk (x : S24) : Prop :=
  ∀ (y : S24) (A B : Option Addr) (c d : Nat) (w : World), Kd.C k24 w A x.f3.length x.f3 → x.f3.length ≤ c → Kd.C k24 w B y.f3.length y.f3 → y.f3.length ≤ d → wid x < 9000000 → wid y < 9000000 →
    Calls Tryz.prog 137 #[formV x.f0 x.f1 x.f2 A x.f3.length c, formV y.f0 y.f1 y.f2 B y.f3.length d] w fun e w' => e = .returned (.int .i64 (cmpM x y)) ∧ Below w.heap.size w w'

/-- What holds of the loop. -/
def CmpRel (W0 : World) (l m : List S24) (R : Int) (k : Nat) (x13 : Value) (wr : World) : Prop :=
  ∃ (i : Nat), x13 = .int .i64 (i : Int) ∧ k + i = l.length ∧ i ≤ m.length ∧ Below W0.heap.size W0 wr ∧ cmpL (l.drop i) (m.drop i) = R

theorem drop_at' {l : List S24} {i : Nat} {x : S24} (hx : l[i]? = some x) : l.drop i = x :: l.drop (i + 1) := by
  obtain ⟨h, e⟩ := List.getElem?_eq_some_iff.1 hx
  rw [List.drop_eq_getElem_cons h, e]

set_option maxRecDepth 100000 in
set_option maxHeartbeats 4000000 in
theorem compareFunc_any (l m : List S24) (A B : Option Addr) (c d : Nat) (w : World) (hr : Kd.C k24 w A l.length l) (hc : l.length ≤ c) (hs : Kd.C k24 w B m.length m) (hd : m.length ≤ d) (hn : wids l < 9000000) (hm : wids m < 9000000)
    (hq : ∀ x ∈ l, CmpOk x) :
    Calls Tryz.prog 155 #[.slice A l.length c, .slice B m.length d, .func (.func 137) #[] #[]] w fun e w' => e = .returned (.int .i64 (cmpL l m)) ∧ Below w.heap.size w w' := by
  have hu24 := Tryz.underlying24
  have h1 := wids_len l
  have h2 := wids_len m
  obtain ⟨R, hR⟩ : ∃ R, R = cmpL l m := ⟨_, rfl⟩
  rw [← hR]
  have start : Hid (CmpRel w l m R l.length (.int .i64 ((0 : Nat) : Int)) w) := ⟨0, rfl, rfl, Nat.zero_le _, Below.refl _ _, hR.symm⟩
  have HR : Hid _ := hr
  have HS : Hid _ := hs
  have HQ : Hid _ := hq
  have HN : Hid (∀ x ∈ l, wid x < 9000000) := fun x hx => by have := wid_mem hx; omega
  have HM : Hid (∀ x ∈ m, wid x < 9000000) := fun x hx => by have := wid_mem hx; omega
  clear hr hs hq hR
  go_enter Tryz.func155, Tryz.ntmps155
  go_wp2_with fail
  go_loopg [13] l.length (fun k x13 wr => CmpRel w l m R k x13 wr)
  case atStart => exact start.out
  case round =>
    clear start
    obtain ⟨i, rfl, hki, him, Bl, hV⟩ := hrel
    by_cases hlt : i < l.length
    · obtain ⟨g, rfl⟩ : ∃ g, gk = g + 1 := ⟨gk - 1, by omega⟩
      have e1 : decide (i < l.length) = true := decide_eq_true hlt
      obtain ⟨x, hx⟩ : ∃ x, l[i]? = some x := ⟨l[i], by simp [hlt]⟩
      obtain ⟨ad, A3, c3, rfl, g0, g1, g2, g3, g4, g5⟩ := row_at (Kd.C_below HR.out Bl) hlt hx
      rw [drop_at' hx] at hV
      by_cases hlm : i < m.length
      · have e2 : decide (m.length ≤ i) = false := decide_eq_false (by omega)
        obtain ⟨y, hy⟩ : ∃ y, m[i]? = some y := ⟨m[i], by simp [hlm]⟩
        have bal : Below wr.heap.size wr (wr.alloc (Obj.cells #[.int .i64 x.f0, .int .i64 x.f1, .string x.f2, .slice A3 x.f3.length c3] 24)) := below_alloc (Below.refl _ _) _
        obtain ⟨ad', A4, c4, rfl, k0, k1, k2, k3, k4, k5⟩ := row_at (Kd.C_below (Kd.C_below HS.out Bl) bal) hlm hy
        rw [drop_at' hy] at hV
        simp only [cmpL] at hV
        have BL : Hid _ := Bl
        have OK : Hid _ := HQ.out x (List.mem_of_getElem? hx) y A3 A4 c3 c4 ((wr.alloc (Obj.cells #[.int .i64 x.f0, .int .i64 x.f1, .string x.f2, .slice A3 x.f3.length c3] 24)).alloc (Obj.cells #[.int .i64 y.f0, .int .i64 y.f1, .string y.f2, .slice A4 y.f3.length c4] 24)) (Kd.C_alloc (Kd.C_alloc g5 _) _) g4 (Kd.C_alloc k5 _) k4 (HN.out x (List.mem_of_getElem? hx)) (HM.out y (List.mem_of_getElem? hy))
        clear Bl g5 k5 hx hy bal
        obtain ⟨x0, x1, x2, x3⟩ := x
        obtain ⟨y0, y1, y2, y3⟩ := y
        obtain ⟨q, hq⟩ : ∃ q, q = cmpM ⟨x0, x1, x2, x3⟩ ⟨y0, y1, y2, y3⟩ := ⟨_, rfl⟩
        rw [← hq] at OK hV
        clear hq
        by_cases hz : q = 0
        · subst hz
          simp only [ne_eq, not_true_eq_false, if_false] at hV
          have HV : Hid _ := hV
          clear hV
          go_wp2_with fail
          refine Calls.mono OK.out ?_
          rintro e w2 ⟨rfl, B2⟩
          have B3 : Below w.heap.size w w2 := (below_alloc (below_alloc BL.out _) _).trans (B2.mono (below_size (below_alloc (below_alloc BL.out _) _)))
          have BH3 : Hid _ := B3
          clear B2 B3
          go_wp2_with fail
          go_roundg g
          case measure => omega
          case rel => exact ⟨i + 1, by go_num, by omega, by omega, BH3.out, HV.out⟩
        · have qz : (q == 0) = false := beq_eq_false_iff_ne.mpr hz
          have qn : (q != 0) = true := bne_iff_ne.mpr hz
          rw [if_pos hz] at hV
          subst hV
          clear hz
          go_wp2_with fail
          refine Calls.mono OK.out ?_
          rintro e w2 ⟨rfl, B2⟩
          have B3 : Below w.heap.size w w2 := (below_alloc (below_alloc BL.out _) _).trans (B2.mono (below_size (below_alloc (below_alloc BL.out _) _)))
          have BH3 : Hid _ := B3
          clear B2 B3
          go_wp2_with fail
          go_ret
          exact ⟨rfl, BH3.out⟩
      · have e2 : decide (m.length ≤ i) = true := decide_eq_true (by omega)
        have e3 : m.drop i = [] := List.drop_eq_nil_of_le (by omega)
        rw [e3] at hV
        simp only [cmpL] at hV
        subst hV
        have BL : Hid _ := below_alloc Bl (Obj.cells #[.int .i64 x.f0, .int .i64 x.f1, .string x.f2, .slice A3 x.f3.length c3] 24)
        clear Bl g5 hx e3
        obtain ⟨x0, x1, x2, x3⟩ := x
        have hge3 : m.length ≤ i := by omega
        go_wp2_with fail
        go_ret
        exact ⟨rfl, BL.out⟩
    · have e1 : decide (i < l.length) = false := decide_eq_false hlt
      have e3 : l.drop i = [] := List.drop_eq_nil_of_le (by omega)
      rw [e3] at hV
      have hil : i = l.length := by omega
      have BL : Hid _ := Bl
      clear e3 Bl
      by_cases hlm : l.length < m.length
      · have e2 : decide (l.length < m.length) = true := decide_eq_true hlm
        have e4 : (m.drop i).length = m.length - i := List.length_drop
        simp only [cmpL] at hV
        rw [if_pos (by omega)] at hV
        subst hV
        clear e4
        go_wp2_with fail
        go_ret
        exact ⟨rfl, BL.out⟩
      · have e2 : decide (l.length < m.length) = false := decide_eq_false hlm
        have e4 : (m.drop i).length = m.length - i := List.length_drop
        simp only [cmpL] at hV
        rw [if_neg (by omega)] at hV
        subst hV
        clear e4
        go_wp2_with fail
        go_ret
        exact ⟨rfl, BL.out⟩

set_option maxRecDepth 100000 in
set_option maxHeartbeats 4000000 in
theorem compare_x (a n : Int) (s : ByteArray) (l : List S24) (y0 y1 : Int) (y2 : ByteArray) (y3 : List S24) (A B : Option Addr) (c d : Nat) (w : World) (hr : Kd.C k24 w A l.length l) (hc : l.length ≤ c) (hs : Kd.C k24 w B y3.length y3) (hd : y3.length ≤ d)
    (hn : wids l < 9000000) (hm : wids y3 < 9000000) (hq : ∀ x ∈ l, CmpOk x) :
    Calls Tryz.prog 137 #[formV a n s A l.length c, formV y0 y1 y2 B y3.length d] w fun e w' => e = .returned (.int .i64 (cmpM ⟨a, n, s, l⟩ ⟨y0, y1, y2, y3⟩)) ∧ Below w.heap.size w w' := by
  have hu24 := Tryz.underlying24
  have HC : Hid _ := compareFunc_any l y3 A B c d ((w.alloc (Obj.cells #[.int .i64 a, .int .i64 n, .string s, .slice A l.length c] 24)).alloc (Obj.cells #[.int .i64 y0, .int .i64 y1, .string y2, .slice B y3.length d] 24)) (Kd.C_alloc (Kd.C_alloc hr _) _) hc (Kd.C_alloc (Kd.C_alloc hs _) _) hd hn hm hq
  clear hr hs hq
  by_cases h0 : a = y0
  · have b0 : (a != y0) = false := bne_eq_false_iff_eq.mpr h0
    subst h0
    by_cases h1 : a = 0
    · have e1 : cmpM ⟨a, n, s, l⟩ ⟨a, y1, y2, y3⟩ = Lib.compareInt n y1 := by simp [cmpM, h1]
      rw [e1]
      subst h1
      clear e1 HC
      go_enter Tryz.func137, Tryz.ntmps137
      go_wp2_with fail
      refine (cmpInt_any _ _ _).mono ?_
      rintro e w2 ⟨rfl, rfl⟩
      go_wp2_with fail
      go_ret
      exact ⟨rfl, by (repeat (first | assumption | exact Below.refl _ _ | apply below_alloc | apply pw_below_drewN | apply below_drew1))⟩
    · have b1 : (a == 0) = false := beq_eq_false_iff_ne.mpr h1
      by_cases h2 : a = 1
      · have e1 : cmpM ⟨a, n, s, l⟩ ⟨a, y1, y2, y3⟩ = cmpStr s y2 := by simp [cmpM, h2]
        rw [e1]
        subst h2
        clear e1 HC h1
        go_enter Tryz.func137, Tryz.ntmps137
        go_wp2_with fail
        refine (cmpStr_any _ _ _).mono ?_
        rintro e w2 ⟨rfl, rfl⟩
        go_wp2_with fail
        go_ret
        exact ⟨rfl, by (repeat (first | assumption | exact Below.refl _ _ | apply below_alloc | apply pw_below_drewN | apply below_drew1))⟩
      · have b2 : (a == 1) = false := beq_eq_false_iff_ne.mpr h2
        by_cases h3 : a = 2
        · have e1 : cmpM ⟨a, n, s, l⟩ ⟨a, y1, y2, y3⟩ = cmpStr s y2 := by simp [cmpM, h3]
          rw [e1]
          subst h3
          clear e1 HC h1 h2
          go_enter Tryz.func137, Tryz.ntmps137
          go_wp2_with fail
          refine (cmpStr_any _ _ _).mono ?_
          rintro e w2 ⟨rfl, rfl⟩
          go_wp2_with fail
          go_ret
          exact ⟨rfl, by (repeat (first | assumption | exact Below.refl _ _ | apply below_alloc | apply pw_below_drewN | apply below_drew1))⟩
        · have b3 : (a == 2) = false := beq_eq_false_iff_ne.mpr h3
          by_cases h4 : a = 3
          · have e1 : cmpM ⟨a, n, s, l⟩ ⟨a, y1, y2, y3⟩ = cmpL l y3 := by simp [cmpM, h4]
            rw [e1]
            subst h4
            clear e1 h1 h2 h3
            go_enter Tryz.func137, Tryz.ntmps137
            go_wp2_with fail
            refine Calls.mono HC.out ?_
            rintro e w2 ⟨rfl, B2⟩
            have B3 : Below w.heap.size w w2 := below_after (by (repeat (first | assumption | exact Below.refl _ _ | apply below_alloc | apply pw_below_drewN | apply below_drew1))) B2
            clear B2
            go_wp2_with fail
            go_ret
            exact ⟨rfl, B3⟩
          · have b4 : (a == 3) = false := beq_eq_false_iff_ne.mpr h4
            have e1 : cmpM ⟨a, n, s, l⟩ ⟨a, y1, y2, y3⟩ = 0 := by simp [cmpM, h1, h2, h3, h4]
            rw [e1]
            clear e1 HC h1 h2 h3 h4
            go_enter Tryz.func137, Tryz.ntmps137
            go_wp2_with fail
            go_ret
            exact ⟨rfl, by (repeat (first | assumption | exact Below.refl _ _ | apply below_alloc | apply pw_below_drewN | apply below_drew1))⟩
  · have b0 : (a != y0) = true := bne_iff_ne.mpr h0
    have e1 : cmpM ⟨a, n, s, l⟩ ⟨y0, y1, y2, y3⟩ = Lib.compareInt a y0 := by simp [cmpM, h0]
    rw [e1]
    clear e1 HC h0
    go_enter Tryz.func137, Tryz.ntmps137
    go_wp2_with fail
    refine (cmpInt_any _ _ _).mono ?_
    rintro e w2 ⟨rfl, rfl⟩
    go_wp2_with fail
    go_ret
    exact ⟨rfl, by (repeat (first | assumption | exact Below.refl _ _ | apply below_alloc | apply pw_below_drewN | apply below_drew1))⟩

mutual
theorem cmp_ok : ∀ x : S24, CmpOk x
  | ⟨a, n, s, l⟩ => by
    have hl := cmp_oks l
    intro y A B c d w hr hc hs hd hx hy
    obtain ⟨y0, y1, y2, y3⟩ := y
    simp only [wid] at hx hy
    exact compare_x a n s l y0 y1 y2 y3 A B c d w hr hc hs hd (by omega) (by omega) hl
theorem cmp_oks : ∀ (l : List S24), ∀ x ∈ l, CmpOk x
  | [], x, h => absurd h (List.not_mem_nil)
  | y :: l, x, h => by
    rcases List.mem_cons.1 h with h | h
    · rw [h]; exact cmp_ok y
    · exact cmp_oks l x h
end

def eqM (x y : S24) : Bool := cmpM x y == 0

set_option maxRecDepth 100000 in
theorem Equal_any (x y : S24) (A B : Option Addr) (c d : Nat) (w : World) (hr : Kd.C k24 w A x.f3.length x.f3) (hc : x.f3.length ≤ c) (hs : Kd.C k24 w B y.f3.length y.f3) (hd : y.f3.length ≤ d) (hx : wid x < 9000000) (hy : wid y < 9000000) :
    Calls Tryz.prog 96 #[formV x.f0 x.f1 x.f2 A x.f3.length c, formV y.f0 y.f1 y.f2 B y.f3.length d] w fun e w' => e = .returned (.bool (eqM x y)) ∧ Below w.heap.size w w' := by
  have hu24 := Tryz.underlying24
  have HC := fun w1 h1 h2 => cmp_ok x y A B c d w1 h1 hc h2 hd hx hy
  obtain ⟨a, n, s, l⟩ := x
  obtain ⟨y0, y1, y2, y3⟩ := y
  have HC : Hid _ := HC ((w.alloc (Obj.cells #[.int .i64 a, .int .i64 n, .string s, .slice A l.length c] 24)).alloc (Obj.cells #[.int .i64 y0, .int .i64 y1, .string y2, .slice B y3.length d] 24)) (Kd.C_alloc (Kd.C_alloc hr _) _) (Kd.C_alloc (Kd.C_alloc hs _) _)
  obtain ⟨q, hq⟩ : ∃ q, q = cmpM ⟨a, n, s, l⟩ ⟨y0, y1, y2, y3⟩ := ⟨_, rfl⟩
  unfold eqM
  rw [← hq] at HC ⊢
  clear hr hs hq hx hy
  go_enter Tryz.func96, Tryz.ntmps96
  go_wp2_with fail
  refine Calls.mono HC.out ?_
  rintro e w2 ⟨rfl, B2⟩
  have B3 : Below w.heap.size w w2 := below_after (by (repeat (first | assumption | exact Below.refl _ _ | apply below_alloc | apply pw_below_drewN | apply below_drew1))) B2
  clear B2
  go_wp2_with fail
  go_ret
  exact ⟨rfl, B3⟩

end Go.Proofs.YtcjmplpfebpfpaaGreatDoor

namespace Go.Proofs.YtcjmplpfebpfpaaGreatDoor
open Go.RowKit Go.Proofs Go.Proofs.YtcjmplpfebpfpaaGreatDoorW.PrintWords Go.Proofs.YtcjmplpfebpfpaaGreatDoorW.PrintLast Go.Proofs.YtcjmplpfebpfpaaGreatDoorW.PrintMore PKindInstances
set_option linter.unusedVariables false
set_option linter.unusedSimpArgs false

/-- An operation taken first, its slot told. -/
theorem takeV {P : Program} {ops : Array Oper} {Q : Exit → Act → World → Prop} {md : Region.Mode} {S : World → Prop} (i : Nat) (d : Option Tmp) (v : Value) {oi : Oper} {fuel : Nat} {listed : Array Bool} {a : Act} {w : World} (hi : ops[i]? = some oi) (hd : oi.dst = d)
    (hs : Region.noSelect ops = true) (hf : Region.free md ops listed i = true) (hr : (Region.ready md ops listed).contains i = true)
    (hQ : ∀ c a w, Q (.panic c) (a.put d v) w → Q (.panic c) a w) (hy : YieldsIf P ops S oi v a) (hS : S w)
    (h : wpAnyH P md ops Q S fuel (listed.setIfInBounds i true) (a.put d v) w) : wpAnyH P md ops Q S (fuel + 1) listed a w := by
  subst hd
  exact wpAnyH_take hi hs hf hr hQ hy hS h

def listsL (f : List (ByteArray × S24) → S24 → S24 → Bool → Option URes) (fn bare : Bool) : Nat → List (ByteArray × S24) → List S24 → List S24 → Option URes
  | i, mt, x :: la, y :: lb =>
    if i = 0 ∧ bare = false ∧ (x.f0 = 1 ∨ y.f0 = 1) then (if eqM x y then listsL f fn bare (i + 1) mt la lb else some (.stop 8)) else
    match f mt x y (fn && decide (i = 1) && (x.f0 == 3) && (y.f0 == 3)) with
    | none => none
    | some (.stop e) => some (.stop e)
    | some (.ok mt') => listsL f fn bare (i + 1) mt' la lb
  | _, mt, _, _ => some (.ok mt)
def listsM (f : List (ByteArray × S24) → S24 → S24 → Bool → Option URes) (mt : List (ByteArray × S24)) (a b : S24) (bare : Bool) : Option URes :=
  match listsL f (!bare && isFunW (headOf a.f0 a.f3) && isFunW (headOf b.f0 b.f3)) bare 0 mt a.f3 b.f3 with
  | none => none
  | some (.stop e) => some (.stop e)
  | some (.ok mt') => if a.f3.length = b.f3.length then some (.ok mt') else some (.stop 8)
def isVar (vs : List ByteArray) (x : S24) (bare : Bool) : Bool := !bare && (x.f0 == 1) && decide (x.f2 ∈ vs)
def unifyM (vs : List ByteArray) : Nat → List (ByteArray × S24) → S24 → S24 → Bool → Option URes
  | 0, _, _, _, _ => none
  | n + 1, mt, a, b, bare =>
    match (if bare then some a else knownM vs mt n a), (if bare then some b else knownM vs mt n b) with
    | some a', some b' =>
      if isVar vs a' bare && isVar vs b' bare && (a'.f2.toList == b'.f2.toList) then some (.ok mt) else
      if isVar vs a' bare then bindM vs mt n a'.f2 b' else
      if isVar vs b' bare then bindM vs mt n b'.f2 a' else
      if a'.f0 ≠ 3 ∨ b'.f0 ≠ 3 then (if eqM a' b' then some (.ok mt) else some (.stop 8)) else
      listsM (unifyM vs n) mt a' b' bare
    | _, _ => none

def UniOk (vs : List ByteArray) (n : Nat) : Prop :=
  ∀ (W0 w : World) (base sp vb tb : Nat) (mt : List (ByteArray × S24)) (mtv : List (ByteArray × Value)) (a b : S24) (bare : Bool) (A B : Option Addr) (c d : Nat) (R : URes), SolvAt base w sp vb tb (varsV vs) mtv → ToAt W0 mt mtv →
    Below W0.heap.size W0 w → W0.heap.size ≤ base → Kd.C k24 W0 A a.f3.length a.f3 → a.f3.length ≤ c → wid a < 9000000 → Kd.C k24 W0 B b.f3.length b.f3 → b.f3.length ≤ d → wid b < 9000000 → unifyM vs n mt a b bare = some R →
    Calls Tryz.prog 55 #[.pointer (some ⟨sp, 0, none⟩), formV a.f0 a.f1 a.f2 A a.f3.length c, formV b.f0 b.f1 b.f2 B b.f3.length d, .bool bare] w (UPost W0 w base sp vb tb vs R)

theorem UPost.from {W0 w w1 w' : World} {base sp vb tb : Nat} {vs : List ByteArray} {R : URes} {e : Ending} (h : UPost W0 w1 base sp vb tb vs R e w') (hg : w.grownBy w1 (some tb)) : UPost W0 w base sp vb tb vs R e w' := by
  cases R with
  | ok mt => exact ⟨h.1, hg.trans h.2.1, h.2.2⟩
  | stop n => exact ⟨h.1, hg.trans h.2⟩
def ListsOk (vs : List ByteArray) (n : Nat) : Prop :=
  ∀ (W0 w : World) (base sp vb tb : Nat) (mt : List (ByteArray × S24)) (mtv : List (ByteArray × Value)) (a b : S24) (bare : Bool) (A B : Option Addr) (c d : Nat) (R : URes), SolvAt base w sp vb tb (varsV vs) mtv → ToAt W0 mt mtv →
    Below W0.heap.size W0 w → W0.heap.size ≤ base → Kd.C k24 W0 A a.f3.length a.f3 → a.f3.length ≤ c → wid a < 9000000 → Kd.C k24 W0 B b.f3.length b.f3 → b.f3.length ≤ d → wid b < 9000000 → listsM (unifyM vs n) mt a b bare = some R →
    Calls Tryz.prog 97 #[.pointer (some ⟨sp, 0, none⟩), formV a.f0 a.f1 a.f2 A a.f3.length c, formV b.f0 b.f1 b.f2 B b.f3.length d, .bool bare] w (UPost W0 w base sp vb tb vs R)

set_option maxRecDepth 100000 in
set_option maxHeartbeats 4000000 in
theorem unify_x (vs : List ByteArray) (n : Nat) (W0 w : World) (base sp vb tb : Nat) (mt : List (ByteArray × S24)) (mtv : List (ByteArray × Value)) (a b : S24) (A B : Option Addr) (c d : Nat) (a' b' : S24) (hs : SolvAt base w sp vb tb (varsV vs) mtv) (ht : ToAt W0 mt mtv)
    (hw : Below W0.heap.size W0 w) (hb : W0.heap.size ≤ base) (ha1 : Kd.C k24 W0 A a.f3.length a.f3) (ha2 : a.f3.length ≤ c) (ha3 : wid a < 9000000) (hb1 : Kd.C k24 W0 B b.f3.length b.f3) (hb2 : b.f3.length ≤ d) (hb3 : wid b < 9000000)
    (hka : knownM vs mt n a = some a') (hkb : knownM vs mt n b = some b') (hL : ListsOk vs n) (R : URes)
    (hk : (if isVar vs a' false && isVar vs b' false && (a'.f2.toList == b'.f2.toList) then some (.ok mt) else if isVar vs a' false then bindM vs mt n a'.f2 b' else if isVar vs b' false then bindM vs mt n b'.f2 a' else
      if a'.f0 ≠ 3 ∨ b'.f0 ≠ 3 then (if eqM a' b' then some (.ok mt) else some (.stop 8)) else listsM (unifyM vs n) mt a' b' false) = some R) :
    Calls Tryz.prog 55 #[.pointer (some ⟨sp, 0, none⟩), formV a.f0 a.f1 a.f2 A a.f3.length c, formV b.f0 b.f1 b.f2 B b.f3.length d, .bool false] w (UPost W0 w base sp vb tb vs R) := by
  have hu24 := Tryz.underlying24
  have KA : Hid (∀ w', Below w.heap.size w w' → Calls Tryz.prog 94 #[.pointer (some ⟨sp, 0, none⟩), formV a.f0 a.f1 a.f2 A a.f3.length c] w' fun e w'' => ∃ u, e = .returned u ∧ FormAt W0 u a' ∧ Below w'.heap.size w' w'') :=
    fun w' h => known_any W0 w' base sp vb tb vs mt mtv (hs.below h) ht (hw.trans (h.mono hw.size)) a A c ha1 ha2 ha3 n a' hka
  have KB : Hid (∀ w', Below w.heap.size w w' → Calls Tryz.prog 94 #[.pointer (some ⟨sp, 0, none⟩), formV b.f0 b.f1 b.f2 B b.f3.length d] w' fun e w'' => ∃ u, e = .returned u ∧ FormAt W0 u b' ∧ Below w'.heap.size w' w'') :=
    fun w' h => known_any W0 w' base sp vb tb vs mt mtv (hs.below h) ht (hw.trans (h.mono hw.size)) b B d hb1 hb2 hb3 n b' hkb
  have HS : Hid _ := hs
  have HT : Hid _ := ht
  have HL : Hid _ := hL
  have HK : Hid _ := hk
  have HW : Hid _ := hw
  have HBs : Hid _ := hb
  clear hs ht ha1 ha3 hb1 hb3 hka hkb hL hk hw hb
  obtain ⟨m0, m1, m2, m3⟩ := a'
  obtain ⟨k0, k1, k2, k3⟩ := b'
  obtain ⟨a0, a1, a2, a3⟩ := a
  obtain ⟨b0, b1, b2, b3⟩ := b
  have hx2 : ((w.alloc (Obj.cells #[.int .i64 a0, .int .i64 a1, .string a2, .slice A a3.length c] 24)).alloc (Obj.cells #[.int .i64 b0, .int .i64 b1, .string b2, .slice B b3.length d] 24)).drew.heap[w.heap.size + 1]? = some (Obj.cells #[.int .i64 b0, .int .i64 b1, .string b2, .slice B b3.length d] 24) := by
    have h := (MapKept.heap_alloc (w.alloc (Obj.cells #[.int .i64 a0, .int .i64 a1, .string a2, .slice A a3.length c] 24)) (Obj.cells #[.int .i64 b0, .int .i64 b1, .string b2, .slice B b3.length d] 24)).1
    rw [size_new] at h
    exact h
  have hx1 : ((w.alloc (Obj.cells #[.int .i64 a0, .int .i64 a1, .string a2, .slice A a3.length c] 24)).alloc (Obj.cells #[.int .i64 b0, .int .i64 b1, .string b2, .slice B b3.length d] 24)).drew.heap[w.heap.size]? = some (Obj.cells #[.int .i64 a0, .int .i64 a1, .string a2, .slice A a3.length c] 24) :=
    (Below.heap_alloc _ _ _ (by rw [size_new]; omega)).trans (MapKept.heap_alloc w _).1
  have hxb : Below w.heap.size w ((w.alloc (Obj.cells #[.int .i64 a0, .int .i64 a1, .string a2, .slice A a3.length c] 24)).alloc (Obj.cells #[.int .i64 b0, .int .i64 b1, .string b2, .slice B b3.length d] 24)).drew := below_drew (below_alloc (below_alloc (Below.refl _ _) _) _)
  have HX1 : Hid _ := hx1
  have HX2 : Hid _ := hx2
  have HXB : Hid _ := hxb
  clear hx1 hx2 hxb
  go_enter Tryz.func55, Tryz.ntmps55
  go_upto_region 2 with fail
  go_cut [] from 12 to 17 (fun wx => Below w.heap.size w wx ∧ ∃ A5 c5 B5 d5, wx.heap[w.heap.size]? = some (.cells #[.int .i64 m0, .int .i64 m1, .string m2, .slice A5 m3.length c5] 24 (0, 0)) ∧
      wx.heap[w.heap.size + 1]? = some (.cells #[.int .i64 k0, .int .i64 k1, .string k2, .slice B5 k3.length d5] 24 (0, 0)) ∧
      Kd.C k24 W0 A5 m3.length m3 ∧ m3.length ≤ c5 ∧ wid ⟨m0, m1, m2, m3⟩ < 9000000 ∧ Kd.C k24 W0 B5 k3.length k3 ∧ k3.length ≤ d5 ∧ wid ⟨k0, k1, k2, k3⟩ < 9000000)
  case first =>
    refine wp_region_held_drew (S := fun _ => True) (by kernel_rfl) trivial (fun hHeld => ?_)
    clear hHeld
    refine takeV 0 (some 12) (.pointer (some ⟨sp, 0, none⟩)) rfl rfl (by kernel_rfl) (by kernel_rfl) (by kernel_rfl) (fun _ _ _ h => h) (Or.inl ⟨by kernel_rfl, fun W hSw => by go_simp⟩) trivial ?_
    try simp only [Act.put, List.setIfInBounds_toArray, List.set_cons_zero, List.set_cons_succ]
    refine takeV 3 (some 15) (.pointer (some ⟨sp, 0, none⟩)) rfl rfl (by kernel_rfl) (by kernel_rfl) (by kernel_rfl) (fun _ _ _ h => h) (Or.inl ⟨by kernel_rfl, fun W hSw => by go_simp⟩) trivial ?_
    try simp only [Act.put, List.setIfInBounds_toArray, List.set_cons_zero, List.set_cons_succ]
    refine wpAnyH_ready (rs := [1, 4]) (by kernel_rfl) (by simp) ?_
    refine AllReadyH.cons rfl (fun K hK => ?_) (AllReadyH.cons rfl (fun K hK => ?_) AllReadyH.nil)
    · skip
      go_simp
      refine hK.out _ _ trivial (fun hHeld => ?_)
      clear hK K hHeld
      try simp only [Act.put, List.setIfInBounds_toArray, List.set_cons_zero, List.set_cons_succ]
      refine wpAnyH_ready (rs := [2, 4]) (by kernel_rfl) (by simp) ?_
      refine AllReadyH.cons rfl (fun K hK => ?_) (AllReadyH.cons rfl (fun K hK => ?_) AllReadyH.nil)
      · skip
        go_simp
        go_at_call 94
        refine Calls.mono (KA.out _ HXB.out) ?_
        rintro e wA ⟨uA, rfl, ⟨A5, c5, rfl, u1, u2, u3⟩, BA⟩
        have haA := (BA.block _ (Array.getElem?_eq_some_iff.1 HX1.out).1).trans HX1.out
        have hbA := (BA.block _ (Array.getElem?_eq_some_iff.1 HX2.out).1).trans HX2.out
        obtain ⟨q0, q1, q2, q3⟩ := cells4 hbA
        have BwA : Hid _ := below_after HXB.out BA
        have HA1 : Hid _ := haA
        have HA2 : Hid _ := hbA
        have U1 : Hid _ := u1
        clear BA haA hbA u1
        go_wp2_with fail
        refine hK.out _ _ trivial (fun hHeld => ?_)
        clear hK K hHeld
        try simp only [Act.put, List.setIfInBounds_toArray, List.set_cons_zero, List.set_cons_succ]
        refine wpAnyH_ready (rs := [4]) (by kernel_rfl) (by simp) ?_
        refine AllReadyH.cons rfl (fun K hK => ?_) AllReadyH.nil
        go_simp
        refine hK.out _ _ trivial (fun hHeld => ?_)
        clear hK K hHeld
        try simp only [Act.put, List.setIfInBounds_toArray, List.set_cons_zero, List.set_cons_succ]
        refine wpAnyH_ready (rs := [5]) (by kernel_rfl) (by simp) ?_
        refine AllReadyH.cons rfl (fun K hK => ?_) AllReadyH.nil
        go_simp
        go_at_call 94
        refine Calls.mono (KB.out _ BwA.out) ?_
        rintro e wB ⟨uB, rfl, ⟨B5, d5, rfl, v1, v2, v3⟩, BB⟩
        have haB := (BB.block _ (Array.getElem?_eq_some_iff.1 HA1.out).1).trans HA1.out
        have hbB := (BB.block _ (Array.getElem?_eq_some_iff.1 HA2.out).1).trans HA2.out
        obtain ⟨s0, s1, s2, s3⟩ := cells4 haB
        obtain ⟨t0, t1, t2, t3⟩ := cells4 hbB
        have f0 := frozen4 (i := 0) haB
        have f1 := frozen4 (i := 1) haB
        have f2 := frozen4 (i := 2) haB
        have f3 := frozen4 (i := 3) haB
        have g0 := frozen4 (i := 0) hbB
        have g1 := frozen4 (i := 1) hbB
        have g2 := frozen4 (i := 2) hbB
        have g3 := frozen4 (i := 3) hbB
        have BwB : Hid _ := below_after BwA.out BB
        have HB1 : Hid _ := haB
        have HB2 : Hid _ := hbB
        have V1 : Hid _ := v1
        clear BB haB hbB v1 q0 q1 q2 q3
        go_wp2_with fail
        refine hK.out _ _ trivial (fun hHeld => ?_)
        clear hK K hHeld
        try simp only [Act.put, List.setIfInBounds_toArray, List.set_cons_zero, List.set_cons_succ]
        refine wpAnyH_ready (rs := [6]) (by kernel_rfl) (by simp) ?_
        refine AllReadyH.cons rfl (fun K hK => ?_) AllReadyH.nil
        go_simp
        refine hK.out _ _ trivial (fun hHeld => ?_)
        clear hK K hHeld
        try simp only [Act.put, List.setIfInBounds_toArray, List.set_cons_zero, List.set_cons_succ]
        refine wpAnyH_ready (rs := [7]) (by kernel_rfl) (by simp) ?_
        refine AllReadyH.cons rfl (fun K hK => ?_) AllReadyH.nil
        go_simp
        refine hK.out _ _ trivial (fun hHeld => ?_)
        clear hK K hHeld
        try simp only [Act.put, List.setIfInBounds_toArray, List.set_cons_zero, List.set_cons_succ]
        refine wpAnyH_done (by kernel_rfl) ?_ _
        go_wp2_with fail
        go_meet
        case rel => exact ⟨below4 (below4 BwB.out (Nat.le_refl _)) (by omega), A5, c5, B5, d5, (stay4 (by omega)).trans (set4 HB1.out), set4 ((stay4 (by omega)).trans HB2.out), U1.out, u2, u3, V1.out, v2, v3⟩
      · skip
        go_simp
        refine hK.out _ _ trivial (fun hHeld => ?_)
        clear hK K hHeld
        try simp only [Act.put, List.setIfInBounds_toArray, List.set_cons_zero, List.set_cons_succ]
        refine wpAnyH_ready (rs := [2]) (by kernel_rfl) (by simp) ?_
        refine AllReadyH.cons rfl (fun K hK => ?_) AllReadyH.nil
        go_simp
        go_at_call 94
        refine Calls.mono (KA.out _ HXB.out) ?_
        rintro e wA ⟨uA, rfl, ⟨A5, c5, rfl, u1, u2, u3⟩, BA⟩
        have haA := (BA.block _ (Array.getElem?_eq_some_iff.1 HX1.out).1).trans HX1.out
        have hbA := (BA.block _ (Array.getElem?_eq_some_iff.1 HX2.out).1).trans HX2.out
        obtain ⟨q0, q1, q2, q3⟩ := cells4 hbA
        have BwA : Hid _ := below_after HXB.out BA
        have HA1 : Hid _ := haA
        have HA2 : Hid _ := hbA
        have U1 : Hid _ := u1
        clear BA haA hbA u1
        go_wp2_with fail
        refine hK.out _ _ trivial (fun hHeld => ?_)
        clear hK K hHeld
        try simp only [Act.put, List.setIfInBounds_toArray, List.set_cons_zero, List.set_cons_succ]
        refine wpAnyH_ready (rs := [5]) (by kernel_rfl) (by simp) ?_
        refine AllReadyH.cons rfl (fun K hK => ?_) AllReadyH.nil
        go_simp
        go_at_call 94
        refine Calls.mono (KB.out _ BwA.out) ?_
        rintro e wB ⟨uB, rfl, ⟨B5, d5, rfl, v1, v2, v3⟩, BB⟩
        have haB := (BB.block _ (Array.getElem?_eq_some_iff.1 HA1.out).1).trans HA1.out
        have hbB := (BB.block _ (Array.getElem?_eq_some_iff.1 HA2.out).1).trans HA2.out
        obtain ⟨s0, s1, s2, s3⟩ := cells4 haB
        obtain ⟨t0, t1, t2, t3⟩ := cells4 hbB
        have f0 := frozen4 (i := 0) haB
        have f1 := frozen4 (i := 1) haB
        have f2 := frozen4 (i := 2) haB
        have f3 := frozen4 (i := 3) haB
        have g0 := frozen4 (i := 0) hbB
        have g1 := frozen4 (i := 1) hbB
        have g2 := frozen4 (i := 2) hbB
        have g3 := frozen4 (i := 3) hbB
        have BwB : Hid _ := below_after BwA.out BB
        have HB1 : Hid _ := haB
        have HB2 : Hid _ := hbB
        have V1 : Hid _ := v1
        clear BB haB hbB v1 q0 q1 q2 q3
        go_wp2_with fail
        refine hK.out _ _ trivial (fun hHeld => ?_)
        clear hK K hHeld
        try simp only [Act.put, List.setIfInBounds_toArray, List.set_cons_zero, List.set_cons_succ]
        refine wpAnyH_ready (rs := [6]) (by kernel_rfl) (by simp) ?_
        refine AllReadyH.cons rfl (fun K hK => ?_) AllReadyH.nil
        go_simp
        refine hK.out _ _ trivial (fun hHeld => ?_)
        clear hK K hHeld
        try simp only [Act.put, List.setIfInBounds_toArray, List.set_cons_zero, List.set_cons_succ]
        refine wpAnyH_ready (rs := [7]) (by kernel_rfl) (by simp) ?_
        refine AllReadyH.cons rfl (fun K hK => ?_) AllReadyH.nil
        go_simp
        refine hK.out _ _ trivial (fun hHeld => ?_)
        clear hK K hHeld
        try simp only [Act.put, List.setIfInBounds_toArray, List.set_cons_zero, List.set_cons_succ]
        refine wpAnyH_done (by kernel_rfl) ?_ _
        go_wp2_with fail
        go_meet
        case rel => exact ⟨below4 (below4 BwB.out (Nat.le_refl _)) (by omega), A5, c5, B5, d5, (stay4 (by omega)).trans (set4 HB1.out), set4 ((stay4 (by omega)).trans HB2.out), U1.out, u2, u3, V1.out, v2, v3⟩
    · skip
      go_simp
      refine hK.out _ _ trivial (fun hHeld => ?_)
      clear hK K hHeld
      try simp only [Act.put, List.setIfInBounds_toArray, List.set_cons_zero, List.set_cons_succ]
      refine wpAnyH_ready (rs := [1]) (by kernel_rfl) (by simp) ?_
      refine AllReadyH.cons rfl (fun K hK => ?_) AllReadyH.nil
      go_simp
      refine hK.out _ _ trivial (fun hHeld => ?_)
      clear hK K hHeld
      try simp only [Act.put, List.setIfInBounds_toArray, List.set_cons_zero, List.set_cons_succ]
      refine wpAnyH_ready (rs := [2]) (by kernel_rfl) (by simp) ?_
      refine AllReadyH.cons rfl (fun K hK => ?_) AllReadyH.nil
      go_simp
      go_at_call 94
      refine Calls.mono (KA.out _ HXB.out) ?_
      rintro e wA ⟨uA, rfl, ⟨A5, c5, rfl, u1, u2, u3⟩, BA⟩
      have haA := (BA.block _ (Array.getElem?_eq_some_iff.1 HX1.out).1).trans HX1.out
      have hbA := (BA.block _ (Array.getElem?_eq_some_iff.1 HX2.out).1).trans HX2.out
      obtain ⟨q0, q1, q2, q3⟩ := cells4 hbA
      have BwA : Hid _ := below_after HXB.out BA
      have HA1 : Hid _ := haA
      have HA2 : Hid _ := hbA
      have U1 : Hid _ := u1
      clear BA haA hbA u1
      go_wp2_with fail
      refine hK.out _ _ trivial (fun hHeld => ?_)
      clear hK K hHeld
      try simp only [Act.put, List.setIfInBounds_toArray, List.set_cons_zero, List.set_cons_succ]
      refine wpAnyH_ready (rs := [5]) (by kernel_rfl) (by simp) ?_
      refine AllReadyH.cons rfl (fun K hK => ?_) AllReadyH.nil
      go_simp
      go_at_call 94
      refine Calls.mono (KB.out _ BwA.out) ?_
      rintro e wB ⟨uB, rfl, ⟨B5, d5, rfl, v1, v2, v3⟩, BB⟩
      have haB := (BB.block _ (Array.getElem?_eq_some_iff.1 HA1.out).1).trans HA1.out
      have hbB := (BB.block _ (Array.getElem?_eq_some_iff.1 HA2.out).1).trans HA2.out
      obtain ⟨s0, s1, s2, s3⟩ := cells4 haB
      obtain ⟨t0, t1, t2, t3⟩ := cells4 hbB
      have f0 := frozen4 (i := 0) haB
      have f1 := frozen4 (i := 1) haB
      have f2 := frozen4 (i := 2) haB
      have f3 := frozen4 (i := 3) haB
      have g0 := frozen4 (i := 0) hbB
      have g1 := frozen4 (i := 1) hbB
      have g2 := frozen4 (i := 2) hbB
      have g3 := frozen4 (i := 3) hbB
      have BwB : Hid _ := below_after BwA.out BB
      have HB1 : Hid _ := haB
      have HB2 : Hid _ := hbB
      have V1 : Hid _ := v1
      clear BB haB hbB v1 q0 q1 q2 q3
      go_wp2_with fail
      refine hK.out _ _ trivial (fun hHeld => ?_)
      clear hK K hHeld
      try simp only [Act.put, List.setIfInBounds_toArray, List.set_cons_zero, List.set_cons_succ]
      refine wpAnyH_ready (rs := [6]) (by kernel_rfl) (by simp) ?_
      refine AllReadyH.cons rfl (fun K hK => ?_) AllReadyH.nil
      go_simp
      refine hK.out _ _ trivial (fun hHeld => ?_)
      clear hK K hHeld
      try simp only [Act.put, List.setIfInBounds_toArray, List.set_cons_zero, List.set_cons_succ]
      refine wpAnyH_ready (rs := [7]) (by kernel_rfl) (by simp) ?_
      refine AllReadyH.cons rfl (fun K hK => ?_) AllReadyH.nil
      go_simp
      refine hK.out _ _ trivial (fun hHeld => ?_)
      clear hK K hHeld
      try simp only [Act.put, List.setIfInBounds_toArray, List.set_cons_zero, List.set_cons_succ]
      refine wpAnyH_done (by kernel_rfl) ?_ _
      go_wp2_with fail
      go_meet
      case rel => exact ⟨below4 (below4 BwB.out (Nat.le_refl _)) (by omega), A5, c5, B5, d5, (stay4 (by omega)).trans (set4 HB1.out), set4 ((stay4 (by omega)).trans HB2.out), U1.out, u2, u3, V1.out, v2, v3⟩
  case rest =>
    obtain ⟨hB, A5, c5, B5, d5, hx, hy, u1, u2, u3, v1, v2, v3⟩ := hcut
    obtain ⟨p0, p1, p2, p3⟩ := cells4 hx
    obtain ⟨q0, q1, q2, q3⟩ := cells4 hy
    have S2 := HS.out.below hB
    have c0 := S2.c0
    have ra := fun m => look_drewN S2 m2 m
    have rb := fun m => look_drewN S2 k2 m
    have HBw : Hid _ := hB
    have HX : Hid _ := hx
    have HY : Hid _ := hy
    have SS : Hid _ := S2
    have U1 : Hid _ := u1
    have V1 : Hid _ := v1
    clear hB hx hy S2 u1 v1
    obtain ⟨va, hva0⟩ : ∃ va, va = isVar vs ⟨m0, m1, m2, m3⟩ false := ⟨_, rfl⟩
    obtain ⟨vb', hvb0⟩ : ∃ vb', vb' = isVar vs ⟨k0, k1, k2, k3⟩ false := ⟨_, rfl⟩
    have hva : Hid _ := hva0
    have hvb : Hid _ := hvb0
    clear hva0 hvb0
    go_upto_region 3 with fail
    go_cut [8, 9] from 18 to 49 (fun x8 x9 wx => x8 = .bool va ∧ x9 = .bool vb' ∧ Below w.heap.size w wx ∧ wx.heap[w.heap.size]? = some (.cells #[.int .i64 m0, .int .i64 m1, .string m2, .slice A5 m3.length c5] 24 (0, 0)) ∧
      wx.heap[w.heap.size + 1]? = some (.cells #[.int .i64 k0, .int .i64 k1, .string k2, .slice B5 k3.length d5] 24 (0, 0)))
    case first =>
      by_cases ha0 : m0 = 1
      · subst ha0
        cases ham : decide (m2 ∈ vs) with
        | false =>
          simp only [ham] at ra
          have han : m2 ∉ vs := of_decide_eq_false ham
          obtain rfl : va = false := by rw [hva.out]; simp [isVar, han]
          clear ham han
          by_cases hb0 : k0 = 1
          · subst hb0
            cases hbm : decide (k2 ∈ vs) with
            | false =>
              simp only [hbm] at rb
              have hbn : k2 ∉ vs := of_decide_eq_false hbm
              obtain rfl : vb' = false := by rw [hvb.out]; simp [isVar, hbn]
              clear hbm hbn
              go_big_quiet (fail)
              go_wp2_with fail
              go_meet
              case rel => exact ⟨rfl, rfl, pw_below_drewN HBw.out nq, (heap_drewN _ _ _).trans HX.out, (heap_drewN _ _ _).trans HY.out⟩
            | true =>
              simp only [hbm] at rb
              have hbn : k2 ∈ vs := of_decide_eq_true hbm
              obtain rfl : vb' = true := by rw [hvb.out]; simp [isVar, hbn]
              clear hbm hbn
              go_big_quiet (fail)
              go_wp2_with fail
              go_meet
              case rel => exact ⟨rfl, rfl, pw_below_drewN HBw.out nq, (heap_drewN _ _ _).trans HX.out, (heap_drewN _ _ _).trans HY.out⟩
          · have bb : (k0 == 1) = false := beq_eq_false_iff_ne.mpr hb0
            obtain rfl : vb' = false := by rw [hvb.out]; simp [isVar, hb0]
            clear hb0
            go_big_quiet (fail)
            go_wp2_with fail
            go_meet
            case rel => exact ⟨rfl, rfl, pw_below_drewN HBw.out nq, (heap_drewN _ _ _).trans HX.out, (heap_drewN _ _ _).trans HY.out⟩
        | true =>
          simp only [ham] at ra
          have han : m2 ∈ vs := of_decide_eq_true ham
          obtain rfl : va = true := by rw [hva.out]; simp [isVar, han]
          clear ham han
          by_cases hb0 : k0 = 1
          · subst hb0
            cases hbm : decide (k2 ∈ vs) with
            | false =>
              simp only [hbm] at rb
              have hbn : k2 ∉ vs := of_decide_eq_false hbm
              obtain rfl : vb' = false := by rw [hvb.out]; simp [isVar, hbn]
              clear hbm hbn
              go_big_quiet (fail)
              go_wp2_with fail
              go_meet
              case rel => exact ⟨rfl, rfl, pw_below_drewN HBw.out nq, (heap_drewN _ _ _).trans HX.out, (heap_drewN _ _ _).trans HY.out⟩
            | true =>
              simp only [hbm] at rb
              have hbn : k2 ∈ vs := of_decide_eq_true hbm
              obtain rfl : vb' = true := by rw [hvb.out]; simp [isVar, hbn]
              clear hbm hbn
              go_big_quiet (fail)
              go_wp2_with fail
              go_meet
              case rel => exact ⟨rfl, rfl, pw_below_drewN HBw.out nq, (heap_drewN _ _ _).trans HX.out, (heap_drewN _ _ _).trans HY.out⟩
          · have bb : (k0 == 1) = false := beq_eq_false_iff_ne.mpr hb0
            obtain rfl : vb' = false := by rw [hvb.out]; simp [isVar, hb0]
            clear hb0
            go_big_quiet (fail)
            go_wp2_with fail
            go_meet
            case rel => exact ⟨rfl, rfl, pw_below_drewN HBw.out nq, (heap_drewN _ _ _).trans HX.out, (heap_drewN _ _ _).trans HY.out⟩
      · have ab : (m0 == 1) = false := beq_eq_false_iff_ne.mpr ha0
        obtain rfl : va = false := by rw [hva.out]; simp [isVar, ha0]
        clear ha0
        by_cases hb0 : k0 = 1
        · subst hb0
          cases hbm : decide (k2 ∈ vs) with
          | false =>
            simp only [hbm] at rb
            have hbn : k2 ∉ vs := of_decide_eq_false hbm
            obtain rfl : vb' = false := by rw [hvb.out]; simp [isVar, hbn]
            clear hbm hbn
            go_big_quiet (fail)
            go_wp2_with fail
            go_meet
            case rel => exact ⟨rfl, rfl, pw_below_drewN HBw.out nq, (heap_drewN _ _ _).trans HX.out, (heap_drewN _ _ _).trans HY.out⟩
          | true =>
            simp only [hbm] at rb
            have hbn : k2 ∈ vs := of_decide_eq_true hbm
            obtain rfl : vb' = true := by rw [hvb.out]; simp [isVar, hbn]
            clear hbm hbn
            go_big_quiet (fail)
            go_wp2_with fail
            go_meet
            case rel => exact ⟨rfl, rfl, pw_below_drewN HBw.out nq, (heap_drewN _ _ _).trans HX.out, (heap_drewN _ _ _).trans HY.out⟩
        · have bb : (k0 == 1) = false := beq_eq_false_iff_ne.mpr hb0
          obtain rfl : vb' = false := by rw [hvb.out]; simp [isVar, hb0]
          clear hb0
          go_big_quiet (fail)
          go_wp2_with fail
          go_meet
          case rel => exact ⟨rfl, rfl, pw_below_drewN HBw.out nq, (heap_drewN _ _ _).trans HX.out, (heap_drewN _ _ _).trans HY.out⟩
    case rest =>
      obtain ⟨rfl, rfl, hB, hx, hy⟩ := hcut
      obtain ⟨p0, p1, p2, p3⟩ := cells4 hx
      obtain ⟨q0, q1, q2, q3⟩ := cells4 hy
      have G : Hid (w.grownBy wc (some tb)) := grown_of_below hB (some tb)
      have S3 : Hid _ := HS.out.below hB
      have W3 : Hid (Below W0.heap.size W0 wc) := HW.out.trans (hB.mono HW.out.size)
      have hK := HK.out
      rw [← hva.out, ← hvb.out] at hK
      clear hx hy hB ra rb HX HY HBw SS
      cases va with
      | true =>
        cases vb' with
        | true =>
          cases hte : (m2.toList == k2.toList) with
          | true =>
            simp only [hte, Bool.and_true, Bool.true_and, if_true, Option.some.injEq] at hK
            subst hK
            go_wp2_with fail
            go_end0
            exact ⟨rfl, G.out, mtv, S3.out, HT.out⟩
          | false =>
            simp only [hte, Bool.and_false, Bool.false_eq_true, if_false, if_true] at hK
            have BI : Hid _ := bind_any W0 wc base sp vb tb vs mt mtv S3.out HT.out W3.out m2 ⟨k0, k1, k2, k3⟩ B5 d5 V1.out v2 v3 n R hK
            clear hK
            go_wp2_with fail
            refine Calls.mono BI.out ?_
            rintro e w5 h5
            have h6 := h5.from G.out
            clear h5
            cases R with
            | ok mt2 =>
              obtain ⟨rfl, h7⟩ := h6
              have H7 : Hid _ := h7
              clear h7
              go_wp2_with fail
              go_end0
              exact ⟨rfl, H7.out⟩
            | stop e2 =>
              obtain ⟨rfl, h7⟩ := h6
              have H7 : Hid _ := h7
              clear h7
              go_wp2_with fail
              exact ⟨rfl, rfl, H7.out⟩
        | false =>
          simp only [Bool.and_false, Bool.false_and, Bool.false_eq_true, if_false, if_true] at hK
          have BI : Hid _ := bind_any W0 wc base sp vb tb vs mt mtv S3.out HT.out W3.out m2 ⟨k0, k1, k2, k3⟩ B5 d5 V1.out v2 v3 n R hK
          clear hK
          go_wp2_with fail
          refine Calls.mono BI.out ?_
          rintro e w5 h5
          have h6 := h5.from G.out
          clear h5
          cases R with
          | ok mt2 =>
            obtain ⟨rfl, h7⟩ := h6
            have H7 : Hid _ := h7
            clear h7
            go_wp2_with fail
            go_end0
            exact ⟨rfl, H7.out⟩
          | stop e2 =>
            obtain ⟨rfl, h7⟩ := h6
            have H7 : Hid _ := h7
            clear h7
            go_wp2_with fail
            exact ⟨rfl, rfl, H7.out⟩
      | false =>
        cases vb' with
        | true =>
          simp only [Bool.false_and, Bool.false_eq_true, if_false, if_true] at hK
          have BI : Hid _ := bind_any W0 wc base sp vb tb vs mt mtv S3.out HT.out W3.out k2 ⟨m0, m1, m2, m3⟩ A5 c5 U1.out u2 u3 n R hK
          clear hK
          go_wp2_with fail
          refine Calls.mono BI.out ?_
          rintro e w5 h5
          have h6 := h5.from G.out
          clear h5
          cases R with
          | ok mt2 =>
            obtain ⟨rfl, h7⟩ := h6
            have H7 : Hid _ := h7
            clear h7
            go_wp2_with fail
            go_end0
            exact ⟨rfl, H7.out⟩
          | stop e2 =>
            obtain ⟨rfl, h7⟩ := h6
            have H7 : Hid _ := h7
            clear h7
            go_wp2_with fail
            exact ⟨rfl, rfl, H7.out⟩
        | false =>
          simp only [Bool.false_and, Bool.false_eq_true, if_false] at hK
          by_cases h33 : m0 = 3 ∧ k0 = 3
          · obtain ⟨e3, e4⟩ := h33
            subst e3
            subst e4
            rw [if_neg (by simp)] at hK
            have BI : Hid _ := HL.out W0 wc base sp vb tb mt mtv ⟨3, m1, m2, m3⟩ ⟨3, k1, k2, k3⟩ false A5 B5 c5 d5 R S3.out HT.out W3.out HBs.out U1.out u2 u3 V1.out v2 v3 hK
            clear hK
            go_wp2_with fail
            refine Calls.mono BI.out ?_
            rintro e w5 h5
            have h6 := h5.from G.out
            clear h5
            cases R with
            | ok mt2 =>
              obtain ⟨rfl, h7⟩ := h6
              have H7 : Hid _ := h7
              clear h7
              go_wp2_with fail
              go_end0
              exact ⟨rfl, H7.out⟩
            | stop e2 =>
              obtain ⟨rfl, h7⟩ := h6
              have H7 : Hid _ := h7
              clear h7
              go_wp2_with fail
              exact ⟨rfl, rfl, H7.out⟩
          · rw [if_pos (by rcases Classical.em (m0 = 3) with h | h; exact .inr (fun h2 => h33 ⟨h, h2⟩); exact .inl h)] at hK
            have EQ : Hid _ := Equal_any ⟨m0, m1, m2, m3⟩ ⟨k0, k1, k2, k3⟩ A5 B5 c5 d5 wc (Kd.C_below U1.out W3.out) u2 (Kd.C_below V1.out W3.out) v2 u3 v3
            obtain ⟨q, hq⟩ : ∃ q, q = eqM ⟨m0, m1, m2, m3⟩ ⟨k0, k1, k2, k3⟩ := ⟨_, rfl⟩
            rw [← hq] at hK EQ
            clear hq
            have b33 : (m0 != 3) = true ∨ (m0 != 3) = false ∧ (k0 != 3) = true := by
              by_cases h : m0 = 3
              · exact .inr ⟨by simp [h], by simp; exact fun h2 => h33 ⟨h, h2⟩⟩
              · exact .inl (by simp [h])
            clear h33
            rcases b33 with b3 | ⟨b3, b4⟩
            · cases q with
              | true =>
                simp only [if_true, Option.some.injEq] at hK
                subst hK
                go_wp2_with fail
                refine Calls.mono EQ.out ?_
                rintro e w5 ⟨rfl, B5'⟩
                have S5 : Hid _ := S3.out.below B5'
                have G5 : Hid _ := G.out.trans (grown_of_below B5' (some tb))
                clear B5'
                go_wp2_with fail
                go_end0
                exact ⟨rfl, G5.out, mtv, S5.out, HT.out⟩
              | false =>
                simp only [Bool.false_eq_true, if_false, Option.some.injEq] at hK
                subst hK
                go_wp2_with fail
                refine Calls.mono EQ.out ?_
                rintro e w5 ⟨rfl, B5'⟩
                have G5 : Hid _ := G.out.trans (grown_of_below B5' (some tb))
                clear B5'
                go_wp2_with fail
                exact ⟨rfl, rfl, G5.out⟩
            · cases q with
              | true =>
                simp only [if_true, Option.some.injEq] at hK
                subst hK
                go_wp2_with fail
                refine Calls.mono EQ.out ?_
                rintro e w5 ⟨rfl, B5'⟩
                have S5 : Hid _ := S3.out.below B5'
                have G5 : Hid _ := G.out.trans (grown_of_below B5' (some tb))
                clear B5'
                go_wp2_with fail
                go_end0
                exact ⟨rfl, G5.out, mtv, S5.out, HT.out⟩
              | false =>
                simp only [Bool.false_eq_true, if_false, Option.some.injEq] at hK
                subst hK
                go_wp2_with fail
                refine Calls.mono EQ.out ?_
                rintro e w5 ⟨rfl, B5'⟩
                have G5 : Hid _ := G.out.trans (grown_of_below B5' (some tb))
                clear B5'
                go_wp2_with fail
                exact ⟨rfl, rfl, G5.out⟩

end Go.Proofs.YtcjmplpfebpfpaaGreatDoor

namespace Go.Proofs.YtcjmplpfebpfpaaGreatDoor
open Go.RowKit Go.Proofs Go.Proofs.YtcjmplpfebpfpaaGreatDoorW.PrintWords Go.Proofs.YtcjmplpfebpfpaaGreatDoorW.PrintLast Go.Proofs.YtcjmplpfebpfpaaGreatDoorW.PrintMore PKindInstances
set_option linter.unusedVariables false
set_option linter.unusedSimpArgs false

/-- What apply answers: its parts lie in what came in or in new memory. -/
def AppPost (w : World) (ok : Nat → Prop) (r : S24) (e : Ending) (w' : World) : Prop :=
  ∃ A c, e = .returned (formV r.f0 r.f1 r.f2 A r.f3.length c) ∧ r.f3.length ≤ c ∧ Kd.F k24 w' (fun k => ok k ∨ w.heap.size ≤ k) A r.f3.length r.f3 ∧ Below w.heap.size w w'
def AppOk (by_ : List S51) (x : S24) : Prop :=
  ∀ (w : World) (ok : Nat → Prop) (A AB : Option Addr) (c cb : Nat) (bare : Bool), Kd.F k24 w ok A x.f3.length x.f3 → x.f3.length ≤ c → wid x < 9000000 → Kd.F k51 w ok AB by_.length by_ → by_.length ≤ cb → by_.length < 9000000 →
    Calls Tryz.prog 39 #[formV x.f0 x.f1 x.f2 A x.f3.length c, .slice AB by_.length cb, .bool bare] w (AppPost w ok (appM (findK by_) x bare))

set_option maxRecDepth 100000 in
set_option maxHeartbeats 4000000 in
/-- No list, and no word that is replaced. -/
theorem app_leaf (a n : Int) (s : ByteArray) (l : List S24) (w : World) (ok : Nat → Prop) (A AB : Option Addr) (c nb cb : Nat) (bare : Bool) (hr : Kd.F k24 w ok A l.length l) (hc : l.length ≤ c) (h1 : a ≠ 1 ∨ bare = true) (h3 : a ≠ 3) :
    Calls Tryz.prog 39 #[formV a n s A l.length c, .slice AB nb cb, .bool bare] w (AppPost w ok ⟨a, n, s, l⟩) := by
  have hu24 := Tryz.underlying24
  have b3 : (a != 3) = true := bne_iff_ne.mpr h3
  obtain ⟨x1, x2, xb⟩ := twoB w (Obj.cells #[.int .i64 a, .int .i64 n, .string s, .slice A l.length c] 24) (Obj.cells #[.int .i64 0, .int .i64 0, .string ⟨#[]⟩, .slice none 0 0] 24)
  have XB : Hid _ := xb
  have X2 : Hid _ := x2
  have HR : Hid (Kd.F k24 w ok A l.length l) := hr
  clear hr xb
  rcases h1 with h1 | h1
  · have b1 : (a == 1) = false := beq_eq_false_iff_ne.mpr h1
    go_enter Tryz.func39, Tryz.ntmps39
    go_upto_region 1 with fail
    generalize (w.alloc (Obj.cells #[.int .i64 a, .int .i64 n, .string s, .slice A l.length c] 24)).alloc (Obj.cells #[.int .i64 0, .int .i64 0, .string ⟨#[]⟩, .slice none 0 0] 24) = X at *
    obtain ⟨p0, p1, p2, p3⟩ := cells4 x1
    obtain ⟨q0, q1, q2, q3⟩ := cells4 x2
    have f0 := frozen4 (i := 0) x2
    have f1 := frozen4 (i := 1) x2
    have f2 := frozen4 (i := 2) x2
    have f3 := frozen4 (i := 3) x2
    clear x1 x2
    go_wp2_with fail
    refine bodyPost_ret (results_cell_row rfl _ _ (w.heap.size + 1) 24 #[.int .i64 a, .int .i64 n, .string s, .slice A l.length c] (0, 0) _ rfl (set4 X2.out) Tryz.underlying24 rfl (by kernel_rfl)) rfl ⟨A, c, rfl, hc, ?_, below4 XB.out (by omega)⟩
    exact Kd.F_mono (Kd.F_below HR.out (below4 XB.out (by omega))) (fun k hk => .inl hk)
  · subst h1
    go_enter Tryz.func39, Tryz.ntmps39
    go_upto_region 1 with fail
    generalize (w.alloc (Obj.cells #[.int .i64 a, .int .i64 n, .string s, .slice A l.length c] 24)).alloc (Obj.cells #[.int .i64 0, .int .i64 0, .string ⟨#[]⟩, .slice none 0 0] 24) = X at *
    obtain ⟨p0, p1, p2, p3⟩ := cells4 x1
    obtain ⟨q0, q1, q2, q3⟩ := cells4 x2
    have f0 := frozen4 (i := 0) x2
    have f1 := frozen4 (i := 1) x2
    have f2 := frozen4 (i := 2) x2
    have f3 := frozen4 (i := 3) x2
    clear x1 x2
    by_cases e1 : a = 1
    · have b1 : (a == 1) = true := beq_iff_eq.mpr e1
      clear e1
      go_wp2_with fail
      refine bodyPost_ret (results_cell_row rfl _ _ (w.heap.size + 1) 24 #[.int .i64 a, .int .i64 n, .string s, .slice A l.length c] (0, 0) _ rfl (set4 X2.out) Tryz.underlying24 rfl (by kernel_rfl)) rfl ⟨A, c, rfl, hc, ?_, below4 XB.out (by omega)⟩
      exact Kd.F_mono (Kd.F_below HR.out (below4 XB.out (by omega))) (fun k hk => .inl hk)
    · have b1 : (a == 1) = false := beq_eq_false_iff_ne.mpr e1
      clear e1
      go_wp2_with fail
      refine bodyPost_ret (results_cell_row rfl _ _ (w.heap.size + 1) 24 #[.int .i64 a, .int .i64 n, .string s, .slice A l.length c] (0, 0) _ rfl (set4 X2.out) Tryz.underlying24 rfl (by kernel_rfl)) rfl ⟨A, c, rfl, hc, ?_, below4 XB.out (by omega)⟩
      exact Kd.F_mono (Kd.F_below HR.out (below4 XB.out (by omega))) (fun k hk => .inl hk)

end Go.Proofs.YtcjmplpfebpfpaaGreatDoor

namespace Go.Proofs.YtcjmplpfebpfpaaGreatDoor
open Go.RowKit Go.Proofs Go.Proofs.YtcjmplpfebpfpaaGreatDoorW.PrintWords Go.Proofs.YtcjmplpfebpfpaaGreatDoorW.PrintLast Go.Proofs.YtcjmplpfebpfpaaGreatDoorW.PrintMore PKindInstances
set_option linter.unusedVariables false
set_option linter.unusedSimpArgs false

set_option maxRecDepth 100000 in
set_option maxHeartbeats 8000000 in
/-- A word that nothing stands for. -/
theorem app_keep (n : Int) (s : ByteArray) (l : List S24) (by_ : List S51) (w : World) (ok : Nat → Prop) (A AB : Option Addr) (c cb : Nat) (hr : Kd.F k24 w ok A l.length l) (hc : l.length ≤ c) (hby : Kd.F k51 w ok AB by_.length by_) (hbc : by_.length ≤ cb) (hbn : by_.length < 9000000) (hf : findK by_ s = none) :
    Calls Tryz.prog 39 #[formV 1 n s A l.length c, .slice AB by_.length cb, .bool false] w (AppPost w ok ⟨1, n, s, l⟩) := by
  have hu24 := Tryz.underlying24
  have hu51 := Tryz.underlying51
  obtain ⟨x1, x2, xb⟩ := twoB w (Obj.cells #[.int .i64 1, .int .i64 n, .string s, .slice A l.length c] 24) (Obj.cells #[.int .i64 0, .int .i64 0, .string ⟨#[]⟩, .slice none 0 0] 24)
  have XB : Hid _ := xb
  have X2 : Hid _ := x2
  have X1 : Hid _ := x1
  have HR : Hid (Kd.F k24 w ok A l.length l) := hr
  have HBY : Hid (Kd.F k51 w ok AB by_.length by_) := hby
  clear hr xb x1 x2 hby
  go_enter Tryz.func39, Tryz.ntmps39
  go_upto_region 1 with fail
  generalize (w.alloc (Obj.cells #[.int .i64 1, .int .i64 n, .string s, .slice A l.length c] 24)).alloc (Obj.cells #[.int .i64 0, .int .i64 0, .string ⟨#[]⟩, .slice none 0 0] 24) = X at *
  generalize hbA : w.heap.size = bA at *
  obtain ⟨p0, p1, p2, p3⟩ := cells4 X1.out
  have FI : Hid (∀ W, Below X.heap.size X W → Calls Tryz.prog 81 #[.slice AB by_.length cb, .string s] W fun e w' => e = .returned (.tuple #[formV 0 0 ⟨#[]⟩ none 0 0, .bool false]) ∧ Below W.heap.size W w') := fun W h => by
    have h9 := findK_any by_ s AB cb W ok (Kd.F_below HBY.out (by subst hbA; exact below_after XB.out h)) hbc hbn
    rw [hf] at h9
    exact h9
  go_wp2_with fail
  refine Calls.mono (FI.out _ (by first | exact Below.refl _ _ | (repeat (first | exact Below.refl _ _ | apply below_alloc | apply pw_below_drewN | apply below_drew1)))) ?_
  rintro e W4 ⟨rfl, B4⟩
  have HW4 : Hid (Below X.heap.size X W4) := B4
  clear B4
  go_upto_region 3 with fail
  have HV0 : Hid (Below X.heap.size X (W4.alloc (Obj.cells #[.int .i64 0, .int .i64 0, .string ⟨#[]⟩, .slice none 0 0] 24))) := below_alloc HW4.out _
  have V4 := (MapKept.heap_alloc W4 (Obj.cells #[.int .i64 0, .int .i64 0, .string ⟨#[]⟩, .slice none 0 0] 24)).1
  generalize W4.alloc (Obj.cells #[.int .i64 0, .int .i64 0, .string ⟨#[]⟩, .slice none 0 0] 24) = V at *
  generalize W4.heap.size = bq at *
  have x2 := blk_below X2.out HV0.out
  have x1 := blk_below X1.out HV0.out
  clear p0 p1 p2 p3
  obtain ⟨p0, p1, p2, p3⟩ := cells4 x1
  obtain ⟨q0, q1, q2, q3⟩ := cells4 x2
  obtain ⟨u0, u1, u2, u3⟩ := cells4 V4
  have f0 := frozen4 (i := 0) x2
  have f1 := frozen4 (i := 1) x2
  have f2 := frozen4 (i := 2) x2
  have f3 := frozen4 (i := 3) x2
  have Y2 : Hid _ := x2
  clear x1 x2 V4
  go_wp2_with fail
  subst hbA
  have BE : Below w.heap.size w _ := below4 (a0 := .int .i64 1) (a1 := .int .i64 n) (a2 := .string s) (a3 := .slice A l.length c) (b := w.heap.size + 1) (below_after XB.out HV0.out) (by omega)
  refine bodyPost_ret (results_cell_row rfl _ _ (w.heap.size + 1) 24 #[.int .i64 1, .int .i64 n, .string s, .slice A l.length c] (0, 0) _ rfl (set4 Y2.out) Tryz.underlying24 rfl (by kernel_rfl)) rfl ⟨A, c, rfl, hc, ?_, BE⟩
  exact Kd.F_mono (Kd.F_below HR.out BE) (fun k hk => .inl hk)

set_option maxRecDepth 100000 in
set_option maxHeartbeats 8000000 in
/-- A word that something stands for. -/
theorem app_found (n : Int) (s : ByteArray) (l : List S24) (by_ : List S51) (w : World) (ok : Nat → Prop) (A AB : Option Addr) (c cb : Nat) (hr : Kd.F k24 w ok A l.length l) (hc : l.length ≤ c) (hby : Kd.F k51 w ok AB by_.length by_) (hbc : by_.length ≤ cb) (hbn : by_.length < 9000000) (y : S24) (hf : findK by_ s = some y) :
    Calls Tryz.prog 39 #[formV 1 n s A l.length c, .slice AB by_.length cb, .bool false] w (AppPost w ok y) := by
  have hu24 := Tryz.underlying24
  have hu51 := Tryz.underlying51
  obtain ⟨x1, x2, xb⟩ := twoB w (Obj.cells #[.int .i64 1, .int .i64 n, .string s, .slice A l.length c] 24) (Obj.cells #[.int .i64 0, .int .i64 0, .string ⟨#[]⟩, .slice none 0 0] 24)
  have XB : Hid _ := xb
  have X2 : Hid _ := x2
  have X1 : Hid _ := x1
  have HR : Hid (Kd.F k24 w ok A l.length l) := hr
  have HBY : Hid (Kd.F k51 w ok AB by_.length by_) := hby
  clear hr xb x1 x2 hby
  have FI0 : Hid (∀ W, Below w.heap.size w W → Calls Tryz.prog 81 #[.slice AB by_.length cb, .string s] W (FindKPost W (fun k => ok k ∧ k < w.heap.size) (some y))) := fun W h => by
    have h9 := findK_any by_ s AB cb W (fun k => ok k ∧ k < w.heap.size) (Kd.F_below (Kd.F_bound HBY.out) h) hbc hbn
    rw [hf] at h9
    exact h9
  obtain ⟨y0, y1, y2, y3⟩ := y
  go_enter Tryz.func39, Tryz.ntmps39
  go_upto_region 1 with fail
  generalize (w.alloc (Obj.cells #[.int .i64 1, .int .i64 n, .string s, .slice A l.length c] 24)).alloc (Obj.cells #[.int .i64 0, .int .i64 0, .string ⟨#[]⟩, .slice none 0 0] 24) = X at *
  generalize hbA : w.heap.size = bA at *
  obtain ⟨p0, p1, p2, p3⟩ := cells4 X1.out
  have FI : Hid (∀ W, Below X.heap.size X W → Calls Tryz.prog 81 #[.slice AB by_.length cb, .string s] W fun e w' => ∃ A c, e = .returned (.tuple #[formV y0 y1 y2 A y3.length c, .bool true]) ∧ y3.length ≤ c ∧ Kd.F k24 w' (fun k => ok k ∧ k < bA) A y3.length y3 ∧ Below W.heap.size W w') := fun W h => FI0.out W (by subst hbA; exact below_after XB.out h)
  go_wp2_with fail
  refine Calls.mono (FI.out _ (by first | exact Below.refl _ _ | (repeat (first | exact Below.refl _ _ | apply below_alloc | apply pw_below_drewN | apply below_drew1)))) ?_
  rintro e W4 ⟨AF, cF, rfl, hcF, hFF, B4⟩
  have HW4 : Hid (Below X.heap.size X W4) := B4
  have HFF : Hid _ := hFF
  clear hFF
  clear B4
  go_upto_region 3 with fail
  have HV0 : Hid (Below X.heap.size X (W4.alloc (Obj.cells #[.int .i64 y0, .int .i64 y1, .string y2, .slice AF y3.length cF] 24))) := below_alloc HW4.out _
  have V4 := (MapKept.heap_alloc W4 (Obj.cells #[.int .i64 y0, .int .i64 y1, .string y2, .slice AF y3.length cF] 24)).1
  generalize W4.alloc (Obj.cells #[.int .i64 y0, .int .i64 y1, .string y2, .slice AF y3.length cF] 24) = V at *
  generalize W4.heap.size = bq at *
  have x2 := blk_below X2.out HV0.out
  have x1 := blk_below X1.out HV0.out
  clear p0 p1 p2 p3
  obtain ⟨p0, p1, p2, p3⟩ := cells4 x1
  obtain ⟨q0, q1, q2, q3⟩ := cells4 x2
  obtain ⟨u0, u1, u2, u3⟩ := cells4 V4
  have f0 := frozen4 (i := 0) x2
  have f1 := frozen4 (i := 1) x2
  have f2 := frozen4 (i := 2) x2
  have f3 := frozen4 (i := 3) x2
  have Y2 : Hid _ := x2
  clear x1 x2 V4
  go_wp2_with fail
  subst hbA
  have BE : Below w.heap.size w _ := below4 (a0 := .int .i64 y0) (a1 := .int .i64 y1) (a2 := .string y2) (a3 := .slice AF y3.length cF) (b := w.heap.size + 1) (below_after XB.out HV0.out) (by omega)
  refine bodyPost_ret (results_cell_row rfl _ _ (w.heap.size + 1) 24 #[.int .i64 y0, .int .i64 y1, .string y2, .slice AF y3.length cF] (0, 0) _ rfl (set4 Y2.out) Tryz.underlying24 rfl (by kernel_rfl)) rfl ⟨AF, cF, rfl, hcF, ?_, BE⟩
  exact Kd.F_mono (Kd.F_step HFF.out (fun k hk hlt => (BE.block k hk.2).trans ((below_after XB.out HW4.out).block k hk.2).symm)) (fun k hk => .inl hk.1)

end Go.Proofs.YtcjmplpfebpfpaaGreatDoor

namespace Go.Proofs.YtcjmplpfebpfpaaGreatDoor
open Go.RowKit Go.Proofs Go.Proofs.YtcjmplpfebpfpaaGreatDoorW.PrintWords Go.Proofs.YtcjmplpfebpfpaaGreatDoorW.PrintLast Go.Proofs.YtcjmplpfebpfpaaGreatDoorW.PrintMore PKindInstances
set_option linter.unusedVariables false
set_option linter.unusedSimpArgs false

theorem appL_at (fd : ByteArray → Option S24) (fn bare : Bool) : ∀ (l : List S24) (i j : Nat) {x : S24}, l[j]? = some x →
    (appL fd fn bare i l)[j]? = some (if i + j = 0 ∧ bare = false ∧ x.f0 = 1 then x else appM fd x (fn && decide (i + j = 1) && (x.f0 == 3)))
  | [], i, j, x, h => by simp at h
  | k :: l, i, 0, x, h => by
    obtain rfl : k = x := by simpa using h
    simp only [appL, List.getElem?_cons_zero, Nat.add_zero]
  | k :: l, i, j + 1, x, h => by
    simp only [appL, List.getElem?_cons_succ]
    rw [appL_at fd fn bare l (i + 1) j (by simpa using h)]
    rw [show i + 1 + j = i + (j + 1) from by omega]
/-- The row in the midst of the loop. -/
def cutL (done l : List S24) (i : Nat) : List S24 := done.take i ++ l.drop i
theorem cutL_len {done l : List S24} {i : Nat} (h : done.length = l.length) : (cutL done l i).length = l.length := by
  unfold cutL
  rw [List.length_append, List.length_take, List.length_drop]
  omega
theorem cutL_at {done l : List S24} {i : Nat} {x : S24} (h : done.length = l.length) (hx : l[i]? = some x) : (cutL done l i)[i]? = some x := by
  have hi := (List.getElem?_eq_some_iff.1 hx).1
  unfold cutL
  rw [List.getElem?_append_right (by rw [List.length_take]; omega), List.length_take, List.getElem?_drop, show i + (i - min i done.length) = i from by omega, hx]
theorem cutL_set {done l : List S24} {i : Nat} {x : S24} (h : done.length = l.length) (hx : done[i]? = some x) : (cutL done l i).set i x = cutL done l (i + 1) := by
  have hi := (List.getElem?_eq_some_iff.1 hx).1
  unfold cutL
  rw [List.set_append_right _ _ (by rw [List.length_take]; omega), List.length_take, show i - min i done.length = 0 from by omega]
  rw [List.drop_eq_getElem_cons (by omega : i < l.length), List.set_cons_zero, List.take_add_one, hx, List.append_assoc]
  rfl
theorem cutL_keep {done l : List S24} {i : Nat} {x : S24} (h : done.length = l.length) (hx : done[i]? = some x) (hl : l[i]? = some x) : cutL done l (i + 1) = cutL done l i := by
  have e := cutL_set h hx
  have hi := (List.getElem?_eq_some_iff.1 hx).1
  rw [← e]
  refine List.ext_getElem? fun j => ?_
  by_cases hj : j = i
  · subst hj
    rw [List.getElem?_set_self (by rw [cutL_len h]; omega), cutL_at h hl]
  · rw [List.getElem?_set_ne (by omega)]
theorem cutL_zero (done l : List S24) : cutL done l 0 = l := by simp [cutL]
theorem cutL_all {done l : List S24} {i : Nat} (h : done.length = l.length) (hi : l.length ≤ i) : cutL done l i = done := by
  unfold cutL
  rw [List.take_of_length_le (by omega), List.drop_eq_nil_of_le hi, List.append_nil]
/-- An element of a row of one's own. -/
theorem own_at {w : World} {base g n cap : Nat} {ok : Nat → Prop} {l : List S24} (h : Kd.N k24 24 w base ok (.slice (some ⟨g, 0, none⟩) n cap) l) {i : Nat} (hi : i < n) {x : S24} (hx : l[i]? = some x) :
    ∃ A c, (w.cell? ⟨g, i * 4, none⟩ = some (.int .i64 x.f0) ∧ w.cell? ⟨g, i * 4 + 1, none⟩ = some (.int .i64 x.f1) ∧ w.cell? ⟨g, i * 4 + 2, none⟩ = some (.string x.f2) ∧ w.cell? ⟨g, i * 4 + 3, none⟩ = some (.slice A x.f3.length c)) ∧
      x.f3.length ≤ c ∧ Kd.F k24 w (fun k => ok k ∧ k ≠ g) A x.f3.length x.f3 := by
  obtain ⟨c, hcl, hK, hcc, hfr⟩ := Kd.N_elem h z24 (i : Int) (by omega) (by omega)
  rw [Int.toNat_natCast] at hK hcc
  rw [List.getD_eq_getElem?_getD, hx, Option.getD_some] at hK
  obtain ⟨A3, c3, rfl, h1, h2⟩ := k24_openF hK
  exact ⟨A3, c3, ⟨hcc 0 _ rfl, hcc 1 _ rfl, hcc 2 _ rfl, hcc 3 _ rfl⟩, h1, h2⟩

theorem cells_old {w : World} {gb : Nat} {i : Nat} {v0 v1 v2 v3 : Value} (h : w.cell? ⟨gb, i * 4, none⟩ = some v0 ∧ w.cell? ⟨gb, i * 4 + 1, none⟩ = some v1 ∧ w.cell? ⟨gb, i * 4 + 2, none⟩ = some v2 ∧ w.cell? ⟨gb, i * 4 + 3, none⟩ = some v3) :
    ∀ (j : Nat) (u : Value), [v0, v1, v2, v3][j]? = some u → w.cell? ⟨gb, ((i : Int)).toNat * k24.sz + j, none⟩ = some u := by
  intro j u hu
  have e : ((i : Int)).toNat * k24.sz = i * 4 := by rw [Int.toNat_natCast]; rfl
  rw [e]
  match j, hu with
  | 0, hu => obtain rfl := Option.some.inj hu; exact h.1
  | 1, hu => obtain rfl := Option.some.inj hu; exact h.2.1
  | 2, hu => obtain rfl := Option.some.inj hu; exact h.2.2.1
  | 3, hu => obtain rfl := Option.some.inj hu; exact h.2.2.2
  | j + 4, hu => simp at hu
theorem cells_one {a b : Int} {s : ByteArray} {A : Option Addr} {n c : Nat} : ∀ q ∈ [Value.int .i64 a, .int .i64 b, .string s, .slice A n c], q.oneCell' = true := by
  intro q hq
  simp only [List.mem_cons, List.not_mem_nil, or_false] at hq
  rcases hq with rfl | rfl | rfl | rfl <;> rfl
theorem place_i (i : Nat) : i * 4 = ((i : Int)).toNat * k24.sz + 0 := by rw [Int.toNat_natCast]; rfl
theorem size24 (a b c d : Value) : (Tryz.prog.info? 24).map (fun x => x.size) = some [a, b, c, d].length := by
  have h := info24
  rw [Option.map_eq_some_iff] at h ⊢
  obtain ⟨i, h1, h2⟩ := h
  simp only [Prod.mk.injEq] at h2
  exact ⟨i, h1, h2.2.1⟩
theorem far5 {w : World} {a b k : Nat} {v v0 v1 v2 v3 : Value} (h1 : k ≠ a) (h2 : k ≠ b) : (((((w.setCell ⟨a, 3, none⟩ v).setCell ⟨b, 0, none⟩ v0).setCell ⟨b, 1, none⟩ v1).setCell ⟨b, 2, none⟩ v2).setCell ⟨b, 3, none⟩ v3).heap[k]? = w.heap[k]? := by
  rw [Below.heap_setCell _ _ _ k h2, Below.heap_setCell _ _ _ k h2, Below.heap_setCell _ _ _ k h2, Below.heap_setCell _ _ _ k h2, Below.heap_setCell _ _ _ k h1]
/-- What holds of the loop. -/
def ApRel (X WC : World) (okR : Nat → Prop) (AV : Option Addr) (cV : Nat) (done l : List S24) (k : Nat) (x46 : Value) (wr : World) : Prop :=
  ∃ (i : Nat), x46 = .int .i64 (i : Int) ∧ k + i = l.length ∧ Below WC.heap.size WC wr ∧ Kd.N k24 24 wr WC.heap.size okR (.slice AV l.length cV) (cutL done l i)

set_option maxRecDepth 100000 in
set_option maxHeartbeats 16000000 in
/-- A list. -/
theorem app_list (n : Int) (s : ByteArray) (l : List S24) (by_ : List S51) (w : World) (ok : Nat → Prop) (A AB : Option Addr) (c cb : Nat) (bare : Bool) (hr : Kd.F k24 w ok A l.length l) (hc : l.length ≤ c) (hw : wids l < 9000000)
    (hby : Kd.F k51 w ok AB by_.length by_) (hbc : by_.length ≤ cb) (hbn : by_.length < 9000000) (hq : ∀ x ∈ l, AppOk by_ x ∧ wid x < 9000000) :
    Calls Tryz.prog 39 #[formV 3 n s A l.length c, .slice AB by_.length cb, .bool bare] w (AppPost w ok ⟨3, n, s, appL (findK by_) (!bare && isFunW (headL l)) bare 0 l⟩) := by
  have hu24 := Tryz.underlying24
  have hu51 := Tryz.underlying51
  have hu22 := Tryz.underlying22
  have hll := wids_len l
  have hn0 : l.length < 9000000 := by omega
  obtain ⟨x1, x2, xb⟩ := twoB w (Obj.cells #[.int .i64 3, .int .i64 n, .string s, .slice A l.length c] 24) (Obj.cells #[.int .i64 0, .int .i64 0, .string ⟨#[]⟩, .slice none 0 0] 24)
  have XB : Hid _ := xb
  have X2 : Hid _ := x2
  have X1 : Hid _ := x1
  obtain ⟨fn, hfn⟩ : ∃ fn, fn = (!bare && isFunW (headL l)) := ⟨_, rfl⟩
  rw [← hfn]
  obtain ⟨done, hdone⟩ : ∃ done, done = appL (findK by_) fn bare 0 l := ⟨_, rfl⟩
  rw [← hdone]
  have hdl : Hid (done.length = l.length) := by rw [hdone]; exact appL_len _ _ _ _ _
  have hda : Hid (∀ (j : Nat) (x : S24), l[j]? = some x → done[j]? = some (if j = 0 ∧ bare = false ∧ x.f0 = 1 then x else appM (findK by_) x (fn && decide (j = 1) && (x.f0 == 3)))) := fun j x h => by
    have := appL_at (findK by_) fn bare l 0 j h
    rw [Nat.zero_add] at this
    rw [hdone]
    exact this
  have HR : Hid (Kd.F k24 w (fun k => ok k ∧ k < w.heap.size) A l.length l) := Kd.F_bound hr
  have HBY : Hid (Kd.F k51 w (fun k => ok k ∧ k < w.heap.size) AB by_.length by_) := Kd.F_bound hby
  have HQ : Hid _ := hq
  have HHD : Hid (∀ W, Below w.heap.size w W → _) := fun W h => Head_three n s c W (Kd.C_below (Kd.F_now hr) h)
  have CL : Hid (∀ W, Below w.heap.size w W → _) := fun W h => Clone_any l A c W (fun k => ok k ∧ k < w.heap.size) (Kd.F_below HR.out h) hc hn0
  clear hr xb x1 x2 hby hq hdone hll hw
  cases bare with
  | true =>
    simp only [Bool.not_true, Bool.false_and] at hfn
    subst hfn
    go_enter Tryz.func39, Tryz.ntmps39
    go_upto_region 1 with fail
    generalize (w.alloc (Obj.cells #[.int .i64 3, .int .i64 n, .string s, .slice A l.length c] 24)).alloc (Obj.cells #[.int .i64 0, .int .i64 0, .string ⟨#[]⟩, .slice none 0 0] 24) = X at *
    obtain ⟨p0, p1, p2, p3⟩ := cells4 X1.out
    obtain ⟨q0, q1, q2, q3⟩ := cells4 X2.out
    have HW4 : Hid (Below X.heap.size X X) := Below.refl _ _
    go_wp2_with fail
    refine Calls.mono (CL.out _ (below_after XB.out HW4.out)) ?_
    rintro e w5 ⟨v, rfl, hN, B5⟩
    obtain ⟨AV, cV, rfl⟩ := Kd.N_slice hN
    have HW5 : Hid (Below X.heap.size X w5) := below_after HW4.out B5
    have x1 := blk_below X1.out HW5.out
    have x2 := blk_below X2.out HW5.out
    clear p0 p1 p2 p3 q0 q1 q2 q3
    obtain ⟨p0, p1, p2, p3⟩ := cells4 x1
    obtain ⟨q0, q1, q2, q3⟩ := cells4 x2
    have hwX : X.heap.size ≤ X.heap.size := HW4.out.size
    have hX0 : w.heap.size + 1 < X.heap.size := blk_lt X2.out
    have start : Hid (ApRel X X (fun k => ok k ∧ k < w.heap.size ∨ X.heap.size ≤ k) AV cV done l l.length (.int .i64 ((0 : Nat) : Int)) w5) := ⟨0, rfl, rfl, B5, by
      rw [cutL_zero]
      exact Kd.N_mono hN (fun k hk => by rcases hk with hk | hk; exact .inl hk.1; exact .inr (by omega))⟩
    clear x1 x2 hN B5
    go_wp2_with fail
    go_loopg [46] l.length (fun k x46 wr => ApRel X X (fun k => ok k ∧ k < w.heap.size ∨ X.heap.size ≤ k) AV cV done l k x46 wr)
    case atStart => exact start.out
    case round =>
      clear start p0 p1 p2 p3 q0 q1 q2 q3
      obtain ⟨i, rfl, hki, hB, hN⟩ := hrel
      have HBr : Hid (Below X.heap.size X wr) := hB
      have x1 := blk_below X1.out (below_after HW4.out hB)
      have x2 := blk_below X2.out (below_after HW4.out hB)
      have hsz : X.heap.size ≤ wr.heap.size := hB.size
      obtain ⟨p0, p1, p2, p3⟩ := cells4 x1
      obtain ⟨q0, q1, q2, q3⟩ := cells4 x2
      clear hB
      by_cases hlt : i < l.length
      · obtain ⟨gk, rfl⟩ : ∃ g, gk = g + 1 := ⟨gk - 1, by omega⟩
        have e1 : decide (i < l.length) = true := decide_eq_true hlt
        obtain ⟨x, hx⟩ : ∃ x, l[i]? = some x := ⟨l[i]'hlt, List.getElem?_eq_getElem _⟩
        have hd := hda.out i x hx
        obtain ⟨gb, cap, e9, hgb, hgl, _⟩ := Kd.N_form hN (by rw [cutL_len hdl.out]; omega)
        obtain rfl : AV = some ⟨gb, 0, none⟩ := by injection e9
        clear e9
        obtain ⟨A5, c5, ⟨g0, g1, g2, g3⟩, g4, g5⟩ := own_at hN hlt (cutL_at hdl.out hx)
        have HX : Hid _ := hx
        have HD : Hid _ := hd
        have HN : Hid _ := hN
        have G5 : Hid _ := g5
        clear hx hd hN g5
        obtain ⟨y0, y1, y2, y3⟩ := x
        simp only [] at g0 g1 g2 g3 g4
        have z1 : Hid _ := x1
        have z2 : Hid _ := x2
        clear x1 x2
        go_upto_region 13 with fail
        have V4 := (MapKept.heap_alloc wr (Obj.cells #[.int .i64 y0, .int .i64 y1, .string y2, .slice A5 y3.length c5] 24)).1
        have HV : Hid (Below wr.heap.size wr (wr.alloc (Obj.cells #[.int .i64 y0, .int .i64 y1, .string y2, .slice A5 y3.length c5] 24))) := below_alloc (Below.refl _ _) _
        generalize wr.alloc (Obj.cells #[.int .i64 y0, .int .i64 y1, .string y2, .slice A5 y3.length c5] 24) = V at *
        generalize hbk : wr.heap.size = bk at *
        have hV9 : Below wr.heap.size wr V := by subst hbk; exact HV.out
        clear HV
        have N2 : Hid _ := Kd.N_below HN.out hV9
        have HBV : Hid (Below X.heap.size X V) := below_after HBr.out hV9
        have G6 : Hid _ := Kd.F_below G5.out hV9
        replace g0 := pw_cell_below hV9 g0
        replace g1 := pw_cell_below hV9 g1
        replace g2 := pw_cell_below hV9 g2
        replace g3 := pw_cell_below hV9 g3
        have hgV : gb < V.heap.size := Nat.lt_of_lt_of_le (by omega) hV9.size
        clear hV9 HN G5 p0 p1 p2 p3 q0 q1 q2 q3
        obtain ⟨r0, r1, r2, r3⟩ := cells4 V4
        have HG : Hid _ := And.intro g0 (And.intro g1 (And.intro g2 g3))
        obtain ⟨YY, hYY⟩ : ∃ YY, YY = appM (findK by_) ⟨y0, y1, y2, y3⟩ (false && decide (i = 1) && (y0 == 3)) := ⟨_, rfl⟩
        have HD2 : Hid (¬ (i = 0 ∧ true = false ∧ y0 = 1) → done[i]? = some YY) := fun h => by rw [HD.out]; first | rw [if_neg h, hYY] | (rw [if_neg (by simpa using h), hYY])
        have hwV : X.heap.size ≤ V.heap.size := Nat.le_trans hwX HBV.out.size
        have APP : Hid (∀ b, (false && decide (i = 1) && (y0 == 3)) = b → Calls Tryz.prog 39 #[formV y0 y1 y2 A5 y3.length c5, .slice AB by_.length cb, .bool b] V (AppPost V (fun k => (ok k ∧ k < w.heap.size ∨ X.heap.size ≤ k) ∧ k ≠ gb) YY)) := fun b hb => by
          have h9 := HQ.out _ (List.mem_of_getElem? HX.out)
          rw [hYY, hb]
          refine h9.1 V _ A5 AB c5 cb b G6.out g4 h9.2 ?_ hbc hbn
          exact Kd.F_mono (Kd.F_below HBY.out (below_after XB.out (below_after HW4.out HBV.out))) (fun k hk => ⟨.inl hk, fun e => by have := hk.2; omega⟩)
        clear hYY g0 g1 g2 g3 V4 G6
        have hnk : ¬ (i = 0 ∧ true = false ∧ y0 = 1) := fun h => by cases h.2.1
        have hbq : (false && decide (i = 1) && (y0 == 3)) = false := rfl
        rcases Nat.eq_zero_or_pos i with h0 | h0
        · have t0 : decide (0 < i) = false := decide_eq_false (by omega)
          have HH0 : Hid _ := h0
          clear h0
          go_wp2_with fail
          refine Calls.mono (APP.out _ hbq) ?_
          rintro e w6 ⟨A7, c7, rfl, hc7, hF7, B7⟩
          have HF7 : Hid _ := hF7
          have HN6 : Hid _ := Kd.N_below N2.out B7
          have HB6 : Hid (Below X.heap.size X w6) := below_after HBV.out B7
          obtain ⟨g0, g1, g2, g3⟩ := HG.out
          have HG6 : Hid _ := And.intro (pw_cell_below B7 g0) (And.intro (pw_cell_below B7 g1) (And.intro (pw_cell_below B7 g2) (pw_cell_below B7 g3)))
          clear g0 g1 g2 g3 hF7 B7 r0 r1 r2 r3
          go_wp2_with ((with_reducible refine gate_store (t := 24) (p := 76) rfl ?_); go_must (refine Kd.N_store k24 (w0 := X) X.heap.size rfl rfl 24 (.tmp 76) (.tmp 75) rfl 24 (i : Int) 0 (cutL done l i) YY (formV YY.f0 YY.f1 YY.f2 A7 YY.f3.length c7) [.int .i64 YY.f0, .int .i64 YY.f1, .string YY.f2, .slice A7 YY.f3.length c7] [.int .i64 y0, .int .i64 y1, .string y2, .slice A5 y3.length c5] (fun k => ok k ∧ k < w.heap.size ∨ X.heap.size ≤ k) (fun k => (ok k ∧ k < w.heap.size ∨ X.heap.size ≤ k) ∧ k ≠ gb) rfl ?_ rfl rfl ?_ ?_ HN6.out (by omega) (by omega) rfl ?_ (by show (4 : Nat) ≤ 4; omega) ?_ (fun k hk => hk) HB6.out ?_))
          · exact place_i i
          · exact size24 _ _ _ _
          · exact cells_one
          · exact cells_old HG6.out
          · refine k24_mkF w6 _ YY hc7 ?_
            refine Kd.F_mono HF7.out (fun k hk => ?_)
            rcases hk with hk | hk
            · exact hk
            · exact ⟨.inr (by omega), by omega⟩
          · intro w7 hN7 hB7 hg7
            rw [Int.toNat_natCast, cutL_set hdl.out (HD2.out hnk)] at hN7
            have HN7 : Hid _ := hN7
            have HB7 : Hid _ := hB7
            clear hN7 hB7 hg7
            go_wp2_with fail
            go_roundg gk
            case measure => omega
            case rel => exact ⟨i + 1, by first | go_num | (rw [HH0.out]; first | rfl | go_num), by omega, HB7.out, HN7.out⟩
        · have t0 : decide (0 < i) = true := decide_eq_true h0
          go_wp2_with fail
          refine Calls.mono (APP.out _ hbq) ?_
          rintro e w6 ⟨A7, c7, rfl, hc7, hF7, B7⟩
          have HF7 : Hid _ := hF7
          have HN6 : Hid _ := Kd.N_below N2.out B7
          have HB6 : Hid (Below X.heap.size X w6) := below_after HBV.out B7
          obtain ⟨g0, g1, g2, g3⟩ := HG.out
          have HG6 : Hid _ := And.intro (pw_cell_below B7 g0) (And.intro (pw_cell_below B7 g1) (And.intro (pw_cell_below B7 g2) (pw_cell_below B7 g3)))
          clear g0 g1 g2 g3 hF7 B7 r0 r1 r2 r3
          go_wp2_with ((with_reducible refine gate_store (t := 24) (p := 76) rfl ?_); go_must (refine Kd.N_store k24 (w0 := X) X.heap.size rfl rfl 24 (.tmp 76) (.tmp 75) rfl 24 (i : Int) 0 (cutL done l i) YY (formV YY.f0 YY.f1 YY.f2 A7 YY.f3.length c7) [.int .i64 YY.f0, .int .i64 YY.f1, .string YY.f2, .slice A7 YY.f3.length c7] [.int .i64 y0, .int .i64 y1, .string y2, .slice A5 y3.length c5] (fun k => ok k ∧ k < w.heap.size ∨ X.heap.size ≤ k) (fun k => (ok k ∧ k < w.heap.size ∨ X.heap.size ≤ k) ∧ k ≠ gb) rfl ?_ rfl rfl ?_ ?_ HN6.out (by omega) (by omega) rfl ?_ (by show (4 : Nat) ≤ 4; omega) ?_ (fun k hk => hk) HB6.out ?_))
          · exact place_i i
          · exact size24 _ _ _ _
          · exact cells_one
          · exact cells_old HG6.out
          · refine k24_mkF w6 _ YY hc7 ?_
            refine Kd.F_mono HF7.out (fun k hk => ?_)
            rcases hk with hk | hk
            · exact hk
            · exact ⟨.inr (by omega), by omega⟩
          · intro w7 hN7 hB7 hg7
            rw [Int.toNat_natCast, cutL_set hdl.out (HD2.out hnk)] at hN7
            have HN7 : Hid _ := hN7
            have HB7 : Hid _ := hB7
            clear hN7 hB7 hg7
            go_wp2_with fail
            go_roundg gk
            case measure => omega
            case rel => exact ⟨i + 1, by first | go_num | (rw [HH0.out]; first | rfl | go_num), by omega, HB7.out, HN7.out⟩

      · have e1 : decide (i < l.length) = false := decide_eq_false hlt
        rw [cutL_all hdl.out (by omega)] at hN
        have HN : Hid _ := hN
        have Z1 : Hid _ := x1
        have Z2 : Hid _ := x2
        have f13 := frozen4 (i := 3) x1
        have f0 := frozen4 (i := 0) x2
        have f1 := frozen4 (i := 1) x2
        have f2 := frozen4 (i := 2) x2
        have f3 := frozen4 (i := 3) x2
        have hge : l.length ≤ i := by omega
        clear hN x1 x2
        go_wp2_with fail
        have hRd := (Kd.N_reads' HN.out).2.1
        have hdl9 := hdl.out
        have BE : Below w.heap.size w (((((wr.setCell ⟨w.heap.size, 3, none⟩ (.slice AV l.length cV)).setCell ⟨w.heap.size + 1, 0, none⟩ (.int .i64 3)).setCell ⟨w.heap.size + 1, 1, none⟩ (.int .i64 n)).setCell ⟨w.heap.size + 1, 2, none⟩ (.string s)).setCell ⟨w.heap.size + 1, 3, none⟩ (.slice AV l.length cV)) :=
          below4 (Below.setCell (below_after XB.out (below_after HW4.out HBr.out)) (Nat.le_refl _) _) (by omega)
        refine bodyPost_ret (results_cell_row rfl _ _ (w.heap.size + 1) 24 #[.int .i64 3, .int .i64 n, .string s, .slice AV l.length cV] (0, 0) _ rfl (set4 ((heap_setCell_other wr ⟨w.heap.size, 3, none⟩ (w.heap.size + 1) _ (by simp)).trans Z2.out)) Tryz.underlying24 rfl (by kernel_rfl)) rfl ⟨AV, cV, ?_, ?_, ?_, BE⟩
        · simp only [hdl9]
        · simp only [hdl9]; exact hRd
        · have FN := Kd.N_F HN.out
          simp only [hdl9]
          refine Kd.F_mono (Kd.F_step FN (fun k hk hlt => far5 (a := w.heap.size) (b := w.heap.size + 1) ?_ ?_)) (fun k hk => ?_)
          · rcases hk with hk | hk
            · omega
            · omega
          · rcases hk with hk | hk
            · omega
            · omega
          · rcases hk with hk | hk
            · exact .inl hk.1
            · exact .inr (by omega)
  | false =>
    simp only [Bool.not_false, Bool.true_and] at hfn
    have hfw : ((headL l).toList == [102, 117, 110]) = fn := hfn.symm
    have HFN : Hid _ := hfn
    clear hfn
    go_enter Tryz.func39, Tryz.ntmps39
    go_upto_region 1 with fail
    generalize (w.alloc (Obj.cells #[.int .i64 3, .int .i64 n, .string s, .slice A l.length c] 24)).alloc (Obj.cells #[.int .i64 0, .int .i64 0, .string ⟨#[]⟩, .slice none 0 0] 24) = X at *
    obtain ⟨p0, p1, p2, p3⟩ := cells4 X1.out
    obtain ⟨q0, q1, q2, q3⟩ := cells4 X2.out
    go_wp2_with fail
    refine Calls.mono (HHD.out _ XB.out) ?_
    rintro e w4 ⟨rfl, B4⟩
    have HW4 : Hid (Below X.heap.size X w4) := B4
    replace p0 := pw_cell_below B4 p0
    replace p1 := pw_cell_below B4 p1
    replace p2 := pw_cell_below B4 p2
    replace p3 := pw_cell_below B4 p3
    clear B4
    go_wp2_with fail
    refine Calls.mono (CL.out _ (below_after XB.out HW4.out)) ?_
    rintro e w5 ⟨v, rfl, hN, B5⟩
    obtain ⟨AV, cV, rfl⟩ := Kd.N_slice hN
    have HW5 : Hid (Below X.heap.size X w5) := below_after HW4.out B5
    have x1 := blk_below X1.out HW5.out
    have x2 := blk_below X2.out HW5.out
    clear p0 p1 p2 p3 q0 q1 q2 q3
    obtain ⟨p0, p1, p2, p3⟩ := cells4 x1
    obtain ⟨q0, q1, q2, q3⟩ := cells4 x2
    have hwX : X.heap.size ≤ w4.heap.size := HW4.out.size
    have hX0 : w.heap.size + 1 < X.heap.size := blk_lt X2.out
    have start : Hid (ApRel X w4 (fun k => ok k ∧ k < w.heap.size ∨ X.heap.size ≤ k) AV cV done l l.length (.int .i64 ((0 : Nat) : Int)) w5) := ⟨0, rfl, rfl, B5, by
      rw [cutL_zero]
      exact Kd.N_mono hN (fun k hk => by rcases hk with hk | hk; exact .inl hk.1; exact .inr (by omega))⟩
    clear x1 x2 hN B5
    go_wp2_with fail
    go_loopg [46] l.length (fun k x46 wr => ApRel X w4 (fun k => ok k ∧ k < w.heap.size ∨ X.heap.size ≤ k) AV cV done l k x46 wr)
    case atStart => exact start.out
    case round =>
      clear start p0 p1 p2 p3 q0 q1 q2 q3
      obtain ⟨i, rfl, hki, hB, hN⟩ := hrel
      have HBr : Hid (Below w4.heap.size w4 wr) := hB
      have x1 := blk_below X1.out (below_after HW4.out hB)
      have x2 := blk_below X2.out (below_after HW4.out hB)
      have hsz : w4.heap.size ≤ wr.heap.size := hB.size
      obtain ⟨p0, p1, p2, p3⟩ := cells4 x1
      obtain ⟨q0, q1, q2, q3⟩ := cells4 x2
      clear hB
      by_cases hlt : i < l.length
      · obtain ⟨gk, rfl⟩ : ∃ g, gk = g + 1 := ⟨gk - 1, by omega⟩
        have e1 : decide (i < l.length) = true := decide_eq_true hlt
        obtain ⟨x, hx⟩ : ∃ x, l[i]? = some x := ⟨l[i]'hlt, List.getElem?_eq_getElem _⟩
        have hd := hda.out i x hx
        obtain ⟨gb, cap, e9, hgb, hgl, _⟩ := Kd.N_form hN (by rw [cutL_len hdl.out]; omega)
        obtain rfl : AV = some ⟨gb, 0, none⟩ := by injection e9
        clear e9
        obtain ⟨A5, c5, ⟨g0, g1, g2, g3⟩, g4, g5⟩ := own_at hN hlt (cutL_at hdl.out hx)
        have HX : Hid _ := hx
        have HD : Hid _ := hd
        have HN : Hid _ := hN
        have G5 : Hid _ := g5
        clear hx hd hN g5
        obtain ⟨y0, y1, y2, y3⟩ := x
        simp only [] at g0 g1 g2 g3 g4
        have z1 : Hid _ := x1
        have z2 : Hid _ := x2
        clear x1 x2
        go_upto_region 13 with fail
        have V4 := (MapKept.heap_alloc wr (Obj.cells #[.int .i64 y0, .int .i64 y1, .string y2, .slice A5 y3.length c5] 24)).1
        have HV : Hid (Below wr.heap.size wr (wr.alloc (Obj.cells #[.int .i64 y0, .int .i64 y1, .string y2, .slice A5 y3.length c5] 24))) := below_alloc (Below.refl _ _) _
        generalize wr.alloc (Obj.cells #[.int .i64 y0, .int .i64 y1, .string y2, .slice A5 y3.length c5] 24) = V at *
        generalize hbk : wr.heap.size = bk at *
        have hV9 : Below wr.heap.size wr V := by subst hbk; exact HV.out
        clear HV
        have N2 : Hid _ := Kd.N_below HN.out hV9
        have HBV : Hid (Below w4.heap.size w4 V) := below_after HBr.out hV9
        have G6 : Hid _ := Kd.F_below G5.out hV9
        replace g0 := pw_cell_below hV9 g0
        replace g1 := pw_cell_below hV9 g1
        replace g2 := pw_cell_below hV9 g2
        replace g3 := pw_cell_below hV9 g3
        have hgV : gb < V.heap.size := Nat.lt_of_lt_of_le (by omega) hV9.size
        clear hV9 HN G5 p0 p1 p2 p3 q0 q1 q2 q3
        obtain ⟨r0, r1, r2, r3⟩ := cells4 V4
        have HG : Hid _ := And.intro g0 (And.intro g1 (And.intro g2 g3))
        obtain ⟨YY, hYY⟩ : ∃ YY, YY = appM (findK by_) ⟨y0, y1, y2, y3⟩ (fn && decide (i = 1) && (y0 == 3)) := ⟨_, rfl⟩
        have HD2 : Hid (¬ (i = 0 ∧ false = false ∧ y0 = 1) → done[i]? = some YY) := fun h => by rw [HD.out]; first | rw [if_neg h, hYY] | (rw [if_neg (by simpa using h), hYY])
        have hwV : X.heap.size ≤ V.heap.size := Nat.le_trans hwX HBV.out.size
        have APP : Hid (∀ b, (fn && decide (i = 1) && (y0 == 3)) = b → Calls Tryz.prog 39 #[formV y0 y1 y2 A5 y3.length c5, .slice AB by_.length cb, .bool b] V (AppPost V (fun k => (ok k ∧ k < w.heap.size ∨ X.heap.size ≤ k) ∧ k ≠ gb) YY)) := fun b hb => by
          have h9 := HQ.out _ (List.mem_of_getElem? HX.out)
          rw [hYY, hb]
          refine h9.1 V _ A5 AB c5 cb b G6.out g4 h9.2 ?_ hbc hbn
          exact Kd.F_mono (Kd.F_below HBY.out (below_after XB.out (below_after HW4.out HBV.out))) (fun k hk => ⟨.inl hk, fun e => by have := hk.2; omega⟩)
        clear hYY g0 g1 g2 g3 V4 G6
        rcases Nat.eq_zero_or_pos i with h0 | h0
        · have t0 : decide (0 < i) = false := decide_eq_false (by omega)
          have t1 : decide (i = 1) = false := decide_eq_false (by omega)
          have t2 : ((i : Int) == 1) = false := beq_eq_false_iff_ne.mpr (by omega)
          by_cases hk : y0 = 1
          · have k1 : (y0 != 1) = false := bne_eq_false_iff_eq.mpr hk
            have HK1 : Hid _ := hk
            have HH0 : Hid _ := h0
            clear h0 hk
            go_wp2_with fail
            have HN9 : Hid _ := N2.out
            go_roundg gk
            case measure => omega
            case rel => exact ⟨i + 1, by rw [HH0.out]; first | rfl | go_num, by omega, HBV.out, by rw [cutL_keep hdl.out (HD.out.trans (by rw [if_pos (by simp [HH0.out, HK1.out])])) HX.out]; exact N2.out⟩
          · have k1 : (y0 != 1) = true := bne_iff_ne.mpr hk
            have hnk : ¬ (i = 0 ∧ false = false ∧ y0 = 1) := fun h => hk h.2.2
            have HH0 : Hid _ := h0
            have hbq : (fn && decide (i = 1) && (y0 == 3)) = false := by rw [t1, Bool.and_false, Bool.false_and]
            clear h0 hk
            cases fn with
            | false =>
              go_wp2_with fail
              refine Calls.mono (APP.out _ hbq) ?_
              rintro e w6 ⟨A7, c7, rfl, hc7, hF7, B7⟩
              have HF7 : Hid _ := hF7
              have HN6 : Hid _ := Kd.N_below N2.out B7
              have HB6 : Hid (Below w4.heap.size w4 w6) := below_after HBV.out B7
              obtain ⟨g0, g1, g2, g3⟩ := HG.out
              have HG6 : Hid _ := And.intro (pw_cell_below B7 g0) (And.intro (pw_cell_below B7 g1) (And.intro (pw_cell_below B7 g2) (pw_cell_below B7 g3)))
              clear g0 g1 g2 g3 hF7 B7 r0 r1 r2 r3
              go_wp2_with ((with_reducible refine gate_store (t := 24) (p := 76) rfl ?_); go_must (refine Kd.N_store k24 (w0 := w4) w4.heap.size rfl rfl 24 (.tmp 76) (.tmp 75) rfl 24 (i : Int) 0 (cutL done l i) YY (formV YY.f0 YY.f1 YY.f2 A7 YY.f3.length c7) [.int .i64 YY.f0, .int .i64 YY.f1, .string YY.f2, .slice A7 YY.f3.length c7] [.int .i64 y0, .int .i64 y1, .string y2, .slice A5 y3.length c5] (fun k => ok k ∧ k < w.heap.size ∨ X.heap.size ≤ k) (fun k => (ok k ∧ k < w.heap.size ∨ X.heap.size ≤ k) ∧ k ≠ gb) rfl ?_ rfl rfl ?_ ?_ HN6.out (by omega) (by omega) rfl ?_ (by show (4 : Nat) ≤ 4; omega) ?_ (fun k hk => hk) HB6.out ?_))
              · exact place_i i
              · exact size24 _ _ _ _
              · exact cells_one
              · exact cells_old HG6.out
              · refine k24_mkF w6 _ YY hc7 ?_
                refine Kd.F_mono HF7.out (fun k hk => ?_)
                rcases hk with hk | hk
                · exact hk
                · exact ⟨.inr (by omega), by omega⟩
              · intro w7 hN7 hB7 hg7
                rw [Int.toNat_natCast, cutL_set hdl.out (HD2.out hnk)] at hN7
                have HN7 : Hid _ := hN7
                have HB7 : Hid _ := hB7
                clear hN7 hB7 hg7
                go_wp2_with fail
                go_roundg gk
                case measure => omega
                case rel => exact ⟨i + 1, by first | go_num | (rw [HH0.out]; first | rfl | go_num), by omega, HB7.out, HN7.out⟩
            | true =>
              go_wp2_with fail
              refine Calls.mono (APP.out _ hbq) ?_
              rintro e w6 ⟨A7, c7, rfl, hc7, hF7, B7⟩
              have HF7 : Hid _ := hF7
              have HN6 : Hid _ := Kd.N_below N2.out B7
              have HB6 : Hid (Below w4.heap.size w4 w6) := below_after HBV.out B7
              obtain ⟨g0, g1, g2, g3⟩ := HG.out
              have HG6 : Hid _ := And.intro (pw_cell_below B7 g0) (And.intro (pw_cell_below B7 g1) (And.intro (pw_cell_below B7 g2) (pw_cell_below B7 g3)))
              clear g0 g1 g2 g3 hF7 B7 r0 r1 r2 r3
              go_wp2_with ((with_reducible refine gate_store (t := 24) (p := 76) rfl ?_); go_must (refine Kd.N_store k24 (w0 := w4) w4.heap.size rfl rfl 24 (.tmp 76) (.tmp 75) rfl 24 (i : Int) 0 (cutL done l i) YY (formV YY.f0 YY.f1 YY.f2 A7 YY.f3.length c7) [.int .i64 YY.f0, .int .i64 YY.f1, .string YY.f2, .slice A7 YY.f3.length c7] [.int .i64 y0, .int .i64 y1, .string y2, .slice A5 y3.length c5] (fun k => ok k ∧ k < w.heap.size ∨ X.heap.size ≤ k) (fun k => (ok k ∧ k < w.heap.size ∨ X.heap.size ≤ k) ∧ k ≠ gb) rfl ?_ rfl rfl ?_ ?_ HN6.out (by omega) (by omega) rfl ?_ (by show (4 : Nat) ≤ 4; omega) ?_ (fun k hk => hk) HB6.out ?_))
              · exact place_i i
              · exact size24 _ _ _ _
              · exact cells_one
              · exact cells_old HG6.out
              · refine k24_mkF w6 _ YY hc7 ?_
                refine Kd.F_mono HF7.out (fun k hk => ?_)
                rcases hk with hk | hk
                · exact hk
                · exact ⟨.inr (by omega), by omega⟩
              · intro w7 hN7 hB7 hg7
                rw [Int.toNat_natCast, cutL_set hdl.out (HD2.out hnk)] at hN7
                have HN7 : Hid _ := hN7
                have HB7 : Hid _ := hB7
                clear hN7 hB7 hg7
                go_wp2_with fail
                go_roundg gk
                case measure => omega
                case rel => exact ⟨i + 1, by first | go_num | (rw [HH0.out]; first | rfl | go_num), by omega, HB7.out, HN7.out⟩
        · have t0 : decide (0 < i) = true := decide_eq_true h0
          have hnk : ¬ (i = 0 ∧ false = false ∧ y0 = 1) := fun h => by omega
          cases fn with
          | false =>
            have hbq : (false && decide (i = 1) && (y0 == 3)) = false := rfl
            go_wp2_with fail
            refine Calls.mono (APP.out _ hbq) ?_
            rintro e w6 ⟨A7, c7, rfl, hc7, hF7, B7⟩
            have HF7 : Hid _ := hF7
            have HN6 : Hid _ := Kd.N_below N2.out B7
            have HB6 : Hid (Below w4.heap.size w4 w6) := below_after HBV.out B7
            obtain ⟨g0, g1, g2, g3⟩ := HG.out
            have HG6 : Hid _ := And.intro (pw_cell_below B7 g0) (And.intro (pw_cell_below B7 g1) (And.intro (pw_cell_below B7 g2) (pw_cell_below B7 g3)))
            clear g0 g1 g2 g3 hF7 B7 r0 r1 r2 r3
            go_wp2_with ((with_reducible refine gate_store (t := 24) (p := 76) rfl ?_); go_must (refine Kd.N_store k24 (w0 := w4) w4.heap.size rfl rfl 24 (.tmp 76) (.tmp 75) rfl 24 (i : Int) 0 (cutL done l i) YY (formV YY.f0 YY.f1 YY.f2 A7 YY.f3.length c7) [.int .i64 YY.f0, .int .i64 YY.f1, .string YY.f2, .slice A7 YY.f3.length c7] [.int .i64 y0, .int .i64 y1, .string y2, .slice A5 y3.length c5] (fun k => ok k ∧ k < w.heap.size ∨ X.heap.size ≤ k) (fun k => (ok k ∧ k < w.heap.size ∨ X.heap.size ≤ k) ∧ k ≠ gb) rfl ?_ rfl rfl ?_ ?_ HN6.out (by omega) (by omega) rfl ?_ (by show (4 : Nat) ≤ 4; omega) ?_ (fun k hk => hk) HB6.out ?_))
            · exact place_i i
            · exact size24 _ _ _ _
            · exact cells_one
            · exact cells_old HG6.out
            · refine k24_mkF w6 _ YY hc7 ?_
              refine Kd.F_mono HF7.out (fun k hk => ?_)
              rcases hk with hk | hk
              · exact hk
              · exact ⟨.inr (by omega), by omega⟩
            · intro w7 hN7 hB7 hg7
              rw [Int.toNat_natCast, cutL_set hdl.out (HD2.out hnk)] at hN7
              have HN7 : Hid _ := hN7
              have HB7 : Hid _ := hB7
              clear hN7 hB7 hg7
              go_wp2_with fail
              go_roundg gk
              case measure => omega
              case rel => exact ⟨i + 1, by first | go_num | (rw [HH0.out]; first | rfl | go_num), by omega, HB7.out, HN7.out⟩
          | true =>
            by_cases h1 : i = 1
            · have t2 : ((i : Int) == 1) = true := beq_iff_eq.mpr (by omega)
              by_cases h3 : y0 = 3
              · have k3 : (y0 == 3) = true := beq_iff_eq.mpr h3
                have hbq : (true && decide (i = 1) && (y0 == 3)) = true := by rw [k3, decide_eq_true h1]; rfl
                have HH1 : Hid _ := h1
                have HH3 : Hid _ := h3
                clear h1 h3
                go_wp2_with fail
                refine Calls.mono (APP.out _ hbq) ?_
                rintro e w6 ⟨A7, c7, rfl, hc7, hF7, B7⟩
                have HF7 : Hid _ := hF7
                have HN6 : Hid _ := Kd.N_below N2.out B7
                have HB6 : Hid (Below w4.heap.size w4 w6) := below_after HBV.out B7
                obtain ⟨g0, g1, g2, g3⟩ := HG.out
                have HG6 : Hid _ := And.intro (pw_cell_below B7 g0) (And.intro (pw_cell_below B7 g1) (And.intro (pw_cell_below B7 g2) (pw_cell_below B7 g3)))
                clear g0 g1 g2 g3 hF7 B7 r0 r1 r2 r3
                go_wp2_with ((with_reducible refine gate_store (t := 24) (p := 76) rfl ?_); go_must (refine Kd.N_store k24 (w0 := w4) w4.heap.size rfl rfl 24 (.tmp 76) (.tmp 75) rfl 24 (i : Int) 0 (cutL done l i) YY (formV YY.f0 YY.f1 YY.f2 A7 YY.f3.length c7) [.int .i64 YY.f0, .int .i64 YY.f1, .string YY.f2, .slice A7 YY.f3.length c7] [.int .i64 y0, .int .i64 y1, .string y2, .slice A5 y3.length c5] (fun k => ok k ∧ k < w.heap.size ∨ X.heap.size ≤ k) (fun k => (ok k ∧ k < w.heap.size ∨ X.heap.size ≤ k) ∧ k ≠ gb) rfl ?_ rfl rfl ?_ ?_ HN6.out (by omega) (by omega) rfl ?_ (by show (4 : Nat) ≤ 4; omega) ?_ (fun k hk => hk) HB6.out ?_))
                · exact place_i i
                · exact size24 _ _ _ _
                · exact cells_one
                · exact cells_old HG6.out
                · refine k24_mkF w6 _ YY hc7 ?_
                  refine Kd.F_mono HF7.out (fun k hk => ?_)
                  rcases hk with hk | hk
                  · exact hk
                  · exact ⟨.inr (by omega), by omega⟩
                · intro w7 hN7 hB7 hg7
                  rw [Int.toNat_natCast, cutL_set hdl.out (HD2.out hnk)] at hN7
                  have HN7 : Hid _ := hN7
                  have HB7 : Hid _ := hB7
                  clear hN7 hB7 hg7
                  go_wp2_with fail
                  go_roundg gk
                  case measure => omega
                  case rel => exact ⟨i + 1, by first | go_num | (rw [HH0.out]; first | rfl | go_num), by omega, HB7.out, HN7.out⟩
              · have k3 : (y0 == 3) = false := beq_eq_false_iff_ne.mpr h3
                have hbq : (true && decide (i = 1) && (y0 == 3)) = false := by rw [k3, Bool.and_false]
                have HH1 : Hid _ := h1
                clear h1
                go_wp2_with fail
                refine Calls.mono (APP.out _ hbq) ?_
                rintro e w6 ⟨A7, c7, rfl, hc7, hF7, B7⟩
                have HF7 : Hid _ := hF7
                have HN6 : Hid _ := Kd.N_below N2.out B7
                have HB6 : Hid (Below w4.heap.size w4 w6) := below_after HBV.out B7
                obtain ⟨g0, g1, g2, g3⟩ := HG.out
                have HG6 : Hid _ := And.intro (pw_cell_below B7 g0) (And.intro (pw_cell_below B7 g1) (And.intro (pw_cell_below B7 g2) (pw_cell_below B7 g3)))
                clear g0 g1 g2 g3 hF7 B7 r0 r1 r2 r3
                go_wp2_with ((with_reducible refine gate_store (t := 24) (p := 76) rfl ?_); go_must (refine Kd.N_store k24 (w0 := w4) w4.heap.size rfl rfl 24 (.tmp 76) (.tmp 75) rfl 24 (i : Int) 0 (cutL done l i) YY (formV YY.f0 YY.f1 YY.f2 A7 YY.f3.length c7) [.int .i64 YY.f0, .int .i64 YY.f1, .string YY.f2, .slice A7 YY.f3.length c7] [.int .i64 y0, .int .i64 y1, .string y2, .slice A5 y3.length c5] (fun k => ok k ∧ k < w.heap.size ∨ X.heap.size ≤ k) (fun k => (ok k ∧ k < w.heap.size ∨ X.heap.size ≤ k) ∧ k ≠ gb) rfl ?_ rfl rfl ?_ ?_ HN6.out (by omega) (by omega) rfl ?_ (by show (4 : Nat) ≤ 4; omega) ?_ (fun k hk => hk) HB6.out ?_))
                · exact place_i i
                · exact size24 _ _ _ _
                · exact cells_one
                · exact cells_old HG6.out
                · refine k24_mkF w6 _ YY hc7 ?_
                  refine Kd.F_mono HF7.out (fun k hk => ?_)
                  rcases hk with hk | hk
                  · exact hk
                  · exact ⟨.inr (by omega), by omega⟩
                · intro w7 hN7 hB7 hg7
                  rw [Int.toNat_natCast, cutL_set hdl.out (HD2.out hnk)] at hN7
                  have HN7 : Hid _ := hN7
                  have HB7 : Hid _ := hB7
                  clear hN7 hB7 hg7
                  go_wp2_with fail
                  go_roundg gk
                  case measure => omega
                  case rel => exact ⟨i + 1, by first | go_num | (rw [HH0.out]; first | rfl | go_num), by omega, HB7.out, HN7.out⟩
            · have t2 : ((i : Int) == 1) = false := beq_eq_false_iff_ne.mpr (by omega)
              have hbq : (true && decide (i = 1) && (y0 == 3)) = false := by rw [decide_eq_false h1]; rfl
              go_wp2_with fail
              refine Calls.mono (APP.out _ hbq) ?_
              rintro e w6 ⟨A7, c7, rfl, hc7, hF7, B7⟩
              have HF7 : Hid _ := hF7
              have HN6 : Hid _ := Kd.N_below N2.out B7
              have HB6 : Hid (Below w4.heap.size w4 w6) := below_after HBV.out B7
              obtain ⟨g0, g1, g2, g3⟩ := HG.out
              have HG6 : Hid _ := And.intro (pw_cell_below B7 g0) (And.intro (pw_cell_below B7 g1) (And.intro (pw_cell_below B7 g2) (pw_cell_below B7 g3)))
              clear g0 g1 g2 g3 hF7 B7 r0 r1 r2 r3
              go_wp2_with ((with_reducible refine gate_store (t := 24) (p := 76) rfl ?_); go_must (refine Kd.N_store k24 (w0 := w4) w4.heap.size rfl rfl 24 (.tmp 76) (.tmp 75) rfl 24 (i : Int) 0 (cutL done l i) YY (formV YY.f0 YY.f1 YY.f2 A7 YY.f3.length c7) [.int .i64 YY.f0, .int .i64 YY.f1, .string YY.f2, .slice A7 YY.f3.length c7] [.int .i64 y0, .int .i64 y1, .string y2, .slice A5 y3.length c5] (fun k => ok k ∧ k < w.heap.size ∨ X.heap.size ≤ k) (fun k => (ok k ∧ k < w.heap.size ∨ X.heap.size ≤ k) ∧ k ≠ gb) rfl ?_ rfl rfl ?_ ?_ HN6.out (by omega) (by omega) rfl ?_ (by show (4 : Nat) ≤ 4; omega) ?_ (fun k hk => hk) HB6.out ?_))
              · exact place_i i
              · exact size24 _ _ _ _
              · exact cells_one
              · exact cells_old HG6.out
              · refine k24_mkF w6 _ YY hc7 ?_
                refine Kd.F_mono HF7.out (fun k hk => ?_)
                rcases hk with hk | hk
                · exact hk
                · exact ⟨.inr (by omega), by omega⟩
              · intro w7 hN7 hB7 hg7
                rw [Int.toNat_natCast, cutL_set hdl.out (HD2.out hnk)] at hN7
                have HN7 : Hid _ := hN7
                have HB7 : Hid _ := hB7
                clear hN7 hB7 hg7
                go_wp2_with fail
                go_roundg gk
                case measure => omega
                case rel => exact ⟨i + 1, by first | go_num | (rw [HH0.out]; first | rfl | go_num), by omega, HB7.out, HN7.out⟩

      · have e1 : decide (i < l.length) = false := decide_eq_false hlt
        rw [cutL_all hdl.out (by omega)] at hN
        have HN : Hid _ := hN
        have Z1 : Hid _ := x1
        have Z2 : Hid _ := x2
        have f13 := frozen4 (i := 3) x1
        have f0 := frozen4 (i := 0) x2
        have f1 := frozen4 (i := 1) x2
        have f2 := frozen4 (i := 2) x2
        have f3 := frozen4 (i := 3) x2
        have hge : l.length ≤ i := by omega
        clear hN x1 x2
        go_wp2_with fail
        have hRd := (Kd.N_reads' HN.out).2.1
        have hdl9 := hdl.out
        have BE : Below w.heap.size w (((((wr.setCell ⟨w.heap.size, 3, none⟩ (.slice AV l.length cV)).setCell ⟨w.heap.size + 1, 0, none⟩ (.int .i64 3)).setCell ⟨w.heap.size + 1, 1, none⟩ (.int .i64 n)).setCell ⟨w.heap.size + 1, 2, none⟩ (.string s)).setCell ⟨w.heap.size + 1, 3, none⟩ (.slice AV l.length cV)) :=
          below4 (Below.setCell (below_after XB.out (below_after HW4.out HBr.out)) (Nat.le_refl _) _) (by omega)
        refine bodyPost_ret (results_cell_row rfl _ _ (w.heap.size + 1) 24 #[.int .i64 3, .int .i64 n, .string s, .slice AV l.length cV] (0, 0) _ rfl (set4 ((heap_setCell_other wr ⟨w.heap.size, 3, none⟩ (w.heap.size + 1) _ (by simp)).trans Z2.out)) Tryz.underlying24 rfl (by kernel_rfl)) rfl ⟨AV, cV, ?_, ?_, ?_, BE⟩
        · simp only [hdl9]
        · simp only [hdl9]; exact hRd
        · have FN := Kd.N_F HN.out
          simp only [hdl9]
          refine Kd.F_mono (Kd.F_step FN (fun k hk hlt => far5 (a := w.heap.size) (b := w.heap.size + 1) ?_ ?_)) (fun k hk => ?_)
          · rcases hk with hk | hk
            · omega
            · omega
          · rcases hk with hk | hk
            · omega
            · omega
          · rcases hk with hk | hk
            · exact .inl hk.1
            · exact .inr (by omega)

end Go.Proofs.YtcjmplpfebpfpaaGreatDoor

namespace Go.Proofs.YtcjmplpfebpfpaaGreatDoor
open Go.RowKit Go.Proofs Go.Proofs.YtcjmplpfebpfpaaGreatDoorW.PrintWords Go.Proofs.YtcjmplpfebpfpaaGreatDoorW.PrintLast Go.Proofs.YtcjmplpfebpfpaaGreatDoorW.PrintMore PKindInstances
set_option linter.unusedVariables false
set_option linter.unusedSimpArgs false

theorem wid_in' {l : List S24} {x : S24} (h : x ∈ l) : wid x ≤ wids l := by
  induction l with
  | nil => exact absurd h List.not_mem_nil
  | cons y l ih =>
    simp only [wids]
    rcases List.mem_cons.1 h with rfl | h
    · omega
    · have := ih h; omega
mutual
theorem app_ok (by_ : List S51) : ∀ x : S24, AppOk by_ x
  | ⟨a, n, s, l⟩ => by
    have hl := apps_ok by_ l
    intro w ok A AB c cb bare hr hc hw hby hbc hbn
    have hk := wid_kids ⟨a, n, s, l⟩
    simp only [] at hk hc hr
    by_cases h3 : a = 3
    · subst h3
      have e : appM (findK by_) ⟨3, n, s, l⟩ bare = ⟨3, n, s, appL (findK by_) (!bare && isFunW (headL l)) bare 0 l⟩ := by simp [appM]
      rw [e]
      exact app_list n s l by_ w ok A AB c cb bare hr hc (by omega) hby hbc hbn (fun x hx => ⟨hl x hx, by have := wid_in' hx; omega⟩)
    · by_cases h1 : a = 1
      · subst h1
        cases bare with
        | true =>
          have e : appM (findK by_) ⟨1, n, s, l⟩ true = ⟨1, n, s, l⟩ := by simp [appM]
          rw [e]
          exact app_leaf 1 n s l w ok A AB c by_.length cb true hr hc (.inr rfl) h3
        | false =>
          rw [app_word _ _ rfl]
          cases hf : findK by_ s with
          | none => exact app_keep n s l by_ w ok A AB c cb hr hc hby hbc hbn hf
          | some y => exact app_found n s l by_ w ok A AB c cb hr hc hby hbc hbn y hf
      · have e : appM (findK by_) ⟨a, n, s, l⟩ bare = ⟨a, n, s, l⟩ := by simp [appM, h1, h3]
        rw [e]
        exact app_leaf a n s l w ok A AB c by_.length cb bare hr hc (.inl h1) h3
theorem apps_ok (by_ : List S51) : ∀ (l : List S24), ∀ x ∈ l, AppOk by_ x
  | [], x, h => absurd h (List.not_mem_nil)
  | y :: l, x, h => by
    rcases List.mem_cons.1 h with h | h
    · rw [h]; exact app_ok by_ y
    · exact apps_ok by_ l x h
end

theorem far4 {w : World} {b k : Nat} {v0 v1 v2 v3 : Value} (h2 : k ≠ b) : ((((w.setCell ⟨b, 0, none⟩ v0).setCell ⟨b, 1, none⟩ v1).setCell ⟨b, 2, none⟩ v2).setCell ⟨b, 3, none⟩ v3).heap[k]? = w.heap[k]? := by
  rw [Below.heap_setCell _ _ _ k h2, Below.heap_setCell _ _ _ k h2, Below.heap_setCell _ _ _ k h2, Below.heap_setCell _ _ _ k h2]
set_option maxRecDepth 100000 in
theorem Apply_any (x : S24) (by_ : List S51) (w : World) (ok : Nat → Prop) (A AB : Option Addr) (c cb : Nat) (hr : Kd.F k24 w ok A x.f3.length x.f3) (hc : x.f3.length ≤ c) (hw : wid x < 9000000) (hby : Kd.F k51 w ok AB by_.length by_) (hbc : by_.length ≤ cb) (hbn : by_.length < 9000000) :
    Calls Tryz.prog 10 #[formV x.f0 x.f1 x.f2 A x.f3.length c, .slice AB by_.length cb] w (AppPost w ok (appM (findK by_) x false)) := by
  have hu24 := Tryz.underlying24
  obtain ⟨YY, hY⟩ : ∃ YY, YY = appM (findK by_) x false := ⟨_, rfl⟩
  have HA : Hid (∀ W, Below w.heap.size w W → Calls Tryz.prog 39 #[formV x.f0 x.f1 x.f2 A x.f3.length c, .slice AB by_.length cb, .bool false] W (AppPost W (fun k => ok k ∧ k < w.heap.size) YY)) := fun W h => by
    rw [hY]
    exact app_ok by_ x W _ A AB c cb false (Kd.F_below (Kd.F_bound hr) h) hc hw (Kd.F_below (Kd.F_bound hby) h) hbc hbn
  rw [← hY]
  clear hr hby hw hY
  obtain ⟨x0, x1, x2, x3⟩ := x
  obtain ⟨y1, y2, yb⟩ := twoB w (Obj.cells #[.int .i64 x0, .int .i64 x1, .string x2, .slice A x3.length c] 24) (Obj.cells #[.int .i64 0, .int .i64 0, .string ⟨#[]⟩, .slice none 0 0] 24)
  have XB : Hid _ := yb
  have X2 : Hid _ := y2
  clear yb y2
  go_enter Tryz.func10, Tryz.ntmps10
  go_upto_region 1 with fail
  generalize (w.alloc (Obj.cells #[.int .i64 x0, .int .i64 x1, .string x2, .slice A x3.length c] 24)).alloc (Obj.cells #[.int .i64 0, .int .i64 0, .string ⟨#[]⟩, .slice none 0 0] 24) = X at *
  obtain ⟨p0, p1, p2, p3⟩ := cells4 y1
  clear y1
  go_wp2_with fail
  refine Calls.mono (HA.out _ XB.out) ?_
  rintro e w5 ⟨A5, c5, rfl, hc5, hF5, B5⟩
  have y2 := blk_below X2.out B5
  obtain ⟨q0, q1, q2, q3⟩ := cells4 y2
  have f0 := frozen4 (i := 0) y2
  have f1 := frozen4 (i := 1) y2
  have f2 := frozen4 (i := 2) y2
  have f3 := frozen4 (i := 3) y2
  have Z2 : Hid _ := y2
  have HF5 : Hid _ := hF5
  have HB5 : Hid _ := B5
  clear y2 hF5 B5 p0 p1 p2 p3
  go_wp2_with fail
  have hXs := blk_lt X2.out
  have BE : Below w.heap.size w _ := below4 (a0 := .int .i64 YY.f0) (a1 := .int .i64 YY.f1) (a2 := .string YY.f2) (a3 := .slice A5 YY.f3.length c5) (b := w.heap.size + 1) (below_after XB.out HB5.out) (by omega)
  refine bodyPost_ret (results_cell_row rfl _ _ (w.heap.size + 1) 24 #[.int .i64 YY.f0, .int .i64 YY.f1, .string YY.f2, .slice A5 YY.f3.length c5] (0, 0) _ rfl (set4 Z2.out) Tryz.underlying24 rfl (by kernel_rfl)) rfl ⟨A5, c5, rfl, hc5, ?_, BE⟩
  refine Kd.F_mono (Kd.F_step HF5.out (fun k hk hlt => far4 (b := w.heap.size + 1) ?_)) (fun k hk => ?_)
  · rcases hk with hk | hk <;> omega
  · rcases hk with hk | hk
    · exact .inl hk.1
    · exact .inr (by omega)
end Go.Proofs.YtcjmplpfebpfpaaGreatDoor

namespace Go.Proofs.YtcjmplpfebpfpaaGreatDoor
open Go.RowKit Go.Proofs Go.Proofs.YtcjmplpfebpfpaaGreatDoorW.PrintWords Go.Proofs.YtcjmplpfebpfpaaGreatDoorW.PrintLast Go.Proofs.YtcjmplpfebpfpaaGreatDoorW.PrintMore PKindInstances
set_option linter.unusedVariables false
set_option linter.unusedSimpArgs false

end Go.Proofs.YtcjmplpfebpfpaaGreatDoor

namespace Go.Proofs.YtcjmplpfebpfpaaGreatDoor.PKindInstances
open Go.RowKit Go.Proofs.YtcjmplpfebpfpaaGreatDoorW.PrintWords Go.Proofs.YtcjmplpfebpfpaaGreatDoorW.PrintLast Go.Proofs.YtcjmplpfebpfpaaGreatDoorW.PrintMore
attribute [local go_sem] max2_int min2_int max_two min_two max_three min_three max_four min_four   -- for this text's walks alone
set_option linter.unusedVariables false
set_option linter.unusedSimpArgs false

end Go.Proofs.YtcjmplpfebpfpaaGreatDoor.PKindInstances

namespace Go.Proofs.YtcjmplpfebpfpaaGreatDoor
open Go.RowKit Go.Proofs Go.Proofs.YtcjmplpfebpfpaaGreatDoorW.PrintWords Go.Proofs.YtcjmplpfebpfpaaGreatDoorW.PrintLast Go.Proofs.YtcjmplpfebpfpaaGreatDoorW.PrintMore PKindInstances
set_option linter.unusedVariables false
set_option linter.unusedSimpArgs false

end Go.Proofs.YtcjmplpfebpfpaaGreatDoor

namespace Go.Proofs.YtcjmplpfebpfpaaGreatDoor.PKindInstances
open Go.RowKit Go.Proofs.YtcjmplpfebpfpaaGreatDoorW.PrintWords Go.Proofs.YtcjmplpfebpfpaaGreatDoorW.PrintLast Go.Proofs.YtcjmplpfebpfpaaGreatDoorW.PrintMore
attribute [local go_sem] max2_int min2_int max_two min_two max_three min_three max_four min_four   -- for this text's walks alone
set_option linter.unusedVariables false
set_option linter.unusedSimpArgs false

end Go.Proofs.YtcjmplpfebpfpaaGreatDoor.PKindInstances

namespace Go.Proofs.YtcjmplpfebpfpaaGreatDoor
open Go.RowKit Go.Proofs Go.Proofs.YtcjmplpfebpfpaaGreatDoorW.PrintWords Go.Proofs.YtcjmplpfebpfpaaGreatDoorW.PrintLast Go.Proofs.YtcjmplpfebpfpaaGreatDoorW.PrintMore PKindInstances
set_option linter.unusedVariables false
set_option linter.unusedSimpArgs false

end Go.Proofs.YtcjmplpfebpfpaaGreatDoor

namespace Go.Proofs.YtcjmplpfebpfpaaGreatDoor.PKindInstances
open Go.RowKit Go.Proofs.YtcjmplpfebpfpaaGreatDoorW.PrintWords Go.Proofs.YtcjmplpfebpfpaaGreatDoorW.PrintLast Go.Proofs.YtcjmplpfebpfpaaGreatDoorW.PrintMore
attribute [local go_sem] max2_int min2_int max_two min_two max_three min_three max_four min_four   -- for this text's walks alone
set_option linter.unusedVariables false
set_option linter.unusedSimpArgs false

end Go.Proofs.YtcjmplpfebpfpaaGreatDoor.PKindInstances

namespace Go.Proofs.YtcjmplpfebpfpaaGreatDoor.PKindInstances
open Go.RowKit Go.Proofs.YtcjmplpfebpfpaaGreatDoorW.PrintWords Go.Proofs.YtcjmplpfebpfpaaGreatDoorW.PrintLast Go.Proofs.YtcjmplpfebpfpaaGreatDoorW.PrintMore
attribute [local go_sem] max2_int min2_int max_two min_two max_three min_three max_four min_four   -- for this text's walks alone
set_option linter.unusedVariables false
set_option linter.unusedSimpArgs false

end Go.Proofs.YtcjmplpfebpfpaaGreatDoor.PKindInstances

namespace Go.Proofs.YtcjmplpfebpfpaaGreatDoor.PKindInstances
open Go.RowKit Go.Proofs.YtcjmplpfebpfpaaGreatDoorW.PrintWords Go.Proofs.YtcjmplpfebpfpaaGreatDoorW.PrintLast Go.Proofs.YtcjmplpfebpfpaaGreatDoorW.PrintMore
attribute [local go_sem] max2_int min2_int max_two min_two max_three min_three max_four min_four   -- for this text's walks alone
set_option linter.unusedVariables false
set_option linter.unusedSimpArgs false

end Go.Proofs.YtcjmplpfebpfpaaGreatDoor.PKindInstances

namespace Go.Proofs.YtcjmplpfebpfpaaGreatDoor
open Go.RowKit Go.Proofs Go.Proofs.YtcjmplpfebpfpaaGreatDoorW.PrintWords Go.Proofs.YtcjmplpfebpfpaaGreatDoorW.PrintLast Go.Proofs.YtcjmplpfebpfpaaGreatDoorW.PrintMore PKindInstances
set_option linter.unusedVariables false
set_option linter.unusedSimpArgs false

theorem siz_in : ∀ {l : List S24} {x : S24}, x ∈ l → siz x ≤ sizs l
  | [], _, h => absurd h List.not_mem_nil
  | y :: l, x, h => by
    simp only [sizs]
    rcases List.mem_cons.1 h with h | h
    · rw [h]; omega
    · have := siz_in h; omega
theorem wr64 {z : Int} (h1 : 0 ≤ z) (h2 : z < 9000000000) : wrap64 z = z := by unfold wrap64; omega

end Go.Proofs.YtcjmplpfebpfpaaGreatDoor
