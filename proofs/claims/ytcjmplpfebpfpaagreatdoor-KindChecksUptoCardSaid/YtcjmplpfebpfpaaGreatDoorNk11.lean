/- Part 11 of what the law's row leans on (Nk): the print's words and functions, cut to what is reached, and own texts. -/
import Derived.Defers
import Derived.Recover
import Derived.BigQuiet
import Derived.Deep.RegionLaw
import Derived.Deep.RegionHeld3
import Derived.Sort.KeysCollected
import Derived.WideShapes
import Derived.StringKeys
import Derived.Test.YtcjmplpfebpfpaaGreatDoorNk10
namespace Go.Proofs.YtcjmplpfebpfpaaGreatDoor
open Go.RowKit Go.Proofs Go.Proofs.YtcjmplpfebpfpaaGreatDoorW.PrintWords Go.Proofs.YtcjmplpfebpfpaaGreatDoorW.PrintLast Go.Proofs.YtcjmplpfebpfpaaGreatDoorW.PrintMore PKindInstances
set_option linter.unusedVariables false
set_option linter.unusedSimpArgs false

theorem two_boxes (w : World) (o1 o2 : Obj) : ((w.alloc o1).alloc o2).drew.heap[w.heap.size]? = some o1 ∧ ((w.alloc o1).alloc o2).drew.heap[w.heap.size + 1]? = some o2 ∧ Below w.heap.size w ((w.alloc o1).alloc o2).drew := by
  refine ⟨(Below.heap_alloc _ _ _ (by rw [size_new]; omega)).trans (MapKept.heap_alloc w _).1, ?_, below_drew (below_alloc (below_alloc (Below.refl _ _) _) _)⟩
  have h := (MapKept.heap_alloc (w.alloc o1) o2).1
  rw [size_new] at h
  exact h

/-- What holds of the loop: what is known then; the two forms' own blocks. -/
def LiRel (W0 X : World) (base sp vb tb : Nat) (vs : List ByteArray) (f : List (ByteArray × S24) → S24 → S24 → Bool → Option URes) (fn bare : Bool) (la lb : List S24) (R : URes) (k : Nat) (x9 : Value) (wr : World) : Prop :=
  ∃ (i : Nat) (mt : List (ByteArray × S24)) (mtv : List (ByteArray × Value)), x9 = .int .i64 (i : Int) ∧ k + i = la.length ∧ i ≤ lb.length ∧ X.grownBy wr (some tb) ∧ SolvAt base wr sp vb tb (varsV vs) mtv ∧ ToAt W0 mt mtv ∧
    (match listsL f fn bare i mt (la.drop i) (lb.drop i) with | none => none | some (.stop e) => some (URes.stop e) | some (.ok mt') => if la.length = lb.length then some (.ok mt') else some (.stop 8)) = some R

theorem listsL_end {f : List (ByteArray × S24) → S24 → S24 → Bool → Option URes} {fn bare : Bool} {i : Nat} {mt : List (ByteArray × S24)} {la lb : List S24} (h : la = [] ∨ lb = []) : listsL f fn bare i mt la lb = some (.ok mt) := by
  cases la with
  | nil => rfl
  | cons x la =>
    cases lb with
    | nil => rfl
    | cons y lb => simp at h

set_option maxRecDepth 100000 in
set_option maxHeartbeats 4000000 in
theorem lists_bare (vs : List ByteArray) (n : Nat) (W0 w : World) (base sp vb tb : Nat) (mt : List (ByteArray × S24)) (mtv : List (ByteArray × Value)) (a0 a1 : Int) (a2 : ByteArray) (la : List S24) (b0 b1 : Int) (b2 : ByteArray) (lb : List S24) (A B : Option Addr) (c d : Nat) (R : URes)
    (hs : SolvAt base w sp vb tb (varsV vs) mtv) (ht : ToAt W0 mt mtv) (hw : Below W0.heap.size W0 w) (hb : W0.heap.size ≤ base) (ha1 : Kd.C k24 W0 A la.length la) (ha2 : la.length ≤ c) (ha3 : wids la < 9000000) (hb1 : Kd.C k24 W0 B lb.length lb) (hb2 : lb.length ≤ d) (hb3 : wids lb < 9000000) (hU : UniOk vs n)
    (hk : (match listsL (unifyM vs n) false true 0 mt la lb with | none => none | some (.stop e) => some (URes.stop e) | some (.ok mt') => if la.length = lb.length then some (.ok mt') else some (.stop 8)) = some R) :
    Calls Tryz.prog 97 #[.pointer (some ⟨sp, 0, none⟩), formV a0 a1 a2 A la.length c, formV b0 b1 b2 B lb.length d, .bool true] w (UPost W0 w base sp vb tb vs R) := by
  have hu24 := Tryz.underlying24
  have h1 := wids_len la
  have h2 := wids_len lb
  have hx2 : ((w.alloc (Obj.cells #[.int .i64 a0, .int .i64 a1, .string a2, .slice A la.length c] 24)).alloc (Obj.cells #[.int .i64 b0, .int .i64 b1, .string b2, .slice B lb.length d] 24)).heap[w.heap.size + 1]? = some (Obj.cells #[.int .i64 b0, .int .i64 b1, .string b2, .slice B lb.length d] 24) := by
    have h := (MapKept.heap_alloc (w.alloc (Obj.cells #[.int .i64 a0, .int .i64 a1, .string a2, .slice A la.length c] 24)) (Obj.cells #[.int .i64 b0, .int .i64 b1, .string b2, .slice B lb.length d] 24)).1
    rw [size_new] at h
    exact h
  have hx1 : ((w.alloc (Obj.cells #[.int .i64 a0, .int .i64 a1, .string a2, .slice A la.length c] 24)).alloc (Obj.cells #[.int .i64 b0, .int .i64 b1, .string b2, .slice B lb.length d] 24)).heap[w.heap.size]? = some (Obj.cells #[.int .i64 a0, .int .i64 a1, .string a2, .slice A la.length c] 24) :=
    (Below.heap_alloc _ _ _ (by rw [size_new]; omega)).trans (MapKept.heap_alloc w _).1
  have hxb : Below w.heap.size w ((w.alloc (Obj.cells #[.int .i64 a0, .int .i64 a1, .string a2, .slice A la.length c] 24)).alloc (Obj.cells #[.int .i64 b0, .int .i64 b1, .string b2, .slice B lb.length d] 24)) := below_alloc (below_alloc (Below.refl _ _) _) _
  have HK : Hid _ := hk
  have HT : Hid _ := ht
  have start : Hid (LiRel W0 ((w.alloc (Obj.cells #[.int .i64 a0, .int .i64 a1, .string a2, .slice A la.length c] 24)).alloc (Obj.cells #[.int .i64 b0, .int .i64 b1, .string b2, .slice B lb.length d] 24)) base sp vb tb vs (unifyM vs n) false true la lb R la.length (.int .i64 ((0 : Nat) : Int)) ((w.alloc (Obj.cells #[.int .i64 a0, .int .i64 a1, .string a2, .slice A la.length c] 24)).alloc (Obj.cells #[.int .i64 b0, .int .i64 b1, .string b2, .slice B lb.length d] 24))) := ⟨0, mt, mtv, rfl, rfl, Nat.zero_le _, ⟨rfl, rfl, rfl, Nat.le_refl _, fun _ _ _ => rfl⟩, hs.below hxb, HT.out, HK.out⟩
  have hsz0 : ((w.alloc (Obj.cells #[.int .i64 a0, .int .i64 a1, .string a2, .slice A la.length c] 24)).alloc (Obj.cells #[.int .i64 b0, .int .i64 b1, .string b2, .slice B lb.length d] 24)).heap.size = w.heap.size + 1 + 1 := by rw [size_new, size_new]
  have htb : tb < w.heap.size := hs.tos.lt
  have hsb := hs.bt
  have HX1 : Hid _ := hx1
  have HX2 : Hid _ := hx2
  have HXW : Hid _ := (hw.trans (hxb.mono hw.size) : Below W0.heap.size W0 ((w.alloc (Obj.cells #[.int .i64 a0, .int .i64 a1, .string a2, .slice A la.length c] 24)).alloc (Obj.cells #[.int .i64 b0, .int .i64 b1, .string b2, .slice B lb.length d] 24)))
  have HXG : Hid (w.grownBy ((w.alloc (Obj.cells #[.int .i64 a0, .int .i64 a1, .string a2, .slice A la.length c] 24)).alloc (Obj.cells #[.int .i64 b0, .int .i64 b1, .string b2, .slice B lb.length d] 24)) (some tb)) := grown_of_below hxb (some tb)
  have HA : Hid _ := ha1
  have HBB : Hid _ := hb1
  have HUU : Hid _ := hU
  clear hx1 hx2 hxb hs ht ha1 hb1 hU hw hk
  go_enter Tryz.func97, Tryz.ntmps97
  go_wp2_with fail
  generalize hGen : ((w.alloc (Obj.cells #[.int .i64 a0, .int .i64 a1, .string a2, .slice A la.length c] 24)).alloc (Obj.cells #[.int .i64 b0, .int .i64 b1, .string b2, .slice B lb.length d] 24)) = X at *
  go_loopg [9] la.length (fun k x9 wr => LiRel W0 X base sp vb tb vs (unifyM vs n) false true la lb R k x9 wr)
  case atStart => exact start.out
  case round =>
    clear start
    obtain ⟨i, mt2, mtv2, rfl, hki, hil, hg, hS, hT, hV⟩ := hrel
    have hb1 := (hg.block _ (Array.getElem?_eq_some_iff.1 HX1.out).1 (by simp; omega)).trans HX1.out
    have hb2' := (hg.block _ (Array.getElem?_eq_some_iff.1 HX2.out).1 (by simp; omega)).trans HX2.out
    obtain ⟨p0, p1, p2, p3⟩ := cells4 hb1
    obtain ⟨q0, q1, q2, q3⟩ := cells4 hb2'
    have hW := pw_below_grown HXW.out (some tb) HXW.out.size hg (fun k hk => by cases hk; omega)
    by_cases hla : i < la.length
    · by_cases hlb : i < lb.length
      · obtain ⟨g, rfl⟩ : ∃ g, gk = g + 1 := ⟨gk - 1, by omega⟩
        obtain ⟨x, hx⟩ : ∃ x, la[i]? = some x := ⟨la[i], by simp [hla]⟩
        obtain ⟨y, hy⟩ : ∃ y, lb[i]? = some y := ⟨lb[i], by simp [hlb]⟩
        obtain ⟨ad, A5, c5, rfl, g0, g1, g2, g3, g4, g5⟩ := row_at HA.out hla hx
        obtain ⟨ae, B5, d5, rfl, k0, k1, k2, k3, k4, k5⟩ := row_at HBB.out hlb hy
        replace g0 := pw_cell_below hW g0
        replace g1 := pw_cell_below hW g1
        replace g2 := pw_cell_below hW g2
        replace g3 := pw_cell_below hW g3
        replace k0 := pw_cell_below hW k0
        replace k1 := pw_cell_below hW k1
        replace k2 := pw_cell_below hW k2
        replace k3 := pw_cell_below hW k3
        have emin : min (la.length : Int) (lb.length : Int) = ((min la.length lb.length : Nat) : Int) := by omega
        have elt : decide (i < min la.length lb.length) = true := decide_eq_true (by omega)
        rw [drop_at3 hx, drop_at3 hy] at hV
        simp only [listsL] at hV
        have SX : Hid (wid x < 9000000) := by have := wid_mem (List.mem_of_getElem? hx); exact (by omega : wid x < 9000000)
        have SY : Hid (wid y < 9000000) := by have := wid_mem (List.mem_of_getElem? hy); exact (by omega : wid y < 9000000)
        have G5 : Hid _ := g5
        have K5 : Hid _ := k5
        have HV : Hid _ := hV
        clear g5 k5 hV hx hy hb1 hb2'
        obtain ⟨x0, x1, x2, x3⟩ := x
        obtain ⟨y0, y1, y2, y3⟩ := y
        go_upto_region 5 with fail
        go_cut [10, 11] from 36 to 45 (fun x10 x11 wx => ∃ p q, x10 = .pointer (some ⟨p, 0, none⟩) ∧ x11 = .pointer (some ⟨q, 0, none⟩) ∧ wr.heap.size ≤ p ∧ wr.heap.size ≤ q ∧
            wx.heap[p]? = some (.cells #[.int .i64 x0, .int .i64 x1, .string x2, .slice A5 x3.length c5] 24 (0, 0)) ∧ wx.heap[q]? = some (.cells #[.int .i64 y0, .int .i64 y1, .string y2, .slice B5 y3.length d5] 24 (0, 0)) ∧ Below wr.heap.size wr wx)
        case first =>
          go_region_held3 (fun w' => (w'.cell? ⟨w.heap.size, 3, none⟩ = some (.slice (some ad) la.length c) ∧ w'.cell? ⟨w.heap.size + 1, 3, none⟩ = some (.slice (some ae) lb.length d)) ∧
              (w'.cell? (ad.add (i * 4)) = some (.int .i64 x0) ∧ w'.cell? ⟨(ad.add (i * 4)).block, (ad.add (i * 4)).off + 1, none⟩ = some (.int .i64 x1) ∧ w'.cell? ⟨(ad.add (i * 4)).block, (ad.add (i * 4)).off + 2, none⟩ = some (.string x2) ∧ w'.cell? ⟨(ad.add (i * 4)).block, (ad.add (i * 4)).off + 3, none⟩ = some (.slice A5 x3.length c5)) ∧
              (w'.cell? (ae.add (i * 4)) = some (.int .i64 y0) ∧ w'.cell? ⟨(ae.add (i * 4)).block, (ae.add (i * 4)).off + 1, none⟩ = some (.int .i64 y1) ∧ w'.cell? ⟨(ae.add (i * 4)).block, (ae.add (i * 4)).off + 2, none⟩ = some (.string y2) ∧ w'.cell? ⟨(ae.add (i * 4)).block, (ae.add (i * 4)).off + 3, none⟩ = some (.slice B5 y3.length d5)))
            (first | go_keep) (fail)
          all_goals
            go_wp2_with fail
            go_meet
          · exact ⟨_, _, rfl, rfl, Nat.le_refl _, by omega, (two_boxes _ _ _).1, (two_boxes _ _ _).2.1, (two_boxes _ _ _).2.2⟩
          · exact ⟨_, _, rfl, rfl, by omega, Nat.le_refl _, (two_boxes _ _ _).2.1, (two_boxes _ _ _).1, (two_boxes _ _ _).2.2⟩
        case rest =>
          obtain ⟨p, q, rfl, rfl, hpp, hqq, hp, hq, hB⟩ := hcut
          obtain ⟨s0, s1, s2, s3⟩ := cells4 hp
          obtain ⟨t0, t1, t2, t3⟩ := cells4 hq
          have S4 : Hid _ := hS.below hB
          have G4 : Hid (X.grownBy wc (some tb)) := hg.trans (grown_of_below hB (some tb))
          have W4 : Hid (Below W0.heap.size W0 wc) := hW.trans (hB.mono hW.size)
          have T4 : Hid _ := hT
          have hV := HV.out
          clear hB hp hq hS hT hW hg p0 p1 p2 q0 q1 q2 g0 g1 g2 g3 k0 k1 k2 k3 p3 q3 HV
          rw [if_neg (by simp)] at hV
          by_cases hi : i = 0
          · have hi2 : ((i : Int) == 0) = true := beq_iff_eq.mpr (by omega)
            clear hi
            rw [show (false && decide (i = 1) && (x0 == 3) && (y0 == 3)) = false from rfl] at hV
            cases hq1 : unifyM vs n mt2 ⟨x0, x1, x2, x3⟩ ⟨y0, y1, y2, y3⟩ false with
            | none => rw [hq1] at hV; cases hV
            | some R1 =>
              rw [hq1] at hV
              have UU : Hid _ := HUU.out W0 wc base sp vb tb mt2 mtv2 ⟨x0, x1, x2, x3⟩ ⟨y0, y1, y2, y3⟩ false A5 B5 c5 d5 R1 S4.out T4.out W4.out hb G5.out g4 SX.out K5.out k4 SY.out hq1
              clear hq1
              go_wp2_with fail
              refine Calls.mono UU.out ?_
              rintro e w6 h6
              cases R1 with
              | stop e1 =>
                obtain ⟨rfl, h7⟩ := h6
                simp only [Option.some.injEq] at hV
                subst hV
                have H7 : Hid _ := HXG.out.trans (G4.out.trans h7)
                clear h7
                go_wp2_with fail
                exact ⟨rfl, rfl, H7.out⟩
              | ok mt3 =>
                obtain ⟨rfl, h7, mtv3, h8, h9⟩ := h6
                have H7 : Hid _ := G4.out.trans h7
                have H8 : Hid _ := h8
                have H9 : Hid _ := h9
                have HV9 : Hid _ := hV
                clear h7 h8 h9 hV
                go_wp2_with fail
                go_roundg g
                case measure => omega
                case rel => exact ⟨i + 1, mt3, mtv3, by go_num, by omega, by omega, H7.out, H8.out, H9.out, HV9.out⟩
          · have hi2 : ((i : Int) == 0) = false := beq_eq_false_iff_ne.mpr (by omega)
            clear hi
            rw [show (false && decide (i = 1) && (x0 == 3) && (y0 == 3)) = false from rfl] at hV
            cases hq1 : unifyM vs n mt2 ⟨x0, x1, x2, x3⟩ ⟨y0, y1, y2, y3⟩ false with
            | none => rw [hq1] at hV; cases hV
            | some R1 =>
              rw [hq1] at hV
              have UU : Hid _ := HUU.out W0 wc base sp vb tb mt2 mtv2 ⟨x0, x1, x2, x3⟩ ⟨y0, y1, y2, y3⟩ false A5 B5 c5 d5 R1 S4.out T4.out W4.out hb G5.out g4 SX.out K5.out k4 SY.out hq1
              clear hq1
              go_wp2_with fail
              refine Calls.mono UU.out ?_
              rintro e w6 h6
              cases R1 with
              | stop e1 =>
                obtain ⟨rfl, h7⟩ := h6
                simp only [Option.some.injEq] at hV
                subst hV
                have H7 : Hid _ := HXG.out.trans (G4.out.trans h7)
                clear h7
                go_wp2_with fail
                exact ⟨rfl, rfl, H7.out⟩
              | ok mt3 =>
                obtain ⟨rfl, h7, mtv3, h8, h9⟩ := h6
                have H7 : Hid _ := G4.out.trans h7
                have H8 : Hid _ := h8
                have H9 : Hid _ := h9
                have HV9 : Hid _ := hV
                clear h7 h8 h9 hV
                go_wp2_with fail
                go_roundg g
                case measure => omega
                case rel => exact ⟨i + 1, mt3, mtv3, by go_num, by omega, by omega, H7.out, H8.out, H9.out, HV9.out⟩
      · clear hb1 hb2'
        have hV2 : (if la.length = lb.length then some (URes.ok mt2) else some (.stop 8)) = some R := by rw [listsL_end (by right; exact List.drop_eq_nil_of_le (by omega))] at hV; exact hV
        have G9 : Hid _ := HXG.out.trans hg
        have S9 : Hid _ := hS
        have T9 : Hid _ := hT
        have emin : min (la.length : Int) (lb.length : Int) = ((min la.length lb.length : Nat) : Int) := by omega
        have elt : decide (i < min la.length lb.length) = false := decide_eq_false (by omega)
        have ele : min la.length lb.length ≤ i := by omega
        clear hV hg hS hT
        by_cases hll : la.length = lb.length
        · exact absurd hll (by omega)
        · rw [if_neg hll] at hV2
          obtain rfl := Option.some.inj hV2
          have en : ((la.length : Int) != (lb.length : Int)) = true := bne_iff_ne.mpr (by omega)
          clear hV2
          go_wp2_with fail
          exact ⟨rfl, rfl, G9.out⟩
    · clear hb1 hb2'
      have hV2 : (if la.length = lb.length then some (URes.ok mt2) else some (.stop 8)) = some R := by rw [listsL_end (by left; exact List.drop_eq_nil_of_le (by omega))] at hV; exact hV
      have G9 : Hid _ := HXG.out.trans hg
      have S9 : Hid _ := hS
      have T9 : Hid _ := hT
      have emin : min (la.length : Int) (lb.length : Int) = ((min la.length lb.length : Nat) : Int) := by omega
      have elt : decide (i < min la.length lb.length) = false := decide_eq_false (by omega)
      have ele : min la.length lb.length ≤ i := by omega
      clear hV hg hS hT
      by_cases hll : la.length = lb.length
      · rw [if_pos hll] at hV2
        obtain rfl := Option.some.inj hV2
        have en : ((la.length : Int) != (lb.length : Int)) = false := bne_eq_false_iff_eq.mpr (by omega)
        clear hV2
        go_wp2_with fail
        go_end0
        exact ⟨rfl, G9.out, mtv2, S9.out, T9.out⟩
      · rw [if_neg hll] at hV2
        obtain rfl := Option.some.inj hV2
        have en : ((la.length : Int) != (lb.length : Int)) = true := bne_iff_ne.mpr (by omega)
        clear hV2
        go_wp2_with fail
        exact ⟨rfl, rfl, G9.out⟩

set_option maxRecDepth 100000 in
set_option maxHeartbeats 8000000 in
theorem lists_open (vs : List ByteArray) (n : Nat) (W0 w : World) (base sp vb tb : Nat) (mt : List (ByteArray × S24)) (mtv : List (ByteArray × Value)) (a0 a1 : Int) (a2 : ByteArray) (la : List S24) (b0 b1 : Int) (b2 : ByteArray) (lb : List S24) (A B : Option Addr) (c d : Nat) (R : URes)
    (hs : SolvAt base w sp vb tb (varsV vs) mtv) (ht : ToAt W0 mt mtv) (hw : Below W0.heap.size W0 w) (hb : W0.heap.size ≤ base) (ha1 : Kd.C k24 W0 A la.length la) (ha2 : la.length ≤ c) (ha3 : wids la < 9000000) (hb1 : Kd.C k24 W0 B lb.length lb) (hb2 : lb.length ≤ d) (hb3 : wids lb < 9000000) (hU : UniOk vs n)
    (hk : (match listsL (unifyM vs n) (isFunW (headOf a0 la) && isFunW (headOf b0 lb)) false 0 mt la lb with | none => none | some (.stop e) => some (URes.stop e) | some (.ok mt') => if la.length = lb.length then some (.ok mt') else some (.stop 8)) = some R) :
    Calls Tryz.prog 97 #[.pointer (some ⟨sp, 0, none⟩), formV a0 a1 a2 A la.length c, formV b0 b1 b2 B lb.length d, .bool false] w (UPost W0 w base sp vb tb vs R) := by
  have hu24 := Tryz.underlying24
  have h1 := wids_len la
  have h2 := wids_len lb
  have hx02 : ((w.alloc (Obj.cells #[.int .i64 a0, .int .i64 a1, .string a2, .slice A la.length c] 24)).alloc (Obj.cells #[.int .i64 b0, .int .i64 b1, .string b2, .slice B lb.length d] 24)).heap[w.heap.size + 1]? = some (Obj.cells #[.int .i64 b0, .int .i64 b1, .string b2, .slice B lb.length d] 24) := by
    have h := (MapKept.heap_alloc (w.alloc (Obj.cells #[.int .i64 a0, .int .i64 a1, .string a2, .slice A la.length c] 24)) (Obj.cells #[.int .i64 b0, .int .i64 b1, .string b2, .slice B lb.length d] 24)).1
    rw [size_new] at h
    exact h
  have hx01 : ((w.alloc (Obj.cells #[.int .i64 a0, .int .i64 a1, .string a2, .slice A la.length c] 24)).alloc (Obj.cells #[.int .i64 b0, .int .i64 b1, .string b2, .slice B lb.length d] 24)).heap[w.heap.size]? = some (Obj.cells #[.int .i64 a0, .int .i64 a1, .string a2, .slice A la.length c] 24) :=
    (Below.heap_alloc _ _ _ (by rw [size_new]; omega)).trans (MapKept.heap_alloc w _).1
  have hxb0 : Below w.heap.size w ((w.alloc (Obj.cells #[.int .i64 a0, .int .i64 a1, .string a2, .slice A la.length c] 24)).alloc (Obj.cells #[.int .i64 b0, .int .i64 b1, .string b2, .slice B lb.length d] 24)) := below_alloc (below_alloc (Below.refl _ _) _) _
  have HXB0 : Hid _ := hxb0
  have HX01 : Hid _ := hx01
  have HX02 : Hid _ := hx02
  have HXW0 : Hid (Below W0.heap.size W0 ((w.alloc (Obj.cells #[.int .i64 a0, .int .i64 a1, .string a2, .slice A la.length c] 24)).alloc (Obj.cells #[.int .i64 b0, .int .i64 b1, .string b2, .slice B lb.length d] 24))) := hw.trans (hxb0.mono hw.size)
  have HWW : Hid _ := hw
  have HS : Hid _ := hs
  have HT : Hid _ := ht
  have HA : Hid _ := ha1
  have HBB : Hid _ := hb1
  have HUU : Hid _ := hU
  clear hx01 hx02 hxb0 hs ht ha1 hb1 hU hw
  obtain ⟨fa, hfa0⟩ : ∃ fa, fa = isFunW (headOf a0 la) := ⟨_, rfl⟩
  obtain ⟨fb, hfb0⟩ : ∃ fb, fb = isFunW (headOf b0 lb) := ⟨_, rfl⟩
  rw [← hfa0, ← hfb0] at hk
  have hfa : ((headOf a0 la).toList == [102, 117, 110]) = fa := hfa0.symm
  have hfb : ((headOf b0 lb).toList == [102, 117, 110]) = fb := hfb0.symm
  clear hfa0 hfb0
  cases fa with
  | false =>
    simp only [Bool.false_and] at hk
    have HK : Hid _ := hk
    clear hk
    go_enter Tryz.func97, Tryz.ntmps97
    go_wp2_with fail
    refine (Head_any a0 a1 a2 c _ (Kd.C_below HA.out HXW0.out)).mono ?_
    rintro e X ⟨rfl, B4⟩
    have hx1 : X.heap[w.heap.size]? = _ := (B4.block _ (Array.getElem?_eq_some_iff.1 HX01.out).1).trans HX01.out
    have hx2 : X.heap[w.heap.size + 1]? = _ := (B4.block _ (Array.getElem?_eq_some_iff.1 HX02.out).1).trans HX02.out
    have hxb : Below w.heap.size w X := HXB0.out.trans (B4.mono HXB0.out.size)
    have SLX : SolvAt base X sp vb tb (varsV vs) mtv := HS.out.below hxb
    have start : Hid (LiRel W0 X base sp vb tb vs (unifyM vs n) false false la lb R la.length (.int .i64 ((0 : Nat) : Int)) X) := ⟨0, mt, mtv, rfl, rfl, Nat.zero_le _, ⟨rfl, rfl, rfl, Nat.le_refl _, fun _ _ _ => rfl⟩, SLX, HT.out, HK.out⟩
    have htb : tb < w.heap.size := HS.out.tos.lt
    have hsb := HS.out.bt
    obtain ⟨p0, p1, p2, p3⟩ := cells4 hx1
    obtain ⟨q0, q1, q2, q3⟩ := cells4 hx2
    have HX1 : Hid _ := hx1
    have HX2 : Hid _ := hx2
    have HXW : Hid _ := (HWW.out.trans (hxb.mono HWW.out.size) : Below W0.heap.size W0 X)
    have HXG : Hid (w.grownBy X (some tb)) := grown_of_below hxb (some tb)
    clear hx1 hx2 hxb SLX B4
    go_wp2_with fail
    clear p0 p1 p2 p3 q0 q1 q2 q3
    go_loopg [9] la.length (fun k x9 wr => LiRel W0 X base sp vb tb vs (unifyM vs n) false false la lb R k x9 wr)
    case atStart => exact start.out
    case round =>
      clear start
      obtain ⟨i, mt2, mtv2, rfl, hki, hil, hg, hS, hT, hV⟩ := hrel
      have hb1 := (hg.block _ (Array.getElem?_eq_some_iff.1 HX1.out).1 (by simp; omega)).trans HX1.out
      have hb2' := (hg.block _ (Array.getElem?_eq_some_iff.1 HX2.out).1 (by simp; omega)).trans HX2.out
      obtain ⟨p0, p1, p2, p3⟩ := cells4 hb1
      obtain ⟨q0, q1, q2, q3⟩ := cells4 hb2'
      have hW := pw_below_grown HXW.out (some tb) HXW.out.size hg (fun k hk => by cases hk; omega)
      by_cases hla : i < la.length
      · by_cases hlb : i < lb.length
        · obtain ⟨g, rfl⟩ : ∃ g, gk = g + 1 := ⟨gk - 1, by omega⟩
          obtain ⟨x, hx⟩ : ∃ x, la[i]? = some x := ⟨la[i], by simp [hla]⟩
          obtain ⟨y, hy⟩ : ∃ y, lb[i]? = some y := ⟨lb[i], by simp [hlb]⟩
          obtain ⟨ad, A5, c5, rfl, g0, g1, g2, g3, g4, g5⟩ := row_at HA.out hla hx
          obtain ⟨ae, B5, d5, rfl, k0, k1, k2, k3, k4, k5⟩ := row_at HBB.out hlb hy
          replace g0 := pw_cell_below hW g0
          replace g1 := pw_cell_below hW g1
          replace g2 := pw_cell_below hW g2
          replace g3 := pw_cell_below hW g3
          replace k0 := pw_cell_below hW k0
          replace k1 := pw_cell_below hW k1
          replace k2 := pw_cell_below hW k2
          replace k3 := pw_cell_below hW k3
          have emin : min (la.length : Int) (lb.length : Int) = ((min la.length lb.length : Nat) : Int) := by omega
          have elt : decide (i < min la.length lb.length) = true := decide_eq_true (by omega)
          rw [drop_at3 hx, drop_at3 hy] at hV
          simp only [listsL] at hV
          have SX : Hid (wid x < 9000000) := by have := wid_mem (List.mem_of_getElem? hx); exact (by omega : wid x < 9000000)
          have SY : Hid (wid y < 9000000) := by have := wid_mem (List.mem_of_getElem? hy); exact (by omega : wid y < 9000000)
          have G5 : Hid _ := g5
          have K5 : Hid _ := k5
          have HV : Hid _ := hV
          clear g5 k5 hV hx hy hb1 hb2'
          obtain ⟨x0, x1, x2, x3⟩ := x
          obtain ⟨y0, y1, y2, y3⟩ := y
          go_upto_region 5 with fail
          go_cut [10, 11] from 36 to 45 (fun x10 x11 wx => ∃ p q, x10 = .pointer (some ⟨p, 0, none⟩) ∧ x11 = .pointer (some ⟨q, 0, none⟩) ∧ wr.heap.size ≤ p ∧ wr.heap.size ≤ q ∧
              wx.heap[p]? = some (.cells #[.int .i64 x0, .int .i64 x1, .string x2, .slice A5 x3.length c5] 24 (0, 0)) ∧ wx.heap[q]? = some (.cells #[.int .i64 y0, .int .i64 y1, .string y2, .slice B5 y3.length d5] 24 (0, 0)) ∧ Below wr.heap.size wr wx)
          case first =>
            go_region_held3 (fun w' => (w'.cell? ⟨w.heap.size, 3, none⟩ = some (.slice (some ad) la.length c) ∧ w'.cell? ⟨w.heap.size + 1, 3, none⟩ = some (.slice (some ae) lb.length d)) ∧
                (w'.cell? (ad.add (i * 4)) = some (.int .i64 x0) ∧ w'.cell? ⟨(ad.add (i * 4)).block, (ad.add (i * 4)).off + 1, none⟩ = some (.int .i64 x1) ∧ w'.cell? ⟨(ad.add (i * 4)).block, (ad.add (i * 4)).off + 2, none⟩ = some (.string x2) ∧ w'.cell? ⟨(ad.add (i * 4)).block, (ad.add (i * 4)).off + 3, none⟩ = some (.slice A5 x3.length c5)) ∧
                (w'.cell? (ae.add (i * 4)) = some (.int .i64 y0) ∧ w'.cell? ⟨(ae.add (i * 4)).block, (ae.add (i * 4)).off + 1, none⟩ = some (.int .i64 y1) ∧ w'.cell? ⟨(ae.add (i * 4)).block, (ae.add (i * 4)).off + 2, none⟩ = some (.string y2) ∧ w'.cell? ⟨(ae.add (i * 4)).block, (ae.add (i * 4)).off + 3, none⟩ = some (.slice B5 y3.length d5)))
              (first | go_keep) (fail)
            all_goals
              go_wp2_with fail
              go_meet
            · exact ⟨_, _, rfl, rfl, Nat.le_refl _, by omega, (two_boxes _ _ _).1, (two_boxes _ _ _).2.1, (two_boxes _ _ _).2.2⟩
            · exact ⟨_, _, rfl, rfl, by omega, Nat.le_refl _, (two_boxes _ _ _).2.1, (two_boxes _ _ _).1, (two_boxes _ _ _).2.2⟩
          case rest =>
            obtain ⟨p, q, rfl, rfl, hpp, hqq, hp, hq, hB⟩ := hcut
            obtain ⟨s0, s1, s2, s3⟩ := cells4 hp
            obtain ⟨t0, t1, t2, t3⟩ := cells4 hq
            have S4 : Hid _ := hS.below hB
            have G4 : Hid (X.grownBy wc (some tb)) := hg.trans (grown_of_below hB (some tb))
            have W4 : Hid (Below W0.heap.size W0 wc) := hW.trans (hB.mono hW.size)
            have T4 : Hid _ := hT
            have hV := HV.out
            clear hB hp hq hS hT hW hg p0 p1 p2 q0 q1 q2 g0 g1 g2 g3 k0 k1 k2 k3 p3 q3 HV
            by_cases hi : i = 0
            · have hi2 : ((i : Int) == 0) = true := beq_iff_eq.mpr (by omega)
              have hi3 : ((i : Int) == 1) = false := beq_eq_false_iff_ne.mpr (by omega)
              have hi4 : decide (i = 1) = false := decide_eq_false (by omega)
              by_cases hx1 : x0 = 1
              · subst hx1
                rw [if_pos ⟨hi, by trivial, .inl rfl⟩] at hV
                clear hi
                have EQ : Hid _ := Equal_any ⟨1, x1, x2, x3⟩ ⟨y0, y1, y2, y3⟩ A5 B5 c5 d5 wc (Kd.C_below G5.out W4.out) g4 (Kd.C_below K5.out W4.out) k4 SX.out SY.out
                obtain ⟨eq, heq⟩ : ∃ eq, eq = eqM ⟨1, x1, x2, x3⟩ ⟨y0, y1, y2, y3⟩ := ⟨_, rfl⟩
                rw [← heq] at hV EQ
                clear heq
                cases eq with
                | true =>
                  simp only [if_true] at hV
                  have HV9 : Hid _ := hV
                  clear hV
                  go_wp2_with fail
                  refine Calls.mono EQ.out ?_
                  rintro e w6 ⟨rfl, B6⟩
                  have S6 : Hid _ := S4.out.below B6
                  have G6 : Hid _ := G4.out.trans (grown_of_below B6 (some tb))
                  clear B6
                  go_wp2_with fail
                  go_roundg g
                  case measure => omega
                  case rel => exact ⟨i + 1, mt2, mtv2, by go_num, by omega, by omega, G6.out, S6.out, T4.out, HV9.out⟩
                | false =>
                  simp only [Bool.false_eq_true, if_false, Option.some.injEq] at hV
                  subst hV
                  go_wp2_with fail
                  refine Calls.mono EQ.out ?_
                  rintro e w6 ⟨rfl, B6⟩
                  have G6 : Hid _ := HXG.out.trans (G4.out.trans (grown_of_below B6 (some tb)))
                  clear B6
                  go_wp2_with fail
                  exact ⟨rfl, rfl, G6.out⟩
              · have bx : (x0 == 1) = false := beq_eq_false_iff_ne.mpr hx1
                by_cases hy1 : y0 = 1
                · subst hy1
                  rw [if_pos ⟨hi, by trivial, .inr rfl⟩] at hV
                  clear hi
                  have EQ : Hid _ := Equal_any ⟨x0, x1, x2, x3⟩ ⟨1, y1, y2, y3⟩ A5 B5 c5 d5 wc (Kd.C_below G5.out W4.out) g4 (Kd.C_below K5.out W4.out) k4 SX.out SY.out
                  obtain ⟨eq, heq⟩ : ∃ eq, eq = eqM ⟨x0, x1, x2, x3⟩ ⟨1, y1, y2, y3⟩ := ⟨_, rfl⟩
                  rw [← heq] at hV EQ
                  clear heq
                  cases eq with
                  | true =>
                    simp only [if_true] at hV
                    have HV9 : Hid _ := hV
                    clear hV
                    go_wp2_with fail
                    refine Calls.mono EQ.out ?_
                    rintro e w6 ⟨rfl, B6⟩
                    have S6 : Hid _ := S4.out.below B6
                    have G6 : Hid _ := G4.out.trans (grown_of_below B6 (some tb))
                    clear B6
                    go_wp2_with fail
                    go_roundg g
                    case measure => omega
                    case rel => exact ⟨i + 1, mt2, mtv2, by go_num, by omega, by omega, G6.out, S6.out, T4.out, HV9.out⟩
                  | false =>
                    simp only [Bool.false_eq_true, if_false, Option.some.injEq] at hV
                    subst hV
                    go_wp2_with fail
                    refine Calls.mono EQ.out ?_
                    rintro e w6 ⟨rfl, B6⟩
                    have G6 : Hid _ := HXG.out.trans (G4.out.trans (grown_of_below B6 (some tb)))
                    clear B6
                    go_wp2_with fail
                    exact ⟨rfl, rfl, G6.out⟩
                · have by1 : (y0 == 1) = false := beq_eq_false_iff_ne.mpr hy1
                  rw [if_neg (fun h => h.2.2.elim hx1 hy1)] at hV
                  clear hi hx1 hy1
                  rw [show (false && decide (i = 1) && (x0 == 3) && (y0 == 3)) = false by rw [hi4]; simp] at hV
                  cases hq1 : unifyM vs n mt2 ⟨x0, x1, x2, x3⟩ ⟨y0, y1, y2, y3⟩ false with
                  | none => rw [hq1] at hV; cases hV
                  | some R1 =>
                    rw [hq1] at hV
                    have UU : Hid _ := HUU.out W0 wc base sp vb tb mt2 mtv2 ⟨x0, x1, x2, x3⟩ ⟨y0, y1, y2, y3⟩ false A5 B5 c5 d5 R1 S4.out T4.out W4.out hb G5.out g4 SX.out K5.out k4 SY.out hq1
                    clear hq1
                    go_wp2_with fail
                    refine Calls.mono UU.out ?_
                    rintro e w6 h6
                    cases R1 with
                    | stop e1 =>
                      obtain ⟨rfl, h7⟩ := h6
                      simp only [Option.some.injEq] at hV
                      subst hV
                      have H7 : Hid _ := HXG.out.trans (G4.out.trans h7)
                      clear h7
                      go_wp2_with fail
                      exact ⟨rfl, rfl, H7.out⟩
                    | ok mt3 =>
                      obtain ⟨rfl, h7, mtv3, h8, h9⟩ := h6
                      have H7 : Hid _ := G4.out.trans h7
                      have H8 : Hid _ := h8
                      have H9 : Hid _ := h9
                      have HV9 : Hid _ := hV
                      clear h7 h8 h9 hV
                      go_wp2_with fail
                      go_roundg g
                      case measure => omega
                      case rel => exact ⟨i + 1, mt3, mtv3, by go_num, by omega, by omega, H7.out, H8.out, H9.out, HV9.out⟩
            · have hi2 : ((i : Int) == 0) = false := beq_eq_false_iff_ne.mpr (by omega)
              rw [if_neg (fun h => hi h.1)] at hV
              clear hi
              rw [show (false && decide (i = 1) && (x0 == 3) && (y0 == 3)) = false from rfl] at hV
              cases hq1 : unifyM vs n mt2 ⟨x0, x1, x2, x3⟩ ⟨y0, y1, y2, y3⟩ false with
              | none => rw [hq1] at hV; cases hV
              | some R1 =>
                rw [hq1] at hV
                have UU : Hid _ := HUU.out W0 wc base sp vb tb mt2 mtv2 ⟨x0, x1, x2, x3⟩ ⟨y0, y1, y2, y3⟩ false A5 B5 c5 d5 R1 S4.out T4.out W4.out hb G5.out g4 SX.out K5.out k4 SY.out hq1
                clear hq1
                go_wp2_with fail
                refine Calls.mono UU.out ?_
                rintro e w6 h6
                cases R1 with
                | stop e1 =>
                  obtain ⟨rfl, h7⟩ := h6
                  simp only [Option.some.injEq] at hV
                  subst hV
                  have H7 : Hid _ := HXG.out.trans (G4.out.trans h7)
                  clear h7
                  go_wp2_with fail
                  exact ⟨rfl, rfl, H7.out⟩
                | ok mt3 =>
                  obtain ⟨rfl, h7, mtv3, h8, h9⟩ := h6
                  have H7 : Hid _ := G4.out.trans h7
                  have H8 : Hid _ := h8
                  have H9 : Hid _ := h9
                  have HV9 : Hid _ := hV
                  clear h7 h8 h9 hV
                  go_wp2_with fail
                  go_roundg g
                  case measure => omega
                  case rel => exact ⟨i + 1, mt3, mtv3, by go_num, by omega, by omega, H7.out, H8.out, H9.out, HV9.out⟩
        · clear hb1 hb2'
          have hV2 : (if la.length = lb.length then some (URes.ok mt2) else some (.stop 8)) = some R := by rw [listsL_end (by right; exact List.drop_eq_nil_of_le (by omega))] at hV; exact hV
          have G9 : Hid _ := HXG.out.trans hg
          have S9 : Hid _ := hS
          have T9 : Hid _ := hT
          have emin : min (la.length : Int) (lb.length : Int) = ((min la.length lb.length : Nat) : Int) := by omega
          have elt : decide (i < min la.length lb.length) = false := decide_eq_false (by omega)
          have ele : min la.length lb.length ≤ i := by omega
          clear hV hg hS hT
          by_cases hll : la.length = lb.length
          · exact absurd hll (by omega)
          · rw [if_neg hll] at hV2
            obtain rfl := Option.some.inj hV2
            have en : ((la.length : Int) != (lb.length : Int)) = true := bne_iff_ne.mpr (by omega)
            clear hV2
            go_wp2_with fail
            exact ⟨rfl, rfl, G9.out⟩
      · clear hb1 hb2'
        have hV2 : (if la.length = lb.length then some (URes.ok mt2) else some (.stop 8)) = some R := by rw [listsL_end (by left; exact List.drop_eq_nil_of_le (by omega))] at hV; exact hV
        have G9 : Hid _ := HXG.out.trans hg
        have S9 : Hid _ := hS
        have T9 : Hid _ := hT
        have emin : min (la.length : Int) (lb.length : Int) = ((min la.length lb.length : Nat) : Int) := by omega
        have elt : decide (i < min la.length lb.length) = false := decide_eq_false (by omega)
        have ele : min la.length lb.length ≤ i := by omega
        clear hV hg hS hT
        by_cases hll : la.length = lb.length
        · rw [if_pos hll] at hV2
          obtain rfl := Option.some.inj hV2
          have en : ((la.length : Int) != (lb.length : Int)) = false := bne_eq_false_iff_eq.mpr (by omega)
          clear hV2
          go_wp2_with fail
          go_end0
          exact ⟨rfl, G9.out, mtv2, S9.out, T9.out⟩
        · rw [if_neg hll] at hV2
          obtain rfl := Option.some.inj hV2
          have en : ((la.length : Int) != (lb.length : Int)) = true := bne_iff_ne.mpr (by omega)
          clear hV2
          go_wp2_with fail
          exact ⟨rfl, rfl, G9.out⟩
  | true =>
    cases fb with
    | false =>
      simp only [Bool.true_and] at hk
      have HK : Hid _ := hk
      clear hk
      go_enter Tryz.func97, Tryz.ntmps97
      go_wp2_with fail
      refine (Head_any a0 a1 a2 c _ (Kd.C_below HA.out HXW0.out)).mono ?_
      rintro e w4 ⟨rfl, B4⟩
      have hy1 := (B4.block _ (Array.getElem?_eq_some_iff.1 HX01.out).1).trans HX01.out
      have hy2 := (B4.block _ (Array.getElem?_eq_some_iff.1 HX02.out).1).trans HX02.out
      obtain ⟨p0, p1, p2, p3⟩ := cells4 hy1
      obtain ⟨q0, q1, q2, q3⟩ := cells4 hy2
      go_wp2_with fail
      refine (Head_any b0 b1 b2 d _ (Kd.C_below (Kd.C_below HBB.out HXW0.out) B4)).mono ?_
      rintro e X ⟨rfl, B5⟩
      have B6 := B4.trans (B5.mono B4.size)
      clear p0 p1 p2 p3 q0 q1 q2 q3 hy1 hy2
      have hx1 : X.heap[w.heap.size]? = _ := (B6.block _ (Array.getElem?_eq_some_iff.1 HX01.out).1).trans HX01.out
      have hx2 : X.heap[w.heap.size + 1]? = _ := (B6.block _ (Array.getElem?_eq_some_iff.1 HX02.out).1).trans HX02.out
      have hxb : Below w.heap.size w X := HXB0.out.trans (B6.mono HXB0.out.size)
      have SLX : SolvAt base X sp vb tb (varsV vs) mtv := HS.out.below hxb
      have start : Hid (LiRel W0 X base sp vb tb vs (unifyM vs n) false false la lb R la.length (.int .i64 ((0 : Nat) : Int)) X) := ⟨0, mt, mtv, rfl, rfl, Nat.zero_le _, ⟨rfl, rfl, rfl, Nat.le_refl _, fun _ _ _ => rfl⟩, SLX, HT.out, HK.out⟩
      have htb : tb < w.heap.size := HS.out.tos.lt
      have hsb := HS.out.bt
      obtain ⟨p0, p1, p2, p3⟩ := cells4 hx1
      obtain ⟨q0, q1, q2, q3⟩ := cells4 hx2
      have HX1 : Hid _ := hx1
      have HX2 : Hid _ := hx2
      have HXW : Hid _ := (HWW.out.trans (hxb.mono HWW.out.size) : Below W0.heap.size W0 X)
      have HXG : Hid (w.grownBy X (some tb)) := grown_of_below hxb (some tb)
      clear hx1 hx2 hxb SLX B4 B5 B6
      go_wp2_with fail
      clear p0 p1 p2 p3 q0 q1 q2 q3
      go_loopg [9] la.length (fun k x9 wr => LiRel W0 X base sp vb tb vs (unifyM vs n) false false la lb R k x9 wr)
      case atStart => exact start.out
      case round =>
        clear start
        obtain ⟨i, mt2, mtv2, rfl, hki, hil, hg, hS, hT, hV⟩ := hrel
        have hb1 := (hg.block _ (Array.getElem?_eq_some_iff.1 HX1.out).1 (by simp; omega)).trans HX1.out
        have hb2' := (hg.block _ (Array.getElem?_eq_some_iff.1 HX2.out).1 (by simp; omega)).trans HX2.out
        obtain ⟨p0, p1, p2, p3⟩ := cells4 hb1
        obtain ⟨q0, q1, q2, q3⟩ := cells4 hb2'
        have hW := pw_below_grown HXW.out (some tb) HXW.out.size hg (fun k hk => by cases hk; omega)
        by_cases hla : i < la.length
        · by_cases hlb : i < lb.length
          · obtain ⟨g, rfl⟩ : ∃ g, gk = g + 1 := ⟨gk - 1, by omega⟩
            obtain ⟨x, hx⟩ : ∃ x, la[i]? = some x := ⟨la[i], by simp [hla]⟩
            obtain ⟨y, hy⟩ : ∃ y, lb[i]? = some y := ⟨lb[i], by simp [hlb]⟩
            obtain ⟨ad, A5, c5, rfl, g0, g1, g2, g3, g4, g5⟩ := row_at HA.out hla hx
            obtain ⟨ae, B5, d5, rfl, k0, k1, k2, k3, k4, k5⟩ := row_at HBB.out hlb hy
            replace g0 := pw_cell_below hW g0
            replace g1 := pw_cell_below hW g1
            replace g2 := pw_cell_below hW g2
            replace g3 := pw_cell_below hW g3
            replace k0 := pw_cell_below hW k0
            replace k1 := pw_cell_below hW k1
            replace k2 := pw_cell_below hW k2
            replace k3 := pw_cell_below hW k3
            have emin : min (la.length : Int) (lb.length : Int) = ((min la.length lb.length : Nat) : Int) := by omega
            have elt : decide (i < min la.length lb.length) = true := decide_eq_true (by omega)
            rw [drop_at3 hx, drop_at3 hy] at hV
            simp only [listsL] at hV
            have SX : Hid (wid x < 9000000) := by have := wid_mem (List.mem_of_getElem? hx); exact (by omega : wid x < 9000000)
            have SY : Hid (wid y < 9000000) := by have := wid_mem (List.mem_of_getElem? hy); exact (by omega : wid y < 9000000)
            have G5 : Hid _ := g5
            have K5 : Hid _ := k5
            have HV : Hid _ := hV
            clear g5 k5 hV hx hy hb1 hb2'
            obtain ⟨x0, x1, x2, x3⟩ := x
            obtain ⟨y0, y1, y2, y3⟩ := y
            go_upto_region 5 with fail
            go_cut [10, 11] from 36 to 45 (fun x10 x11 wx => ∃ p q, x10 = .pointer (some ⟨p, 0, none⟩) ∧ x11 = .pointer (some ⟨q, 0, none⟩) ∧ wr.heap.size ≤ p ∧ wr.heap.size ≤ q ∧
                wx.heap[p]? = some (.cells #[.int .i64 x0, .int .i64 x1, .string x2, .slice A5 x3.length c5] 24 (0, 0)) ∧ wx.heap[q]? = some (.cells #[.int .i64 y0, .int .i64 y1, .string y2, .slice B5 y3.length d5] 24 (0, 0)) ∧ Below wr.heap.size wr wx)
            case first =>
              go_region_held3 (fun w' => (w'.cell? ⟨w.heap.size, 3, none⟩ = some (.slice (some ad) la.length c) ∧ w'.cell? ⟨w.heap.size + 1, 3, none⟩ = some (.slice (some ae) lb.length d)) ∧
                  (w'.cell? (ad.add (i * 4)) = some (.int .i64 x0) ∧ w'.cell? ⟨(ad.add (i * 4)).block, (ad.add (i * 4)).off + 1, none⟩ = some (.int .i64 x1) ∧ w'.cell? ⟨(ad.add (i * 4)).block, (ad.add (i * 4)).off + 2, none⟩ = some (.string x2) ∧ w'.cell? ⟨(ad.add (i * 4)).block, (ad.add (i * 4)).off + 3, none⟩ = some (.slice A5 x3.length c5)) ∧
                  (w'.cell? (ae.add (i * 4)) = some (.int .i64 y0) ∧ w'.cell? ⟨(ae.add (i * 4)).block, (ae.add (i * 4)).off + 1, none⟩ = some (.int .i64 y1) ∧ w'.cell? ⟨(ae.add (i * 4)).block, (ae.add (i * 4)).off + 2, none⟩ = some (.string y2) ∧ w'.cell? ⟨(ae.add (i * 4)).block, (ae.add (i * 4)).off + 3, none⟩ = some (.slice B5 y3.length d5)))
                (first | go_keep) (fail)
              all_goals
                go_wp2_with fail
                go_meet
              · exact ⟨_, _, rfl, rfl, Nat.le_refl _, by omega, (two_boxes _ _ _).1, (two_boxes _ _ _).2.1, (two_boxes _ _ _).2.2⟩
              · exact ⟨_, _, rfl, rfl, by omega, Nat.le_refl _, (two_boxes _ _ _).2.1, (two_boxes _ _ _).1, (two_boxes _ _ _).2.2⟩
            case rest =>
              obtain ⟨p, q, rfl, rfl, hpp, hqq, hp, hq, hB⟩ := hcut
              obtain ⟨s0, s1, s2, s3⟩ := cells4 hp
              obtain ⟨t0, t1, t2, t3⟩ := cells4 hq
              have S4 : Hid _ := hS.below hB
              have G4 : Hid (X.grownBy wc (some tb)) := hg.trans (grown_of_below hB (some tb))
              have W4 : Hid (Below W0.heap.size W0 wc) := hW.trans (hB.mono hW.size)
              have T4 : Hid _ := hT
              have hV := HV.out
              clear hB hp hq hS hT hW hg p0 p1 p2 q0 q1 q2 g0 g1 g2 g3 k0 k1 k2 k3 p3 q3 HV
              by_cases hi : i = 0
              · have hi2 : ((i : Int) == 0) = true := beq_iff_eq.mpr (by omega)
                have hi3 : ((i : Int) == 1) = false := beq_eq_false_iff_ne.mpr (by omega)
                have hi4 : decide (i = 1) = false := decide_eq_false (by omega)
                by_cases hx1 : x0 = 1
                · subst hx1
                  rw [if_pos ⟨hi, by trivial, .inl rfl⟩] at hV
                  clear hi
                  have EQ : Hid _ := Equal_any ⟨1, x1, x2, x3⟩ ⟨y0, y1, y2, y3⟩ A5 B5 c5 d5 wc (Kd.C_below G5.out W4.out) g4 (Kd.C_below K5.out W4.out) k4 SX.out SY.out
                  obtain ⟨eq, heq⟩ : ∃ eq, eq = eqM ⟨1, x1, x2, x3⟩ ⟨y0, y1, y2, y3⟩ := ⟨_, rfl⟩
                  rw [← heq] at hV EQ
                  clear heq
                  cases eq with
                  | true =>
                    simp only [if_true] at hV
                    have HV9 : Hid _ := hV
                    clear hV
                    go_wp2_with fail
                    refine Calls.mono EQ.out ?_
                    rintro e w6 ⟨rfl, B6⟩
                    have S6 : Hid _ := S4.out.below B6
                    have G6 : Hid _ := G4.out.trans (grown_of_below B6 (some tb))
                    clear B6
                    go_wp2_with fail
                    go_roundg g
                    case measure => omega
                    case rel => exact ⟨i + 1, mt2, mtv2, by go_num, by omega, by omega, G6.out, S6.out, T4.out, HV9.out⟩
                  | false =>
                    simp only [Bool.false_eq_true, if_false, Option.some.injEq] at hV
                    subst hV
                    go_wp2_with fail
                    refine Calls.mono EQ.out ?_
                    rintro e w6 ⟨rfl, B6⟩
                    have G6 : Hid _ := HXG.out.trans (G4.out.trans (grown_of_below B6 (some tb)))
                    clear B6
                    go_wp2_with fail
                    exact ⟨rfl, rfl, G6.out⟩
                · have bx : (x0 == 1) = false := beq_eq_false_iff_ne.mpr hx1
                  by_cases hy1 : y0 = 1
                  · subst hy1
                    rw [if_pos ⟨hi, by trivial, .inr rfl⟩] at hV
                    clear hi
                    have EQ : Hid _ := Equal_any ⟨x0, x1, x2, x3⟩ ⟨1, y1, y2, y3⟩ A5 B5 c5 d5 wc (Kd.C_below G5.out W4.out) g4 (Kd.C_below K5.out W4.out) k4 SX.out SY.out
                    obtain ⟨eq, heq⟩ : ∃ eq, eq = eqM ⟨x0, x1, x2, x3⟩ ⟨1, y1, y2, y3⟩ := ⟨_, rfl⟩
                    rw [← heq] at hV EQ
                    clear heq
                    cases eq with
                    | true =>
                      simp only [if_true] at hV
                      have HV9 : Hid _ := hV
                      clear hV
                      go_wp2_with fail
                      refine Calls.mono EQ.out ?_
                      rintro e w6 ⟨rfl, B6⟩
                      have S6 : Hid _ := S4.out.below B6
                      have G6 : Hid _ := G4.out.trans (grown_of_below B6 (some tb))
                      clear B6
                      go_wp2_with fail
                      go_roundg g
                      case measure => omega
                      case rel => exact ⟨i + 1, mt2, mtv2, by go_num, by omega, by omega, G6.out, S6.out, T4.out, HV9.out⟩
                    | false =>
                      simp only [Bool.false_eq_true, if_false, Option.some.injEq] at hV
                      subst hV
                      go_wp2_with fail
                      refine Calls.mono EQ.out ?_
                      rintro e w6 ⟨rfl, B6⟩
                      have G6 : Hid _ := HXG.out.trans (G4.out.trans (grown_of_below B6 (some tb)))
                      clear B6
                      go_wp2_with fail
                      exact ⟨rfl, rfl, G6.out⟩
                  · have by1 : (y0 == 1) = false := beq_eq_false_iff_ne.mpr hy1
                    rw [if_neg (fun h => h.2.2.elim hx1 hy1)] at hV
                    clear hi hx1 hy1
                    rw [show (false && decide (i = 1) && (x0 == 3) && (y0 == 3)) = false by rw [hi4]; simp] at hV
                    cases hq1 : unifyM vs n mt2 ⟨x0, x1, x2, x3⟩ ⟨y0, y1, y2, y3⟩ false with
                    | none => rw [hq1] at hV; cases hV
                    | some R1 =>
                      rw [hq1] at hV
                      have UU : Hid _ := HUU.out W0 wc base sp vb tb mt2 mtv2 ⟨x0, x1, x2, x3⟩ ⟨y0, y1, y2, y3⟩ false A5 B5 c5 d5 R1 S4.out T4.out W4.out hb G5.out g4 SX.out K5.out k4 SY.out hq1
                      clear hq1
                      go_wp2_with fail
                      refine Calls.mono UU.out ?_
                      rintro e w6 h6
                      cases R1 with
                      | stop e1 =>
                        obtain ⟨rfl, h7⟩ := h6
                        simp only [Option.some.injEq] at hV
                        subst hV
                        have H7 : Hid _ := HXG.out.trans (G4.out.trans h7)
                        clear h7
                        go_wp2_with fail
                        exact ⟨rfl, rfl, H7.out⟩
                      | ok mt3 =>
                        obtain ⟨rfl, h7, mtv3, h8, h9⟩ := h6
                        have H7 : Hid _ := G4.out.trans h7
                        have H8 : Hid _ := h8
                        have H9 : Hid _ := h9
                        have HV9 : Hid _ := hV
                        clear h7 h8 h9 hV
                        go_wp2_with fail
                        go_roundg g
                        case measure => omega
                        case rel => exact ⟨i + 1, mt3, mtv3, by go_num, by omega, by omega, H7.out, H8.out, H9.out, HV9.out⟩
              · have hi2 : ((i : Int) == 0) = false := beq_eq_false_iff_ne.mpr (by omega)
                rw [if_neg (fun h => hi h.1)] at hV
                clear hi
                rw [show (false && decide (i = 1) && (x0 == 3) && (y0 == 3)) = false from rfl] at hV
                cases hq1 : unifyM vs n mt2 ⟨x0, x1, x2, x3⟩ ⟨y0, y1, y2, y3⟩ false with
                | none => rw [hq1] at hV; cases hV
                | some R1 =>
                  rw [hq1] at hV
                  have UU : Hid _ := HUU.out W0 wc base sp vb tb mt2 mtv2 ⟨x0, x1, x2, x3⟩ ⟨y0, y1, y2, y3⟩ false A5 B5 c5 d5 R1 S4.out T4.out W4.out hb G5.out g4 SX.out K5.out k4 SY.out hq1
                  clear hq1
                  go_wp2_with fail
                  refine Calls.mono UU.out ?_
                  rintro e w6 h6
                  cases R1 with
                  | stop e1 =>
                    obtain ⟨rfl, h7⟩ := h6
                    simp only [Option.some.injEq] at hV
                    subst hV
                    have H7 : Hid _ := HXG.out.trans (G4.out.trans h7)
                    clear h7
                    go_wp2_with fail
                    exact ⟨rfl, rfl, H7.out⟩
                  | ok mt3 =>
                    obtain ⟨rfl, h7, mtv3, h8, h9⟩ := h6
                    have H7 : Hid _ := G4.out.trans h7
                    have H8 : Hid _ := h8
                    have H9 : Hid _ := h9
                    have HV9 : Hid _ := hV
                    clear h7 h8 h9 hV
                    go_wp2_with fail
                    go_roundg g
                    case measure => omega
                    case rel => exact ⟨i + 1, mt3, mtv3, by go_num, by omega, by omega, H7.out, H8.out, H9.out, HV9.out⟩
          · clear hb1 hb2'
            have hV2 : (if la.length = lb.length then some (URes.ok mt2) else some (.stop 8)) = some R := by rw [listsL_end (by right; exact List.drop_eq_nil_of_le (by omega))] at hV; exact hV
            have G9 : Hid _ := HXG.out.trans hg
            have S9 : Hid _ := hS
            have T9 : Hid _ := hT
            have emin : min (la.length : Int) (lb.length : Int) = ((min la.length lb.length : Nat) : Int) := by omega
            have elt : decide (i < min la.length lb.length) = false := decide_eq_false (by omega)
            have ele : min la.length lb.length ≤ i := by omega
            clear hV hg hS hT
            by_cases hll : la.length = lb.length
            · exact absurd hll (by omega)
            · rw [if_neg hll] at hV2
              obtain rfl := Option.some.inj hV2
              have en : ((la.length : Int) != (lb.length : Int)) = true := bne_iff_ne.mpr (by omega)
              clear hV2
              go_wp2_with fail
              exact ⟨rfl, rfl, G9.out⟩
        · clear hb1 hb2'
          have hV2 : (if la.length = lb.length then some (URes.ok mt2) else some (.stop 8)) = some R := by rw [listsL_end (by left; exact List.drop_eq_nil_of_le (by omega))] at hV; exact hV
          have G9 : Hid _ := HXG.out.trans hg
          have S9 : Hid _ := hS
          have T9 : Hid _ := hT
          have emin : min (la.length : Int) (lb.length : Int) = ((min la.length lb.length : Nat) : Int) := by omega
          have elt : decide (i < min la.length lb.length) = false := decide_eq_false (by omega)
          have ele : min la.length lb.length ≤ i := by omega
          clear hV hg hS hT
          by_cases hll : la.length = lb.length
          · rw [if_pos hll] at hV2
            obtain rfl := Option.some.inj hV2
            have en : ((la.length : Int) != (lb.length : Int)) = false := bne_eq_false_iff_eq.mpr (by omega)
            clear hV2
            go_wp2_with fail
            go_end0
            exact ⟨rfl, G9.out, mtv2, S9.out, T9.out⟩
          · rw [if_neg hll] at hV2
            obtain rfl := Option.some.inj hV2
            have en : ((la.length : Int) != (lb.length : Int)) = true := bne_iff_ne.mpr (by omega)
            clear hV2
            go_wp2_with fail
            exact ⟨rfl, rfl, G9.out⟩
    | true =>
      simp only [Bool.true_and] at hk
      have HK : Hid _ := hk
      clear hk
      go_enter Tryz.func97, Tryz.ntmps97
      go_wp2_with fail
      refine (Head_any a0 a1 a2 c _ (Kd.C_below HA.out HXW0.out)).mono ?_
      rintro e w4 ⟨rfl, B4⟩
      have hy1 := (B4.block _ (Array.getElem?_eq_some_iff.1 HX01.out).1).trans HX01.out
      have hy2 := (B4.block _ (Array.getElem?_eq_some_iff.1 HX02.out).1).trans HX02.out
      obtain ⟨p0, p1, p2, p3⟩ := cells4 hy1
      obtain ⟨q0, q1, q2, q3⟩ := cells4 hy2
      go_wp2_with fail
      refine (Head_any b0 b1 b2 d _ (Kd.C_below (Kd.C_below HBB.out HXW0.out) B4)).mono ?_
      rintro e X ⟨rfl, B5⟩
      have B6 := B4.trans (B5.mono B4.size)
      clear p0 p1 p2 p3 q0 q1 q2 q3 hy1 hy2
      have hx1 : X.heap[w.heap.size]? = _ := (B6.block _ (Array.getElem?_eq_some_iff.1 HX01.out).1).trans HX01.out
      have hx2 : X.heap[w.heap.size + 1]? = _ := (B6.block _ (Array.getElem?_eq_some_iff.1 HX02.out).1).trans HX02.out
      have hxb : Below w.heap.size w X := HXB0.out.trans (B6.mono HXB0.out.size)
      have SLX : SolvAt base X sp vb tb (varsV vs) mtv := HS.out.below hxb
      have start : Hid (LiRel W0 X base sp vb tb vs (unifyM vs n) true false la lb R la.length (.int .i64 ((0 : Nat) : Int)) X) := ⟨0, mt, mtv, rfl, rfl, Nat.zero_le _, ⟨rfl, rfl, rfl, Nat.le_refl _, fun _ _ _ => rfl⟩, SLX, HT.out, HK.out⟩
      have htb : tb < w.heap.size := HS.out.tos.lt
      have hsb := HS.out.bt
      obtain ⟨p0, p1, p2, p3⟩ := cells4 hx1
      obtain ⟨q0, q1, q2, q3⟩ := cells4 hx2
      have HX1 : Hid _ := hx1
      have HX2 : Hid _ := hx2
      have HXW : Hid _ := (HWW.out.trans (hxb.mono HWW.out.size) : Below W0.heap.size W0 X)
      have HXG : Hid (w.grownBy X (some tb)) := grown_of_below hxb (some tb)
      clear hx1 hx2 hxb SLX B4 B5 B6
      go_wp2_with fail
      clear p0 p1 p2 p3 q0 q1 q2 q3
      go_loopg [9] la.length (fun k x9 wr => LiRel W0 X base sp vb tb vs (unifyM vs n) true false la lb R k x9 wr)
      case atStart => exact start.out
      case round =>
        clear start
        obtain ⟨i, mt2, mtv2, rfl, hki, hil, hg, hS, hT, hV⟩ := hrel
        have hb1 := (hg.block _ (Array.getElem?_eq_some_iff.1 HX1.out).1 (by simp; omega)).trans HX1.out
        have hb2' := (hg.block _ (Array.getElem?_eq_some_iff.1 HX2.out).1 (by simp; omega)).trans HX2.out
        obtain ⟨p0, p1, p2, p3⟩ := cells4 hb1
        obtain ⟨q0, q1, q2, q3⟩ := cells4 hb2'
        have hW := pw_below_grown HXW.out (some tb) HXW.out.size hg (fun k hk => by cases hk; omega)
        by_cases hla : i < la.length
        · by_cases hlb : i < lb.length
          · obtain ⟨g, rfl⟩ : ∃ g, gk = g + 1 := ⟨gk - 1, by omega⟩
            obtain ⟨x, hx⟩ : ∃ x, la[i]? = some x := ⟨la[i], by simp [hla]⟩
            obtain ⟨y, hy⟩ : ∃ y, lb[i]? = some y := ⟨lb[i], by simp [hlb]⟩
            obtain ⟨ad, A5, c5, rfl, g0, g1, g2, g3, g4, g5⟩ := row_at HA.out hla hx
            obtain ⟨ae, B5, d5, rfl, k0, k1, k2, k3, k4, k5⟩ := row_at HBB.out hlb hy
            replace g0 := pw_cell_below hW g0
            replace g1 := pw_cell_below hW g1
            replace g2 := pw_cell_below hW g2
            replace g3 := pw_cell_below hW g3
            replace k0 := pw_cell_below hW k0
            replace k1 := pw_cell_below hW k1
            replace k2 := pw_cell_below hW k2
            replace k3 := pw_cell_below hW k3
            have emin : min (la.length : Int) (lb.length : Int) = ((min la.length lb.length : Nat) : Int) := by omega
            have elt : decide (i < min la.length lb.length) = true := decide_eq_true (by omega)
            rw [drop_at3 hx, drop_at3 hy] at hV
            simp only [listsL] at hV
            have SX : Hid (wid x < 9000000) := by have := wid_mem (List.mem_of_getElem? hx); exact (by omega : wid x < 9000000)
            have SY : Hid (wid y < 9000000) := by have := wid_mem (List.mem_of_getElem? hy); exact (by omega : wid y < 9000000)
            have G5 : Hid _ := g5
            have K5 : Hid _ := k5
            have HV : Hid _ := hV
            clear g5 k5 hV hx hy hb1 hb2'
            obtain ⟨x0, x1, x2, x3⟩ := x
            obtain ⟨y0, y1, y2, y3⟩ := y
            go_upto_region 5 with fail
            go_cut [10, 11] from 36 to 45 (fun x10 x11 wx => ∃ p q, x10 = .pointer (some ⟨p, 0, none⟩) ∧ x11 = .pointer (some ⟨q, 0, none⟩) ∧ wr.heap.size ≤ p ∧ wr.heap.size ≤ q ∧
                wx.heap[p]? = some (.cells #[.int .i64 x0, .int .i64 x1, .string x2, .slice A5 x3.length c5] 24 (0, 0)) ∧ wx.heap[q]? = some (.cells #[.int .i64 y0, .int .i64 y1, .string y2, .slice B5 y3.length d5] 24 (0, 0)) ∧ Below wr.heap.size wr wx)
            case first =>
              go_region_held3 (fun w' => (w'.cell? ⟨w.heap.size, 3, none⟩ = some (.slice (some ad) la.length c) ∧ w'.cell? ⟨w.heap.size + 1, 3, none⟩ = some (.slice (some ae) lb.length d)) ∧
                  (w'.cell? (ad.add (i * 4)) = some (.int .i64 x0) ∧ w'.cell? ⟨(ad.add (i * 4)).block, (ad.add (i * 4)).off + 1, none⟩ = some (.int .i64 x1) ∧ w'.cell? ⟨(ad.add (i * 4)).block, (ad.add (i * 4)).off + 2, none⟩ = some (.string x2) ∧ w'.cell? ⟨(ad.add (i * 4)).block, (ad.add (i * 4)).off + 3, none⟩ = some (.slice A5 x3.length c5)) ∧
                  (w'.cell? (ae.add (i * 4)) = some (.int .i64 y0) ∧ w'.cell? ⟨(ae.add (i * 4)).block, (ae.add (i * 4)).off + 1, none⟩ = some (.int .i64 y1) ∧ w'.cell? ⟨(ae.add (i * 4)).block, (ae.add (i * 4)).off + 2, none⟩ = some (.string y2) ∧ w'.cell? ⟨(ae.add (i * 4)).block, (ae.add (i * 4)).off + 3, none⟩ = some (.slice B5 y3.length d5)))
                (first | go_keep) (fail)
              all_goals
                go_wp2_with fail
                go_meet
              · exact ⟨_, _, rfl, rfl, Nat.le_refl _, by omega, (two_boxes _ _ _).1, (two_boxes _ _ _).2.1, (two_boxes _ _ _).2.2⟩
              · exact ⟨_, _, rfl, rfl, by omega, Nat.le_refl _, (two_boxes _ _ _).2.1, (two_boxes _ _ _).1, (two_boxes _ _ _).2.2⟩
            case rest =>
              obtain ⟨p, q, rfl, rfl, hpp, hqq, hp, hq, hB⟩ := hcut
              obtain ⟨s0, s1, s2, s3⟩ := cells4 hp
              obtain ⟨t0, t1, t2, t3⟩ := cells4 hq
              have S4 : Hid _ := hS.below hB
              have G4 : Hid (X.grownBy wc (some tb)) := hg.trans (grown_of_below hB (some tb))
              have W4 : Hid (Below W0.heap.size W0 wc) := hW.trans (hB.mono hW.size)
              have T4 : Hid _ := hT
              have hV := HV.out
              clear hB hp hq hS hT hW hg p0 p1 p2 q0 q1 q2 g0 g1 g2 g3 k0 k1 k2 k3 p3 q3 HV
              by_cases hi : i = 0
              · have hi2 : ((i : Int) == 0) = true := beq_iff_eq.mpr (by omega)
                have hi3 : ((i : Int) == 1) = false := beq_eq_false_iff_ne.mpr (by omega)
                have hi4 : decide (i = 1) = false := decide_eq_false (by omega)
                by_cases hx1 : x0 = 1
                · subst hx1
                  rw [if_pos ⟨hi, by trivial, .inl rfl⟩] at hV
                  clear hi
                  have EQ : Hid _ := Equal_any ⟨1, x1, x2, x3⟩ ⟨y0, y1, y2, y3⟩ A5 B5 c5 d5 wc (Kd.C_below G5.out W4.out) g4 (Kd.C_below K5.out W4.out) k4 SX.out SY.out
                  obtain ⟨eq, heq⟩ : ∃ eq, eq = eqM ⟨1, x1, x2, x3⟩ ⟨y0, y1, y2, y3⟩ := ⟨_, rfl⟩
                  rw [← heq] at hV EQ
                  clear heq
                  cases eq with
                  | true =>
                    simp only [if_true] at hV
                    have HV9 : Hid _ := hV
                    clear hV
                    go_wp2_with fail
                    refine Calls.mono EQ.out ?_
                    rintro e w6 ⟨rfl, B6⟩
                    have S6 : Hid _ := S4.out.below B6
                    have G6 : Hid _ := G4.out.trans (grown_of_below B6 (some tb))
                    clear B6
                    go_wp2_with fail
                    go_roundg g
                    case measure => omega
                    case rel => exact ⟨i + 1, mt2, mtv2, by go_num, by omega, by omega, G6.out, S6.out, T4.out, HV9.out⟩
                  | false =>
                    simp only [Bool.false_eq_true, if_false, Option.some.injEq] at hV
                    subst hV
                    go_wp2_with fail
                    refine Calls.mono EQ.out ?_
                    rintro e w6 ⟨rfl, B6⟩
                    have G6 : Hid _ := HXG.out.trans (G4.out.trans (grown_of_below B6 (some tb)))
                    clear B6
                    go_wp2_with fail
                    exact ⟨rfl, rfl, G6.out⟩
                · have bx : (x0 == 1) = false := beq_eq_false_iff_ne.mpr hx1
                  by_cases hy1 : y0 = 1
                  · subst hy1
                    rw [if_pos ⟨hi, by trivial, .inr rfl⟩] at hV
                    clear hi
                    have EQ : Hid _ := Equal_any ⟨x0, x1, x2, x3⟩ ⟨1, y1, y2, y3⟩ A5 B5 c5 d5 wc (Kd.C_below G5.out W4.out) g4 (Kd.C_below K5.out W4.out) k4 SX.out SY.out
                    obtain ⟨eq, heq⟩ : ∃ eq, eq = eqM ⟨x0, x1, x2, x3⟩ ⟨1, y1, y2, y3⟩ := ⟨_, rfl⟩
                    rw [← heq] at hV EQ
                    clear heq
                    cases eq with
                    | true =>
                      simp only [if_true] at hV
                      have HV9 : Hid _ := hV
                      clear hV
                      go_wp2_with fail
                      refine Calls.mono EQ.out ?_
                      rintro e w6 ⟨rfl, B6⟩
                      have S6 : Hid _ := S4.out.below B6
                      have G6 : Hid _ := G4.out.trans (grown_of_below B6 (some tb))
                      clear B6
                      go_wp2_with fail
                      go_roundg g
                      case measure => omega
                      case rel => exact ⟨i + 1, mt2, mtv2, by go_num, by omega, by omega, G6.out, S6.out, T4.out, HV9.out⟩
                    | false =>
                      simp only [Bool.false_eq_true, if_false, Option.some.injEq] at hV
                      subst hV
                      go_wp2_with fail
                      refine Calls.mono EQ.out ?_
                      rintro e w6 ⟨rfl, B6⟩
                      have G6 : Hid _ := HXG.out.trans (G4.out.trans (grown_of_below B6 (some tb)))
                      clear B6
                      go_wp2_with fail
                      exact ⟨rfl, rfl, G6.out⟩
                  · have by1 : (y0 == 1) = false := beq_eq_false_iff_ne.mpr hy1
                    rw [if_neg (fun h => h.2.2.elim hx1 hy1)] at hV
                    clear hi hx1 hy1
                    rw [show (true && decide (i = 1) && (x0 == 3) && (y0 == 3)) = false by rw [hi4]; simp] at hV
                    cases hq1 : unifyM vs n mt2 ⟨x0, x1, x2, x3⟩ ⟨y0, y1, y2, y3⟩ false with
                    | none => rw [hq1] at hV; cases hV
                    | some R1 =>
                      rw [hq1] at hV
                      have UU : Hid _ := HUU.out W0 wc base sp vb tb mt2 mtv2 ⟨x0, x1, x2, x3⟩ ⟨y0, y1, y2, y3⟩ false A5 B5 c5 d5 R1 S4.out T4.out W4.out hb G5.out g4 SX.out K5.out k4 SY.out hq1
                      clear hq1
                      go_wp2_with fail
                      refine Calls.mono UU.out ?_
                      rintro e w6 h6
                      cases R1 with
                      | stop e1 =>
                        obtain ⟨rfl, h7⟩ := h6
                        simp only [Option.some.injEq] at hV
                        subst hV
                        have H7 : Hid _ := HXG.out.trans (G4.out.trans h7)
                        clear h7
                        go_wp2_with fail
                        exact ⟨rfl, rfl, H7.out⟩
                      | ok mt3 =>
                        obtain ⟨rfl, h7, mtv3, h8, h9⟩ := h6
                        have H7 : Hid _ := G4.out.trans h7
                        have H8 : Hid _ := h8
                        have H9 : Hid _ := h9
                        have HV9 : Hid _ := hV
                        clear h7 h8 h9 hV
                        go_wp2_with fail
                        go_roundg g
                        case measure => omega
                        case rel => exact ⟨i + 1, mt3, mtv3, by go_num, by omega, by omega, H7.out, H8.out, H9.out, HV9.out⟩
              · have hi2 : ((i : Int) == 0) = false := beq_eq_false_iff_ne.mpr (by omega)
                rw [if_neg (fun h => hi h.1)] at hV
                clear hi
                by_cases hi1 : i = 1
                · have hi3 : ((i : Int) == 1) = true := beq_iff_eq.mpr (by omega)
                  have hi4 : decide (i = 1) = true := decide_eq_true hi1
                  clear hi1
                  by_cases hx3 : x0 = 3
                  · subst hx3
                    by_cases hy3 : y0 = 3
                    · subst hy3
                      rw [show (true && decide (i = 1) && ((3 : Int) == 3) && ((3 : Int) == 3)) = true by rw [hi4]; rfl] at hV
                      cases hq1 : unifyM vs n mt2 ⟨3, x1, x2, x3⟩ ⟨3, y1, y2, y3⟩ true with
                      | none => rw [hq1] at hV; cases hV
                      | some R1 =>
                        rw [hq1] at hV
                        have UU : Hid _ := HUU.out W0 wc base sp vb tb mt2 mtv2 ⟨3, x1, x2, x3⟩ ⟨3, y1, y2, y3⟩ true A5 B5 c5 d5 R1 S4.out T4.out W4.out hb G5.out g4 SX.out K5.out k4 SY.out hq1
                        clear hq1
                        go_wp2_with fail
                        refine Calls.mono UU.out ?_
                        rintro e w6 h6
                        cases R1 with
                        | stop e1 =>
                          obtain ⟨rfl, h7⟩ := h6
                          simp only [Option.some.injEq] at hV
                          subst hV
                          have H7 : Hid _ := HXG.out.trans (G4.out.trans h7)
                          clear h7
                          go_wp2_with fail
                          exact ⟨rfl, rfl, H7.out⟩
                        | ok mt3 =>
                          obtain ⟨rfl, h7, mtv3, h8, h9⟩ := h6
                          have H7 : Hid _ := G4.out.trans h7
                          have H8 : Hid _ := h8
                          have H9 : Hid _ := h9
                          have HV9 : Hid _ := hV
                          clear h7 h8 h9 hV
                          go_wp2_with fail
                          go_roundg g
                          case measure => omega
                          case rel => exact ⟨i + 1, mt3, mtv3, by go_num, by omega, by omega, H7.out, H8.out, H9.out, HV9.out⟩
                    · have by3 : (y0 == 3) = false := beq_eq_false_iff_ne.mpr hy3
                      clear hy3
                      rw [show (true && decide (i = 1) && ((3 : Int) == 3) && (y0 == 3)) = false by rw [by3]; simp] at hV
                      cases hq1 : unifyM vs n mt2 ⟨3, x1, x2, x3⟩ ⟨y0, y1, y2, y3⟩ false with
                      | none => rw [hq1] at hV; cases hV
                      | some R1 =>
                        rw [hq1] at hV
                        have UU : Hid _ := HUU.out W0 wc base sp vb tb mt2 mtv2 ⟨3, x1, x2, x3⟩ ⟨y0, y1, y2, y3⟩ false A5 B5 c5 d5 R1 S4.out T4.out W4.out hb G5.out g4 SX.out K5.out k4 SY.out hq1
                        clear hq1
                        go_wp2_with fail
                        refine Calls.mono UU.out ?_
                        rintro e w6 h6
                        cases R1 with
                        | stop e1 =>
                          obtain ⟨rfl, h7⟩ := h6
                          simp only [Option.some.injEq] at hV
                          subst hV
                          have H7 : Hid _ := HXG.out.trans (G4.out.trans h7)
                          clear h7
                          go_wp2_with fail
                          exact ⟨rfl, rfl, H7.out⟩
                        | ok mt3 =>
                          obtain ⟨rfl, h7, mtv3, h8, h9⟩ := h6
                          have H7 : Hid _ := G4.out.trans h7
                          have H8 : Hid _ := h8
                          have H9 : Hid _ := h9
                          have HV9 : Hid _ := hV
                          clear h7 h8 h9 hV
                          go_wp2_with fail
                          go_roundg g
                          case measure => omega
                          case rel => exact ⟨i + 1, mt3, mtv3, by go_num, by omega, by omega, H7.out, H8.out, H9.out, HV9.out⟩
                  · have bx3 : (x0 == 3) = false := beq_eq_false_iff_ne.mpr hx3
                    clear hx3
                    rw [show (true && decide (i = 1) && (x0 == 3) && (y0 == 3)) = false by rw [bx3]; simp] at hV
                    cases hq1 : unifyM vs n mt2 ⟨x0, x1, x2, x3⟩ ⟨y0, y1, y2, y3⟩ false with
                    | none => rw [hq1] at hV; cases hV
                    | some R1 =>
                      rw [hq1] at hV
                      have UU : Hid _ := HUU.out W0 wc base sp vb tb mt2 mtv2 ⟨x0, x1, x2, x3⟩ ⟨y0, y1, y2, y3⟩ false A5 B5 c5 d5 R1 S4.out T4.out W4.out hb G5.out g4 SX.out K5.out k4 SY.out hq1
                      clear hq1
                      go_wp2_with fail
                      refine Calls.mono UU.out ?_
                      rintro e w6 h6
                      cases R1 with
                      | stop e1 =>
                        obtain ⟨rfl, h7⟩ := h6
                        simp only [Option.some.injEq] at hV
                        subst hV
                        have H7 : Hid _ := HXG.out.trans (G4.out.trans h7)
                        clear h7
                        go_wp2_with fail
                        exact ⟨rfl, rfl, H7.out⟩
                      | ok mt3 =>
                        obtain ⟨rfl, h7, mtv3, h8, h9⟩ := h6
                        have H7 : Hid _ := G4.out.trans h7
                        have H8 : Hid _ := h8
                        have H9 : Hid _ := h9
                        have HV9 : Hid _ := hV
                        clear h7 h8 h9 hV
                        go_wp2_with fail
                        go_roundg g
                        case measure => omega
                        case rel => exact ⟨i + 1, mt3, mtv3, by go_num, by omega, by omega, H7.out, H8.out, H9.out, HV9.out⟩
                · have hi3 : ((i : Int) == 1) = false := beq_eq_false_iff_ne.mpr (by omega)
                  have hi4 : decide (i = 1) = false := decide_eq_false hi1
                  clear hi1
                  rw [show (true && decide (i = 1) && (x0 == 3) && (y0 == 3)) = false by rw [hi4]; simp] at hV
                  cases hq1 : unifyM vs n mt2 ⟨x0, x1, x2, x3⟩ ⟨y0, y1, y2, y3⟩ false with
                  | none => rw [hq1] at hV; cases hV
                  | some R1 =>
                    rw [hq1] at hV
                    have UU : Hid _ := HUU.out W0 wc base sp vb tb mt2 mtv2 ⟨x0, x1, x2, x3⟩ ⟨y0, y1, y2, y3⟩ false A5 B5 c5 d5 R1 S4.out T4.out W4.out hb G5.out g4 SX.out K5.out k4 SY.out hq1
                    clear hq1
                    go_wp2_with fail
                    refine Calls.mono UU.out ?_
                    rintro e w6 h6
                    cases R1 with
                    | stop e1 =>
                      obtain ⟨rfl, h7⟩ := h6
                      simp only [Option.some.injEq] at hV
                      subst hV
                      have H7 : Hid _ := HXG.out.trans (G4.out.trans h7)
                      clear h7
                      go_wp2_with fail
                      exact ⟨rfl, rfl, H7.out⟩
                    | ok mt3 =>
                      obtain ⟨rfl, h7, mtv3, h8, h9⟩ := h6
                      have H7 : Hid _ := G4.out.trans h7
                      have H8 : Hid _ := h8
                      have H9 : Hid _ := h9
                      have HV9 : Hid _ := hV
                      clear h7 h8 h9 hV
                      go_wp2_with fail
                      go_roundg g
                      case measure => omega
                      case rel => exact ⟨i + 1, mt3, mtv3, by go_num, by omega, by omega, H7.out, H8.out, H9.out, HV9.out⟩
          · clear hb1 hb2'
            have hV2 : (if la.length = lb.length then some (URes.ok mt2) else some (.stop 8)) = some R := by rw [listsL_end (by right; exact List.drop_eq_nil_of_le (by omega))] at hV; exact hV
            have G9 : Hid _ := HXG.out.trans hg
            have S9 : Hid _ := hS
            have T9 : Hid _ := hT
            have emin : min (la.length : Int) (lb.length : Int) = ((min la.length lb.length : Nat) : Int) := by omega
            have elt : decide (i < min la.length lb.length) = false := decide_eq_false (by omega)
            have ele : min la.length lb.length ≤ i := by omega
            clear hV hg hS hT
            by_cases hll : la.length = lb.length
            · exact absurd hll (by omega)
            · rw [if_neg hll] at hV2
              obtain rfl := Option.some.inj hV2
              have en : ((la.length : Int) != (lb.length : Int)) = true := bne_iff_ne.mpr (by omega)
              clear hV2
              go_wp2_with fail
              exact ⟨rfl, rfl, G9.out⟩
        · clear hb1 hb2'
          have hV2 : (if la.length = lb.length then some (URes.ok mt2) else some (.stop 8)) = some R := by rw [listsL_end (by left; exact List.drop_eq_nil_of_le (by omega))] at hV; exact hV
          have G9 : Hid _ := HXG.out.trans hg
          have S9 : Hid _ := hS
          have T9 : Hid _ := hT
          have emin : min (la.length : Int) (lb.length : Int) = ((min la.length lb.length : Nat) : Int) := by omega
          have elt : decide (i < min la.length lb.length) = false := decide_eq_false (by omega)
          have ele : min la.length lb.length ≤ i := by omega
          clear hV hg hS hT
          by_cases hll : la.length = lb.length
          · rw [if_pos hll] at hV2
            obtain rfl := Option.some.inj hV2
            have en : ((la.length : Int) != (lb.length : Int)) = false := bne_eq_false_iff_eq.mpr (by omega)
            clear hV2
            go_wp2_with fail
            go_end0
            exact ⟨rfl, G9.out, mtv2, S9.out, T9.out⟩
          · rw [if_neg hll] at hV2
            obtain rfl := Option.some.inj hV2
            have en : ((la.length : Int) != (lb.length : Int)) = true := bne_iff_ne.mpr (by omega)
            clear hV2
            go_wp2_with fail
            exact ⟨rfl, rfl, G9.out⟩
end Go.Proofs.YtcjmplpfebpfpaaGreatDoor

namespace Go.Proofs.YtcjmplpfebpfpaaGreatDoor
open Go.RowKit Go.Proofs Go.Proofs.YtcjmplpfebpfpaaGreatDoorW.PrintWords Go.Proofs.YtcjmplpfebpfpaaGreatDoorW.PrintLast Go.Proofs.YtcjmplpfebpfpaaGreatDoorW.PrintMore PKindInstances
set_option linter.unusedVariables false
set_option linter.unusedSimpArgs false

end Go.Proofs.YtcjmplpfebpfpaaGreatDoor

namespace Go.Proofs.YtcjmplpfebpfpaaGreatDoor
open Go.RowKit Go.Proofs Go.Proofs.YtcjmplpfebpfpaaGreatDoorW.PrintWords Go.Proofs.YtcjmplpfebpfpaaGreatDoorW.PrintLast Go.Proofs.YtcjmplpfebpfpaaGreatDoorW.PrintMore PKindInstances
set_option linter.unusedVariables false
set_option linter.unusedSimpArgs false

end Go.Proofs.YtcjmplpfebpfpaaGreatDoor

namespace Go.Proofs.YtcjmplpfebpfpaaGreatDoor
open Go.RowKit Go.Proofs Go.Proofs.YtcjmplpfebpfpaaGreatDoorW.PrintWords Go.Proofs.YtcjmplpfebpfpaaGreatDoorW.PrintLast Go.Proofs.YtcjmplpfebpfpaaGreatDoorW.PrintMore PKindInstances
set_option linter.unusedVariables false
set_option linter.unusedSimpArgs false

end Go.Proofs.YtcjmplpfebpfpaaGreatDoor

namespace Go.Proofs.YtcjmplpfebpfpaaGreatDoor
open Go.RowKit Go.Proofs Go.Proofs.YtcjmplpfebpfpaaGreatDoorW.PrintWords Go.Proofs.YtcjmplpfebpfpaaGreatDoorW.PrintLast Go.Proofs.YtcjmplpfebpfpaaGreatDoorW.PrintMore PKindInstances
set_option linter.unusedVariables false
set_option linter.unusedSimpArgs false

theorem lists_step (vs : List ByteArray) (n : Nat) (hU : UniOk vs n) : ListsOk vs n := by
  intro W0 w base sp vb tb mt mtv a b bare A B c d R hs ht hw hb ha1 ha2 ha3 hb1 hb2 hb3 hk
  have s1 := wid_kids a
  have s2 := wid_kids b
  unfold listsM at hk
  cases bare with
  | true => exact lists_bare vs n W0 w base sp vb tb mt mtv a.f0 a.f1 a.f2 a.f3 b.f0 b.f1 b.f2 b.f3 A B c d R hs ht hw hb ha1 ha2 (by omega) hb1 hb2 (by omega) hU hk
  | false => exact lists_open vs n W0 w base sp vb tb mt mtv a.f0 a.f1 a.f2 a.f3 b.f0 b.f1 b.f2 b.f3 A B c d R hs ht hw hb ha1 ha2 (by omega) hb1 hb2 (by omega) hU hk

theorem unify_ok (vs : List ByteArray) : ∀ n, UniOk vs n
  | 0 => by
    intro W0 w base sp vb tb mt mtv a b bare A B c d R hs ht hw hb ha1 ha2 ha3 hb1 hb2 hb3 hk
    simp [unifyM] at hk
  | n + 1 => unify_step vs n (lists_step vs n (unify_ok vs n))

end Go.Proofs.YtcjmplpfebpfpaaGreatDoor

namespace Go.Proofs.YtcjmplpfebpfpaaGreatDoor
open Go.RowKit Go.Proofs Go.Proofs.YtcjmplpfebpfpaaGreatDoorW.PrintWords Go.Proofs.YtcjmplpfebpfpaaGreatDoorW.PrintLast Go.Proofs.YtcjmplpfebpfpaaGreatDoorW.PrintMore PKindInstances
set_option linter.unusedVariables false
set_option linter.unusedSimpArgs false

theorem assert88 (W : World) (v : Value) : (Instr.typeAssert (.iface 88 v) 20 88 true).run Tryz.prog W = .ok (.tuple #[v, .bool true]) W := by kernel_rfl
set_option maxRecDepth 100000 in
theorem catch_stop (pb qb : Nat) (v0 : Value) (m n : Int) (w : World) (hp : w.heap[pb]? = some (.cells #[v0] 25 (0, 0))) (hq : w.heap[qb]? = some (.cells #[.int .i64 m] 39 (0, 0))) (hne : pb ≠ qb) :
    CallsD Tryz.prog 54 #[.pointer (some ⟨pb, 0, none⟩), .pointer (some ⟨qb, 0, none⟩)] (.panicking [stopE n]) w fun e u' w' =>
      e = .returned (.tuple #[]) ∧ u' = .panicking [{ stopE n with recovered := true }] ∧ w'.heap[pb]? = some (.cells #[.slice none 0 0] 25 (0, 0)) ∧ w'.heap[qb]? = some (.cells #[.int .i64 n] 39 (0, 0)) ∧
      ∀ w0 : World, Below w0.heap.size w0 w → w0.heap.size ≤ pb → w0.heap.size ≤ qb → Below w0.heap.size w0 w' := by
  unfold stopE
  have hu88 := Tryz.underlying88
  have p0 : w.cell? ⟨pb, 0, none⟩ = some v0 := by simp [World.cell?, hp]
  have q0 : w.cell? ⟨qb, 0, none⟩ = some (.int .i64 m) := by simp [World.cell?, hq]
  have pf := frozen4 (i := 0) hp
  have qf := frozen4 (i := 0) hq
  refine callsD_of_wpS Tryz.func54 rfl fun c₀ cs hu => ?_
  simp only [Tryz.ntmps54, List.size_toArray, List.length_cons, List.length_nil, Nat.reduceAdd, Nat.reduceSub, Array.replicate_succ,
     Array.replicate_zero, List.push_toArray, List.append_toArray, List.nil_append, List.cons_append]
  refine wpS_seq ?_
  refine wpS_region ?_
  generalize hQ : Exit.thenS _ _ = Q
  simp [wpOpsS, go_sem, recoverD, hu]
  rw [← hQ]
  simp only [Exit.thenS]
  refine wpS_of_wp ?_
  clear hQ hu
  have hta := assert88
  go_wp2_with fail
  have a1 : (w.alloc (Obj.cells #[Value.int IntKind.i64 n] 88)).heap[pb]? = some (.cells #[v0] 25 (0, 0)) := (Below.heap_alloc _ _ _ (Array.getElem?_eq_some_iff.1 hp).1).trans hp
  have a2 : (w.alloc (Obj.cells #[Value.int IntKind.i64 n] 88)).heap[qb]? = some (.cells #[.int .i64 m] 39 (0, 0)) := (Below.heap_alloc _ _ _ (Array.getElem?_eq_some_iff.1 hq).1).trans hq
  have a3 : (w.alloc (Obj.cells #[Value.int IntKind.i64 n] 88)).heap[w.heap.size]? = some (.cells #[.int .i64 n] 88 (0, 0)) := (MapKept.heap_alloc w _).1
  have a4 : ∀ w0 : World, Below w0.heap.size w0 w → Below w0.heap.size w0 (w.alloc (Obj.cells #[Value.int IntKind.i64 n] 88)) := fun w0 h => below_alloc h _
  have lp := (Array.getElem?_eq_some_iff.1 hp).1
  have lq := (Array.getElem?_eq_some_iff.1 hq).1
  have a5 : w.heap.size ≠ pb := by omega
  have a6 : w.heap.size ≠ qb := by omega
  clear p0 q0 pf qf hp hq lp lq
  generalize w.alloc (Obj.cells #[Value.int IntKind.i64 n] 88) = W at *
  generalize w.heap.size = sb at *
  have p0 : W.cell? ⟨pb, 0, none⟩ = some v0 := by simp [World.cell?, a1]
  have q0 : W.cell? ⟨qb, 0, none⟩ = some (.int .i64 m) := by simp [World.cell?, a2]
  have r0 : W.cell? ⟨sb, 0, none⟩ = some (.int .i64 n) := by simp [World.cell?, a3]
  have pf := frozen4 (i := 0) a1
  have qf := frozen4 (i := 0) a2
  go_region
  all_goals
    go_wp2_with fail
    refine ⟨rfl, _, rfl, _, results_none rfl _ _ _, rfl, rfl, ?_, ?_, fun w0 h h1 h2 => below_drew ((Below.setCell (Below.setCell (a4 w0 h) h1 _) h2 _))⟩
    · exact (heap_setCell_other _ ⟨qb, 0, none⟩ pb _ (by simpa using hne)).trans (heap_setCell_same W pb 0 #[v0] 25 _ a1)
    · exact heap_setCell_same _ qb 0 #[.int .i64 m] 39 _ ((heap_setCell_other W ⟨pb, 0, none⟩ qb _ (by simpa using Ne.symm hne)).trans a2)

set_option maxRecDepth 100000 in
theorem catch_idle (p q : Addr) (w : World) :
    CallsD Tryz.prog 54 #[.pointer (some p), .pointer (some q)] .returning w fun e u' w' => e = .returned (.tuple #[]) ∧ u' = .returning ∧ w' = w := by
  refine callsD_of_wpS Tryz.func54 rfl fun c₀ cs hu => ?_
  simp only [Tryz.ntmps54, List.size_toArray, List.length_cons, List.length_nil, Nat.reduceAdd, Nat.reduceSub, Array.replicate_succ,
     Array.replicate_zero, List.push_toArray, List.append_toArray, List.nil_append, List.cons_append]
  refine wpS_seq ?_
  refine wpS_region ?_
  generalize hQ : Exit.thenS _ _ = Q
  simp [wpOpsS, go_sem, recoverD, hu]
  rw [← hQ]
  simp only [Exit.thenS]
  refine wpS_of_wp ?_
  clear hQ
  go_wp2_with fail
  exact ⟨rfl, .returning, by cases c₀; simp_all, _, results_none rfl _ _ _, rfl, rfl, rfl⟩
end Go.Proofs.YtcjmplpfebpfpaaGreatDoor

namespace Go.Proofs.YtcjmplpfebpfpaaGreatDoor
open Go.RowKit Go.Proofs Go.Proofs.YtcjmplpfebpfpaaGreatDoorW.PrintWords Go.Proofs.YtcjmplpfebpfpaaGreatDoorW.PrintLast Go.Proofs.YtcjmplpfebpfpaaGreatDoorW.PrintMore PKindInstances
set_option linter.unusedVariables false
set_option linter.unusedSimpArgs false

/-- Pairs of forms unified, one by one. -/
def allM (vs : List ByteArray) (n : Nat) : List (ByteArray × S24) → List S24 → List S24 → Option URes
  | mt, x :: la, y :: lb => match unifyM vs n mt x y false with | none => none | some (.stop e) => some (.stop e) | some (.ok mt') => allM vs n mt' la lb
  | mt, _, _ => some (.ok mt)

theorem two_rows {w : World} {b : Nat} {t : TypeId} {la lb : List S24} {A B : Option Addr} {c d : Nat} (h : w.heap[b]? = some (.cells #[.slice A la.length c, .slice B lb.length d] t (0, 0))) (ha : Kd.C k24 w A la.length la) (hc : la.length ≤ c) (hb : Kd.C k24 w B lb.length lb) (hd : lb.length ≤ d) :
    Kd.C (Kd.slice 22 k24) w (some ⟨b, 0, none⟩) [la, lb].length [la, lb] := by
  refine ⟨rfl, by simp, fun _ => ⟨_, rfl, fun j p hj => ?_⟩⟩
  match j, hj with
  | 0, hj =>
    obtain rfl : la = p := by simpa using hj
    refine ⟨[.slice A la.length c], rfl, ⟨A, c, rfl, hc, ha⟩, fun i u hu => ?_⟩
    match i, hu with
    | 0, hu =>
      obtain rfl : Value.slice A la.length c = u := by simpa using hu
      simp [World.cell?, h, Addr.add]
    | i + 1, hu => simp at hu
  | 1, hj =>
    obtain rfl : lb = p := by simpa using hj
    refine ⟨[.slice B lb.length d], rfl, ⟨B, d, rfl, hd, hb⟩, fun i u hu => ?_⟩
    match i, hu with
    | 0, hu =>
      obtain rfl : Value.slice B lb.length d = u := by simpa using hu
      simp [World.cell?, h, Addr.add, Kd.slice]
    | i + 1, hu => simp at hu
  | j + 2, hj => simp at hj

/-- The named results are read out of their cells. -/
theorem ua_results {w : World} {tmps : Array Value} {p q : Nat} {A : Option Addr} {n c : Nat} {z : Int} (h6 : tmps[6]? = some (.pointer (some ⟨p, 0, none⟩))) (h7 : tmps[7]? = some (.pointer (some ⟨q, 0, none⟩))) (hp : w.heap[p]? = some (.cells #[.slice A n c] 25 (0, 0))) (hq : w.heap[q]? = some (.cells #[.int .i64 z] 39 (0, 0))) :
    (results Tryz.f20 tmps).run Tryz.prog w = .ok (.tuple #[.slice A n c, .int .i64 z]) w := by
  have p3 : w.cell? ⟨p, 0, none⟩ = some (.slice A n c) := by simp [World.cell?, hp]
  have p4 : w.cell? ⟨q, 0, none⟩ = some (.int .i64 z) := by simp [World.cell?, hq]
  simp [results, Tryz.results20, go_sem, h6, h7, p3, p4]

/-- The world in which UnifyAll opens its solver. -/
def uaW (w : World) (A B : Option Addr) (n c m d : Nat) : World := ((w.alloc (.cells #[.slice none 0 0] 25)).alloc (.cells #[.int .i64 0] 39)).alloc (.cells #[.slice A n c, .slice B m d] 22)
theorem uaW_facts (w : World) (A B : Option Addr) (n c m d : Nat) : (uaW w A B n c m d).heap.size = w.heap.size + 3 ∧ Below w.heap.size w (uaW w A B n c m d) ∧
    (uaW w A B n c m d).heap[w.heap.size]? = some (.cells #[.slice none 0 0] 25 (0, 0)) ∧ (uaW w A B n c m d).heap[w.heap.size + 1]? = some (.cells #[.int .i64 0] 39 (0, 0)) ∧ (uaW w A B n c m d).heap[w.heap.size + 1 + 1]? = some (.cells #[.slice A n c, .slice B m d] 22 (0, 0)) := by
  have s1 := size_new w (.cells #[.slice none 0 0] 25)
  have s2 := size_new (w.alloc (.cells #[.slice none 0 0] 25)) (.cells #[.int .i64 0] 39)
  have s3 := size_new ((w.alloc (.cells #[.slice none 0 0] 25)).alloc (.cells #[.int .i64 0] 39)) (.cells #[.slice A n c, .slice B m d] 22)
  have h1 := (MapKept.heap_alloc w (.cells #[.slice none 0 0] 25)).1
  have h2 := (MapKept.heap_alloc (w.alloc (.cells #[.slice none 0 0] 25)) (.cells #[.int .i64 0] 39)).1
  have h3 := (MapKept.heap_alloc ((w.alloc (.cells #[.slice none 0 0] 25)).alloc (.cells #[.int .i64 0] 39)) (.cells #[.slice A n c, .slice B m d] 22)).1
  rw [s1] at h2
  rw [s2, s1] at h3
  unfold uaW
  refine ⟨by omega, below_alloc (below_alloc (below_alloc (Below.refl _ _) _) _) _, ?_, ?_, h3⟩
  · exact (Below.heap_alloc _ _ _ (by omega)).trans ((Below.heap_alloc _ _ _ (by omega)).trans h1)
  · exact (Below.heap_alloc _ _ _ (by omega)).trans h2

/-- What holds of the loop. -/
def UaRel (w X : World) (base sp vb tb : Nat) (vs : List ByteArray) (n : Nat) (la lb : List S24) (R : URes) (k : Nat) (x10 : Value) (wr : World) : Prop :=
  ∃ (i : Nat) (mt : List (ByteArray × S24)) (mtv : List (ByteArray × Value)), x10 = .int .i64 (i : Int) ∧ k + i = la.length ∧ i ≤ lb.length ∧ X.grownBy wr (some tb) ∧ SolvAt base wr sp vb tb (varsV vs) mtv ∧ ToAt w mt mtv ∧ allM vs n mt (la.drop i) (lb.drop i) = some R
/-- What comes back. -/
def UaPost (w : World) (RP : Value → Int → World → Prop) (la lb : List S24) : URes → Ending → World → Prop
  | .stop n, e, w' => e = .returned (.tuple #[.slice none 0 0, .int .i64 n]) ∧ Below w.heap.size w w'
  | .ok mt, e, w' => if la.length = lb.length then (∃ v E, e = .returned (.tuple #[v, .int .i64 E]) ∧ RP v E w' ∧ Below w.heap.size w w') else e = .returned (.tuple #[.slice none 0 0, .int .i64 8]) ∧ Below w.heap.size w w'

theorem allM_end {vs : List ByteArray} {n : Nat} {mt : List (ByteArray × S24)} {la lb : List S24} (h : la = [] ∨ lb = []) : allM vs n mt la lb = some (.ok mt) := by
  rcases h with rfl | rfl
  · cases lb <;> rfl
  · cases la <;> rfl

theorem leaves_congr {P : Program} {fn : Func} {R : Ending → World → Prop} {tmps tmps' : Array Value} (hr : results fn tmps = results fn tmps') : ∀ (ds : List Deferred) (u : FrameMode) (w : World), Leaves P fn tmps R ds u w → Leaves P fn tmps' R ds u w
  | [], .returning, w, ⟨v, h1, h2⟩ => ⟨v, by rw [← hr]; exact h1, h2⟩
  | [], .panicking chain, w, h => h
  | [], .run, w, h => h.elim
  | d :: ds, u, w, ⟨h1, fv, cap, f, args, h2, h3, h4⟩ => ⟨h1, fv, cap, f, args, h2, h3, h4.mono fun e u' w' h => by
      cases e with
      | returned v => exact leaves_congr hr ds _ w' h
      | panicked chain => exact leaves_congr hr ds _ w' h
      | outgrown => exact h⟩
theorem ua_res_put (tmps : Array Value) (d : Nat) (v : Value) (h6 : d ≠ 6) (h7 : d ≠ 7) : results Tryz.f20 (tmps.setIfInBounds d v) = results Tryz.f20 tmps := by
  unfold results
  rw [Tryz.results20]
  simp [Array.getElem?_setIfInBounds_ne h6, Array.getElem?_setIfInBounds_ne h7]
theorem ua_panic {R : Ending → World → Prop} {c : List PanicEntry} {a : Act} {w : World} {d : Nat} {v : Value} (h6 : d ≠ 6) (h7 : d ≠ 7) (h : bodyPostD Tryz.prog Tryz.f20 R (.panic c) (a.put (some d) v) w) : bodyPostD Tryz.prog Tryz.f20 R (.panic c) a w :=
  leaves_congr (ua_res_put a.tmps d v h6 h7) _ _ _ h

set_option maxRecDepth 100000 in
set_option maxHeartbeats 8000000 in
theorem UnifyAll_good (la lb : List S24) (vars : List ByteArray) (A B AN : Option Addr) (c d cn : Nat) (w : World) (hv : Kd.C Kd.string w AN vars.length vars) (hcn : vars.length ≤ cn) (ha : Kd.C k24 w A la.length la) (hc : la.length ≤ c) (hb : Kd.C k24 w B lb.length lb) (hd : lb.length ≤ d)
    (hn : vars.length < 9000000) (hq : ∀ v ∈ vars, LeafC ⟨1, 0, v, []⟩ ∧ v.size < 8000000) (hla : la.length < 9000000 ∧ ∀ x ∈ la, allC x ∧ wid x < 9000000) (hlb : lb.length < 9000000 ∧ ∀ x ∈ lb, allC x ∧ wid x < 9000000) (hgood : (namesM [] vars && rowsM [la, lb]) = true)
    (n : Nat) (R : URes) (hR : allM vars n [] la lb = some R) (RP : Value → Int → World → Prop) (hRP : ∀ v E w' W2, RP v E w' → (∀ k, k < w'.heap.size → k ≠ w.heap.size → k ≠ w.heap.size + 1 → W2.heap[k]? = w'.heap[k]?) → RP v E W2)
    (hres : ∀ mt, R = .ok mt → la.length = lb.length → ∀ (W1 : World) (sp vb tb : Nat) (mtv : List (ByteArray × Value)), Below w.heap.size w W1 → w.heap.size + 3 ≤ W1.heap.size → SolvAt (w.heap.size + 3) W1 sp vb tb (varsV vars) mtv → ToAt w mt mtv →
      Calls Tryz.prog 56 #[.pointer (some ⟨sp, 0, none⟩)] W1 fun e w' => ∃ A n c E, e = .returned (.tuple #[.slice A n c, .int .i64 E]) ∧ RP (.slice A n c) E w' ∧ Below W1.heap.size W1 w') :
    Calls Tryz.prog 20 #[.slice A la.length c, .slice B lb.length d, .slice AN vars.length cn] w (UaPost w RP la lb R) := by
  obtain ⟨f1, f2, f3, f4, f5⟩ := uaW_facts w A B la.length c lb.length d
  have OP := open_any vars [la, lb] AN (some ⟨w.heap.size + 1 + 1, 0, none⟩) cn 2 (uaW w A B la.length c lb.length d) (Kd.C_below hv f2) hcn (two_rows f5 (Kd.C_below ha f2) hc (Kd.C_below hb f2) hd) (Nat.le_refl _) hn (by simp) hq (by
    intro l hl
    simp only [List.mem_cons, List.not_mem_nil, or_false] at hl
    rcases hl with rfl | rfl
    · exact hla
    · exact hlb)
  rw [hgood, f1] at OP
  have OP : Hid _ := OP
  have HA : Hid _ := ha
  have HB : Hid _ := hb
  have HLA : Hid _ := hla
  have HLB : Hid _ := hlb
  have HRes : Hid _ := hres
  have HRP : Hid _ := hRP
  have HR : Hid _ := hR
  have hmf : ∀ (fn : Fn) (first cap : Array Value) (w : World), (Instr.makeFunc fn first cap).run Tryz.prog w = .ok (.func fn first cap) w := fun _ _ _ _ => rfl
  have hlaw : la.length < 9000000 := hla.1
  have hlbw : lb.length < 9000000 := hlb.1
  clear hv ha hb hq hla hlb hgood hres hRP hR
  go_enter_defers Tryz.func20, Tryz.ntmps20
  go_wp2_with fail
  refine Calls.mono OP.out ?_
  rintro e w1 ⟨rfl, hS1, B1⟩
  have S1 := hS1 rfl
  have q3 := (B1.block _ (by omega)).trans f3
  have q4 := (B1.block _ (by omega)).trans f4
  have B2 : Below w.heap.size w w1 := below_after f2 B1
  have hsz1 : w.heap.size + 3 ≤ w1.heap.size := by rw [← f1]; exact B1.size
  rw [f1] at S1
  have start : Hid (UaRel w w1 (w.heap.size + 3) (w.heap.size + 3 + 1 + 1) (w.heap.size + 3) (w.heap.size + 3 + 1) vars n la lb R la.length (.int .i64 ((0 : Nat) : Int)) w1) := ⟨0, [], [], rfl, rfl, Nat.zero_le _, ⟨rfl, rfl, rfl, Nat.le_refl _, fun _ _ _ => rfl⟩, S1, trivial, HR.out⟩
  have Q3 : Hid _ := q3
  have Q4 : Hid _ := q4
  have HB2 : Hid _ := B2
  clear B1 OP f1 f2 f3 f4 f5 S1 hS1 q3 q4 B2
  simp only [if_true]
  go_wp2_with fail
  go_loopg [10] la.length (fun k x10 wr => UaRel w w1 (w.heap.size + 3) (w.heap.size + 3 + 1 + 1) (w.heap.size + 3) (w.heap.size + 3 + 1) vars n la lb R k x10 wr)
  case atStart => exact start.out
  case round =>
    clear start
    obtain ⟨i, mt, mtv, rfl, hki, hil, hg, hS, hT, hV⟩ := hrel
    have hW := pw_below_grown HB2.out (some (w.heap.size + 3 + 1)) HB2.out.size hg (fun k hk => by cases hk; omega)
    have emin : min (la.length : Int) (lb.length : Int) = ((min la.length lb.length : Nat) : Int) := by omega
    by_cases hlt : i < min la.length lb.length
    · obtain ⟨g, rfl⟩ : ∃ g, gk = g + 1 := ⟨gk - 1, by omega⟩
      have elt : decide (i < min la.length lb.length) = true := decide_eq_true hlt
      obtain ⟨x, hx⟩ : ∃ x, la[i]? = some x := ⟨la[i]'(by omega), List.getElem?_eq_getElem _⟩
      obtain ⟨y, hy⟩ : ∃ y, lb[i]? = some y := ⟨lb[i]'(by omega), List.getElem?_eq_getElem _⟩
      obtain ⟨ad, A5, c5, rfl, g0, g1, g2, g3, g4, g5⟩ := row_at HA.out (by omega) hx
      obtain ⟨ae, B5, d5, rfl, k0, k1, k2, k3, k4, k5⟩ := row_at HB.out (by omega) hy
      rw [drop_at3 hx, drop_at3 hy] at hV
      simp only [allM] at hV
      have SX := (HLA.out.2 x (List.mem_of_getElem? hx)).2
      have SY := (HLB.out.2 y (List.mem_of_getElem? hy)).2
      clear hx hy
      obtain ⟨x0, x1, x2, x3⟩ := x
      obtain ⟨y0, y1, y2, y3⟩ := y
      have HC : Hid (∀ W' : World, Below w.heap.size w W' → (W'.cell? (ad.add (i * 4)) = some (.int .i64 x0) ∧ W'.cell? ⟨(ad.add (i * 4)).block, (ad.add (i * 4)).off + 1, none⟩ = some (.int .i64 x1) ∧ W'.cell? ⟨(ad.add (i * 4)).block, (ad.add (i * 4)).off + 2, none⟩ = some (.string x2) ∧ W'.cell? ⟨(ad.add (i * 4)).block, (ad.add (i * 4)).off + 3, none⟩ = some (.slice A5 x3.length c5)) ∧ (W'.cell? (ae.add (i * 4)) = some (.int .i64 y0) ∧ W'.cell? ⟨(ae.add (i * 4)).block, (ae.add (i * 4)).off + 1, none⟩ = some (.int .i64 y1) ∧ W'.cell? ⟨(ae.add (i * 4)).block, (ae.add (i * 4)).off + 2, none⟩ = some (.string y2) ∧ W'.cell? ⟨(ae.add (i * 4)).block, (ae.add (i * 4)).off + 3, none⟩ = some (.slice B5 y3.length d5))) :=
        fun W' h => ⟨⟨pw_cell_below h g0, pw_cell_below h g1, pw_cell_below h g2, pw_cell_below h g3⟩, pw_cell_below h k0, pw_cell_below h k1, pw_cell_below h k2, pw_cell_below h k3⟩
      have HWW : Hid _ := hW
      clear g0 g1 g2 g3 k0 k1 k2 k3
      cases hq1 : unifyM vars n mt ⟨x0, x1, x2, x3⟩ ⟨y0, y1, y2, y3⟩ false with
      | none => rw [hq1] at hV; cases hV
      | some R1 =>
        rw [hq1] at hV
        have UU : Hid (∀ wq, Below wr.heap.size wr wq → _) := fun wq hwq => unify_ok vars n w wq (w.heap.size + 3) (w.heap.size + 3 + 1 + 1) (w.heap.size + 3) (w.heap.size + 3 + 1) mt mtv ⟨x0, x1, x2, x3⟩ ⟨y0, y1, y2, y3⟩ false A5 B5 c5 d5 R1 (hS.below hwq) hT (hW.trans (hwq.mono hW.size)) (by omega) g5 g4 SX k5 k4 SY hq1
        have HG : Hid _ := hg
        have HV : Hid _ := hV
        clear hq1 SX SY hg hS hT hV g5 k5 hW
        go_wp2_with fail
        refine wp_region_held_drew (S := fun w' => (w'.cell? (ad.add (i * 4)) = some (.int .i64 x0) ∧ w'.cell? ⟨(ad.add (i * 4)).block, (ad.add (i * 4)).off + 1, none⟩ = some (.int .i64 x1) ∧ w'.cell? ⟨(ad.add (i * 4)).block, (ad.add (i * 4)).off + 2, none⟩ = some (.string x2) ∧ w'.cell? ⟨(ad.add (i * 4)).block, (ad.add (i * 4)).off + 3, none⟩ = some (.slice A5 x3.length c5)) ∧ (w'.cell? (ae.add (i * 4)) = some (.int .i64 y0) ∧ w'.cell? ⟨(ae.add (i * 4)).block, (ae.add (i * 4)).off + 1, none⟩ = some (.int .i64 y1) ∧ w'.cell? ⟨(ae.add (i * 4)).block, (ae.add (i * 4)).off + 2, none⟩ = some (.string y2) ∧ w'.cell? ⟨(ae.add (i * 4)).block, (ae.add (i * 4)).off + 3, none⟩ = some (.slice B5 y3.length d5))) (by kernel_rfl) (HC.out _ (below_drew HWW.out)) (fun hHeld => ?_)
        have i1 : decide (i < la.length) = true := decide_eq_true (by omega)
        have i2 : decide (i < lb.length) = true := decide_eq_true (by omega)
        refine takeV 0 (some 31) (.pointer (some ⟨w.heap.size + 3 + 1 + 1, 0, none⟩)) rfl rfl (by kernel_rfl) (by kernel_rfl) (by kernel_rfl) (fun _ _ _ h => ua_panic (by decide) (by decide) h) (Or.inl ⟨by kernel_rfl, fun W hSw => by go_simp⟩) hHeld ?_
        try simp only [Act.put, List.setIfInBounds_toArray, List.set_cons_zero, List.set_cons_succ]
        refine takeV 1 (some 32) (.slice (some ad) la.length c) rfl rfl (by kernel_rfl) (by kernel_rfl) (by kernel_rfl) (fun _ _ _ h => ua_panic (by decide) (by decide) h) (Or.inl ⟨by kernel_rfl, fun W hSw => by go_simp⟩) hHeld ?_
        try simp only [Act.put, List.setIfInBounds_toArray, List.set_cons_zero, List.set_cons_succ]
        refine takeV 2 (some 33) (.int .i64 (i : Int)) rfl rfl (by kernel_rfl) (by kernel_rfl) (by kernel_rfl) (fun _ _ _ h => ua_panic (by decide) (by decide) h) (Or.inl ⟨by kernel_rfl, fun W hSw => by go_simp⟩) hHeld ?_
        try simp only [Act.put, List.setIfInBounds_toArray, List.set_cons_zero, List.set_cons_succ]
        refine takeV 3 (some 34) (.pointer (some (ad.add (i * 4)))) rfl rfl (by kernel_rfl) (by kernel_rfl) (by kernel_rfl) (fun _ _ _ h => ua_panic (by decide) (by decide) h) (Or.inl ⟨by kernel_rfl, fun W hSw => by go_simp; intro h9; exact absurd h9 (by omega)⟩) hHeld ?_
        try simp only [Act.put, List.setIfInBounds_toArray, List.set_cons_zero, List.set_cons_succ]
        refine takeV 4 (some 35) (formV x0 x1 x2 A5 x3.length c5) rfl rfl (by kernel_rfl) (by kernel_rfl) (by kernel_rfl) (fun _ _ _ h => ua_panic (by decide) (by decide) h) (Or.inl ⟨by kernel_rfl, fun W hSw => by obtain ⟨⟨s0, s1, s2, s3⟩, t0, t1, t2, t3⟩ := hSw; go_simp⟩) hHeld ?_
        try simp only [Act.put, List.setIfInBounds_toArray, List.set_cons_zero, List.set_cons_succ]
        refine takeV 5 (some 36) (.slice (some ae) lb.length d) rfl rfl (by kernel_rfl) (by kernel_rfl) (by kernel_rfl) (fun _ _ _ h => ua_panic (by decide) (by decide) h) (Or.inl ⟨by kernel_rfl, fun W hSw => by go_simp⟩) hHeld ?_
        try simp only [Act.put, List.setIfInBounds_toArray, List.set_cons_zero, List.set_cons_succ]
        refine takeV 6 (some 37) (.int .i64 (i : Int)) rfl rfl (by kernel_rfl) (by kernel_rfl) (by kernel_rfl) (fun _ _ _ h => ua_panic (by decide) (by decide) h) (Or.inl ⟨by kernel_rfl, fun W hSw => by go_simp⟩) hHeld ?_
        try simp only [Act.put, List.setIfInBounds_toArray, List.set_cons_zero, List.set_cons_succ]
        refine takeV 7 (some 38) (.pointer (some (ae.add (i * 4)))) rfl rfl (by kernel_rfl) (by kernel_rfl) (by kernel_rfl) (fun _ _ _ h => ua_panic (by decide) (by decide) h) (Or.inl ⟨by kernel_rfl, fun W hSw => by go_simp; intro h9; exact absurd h9 (by omega)⟩) hHeld ?_
        try simp only [Act.put, List.setIfInBounds_toArray, List.set_cons_zero, List.set_cons_succ]
        refine takeV 8 (some 39) (formV y0 y1 y2 B5 y3.length d5) rfl rfl (by kernel_rfl) (by kernel_rfl) (by kernel_rfl) (fun _ _ _ h => ua_panic (by decide) (by decide) h) (Or.inl ⟨by kernel_rfl, fun W hSw => by obtain ⟨⟨s0, s1, s2, s3⟩, t0, t1, t2, t3⟩ := hSw; go_simp⟩) hHeld ?_
        try simp only [Act.put, List.setIfInBounds_toArray, List.set_cons_zero, List.set_cons_succ]
        refine wpAnyH_ready (rs := [9]) (by kernel_rfl) (by simp) ?_
        refine AllReadyH.cons rfl (fun K hK => ?_) AllReadyH.nil
        clear hHeld
        go_simp
        go_at_call 55
        refine Calls.mono (UU.out _ (below_drew (Below.refl _ _))) ?_
        rintro e w6 h6
        cases R1 with
        | stop e1 =>
          obtain ⟨rfl, h7⟩ := h6
          have hV := HV.out
          simp only [Option.some.injEq] at hV
          subst hV
          have G6 : w1.grownBy w6 (some (w.heap.size + 3 + 1)) := HG.out.trans ((grown_of_below (below_drew (Below.refl _ _)) (some (w.heap.size + 3 + 1))).trans h7)
          have W6 := pw_below_grown HB2.out (some (w.heap.size + 3 + 1)) HB2.out.size G6 (fun k hk => by cases hk; omega)
          have q3 := (G6.block _ (by omega) (by intro h; injection h; omega)).trans Q3.out
          have q4 := (G6.block _ (by omega) (by intro h; injection h; omega)).trans Q4.out
          show bodyPostD Tryz.prog Tryz.f20 _ (.panic _) _ _
          refine leaves_cons (f := 54) (args := #[.pointer (some ⟨w.heap.size, 0, none⟩), .pointer (some ⟨w.heap.size + 1, 0, none⟩)]) (by simp) (by simp [go_sem]) ?_
          refine (catch_stop w.heap.size (w.heap.size + 1) _ _ e1 w6 q3 q4 (by omega)).mono ?_
          rintro e u' w7 ⟨rfl, rfl, t3, t4, hbel⟩
          simp only [settle, stopE, List.dropWhile_nil]
          exact ⟨_, ua_results rfl rfl t3 t4, rfl, hbel w W6 (Nat.le_refl _) (by omega)⟩
        | ok mt3 =>
          obtain ⟨rfl, h7, mtv3, h8, h9⟩ := h6
          have hV := HV.out
          simp only [] at hV
          have G6 : w1.grownBy w6 (some (w.heap.size + 3 + 1)) := HG.out.trans ((grown_of_below (below_drew (Below.refl _ _)) (some (w.heap.size + 3 + 1))).trans h7)
          have W6 := pw_below_grown HB2.out (some (w.heap.size + 3 + 1)) HB2.out.size G6 (fun k hk => by cases hk; omega)
          refine hK.out _ _ (HC.out _ W6) (fun hHeld => ?_)
          have H7 : Hid _ := G6
          have H8 : Hid _ := h8
          have H9 : Hid _ := h9
          have HV9 : Hid _ := hV
          clear hK K hHeld h7 h8 h9 hV G6 W6 HV
          try simp only [Act.put, List.setIfInBounds_toArray, List.set_cons_zero, List.set_cons_succ]
          refine ⟨by kernel_rfl, ?_⟩
          go_wp2_with fail
          go_roundg g
          case measure => omega
          case rel => exact ⟨i + 1, mt3, mtv3, by go_num, by omega, by omega, H7.out, H8.out, H9.out, HV9.out⟩
    · have elt : decide (i < min la.length lb.length) = false := decide_eq_false hlt
      have ele : min la.length lb.length ≤ i := by omega
      rw [allM_end (by rcases (by omega : la.length ≤ i ∨ lb.length ≤ i) with h | h; exact .inl (List.drop_eq_nil_of_le h); exact .inr (List.drop_eq_nil_of_le h))] at hV
      obtain rfl := Option.some.inj hV
      have q3 := (hg.block _ (by omega) (by intro h; injection h; omega)).trans Q3.out
      have q4 := (hg.block _ (by omega) (by intro h; injection h; omega)).trans Q4.out
      have p3 : wr.cell? ⟨w.heap.size, 0, none⟩ = some (.slice none 0 0) := by simp [World.cell?, q3]
      have p4 : wr.cell? ⟨w.heap.size + 1, 0, none⟩ = some (.int .i64 0) := by simp [World.cell?, q4]
      have r3 := frozen4 (i := 0) q3
      have r4 := frozen4 (i := 0) q4
      have HQ3 : Hid _ := q3
      have HQ4 : Hid _ := q4
      have S9 : Hid _ := hS
      have T9 : Hid _ := hT
      have W9 : Hid _ := hW
      have Z9 : w.heap.size + 3 ≤ wr.heap.size := Nat.le_trans hsz1 hg.size
      clear hV hg hS hT hW q3 q4
      by_cases hll : la.length = lb.length
      · have en : ((la.length : Int) != (lb.length : Int)) = false := bne_eq_false_iff_eq.mpr (by omega)
        have RS : Hid _ := HRes.out mt rfl hll wr (w.heap.size + 3 + 1 + 1) (w.heap.size + 3) (w.heap.size + 3 + 1) mtv W9.out Z9 S9.out T9.out
        go_wp2_with fail
        refine Calls.mono RS.out ?_
        rintro e w7 ⟨A7, n7, c7, E7, rfl, hR7, B7⟩
        have q3 := (B7.block _ (by omega)).trans HQ3.out
        have q4 := (B7.block _ (by omega)).trans HQ4.out
        have p3 : w7.cell? ⟨w.heap.size, 0, none⟩ = some (.slice none 0 0) := by simp [World.cell?, q3]
        have p4 : w7.cell? ⟨w.heap.size + 1, 0, none⟩ = some (.int .i64 0) := by simp [World.cell?, q4]
        have r3 := frozen4 (i := 0) q3
        have r4 := frozen4 (i := 0) q4
        have W7 : Hid _ := below_after W9.out B7
        have R7 : Hid _ := hR7
        have K3 : Hid _ := q3
        have K4 : Hid _ := q4
        clear B7 hR7 q3 q4
        go_wp2_with fail
        refine leaves_cons (f := 54) (args := #[.pointer (some ⟨w.heap.size, 0, none⟩), .pointer (some ⟨w.heap.size + 1, 0, none⟩)]) (by simp) (by simp [go_sem]) ?_
        refine (catch_idle _ _ _).mono ?_
        rintro e u' w8 ⟨rfl, rfl, rfl⟩
        refine ⟨_, ua_results rfl rfl (A := A7) (n := n7) (c := c7) (z := E7) ?_ ?_, ?_⟩
        · exact (heap_setCell_other _ ⟨w.heap.size + 1, 0, none⟩ w.heap.size _ (by simp)).trans (heap_setCell_same w7 w.heap.size 0 #[.slice none 0 0] 25 _ K3.out)
        · exact heap_setCell_same _ (w.heap.size + 1) 0 #[.int .i64 0] 39 _ ((heap_setCell_other w7 ⟨w.heap.size, 0, none⟩ (w.heap.size + 1) _ (by simp)).trans K4.out)
        · show (if la.length = lb.length then _ else _)
          rw [if_pos hll]
          refine ⟨_, _, rfl, HRP.out _ _ _ _ R7.out (fun k hk h1 h2 => ?_), (W7.out.setCell (Nat.le_refl _) _).setCell (by simp) _⟩
          exact (heap_setCell_other _ ⟨w.heap.size + 1, 0, none⟩ k _ h2).trans (heap_setCell_other _ ⟨w.heap.size, 0, none⟩ k _ h1)
      · have en : ((la.length : Int) != (lb.length : Int)) = true := bne_iff_ne.mpr (by omega)
        go_wp2_with fail
        refine leaves_cons (f := 54) (args := #[.pointer (some ⟨w.heap.size, 0, none⟩), .pointer (some ⟨w.heap.size + 1, 0, none⟩)]) (by simp) (by simp [go_sem]) ?_
        refine (catch_idle _ _ _).mono ?_
        rintro e u' w8 ⟨rfl, rfl, rfl⟩
        refine ⟨_, ua_results rfl rfl (A := none) (n := 0) (c := 0) (z := 8) ?_ ?_, ?_⟩
        · exact (heap_setCell_other _ ⟨w.heap.size + 1, 0, none⟩ w.heap.size _ (by simp)).trans (heap_setCell_same wr w.heap.size 0 #[.slice none 0 0] 25 _ HQ3.out)
        · exact heap_setCell_same _ (w.heap.size + 1) 0 #[.int .i64 0] 39 _ ((heap_setCell_other wr ⟨w.heap.size, 0, none⟩ (w.heap.size + 1) _ (by simp)).trans HQ4.out)
        · show (if la.length = lb.length then _ else _)
          rw [if_neg hll]
          exact ⟨rfl, (W9.out.setCell (Nat.le_refl _) _).setCell (by simp) _⟩

end Go.Proofs.YtcjmplpfebpfpaaGreatDoor

namespace Go.Proofs.YtcjmplpfebpfpaaGreatDoor
open Go.RowKit Go.Proofs Go.Proofs.YtcjmplpfebpfpaaGreatDoorW.PrintWords Go.Proofs.YtcjmplpfebpfpaaGreatDoorW.PrintLast Go.Proofs.YtcjmplpfebpfpaaGreatDoorW.PrintMore PKindInstances
set_option linter.unusedVariables false
set_option linter.unusedSimpArgs false

theorem one_row {w : World} {b : Nat} {x : S24} {A : Option Addr} {c : Nat} (h : w.heap[b]? = some (.cells #[.int .i64 x.f0, .int .i64 x.f1, .string x.f2, .slice A x.f3.length c] 24 (0, 0))) (hx : Kd.C k24 w A x.f3.length x.f3) (hc : x.f3.length ≤ c) :
    Kd.C k24 w (some ⟨b, 0, none⟩) [x].length [x] := by
  refine ⟨rfl, by simp, fun _ => ⟨_, rfl, fun j p hj => ?_⟩⟩
  match j, hj with
  | 0, hj =>
    obtain rfl : x = p := by simpa using hj
    refine ⟨_, rfl, k24_mk w x hc hx, fun i u hu => ?_⟩
    match i, hu with
    | 0, hu => obtain rfl := Option.some.inj hu; simp [World.cell?, h, Addr.add]
    | 1, hu => obtain rfl := Option.some.inj hu; simp [World.cell?, h, Addr.add]
    | 2, hu => obtain rfl := Option.some.inj hu; simp [World.cell?, h, Addr.add]
    | 3, hu => obtain rfl := Option.some.inj hu; simp [World.cell?, h, Addr.add]
    | i + 4, hu => simp at hu
  | j + 1, hj => simp at hj

/-- Four blocks, one behind the other. -/
theorem four_boxes (w : World) (o1 o2 o3 o4 : Obj) : Below w.heap.size w ((((w.alloc o1).alloc o2).alloc o3).alloc o4) ∧ ((((w.alloc o1).alloc o2).alloc o3).alloc o4).heap[w.heap.size + 1 + 1]? = some o3 ∧ ((((w.alloc o1).alloc o2).alloc o3).alloc o4).heap[w.heap.size + 1 + 1 + 1]? = some o4 := by
  have s1 := size_new w o1
  have s2 := size_new (w.alloc o1) o2
  have s3 := size_new ((w.alloc o1).alloc o2) o3
  have h3 := (MapKept.heap_alloc ((w.alloc o1).alloc o2) o3).1
  have h4 := (MapKept.heap_alloc (((w.alloc o1).alloc o2).alloc o3) o4).1
  rw [s2, s1] at h3
  rw [s3, s2, s1] at h4
  exact ⟨below_alloc (below_alloc (below_alloc (below_alloc (Below.refl _ _) _) _) _) _, (Below.heap_alloc _ _ _ (by omega)).trans h3, h4⟩

/-- What comes back of a call of two results. -/
def TwoPost (w : World) (RP : Value → Int → World → Prop) (e : Ending) (w' : World) : Prop := ∃ A n c E, e = .returned (.tuple #[.slice A n c, .int .i64 E]) ∧ RP (.slice A n c) E w' ∧ Below w.heap.size w w'

set_option maxRecDepth 100000 in
theorem Unify_of (x y : S24) (A B : Option Addr) (c d : Nat) (v : Value) (w : World) (RP : Value → Int → World → Prop) (hx : Kd.C k24 w A x.f3.length x.f3) (hc : x.f3.length ≤ c) (hy : Kd.C k24 w B y.f3.length y.f3) (hd : y.f3.length ≤ d)
    (h : ∀ (W : World) (p q : Nat), Below w.heap.size w W → Kd.C k24 W (some ⟨p, 0, none⟩) [x].length [x] → Kd.C k24 W (some ⟨q, 0, none⟩) [y].length [y] → Calls Tryz.prog 20 #[.slice (some ⟨p, 0, none⟩) 1 1, .slice (some ⟨q, 0, none⟩) 1 1, v] W (TwoPost W RP)) :
    Calls Tryz.prog 22 #[formV x.f0 x.f1 x.f2 A x.f3.length c, formV y.f0 y.f1 y.f2 B y.f3.length d, v] w (TwoPost w RP) := by
  have hu24 := Tryz.underlying24
  have F := fun o1 o2 => four_boxes w o1 o2 (.cells #[.int .i64 x.f0, .int .i64 x.f1, .string x.f2, .slice A x.f3.length c] 24) (.cells #[.int .i64 y.f0, .int .i64 y.f1, .string y.f2, .slice B y.f3.length d] 24)
  have HC : Hid (∀ o1 o2, Calls Tryz.prog 20 _ _ (TwoPost _ RP)) := fun o1 o2 => h _ _ _ (F o1 o2).1 (one_row (F o1 o2).2.1 (Kd.C_below hx (F o1 o2).1) hc) (one_row (F o1 o2).2.2 (Kd.C_below hy (F o1 o2).1) hd)
  have HB : Hid (∀ o1 o2, _) := fun o1 o2 => (F o1 o2).1
  clear h F hx hy
  obtain ⟨x0, x1, x2, x3⟩ := x
  obtain ⟨y0, y1, y2, y3⟩ := y
  go_enter Tryz.func22, Tryz.ntmps22
  go_wp2_with fail
  refine Calls.mono (HC.out _ _) ?_
  rintro e w1 ⟨A1, n1, c1, E1, rfl, h1, B1⟩
  have B2 : Hid _ := below_after (HB.out _ _) B1
  have R1 : Hid _ := h1
  clear B1 h1
  go_wp2_with fail
  go_ret2
  exact ⟨A1, n1, c1, E1, rfl, R1.out, B2.out⟩

set_option maxRecDepth 100000 in
theorem Word_any (s : ByteArray) (w : World) : Calls Tryz.prog 49 #[.string s] w fun e w' => e = .returned (formV 1 0 s none 0 0) ∧ Below w.heap.size w w' := by
  have hu24 := Tryz.underlying24
  go_enter Tryz.func49, Tryz.ntmps49
  go_wp2
  refine bodyPost_ret (results_cell_row rfl _ _ w.heap.size 24 #[.int .i64 1, .int .i64 0, .string s, .slice none 0 0] (0, 0) _ rfl (MapKept.heap_alloc w _).1 Tryz.underlying24 rfl (by kernel_rfl)) rfl ?_
  exact ⟨rfl, below_alloc (Below.refl _ _) _⟩
set_option maxRecDepth 100000 in
theorem word_any (s : ByteArray) (w : World) : Calls Tryz.prog 52 #[.string s] w fun e w' => e = .returned (formV 1 0 s none 0 0) ∧ Below w.heap.size w w' := by
  have hu24 := Tryz.underlying24
  go_enter Tryz.func52, Tryz.ntmps52
  go_wp2_with fail
  refine (Word_any _ _).mono ?_
  rintro e w1 ⟨rfl, B1⟩
  have hb := box_heap B1
  obtain ⟨p0, p1, p2, p3⟩ := cells4 hb
  have f0 := frozen4 (i := 0) hb
  have f1 := frozen4 (i := 1) hb
  have f2 := frozen4 (i := 2) hb
  have f3 := frozen4 (i := 3) hb
  have B2 : Hid _ := below_after (below_alloc (Below.refl w.heap.size w) (Obj.cells #[.int .i64 0, .int .i64 0, .string ⟨#[]⟩, .slice none 0 0] 24)) B1
  have HB : Hid _ := hb
  clear B1 hb
  go_wp2_with fail
  refine bodyPost_ret (results_cell_row rfl _ _ w.heap.size 24 #[.int .i64 1, .int .i64 0, .string s, .slice none 0 0] (0, 0) _ rfl (set4 HB.out) Tryz.underlying24 rfl (by kernel_rfl)) rfl ?_
  exact ⟨rfl, below4 B2.out (Nat.le_refl _)⟩
set_option maxRecDepth 100000 in
theorem list_any (A : Option Addr) (n c : Nat) (w : World) : Calls Tryz.prog 51 #[.slice A n c] w fun e w' => e = .returned (formV 3 0 ⟨#[]⟩ A n c) ∧ Below w.heap.size w w' := by
  have hu24 := Tryz.underlying24
  go_enter Tryz.func51, Tryz.ntmps51
  go_wp2
  refine bodyPost_ret (results_cell_row rfl _ _ w.heap.size 24 #[.int .i64 3, .int .i64 0, .string ⟨#[]⟩, .slice A n c] (0, 0) _ rfl (MapKept.heap_alloc w _).1 Tryz.underlying24 rfl (by kernel_rfl)) rfl ?_
  exact ⟨rfl, below_alloc (Below.refl _ _) _⟩
end Go.Proofs.YtcjmplpfebpfpaaGreatDoor

namespace Go.Proofs.YtcjmplpfebpfpaaGreatDoor
open Go.RowKit Go.Proofs Go.Proofs.YtcjmplpfebpfpaaGreatDoorW.PrintWords Go.Proofs.YtcjmplpfebpfpaaGreatDoorW.PrintLast Go.Proofs.YtcjmplpfebpfpaaGreatDoorW.PrintMore PKindInstances
set_option linter.unusedVariables false
set_option linter.unusedSimpArgs false

end Go.Proofs.YtcjmplpfebpfpaaGreatDoor

namespace Go.Proofs.YtcjmplpfebpfpaaGreatDoor.PKindInstances
open Go.RowKit Go.Proofs.YtcjmplpfebpfpaaGreatDoorW.PrintWords Go.Proofs.YtcjmplpfebpfpaaGreatDoorW.PrintLast Go.Proofs.YtcjmplpfebpfpaaGreatDoorW.PrintMore
attribute [local go_sem] max2_int min2_int max_two min_two max_three min_three max_four min_four   -- for this text's walks alone
set_option linter.unusedVariables false
set_option linter.unusedSimpArgs false

end Go.Proofs.YtcjmplpfebpfpaaGreatDoor.PKindInstances

namespace Go.Proofs.YtcjmplpfebpfpaaGreatDoor.PKindInstances
open Go.RowKit Go.Proofs.YtcjmplpfebpfpaaGreatDoorW.PrintWords Go.Proofs.YtcjmplpfebpfpaaGreatDoorW.PrintLast Go.Proofs.YtcjmplpfebpfpaaGreatDoorW.PrintMore
attribute [local go_sem] max2_int min2_int max_two min_two max_three min_three max_four min_four   -- for this text's walks alone
set_option linter.unusedVariables false
set_option linter.unusedSimpArgs false

end Go.Proofs.YtcjmplpfebpfpaaGreatDoor.PKindInstances

namespace Go.Proofs.YtcjmplpfebpfpaaGreatDoor
open Go.RowKit Go.Proofs Go.Proofs.YtcjmplpfebpfpaaGreatDoorW.PrintWords Go.Proofs.YtcjmplpfebpfpaaGreatDoorW.PrintLast Go.Proofs.YtcjmplpfebpfpaaGreatDoorW.PrintMore PKindInstances
set_option linter.unusedVariables false
set_option linter.unusedSimpArgs false

end Go.Proofs.YtcjmplpfebpfpaaGreatDoor

namespace Go.Proofs.YtcjmplpfebpfpaaGreatDoor
open Go.RowKit Go.Proofs Go.Proofs.YtcjmplpfebpfpaaGreatDoorW.PrintWords Go.Proofs.YtcjmplpfebpfpaaGreatDoorW.PrintLast Go.Proofs.YtcjmplpfebpfpaaGreatDoorW.PrintMore PKindInstances
set_option linter.unusedVariables false
set_option linter.unusedSimpArgs false

end Go.Proofs.YtcjmplpfebpfpaaGreatDoor

namespace Go.Proofs.YtcjmplpfebpfpaaGreatDoor
open Go.RowKit Go.Proofs Go.Proofs.YtcjmplpfebpfpaaGreatDoorW.PrintWords Go.Proofs.YtcjmplpfebpfpaaGreatDoorW.PrintLast Go.Proofs.YtcjmplpfebpfpaaGreatDoorW.PrintMore PKindInstances
set_option linter.unusedVariables false
set_option linter.unusedSimpArgs false

theorem siz_pos (x : S24) : 0 < siz x := by obtain ⟨a, b, s, l⟩ := x; simp only [siz]; omega
end Go.Proofs.YtcjmplpfebpfpaaGreatDoor

namespace Go.Proofs.YtcjmplpfebpfpaaGreatDoor
open Go.RowKit Go.Proofs Go.Proofs.YtcjmplpfebpfpaaGreatDoorW.PrintWords Go.Proofs.YtcjmplpfebpfpaaGreatDoorW.PrintLast Go.Proofs.YtcjmplpfebpfpaaGreatDoorW.PrintMore PKindInstances
set_option linter.unusedVariables false
set_option linter.unusedSimpArgs false

end Go.Proofs.YtcjmplpfebpfpaaGreatDoor

namespace Go.Proofs.YtcjmplpfebpfpaaGreatDoor.PKindInstances
open Go.RowKit Go.Proofs.YtcjmplpfebpfpaaGreatDoorW.PrintWords Go.Proofs.YtcjmplpfebpfpaaGreatDoorW.PrintLast Go.Proofs.YtcjmplpfebpfpaaGreatDoorW.PrintMore
attribute [local go_sem] max2_int min2_int max_two min_two max_three min_three max_four min_four   -- for this text's walks alone
set_option linter.unusedVariables false
set_option linter.unusedSimpArgs false

end Go.Proofs.YtcjmplpfebpfpaaGreatDoor.PKindInstances

namespace Go.Proofs.YtcjmplpfebpfpaaGreatDoor
open Go.RowKit Go.Proofs Go.Proofs.YtcjmplpfebpfpaaGreatDoorW.PrintWords Go.Proofs.YtcjmplpfebpfpaaGreatDoorW.PrintLast Go.Proofs.YtcjmplpfebpfpaaGreatDoorW.PrintMore PKindInstances
set_option linter.unusedVariables false
set_option linter.unusedSimpArgs false

end Go.Proofs.YtcjmplpfebpfpaaGreatDoor

namespace Go.Proofs
open Go.RowKit Go.Maps Go.Sort Go.Shelf

end Go.Proofs

namespace Go.Proofs.YtcjmplpfebpfpaaGreatDoor
open Go.RowKit Go.Proofs Go.Proofs.YtcjmplpfebpfpaaGreatDoorW.PrintWords Go.Proofs.YtcjmplpfebpfpaaGreatDoorW.PrintLast Go.Proofs.YtcjmplpfebpfpaaGreatDoorW.PrintMore PKindInstances
set_option linter.unusedVariables false
set_option linter.unusedSimpArgs false

end Go.Proofs.YtcjmplpfebpfpaaGreatDoor

namespace Go.Proofs.YtcjmplpfebpfpaaGreatDoor
open Go.RowKit Go.Proofs Go.Proofs.YtcjmplpfebpfpaaGreatDoorW.PrintWords Go.Proofs.YtcjmplpfebpfpaaGreatDoorW.PrintLast Go.Proofs.YtcjmplpfebpfpaaGreatDoorW.PrintMore PKindInstances
set_option linter.unusedVariables false
set_option linter.unusedSimpArgs false

end Go.Proofs.YtcjmplpfebpfpaaGreatDoor

namespace Go.Proofs.YtcjmplpfebpfpaaGreatDoor
open Go.RowKit Go.Proofs Go.MapKept Go.WideElems Go.Maps Go.Proofs.YtcjmplpfebpfpaaGreatDoorW.PrintWords Go.Proofs.YtcjmplpfebpfpaaGreatDoorW.PrintLast Go.Proofs.YtcjmplpfebpfpaaGreatDoorW.PrintMore PKindInstances
set_option linter.unusedVariables false
set_option linter.unusedSimpArgs false

end Go.Proofs.YtcjmplpfebpfpaaGreatDoor

namespace Go.Proofs.YtcjmplpfebpfpaaGreatDoor
open Go.RowKit Go.Proofs Go.Proofs.YtcjmplpfebpfpaaGreatDoorW.PrintWords Go.Proofs.YtcjmplpfebpfpaaGreatDoorW.PrintLast Go.Proofs.YtcjmplpfebpfpaaGreatDoorW.PrintMore PKindInstances
set_option linter.unusedVariables false
set_option linter.unusedSimpArgs false

end Go.Proofs.YtcjmplpfebpfpaaGreatDoor

namespace Go.Proofs.YtcjmplpfebpfpaaGreatDoor
open Go.RowKit Go.Proofs Go.Proofs.YtcjmplpfebpfpaaGreatDoorW.PrintWords Go.Proofs.YtcjmplpfebpfpaaGreatDoorW.PrintLast Go.Proofs.YtcjmplpfebpfpaaGreatDoorW.PrintMore PKindInstances
set_option linter.unusedVariables false
set_option linter.unusedSimpArgs false

end Go.Proofs.YtcjmplpfebpfpaaGreatDoor

namespace Go.Proofs.YtcjmplpfebpfpaaGreatDoor
open Go.RowKit Go.Proofs Go.Proofs.YtcjmplpfebpfpaaGreatDoorW.PrintWords Go.Proofs.YtcjmplpfebpfpaaGreatDoorW.PrintLast Go.Proofs.YtcjmplpfebpfpaaGreatDoorW.PrintMore PKindInstances
set_option linter.unusedVariables false
set_option linter.unusedSimpArgs false

end Go.Proofs.YtcjmplpfebpfpaaGreatDoor

namespace Go.Proofs.YtcjmplpfebpfpaaGreatDoor
open Go.RowKit Go.Proofs Go.Proofs.YtcjmplpfebpfpaaGreatDoorW.PrintWords Go.Proofs.YtcjmplpfebpfpaaGreatDoorW.PrintLast Go.Proofs.YtcjmplpfebpfpaaGreatDoorW.PrintMore PKindInstances
set_option linter.unusedVariables false
set_option linter.unusedSimpArgs false

end Go.Proofs.YtcjmplpfebpfpaaGreatDoor
