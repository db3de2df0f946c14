/- Part 6 of what the law's row leans on (Na): the print's words and functions, cut to what is reached, and own texts. -/
import Derived.Test.YtcjmplpfebpfpaaGreatDoorNa5
namespace Go.Proofs.YtcjmplpfebpfpaaGreatDoor
open Go.RowKit Go.Proofs Go.Proofs.YtcjmplpfebpfpaaGreatDoorW.PrintWords Go.Proofs.YtcjmplpfebpfpaaGreatDoorW.PrintLast Go.Proofs.YtcjmplpfebpfpaaGreatDoorW.PrintMore PKindInstances
set_option linter.unusedVariables false
set_option linter.unusedSimpArgs false

theorem two_boxes (w : World) (o1 o2 : Obj) : ((w.alloc o1).alloc o2).drew.heap[w.heap.size]? = some o1 ∧ ((w.alloc o1).alloc o2).drew.heap[w.heap.size + 1]? = some o2 ∧ Below w.heap.size w ((w.alloc o1).alloc o2).drew := by
  refine ⟨(Below.heap_alloc _ _ _ (by rw [size_new]; omega)).trans (MapKept.heap_alloc w _).1, ?_, below_drew (below_alloc (below_alloc (Below.refl _ _) _) _)⟩
  have h := (MapKept.heap_alloc (w.alloc o1) o2).1
  rw [size_new] at h
  exact h

/-- What holds of the loop: what is known then; the two forms' own blocks. -/
def LiRel (W0 X : World) (base sp vb tb : Nat) (vs : List ByteArray) (f : List (ByteArray × S24) → S24 → S24 → Bool → Option URes) (fn bare : Bool) (la lb : List S24) (R : URes) (k : Nat) (x9 : Value) (wr : World) : Prop :=
  ∃ (i : Nat) (mt : List (ByteArray × S24)) (mtv : List (ByteArray × Value)), x9 = .int .i64 (i : Int) ∧ k + i = la.length ∧ i ≤ lb.length ∧ X.grownBy wr (some tb) ∧ SolvAt base wr sp vb tb (varsV vs) mtv ∧ ToAt W0 mt mtv ∧
    (match listsL f fn bare i mt (la.drop i) (lb.drop i) with | none => none | some (.stop e) => some (URes.stop e) | some (.ok mt') => if la.length = lb.length then some (.ok mt') else some (.stop 8)) = some R

theorem listsL_end {f : List (ByteArray × S24) → S24 → S24 → Bool → Option URes} {fn bare : Bool} {i : Nat} {mt : List (ByteArray × S24)} {la lb : List S24} (h : la = [] ∨ lb = []) : listsL f fn bare i mt la lb = some (.ok mt) := by
  cases la with
  | nil => rfl
  | cons x la =>
    cases lb with
    | nil => rfl
    | cons y lb => simp at h

set_option maxRecDepth 100000 in
set_option maxHeartbeats 4000000 in
theorem lists_bare (vs : List ByteArray) (n : Nat) (W0 w : World) (base sp vb tb : Nat) (mt : List (ByteArray × S24)) (mtv : List (ByteArray × Value)) (a0 a1 : Int) (a2 : ByteArray) (la : List S24) (b0 b1 : Int) (b2 : ByteArray) (lb : List S24) (A B : Option Addr) (c d : Nat) (R : URes)
    (hs : SolvAt base w sp vb tb (varsV vs) mtv) (ht : ToAt W0 mt mtv) (hw : Below W0.heap.size W0 w) (hb : W0.heap.size ≤ base) (ha1 : Kd.C k24 W0 A la.length la) (ha2 : la.length ≤ c) (ha3 : wids la < 9000000) (hb1 : Kd.C k24 W0 B lb.length lb) (hb2 : lb.length ≤ d) (hb3 : wids lb < 9000000) (hU : UniOk vs n)
    (hk : (match listsL (unifyM vs n) false true 0 mt la lb with | none => none | some (.stop e) => some (URes.stop e) | some (.ok mt') => if la.length = lb.length then some (.ok mt') else some (.stop 8)) = some R) :
    Calls Tryz.prog 97 #[.pointer (some ⟨sp, 0, none⟩), formV a0 a1 a2 A la.length c, formV b0 b1 b2 B lb.length d, .bool true] w (UPost W0 w base sp vb tb vs R) := by
  have hu24 := Tryz.underlying24
  have h1 := wids_len la
  have h2 := wids_len lb
  have hx2 : ((w.alloc (Obj.cells #[.int .i64 a0, .int .i64 a1, .string a2, .slice A la.length c] 24)).alloc (Obj.cells #[.int .i64 b0, .int .i64 b1, .string b2, .slice B lb.length d] 24)).heap[w.heap.size + 1]? = some (Obj.cells #[.int .i64 b0, .int .i64 b1, .string b2, .slice B lb.length d] 24) := by
    have h := (MapKept.heap_alloc (w.alloc (Obj.cells #[.int .i64 a0, .int .i64 a1, .string a2, .slice A la.length c] 24)) (Obj.cells #[.int .i64 b0, .int .i64 b1, .string b2, .slice B lb.length d] 24)).1
    rw [size_new] at h
    exact h
  have hx1 : ((w.alloc (Obj.cells #[.int .i64 a0, .int .i64 a1, .string a2, .slice A la.length c] 24)).alloc (Obj.cells #[.int .i64 b0, .int .i64 b1, .string b2, .slice B lb.length d] 24)).heap[w.heap.size]? = some (Obj.cells #[.int .i64 a0, .int .i64 a1, .string a2, .slice A la.length c] 24) :=
    (Below.heap_alloc _ _ _ (by rw [size_new]; omega)).trans (MapKept.heap_alloc w _).1
  have hxb : Below w.heap.size w ((w.alloc (Obj.cells #[.int .i64 a0, .int .i64 a1, .string a2, .slice A la.length c] 24)).alloc (Obj.cells #[.int .i64 b0, .int .i64 b1, .string b2, .slice B lb.length d] 24)) := below_alloc (below_alloc (Below.refl _ _) _) _
  have HK : Hid _ := hk
  have HT : Hid _ := ht
  have start : Hid (LiRel W0 ((w.alloc (Obj.cells #[.int .i64 a0, .int .i64 a1, .string a2, .slice A la.length c] 24)).alloc (Obj.cells #[.int .i64 b0, .int .i64 b1, .string b2, .slice B lb.length d] 24)) base sp vb tb vs (unifyM vs n) false true la lb R la.length (.int .i64 ((0 : Nat) : Int)) ((w.alloc (Obj.cells #[.int .i64 a0, .int .i64 a1, .string a2, .slice A la.length c] 24)).alloc (Obj.cells #[.int .i64 b0, .int .i64 b1, .string b2, .slice B lb.length d] 24))) := ⟨0, mt, mtv, rfl, rfl, Nat.zero_le _, ⟨rfl, rfl, rfl, Nat.le_refl _, fun _ _ _ => rfl⟩, hs.below hxb, HT.out, HK.out⟩
  have hsz0 : ((w.alloc (Obj.cells #[.int .i64 a0, .int .i64 a1, .string a2, .slice A la.length c] 24)).alloc (Obj.cells #[.int .i64 b0, .int .i64 b1, .string b2, .slice B lb.length d] 24)).heap.size = w.heap.size + 1 + 1 := by rw [size_new, size_new]
  have htb : tb < w.heap.size := hs.tos.lt
  have hsb := hs.bt
  have HX1 : Hid _ := hx1
  have HX2 : Hid _ := hx2
  have HXW : Hid _ := (hw.trans (hxb.mono hw.size) : Below W0.heap.size W0 ((w.alloc (Obj.cells #[.int .i64 a0, .int .i64 a1, .string a2, .slice A la.length c] 24)).alloc (Obj.cells #[.int .i64 b0, .int .i64 b1, .string b2, .slice B lb.length d] 24)))
  have HXG : Hid (w.grownBy ((w.alloc (Obj.cells #[.int .i64 a0, .int .i64 a1, .string a2, .slice A la.length c] 24)).alloc (Obj.cells #[.int .i64 b0, .int .i64 b1, .string b2, .slice B lb.length d] 24)) (some tb)) := grown_of_below hxb (some tb)
  have HA : Hid _ := ha1
  have HBB : Hid _ := hb1
  have HUU : Hid _ := hU
  clear hx1 hx2 hxb hs ht ha1 hb1 hU hw hk
  go_enter Tryz.func97, Tryz.ntmps97
  go_wp2_with fail
  generalize hGen : ((w.alloc (Obj.cells #[.int .i64 a0, .int .i64 a1, .string a2, .slice A la.length c] 24)).alloc (Obj.cells #[.int .i64 b0, .int .i64 b1, .string b2, .slice B lb.length d] 24)) = X at *
  go_loopg [9] la.length (fun k x9 wr => LiRel W0 X base sp vb tb vs (unifyM vs n) false true la lb R k x9 wr)
  case atStart => exact start.out
  case round =>
    clear start
    obtain ⟨i, mt2, mtv2, rfl, hki, hil, hg, hS, hT, hV⟩ := hrel
    have hb1 := (hg.block _ (Array.getElem?_eq_some_iff.1 HX1.out).1 (by simp; omega)).trans HX1.out
    have hb2' := (hg.block _ (Array.getElem?_eq_some_iff.1 HX2.out).1 (by simp; omega)).trans HX2.out
    obtain ⟨p0, p1, p2, p3⟩ := cells4 hb1
    obtain ⟨q0, q1, q2, q3⟩ := cells4 hb2'
    have hW := pw_below_grown HXW.out (some tb) HXW.out.size hg (fun k hk => by cases hk; omega)
    by_cases hla : i < la.length
    · by_cases hlb : i < lb.length
      · obtain ⟨g, rfl⟩ : ∃ g, gk = g + 1 := ⟨gk - 1, by omega⟩
        obtain ⟨x, hx⟩ : ∃ x, la[i]? = some x := ⟨la[i], by simp [hla]⟩
        obtain ⟨y, hy⟩ : ∃ y, lb[i]? = some y := ⟨lb[i], by simp [hlb]⟩
        obtain ⟨ad, A5, c5, rfl, g0, g1, g2, g3, g4, g5⟩ := row_at HA.out hla hx
        obtain ⟨ae, B5, d5, rfl, k0, k1, k2, k3, k4, k5⟩ := row_at HBB.out hlb hy
        replace g0 := pw_cell_below hW g0
        replace g1 := pw_cell_below hW g1
        replace g2 := pw_cell_below hW g2
        replace g3 := pw_cell_below hW g3
        replace k0 := pw_cell_below hW k0
        replace k1 := pw_cell_below hW k1
        replace k2 := pw_cell_below hW k2
        replace k3 := pw_cell_below hW k3
        have emin : min (la.length : Int) (lb.length : Int) = ((min la.length lb.length : Nat) : Int) := by omega
        have elt : decide (i < min la.length lb.length) = true := decide_eq_true (by omega)
        rw [drop_at3 hx, drop_at3 hy] at hV
        simp only [listsL] at hV
        have SX : Hid (wid x < 9000000) := by have := wid_mem (List.mem_of_getElem? hx); exact (by omega : wid x < 9000000)
        have SY : Hid (wid y < 9000000) := by have := wid_mem (List.mem_of_getElem? hy); exact (by omega : wid y < 9000000)
        have G5 : Hid _ := g5
        have K5 : Hid _ := k5
        have HV : Hid _ := hV
        clear g5 k5 hV hx hy hb1 hb2'
        obtain ⟨x0, x1, x2, x3⟩ := x
        obtain ⟨y0, y1, y2, y3⟩ := y
        go_upto_region 5 with fail
        go_cut [10, 11] from 36 to 45 (fun x10 x11 wx => ∃ p q, x10 = .pointer (some ⟨p, 0, none⟩) ∧ x11 = .pointer (some ⟨q, 0, none⟩) ∧ wr.heap.size ≤ p ∧ wr.heap.size ≤ q ∧
            wx.heap[p]? = some (.cells #[.int .i64 x0, .int .i64 x1, .string x2, .slice A5 x3.length c5] 24 (0, 0)) ∧ wx.heap[q]? = some (.cells #[.int .i64 y0, .int .i64 y1, .string y2, .slice B5 y3.length d5] 24 (0, 0)) ∧ Below wr.heap.size wr wx)
        case first =>
          go_region_held3 (fun w' => (w'.cell? ⟨w.heap.size, 3, none⟩ = some (.slice (some ad) la.length c) ∧ w'.cell? ⟨w.heap.size + 1, 3, none⟩ = some (.slice (some ae) lb.length d)) ∧
              (w'.cell? (ad.add (i * 4)) = some (.int .i64 x0) ∧ w'.cell? ⟨(ad.add (i * 4)).block, (ad.add (i * 4)).off + 1, none⟩ = some (.int .i64 x1) ∧ w'.cell? ⟨(ad.add (i * 4)).block, (ad.add (i * 4)).off + 2, none⟩ = some (.string x2) ∧ w'.cell? ⟨(ad.add (i * 4)).block, (ad.add (i * 4)).off + 3, none⟩ = some (.slice A5 x3.length c5)) ∧
              (w'.cell? (ae.add (i * 4)) = some (.int .i64 y0) ∧ w'.cell? ⟨(ae.add (i * 4)).block, (ae.add (i * 4)).off + 1, none⟩ = some (.int .i64 y1) ∧ w'.cell? ⟨(ae.add (i * 4)).block, (ae.add (i * 4)).off + 2, none⟩ = some (.string y2) ∧ w'.cell? ⟨(ae.add (i * 4)).block, (ae.add (i * 4)).off + 3, none⟩ = some (.slice B5 y3.length d5)))
            (first | go_keep) (fail)
          all_goals
            go_wp2_with fail
            go_meet
          · exact ⟨_, _, rfl, rfl, Nat.le_refl _, by omega, (two_boxes _ _ _).1, (two_boxes _ _ _).2.1, (two_boxes _ _ _).2.2⟩
          · exact ⟨_, _, rfl, rfl, by omega, Nat.le_refl _, (two_boxes _ _ _).2.1, (two_boxes _ _ _).1, (two_boxes _ _ _).2.2⟩
        case rest =>
          obtain ⟨p, q, rfl, rfl, hpp, hqq, hp, hq, hB⟩ := hcut
          obtain ⟨s0, s1, s2, s3⟩ := cells4 hp
          obtain ⟨t0, t1, t2, t3⟩ := cells4 hq
          have S4 : Hid _ := hS.below hB
          have G4 : Hid (X.grownBy wc (some tb)) := hg.trans (grown_of_below hB (some tb))
          have W4 : Hid (Below W0.heap.size W0 wc) := hW.trans (hB.mono hW.size)
          have T4 : Hid _ := hT
          have hV := HV.out
          clear hB hp hq hS hT hW hg p0 p1 p2 q0 q1 q2 g0 g1 g2 g3 k0 k1 k2 k3 p3 q3 HV
          rw [if_neg (by simp)] at hV
          by_cases hi : i = 0
          · have hi2 : ((i : Int) == 0) = true := beq_iff_eq.mpr (by omega)
            clear hi
            rw [show (false && decide (i = 1) && (x0 == 3) && (y0 == 3)) = false from rfl] at hV
            cases hq1 : unifyM vs n mt2 ⟨x0, x1, x2, x3⟩ ⟨y0, y1, y2, y3⟩ false with
            | none => rw [hq1] at hV; cases hV
            | some R1 =>
              rw [hq1] at hV
              have UU : Hid _ := HUU.out W0 wc base sp vb tb mt2 mtv2 ⟨x0, x1, x2, x3⟩ ⟨y0, y1, y2, y3⟩ false A5 B5 c5 d5 R1 S4.out T4.out W4.out hb G5.out g4 SX.out K5.out k4 SY.out hq1
              clear hq1
              go_wp2_with fail
              refine Calls.mono UU.out ?_
              rintro e w6 h6
              cases R1 with
              | stop e1 =>
                obtain ⟨rfl, h7⟩ := h6
                simp only [Option.some.injEq] at hV
                subst hV
                have H7 : Hid _ := HXG.out.trans (G4.out.trans h7)
                clear h7
                go_wp2_with fail
                exact ⟨rfl, rfl, H7.out⟩
              | ok mt3 =>
                obtain ⟨rfl, h7, mtv3, h8, h9⟩ := h6
                have H7 : Hid _ := G4.out.trans h7
                have H8 : Hid _ := h8
                have H9 : Hid _ := h9
                have HV9 : Hid _ := hV
                clear h7 h8 h9 hV
                go_wp2_with fail
                go_roundg g
                case measure => omega
                case rel => exact ⟨i + 1, mt3, mtv3, by go_num, by omega, by omega, H7.out, H8.out, H9.out, HV9.out⟩
          · have hi2 : ((i : Int) == 0) = false := beq_eq_false_iff_ne.mpr (by omega)
            clear hi
            rw [show (false && decide (i = 1) && (x0 == 3) && (y0 == 3)) = false from rfl] at hV
            cases hq1 : unifyM vs n mt2 ⟨x0, x1, x2, x3⟩ ⟨y0, y1, y2, y3⟩ false with
            | none => rw [hq1] at hV; cases hV
            | some R1 =>
              rw [hq1] at hV
              have UU : Hid _ := HUU.out W0 wc base sp vb tb mt2 mtv2 ⟨x0, x1, x2, x3⟩ ⟨y0, y1, y2, y3⟩ false A5 B5 c5 d5 R1 S4.out T4.out W4.out hb G5.out g4 SX.out K5.out k4 SY.out hq1
              clear hq1
              go_wp2_with fail
              refine Calls.mono UU.out ?_
              rintro e w6 h6
              cases R1 with
              | stop e1 =>
                obtain ⟨rfl, h7⟩ := h6
                simp only [Option.some.injEq] at hV
                subst hV
                have H7 : Hid _ := HXG.out.trans (G4.out.trans h7)
                clear h7
                go_wp2_with fail
                exact ⟨rfl, rfl, H7.out⟩
              | ok mt3 =>
                obtain ⟨rfl, h7, mtv3, h8, h9⟩ := h6
                have H7 : Hid _ := G4.out.trans h7
                have H8 : Hid _ := h8
                have H9 : Hid _ := h9
                have HV9 : Hid _ := hV
                clear h7 h8 h9 hV
                go_wp2_with fail
                go_roundg g
                case measure => omega
                case rel => exact ⟨i + 1, mt3, mtv3, by go_num, by omega, by omega, H7.out, H8.out, H9.out, HV9.out⟩
      · clear hb1 hb2'
        have hV2 : (if la.length = lb.length then some (URes.ok mt2) else some (.stop 8)) = some R := by rw [listsL_end (by right; exact List.drop_eq_nil_of_le (by omega))] at hV; exact hV
        have G9 : Hid _ := HXG.out.trans hg
        have S9 : Hid _ := hS
        have T9 : Hid _ := hT
        have emin : min (la.length : Int) (lb.length : Int) = ((min la.length lb.length : Nat) : Int) := by omega
        have elt : decide (i < min la.length lb.length) = false := decide_eq_false (by omega)
        have ele : min la.length lb.length ≤ i := by omega
        clear hV hg hS hT
        by_cases hll : la.length = lb.length
        · exact absurd hll (by omega)
        · rw [if_neg hll] at hV2
          obtain rfl := Option.some.inj hV2
          have en : ((la.length : Int) != (lb.length : Int)) = true := bne_iff_ne.mpr (by omega)
          clear hV2
          go_wp2_with fail
          exact ⟨rfl, rfl, G9.out⟩
    · clear hb1 hb2'
      have hV2 : (if la.length = lb.length then some (URes.ok mt2) else some (.stop 8)) = some R := by rw [listsL_end (by left; exact List.drop_eq_nil_of_le (by omega))] at hV; exact hV
      have G9 : Hid _ := HXG.out.trans hg
      have S9 : Hid _ := hS
      have T9 : Hid _ := hT
      have emin : min (la.length : Int) (lb.length : Int) = ((min la.length lb.length : Nat) : Int) := by omega
      have elt : decide (i < min la.length lb.length) = false := decide_eq_false (by omega)
      have ele : min la.length lb.length ≤ i := by omega
      clear hV hg hS hT
      by_cases hll : la.length = lb.length
      · rw [if_pos hll] at hV2
        obtain rfl := Option.some.inj hV2
        have en : ((la.length : Int) != (lb.length : Int)) = false := bne_eq_false_iff_eq.mpr (by omega)
        clear hV2
        go_wp2_with fail
        go_end0
        exact ⟨rfl, G9.out, mtv2, S9.out, T9.out⟩
      · rw [if_neg hll] at hV2
        obtain rfl := Option.some.inj hV2
        have en : ((la.length : Int) != (lb.length : Int)) = true := bne_iff_ne.mpr (by omega)
        clear hV2
        go_wp2_with fail
        exact ⟨rfl, rfl, G9.out⟩

set_option maxRecDepth 100000 in
set_option maxHeartbeats 8000000 in
theorem lists_open (vs : List ByteArray) (n : Nat) (W0 w : World) (base sp vb tb : Nat) (mt : List (ByteArray × S24)) (mtv : List (ByteArray × Value)) (a0 a1 : Int) (a2 : ByteArray) (la : List S24) (b0 b1 : Int) (b2 : ByteArray) (lb : List S24) (A B : Option Addr) (c d : Nat) (R : URes)
    (hs : SolvAt base w sp vb tb (varsV vs) mtv) (ht : ToAt W0 mt mtv) (hw : Below W0.heap.size W0 w) (hb : W0.heap.size ≤ base) (ha1 : Kd.C k24 W0 A la.length la) (ha2 : la.length ≤ c) (ha3 : wids la < 9000000) (hb1 : Kd.C k24 W0 B lb.length lb) (hb2 : lb.length ≤ d) (hb3 : wids lb < 9000000) (hU : UniOk vs n)
    (hk : (match listsL (unifyM vs n) (isFunW (headOf a0 la) && isFunW (headOf b0 lb)) false 0 mt la lb with | none => none | some (.stop e) => some (URes.stop e) | some (.ok mt') => if la.length = lb.length then some (.ok mt') else some (.stop 8)) = some R) :
    Calls Tryz.prog 97 #[.pointer (some ⟨sp, 0, none⟩), formV a0 a1 a2 A la.length c, formV b0 b1 b2 B lb.length d, .bool false] w (UPost W0 w base sp vb tb vs R) := by
  have hu24 := Tryz.underlying24
  have h1 := wids_len la
  have h2 := wids_len lb
  have hx02 : ((w.alloc (Obj.cells #[.int .i64 a0, .int .i64 a1, .string a2, .slice A la.length c] 24)).alloc (Obj.cells #[.int .i64 b0, .int .i64 b1, .string b2, .slice B lb.length d] 24)).heap[w.heap.size + 1]? = some (Obj.cells #[.int .i64 b0, .int .i64 b1, .string b2, .slice B lb.length d] 24) := by
    have h := (MapKept.heap_alloc (w.alloc (Obj.cells #[.int .i64 a0, .int .i64 a1, .string a2, .slice A la.length c] 24)) (Obj.cells #[.int .i64 b0, .int .i64 b1, .string b2, .slice B lb.length d] 24)).1
    rw [size_new] at h
    exact h
  have hx01 : ((w.alloc (Obj.cells #[.int .i64 a0, .int .i64 a1, .string a2, .slice A la.length c] 24)).alloc (Obj.cells #[.int .i64 b0, .int .i64 b1, .string b2, .slice B lb.length d] 24)).heap[w.heap.size]? = some (Obj.cells #[.int .i64 a0, .int .i64 a1, .string a2, .slice A la.length c] 24) :=
    (Below.heap_alloc _ _ _ (by rw [size_new]; omega)).trans (MapKept.heap_alloc w _).1
  have hxb0 : Below w.heap.size w ((w.alloc (Obj.cells #[.int .i64 a0, .int .i64 a1, .string a2, .slice A la.length c] 24)).alloc (Obj.cells #[.int .i64 b0, .int .i64 b1, .string b2, .slice B lb.length d] 24)) := below_alloc (below_alloc (Below.refl _ _) _) _
  have HXB0 : Hid _ := hxb0
  have HX01 : Hid _ := hx01
  have HX02 : Hid _ := hx02
  have HXW0 : Hid (Below W0.heap.size W0 ((w.alloc (Obj.cells #[.int .i64 a0, .int .i64 a1, .string a2, .slice A la.length c] 24)).alloc (Obj.cells #[.int .i64 b0, .int .i64 b1, .string b2, .slice B lb.length d] 24))) := hw.trans (hxb0.mono hw.size)
  have HWW : Hid _ := hw
  have HS : Hid _ := hs
  have HT : Hid _ := ht
  have HA : Hid _ := ha1
  have HBB : Hid _ := hb1
  have HUU : Hid _ := hU
  clear hx01 hx02 hxb0 hs ht ha1 hb1 hU hw
  obtain ⟨fa, hfa0⟩ : ∃ fa, fa = isFunW (headOf a0 la) := ⟨_, rfl⟩
  obtain ⟨fb, hfb0⟩ : ∃ fb, fb = isFunW (headOf b0 lb) := ⟨_, rfl⟩
  rw [← hfa0, ← hfb0] at hk
  have hfa : ((headOf a0 la).toList == [102, 117, 110]) = fa := hfa0.symm
  have hfb : ((headOf b0 lb).toList == [102, 117, 110]) = fb := hfb0.symm
  clear hfa0 hfb0
  cases fa with
  | false =>
    simp only [Bool.false_and] at hk
    have HK : Hid _ := hk
    clear hk
    go_enter Tryz.func97, Tryz.ntmps97
    go_wp2_with fail
    refine (Head_any a0 a1 a2 c _ (Kd.C_below HA.out HXW0.out)).mono ?_
    rintro e X ⟨rfl, B4⟩
    have hx1 : X.heap[w.heap.size]? = _ := (B4.block _ (Array.getElem?_eq_some_iff.1 HX01.out).1).trans HX01.out
    have hx2 : X.heap[w.heap.size + 1]? = _ := (B4.block _ (Array.getElem?_eq_some_iff.1 HX02.out).1).trans HX02.out
    have hxb : Below w.heap.size w X := HXB0.out.trans (B4.mono HXB0.out.size)
    have SLX : SolvAt base X sp vb tb (varsV vs) mtv := HS.out.below hxb
    have start : Hid (LiRel W0 X base sp vb tb vs (unifyM vs n) false false la lb R la.length (.int .i64 ((0 : Nat) : Int)) X) := ⟨0, mt, mtv, rfl, rfl, Nat.zero_le _, ⟨rfl, rfl, rfl, Nat.le_refl _, fun _ _ _ => rfl⟩, SLX, HT.out, HK.out⟩
    have htb : tb < w.heap.size := HS.out.tos.lt
    have hsb := HS.out.bt
    obtain ⟨p0, p1, p2, p3⟩ := cells4 hx1
    obtain ⟨q0, q1, q2, q3⟩ := cells4 hx2
    have HX1 : Hid _ := hx1
    have HX2 : Hid _ := hx2
    have HXW : Hid _ := (HWW.out.trans (hxb.mono HWW.out.size) : Below W0.heap.size W0 X)
    have HXG : Hid (w.grownBy X (some tb)) := grown_of_below hxb (some tb)
    clear hx1 hx2 hxb SLX B4
    go_wp2_with fail
    clear p0 p1 p2 p3 q0 q1 q2 q3
    go_loopg [9] la.length (fun k x9 wr => LiRel W0 X base sp vb tb vs (unifyM vs n) false false la lb R k x9 wr)
    case atStart => exact start.out
    case round =>
      clear start
      obtain ⟨i, mt2, mtv2, rfl, hki, hil, hg, hS, hT, hV⟩ := hrel
      have hb1 := (hg.block _ (Array.getElem?_eq_some_iff.1 HX1.out).1 (by simp; omega)).trans HX1.out
      have hb2' := (hg.block _ (Array.getElem?_eq_some_iff.1 HX2.out).1 (by simp; omega)).trans HX2.out
      obtain ⟨p0, p1, p2, p3⟩ := cells4 hb1
      obtain ⟨q0, q1, q2, q3⟩ := cells4 hb2'
      have hW := pw_below_grown HXW.out (some tb) HXW.out.size hg (fun k hk => by cases hk; omega)
      by_cases hla : i < la.length
      · by_cases hlb : i < lb.length
        · obtain ⟨g, rfl⟩ : ∃ g, gk = g + 1 := ⟨gk - 1, by omega⟩
          obtain ⟨x, hx⟩ : ∃ x, la[i]? = some x := ⟨la[i], by simp [hla]⟩
          obtain ⟨y, hy⟩ : ∃ y, lb[i]? = some y := ⟨lb[i], by simp [hlb]⟩
          obtain ⟨ad, A5, c5, rfl, g0, g1, g2, g3, g4, g5⟩ := row_at HA.out hla hx
          obtain ⟨ae, B5, d5, rfl, k0, k1, k2, k3, k4, k5⟩ := row_at HBB.out hlb hy
          replace g0 := pw_cell_below hW g0
          replace g1 := pw_cell_below hW g1
          replace g2 := pw_cell_below hW g2
          replace g3 := pw_cell_below hW g3
          replace k0 := pw_cell_below hW k0
          replace k1 := pw_cell_below hW k1
          replace k2 := pw_cell_below hW k2
          replace k3 := pw_cell_below hW k3
          have emin : min (la.length : Int) (lb.length : Int) = ((min la.length lb.length : Nat) : Int) := by omega
          have elt : decide (i < min la.length lb.length) = true := decide_eq_true (by omega)
          rw [drop_at3 hx, drop_at3 hy] at hV
          simp only [listsL] at hV
          have SX : Hid (wid x < 9000000) := by have := wid_mem (List.mem_of_getElem? hx); exact (by omega : wid x < 9000000)
          have SY : Hid (wid y < 9000000) := by have := wid_mem (List.mem_of_getElem? hy); exact (by omega : wid y < 9000000)
          have G5 : Hid _ := g5
          have K5 : Hid _ := k5
          have HV : Hid _ := hV
          clear g5 k5 hV hx hy hb1 hb2'
          obtain ⟨x0, x1, x2, x3⟩ := x
          obtain ⟨y0, y1, y2, y3⟩ := y
          go_upto_region 5 with fail
          go_cut [10, 11] from 36 to 45 (fun x10 x11 wx => ∃ p q, x10 = .pointer (some ⟨p, 0, none⟩) ∧ x11 = .pointer (some ⟨q, 0, none⟩) ∧ wr.heap.size ≤ p ∧ wr.heap.size ≤ q ∧
              wx.heap[p]? = some (.cells #[.int .i64 x0, .int .i64 x1, .string x2, .slice A5 x3.length c5] 24 (0, 0)) ∧ wx.heap[q]? = some (.cells #[.int .i64 y0, .int .i64 y1, .string y2, .slice B5 y3.length d5] 24 (0, 0)) ∧ Below wr.heap.size wr wx)
          case first =>
            go_region_held3 (fun w' => (w'.cell? ⟨w.heap.size, 3, none⟩ = some (.slice (some ad) la.length c) ∧ w'.cell? ⟨w.heap.size + 1, 3, none⟩ = some (.slice (some ae) lb.length d)) ∧
                (w'.cell? (ad.add (i * 4)) = some (.int .i64 x0) ∧ w'.cell? ⟨(ad.add (i * 4)).block, (ad.add (i * 4)).off + 1, none⟩ = some (.int .i64 x1) ∧ w'.cell? ⟨(ad.add (i * 4)).block, (ad.add (i * 4)).off + 2, none⟩ = some (.string x2) ∧ w'.cell? ⟨(ad.add (i * 4)).block, (ad.add (i * 4)).off + 3, none⟩ = some (.slice A5 x3.length c5)) ∧
                (w'.cell? (ae.add (i * 4)) = some (.int .i64 y0) ∧ w'.cell? ⟨(ae.add (i * 4)).block, (ae.add (i * 4)).off + 1, none⟩ = some (.int .i64 y1) ∧ w'.cell? ⟨(ae.add (i * 4)).block, (ae.add (i * 4)).off + 2, none⟩ = some (.string y2) ∧ w'.cell? ⟨(ae.add (i * 4)).block, (ae.add (i * 4)).off + 3, none⟩ = some (.slice B5 y3.length d5)))
              (first | go_keep) (fail)
            all_goals
              go_wp2_with fail
              go_meet
            · exact ⟨_, _, rfl, rfl, Nat.le_refl _, by omega, (two_boxes _ _ _).1, (two_boxes _ _ _).2.1, (two_boxes _ _ _).2.2⟩
            · exact ⟨_, _, rfl, rfl, by omega, Nat.le_refl _, (two_boxes _ _ _).2.1, (two_boxes _ _ _).1, (two_boxes _ _ _).2.2⟩
          case rest =>
            obtain ⟨p, q, rfl, rfl, hpp, hqq, hp, hq, hB⟩ := hcut
            obtain ⟨s0, s1, s2, s3⟩ := cells4 hp
            obtain ⟨t0, t1, t2, t3⟩ := cells4 hq
            have S4 : Hid _ := hS.below hB
            have G4 : Hid (X.grownBy wc (some tb)) := hg.trans (grown_of_below hB (some tb))
            have W4 : Hid (Below W0.heap.size W0 wc) := hW.trans (hB.mono hW.size)
            have T4 : Hid _ := hT
            have hV := HV.out
            clear hB hp hq hS hT hW hg p0 p1 p2 q0 q1 q2 g0 g1 g2 g3 k0 k1 k2 k3 p3 q3 HV
            by_cases hi : i = 0
            · have hi2 : ((i : Int) == 0) = true := beq_iff_eq.mpr (by omega)
              have hi3 : ((i : Int) == 1) = false := beq_eq_false_iff_ne.mpr (by omega)
              have hi4 : decide (i = 1) = false := decide_eq_false (by omega)
              by_cases hx1 : x0 = 1
              · subst hx1
                rw [if_pos ⟨hi, by trivial, .inl rfl⟩] at hV
                clear hi
                have EQ : Hid _ := Equal_any ⟨1, x1, x2, x3⟩ ⟨y0, y1, y2, y3⟩ A5 B5 c5 d5 wc (Kd.C_below G5.out W4.out) g4 (Kd.C_below K5.out W4.out) k4 SX.out SY.out
                obtain ⟨eq, heq⟩ : ∃ eq, eq = eqM ⟨1, x1, x2, x3⟩ ⟨y0, y1, y2, y3⟩ := ⟨_, rfl⟩
                rw [← heq] at hV EQ
                clear heq
                cases eq with
                | true =>
                  simp only [if_true] at hV
                  have HV9 : Hid _ := hV
                  clear hV
                  go_wp2_with fail
                  refine Calls.mono EQ.out ?_
                  rintro e w6 ⟨rfl, B6⟩
                  have S6 : Hid _ := S4.out.below B6
                  have G6 : Hid _ := G4.out.trans (grown_of_below B6 (some tb))
                  clear B6
                  go_wp2_with fail
                  go_roundg g
                  case measure => omega
                  case rel => exact ⟨i + 1, mt2, mtv2, by go_num, by omega, by omega, G6.out, S6.out, T4.out, HV9.out⟩
                | false =>
                  simp only [Bool.false_eq_true, if_false, Option.some.injEq] at hV
                  subst hV
                  go_wp2_with fail
                  refine Calls.mono EQ.out ?_
                  rintro e w6 ⟨rfl, B6⟩
                  have G6 : Hid _ := HXG.out.trans (G4.out.trans (grown_of_below B6 (some tb)))
                  clear B6
                  go_wp2_with fail
                  exact ⟨rfl, rfl, G6.out⟩
              · have bx : (x0 == 1) = false := beq_eq_false_iff_ne.mpr hx1
                by_cases hy1 : y0 = 1
                · subst hy1
                  rw [if_pos ⟨hi, by trivial, .inr rfl⟩] at hV
                  clear hi
                  have EQ : Hid _ := Equal_any ⟨x0, x1, x2, x3⟩ ⟨1, y1, y2, y3⟩ A5 B5 c5 d5 wc (Kd.C_below G5.out W4.out) g4 (Kd.C_below K5.out W4.out) k4 SX.out SY.out
                  obtain ⟨eq, heq⟩ : ∃ eq, eq = eqM ⟨x0, x1, x2, x3⟩ ⟨1, y1, y2, y3⟩ := ⟨_, rfl⟩
                  rw [← heq] at hV EQ
                  clear heq
                  cases eq with
                  | true =>
                    simp only [if_true] at hV
                    have HV9 : Hid _ := hV
                    clear hV
                    go_wp2_with fail
                    refine Calls.mono EQ.out ?_
                    rintro e w6 ⟨rfl, B6⟩
                    have S6 : Hid _ := S4.out.below B6
                    have G6 : Hid _ := G4.out.trans (grown_of_below B6 (some tb))
                    clear B6
                    go_wp2_with fail
                    go_roundg g
                    case measure => omega
                    case rel => exact ⟨i + 1, mt2, mtv2, by go_num, by omega, by omega, G6.out, S6.out, T4.out, HV9.out⟩
                  | false =>
                    simp only [Bool.false_eq_true, if_false, Option.some.injEq] at hV
                    subst hV
                    go_wp2_with fail
                    refine Calls.mono EQ.out ?_
                    rintro e w6 ⟨rfl, B6⟩
                    have G6 : Hid _ := HXG.out.trans (G4.out.trans (grown_of_below B6 (some tb)))
                    clear B6
                    go_wp2_with fail
                    exact ⟨rfl, rfl, G6.out⟩
                · have by1 : (y0 == 1) = false := beq_eq_false_iff_ne.mpr hy1
                  rw [if_neg (fun h => h.2.2.elim hx1 hy1)] at hV
                  clear hi hx1 hy1
                  rw [show (false && decide (i = 1) && (x0 == 3) && (y0 == 3)) = false by rw [hi4]; simp] at hV
                  cases hq1 : unifyM vs n mt2 ⟨x0, x1, x2, x3⟩ ⟨y0, y1, y2, y3⟩ false with
                  | none => rw [hq1] at hV; cases hV
                  | some R1 =>
                    rw [hq1] at hV
                    have UU : Hid _ := HUU.out W0 wc base sp vb tb mt2 mtv2 ⟨x0, x1, x2, x3⟩ ⟨y0, y1, y2, y3⟩ false A5 B5 c5 d5 R1 S4.out T4.out W4.out hb G5.out g4 SX.out K5.out k4 SY.out hq1
                    clear hq1
                    go_wp2_with fail
                    refine Calls.mono UU.out ?_
                    rintro e w6 h6
                    cases R1 with
                    | stop e1 =>
                      obtain ⟨rfl, h7⟩ := h6
                      simp only [Option.some.injEq] at hV
                      subst hV
                      have H7 : Hid _ := HXG.out.trans (G4.out.trans h7)
                      clear h7
                      go_wp2_with fail
                      exact ⟨rfl, rfl, H7.out⟩
                    | ok mt3 =>
                      obtain ⟨rfl, h7, mtv3, h8, h9⟩ := h6
                      have H7 : Hid _ := G4.out.trans h7
                      have H8 : Hid _ := h8
                      have H9 : Hid _ := h9
                      have HV9 : Hid _ := hV
                      clear h7 h8 h9 hV
                      go_wp2_with fail
                      go_roundg g
                      case measure => omega
                      case rel => exact ⟨i + 1, mt3, mtv3, by go_num, by omega, by omega, H7.out, H8.out, H9.out, HV9.out⟩
            · have hi2 : ((i : Int) == 0) = false := beq_eq_false_iff_ne.mpr (by omega)
              rw [if_neg (fun h => hi h.1)] at hV
              clear hi
              rw [show (false && decide (i = 1) && (x0 == 3) && (y0 == 3)) = false from rfl] at hV
              cases hq1 : unifyM vs n mt2 ⟨x0, x1, x2, x3⟩ ⟨y0, y1, y2, y3⟩ false with
              | none => rw [hq1] at hV; cases hV
              | some R1 =>
                rw [hq1] at hV
                have UU : Hid _ := HUU.out W0 wc base sp vb tb mt2 mtv2 ⟨x0, x1, x2, x3⟩ ⟨y0, y1, y2, y3⟩ false A5 B5 c5 d5 R1 S4.out T4.out W4.out hb G5.out g4 SX.out K5.out k4 SY.out hq1
                clear hq1
                go_wp2_with fail
                refine Calls.mono UU.out ?_
                rintro e w6 h6
                cases R1 with
                | stop e1 =>
                  obtain ⟨rfl, h7⟩ := h6
                  simp only [Option.some.injEq] at hV
                  subst hV
                  have H7 : Hid _ := HXG.out.trans (G4.out.trans h7)
                  clear h7
                  go_wp2_with fail
                  exact ⟨rfl, rfl, H7.out⟩
                | ok mt3 =>
                  obtain ⟨rfl, h7, mtv3, h8, h9⟩ := h6
                  have H7 : Hid _ := G4.out.trans h7
                  have H8 : Hid _ := h8
                  have H9 : Hid _ := h9
                  have HV9 : Hid _ := hV
                  clear h7 h8 h9 hV
                  go_wp2_with fail
                  go_roundg g
                  case measure => omega
                  case rel => exact ⟨i + 1, mt3, mtv3, by go_num, by omega, by omega, H7.out, H8.out, H9.out, HV9.out⟩
        · clear hb1 hb2'
          have hV2 : (if la.length = lb.length then some (URes.ok mt2) else some (.stop 8)) = some R := by rw [listsL_end (by right; exact List.drop_eq_nil_of_le (by omega))] at hV; exact hV
          have G9 : Hid _ := HXG.out.trans hg
          have S9 : Hid _ := hS
          have T9 : Hid _ := hT
          have emin : min (la.length : Int) (lb.length : Int) = ((min la.length lb.length : Nat) : Int) := by omega
          have elt : decide (i < min la.length lb.length) = false := decide_eq_false (by omega)
          have ele : min la.length lb.length ≤ i := by omega
          clear hV hg hS hT
          by_cases hll : la.length = lb.length
          · exact absurd hll (by omega)
          · rw [if_neg hll] at hV2
            obtain rfl := Option.some.inj hV2
            have en : ((la.length : Int) != (lb.length : Int)) = true := bne_iff_ne.mpr (by omega)
            clear hV2
            go_wp2_with fail
            exact ⟨rfl, rfl, G9.out⟩
      · clear hb1 hb2'
        have hV2 : (if la.length = lb.length then some (URes.ok mt2) else some (.stop 8)) = some R := by rw [listsL_end (by left; exact List.drop_eq_nil_of_le (by omega))] at hV; exact hV
        have G9 : Hid _ := HXG.out.trans hg
        have S9 : Hid _ := hS
        have T9 : Hid _ := hT
        have emin : min (la.length : Int) (lb.length : Int) = ((min la.length lb.length : Nat) : Int) := by omega
        have elt : decide (i < min la.length lb.length) = false := decide_eq_false (by omega)
        have ele : min la.length lb.length ≤ i := by omega
        clear hV hg hS hT
        by_cases hll : la.length = lb.length
        · rw [if_pos hll] at hV2
          obtain rfl := Option.some.inj hV2
          have en : ((la.length : Int) != (lb.length : Int)) = false := bne_eq_false_iff_eq.mpr (by omega)
          clear hV2
          go_wp2_with fail
          go_end0
          exact ⟨rfl, G9.out, mtv2, S9.out, T9.out⟩
        · rw [if_neg hll] at hV2
          obtain rfl := Option.some.inj hV2
          have en : ((la.length : Int) != (lb.length : Int)) = true := bne_iff_ne.mpr (by omega)
          clear hV2
          go_wp2_with fail
          exact ⟨rfl, rfl, G9.out⟩
  | true =>
    cases fb with
    | false =>
      simp only [Bool.true_and] at hk
      have HK : Hid _ := hk
      clear hk
      go_enter Tryz.func97, Tryz.ntmps97
      go_wp2_with fail
      refine (Head_any a0 a1 a2 c _ (Kd.C_below HA.out HXW0.out)).mono ?_
      rintro e w4 ⟨rfl, B4⟩
      have hy1 := (B4.block _ (Array.getElem?_eq_some_iff.1 HX01.out).1).trans HX01.out
      have hy2 := (B4.block _ (Array.getElem?_eq_some_iff.1 HX02.out).1).trans HX02.out
      obtain ⟨p0, p1, p2, p3⟩ := cells4 hy1
      obtain ⟨q0, q1, q2, q3⟩ := cells4 hy2
      go_wp2_with fail
      refine (Head_any b0 b1 b2 d _ (Kd.C_below (Kd.C_below HBB.out HXW0.out) B4)).mono ?_
      rintro e X ⟨rfl, B5⟩
      have B6 := B4.trans (B5.mono B4.size)
      clear p0 p1 p2 p3 q0 q1 q2 q3 hy1 hy2
      have hx1 : X.heap[w.heap.size]? = _ := (B6.block _ (Array.getElem?_eq_some_iff.1 HX01.out).1).trans HX01.out
      have hx2 : X.heap[w.heap.size + 1]? = _ := (B6.block _ (Array.getElem?_eq_some_iff.1 HX02.out).1).trans HX02.out
      have hxb : Below w.heap.size w X := HXB0.out.trans (B6.mono HXB0.out.size)
      have SLX : SolvAt base X sp vb tb (varsV vs) mtv := HS.out.below hxb
      have start : Hid (LiRel W0 X base sp vb tb vs (unifyM vs n) false false la lb R la.length (.int .i64 ((0 : Nat) : Int)) X) := ⟨0, mt, mtv, rfl, rfl, Nat.zero_le _, ⟨rfl, rfl, rfl, Nat.le_refl _, fun _ _ _ => rfl⟩, SLX, HT.out, HK.out⟩
      have htb : tb < w.heap.size := HS.out.tos.lt
      have hsb := HS.out.bt
      obtain ⟨p0, p1, p2, p3⟩ := cells4 hx1
      obtain ⟨q0, q1, q2, q3⟩ := cells4 hx2
      have HX1 : Hid _ := hx1
      have HX2 : Hid _ := hx2
      have HXW : Hid _ := (HWW.out.trans (hxb.mono HWW.out.size) : Below W0.heap.size W0 X)
      have HXG : Hid (w.grownBy X (some tb)) := grown_of_below hxb (some tb)
      clear hx1 hx2 hxb SLX B4 B5 B6
      go_wp2_with fail
      clear p0 p1 p2 p3 q0 q1 q2 q3
      go_loopg [9] la.length (fun k x9 wr => LiRel W0 X base sp vb tb vs (unifyM vs n) false false la lb R k x9 wr)
      case atStart => exact start.out
      case round =>
        clear start
        obtain ⟨i, mt2, mtv2, rfl, hki, hil, hg, hS, hT, hV⟩ := hrel
        have hb1 := (hg.block _ (Array.getElem?_eq_some_iff.1 HX1.out).1 (by simp; omega)).trans HX1.out
        have hb2' := (hg.block _ (Array.getElem?_eq_some_iff.1 HX2.out).1 (by simp; omega)).trans HX2.out
        obtain ⟨p0, p1, p2, p3⟩ := cells4 hb1
        obtain ⟨q0, q1, q2, q3⟩ := cells4 hb2'
        have hW := pw_below_grown HXW.out (some tb) HXW.out.size hg (fun k hk => by cases hk; omega)
        by_cases hla : i < la.length
        · by_cases hlb : i < lb.length
          · obtain ⟨g, rfl⟩ : ∃ g, gk = g + 1 := ⟨gk - 1, by omega⟩
            obtain ⟨x, hx⟩ : ∃ x, la[i]? = some x := ⟨la[i], by simp [hla]⟩
            obtain ⟨y, hy⟩ : ∃ y, lb[i]? = some y := ⟨lb[i], by simp [hlb]⟩
            obtain ⟨ad, A5, c5, rfl, g0, g1, g2, g3, g4, g5⟩ := row_at HA.out hla hx
            obtain ⟨ae, B5, d5, rfl, k0, k1, k2, k3, k4, k5⟩ := row_at HBB.out hlb hy
            replace g0 := pw_cell_below hW g0
            replace g1 := pw_cell_below hW g1
            replace g2 := pw_cell_below hW g2
            replace g3 := pw_cell_below hW g3
            replace k0 := pw_cell_below hW k0
            replace k1 := pw_cell_below hW k1
            replace k2 := pw_cell_below hW k2
            replace k3 := pw_cell_below hW k3
            have emin : min (la.length : Int) (lb.length : Int) = ((min la.length lb.length : Nat) : Int) := by omega
            have elt : decide (i < min la.length lb.length) = true := decide_eq_true (by omega)
            rw [drop_at3 hx, drop_at3 hy] at hV
            simp only [listsL] at hV
            have SX : Hid (wid x < 9000000) := by have := wid_mem (List.mem_of_getElem? hx); exact (by omega : wid x < 9000000)
            have SY : Hid (wid y < 9000000) := by have := wid_mem (List.mem_of_getElem? hy); exact (by omega : wid y < 9000000)
            have G5 : Hid _ := g5
            have K5 : Hid _ := k5
            have HV : Hid _ := hV
            clear g5 k5 hV hx hy hb1 hb2'
            obtain ⟨x0, x1, x2, x3⟩ := x
            obtain ⟨y0, y1, y2, y3⟩ := y
            go_upto_region 5 with fail
            go_cut [10, 11] from 36 to 45 (fun x10 x11 wx => ∃ p q, x10 = .pointer (some ⟨p, 0, none⟩) ∧ x11 = .pointer (some ⟨q, 0, none⟩) ∧ wr.heap.size ≤ p ∧ wr.heap.size ≤ q ∧
                wx.heap[p]? = some (.cells #[.int .i64 x0, .int .i64 x1, .string x2, .slice A5 x3.length c5] 24 (0, 0)) ∧ wx.heap[q]? = some (.cells #[.int .i64 y0, .int .i64 y1, .string y2, .slice B5 y3.length d5] 24 (0, 0)) ∧ Below wr.heap.size wr wx)
            case first =>
              go_region_held3 (fun w' => (w'.cell? ⟨w.heap.size, 3, none⟩ = some (.slice (some ad) la.length c) ∧ w'.cell? ⟨w.heap.size + 1, 3, none⟩ = some (.slice (some ae) lb.length d)) ∧
                  (w'.cell? (ad.add (i * 4)) = some (.int .i64 x0) ∧ w'.cell? ⟨(ad.add (i * 4)).block, (ad.add (i * 4)).off + 1, none⟩ = some (.int .i64 x1) ∧ w'.cell? ⟨(ad.add (i * 4)).block, (ad.add (i * 4)).off + 2, none⟩ = some (.string x2) ∧ w'.cell? ⟨(ad.add (i * 4)).block, (ad.add (i * 4)).off + 3, none⟩ = some (.slice A5 x3.length c5)) ∧
                  (w'.cell? (ae.add (i * 4)) = some (.int .i64 y0) ∧ w'.cell? ⟨(ae.add (i * 4)).block, (ae.add (i * 4)).off + 1, none⟩ = some (.int .i64 y1) ∧ w'.cell? ⟨(ae.add (i * 4)).block, (ae.add (i * 4)).off + 2, none⟩ = some (.string y2) ∧ w'.cell? ⟨(ae.add (i * 4)).block, (ae.add (i * 4)).off + 3, none⟩ = some (.slice B5 y3.length d5)))
                (first | go_keep) (fail)
              all_goals
                go_wp2_with fail
                go_meet
              · exact ⟨_, _, rfl, rfl, Nat.le_refl _, by omega, (two_boxes _ _ _).1, (two_boxes _ _ _).2.1, (two_boxes _ _ _).2.2⟩
              · exact ⟨_, _, rfl, rfl, by omega, Nat.le_refl _, (two_boxes _ _ _).2.1, (two_boxes _ _ _).1, (two_boxes _ _ _).2.2⟩
            case rest =>
              obtain ⟨p, q, rfl, rfl, hpp, hqq, hp, hq, hB⟩ := hcut
              obtain ⟨s0, s1, s2, s3⟩ := cells4 hp
              obtain ⟨t0, t1, t2, t3⟩ := cells4 hq
              have S4 : Hid _ := hS.below hB
              have G4 : Hid (X.grownBy wc (some tb)) := hg.trans (grown_of_below hB (some tb))
              have W4 : Hid (Below W0.heap.size W0 wc) := hW.trans (hB.mono hW.size)
              have T4 : Hid _ := hT
              have hV := HV.out
              clear hB hp hq hS hT hW hg p0 p1 p2 q0 q1 q2 g0 g1 g2 g3 k0 k1 k2 k3 p3 q3 HV
              by_cases hi : i = 0
              · have hi2 : ((i : Int) == 0) = true := beq_iff_eq.mpr (by omega)
                have hi3 : ((i : Int) == 1) = false := beq_eq_false_iff_ne.mpr (by omega)
                have hi4 : decide (i = 1) = false := decide_eq_false (by omega)
                by_cases hx1 : x0 = 1
                · subst hx1
                  rw [if_pos ⟨hi, by trivial, .inl rfl⟩] at hV
                  clear hi
                  have EQ : Hid _ := Equal_any ⟨1, x1, x2, x3⟩ ⟨y0, y1, y2, y3⟩ A5 B5 c5 d5 wc (Kd.C_below G5.out W4.out) g4 (Kd.C_below K5.out W4.out) k4 SX.out SY.out
                  obtain ⟨eq, heq⟩ : ∃ eq, eq = eqM ⟨1, x1, x2, x3⟩ ⟨y0, y1, y2, y3⟩ := ⟨_, rfl⟩
                  rw [← heq] at hV EQ
                  clear heq
                  cases eq with
                  | true =>
                    simp only [if_true] at hV
                    have HV9 : Hid _ := hV
                    clear hV
                    go_wp2_with fail
                    refine Calls.mono EQ.out ?_
                    rintro e w6 ⟨rfl, B6⟩
                    have S6 : Hid _ := S4.out.below B6
                    have G6 : Hid _ := G4.out.trans (grown_of_below B6 (some tb))
                    clear B6
                    go_wp2_with fail
                    go_roundg g
                    case measure => omega
                    case rel => exact ⟨i + 1, mt2, mtv2, by go_num, by omega, by omega, G6.out, S6.out, T4.out, HV9.out⟩
                  | false =>
                    simp only [Bool.false_eq_true, if_false, Option.some.injEq] at hV
                    subst hV
                    go_wp2_with fail
                    refine Calls.mono EQ.out ?_
                    rintro e w6 ⟨rfl, B6⟩
                    have G6 : Hid _ := HXG.out.trans (G4.out.trans (grown_of_below B6 (some tb)))
                    clear B6
                    go_wp2_with fail
                    exact ⟨rfl, rfl, G6.out⟩
                · have bx : (x0 == 1) = false := beq_eq_false_iff_ne.mpr hx1
                  by_cases hy1 : y0 = 1
                  · subst hy1
                    rw [if_pos ⟨hi, by trivial, .inr rfl⟩] at hV
                    clear hi
                    have EQ : Hid _ := Equal_any ⟨x0, x1, x2, x3⟩ ⟨1, y1, y2, y3⟩ A5 B5 c5 d5 wc (Kd.C_below G5.out W4.out) g4 (Kd.C_below K5.out W4.out) k4 SX.out SY.out
                    obtain ⟨eq, heq⟩ : ∃ eq, eq = eqM ⟨x0, x1, x2, x3⟩ ⟨1, y1, y2, y3⟩ := ⟨_, rfl⟩
                    rw [← heq] at hV EQ
                    clear heq
                    cases eq with
                    | true =>
                      simp only [if_true] at hV
                      have HV9 : Hid _ := hV
                      clear hV
                      go_wp2_with fail
                      refine Calls.mono EQ.out ?_
                      rintro e w6 ⟨rfl, B6⟩
                      have S6 : Hid _ := S4.out.below B6
                      have G6 : Hid _ := G4.out.trans (grown_of_below B6 (some tb))
                      clear B6
                      go_wp2_with fail
                      go_roundg g
                      case measure => omega
                      case rel => exact ⟨i + 1, mt2, mtv2, by go_num, by omega, by omega, G6.out, S6.out, T4.out, HV9.out⟩
                    | false =>
                      simp only [Bool.false_eq_true, if_false, Option.some.injEq] at hV
                      subst hV
                      go_wp2_with fail
                      refine Calls.mono EQ.out ?_
                      rintro e w6 ⟨rfl, B6⟩
                      have G6 : Hid _ := HXG.out.trans (G4.out.trans (grown_of_below B6 (some tb)))
                      clear B6
                      go_wp2_with fail
                      exact ⟨rfl, rfl, G6.out⟩
                  · have by1 : (y0 == 1) = false := beq_eq_false_iff_ne.mpr hy1
                    rw [if_neg (fun h => h.2.2.elim hx1 hy1)] at hV
                    clear hi hx1 hy1
                    rw [show (false && decide (i = 1) && (x0 == 3) && (y0 == 3)) = false by rw [hi4]; simp] at hV
                    cases hq1 : unifyM vs n mt2 ⟨x0, x1, x2, x3⟩ ⟨y0, y1, y2, y3⟩ false with
                    | none => rw [hq1] at hV; cases hV
                    | some R1 =>
                      rw [hq1] at hV
                      have UU : Hid _ := HUU.out W0 wc base sp vb tb mt2 mtv2 ⟨x0, x1, x2, x3⟩ ⟨y0, y1, y2, y3⟩ false A5 B5 c5 d5 R1 S4.out T4.out W4.out hb G5.out g4 SX.out K5.out k4 SY.out hq1
                      clear hq1
                      go_wp2_with fail
                      refine Calls.mono UU.out ?_
                      rintro e w6 h6
                      cases R1 with
                      | stop e1 =>
                        obtain ⟨rfl, h7⟩ := h6
                        simp only [Option.some.injEq] at hV
                        subst hV
                        have H7 : Hid _ := HXG.out.trans (G4.out.trans h7)
                        clear h7
                        go_wp2_with fail
                        exact ⟨rfl, rfl, H7.out⟩
                      | ok mt3 =>
                        obtain ⟨rfl, h7, mtv3, h8, h9⟩ := h6
                        have H7 : Hid _ := G4.out.trans h7
                        have H8 : Hid _ := h8
                        have H9 : Hid _ := h9
                        have HV9 : Hid _ := hV
                        clear h7 h8 h9 hV
                        go_wp2_with fail
                        go_roundg g
                        case measure => omega
                        case rel => exact ⟨i + 1, mt3, mtv3, by go_num, by omega, by omega, H7.out, H8.out, H9.out, HV9.out⟩
              · have hi2 : ((i : Int) == 0) = false := beq_eq_false_iff_ne.mpr (by omega)
                rw [if_neg (fun h => hi h.1)] at hV
                clear hi
                rw [show (false && decide (i = 1) && (x0 == 3) && (y0 == 3)) = false from rfl] at hV
                cases hq1 : unifyM vs n mt2 ⟨x0, x1, x2, x3⟩ ⟨y0, y1, y2, y3⟩ false with
                | none => rw [hq1] at hV; cases hV
                | some R1 =>
                  rw [hq1] at hV
                  have UU : Hid _ := HUU.out W0 wc base sp vb tb mt2 mtv2 ⟨x0, x1, x2, x3⟩ ⟨y0, y1, y2, y3⟩ false A5 B5 c5 d5 R1 S4.out T4.out W4.out hb G5.out g4 SX.out K5.out k4 SY.out hq1
                  clear hq1
                  go_wp2_with fail
                  refine Calls.mono UU.out ?_
                  rintro e w6 h6
                  cases R1 with
                  | stop e1 =>
                    obtain ⟨rfl, h7⟩ := h6
                    simp only [Option.some.injEq] at hV
                    subst hV
                    have H7 : Hid _ := HXG.out.trans (G4.out.trans h7)
                    clear h7
                    go_wp2_with fail
                    exact ⟨rfl, rfl, H7.out⟩
                  | ok mt3 =>
                    obtain ⟨rfl, h7, mtv3, h8, h9⟩ := h6
                    have H7 : Hid _ := G4.out.trans h7
                    have H8 : Hid _ := h8
                    have H9 : Hid _ := h9
                    have HV9 : Hid _ := hV
                    clear h7 h8 h9 hV
                    go_wp2_with fail
                    go_roundg g
                    case measure => omega
                    case rel => exact ⟨i + 1, mt3, mtv3, by go_num, by omega, by omega, H7.out, H8.out, H9.out, HV9.out⟩
          · clear hb1 hb2'
            have hV2 : (if la.length = lb.length then some (URes.ok mt2) else some (.stop 8)) = some R := by rw [listsL_end (by right; exact List.drop_eq_nil_of_le (by omega))] at hV; exact hV
            have G9 : Hid _ := HXG.out.trans hg
            have S9 : Hid _ := hS
            have T9 : Hid _ := hT
            have emin : min (la.length : Int) (lb.length : Int) = ((min la.length lb.length : Nat) : Int) := by omega
            have elt : decide (i < min la.length lb.length) = false := decide_eq_false (by omega)
            have ele : min la.length lb.length ≤ i := by omega
            clear hV hg hS hT
            by_cases hll : la.length = lb.length
            · exact absurd hll (by omega)
            · rw [if_neg hll] at hV2
              obtain rfl := Option.some.inj hV2
              have en : ((la.length : Int) != (lb.length : Int)) = true := bne_iff_ne.mpr (by omega)
              clear hV2
              go_wp2_with fail
              exact ⟨rfl, rfl, G9.out⟩
        · clear hb1 hb2'
          have hV2 : (if la.length = lb.length then some (URes.ok mt2) else some (.stop 8)) = some R := by rw [listsL_end (by left; exact List.drop_eq_nil_of_le (by omega))] at hV; exact hV
          have G9 : Hid _ := HXG.out.trans hg
          have S9 : Hid _ := hS
          have T9 : Hid _ := hT
          have emin : min (la.length : Int) (lb.length : Int) = ((min la.length lb.length : Nat) : Int) := by omega
          have elt : decide (i < min la.length lb.length) = false := decide_eq_false (by omega)
          have ele : min la.length lb.length ≤ i := by omega
          clear hV hg hS hT
          by_cases hll : la.length = lb.length
          · rw [if_pos hll] at hV2
            obtain rfl := Option.some.inj hV2
            have en : ((la.length : Int) != (lb.length : Int)) = false := bne_eq_false_iff_eq.mpr (by omega)
            clear hV2
            go_wp2_with fail
            go_end0
            exact ⟨rfl, G9.out, mtv2, S9.out, T9.out⟩
          · rw [if_neg hll] at hV2
            obtain rfl := Option.some.inj hV2
            have en : ((la.length : Int) != (lb.length : Int)) = true := bne_iff_ne.mpr (by omega)
            clear hV2
            go_wp2_with fail
            exact ⟨rfl, rfl, G9.out⟩
    | true =>
      simp only [Bool.true_and] at hk
      have HK : Hid _ := hk
      clear hk
      go_enter Tryz.func97, Tryz.ntmps97
      go_wp2_with fail
      refine (Head_any a0 a1 a2 c _ (Kd.C_below HA.out HXW0.out)).mono ?_
      rintro e w4 ⟨rfl, B4⟩
      have hy1 := (B4.block _ (Array.getElem?_eq_some_iff.1 HX01.out).1).trans HX01.out
      have hy2 := (B4.block _ (Array.getElem?_eq_some_iff.1 HX02.out).1).trans HX02.out
      obtain ⟨p0, p1, p2, p3⟩ := cells4 hy1
      obtain ⟨q0, q1, q2, q3⟩ := cells4 hy2
      go_wp2_with fail
      refine (Head_any b0 b1 b2 d _ (Kd.C_below (Kd.C_below HBB.out HXW0.out) B4)).mono ?_
      rintro e X ⟨rfl, B5⟩
      have B6 := B4.trans (B5.mono B4.size)
      clear p0 p1 p2 p3 q0 q1 q2 q3 hy1 hy2
      have hx1 : X.heap[w.heap.size]? = _ := (B6.block _ (Array.getElem?_eq_some_iff.1 HX01.out).1).trans HX01.out
      have hx2 : X.heap[w.heap.size + 1]? = _ := (B6.block _ (Array.getElem?_eq_some_iff.1 HX02.out).1).trans HX02.out
      have hxb : Below w.heap.size w X := HXB0.out.trans (B6.mono HXB0.out.size)
      have SLX : SolvAt base X sp vb tb (varsV vs) mtv := HS.out.below hxb
      have start : Hid (LiRel W0 X base sp vb tb vs (unifyM vs n) true false la lb R la.length (.int .i64 ((0 : Nat) : Int)) X) := ⟨0, mt, mtv, rfl, rfl, Nat.zero_le _, ⟨rfl, rfl, rfl, Nat.le_refl _, fun _ _ _ => rfl⟩, SLX, HT.out, HK.out⟩
      have htb : tb < w.heap.size := HS.out.tos.lt
      have hsb := HS.out.bt
      obtain ⟨p0, p1, p2, p3⟩ := cells4 hx1
      obtain ⟨q0, q1, q2, q3⟩ := cells4 hx2
      have HX1 : Hid _ := hx1
      have HX2 : Hid _ := hx2
      have HXW : Hid _ := (HWW.out.trans (hxb.mono HWW.out.size) : Below W0.heap.size W0 X)
      have HXG : Hid (w.grownBy X (some tb)) := grown_of_below hxb (some tb)
      clear hx1 hx2 hxb SLX B4 B5 B6
      go_wp2_with fail
      clear p0 p1 p2 p3 q0 q1 q2 q3
      go_loopg [9] la.length (fun k x9 wr => LiRel W0 X base sp vb tb vs (unifyM vs n) true false la lb R k x9 wr)
      case atStart => exact start.out
      case round =>
        clear start
        obtain ⟨i, mt2, mtv2, rfl, hki, hil, hg, hS, hT, hV⟩ := hrel
        have hb1 := (hg.block _ (Array.getElem?_eq_some_iff.1 HX1.out).1 (by simp; omega)).trans HX1.out
        have hb2' := (hg.block _ (Array.getElem?_eq_some_iff.1 HX2.out).1 (by simp; omega)).trans HX2.out
        obtain ⟨p0, p1, p2, p3⟩ := cells4 hb1
        obtain ⟨q0, q1, q2, q3⟩ := cells4 hb2'
        have hW := pw_below_grown HXW.out (some tb) HXW.out.size hg (fun k hk => by cases hk; omega)
        by_cases hla : i < la.length
        · by_cases hlb : i < lb.length
          · obtain ⟨g, rfl⟩ : ∃ g, gk = g + 1 := ⟨gk - 1, by omega⟩
            obtain ⟨x, hx⟩ : ∃ x, la[i]? = some x := ⟨la[i], by simp [hla]⟩
            obtain ⟨y, hy⟩ : ∃ y, lb[i]? = some y := ⟨lb[i], by simp [hlb]⟩
            obtain ⟨ad, A5, c5, rfl, g0, g1, g2, g3, g4, g5⟩ := row_at HA.out hla hx
            obtain ⟨ae, B5, d5, rfl, k0, k1, k2, k3, k4, k5⟩ := row_at HBB.out hlb hy
            replace g0 := pw_cell_below hW g0
            replace g1 := pw_cell_below hW g1
            replace g2 := pw_cell_below hW g2
            replace g3 := pw_cell_below hW g3
            replace k0 := pw_cell_below hW k0
            replace k1 := pw_cell_below hW k1
            replace k2 := pw_cell_below hW k2
            replace k3 := pw_cell_below hW k3
            have emin : min (la.length : Int) (lb.length : Int) = ((min la.length lb.length : Nat) : Int) := by omega
            have elt : decide (i < min la.length lb.length) = true := decide_eq_true (by omega)
            rw [drop_at3 hx, drop_at3 hy] at hV
            simp only [listsL] at hV
            have SX : Hid (wid x < 9000000) := by have := wid_mem (List.mem_of_getElem? hx); exact (by omega : wid x < 9000000)
            have SY : Hid (wid y < 9000000) := by have := wid_mem (List.mem_of_getElem? hy); exact (by omega : wid y < 9000000)
            have G5 : Hid _ := g5
            have K5 : Hid _ := k5
            have HV : Hid _ := hV
            clear g5 k5 hV hx hy hb1 hb2'
            obtain ⟨x0, x1, x2, x3⟩ := x
            obtain ⟨y0, y1, y2, y3⟩ := y
            go_upto_region 5 with fail
            go_cut [10, 11] from 36 to 45 (fun x10 x11 wx => ∃ p q, x10 = .pointer (some ⟨p, 0, none⟩) ∧ x11 = .pointer (some ⟨q, 0, none⟩) ∧ wr.heap.size ≤ p ∧ wr.heap.size ≤ q ∧
                wx.heap[p]? = some (.cells #[.int .i64 x0, .int .i64 x1, .string x2, .slice A5 x3.length c5] 24 (0, 0)) ∧ wx.heap[q]? = some (.cells #[.int .i64 y0, .int .i64 y1, .string y2, .slice B5 y3.length d5] 24 (0, 0)) ∧ Below wr.heap.size wr wx)
            case first =>
              go_region_held3 (fun w' => (w'.cell? ⟨w.heap.size, 3, none⟩ = some (.slice (some ad) la.length c) ∧ w'.cell? ⟨w.heap.size + 1, 3, none⟩ = some (.slice (some ae) lb.length d)) ∧
                  (w'.cell? (ad.add (i * 4)) = some (.int .i64 x0) ∧ w'.cell? ⟨(ad.add (i * 4)).block, (ad.add (i * 4)).off + 1, none⟩ = some (.int .i64 x1) ∧ w'.cell? ⟨(ad.add (i * 4)).block, (ad.add (i * 4)).off + 2, none⟩ = some (.string x2) ∧ w'.cell? ⟨(ad.add (i * 4)).block, (ad.add (i * 4)).off + 3, none⟩ = some (.slice A5 x3.length c5)) ∧
                  (w'.cell? (ae.add (i * 4)) = some (.int .i64 y0) ∧ w'.cell? ⟨(ae.add (i * 4)).block, (ae.add (i * 4)).off + 1, none⟩ = some (.int .i64 y1) ∧ w'.cell? ⟨(ae.add (i * 4)).block, (ae.add (i * 4)).off + 2, none⟩ = some (.string y2) ∧ w'.cell? ⟨(ae.add (i * 4)).block, (ae.add (i * 4)).off + 3, none⟩ = some (.slice B5 y3.length d5)))
                (first | go_keep) (fail)
              all_goals
                go_wp2_with fail
                go_meet
              · exact ⟨_, _, rfl, rfl, Nat.le_refl _, by omega, (two_boxes _ _ _).1, (two_boxes _ _ _).2.1, (two_boxes _ _ _).2.2⟩
              · exact ⟨_, _, rfl, rfl, by omega, Nat.le_refl _, (two_boxes _ _ _).2.1, (two_boxes _ _ _).1, (two_boxes _ _ _).2.2⟩
            case rest =>
              obtain ⟨p, q, rfl, rfl, hpp, hqq, hp, hq, hB⟩ := hcut
              obtain ⟨s0, s1, s2, s3⟩ := cells4 hp
              obtain ⟨t0, t1, t2, t3⟩ := cells4 hq
              have S4 : Hid _ := hS.below hB
              have G4 : Hid (X.grownBy wc (some tb)) := hg.trans (grown_of_below hB (some tb))
              have W4 : Hid (Below W0.heap.size W0 wc) := hW.trans (hB.mono hW.size)
              have T4 : Hid _ := hT
              have hV := HV.out
              clear hB hp hq hS hT hW hg p0 p1 p2 q0 q1 q2 g0 g1 g2 g3 k0 k1 k2 k3 p3 q3 HV
              by_cases hi : i = 0
              · have hi2 : ((i : Int) == 0) = true := beq_iff_eq.mpr (by omega)
                have hi3 : ((i : Int) == 1) = false := beq_eq_false_iff_ne.mpr (by omega)
                have hi4 : decide (i = 1) = false := decide_eq_false (by omega)
                by_cases hx1 : x0 = 1
                · subst hx1
                  rw [if_pos ⟨hi, by trivial, .inl rfl⟩] at hV
                  clear hi
                  have EQ : Hid _ := Equal_any ⟨1, x1, x2, x3⟩ ⟨y0, y1, y2, y3⟩ A5 B5 c5 d5 wc (Kd.C_below G5.out W4.out) g4 (Kd.C_below K5.out W4.out) k4 SX.out SY.out
                  obtain ⟨eq, heq⟩ : ∃ eq, eq = eqM ⟨1, x1, x2, x3⟩ ⟨y0, y1, y2, y3⟩ := ⟨_, rfl⟩
                  rw [← heq] at hV EQ
                  clear heq
                  cases eq with
                  | true =>
                    simp only [if_true] at hV
                    have HV9 : Hid _ := hV
                    clear hV
                    go_wp2_with fail
                    refine Calls.mono EQ.out ?_
                    rintro e w6 ⟨rfl, B6⟩
                    have S6 : Hid _ := S4.out.below B6
                    have G6 : Hid _ := G4.out.trans (grown_of_below B6 (some tb))
                    clear B6
                    go_wp2_with fail
                    go_roundg g
                    case measure => omega
                    case rel => exact ⟨i + 1, mt2, mtv2, by go_num, by omega, by omega, G6.out, S6.out, T4.out, HV9.out⟩
                  | false =>
                    simp only [Bool.false_eq_true, if_false, Option.some.injEq] at hV
                    subst hV
                    go_wp2_with fail
                    refine Calls.mono EQ.out ?_
                    rintro e w6 ⟨rfl, B6⟩
                    have G6 : Hid _ := HXG.out.trans (G4.out.trans (grown_of_below B6 (some tb)))
                    clear B6
                    go_wp2_with fail
                    exact ⟨rfl, rfl, G6.out⟩
                · have bx : (x0 == 1) = false := beq_eq_false_iff_ne.mpr hx1
                  by_cases hy1 : y0 = 1
                  · subst hy1
                    rw [if_pos ⟨hi, by trivial, .inr rfl⟩] at hV
                    clear hi
                    have EQ : Hid _ := Equal_any ⟨x0, x1, x2, x3⟩ ⟨1, y1, y2, y3⟩ A5 B5 c5 d5 wc (Kd.C_below G5.out W4.out) g4 (Kd.C_below K5.out W4.out) k4 SX.out SY.out
                    obtain ⟨eq, heq⟩ : ∃ eq, eq = eqM ⟨x0, x1, x2, x3⟩ ⟨1, y1, y2, y3⟩ := ⟨_, rfl⟩
                    rw [← heq] at hV EQ
                    clear heq
                    cases eq with
                    | true =>
                      simp only [if_true] at hV
                      have HV9 : Hid _ := hV
                      clear hV
                      go_wp2_with fail
                      refine Calls.mono EQ.out ?_
                      rintro e w6 ⟨rfl, B6⟩
                      have S6 : Hid _ := S4.out.below B6
                      have G6 : Hid _ := G4.out.trans (grown_of_below B6 (some tb))
                      clear B6
                      go_wp2_with fail
                      go_roundg g
                      case measure => omega
                      case rel => exact ⟨i + 1, mt2, mtv2, by go_num, by omega, by omega, G6.out, S6.out, T4.out, HV9.out⟩
                    | false =>
                      simp only [Bool.false_eq_true, if_false, Option.some.injEq] at hV
                      subst hV
                      go_wp2_with fail
                      refine Calls.mono EQ.out ?_
                      rintro e w6 ⟨rfl, B6⟩
                      have G6 : Hid _ := HXG.out.trans (G4.out.trans (grown_of_below B6 (some tb)))
                      clear B6
                      go_wp2_with fail
                      exact ⟨rfl, rfl, G6.out⟩
                  · have by1 : (y0 == 1) = false := beq_eq_false_iff_ne.mpr hy1
                    rw [if_neg (fun h => h.2.2.elim hx1 hy1)] at hV
                    clear hi hx1 hy1
                    rw [show (true && decide (i = 1) && (x0 == 3) && (y0 == 3)) = false by rw [hi4]; simp] at hV
                    cases hq1 : unifyM vs n mt2 ⟨x0, x1, x2, x3⟩ ⟨y0, y1, y2, y3⟩ false with
                    | none => rw [hq1] at hV; cases hV
                    | some R1 =>
                      rw [hq1] at hV
                      have UU : Hid _ := HUU.out W0 wc base sp vb tb mt2 mtv2 ⟨x0, x1, x2, x3⟩ ⟨y0, y1, y2, y3⟩ false A5 B5 c5 d5 R1 S4.out T4.out W4.out hb G5.out g4 SX.out K5.out k4 SY.out hq1
                      clear hq1
                      go_wp2_with fail
                      refine Calls.mono UU.out ?_
                      rintro e w6 h6
                      cases R1 with
                      | stop e1 =>
                        obtain ⟨rfl, h7⟩ := h6
                        simp only [Option.some.injEq] at hV
                        subst hV
                        have H7 : Hid _ := HXG.out.trans (G4.out.trans h7)
                        clear h7
                        go_wp2_with fail
                        exact ⟨rfl, rfl, H7.out⟩
                      | ok mt3 =>
                        obtain ⟨rfl, h7, mtv3, h8, h9⟩ := h6
                        have H7 : Hid _ := G4.out.trans h7
                        have H8 : Hid _ := h8
                        have H9 : Hid _ := h9
                        have HV9 : Hid _ := hV
                        clear h7 h8 h9 hV
                        go_wp2_with fail
                        go_roundg g
                        case measure => omega
                        case rel => exact ⟨i + 1, mt3, mtv3, by go_num, by omega, by omega, H7.out, H8.out, H9.out, HV9.out⟩
              · have hi2 : ((i : Int) == 0) = false := beq_eq_false_iff_ne.mpr (by omega)
                rw [if_neg (fun h => hi h.1)] at hV
                clear hi
                by_cases hi1 : i = 1
                · have hi3 : ((i : Int) == 1) = true := beq_iff_eq.mpr (by omega)
                  have hi4 : decide (i = 1) = true := decide_eq_true hi1
                  clear hi1
                  by_cases hx3 : x0 = 3
                  · subst hx3
                    by_cases hy3 : y0 = 3
                    · subst hy3
                      rw [show (true && decide (i = 1) && ((3 : Int) == 3) && ((3 : Int) == 3)) = true by rw [hi4]; rfl] at hV
                      cases hq1 : unifyM vs n mt2 ⟨3, x1, x2, x3⟩ ⟨3, y1, y2, y3⟩ true with
                      | none => rw [hq1] at hV; cases hV
                      | some R1 =>
                        rw [hq1] at hV
                        have UU : Hid _ := HUU.out W0 wc base sp vb tb mt2 mtv2 ⟨3, x1, x2, x3⟩ ⟨3, y1, y2, y3⟩ true A5 B5 c5 d5 R1 S4.out T4.out W4.out hb G5.out g4 SX.out K5.out k4 SY.out hq1
                        clear hq1
                        go_wp2_with fail
                        refine Calls.mono UU.out ?_
                        rintro e w6 h6
                        cases R1 with
                        | stop e1 =>
                          obtain ⟨rfl, h7⟩ := h6
                          simp only [Option.some.injEq] at hV
                          subst hV
                          have H7 : Hid _ := HXG.out.trans (G4.out.trans h7)
                          clear h7
                          go_wp2_with fail
                          exact ⟨rfl, rfl, H7.out⟩
                        | ok mt3 =>
                          obtain ⟨rfl, h7, mtv3, h8, h9⟩ := h6
                          have H7 : Hid _ := G4.out.trans h7
                          have H8 : Hid _ := h8
                          have H9 : Hid _ := h9
                          have HV9 : Hid _ := hV
                          clear h7 h8 h9 hV
                          go_wp2_with fail
                          go_roundg g
                          case measure => omega
                          case rel => exact ⟨i + 1, mt3, mtv3, by go_num, by omega, by omega, H7.out, H8.out, H9.out, HV9.out⟩
                    · have by3 : (y0 == 3) = false := beq_eq_false_iff_ne.mpr hy3
                      clear hy3
                      rw [show (true && decide (i = 1) && ((3 : Int) == 3) && (y0 == 3)) = false by rw [by3]; simp] at hV
                      cases hq1 : unifyM vs n mt2 ⟨3, x1, x2, x3⟩ ⟨y0, y1, y2, y3⟩ false with
                      | none => rw [hq1] at hV; cases hV
                      | some R1 =>
                        rw [hq1] at hV
                        have UU : Hid _ := HUU.out W0 wc base sp vb tb mt2 mtv2 ⟨3, x1, x2, x3⟩ ⟨y0, y1, y2, y3⟩ false A5 B5 c5 d5 R1 S4.out T4.out W4.out hb G5.out g4 SX.out K5.out k4 SY.out hq1
                        clear hq1
                        go_wp2_with fail
                        refine Calls.mono UU.out ?_
                        rintro e w6 h6
                        cases R1 with
                        | stop e1 =>
                          obtain ⟨rfl, h7⟩ := h6
                          simp only [Option.some.injEq] at hV
                          subst hV
                          have H7 : Hid _ := HXG.out.trans (G4.out.trans h7)
                          clear h7
                          go_wp2_with fail
                          exact ⟨rfl, rfl, H7.out⟩
                        | ok mt3 =>
                          obtain ⟨rfl, h7, mtv3, h8, h9⟩ := h6
                          have H7 : Hid _ := G4.out.trans h7
                          have H8 : Hid _ := h8
                          have H9 : Hid _ := h9
                          have HV9 : Hid _ := hV
                          clear h7 h8 h9 hV
                          go_wp2_with fail
                          go_roundg g
                          case measure => omega
                          case rel => exact ⟨i + 1, mt3, mtv3, by go_num, by omega, by omega, H7.out, H8.out, H9.out, HV9.out⟩
                  · have bx3 : (x0 == 3) = false := beq_eq_false_iff_ne.mpr hx3
                    clear hx3
                    rw [show (true && decide (i = 1) && (x0 == 3) && (y0 == 3)) = false by rw [bx3]; simp] at hV
                    cases hq1 : unifyM vs n mt2 ⟨x0, x1, x2, x3⟩ ⟨y0, y1, y2, y3⟩ false with
                    | none => rw [hq1] at hV; cases hV
                    | some R1 =>
                      rw [hq1] at hV
                      have UU : Hid _ := HUU.out W0 wc base sp vb tb mt2 mtv2 ⟨x0, x1, x2, x3⟩ ⟨y0, y1, y2, y3⟩ false A5 B5 c5 d5 R1 S4.out T4.out W4.out hb G5.out g4 SX.out K5.out k4 SY.out hq1
                      clear hq1
                      go_wp2_with fail
                      refine Calls.mono UU.out ?_
                      rintro e w6 h6
                      cases R1 with
                      | stop e1 =>
                        obtain ⟨rfl, h7⟩ := h6
                        simp only [Option.some.injEq] at hV
                        subst hV
                        have H7 : Hid _ := HXG.out.trans (G4.out.trans h7)
                        clear h7
                        go_wp2_with fail
                        exact ⟨rfl, rfl, H7.out⟩
                      | ok mt3 =>
                        obtain ⟨rfl, h7, mtv3, h8, h9⟩ := h6
                        have H7 : Hid _ := G4.out.trans h7
                        have H8 : Hid _ := h8
                        have H9 : Hid _ := h9
                        have HV9 : Hid _ := hV
                        clear h7 h8 h9 hV
                        go_wp2_with fail
                        go_roundg g
                        case measure => omega
                        case rel => exact ⟨i + 1, mt3, mtv3, by go_num, by omega, by omega, H7.out, H8.out, H9.out, HV9.out⟩
                · have hi3 : ((i : Int) == 1) = false := beq_eq_false_iff_ne.mpr (by omega)
                  have hi4 : decide (i = 1) = false := decide_eq_false hi1
                  clear hi1
                  rw [show (true && decide (i = 1) && (x0 == 3) && (y0 == 3)) = false by rw [hi4]; simp] at hV
                  cases hq1 : unifyM vs n mt2 ⟨x0, x1, x2, x3⟩ ⟨y0, y1, y2, y3⟩ false with
                  | none => rw [hq1] at hV; cases hV
                  | some R1 =>
                    rw [hq1] at hV
                    have UU : Hid _ := HUU.out W0 wc base sp vb tb mt2 mtv2 ⟨x0, x1, x2, x3⟩ ⟨y0, y1, y2, y3⟩ false A5 B5 c5 d5 R1 S4.out T4.out W4.out hb G5.out g4 SX.out K5.out k4 SY.out hq1
                    clear hq1
                    go_wp2_with fail
                    refine Calls.mono UU.out ?_
                    rintro e w6 h6
                    cases R1 with
                    | stop e1 =>
                      obtain ⟨rfl, h7⟩ := h6
                      simp only [Option.some.injEq] at hV
                      subst hV
                      have H7 : Hid _ := HXG.out.trans (G4.out.trans h7)
                      clear h7
                      go_wp2_with fail
                      exact ⟨rfl, rfl, H7.out⟩
                    | ok mt3 =>
                      obtain ⟨rfl, h7, mtv3, h8, h9⟩ := h6
                      have H7 : Hid _ := G4.out.trans h7
                      have H8 : Hid _ := h8
                      have H9 : Hid _ := h9
                      have HV9 : Hid _ := hV
                      clear h7 h8 h9 hV
                      go_wp2_with fail
                      go_roundg g
                      case measure => omega
                      case rel => exact ⟨i + 1, mt3, mtv3, by go_num, by omega, by omega, H7.out, H8.out, H9.out, HV9.out⟩
          · clear hb1 hb2'
            have hV2 : (if la.length = lb.length then some (URes.ok mt2) else some (.stop 8)) = some R := by rw [listsL_end (by right; exact List.drop_eq_nil_of_le (by omega))] at hV; exact hV
            have G9 : Hid _ := HXG.out.trans hg
            have S9 : Hid _ := hS
            have T9 : Hid _ := hT
            have emin : min (la.length : Int) (lb.length : Int) = ((min la.length lb.length : Nat) : Int) := by omega
            have elt : decide (i < min la.length lb.length) = false := decide_eq_false (by omega)
            have ele : min la.length lb.length ≤ i := by omega
            clear hV hg hS hT
            by_cases hll : la.length = lb.length
            · exact absurd hll (by omega)
            · rw [if_neg hll] at hV2
              obtain rfl := Option.some.inj hV2
              have en : ((la.length : Int) != (lb.length : Int)) = true := bne_iff_ne.mpr (by omega)
              clear hV2
              go_wp2_with fail
              exact ⟨rfl, rfl, G9.out⟩
        · clear hb1 hb2'
          have hV2 : (if la.length = lb.length then some (URes.ok mt2) else some (.stop 8)) = some R := by rw [listsL_end (by left; exact List.drop_eq_nil_of_le (by omega))] at hV; exact hV
          have G9 : Hid _ := HXG.out.trans hg
          have S9 : Hid _ := hS
          have T9 : Hid _ := hT
          have emin : min (la.length : Int) (lb.length : Int) = ((min la.length lb.length : Nat) : Int) := by omega
          have elt : decide (i < min la.length lb.length) = false := decide_eq_false (by omega)
          have ele : min la.length lb.length ≤ i := by omega
          clear hV hg hS hT
          by_cases hll : la.length = lb.length
          · rw [if_pos hll] at hV2
            obtain rfl := Option.some.inj hV2
            have en : ((la.length : Int) != (lb.length : Int)) = false := bne_eq_false_iff_eq.mpr (by omega)
            clear hV2
            go_wp2_with fail
            go_end0
            exact ⟨rfl, G9.out, mtv2, S9.out, T9.out⟩
          · rw [if_neg hll] at hV2
            obtain rfl := Option.some.inj hV2
            have en : ((la.length : Int) != (lb.length : Int)) = true := bne_iff_ne.mpr (by omega)
            clear hV2
            go_wp2_with fail
            exact ⟨rfl, rfl, G9.out⟩
end Go.Proofs.YtcjmplpfebpfpaaGreatDoor

namespace Go.Proofs.YtcjmplpfebpfpaaGreatDoor
open Go.RowKit Go.Proofs Go.Proofs.YtcjmplpfebpfpaaGreatDoorW.PrintWords Go.Proofs.YtcjmplpfebpfpaaGreatDoorW.PrintLast Go.Proofs.YtcjmplpfebpfpaaGreatDoorW.PrintMore PKindInstances
set_option linter.unusedVariables false
set_option linter.unusedSimpArgs false

theorem boxes2 (w : World) (o1 o2 : Obj) : ((w.alloc o1).alloc o2).heap[w.heap.size]? = some o1 ∧ ((w.alloc o1).alloc o2).heap[w.heap.size + 1]? = some o2 ∧ Below w.heap.size w ((w.alloc o1).alloc o2) := by
  refine ⟨(Below.heap_alloc _ _ _ (by rw [size_new]; omega)).trans (MapKept.heap_alloc w _).1, ?_, below_alloc (below_alloc (Below.refl _ _) _) _⟩
  have h := (MapKept.heap_alloc (w.alloc o1) o2).1
  rw [size_new] at h
  exact h

end Go.Proofs.YtcjmplpfebpfpaaGreatDoor

namespace Go.Proofs.YtcjmplpfebpfpaaGreatDoor
open Go.RowKit Go.Proofs Go.Proofs.YtcjmplpfebpfpaaGreatDoorW.PrintWords Go.Proofs.YtcjmplpfebpfpaaGreatDoorW.PrintLast Go.Proofs.YtcjmplpfebpfpaaGreatDoorW.PrintMore PKindInstances
set_option linter.unusedVariables false
set_option linter.unusedSimpArgs false

def signM (a b : Bool) : Int := if a then -1 else if b then 1 else 0
theorem sign_any (a b : Bool) (w : World) : Calls Tryz.prog 83 #[.bool a, .bool b] w fun e w' => e = .returned (.int .i64 (signM a b)) ∧ w = w' := by
  cases a with
  | true =>
    go_enter Tryz.func83, Tryz.ntmps83
    go_wp2
    go_ret
    exact ⟨rfl, rfl⟩
  | false =>
    cases b with
    | true =>
      go_enter Tryz.func83, Tryz.ntmps83
      go_wp2
      go_ret
      exact ⟨rfl, rfl⟩
    | false =>
      go_enter Tryz.func83, Tryz.ntmps83
      go_wp2
      go_ret
      exact ⟨rfl, rfl⟩
theorem signM_int (x y : Int) : signM (decide (x < y)) (decide (y < x)) = Lib.compareInt x y := by
  unfold signM Lib.compareInt
  by_cases h1 : x < y
  · simp [h1]
  · simp [h1]
theorem signM_str (a b : ByteArray) : signM (Op.bytesLess a.toList b.toList) (!Op.bytesLess a.toList b.toList && !(a.toList == b.toList)) = cmpStr a b := by
  unfold signM cmpStr
  cases Op.bytesLess a.toList b.toList <;> cases (a.toList == b.toList) <;> rfl

def RCmpOk (x : S24) : Prop :=
  ∀ (y : S24) (A B : Option Addr) (c d : Nat) (w : World), Kd.C k24 w A x.f3.length x.f3 → x.f3.length ≤ c → Kd.C k24 w B y.f3.length y.f3 → y.f3.length ≤ d → wid x < 9000000 → wid y < 9000000 →
    Calls Tryz.prog 40 #[formV x.f0 x.f1 x.f2 A x.f3.length c, formV y.f0 y.f1 y.f2 B y.f3.length d] w fun e w' => e = .returned (.int .i64 (cmpM x y)) ∧ Below w.heap.size w w'

/-- What holds of the loop. -/
def RcRel (W0 : World) (l m : List S24) (R : Int) (k : Nat) (x5 : Value) (wr : World) : Prop :=
  ∃ (i : Nat), x5 = .int .i64 (i : Int) ∧ k + i = l.length ∧ i ≤ m.length ∧ Below W0.heap.size W0 wr ∧ cmpL (l.drop i) (m.drop i) = R

set_option maxRecDepth 100000 in
set_option maxHeartbeats 8000000 in
theorem rcompare_list (n : Int) (s : ByteArray) (l : List S24) (y1 : Int) (y2 : ByteArray) (m : List S24) (A B : Option Addr) (c d : Nat) (w : World) (hr : Kd.C k24 w A l.length l) (hc : l.length ≤ c) (hs : Kd.C k24 w B m.length m) (hd : m.length ≤ d)
    (hn : wids l < 9000000) (hm : wids m < 9000000) (hq : ∀ x ∈ l, RCmpOk x) :
    Calls Tryz.prog 40 #[formV 3 n s A l.length c, formV 3 y1 y2 B m.length d] w fun e w' => e = .returned (.int .i64 (cmpL l m)) ∧ Below w.heap.size w w' := by
  have hu24 := Tryz.underlying24
  have h1 := wids_len l
  have h2 := wids_len m
  obtain ⟨R, hR⟩ : ∃ R, R = cmpL l m := ⟨_, rfl⟩
  rw [← hR]
  obtain ⟨x1, x2, xb⟩ := boxes2 w (Obj.cells #[.int .i64 3, .int .i64 n, .string s, .slice A l.length c] 24) (Obj.cells #[.int .i64 3, .int .i64 y1, .string y2, .slice B m.length d] 24)
  have XB : Hid _ := xb
  have HA : Hid _ := Kd.C_below hr xb
  have HB : Hid _ := Kd.C_below hs xb
  have HQ : Hid _ := hq
  clear xb hr hs hq
  go_enter Tryz.func40, Tryz.ntmps40
  go_upto_region 1 with fail
  generalize (w.alloc (Obj.cells #[.int .i64 3, .int .i64 n, .string s, .slice A l.length c] 24)).alloc (Obj.cells #[.int .i64 3, .int .i64 y1, .string y2, .slice B m.length d] 24) = X at *
  obtain ⟨p0, p1, p2, p3⟩ := cells4 x1
  obtain ⟨q0, q1, q2, q3⟩ := cells4 x2
  have start : Hid (RcRel X l m R l.length (.int .i64 ((0 : Nat) : Int)) X) := ⟨0, rfl, rfl, Nat.zero_le _, Below.refl _ _, hR.symm⟩
  generalize hbA : w.heap.size = bA at *
  generalize hbB : bA + 1 = bB at *
  clear x1 x2 hR
  go_wp2_with fail
  go_loopg [5] l.length (fun k x5 wr => RcRel X l m R k x5 wr)
  case atStart => exact start.out
  case round =>
    clear start
    obtain ⟨i, rfl, hki, him, hB0, hV⟩ := hrel
    replace p3 := pw_cell_below hB0 p3
    replace q3 := pw_cell_below hB0 q3
    by_cases hlt : i < l.length
    · by_cases hlm : i < m.length
      · obtain ⟨g, rfl⟩ : ∃ g, gk = g + 1 := ⟨gk - 1, by omega⟩
        have e1 : decide (i < l.length) = true := decide_eq_true hlt
        have e2 : decide (i < m.length) = true := decide_eq_true hlm
        obtain ⟨x, hx⟩ : ∃ x, l[i]? = some x := ⟨l[i]'(by omega), List.getElem?_eq_getElem _⟩
        obtain ⟨y, hy⟩ : ∃ y, m[i]? = some y := ⟨m[i]'(by omega), List.getElem?_eq_getElem _⟩
        obtain ⟨ad, A5, c5, rfl, g0, g1, g2, g3, g4, g5⟩ := row_at (Kd.C_below HA.out hB0) (by omega) hx
        obtain ⟨ae, B5, d5, rfl, k0, k1, k2, k3, k4, k5⟩ := row_at (Kd.C_below HB.out hB0) (by omega) hy
        rw [drop_at3 hx, drop_at3 hy] at hV
        simp only [cmpL] at hV
        have MQ : Hid (∀ wq, Below wr.heap.size wr wq → _) := fun wq hwq => HQ.out x (List.mem_of_getElem? hx) y A5 B5 c5 d5 wq (Kd.C_below g5 hwq) g4 (Kd.C_below k5 hwq) k4 (by have := wid_mem (List.mem_of_getElem? hx); omega) (by have := wid_mem (List.mem_of_getElem? hy); omega)
        clear hx hy g5 k5
        obtain ⟨x0, x1, x2, x3⟩ := x
        obtain ⟨y0, y1', y2', y3⟩ := y
        have HF : Hid (∀ W : World, Below wr.heap.size wr W → W.cell? ⟨bA, 3, none⟩ = some (.slice (some ad) l.length c) ∧ W.cell? ⟨bB, 3, none⟩ = some (.slice (some ae) m.length d) ∧ (W.cell? (ad.add (i * 4)) = some (.int .i64 x0) ∧ W.cell? ⟨(ad.add (i * 4)).block, (ad.add (i * 4)).off + 1, none⟩ = some (.int .i64 x1) ∧ W.cell? ⟨(ad.add (i * 4)).block, (ad.add (i * 4)).off + 2, none⟩ = some (.string x2) ∧ W.cell? ⟨(ad.add (i * 4)).block, (ad.add (i * 4)).off + 3, none⟩ = some (.slice A5 x3.length c5)) ∧ (W.cell? (ae.add (i * 4)) = some (.int .i64 y0) ∧ W.cell? ⟨(ae.add (i * 4)).block, (ae.add (i * 4)).off + 1, none⟩ = some (.int .i64 y1') ∧ W.cell? ⟨(ae.add (i * 4)).block, (ae.add (i * 4)).off + 2, none⟩ = some (.string y2') ∧ W.cell? ⟨(ae.add (i * 4)).block, (ae.add (i * 4)).off + 3, none⟩ = some (.slice B5 y3.length d5))) := fun W h => ⟨pw_cell_below h p3, pw_cell_below h q3, ⟨pw_cell_below h g0, pw_cell_below h g1, pw_cell_below h g2, pw_cell_below h g3⟩, pw_cell_below h k0, pw_cell_below h k1, pw_cell_below h k2, pw_cell_below h k3⟩
        obtain ⟨q, hq⟩ : ∃ q, q = cmpM ⟨x0, x1, x2, x3⟩ ⟨y0, y1', y2', y3⟩ := ⟨_, rfl⟩
        rw [← hq] at MQ hV
        have HBL : Hid _ := hB0
        have HV : Hid _ := hV
        clear hq hB0 hV
        go_wp2_with fail
        clear p0 p1 p2 p3 q0 q1 q2 q3 g0 g1 g2 g3 k0 k1 k2 k3
        refine wp_region_held_drew (S := fun W => W.cell? ⟨bA, 3, none⟩ = some (.slice (some ad) l.length c) ∧ W.cell? ⟨bB, 3, none⟩ = some (.slice (some ae) m.length d) ∧ (W.cell? (ad.add (i * 4)) = some (.int .i64 x0) ∧ W.cell? ⟨(ad.add (i * 4)).block, (ad.add (i * 4)).off + 1, none⟩ = some (.int .i64 x1) ∧ W.cell? ⟨(ad.add (i * 4)).block, (ad.add (i * 4)).off + 2, none⟩ = some (.string x2) ∧ W.cell? ⟨(ad.add (i * 4)).block, (ad.add (i * 4)).off + 3, none⟩ = some (.slice A5 x3.length c5)) ∧ (W.cell? (ae.add (i * 4)) = some (.int .i64 y0) ∧ W.cell? ⟨(ae.add (i * 4)).block, (ae.add (i * 4)).off + 1, none⟩ = some (.int .i64 y1') ∧ W.cell? ⟨(ae.add (i * 4)).block, (ae.add (i * 4)).off + 2, none⟩ = some (.string y2') ∧ W.cell? ⟨(ae.add (i * 4)).block, (ae.add (i * 4)).off + 3, none⟩ = some (.slice B5 y3.length d5))) (by kernel_rfl) (HF.out _ (below_drew (Below.refl _ _))) (fun hHeld => ?_)
        refine takeV 0 (some 68) (.pointer (some ⟨bA, 3, none⟩)) rfl rfl (by kernel_rfl) (by kernel_rfl) (by kernel_rfl) (fun _ _ _ h => h) (Or.inl ⟨by kernel_rfl, fun W hSw => by obtain ⟨s1, s2, ⟨t0, t1, t2, t3⟩, u0, u1, u2, u3⟩ := hSw; go_simp⟩) hHeld ?_
        try simp only [Act.put, List.setIfInBounds_toArray, List.set_cons_zero, List.set_cons_succ]
        refine takeV 1 (some 69) (.slice (some ad) l.length c) rfl rfl (by kernel_rfl) (by kernel_rfl) (by kernel_rfl) (fun _ _ _ h => h) (Or.inl ⟨by kernel_rfl, fun W hSw => by obtain ⟨s1, s2, ⟨t0, t1, t2, t3⟩, u0, u1, u2, u3⟩ := hSw; go_simp⟩) hHeld ?_
        try simp only [Act.put, List.setIfInBounds_toArray, List.set_cons_zero, List.set_cons_succ]
        refine takeV 2 (some 70) (.int .i64 (i : Int)) rfl rfl (by kernel_rfl) (by kernel_rfl) (by kernel_rfl) (fun _ _ _ h => h) (Or.inl ⟨by kernel_rfl, fun W hSw => by obtain ⟨s1, s2, ⟨t0, t1, t2, t3⟩, u0, u1, u2, u3⟩ := hSw; go_simp⟩) hHeld ?_
        try simp only [Act.put, List.setIfInBounds_toArray, List.set_cons_zero, List.set_cons_succ]
        refine takeV 3 (some 71) (.pointer (some (ad.add (i * 4)))) rfl rfl (by kernel_rfl) (by kernel_rfl) (by kernel_rfl) (fun _ _ _ h => h) (Or.inl ⟨by kernel_rfl, fun W hSw => by obtain ⟨s1, s2, ⟨t0, t1, t2, t3⟩, u0, u1, u2, u3⟩ := hSw; go_simp; first | done | (intro h9; exact absurd h9 (by omega))⟩) hHeld ?_
        try simp only [Act.put, List.setIfInBounds_toArray, List.set_cons_zero, List.set_cons_succ]
        refine takeV 4 (some 72) (formV x0 x1 x2 A5 x3.length c5) rfl rfl (by kernel_rfl) (by kernel_rfl) (by kernel_rfl) (fun _ _ _ h => h) (Or.inl ⟨by kernel_rfl, fun W hSw => by obtain ⟨s1, s2, ⟨t0, t1, t2, t3⟩, u0, u1, u2, u3⟩ := hSw; go_simp⟩) hHeld ?_
        try simp only [Act.put, List.setIfInBounds_toArray, List.set_cons_zero, List.set_cons_succ]
        refine takeV 5 (some 73) (.pointer (some ⟨bB, 3, none⟩)) rfl rfl (by kernel_rfl) (by kernel_rfl) (by kernel_rfl) (fun _ _ _ h => h) (Or.inl ⟨by kernel_rfl, fun W hSw => by obtain ⟨s1, s2, ⟨t0, t1, t2, t3⟩, u0, u1, u2, u3⟩ := hSw; go_simp⟩) hHeld ?_
        try simp only [Act.put, List.setIfInBounds_toArray, List.set_cons_zero, List.set_cons_succ]
        refine takeV 6 (some 74) (.slice (some ae) m.length d) rfl rfl (by kernel_rfl) (by kernel_rfl) (by kernel_rfl) (fun _ _ _ h => h) (Or.inl ⟨by kernel_rfl, fun W hSw => by obtain ⟨s1, s2, ⟨t0, t1, t2, t3⟩, u0, u1, u2, u3⟩ := hSw; go_simp⟩) hHeld ?_
        try simp only [Act.put, List.setIfInBounds_toArray, List.set_cons_zero, List.set_cons_succ]
        refine takeV 7 (some 75) (.int .i64 (i : Int)) rfl rfl (by kernel_rfl) (by kernel_rfl) (by kernel_rfl) (fun _ _ _ h => h) (Or.inl ⟨by kernel_rfl, fun W hSw => by obtain ⟨s1, s2, ⟨t0, t1, t2, t3⟩, u0, u1, u2, u3⟩ := hSw; go_simp⟩) hHeld ?_
        try simp only [Act.put, List.setIfInBounds_toArray, List.set_cons_zero, List.set_cons_succ]
        refine takeV 8 (some 76) (.pointer (some (ae.add (i * 4)))) rfl rfl (by kernel_rfl) (by kernel_rfl) (by kernel_rfl) (fun _ _ _ h => h) (Or.inl ⟨by kernel_rfl, fun W hSw => by obtain ⟨s1, s2, ⟨t0, t1, t2, t3⟩, u0, u1, u2, u3⟩ := hSw; go_simp; first | done | (intro h9; exact absurd h9 (by omega))⟩) hHeld ?_
        try simp only [Act.put, List.setIfInBounds_toArray, List.set_cons_zero, List.set_cons_succ]
        refine takeV 9 (some 77) (formV y0 y1' y2' B5 y3.length d5) rfl rfl (by kernel_rfl) (by kernel_rfl) (by kernel_rfl) (fun _ _ _ h => h) (Or.inl ⟨by kernel_rfl, fun W hSw => by obtain ⟨s1, s2, ⟨t0, t1, t2, t3⟩, u0, u1, u2, u3⟩ := hSw; go_simp⟩) hHeld ?_
        try simp only [Act.put, List.setIfInBounds_toArray, List.set_cons_zero, List.set_cons_succ]
        refine wpAnyH_ready (rs := [10]) (by kernel_rfl) (by simp) ?_
        refine AllReadyH.cons rfl (fun K hK => ?_) AllReadyH.nil
        clear hHeld
        go_simp
        go_at_call 40
        refine Calls.mono (MQ.out _ (below_drew (Below.refl _ _))) ?_
        rintro e w6 ⟨rfl, B6'⟩
        have B6 : Hid _ := below_after (below_drew (Below.refl wr.heap.size wr)) B6'
        have HSn := HF.out _ B6.out
        clear B6'
        go_wp2_with fail
        refine hK.out _ _ HSn (fun hHeld => ?_)
        clear hK K
        try simp only [Act.put, List.setIfInBounds_toArray, List.set_cons_zero, List.set_cons_succ]
        refine takeV 11 (some 6) (.int .i64 q) rfl rfl (by kernel_rfl) (by kernel_rfl) (by kernel_rfl) (fun _ _ _ h => h) (Or.inl ⟨by kernel_rfl, fun W hSw => by go_simp⟩) hHeld ?_
        try simp only [Act.put, List.setIfInBounds_toArray, List.set_cons_zero, List.set_cons_succ]
        refine wpAnyH_done (by kernel_rfl) ?_ _
        have hV := HV.out
        clear HV hHeld HSn
        by_cases hz : q = 0
        · subst hz
          simp only [ne_eq, not_true_eq_false, if_false] at hV
          have HV9 : Hid _ := hV
          clear hV
          go_wp2_with fail
          go_roundg g
          case measure => omega
          case rel => exact ⟨i + 1, by go_num, by omega, by omega, below_after HBL.out B6.out, HV9.out⟩
        · have qn : (q != 0) = true := bne_iff_ne.mpr hz
          rw [if_pos hz] at hV
          subst hV
          clear hz
          go_wp2_with fail
          go_ret
          exact ⟨rfl, by subst hbA; exact below_after XB.out (below_after HBL.out B6.out)⟩
      · have e1 : decide (i < l.length) = true := decide_eq_true hlt
        have e2 : decide (i < m.length) = false := decide_eq_false hlm
        obtain ⟨x, hx⟩ : ∃ x, l[i]? = some x := ⟨l[i]'(by omega), List.getElem?_eq_getElem _⟩
        have e3 : m.drop i = [] := List.drop_eq_nil_of_le (by omega)
        rw [e3, drop_at3 hx] at hV
        simp only [cmpL] at hV
        subst hV
        have f1 : decide (l.length < m.length) = false := decide_eq_false (by omega)
        have f2 : decide (m.length < l.length) = true := decide_eq_true (by omega)
        have BW : Hid _ := hB0
        have hge : m.length ≤ i := by omega
        clear hB0 e3 hx
        go_wp2_with fail
        refine (sign_any _ _ _).mono ?_
        rintro e w6 ⟨rfl, rfl⟩
        go_wp2_with fail
        go_ret
        exact ⟨rfl, by subst hbA; exact below_after XB.out BW.out⟩
    · have e1 : decide (i < l.length) = false := decide_eq_false hlt
      have e3 : l.drop i = [] := List.drop_eq_nil_of_le (by omega)
      rw [e3] at hV
      have e4 : (m.drop i).length = m.length - i := List.length_drop
      have hV2 : signM (decide (l.length < m.length)) (decide (m.length < l.length)) = R := by
        rw [← hV]
        simp only [cmpL]
        by_cases h : l.length < m.length
        · rw [if_pos (by omega), decide_eq_true h]; rfl
        · rw [if_neg (by omega), decide_eq_false h, decide_eq_false (by omega)]; rfl
      have BW : Hid _ := hB0
      have hge : l.length ≤ i := by omega
      clear hB0 e3 hV e4
      obtain ⟨f1, hf1⟩ : ∃ f, f = decide (l.length < m.length) := ⟨_, rfl⟩
      obtain ⟨f2, hf2⟩ : ∃ f, f = decide (m.length < l.length) := ⟨_, rfl⟩
      rw [← hf1, ← hf2] at hV2
      replace hf1 := hf1.symm
      replace hf2 := hf2.symm
      go_wp2_with fail
      refine (sign_any _ _ _).mono ?_
      rintro e w6 ⟨rfl, rfl⟩
      go_wp2_with fail
      go_ret
      exact ⟨rfl, by subst hbA; exact below_after XB.out BW.out⟩

set_option maxRecDepth 100000 in
set_option maxHeartbeats 4000000 in
theorem rcompare_flat (a n : Int) (s : ByteArray) (l : List S24) (y0 y1 : Int) (y2 : ByteArray) (y3 : List S24) (A B : Option Addr) (c d : Nat) (w : World) (h3 : ¬ (a = 3 ∧ y0 = 3)) :
    Calls Tryz.prog 40 #[formV a n s A l.length c, formV y0 y1 y2 B y3.length d] w fun e w' => e = .returned (.int .i64 (cmpM ⟨a, n, s, l⟩ ⟨y0, y1, y2, y3⟩)) ∧ Below w.heap.size w w' := by
  have hu24 := Tryz.underlying24
  obtain ⟨x1, x2, xb⟩ := boxes2 w (Obj.cells #[.int .i64 a, .int .i64 n, .string s, .slice A l.length c] 24) (Obj.cells #[.int .i64 y0, .int .i64 y1, .string y2, .slice B y3.length d] 24)
  have XB : Hid _ := xb
  clear xb
  by_cases h0 : a = y0
  · subst h0
    have b0 : (a != a) = false := by simp
    have b33 : a ≠ 3 := fun h => h3 ⟨h, h⟩
    by_cases h1 : a = 0
    · have e1 : cmpM ⟨a, n, s, l⟩ ⟨a, y1, y2, y3⟩ = signM (decide (n < y1)) (decide (y1 < n)) := by simp [cmpM, h1, signM_int]
      rw [e1]
      subst h1
      clear e1
      go_enter Tryz.func40, Tryz.ntmps40
      go_upto_region 1 with fail
      generalize (w.alloc (Obj.cells #[.int .i64 0, .int .i64 n, .string s, .slice A l.length c] 24)).alloc (Obj.cells #[.int .i64 0, .int .i64 y1, .string y2, .slice B y3.length d] 24) = X at *
      obtain ⟨p0, p1, p2, p3⟩ := cells4 x1
      obtain ⟨q0, q1, q2, q3⟩ := cells4 x2
      go_wp2_with fail
      refine (sign_any _ _ _).mono ?_
      rintro e w6 ⟨rfl, rfl⟩
      go_wp2_with fail
      go_ret
      exact ⟨rfl, XB.out⟩
    · have b1 : (a == 0) = false := beq_eq_false_iff_ne.mpr h1
      by_cases h2 : a = 1
      · have e1 : cmpM ⟨a, n, s, l⟩ ⟨a, y1, y2, y3⟩ = signM (Op.bytesLess s.toList y2.toList) (!Op.bytesLess s.toList y2.toList && !(s.toList == y2.toList)) := by simp [cmpM, h2, signM_str]
        rw [e1]
        subst h2
        clear e1
        go_enter Tryz.func40, Tryz.ntmps40
        go_upto_region 1 with fail
        generalize (w.alloc (Obj.cells #[.int .i64 1, .int .i64 n, .string s, .slice A l.length c] 24)).alloc (Obj.cells #[.int .i64 1, .int .i64 y1, .string y2, .slice B y3.length d] 24) = X at *
        obtain ⟨p0, p1, p2, p3⟩ := cells4 x1
        obtain ⟨q0, q1, q2, q3⟩ := cells4 x2
        go_wp2_with fail
        refine (sign_any _ _ _).mono ?_
        rintro e w6 ⟨rfl, rfl⟩
        go_wp2_with fail
        go_ret
        exact ⟨rfl, XB.out⟩
      · have b2 : (a == 1) = false := beq_eq_false_iff_ne.mpr h2
        by_cases h4 : a = 2
        · have e1 : cmpM ⟨a, n, s, l⟩ ⟨a, y1, y2, y3⟩ = signM (Op.bytesLess s.toList y2.toList) (!Op.bytesLess s.toList y2.toList && !(s.toList == y2.toList)) := by simp [cmpM, h4, signM_str]
          rw [e1]
          subst h4
          clear e1
          go_enter Tryz.func40, Tryz.ntmps40
          go_upto_region 1 with fail
          generalize (w.alloc (Obj.cells #[.int .i64 2, .int .i64 n, .string s, .slice A l.length c] 24)).alloc (Obj.cells #[.int .i64 2, .int .i64 y1, .string y2, .slice B y3.length d] 24) = X at *
          obtain ⟨p0, p1, p2, p3⟩ := cells4 x1
          obtain ⟨q0, q1, q2, q3⟩ := cells4 x2
          go_wp2_with fail
          refine (sign_any _ _ _).mono ?_
          rintro e w6 ⟨rfl, rfl⟩
          go_wp2_with fail
          go_ret
          exact ⟨rfl, XB.out⟩
        · have b3 : (a == 2) = false := beq_eq_false_iff_ne.mpr h4
          have b4 : (a == 3) = false := beq_eq_false_iff_ne.mpr b33
          have e1 : cmpM ⟨a, n, s, l⟩ ⟨a, y1, y2, y3⟩ = 0 := by simp [cmpM, h1, h2, h4, b33]
          rw [e1]
          clear e1 h1 h2 h4 b33 h3
          go_enter Tryz.func40, Tryz.ntmps40
          go_upto_region 1 with fail
          generalize (w.alloc (Obj.cells #[.int .i64 a, .int .i64 n, .string s, .slice A l.length c] 24)).alloc (Obj.cells #[.int .i64 a, .int .i64 y1, .string y2, .slice B y3.length d] 24) = X at *
          obtain ⟨p0, p1, p2, p3⟩ := cells4 x1
          obtain ⟨q0, q1, q2, q3⟩ := cells4 x2
          go_wp2_with fail
          go_ret
          exact ⟨rfl, XB.out⟩
  · have b0 : (a != y0) = true := bne_iff_ne.mpr h0
    have e1 : cmpM ⟨a, n, s, l⟩ ⟨y0, y1, y2, y3⟩ = signM (decide (a < y0)) (decide (y0 < a)) := by simp [cmpM, h0, signM_int]
    rw [e1]
    clear e1 h0 h3
    go_enter Tryz.func40, Tryz.ntmps40
    go_upto_region 1 with fail
    generalize (w.alloc (Obj.cells #[.int .i64 a, .int .i64 n, .string s, .slice A l.length c] 24)).alloc (Obj.cells #[.int .i64 y0, .int .i64 y1, .string y2, .slice B y3.length d] 24) = X at *
    obtain ⟨p0, p1, p2, p3⟩ := cells4 x1
    obtain ⟨q0, q1, q2, q3⟩ := cells4 x2
    go_wp2_with fail
    refine (sign_any _ _ _).mono ?_
    rintro e w6 ⟨rfl, rfl⟩
    go_wp2_with fail
    go_ret
    exact ⟨rfl, XB.out⟩

mutual
theorem rcmp_ok : ∀ x : S24, RCmpOk x
  | ⟨a, n, s, l⟩ => by
    have hl := rcmp_oks l
    intro y A B c d w hr hc hs hd hx hy
    obtain ⟨y0, y1, y2, y3⟩ := y
    have k1 := wid_kids ⟨a, n, s, l⟩
    have k2 := wid_kids ⟨y0, y1, y2, y3⟩
    simp only [] at k1 k2
    by_cases h3 : a = 3 ∧ y0 = 3
    · obtain ⟨rfl, rfl⟩ := h3
      have e1 : cmpM ⟨3, n, s, l⟩ ⟨3, y1, y2, y3⟩ = cmpL l y3 := by simp [cmpM]
      rw [e1]
      exact rcompare_list n s l y1 y2 y3 A B c d w hr hc hs hd (by omega) (by omega) hl
    · exact rcompare_flat a n s l y0 y1 y2 y3 A B c d w h3
theorem rcmp_oks : ∀ (l : List S24), ∀ x ∈ l, RCmpOk x
  | [], x, h => absurd h (List.not_mem_nil)
  | y :: l, x, h => by
    rcases List.mem_cons.1 h with h | h
    · rw [h]; exact rcmp_ok y
    · exact rcmp_oks l x h
end

set_option maxRecDepth 100000 in
theorem REqual_any (x y : S24) (A B : Option Addr) (c d : Nat) (w : World) (hr : Kd.C k24 w A x.f3.length x.f3) (hc : x.f3.length ≤ c) (hs : Kd.C k24 w B y.f3.length y.f3) (hd : y.f3.length ≤ d) (hx : wid x < 9000000) (hy : wid y < 9000000) :
    Calls Tryz.prog 11 #[formV x.f0 x.f1 x.f2 A x.f3.length c, formV y.f0 y.f1 y.f2 B y.f3.length d] w fun e w' => e = .returned (.bool (eqM x y)) ∧ Below w.heap.size w w' := by
  have hu24 := Tryz.underlying24
  have HC := fun w1 h1 h2 => rcmp_ok x y A B c d w1 h1 hc h2 hd hx hy
  obtain ⟨a, n, s, l⟩ := x
  obtain ⟨y0, y1, y2, y3⟩ := y
  have HC : Hid _ := HC ((w.alloc (Obj.cells #[.int .i64 a, .int .i64 n, .string s, .slice A l.length c] 24)).alloc (Obj.cells #[.int .i64 y0, .int .i64 y1, .string y2, .slice B y3.length d] 24)) (Kd.C_alloc (Kd.C_alloc hr _) _) (Kd.C_alloc (Kd.C_alloc hs _) _)
  obtain ⟨q, hq⟩ : ∃ q, q = cmpM ⟨a, n, s, l⟩ ⟨y0, y1, y2, y3⟩ := ⟨_, rfl⟩
  unfold eqM
  rw [← hq] at HC ⊢
  clear hr hs hq hx hy
  go_enter Tryz.func11, Tryz.ntmps11
  go_wp2_with fail
  refine Calls.mono HC.out ?_
  rintro e w2 ⟨rfl, B2⟩
  have B3 : Below w.heap.size w w2 := below_after (by (repeat (first | assumption | exact Below.refl _ _ | apply below_alloc | apply pw_below_drewN | apply below_drew1))) B2
  clear B2
  go_wp2_with fail
  go_ret
  exact ⟨rfl, B3⟩

end Go.Proofs.YtcjmplpfebpfpaaGreatDoor
