/- Part 5 of what the law's row leans on (Na): the print's words and functions, cut to what is reached, and own texts. -/
import Derived.RangeFuncBox
import Derived.RangeFuncLeaves
import Derived.Shelf.Abstract
import Derived.OwnWalkIn
import Derived.TacticsInMore
import Derived.LoopNIn
import Derived.LoopIn
import Derived.Sort.KeysCollected
import Derived.WideShapes
import Derived.Shelf.SlSortCmp.NoneTotal
import Derived.Test.YtcjmplpfebpfpaaGreatDoorNa4
namespace Go.Proofs.YtcjmplpfebpfpaaGreatDoor
open Go.RowKit Go.Shelf Go.Proofs Go.Proofs.YtcjmplpfebpfpaaGreatDoorW.PrintWords Go.Proofs.YtcjmplpfebpfpaaGreatDoorW.PrintLast Go.Proofs.YtcjmplpfebpfpaaGreatDoorW.PrintMore PKindInstances
set_option linter.unusedVariables false
set_option linter.unusedSimpArgs false

attribute [local go_sem] Oper.semAt_some
/-- Every cell holds what it held. -/
def Keep (w w1 : World) : Prop := ∀ a v, w.cell? a = some v → w1.cell? a = some v
theorem siz_pos' (x : S24) : 0 < siz x := by obtain ⟨a, b, s, l⟩ := x; simp only [siz]; omega
theorem keep24 {w w1 : World} (H : Keep w w1) : ∀ (n : Nat) (x : S24), siz x ≤ n → ∀ cs, k24.K w x cs → k24.K w1 x cs
  | 0, x, hs, cs, h => by have := siz_pos' x; omega
  | n + 1, x, hs, cs, h => by
    obtain ⟨A, c, rfl, hc, hC⟩ := k24_open h
    refine k24_mk w1 x hc ⟨hC.1, hC.2.1, fun hn => ?_⟩
    obtain ⟨ad, e, hr⟩ := hC.2.2 hn
    refine ⟨ad, e, fun j p hj => ?_⟩
    obtain ⟨cs, h1, h2, h3⟩ := hr j p hj
    have hm := siz_in (List.mem_of_getElem? hj)
    have hk : sizs x.f3 < siz x := by obtain ⟨a, b, s, l⟩ := x; simp only [siz]; omega
    exact ⟨cs, h1, keep24 H n p (by omega) cs h2, fun i u hu => H _ _ (h3 i u hu)⟩
theorem C24_keep {w w1 : World} (H : Keep w w1) {A : Option Addr} {n : Nat} {l : List S24} (h : Kd.C k24 w A n l) : Kd.C k24 w1 A n l :=
  ⟨h.1, h.2.1, fun hn => by
    obtain ⟨ad, e, hr⟩ := h.2.2 hn
    refine ⟨ad, e, fun j p hj => ?_⟩
    obtain ⟨cs, h1, h2, h3⟩ := hr j p hj
    exact ⟨cs, h1, keep24 H (siz p) p (Nat.le_refl _) cs h2, fun i u hu => H _ _ (h3 i u hu)⟩⟩
/-- A pair as it lies in memory. -/
structure PV where
  x : S51
  A : Option Addr
  c : Nat
def PV.val (q : PV) : Value := .agg #[.string q.x.f0, .int .i64 q.x.f1.f0, .int .i64 q.x.f1.f1, .string q.x.f1.f2, .slice q.A q.x.f1.f3.length q.c]
def GoodP (w : World) (q : PV) : Prop := q.x.f1.f3.length ≤ q.c ∧ Kd.C k24 w q.A q.x.f1.f3.length q.x.f1.f3 ∧ wid q.x.f1 < 8000000
abbrev PA (w : World) := { q : Nat × PV // GoodP w q.2 }
def encP (w : World) (q : PA w) : Array Value := #[.int .i64 (q.1.1 : Int), q.1.2.val]
/-- Where a row's pair lies. -/
def PvAt (w : World) (A : Option Addr) (i : Nat) (q : PV) : Prop :=
  ∃ ad, A = some ad ∧ w.cell? (ad.add (i * 5)) = some (.string q.x.f0) ∧ w.cell? ⟨(ad.add (i * 5)).block, (ad.add (i * 5)).off + 1, none⟩ = some (.int .i64 q.x.f1.f0) ∧
    w.cell? ⟨(ad.add (i * 5)).block, (ad.add (i * 5)).off + 2, none⟩ = some (.int .i64 q.x.f1.f1) ∧ w.cell? ⟨(ad.add (i * 5)).block, (ad.add (i * 5)).off + 3, none⟩ = some (.string q.x.f1.f2) ∧
    w.cell? ⟨(ad.add (i * 5)).block, (ad.add (i * 5)).off + 4, none⟩ = some (.slice q.A q.x.f1.f3.length q.c)
theorem row_pvs {w : World} {A : Option Addr} {l : List S51} (h : Kd.C k51 w A l.length l) (hw : ∀ p ∈ l, wid p.f1 < 8000000) :
    ∃ g : Nat → PA w, ∀ i (hi : i < l.length), (g i).1.1 = i ∧ (g i).1.2.x = l[i] ∧ PvAt w A i (g i).1.2 := by
  have each : ∀ i, ∃ q : PA w, ∀ hi : i < l.length, q.1.1 = i ∧ q.1.2.x = l[i] ∧ PvAt w A i q.1.2 := by
    intro i
    by_cases hi : i < l.length
    · have hx : l[i]? = some l[i] := List.getElem?_eq_getElem hi
      obtain ⟨ad, A4, c4, e, g0, g1, g2, g3, g4, g5, g6⟩ := at_T51 h (i : Int) (by omega) (by omega)
      have er : rd_T51 l (i : Int) = l[i] := by unfold rd_T51; rw [Int.toNat_natCast, List.getD_eq_getElem?_getD, hx]; rfl
      rw [er] at g0 g1 g2 g3 g4 g5 g6
      rw [Int.toNat_natCast] at g0 g1 g2 g3 g4
      exact ⟨⟨(i, ⟨l[i], A4, c4⟩), g5, g6, hw _ (List.getElem_mem hi)⟩, fun _ => ⟨rfl, rfl, ad, e, g0, g1, g2, g3, g4⟩⟩
    · exact ⟨⟨(0, ⟨⟨⟨#[]⟩, ⟨0, 0, ⟨#[]⟩, []⟩⟩, none, 0⟩), Nat.le_refl _, Kd.C_nil _ _, by simp only [wid, wids]; decide⟩, fun h => absurd h hi⟩
  exact ⟨fun i => Classical.choose (each i), fun i hi => Classical.choose_spec (each i) hi⟩
/-- What a round keeps: every cell of w0 that holds what it held. -/
def KpP (w0 W W' : World) : Prop := ∀ a v, w0.cell? a = some v → W.cell? a = some v → W'.cell? a = some v
theorem kpP_t {w0 A B C : World} (h : KpP w0 A B) (k : KpP w0 B C) : KpP w0 A C := fun a v h0 hA => k a v h0 (h a v h0 hA)
theorem kpP_b {w0 w : World} (hb : w0.heap.size ≤ w.heap.size) (W : World) (l : Nat) (o o' : Obj) (hl : w.heap.size ≤ l) (h : W.heap[l]? = some o) (hc : o.isCells = false) (_ : o.isWalk = false) : KpP w0 W (W.putObj l o') :=
  fun a v _ hA => cell_kept hA (grownBy_putObj' W l o') (fun r e => by cases e; exact ⟨o, h, hc⟩)
theorem Keep.of_below {w W : World} (h : Below w.heap.size w W) : Keep w W := fun a v h0 => pw_cell_below h h0
theorem PvAt.keep {w W : World} {A : Option Addr} {i : Nat} {q : PV} (h : PvAt w A i q) (hb : Keep w W) : PvAt W A i q := by
  obtain ⟨ad, e, g0, g1, g2, g3, g4⟩ := h
  exact ⟨ad, e, hb _ _ g0, hb _ _ g1, hb _ _ g2, hb _ _ g3, hb _ _ g4⟩
/-- What has come when k rounds are over. -/
def uptoF {α : Type} (f : Nat → α) (k : Nat) : List α := (List.range k).map f
theorem uptoF_succ {α : Type} (f : Nat → α) (k : Nat) : uptoF f (k + 1) = uptoF f k ++ [f k] := by simp [uptoF, List.range_succ]
theorem uptoF_length {α : Type} (f : Nat → α) (k : Nat) : (uptoF f k).length = k := by simp [uptoF]
theorem idx_up {j : Nat} : ((j + 1 : Nat) : Int) - 1 = (j : Int) := by omega
theorem idx_down {j : Nat} (h : j < 9000000) : wrap64 ((j : Int) - 1) = (j : Int) - 1 := by unfold wrap64; omega
set_option maxRecDepth 100000 in
set_option maxHeartbeats 4000000 in
/-- slices.Backward's closure, at pairs. -/
theorem back1_in (F : Fence) (n : Nat) (h86 : F.fn 86) (hro : F.round = none) (hn : 1 ≤ n) (l Bs : Nat) (w0 : World) (A : Option Addr) (len cap : Nat) (g : Nat → PA w0) (hlen : len < 9000000)
    (hg : ∀ i, i < len → (g i).1.1 = i ∧ PvAt w0 A i (g i).1.2) (hBs : w0.cell? ⟨Bs, 0, none⟩ = some (.slice A len cap)) (J Jx : List (PA w0) → World → Prop)
    (hY : ∀ pre x W, J pre W → pre.length < len → YieldAt F (n - 1) Tryz.prog l (encP w0 x) W fun e W' =>
      (e = .returned (.bool true) ∧ J (pre ++ [x]) W' ∧ KpP w0 W W') ∨ (e = .returned (.bool false) ∧ Jx (pre ++ [x]) W'))
    (W : World) (hB : Keep w0 W) (h0 : J [] W) :
    CallsIn F n Tryz.prog 86 #[.func (.yield l) #[] #[], .pointer (some ⟨Bs, 0, none⟩)] W fun e W' => (∃ v, e = .returned v) ∧
      ((∃ ys, ys = uptoF (fun k => g (len - 1 - k)) len ∧ J ys W') ∨ (∃ pre, True ∧ Jx pre W')) := by
  have hu25 := Tryz.underlying25
  have hu51 := Tryz.underlying51
  have HG : Hid _ := hg
  have HY : Hid _ := hY
  have HBS : Hid _ := hBs
  have hb0 := hB _ _ hBs
  have HB : Hid _ := hB
  clear hg hY hBs
  have wl : wrap64 ((len : Int) - 1) = (len : Int) - 1 := by unfold wrap64; omega
  refine callsIn_of_wp Tryz.func86 rfl h86 ?_ hro
  simp only [Tryz.ntmps86, List.size_toArray, List.length_cons, List.length_nil, Nat.reduceAdd, Nat.reduceSub, Array.replicate_succ, Array.replicate_zero, List.push_toArray, List.append_toArray, List.nil_append, List.cons_append]
  gi_wp2
  gi_loopw [3] (fun i wr => ∃ k j : Nat, k + j = len ∧ i = .int .i64 ((j : Int) - 1) ∧ J (uptoF (fun k => g (len - 1 - k)) k) wr ∧ Keep w0 wr)
    (fun i _ => (intOf i + 1).toNat)
  case atStart => exact ⟨0, len, by omega, by first | rfl | rw [wl], h0, HB.out⟩
  case round =>
    obtain ⟨k, j, hk, rfl, hJs, hnx⟩ := hrel
    cases j with
    | zero =>
      obtain rfl : k = len := by omega
      rw [show ((0 : Nat) : Int) - 1 = -1 from rfl]
      clear hk
      gi_wp2
      go_end0
      exact ⟨⟨_, rfl⟩, .inl ⟨_, rfl, hJs⟩⟩
    | succ j =>
      rw [idx_up]
      obtain ⟨ei, hp⟩ := HG.out j (by omega)
      obtain ⟨ad, rfl, g0, g1, g2, g3, g4⟩ := hp.keep hnx
      obtain ⟨fn, tmps, assign, body, hy, hR⟩ := HY.out _ (g j) wr hJs (by rw [uptoF_length]; omega)
      dsimp only [encP, PV.val] at hy
      rw [ei] at hy
      have hb1 := hnx _ _ HBS.out
      have hjl : j < len := by omega
      have wd := idx_down (j := j) (by omega)
      have HK : Hid _ := hk
      have EK : Hid (g j = g (len - 1 - k)) := by show g j = _; congr 1; omega
      clear hk hp ei
      gi_wp2
      refine hR.mono ?_
      rintro e W3 (⟨rfl, hJ3, hk3⟩ | ⟨rfl, hJx3⟩)
      · gi_wp2
        go_roundw
        case rel => exact ⟨k + 1, j, by have := HK.out; omega, by first | rfl | rw [wd], by rw [uptoF_succ, ← EK.out]; exact hJ3, fun a v h0 => hk3 a v h0 (hnx a v h0)⟩
        case measure => simp [intOf]; try omega
      · gi_wp2
        refine bodyPost_ret (results_none rfl _ _ _) rfl ?_
        exact ⟨⟨_, rfl⟩, .inr ⟨_, trivial, hJx3⟩⟩
set_option maxHeartbeats 1000000 in
/-- slices.Backward: the slice is boxed; the function value captures the box. -/
theorem back_in (A : Option Addr) (len cap : Nat) (w : World) :
    Calls Tryz.prog 43 #[.slice A len cap] w fun e w' => e = .returned (.func (.func 86) #[] #[.pointer (some ⟨w.heap.size, 0, none⟩)]) ∧ w' = w.alloc (.cells #[.slice A len cap] 25) := by
  go_enter Tryz.func43, Tryz.ntmps43
  go_wp2
  go_ret
  exact ⟨rfl, rfl⟩
/-- What slices.Backward hands back calls the round with each pair, from the last on. -/
theorem back_stops (F : Fence) (n : Nat) (h86 : F.fn 86) (hro : F.round = none) (hn : 1 ≤ n) (Bs : Nat) (w0 : World) (A : Option Addr) (len cap : Nat) (g : Nat → PA w0) (hlen : len < 9000000)
    (hg : ∀ i, i < len → (g i).1.1 = i ∧ PvAt w0 A i (g i).1.2) (hBs : w0.cell? ⟨Bs, 0, none⟩ = some (.slice A len cap)) :
    SeqStopsK F n Tryz.prog 86 #[.pointer (some ⟨Bs, 0, none⟩)] (encP w0) (KpP w0) (fun ys => ys = uptoF (fun k => g (len - 1 - k)) len) (fun _ => True) len w0 := fun l J Jx W hW _ _ hY h0 =>
  back1_in F n h86 hro hn l Bs w0 A len cap g hlen hg hBs J Jx hY W (Keep.of_below hW) h0

end Go.Proofs.YtcjmplpfebpfpaaGreatDoor

namespace Go.Proofs.YtcjmplpfebpfpaaGreatDoor.PKindInstances
open Go.RowKit Go.Proofs.YtcjmplpfebpfpaaGreatDoorW.PrintWords Go.Proofs.YtcjmplpfebpfpaaGreatDoorW.PrintLast Go.Proofs.YtcjmplpfebpfpaaGreatDoorW.PrintMore
attribute [local go_sem] max2_int min2_int max_two min_two max_three min_three max_four min_four   -- for this text's walks alone
set_option linter.unusedVariables false
set_option linter.unusedSimpArgs false

def plinthref03_put.l0 : Nat → List ByteArray → ByteArray → Int → Option (List ByteArray)
  | 0, _, _, _ => none
  | k + 1, x0, x1, x5 => if x5 < (x0.length : Int) then (if 0 ≤ x5 then (if (Op.bytesLess ((rdOf ByteArray.empty x0 x5).toList) x1.toList) = true then (plinthref03_put.l0 k x0 x1 (wrap64 (x5 + 1))) else (if (rdOf ByteArray.empty x0 x5).toList = x1.toList then (some x0) else ((some (([] : List ByteArray) : List ByteArray)).bind fun y358 => (if x5 ≤ (x0.length : Int) then ((some (x0.take (x5 : Int).toNat : List ByteArray)).bind fun y361 => (if y358.length + y361.length < 8796093022208 then ((some (y358 ++ y361 : List ByteArray)).bind fun y365 => (if y365.length < 8796093022208 then ((some (y365 ++ [x1] : List ByteArray)).bind fun y368 => ((some (x0.drop (x5 : Int).toNat : List ByteArray)).bind fun y371 => (if y368.length + y371.length < 8796093022208 then (some (y368 ++ y371)) else (none)))) else (none))) else (none))) else (none))))) else (none)) else ((some (([] : List ByteArray) : List ByteArray)).bind fun y378 => (if 0 ≤ x5 then (if x5 ≤ (x0.length : Int) then ((some (x0.take (x5 : Int).toNat : List ByteArray)).bind fun y381 => (if y378.length + y381.length < 8796093022208 then ((some (y378 ++ y381 : List ByteArray)).bind fun y385 => (if y385.length < 8796093022208 then ((some (y385 ++ [x1] : List ByteArray)).bind fun y388 => ((some (x0.drop (x5 : Int).toNat : List ByteArray)).bind fun y391 => (if y388.length + y391.length < 8796093022208 then (some (y388 ++ y391)) else (none)))) else (none))) else (none))) else (none)) else (none)))
def plinthref03_put.f (k : Nat) (l0 : List ByteArray) (a1 : ByteArray) : Option (List ByteArray) := plinthref03_put.l0 k l0 a1 0
set_option maxHeartbeats 8000000 in
set_option maxRecDepth 100000 in
theorem plinthref03_put.calls (k : Nat) (P0_ : Nat → Prop) (u9000_ : Value) (l0 : List ByteArray) (a1 : ByteArray) (r : List ByteArray) (w0 w : World) (hB : Below w0.heap.size w0 w) (ho0 : Kd.R Kd.string 9 w w0.heap.size P0_ u9000_ l0) (h : plinthref03_put.f k l0 a1 = some r) :
    Calls Tryz.prog 48 #[u9000_, .string a1] w fun e w' => ∃ v0_ : Value, e = .returned (v0_) ∧ Kd.R Kd.string 9 w' w0.heap.size (fun k_ => (P0_ k_ ∨ w.heap.size ≤ k_)) v0_ r ∧ Below w0.heap.size w0 w' ∧ Kept w w' (fun k_ => P0_ k_) := by
  have HO0 := Aside0.mk (show Kd.R Kd.string 9 w w0.heap.size (fun k_ => (P0_ k_ ∨ w.heap.size ≤ k_)) u9000_ l0 from Kd.R_mono ho0 (fun k_ hk => (.inl hk)))
  have HK := Aside0.mk (Kept.refl w (fun k_ => P0_ k_))
  have HW0 := Aside0.mk hB.size
  have HB := Aside0.mk hB
  clear hB
  have H : (plinthref03_put.l0 k l0 a1 0) = some r := h
  clear h
  have H' := Aside0.mk H
  clear H
  go_enter Tryz.func48, Tryz.ntmps48
  go_wp2
  go_loopg [5] k (fun kq v5 w' => ∃ (x5_1 : Int), v5 = .int .i64 x5_1 ∧ Aside0 (plinthref03_put.l0 kq l0 a1 x5_1 = some r) ∧ Aside0 (kq ≤ k) ∧ Aside0 (Kd.R Kd.string 9 w' w0.heap.size (fun k_ => (P0_ k_ ∨ w.heap.size ≤ k_)) u9000_ l0) ∧ Aside0 (Kept w w' (fun k_ => P0_ k_)) ∧ Aside0 (Below w0.heap.size w0 w'))
  case atStart => exact ⟨(0), (by first | rfl | (simp; done) | (simp [*]; done)), H', ⟨Nat.le_refl _⟩, ⟨by (with_reducible repeat (first | apply Kd.R_alloc | apply Kd.R_drewN | apply Kd.R_drew)); exact HO0.out⟩, ⟨by repeat (first | (with_reducible first | exact HK.out | apply Kept.alloc | apply Kept.drewN | apply Kept.drew) | exact HK.out)⟩, ⟨by repeat (first | (with_reducible first | exact HB.out | apply below_alloc | apply pw_below_drewN | apply below_drew1) | exact HB.out)⟩⟩
  case round =>
    clear H'
    try clear p2
    obtain ⟨x5_1, rfl, HA, HK1, HO_0, HK, HB⟩ := hrel
    cases gk with
    | zero => exact absurd HA.out (by simp [plinthref03_put.l0])
    | succ k1 =>
      have H := HA.out
      clear HA
      simp only [plinthref03_put.l0] at H
      by_cases c3 : x5_1 < (l0.length : Int)
      · rw [if_pos c3] at H
        have c3b0 : decide (x5_1 < (l0.length : Int)) = true := decide_eq_true c3
        clear c3
        by_cases c4 : 0 ≤ x5_1
        · rw [if_pos c4] at H
          have c4b0 : decide (0 ≤ x5_1) = true := decide_eq_true c4
          clear c4
          by_cases c5 : (Op.bytesLess ((rdOf ByteArray.empty l0 x5_1).toList) a1.toList) = true
          · rw [if_pos c5] at H
            have c5b0 : (Op.bytesLess ((rdOf ByteArray.empty l0 x5_1).toList) a1.toList) = true := c5
            clear c5
            have H' := Aside0.mk H
            clear H
            obtain ⟨Ao6, co6, eo6⟩ := Kd.R_slice HO_0.out
            subst eo6
            have p356 : 0 ≤ (x5_1 : Int) := of_decide_eq_true (by first | (with_reducible assumption) | assumption)
            have q356 : x5_1 < (l0.length : Int) := of_decide_eq_true (by first | (with_reducible assumption) | assumption)
            obtain ⟨ad356, e356, hx356_0⟩ := Kd.at_string (Kd.R_reads' HO_0.out).2.2 x5_1 p356 q356
            cases e356
            replace p356 := eq_true p356
            replace q356 := eq_true q356
            go_wp2
            go_roundg k1
            case measure => have := HK1.out; omega
            case rel => exact ⟨(wrap64 (x5_1 + 1)), (by first | rfl | (simp; done) | (simp [*]; done)), H', ⟨by have := HK1.out; omega⟩, ⟨by (with_reducible repeat (first | apply Kd.R_alloc | apply Kd.R_drewN | apply Kd.R_drew)); exact HO_0.out⟩, ⟨by repeat (first | (with_reducible first | exact HK.out | apply Kept.alloc | apply Kept.drewN | apply Kept.drew) | exact HK.out)⟩, ⟨by repeat (first | (with_reducible first | exact HB.out | apply below_alloc | apply pw_below_drewN | apply below_drew1) | exact HB.out)⟩⟩
          · rw [if_neg c5] at H
            have c5b0 : (Op.bytesLess ((rdOf ByteArray.empty l0 x5_1).toList) a1.toList) = false := by simpa using c5
            clear c5
            by_cases c7 : (rdOf ByteArray.empty l0 x5_1).toList = a1.toList
            · rw [if_pos c7] at H
              have c7b0 : ((rdOf ByteArray.empty l0 x5_1).toList == a1.toList) = true := beq_iff_eq.mpr c7
              have c7b1 : ((rdOf ByteArray.empty l0 x5_1).toList != a1.toList) = false := bne_eq_false_iff_eq.mpr c7
              clear c7
              obtain rfl := Option.some.inj H
              obtain ⟨Ao8, co8, eo8⟩ := Kd.R_slice HO_0.out
              subst eo8
              have p356 : 0 ≤ (x5_1 : Int) := of_decide_eq_true (by first | (with_reducible assumption) | assumption)
              have q356 : x5_1 < (l0.length : Int) := of_decide_eq_true (by first | (with_reducible assumption) | assumption)
              obtain ⟨ad356, e356, hx356_0⟩ := Kd.at_string (Kd.R_reads' HO_0.out).2.2 x5_1 p356 q356
              cases e356
              replace p356 := eq_true p356
              replace q356 := eq_true q356
              have p357 : 0 ≤ (x5_1 : Int) := of_decide_eq_true (by first | (with_reducible assumption) | assumption)
              have q357 : x5_1 < (l0.length : Int) := of_decide_eq_true (by first | (with_reducible assumption) | assumption)
              obtain ⟨ad357, e357, hx357_0⟩ := Kd.at_string (Kd.R_reads' HO_0.out).2.2 x5_1 p357 q357
              obtain rfl : ad356 = ad357 := (by injection e357)
              replace p357 := eq_true p357
              replace q357 := eq_true q357
              go_wp2
              go_ret
              exact ⟨_, by first | rfl | (simp [errW_none, errW_some] <;> rfl) | (simp [*, errW_none, errW_some] <;> rfl), by (with_reducible repeat (first | apply Kd.R_alloc | apply Kd.R_drewN | apply Kd.R_drew)); exact HO_0.out, by repeat (first | (with_reducible first | exact HB.out | apply below_alloc | apply pw_below_drewN | apply below_drew1) | exact HB.out), by repeat (first | (with_reducible first | exact HK.out | apply Kept.alloc | apply Kept.drewN | apply Kept.drew) | exact HK.out)⟩
            · rw [if_neg c7] at H
              have c7b0 : ((rdOf ByteArray.empty l0 x5_1).toList == a1.toList) = false := beq_eq_false_iff_ne.mpr c7
              have c7b1 : ((rdOf ByteArray.empty l0 x5_1).toList != a1.toList) = true := bne_iff_ne.mpr c7
              obtain ⟨y358, hy358⟩ : ∃ y_ : List ByteArray, y_ = (([] : List ByteArray)) := ⟨_, rfl⟩
              replace H : (if x5_1 ≤ (l0.length : Int) then ((some (l0.take (x5_1 : Int).toNat : List ByteArray)).bind fun y361 => (if y358.length + y361.length < 8796093022208 then ((some (y358 ++ y361 : List ByteArray)).bind fun y365 => (if y365.length < 8796093022208 then ((some (y365 ++ [a1] : List ByteArray)).bind fun y368 => ((some (l0.drop (x5_1 : Int).toNat : List ByteArray)).bind fun y371 => (if y368.length + y371.length < 8796093022208 then (some (y368 ++ y371)) else (none)))) else (none))) else (none))) else (none)) = some r := by first | (rw [hy358]; with_reducible exact H) | (have H2_ := (Option.bind_some _ _).symm.trans H; rw [hy358]; with_reducible exact H2_) | (have H2_ := (Option.bind_some _ _).symm.trans H; with_reducible exact H2_) | with_reducible exact H | (rw [hy358]; exact H) | exact H
              have Ny358 := Aside0.mk hy358
              clear hy358
              have c9b0 := eq_true (of_decide_eq_true (by first | (with_reducible assumption) | assumption) : 0 ≤ x5_1)
              by_cases c10 : x5_1 ≤ (l0.length : Int)
              · rw [if_pos c10] at H
                have c10b0 := eq_true c10
                have c10b1 : decide (x5_1 ≤ (l0.length : Int)) = true := decide_eq_true c10
                clear c10
                obtain ⟨y361, hy361⟩ : ∃ y_ : List ByteArray, y_ = (l0.take (x5_1 : Int).toNat) := ⟨_, rfl⟩
                replace H : (if y358.length + y361.length < 8796093022208 then ((some (y358 ++ y361 : List ByteArray)).bind fun y365 => (if y365.length < 8796093022208 then ((some (y365 ++ [a1] : List ByteArray)).bind fun y368 => ((some (l0.drop (x5_1 : Int).toNat : List ByteArray)).bind fun y371 => (if y368.length + y371.length < 8796093022208 then (some (y368 ++ y371)) else (none)))) else (none))) else (none)) = some r := by first | (rw [hy361]; with_reducible exact H) | (have H2_ := (Option.bind_some _ _).symm.trans H; rw [hy361]; with_reducible exact H2_) | (have H2_ := (Option.bind_some _ _).symm.trans H; with_reducible exact H2_) | with_reducible exact H | (rw [hy361]; exact H) | exact H
                have Ny361 := Aside0.mk hy361
                clear hy361
                by_cases c11 : y358.length + y361.length < 8796093022208
                · rw [if_pos c11] at H
                  have LMc11 := Aside0.mk c11
                  clear c11
                  obtain ⟨y365, hy365⟩ : ∃ y_ : List ByteArray, y_ = (y358 ++ y361) := ⟨_, rfl⟩
                  replace H : (if y365.length < 8796093022208 then ((some (y365 ++ [a1] : List ByteArray)).bind fun y368 => ((some (l0.drop (x5_1 : Int).toNat : List ByteArray)).bind fun y371 => (if y368.length + y371.length < 8796093022208 then (some (y368 ++ y371)) else (none)))) else (none)) = some r := by first | (rw [hy365]; with_reducible exact H) | (have H2_ := (Option.bind_some _ _).symm.trans H; rw [hy365]; with_reducible exact H2_) | (have H2_ := (Option.bind_some _ _).symm.trans H; with_reducible exact H2_) | with_reducible exact H | (rw [hy365]; exact H) | exact H
                  have Ny365 := Aside0.mk hy365
                  clear hy365
                  by_cases c12 : y365.length < 8796093022208
                  · rw [if_pos c12] at H
                    have LMc12 := Aside0.mk c12
                    clear c12
                    obtain ⟨y368, hy368⟩ : ∃ y_ : List ByteArray, y_ = (y365 ++ [a1]) := ⟨_, rfl⟩
                    replace H : ((some (l0.drop (x5_1 : Int).toNat : List ByteArray)).bind fun y371 => (if y368.length + y371.length < 8796093022208 then (some (y368 ++ y371)) else (none))) = some r := by first | (rw [hy368]; with_reducible exact H) | (have H2_ := (Option.bind_some _ _).symm.trans H; rw [hy368]; with_reducible exact H2_) | (have H2_ := (Option.bind_some _ _).symm.trans H; with_reducible exact H2_) | with_reducible exact H | (rw [hy368]; exact H) | exact H
                    have Ny368 := Aside0.mk hy368
                    clear hy368
                    have c13b0 := eq_true (of_decide_eq_true (by first | (with_reducible assumption) | assumption) : 0 ≤ x5_1)
                    have c14b0 := eq_true (of_decide_eq_true (by first | (with_reducible assumption) | assumption) : x5_1 ≤ (l0.length : Int))
                    obtain ⟨y371, hy371⟩ : ∃ y_ : List ByteArray, y_ = (l0.drop (x5_1 : Int).toNat) := ⟨_, rfl⟩
                    replace H : (if y368.length + y371.length < 8796093022208 then (some (y368 ++ y371)) else (none)) = some r := by first | (rw [hy371]; with_reducible exact H) | (have H2_ := (Option.bind_some _ _).symm.trans H; rw [hy371]; with_reducible exact H2_) | (have H2_ := (Option.bind_some _ _).symm.trans H; with_reducible exact H2_) | with_reducible exact H | (rw [hy371]; exact H) | exact H
                    have Ny371 := Aside0.mk hy371
                    clear hy371
                    by_cases c15 : y368.length + y371.length < 8796093022208
                    · rw [if_pos c15] at H
                      have LMc15 := Aside0.mk c15
                      clear c15
                      obtain ⟨y375, hy375⟩ : ∃ y_ : List ByteArray, y_ = (y368 ++ y371) := ⟨_, rfl⟩
                      replace H : (some y375) = some r := by first | (rw [hy375]; with_reducible exact H) | (have H2_ := (Option.bind_some _ _).symm.trans H; rw [hy375]; with_reducible exact H2_) | (have H2_ := (Option.bind_some _ _).symm.trans H; with_reducible exact H2_) | with_reducible exact H | (rw [hy375]; exact H) | exact H
                      have Ny375 := Aside0.mk hy375
                      clear hy375
                      obtain rfl := Option.some.inj H
                      obtain ⟨Ao16, co16, eo16⟩ := Kd.R_slice HO_0.out
                      subst eo16
                      have p356 : 0 ≤ (x5_1 : Int) := of_decide_eq_true (by first | (with_reducible assumption) | assumption)
                      have q356 : x5_1 < (l0.length : Int) := of_decide_eq_true (by first | (with_reducible assumption) | assumption)
                      obtain ⟨ad356, e356, hx356_0⟩ := Kd.at_string (Kd.R_reads' HO_0.out).2.2 x5_1 p356 q356
                      cases e356
                      replace p356 := eq_true p356
                      replace q356 := eq_true q356
                      have p357 : 0 ≤ (x5_1 : Int) := of_decide_eq_true (by first | (with_reducible assumption) | assumption)
                      have q357 : x5_1 < (l0.length : Int) := of_decide_eq_true (by first | (with_reducible assumption) | assumption)
                      obtain ⟨ad357, e357, hx357_0⟩ := Kd.at_string (Kd.R_reads' HO_0.out).2.2 x5_1 p357 q357
                      obtain rfl : ad356 = ad357 := (by injection e357)
                      replace p357 := eq_true p357
                      replace q357 := eq_true q357
                      go_wp2_with (first | ((with_reducible refine gate_dst (N := 34) rfl ?_); refine Kd.R_lit Kd.string _ 9 ?hg (N := 34) ?hd (xs := ([] : List ByteArray)) (inner := []) (ok := fun _ => True) (okp := fun _ => True) ?hr ?hp (fun _ hk => hk) trivial (Below.refl _ _) (Nat.le_refl _) (by simp) ?_; (case hd => rfl); (case hg => rfl); (case hr => first | (go_simp; done) | (go_simp; rfl)); (case hp => exact (Reps.none _ _)); intro v359 w17 ho18 hb hg_ hnew_; clear hg_ hnew_; (first | rw [← Ny358.out] at ho18 | (simp only [Int.reduceToNat] at ho18; rw [← Ny358.out] at ho18)); have n0_ := Aside0.mk (Kd.R_elder' (by (with_reducible repeat (first | apply Kd.R_alloc | apply Kd.R_drewN | apply Kd.R_drew)); exact HO_0.out) (Kd.R_base ho18) hb); have n1_ := Aside0.mk (Kd.R_lower (Kd.R_new' (Kd.R_newM (M := fun k_ => (P0_ k_ ∨ w.heap.size ≤ k_)) ho18 (by first | exact HK.out.1 | exact (show Kept w _ (fun k_ => P0_ k_) from by repeat (first | (with_reducible first | exact HK.out | apply Kept.alloc | apply Kept.drewN | apply Kept.drew) | exact HK.out)).1) (fun k_ h_ => .inr h_)) (Kd.R_lt (by (with_reducible repeat (first | apply Kd.R_alloc | apply Kd.R_drewN | apply Kd.R_drew)); exact HO_0.out))) (below_size (by repeat (first | (with_reducible first | exact HB.out | apply below_alloc | apply pw_below_drewN | apply below_drew1) | exact HB.out)))); have n2_ := Aside0.mk (Kept.below (S := (fun k_ => P0_ k_)) (by repeat (first | (with_reducible first | exact HK.out | apply Kept.alloc | apply Kept.drewN | apply Kept.drew) | exact HK.out)) hb); have n3_ := Aside0.mk (below_step (by repeat (first | (with_reducible first | exact HB.out | apply below_alloc | apply pw_below_drewN | apply below_drew1) | exact HB.out)) hb); clear HO_0; clear HK; clear HB; have HO_0 := n0_; have HO360 := n1_; have HK := n2_; have HB := n3_; clear n0_ n1_ n2_ n3_; clear hb ho18; have q19 : (x5_1 : Int) ≤ ((l0.length : Int) : Int) := of_decide_eq_true (by first | (with_reducible assumption) | assumption); obtain ⟨i019, hi019, _, hsz19, _⟩ := info_parts info9; have hroom19 : l0.length ≤ co16 := (Kd.R_reads' HO_0.out).2.1; have hC19 : Kd.C Kd.string _ (some ad356) l0.length l0 := (Kd.R_reads' HO_0.out).2.2; have hcut19 := cut_to (P := Tryz.prog) 38 9 .i64 Tryz.underlying38 hi019 (some ad356) l0.length co16 x5_1 (of_decide_eq_true (by first | (with_reducible assumption) | assumption)) q19 hroom19; have hr19 := Kd.C_take (m := (x5_1 : Int).toNat) hC19 (by omega); have hy19 : y361.length = (x5_1 : Int).toNat := (by rw [Ny361.out, List.length_take]; omega); rw [← Ny361.out] at hr19; rw [← hy19] at hcut19; have HR364 := Aside0.mk hr19; have HC364 := Aside0.mk (show y361.length ≤ co16 from by omega); clear hr19 hC19 hroom19 hi019 hsz19; have KY19 := Aside0.mk hy19; clear hy19; have KL19 := Aside0.mk (show (x5_1 : Int).toNat ≤ l0.length from by omega); replace q19 := eq_true q19) | ((with_reducible refine gate_builtin (b := .append) (xs := #[.tmp 34, .tmp 37]) rfl ?_); at_builtin; refine Kd.R_append_rows Kd.string (w0 := w0) w0.heap.size rfl (.tmp 34) (.tmp 37) 38 9 (.string ⟨#[]⟩) 16 rfl Tryz.underlying38 info9 rfl (by decide) (by omega) v359 y358 y361 _ _ _ (fun k_ => (P0_ k_ ∨ w.heap.size ≤ k_) ∧ some k_ ≠ (.slice (some ad356) l0.length co16 : Value).ownBlock) (fun _ => False) rfl rfl ?aO ?aR (fun _ _ h => h) (fun _ h => h.elim) ?aF ?aB ?aS ?aL ?_; (case aR => repeat (first | exact (by repeat (first | (with_reducible exact HR364.out) | (with_reducible refine Kd.C_alloc ?_ _) | (with_reducible refine Kd.C_drewN ?_ _) | (with_reducible refine Kd.C_drew ?_) | exact HR364.out)) | (with_reducible refine Kd.C_alloc ?_ _) | (with_reducible refine Kd.C_drewN ?_ _) | (with_reducible refine Kd.C_drew ?_))); (case aB => exact (by repeat (first | (with_reducible first | exact HB.out | apply below_alloc | apply pw_below_drewN | apply below_drew1) | exact HB.out))); (case aF => exact (fun k_ hk => ⟨(.inr (Nat.le_trans (by first | exact HK.out.1 | exact (show Kept w _ (fun k_ => P0_ k_) from by repeat (first | (with_reducible first | exact HK.out | apply Kept.alloc | apply Kept.drewN | apply Kept.drew) | exact HK.out)).1) hk)), Kd.fresh' (Kd.R_lt (by (with_reducible repeat (first | apply Kd.R_alloc | apply Kd.R_drewN | apply Kd.R_drew)); exact HO_0.out)) k_ hk⟩)); (case aO => exact (by (with_reducible repeat (first | apply Kd.R_alloc | apply Kd.R_drewN | apply Kd.R_drew)); exact Kd.R_mono HO360.out (fun _ hk => ⟨hk.1.1, hk.2⟩))); (case aS => exact (below_size (by repeat (first | (with_reducible first | exact HB.out | apply below_alloc | apply pw_below_drewN | apply below_drew1) | exact HB.out)))); (case aL => have := LMc11.out; omega); intro v366 w20 ho hb hg hat; rw [← Ny365.out] at ho; have n0_ := Aside0.mk (Kd.R_after (ok := (fun k_ => (P0_ k_ ∨ w.heap.size ≤ k_))) (by (with_reducible repeat (first | apply Kd.R_alloc | apply Kd.R_drewN | apply Kd.R_drew)); exact HO_0.out) hg hat); have n1_ := Aside0.mk (hb); have n2_ := Aside0.mk (Kept.of_grown (S := (fun k_ => P0_ k_)) hg (by repeat (first | (with_reducible first | exact HK.out | apply Kept.alloc | apply Kept.drewN | apply Kept.drew) | exact HK.out)) (fun k_ e_ => (HO360.out.1 k_ e_).1.1)); have n3_ := Aside0.mk ((show Kd.C Kd.string w20 (some ad356) y361.length y361 from by rw [Ny361.out]; exact Kd.C_take (m := (x5_1 : Int).toNat) ((Kd.R_reads' (Kd.R_after (ok := (fun k_ => (P0_ k_ ∨ w.heap.size ≤ k_))) (by (with_reducible repeat (first | apply Kd.R_alloc | apply Kd.R_drewN | apply Kd.R_drew)); exact HO_0.out) hg hat)).2.2) KL19.out)); have n4_ := Aside0.mk (ho); clear HO_0; clear HB; clear HK; clear HR364; clear HO360; have HO_0 := n0_; have HB := n1_; have HK := n2_; have HR364 := n3_; have HO367 := n4_; clear n0_ n1_ n2_ n3_ n4_; clear ho hb hg hat) | ((with_reducible refine gate_builtin (b := .append) (xs := #[.tmp 39, .tmp 41]) rfl ?_); at_builtin; refine Kd.R_append Kd.string (w0 := w0) w0.heap.size rfl (.tmp 39) (.tmp 41) 38 9 (.string ⟨#[]⟩) 16 rfl Tryz.underlying38 info9 rfl (by decide) (by omega) v366 y365 a1 [.string a1] (fun k_ => (P0_ k_ ∨ w.heap.size ≤ k_) ∧ some k_ ≠ (.slice (some ad356) l0.length co16 : Value).ownBlock) (fun _ => False) rfl rfl ?aP (fun _ hk => hk.elim) ?aF ?aO ?aB ?aS ?aL ?_; (case aP => exact rfl); (case aB => exact (by repeat (first | (with_reducible first | exact HB.out | apply below_alloc | apply pw_below_drewN | apply below_drew1) | exact HB.out))); (case aF => exact (fun k_ hk => ⟨(.inr (Nat.le_trans (by first | exact HK.out.1 | exact (show Kept w _ (fun k_ => P0_ k_) from by repeat (first | (with_reducible first | exact HK.out | apply Kept.alloc | apply Kept.drewN | apply Kept.drew) | exact HK.out)).1) hk)), Kd.fresh' (Kd.R_lt (by (with_reducible repeat (first | apply Kd.R_alloc | apply Kd.R_drewN | apply Kd.R_drew)); exact HO_0.out)) k_ hk⟩)); (case aO => exact (by (with_reducible repeat (first | apply Kd.R_alloc | apply Kd.R_drewN | apply Kd.R_drew)); exact HO367.out)); (case aS => exact (below_size (by repeat (first | (with_reducible first | exact HB.out | apply below_alloc | apply pw_below_drewN | apply below_drew1) | exact HB.out)))); (case aL => have := LMc12.out; omega); intro v369 w21 ho hb hg hat; rw [← Ny368.out] at ho; have n0_ := Aside0.mk (Kd.R_after (ok := (fun k_ => (P0_ k_ ∨ w.heap.size ≤ k_))) (by (with_reducible repeat (first | apply Kd.R_alloc | apply Kd.R_drewN | apply Kd.R_drew)); exact HO_0.out) hg hat); have n1_ := Aside0.mk (hb); have n2_ := Aside0.mk (Kept.of_grown (S := (fun k_ => P0_ k_)) hg (by repeat (first | (with_reducible first | exact HK.out | apply Kept.alloc | apply Kept.drewN | apply Kept.drew) | exact HK.out)) (fun k_ e_ => (HO367.out.1 k_ e_).1)); have n3_ := Aside0.mk ((show Kd.C Kd.string w21 (some ad356) y361.length y361 from by rw [Ny361.out]; exact Kd.C_take (m := (x5_1 : Int).toNat) ((Kd.R_reads' (Kd.R_after (ok := (fun k_ => (P0_ k_ ∨ w.heap.size ≤ k_))) (by (with_reducible repeat (first | apply Kd.R_alloc | apply Kd.R_drewN | apply Kd.R_drew)); exact HO_0.out) hg hat)).2.2) KL19.out)); have n4_ := Aside0.mk (ho); clear HO_0; clear HB; clear HK; clear HR364; clear HO367; have HO_0 := n0_; have HB := n1_; have HK := n2_; have HR364 := n3_; have HO370 := n4_; clear n0_ n1_ n2_ n3_ n4_; clear ho hb hg hat; have q22 : (x5_1 : Int) ≤ ((l0.length : Int) : Int) := of_decide_eq_true (by first | (with_reducible assumption) | assumption); obtain ⟨i022, hi022, _, hsz22, _⟩ := info_parts info9; have hroom22 : l0.length ≤ co16 := (Kd.R_reads' HO_0.out).2.1; have hC22 : Kd.C Kd.string _ (some ad356) l0.length l0 := (Kd.R_reads' HO_0.out).2.2; have q022 : (0 : Int) ≤ (x5_1 : Int) := of_decide_eq_true (by first | (with_reducible assumption) | assumption); have hcut22 := cut_from (P := Tryz.prog) 38 9 .i64 Tryz.underlying38 hi022 1 hsz22 (some ad356) l0.length co16 x5_1 q022 q22; have hr22 := Kd.C_drop (m := (x5_1 : Int).toNat) (c := co16) hC22 (by omega) hroom22; obtain ⟨A22, hA22⟩ : ∃ A1, A1 = (if co16 = (x5_1 : Int).toNat then (some ad356) else ((some ad356) : Option Addr).map (·.add ((x5_1 : Int).toNat * 1))) := ⟨_, rfl⟩; obtain ⟨c22, hc22⟩ : ∃ c1, c1 = co16 - (x5_1 : Int).toNat := ⟨_, rfl⟩; have hy22 : y371.length = l0.length - (x5_1 : Int).toNat := (by rw [Ny371.out, List.length_drop] <;> omega); rw [show (l0).drop (x5_1 : Int).toNat = y371 from Ny371.out.symm] at hr22; replace hr22 : Kd.C Kd.string _ A22 y371.length y371 := (by rw [hA22]; exact hr22); rw [← hy22, ← hA22, ← hc22] at hcut22; have HR374 := Aside0.mk hr22; have HC374 := Aside0.mk (show y371.length ≤ c22 from by rw [hy22, hc22]; exact Nat.sub_le_sub_right hroom22 _); clear hr22 hC22 hroom22 hi022 hsz22 hc22; have KY22 := Aside0.mk hy22; have KA22 := Aside0.mk hA22; clear hy22 hA22; have KL22 := Aside0.mk (show (x5_1 : Int).toNat ≤ l0.length from by omega); replace q22 := eq_true q22) | ((with_reducible refine gate_builtin (b := .append) (xs := #[.tmp 43, .tmp 46]) rfl ?_); at_builtin; refine Kd.R_append_rows Kd.string (w0 := w0) w0.heap.size rfl (.tmp 43) (.tmp 46) 38 9 (.string ⟨#[]⟩) 16 rfl Tryz.underlying38 info9 rfl (by decide) (by omega) v369 y368 y371 _ _ _ (fun k_ => (P0_ k_ ∨ w.heap.size ≤ k_) ∧ some k_ ≠ (.slice (some ad356) l0.length co16 : Value).ownBlock) (fun _ => False) rfl rfl ?aO ?aR (fun _ _ h => h) (fun _ h => h.elim) ?aF ?aB ?aS ?aL ?_; (case aR => repeat (first | exact (by repeat (first | (with_reducible exact HR374.out) | (with_reducible refine Kd.C_alloc ?_ _) | (with_reducible refine Kd.C_drewN ?_ _) | (with_reducible refine Kd.C_drew ?_) | exact HR374.out)) | (with_reducible refine Kd.C_alloc ?_ _) | (with_reducible refine Kd.C_drewN ?_ _) | (with_reducible refine Kd.C_drew ?_))); (case aB => exact (by repeat (first | (with_reducible first | exact HB.out | apply below_alloc | apply pw_below_drewN | apply below_drew1) | exact HB.out))); (case aF => exact (fun k_ hk => ⟨(.inr (Nat.le_trans (by first | exact HK.out.1 | exact (show Kept w _ (fun k_ => P0_ k_) from by repeat (first | (with_reducible first | exact HK.out | apply Kept.alloc | apply Kept.drewN | apply Kept.drew) | exact HK.out)).1) hk)), Kd.fresh' (Kd.R_lt (by (with_reducible repeat (first | apply Kd.R_alloc | apply Kd.R_drewN | apply Kd.R_drew)); exact HO_0.out)) k_ hk⟩)); (case aO => exact (by (with_reducible repeat (first | apply Kd.R_alloc | apply Kd.R_drewN | apply Kd.R_drew)); exact HO370.out)); (case aS => exact (below_size (by repeat (first | (with_reducible first | exact HB.out | apply below_alloc | apply pw_below_drewN | apply below_drew1) | exact HB.out)))); (case aL => have := LMc15.out; omega); intro v376 w23 ho hb hg hat; rw [← Ny375.out] at ho; have n0_ := Aside0.mk (Kd.R_after (ok := (fun k_ => (P0_ k_ ∨ w.heap.size ≤ k_))) (by (with_reducible repeat (first | apply Kd.R_alloc | apply Kd.R_drewN | apply Kd.R_drew)); exact HO_0.out) hg hat); have n1_ := Aside0.mk (hb); have n2_ := Aside0.mk (Kept.of_grown (S := (fun k_ => P0_ k_)) hg (by repeat (first | (with_reducible first | exact HK.out | apply Kept.alloc | apply Kept.drewN | apply Kept.drew) | exact HK.out)) (fun k_ e_ => (HO370.out.1 k_ e_).1)); have n3_ := Aside0.mk ((show Kd.C Kd.string w23 (some ad356) y361.length y361 from by rw [Ny361.out]; exact Kd.C_take (m := (x5_1 : Int).toNat) ((Kd.R_reads' (Kd.R_after (ok := (fun k_ => (P0_ k_ ∨ w.heap.size ≤ k_))) (by (with_reducible repeat (first | apply Kd.R_alloc | apply Kd.R_drewN | apply Kd.R_drew)); exact HO_0.out) hg hat)).2.2) KL19.out)); have n4_ := Aside0.mk ((show Kd.C Kd.string w23 A22 y371.length y371 from by rw [Ny371.out, KA22.out]; exact Kd.C_drop (m := (x5_1 : Int).toNat) (c := co16) ((Kd.R_reads' (Kd.R_after (ok := (fun k_ => (P0_ k_ ∨ w.heap.size ≤ k_))) (by (with_reducible repeat (first | apply Kd.R_alloc | apply Kd.R_drewN | apply Kd.R_drew)); exact HO_0.out) hg hat)).2.2) KL22.out ((Kd.R_reads' (Kd.R_after (ok := (fun k_ => (P0_ k_ ∨ w.heap.size ≤ k_))) (by (with_reducible repeat (first | apply Kd.R_alloc | apply Kd.R_drewN | apply Kd.R_drew)); exact HO_0.out) hg hat)).2.1))); have n5_ := Aside0.mk (ho); clear HO_0; clear HB; clear HK; clear HR364; clear HR374; clear HO370; have HO_0 := n0_; have HB := n1_; have HK := n2_; have HR364 := n3_; have HR374 := n4_; have HO377 := n5_; clear n0_ n1_ n2_ n3_ n4_ n5_; clear ho hb hg hat))
                      go_ret
                      exact ⟨_, by first | rfl | (simp [errW_none, errW_some] <;> rfl) | (simp [*, errW_none, errW_some] <;> rfl), by (with_reducible repeat (first | apply Kd.R_alloc | apply Kd.R_drewN | apply Kd.R_drew)); exact Kd.R_mono HO377.out (fun _ hk => hk.1), by repeat (first | (with_reducible first | exact HB.out | apply below_alloc | apply pw_below_drewN | apply below_drew1) | exact HB.out), by repeat (first | (with_reducible first | exact HK.out | apply Kept.alloc | apply Kept.drewN | apply Kept.drew) | exact HK.out)⟩
                    · rw [if_neg c15] at H
                      exact absurd H (by simp)
                  · rw [if_neg c12] at H
                    exact absurd H (by simp)
                · rw [if_neg c11] at H
                  exact absurd H (by simp)
              · rw [if_neg c10] at H
                exact absurd H (by simp)
        · rw [if_neg c4] at H
          exact absurd H (by simp)
      · rw [if_neg c3] at H
        have c3b0 : decide (x5_1 < (l0.length : Int)) = false := decide_eq_false c3
        clear c3
        obtain ⟨y378, hy378⟩ : ∃ y_ : List ByteArray, y_ = (([] : List ByteArray)) := ⟨_, rfl⟩
        replace H : (if 0 ≤ x5_1 then (if x5_1 ≤ (l0.length : Int) then ((some (l0.take (x5_1 : Int).toNat : List ByteArray)).bind fun y381 => (if y378.length + y381.length < 8796093022208 then ((some (y378 ++ y381 : List ByteArray)).bind fun y385 => (if y385.length < 8796093022208 then ((some (y385 ++ [a1] : List ByteArray)).bind fun y388 => ((some (l0.drop (x5_1 : Int).toNat : List ByteArray)).bind fun y391 => (if y388.length + y391.length < 8796093022208 then (some (y388 ++ y391)) else (none)))) else (none))) else (none))) else (none)) else (none)) = some r := by first | (rw [hy378]; with_reducible exact H) | (have H2_ := (Option.bind_some _ _).symm.trans H; rw [hy378]; with_reducible exact H2_) | (have H2_ := (Option.bind_some _ _).symm.trans H; with_reducible exact H2_) | with_reducible exact H | (rw [hy378]; exact H) | exact H
        have Ny378 := Aside0.mk hy378
        clear hy378
        by_cases c24 : 0 ≤ x5_1
        · rw [if_pos c24] at H
          have c24b0 := eq_true c24
          have c24b1 : decide (0 ≤ x5_1) = true := decide_eq_true c24
          clear c24
          by_cases c25 : x5_1 ≤ (l0.length : Int)
          · rw [if_pos c25] at H
            have c25b0 := eq_true c25
            have c25b1 : decide (x5_1 ≤ (l0.length : Int)) = true := decide_eq_true c25
            clear c25
            obtain ⟨y381, hy381⟩ : ∃ y_ : List ByteArray, y_ = (l0.take (x5_1 : Int).toNat) := ⟨_, rfl⟩
            replace H : (if y378.length + y381.length < 8796093022208 then ((some (y378 ++ y381 : List ByteArray)).bind fun y385 => (if y385.length < 8796093022208 then ((some (y385 ++ [a1] : List ByteArray)).bind fun y388 => ((some (l0.drop (x5_1 : Int).toNat : List ByteArray)).bind fun y391 => (if y388.length + y391.length < 8796093022208 then (some (y388 ++ y391)) else (none)))) else (none))) else (none)) = some r := by first | (rw [hy381]; with_reducible exact H) | (have H2_ := (Option.bind_some _ _).symm.trans H; rw [hy381]; with_reducible exact H2_) | (have H2_ := (Option.bind_some _ _).symm.trans H; with_reducible exact H2_) | with_reducible exact H | (rw [hy381]; exact H) | exact H
            have Ny381 := Aside0.mk hy381
            clear hy381
            by_cases c26 : y378.length + y381.length < 8796093022208
            · rw [if_pos c26] at H
              have LMc26 := Aside0.mk c26
              clear c26
              obtain ⟨y385, hy385⟩ : ∃ y_ : List ByteArray, y_ = (y378 ++ y381) := ⟨_, rfl⟩
              replace H : (if y385.length < 8796093022208 then ((some (y385 ++ [a1] : List ByteArray)).bind fun y388 => ((some (l0.drop (x5_1 : Int).toNat : List ByteArray)).bind fun y391 => (if y388.length + y391.length < 8796093022208 then (some (y388 ++ y391)) else (none)))) else (none)) = some r := by first | (rw [hy385]; with_reducible exact H) | (have H2_ := (Option.bind_some _ _).symm.trans H; rw [hy385]; with_reducible exact H2_) | (have H2_ := (Option.bind_some _ _).symm.trans H; with_reducible exact H2_) | with_reducible exact H | (rw [hy385]; exact H) | exact H
              have Ny385 := Aside0.mk hy385
              clear hy385
              by_cases c27 : y385.length < 8796093022208
              · rw [if_pos c27] at H
                have LMc27 := Aside0.mk c27
                clear c27
                obtain ⟨y388, hy388⟩ : ∃ y_ : List ByteArray, y_ = (y385 ++ [a1]) := ⟨_, rfl⟩
                replace H : ((some (l0.drop (x5_1 : Int).toNat : List ByteArray)).bind fun y391 => (if y388.length + y391.length < 8796093022208 then (some (y388 ++ y391)) else (none))) = some r := by first | (rw [hy388]; with_reducible exact H) | (have H2_ := (Option.bind_some _ _).symm.trans H; rw [hy388]; with_reducible exact H2_) | (have H2_ := (Option.bind_some _ _).symm.trans H; with_reducible exact H2_) | with_reducible exact H | (rw [hy388]; exact H) | exact H
                have Ny388 := Aside0.mk hy388
                clear hy388
                have c28b0 := eq_true (of_decide_eq_true (by first | (with_reducible assumption) | assumption) : 0 ≤ x5_1)
                have c29b0 := eq_true (of_decide_eq_true (by first | (with_reducible assumption) | assumption) : x5_1 ≤ (l0.length : Int))
                obtain ⟨y391, hy391⟩ : ∃ y_ : List ByteArray, y_ = (l0.drop (x5_1 : Int).toNat) := ⟨_, rfl⟩
                replace H : (if y388.length + y391.length < 8796093022208 then (some (y388 ++ y391)) else (none)) = some r := by first | (rw [hy391]; with_reducible exact H) | (have H2_ := (Option.bind_some _ _).symm.trans H; rw [hy391]; with_reducible exact H2_) | (have H2_ := (Option.bind_some _ _).symm.trans H; with_reducible exact H2_) | with_reducible exact H | (rw [hy391]; exact H) | exact H
                have Ny391 := Aside0.mk hy391
                clear hy391
                by_cases c30 : y388.length + y391.length < 8796093022208
                · rw [if_pos c30] at H
                  have LMc30 := Aside0.mk c30
                  clear c30
                  obtain ⟨y395, hy395⟩ : ∃ y_ : List ByteArray, y_ = (y388 ++ y391) := ⟨_, rfl⟩
                  replace H : (some y395) = some r := by first | (rw [hy395]; with_reducible exact H) | (have H2_ := (Option.bind_some _ _).symm.trans H; rw [hy395]; with_reducible exact H2_) | (have H2_ := (Option.bind_some _ _).symm.trans H; with_reducible exact H2_) | with_reducible exact H | (rw [hy395]; exact H) | exact H
                  have Ny395 := Aside0.mk hy395
                  clear hy395
                  obtain rfl := Option.some.inj H
                  obtain ⟨Ao31, co31, eo31⟩ := Kd.R_slice HO_0.out
                  subst eo31
                  go_wp2_with (first | ((with_reducible refine gate_dst (N := 34) rfl ?_); refine Kd.R_lit Kd.string _ 9 ?hg (N := 34) ?hd (xs := ([] : List ByteArray)) (inner := []) (ok := fun _ => True) (okp := fun _ => True) ?hr ?hp (fun _ hk => hk) trivial (Below.refl _ _) (Nat.le_refl _) (by simp) ?_; (case hd => rfl); (case hg => rfl); (case hr => first | (go_simp; done) | (go_simp; rfl)); (case hp => exact (Reps.none _ _)); intro v379 w32 ho33 hb hg_ hnew_; clear hg_ hnew_; (first | rw [← Ny378.out] at ho33 | (simp only [Int.reduceToNat] at ho33; rw [← Ny378.out] at ho33)); have n0_ := Aside0.mk (Kd.R_elder' (by (with_reducible repeat (first | apply Kd.R_alloc | apply Kd.R_drewN | apply Kd.R_drew)); exact HO_0.out) (Kd.R_base ho33) hb); have n1_ := Aside0.mk (Kd.R_lower (Kd.R_new' (Kd.R_newM (M := fun k_ => (P0_ k_ ∨ w.heap.size ≤ k_)) ho33 (by first | exact HK.out.1 | exact (show Kept w _ (fun k_ => P0_ k_) from by repeat (first | (with_reducible first | exact HK.out | apply Kept.alloc | apply Kept.drewN | apply Kept.drew) | exact HK.out)).1) (fun k_ h_ => .inr h_)) (Kd.R_lt (by (with_reducible repeat (first | apply Kd.R_alloc | apply Kd.R_drewN | apply Kd.R_drew)); exact HO_0.out))) (below_size (by repeat (first | (with_reducible first | exact HB.out | apply below_alloc | apply pw_below_drewN | apply below_drew1) | exact HB.out)))); have n2_ := Aside0.mk (Kept.below (S := (fun k_ => P0_ k_)) (by repeat (first | (with_reducible first | exact HK.out | apply Kept.alloc | apply Kept.drewN | apply Kept.drew) | exact HK.out)) hb); have n3_ := Aside0.mk (below_step (by repeat (first | (with_reducible first | exact HB.out | apply below_alloc | apply pw_below_drewN | apply below_drew1) | exact HB.out)) hb); clear HO_0; clear HK; clear HB; have HO_0 := n0_; have HO380 := n1_; have HK := n2_; have HB := n3_; clear n0_ n1_ n2_ n3_; clear hb ho33; have q34 : (x5_1 : Int) ≤ ((l0.length : Int) : Int) := of_decide_eq_true (by first | (with_reducible assumption) | assumption); obtain ⟨i034, hi034, _, hsz34, _⟩ := info_parts info9; have hroom34 : l0.length ≤ co31 := (Kd.R_reads' HO_0.out).2.1; have hC34 : Kd.C Kd.string _ Ao31 l0.length l0 := (Kd.R_reads' HO_0.out).2.2; have hcut34 := cut_to (P := Tryz.prog) 38 9 .i64 Tryz.underlying38 hi034 Ao31 l0.length co31 x5_1 (of_decide_eq_true (by first | (with_reducible assumption) | assumption)) q34 hroom34; have hr34 := Kd.C_take (m := (x5_1 : Int).toNat) hC34 (by omega); have hy34 : y381.length = (x5_1 : Int).toNat := (by rw [Ny381.out, List.length_take]; omega); rw [← Ny381.out] at hr34; rw [← hy34] at hcut34; have HR384 := Aside0.mk hr34; have HC384 := Aside0.mk (show y381.length ≤ co31 from by omega); clear hr34 hC34 hroom34 hi034 hsz34; have KY34 := Aside0.mk hy34; clear hy34; have KL34 := Aside0.mk (show (x5_1 : Int).toNat ≤ l0.length from by omega); replace q34 := eq_true q34) | ((with_reducible refine gate_builtin (b := .append) (xs := #[.tmp 34, .tmp 37]) rfl ?_); at_builtin; refine Kd.R_append_rows Kd.string (w0 := w0) w0.heap.size rfl (.tmp 34) (.tmp 37) 38 9 (.string ⟨#[]⟩) 16 rfl Tryz.underlying38 info9 rfl (by decide) (by omega) v379 y378 y381 _ _ _ (fun k_ => (P0_ k_ ∨ w.heap.size ≤ k_) ∧ some k_ ≠ (.slice Ao31 l0.length co31 : Value).ownBlock) (fun _ => False) rfl rfl ?aO ?aR (fun _ _ h => h) (fun _ h => h.elim) ?aF ?aB ?aS ?aL ?_; (case aR => repeat (first | exact (by repeat (first | (with_reducible exact HR384.out) | (with_reducible refine Kd.C_alloc ?_ _) | (with_reducible refine Kd.C_drewN ?_ _) | (with_reducible refine Kd.C_drew ?_) | exact HR384.out)) | (with_reducible refine Kd.C_alloc ?_ _) | (with_reducible refine Kd.C_drewN ?_ _) | (with_reducible refine Kd.C_drew ?_))); (case aB => exact (by repeat (first | (with_reducible first | exact HB.out | apply below_alloc | apply pw_below_drewN | apply below_drew1) | exact HB.out))); (case aF => exact (fun k_ hk => ⟨(.inr (Nat.le_trans (by first | exact HK.out.1 | exact (show Kept w _ (fun k_ => P0_ k_) from by repeat (first | (with_reducible first | exact HK.out | apply Kept.alloc | apply Kept.drewN | apply Kept.drew) | exact HK.out)).1) hk)), Kd.fresh' (Kd.R_lt (by (with_reducible repeat (first | apply Kd.R_alloc | apply Kd.R_drewN | apply Kd.R_drew)); exact HO_0.out)) k_ hk⟩)); (case aO => exact (by (with_reducible repeat (first | apply Kd.R_alloc | apply Kd.R_drewN | apply Kd.R_drew)); exact Kd.R_mono HO380.out (fun _ hk => ⟨hk.1.1, hk.2⟩))); (case aS => exact (below_size (by repeat (first | (with_reducible first | exact HB.out | apply below_alloc | apply pw_below_drewN | apply below_drew1) | exact HB.out)))); (case aL => have := LMc26.out; omega); intro v386 w35 ho hb hg hat; rw [← Ny385.out] at ho; have n0_ := Aside0.mk (Kd.R_after (ok := (fun k_ => (P0_ k_ ∨ w.heap.size ≤ k_))) (by (with_reducible repeat (first | apply Kd.R_alloc | apply Kd.R_drewN | apply Kd.R_drew)); exact HO_0.out) hg hat); have n1_ := Aside0.mk (hb); have n2_ := Aside0.mk (Kept.of_grown (S := (fun k_ => P0_ k_)) hg (by repeat (first | (with_reducible first | exact HK.out | apply Kept.alloc | apply Kept.drewN | apply Kept.drew) | exact HK.out)) (fun k_ e_ => (HO380.out.1 k_ e_).1.1)); have n3_ := Aside0.mk ((show Kd.C Kd.string w35 Ao31 y381.length y381 from by rw [Ny381.out]; exact Kd.C_take (m := (x5_1 : Int).toNat) ((Kd.R_reads' (Kd.R_after (ok := (fun k_ => (P0_ k_ ∨ w.heap.size ≤ k_))) (by (with_reducible repeat (first | apply Kd.R_alloc | apply Kd.R_drewN | apply Kd.R_drew)); exact HO_0.out) hg hat)).2.2) KL34.out)); have n4_ := Aside0.mk (ho); clear HO_0; clear HB; clear HK; clear HR384; clear HO380; have HO_0 := n0_; have HB := n1_; have HK := n2_; have HR384 := n3_; have HO387 := n4_; clear n0_ n1_ n2_ n3_ n4_; clear ho hb hg hat) | ((with_reducible refine gate_builtin (b := .append) (xs := #[.tmp 39, .tmp 41]) rfl ?_); at_builtin; refine Kd.R_append Kd.string (w0 := w0) w0.heap.size rfl (.tmp 39) (.tmp 41) 38 9 (.string ⟨#[]⟩) 16 rfl Tryz.underlying38 info9 rfl (by decide) (by omega) v386 y385 a1 [.string a1] (fun k_ => (P0_ k_ ∨ w.heap.size ≤ k_) ∧ some k_ ≠ (.slice Ao31 l0.length co31 : Value).ownBlock) (fun _ => False) rfl rfl ?aP (fun _ hk => hk.elim) ?aF ?aO ?aB ?aS ?aL ?_; (case aP => exact rfl); (case aB => exact (by repeat (first | (with_reducible first | exact HB.out | apply below_alloc | apply pw_below_drewN | apply below_drew1) | exact HB.out))); (case aF => exact (fun k_ hk => ⟨(.inr (Nat.le_trans (by first | exact HK.out.1 | exact (show Kept w _ (fun k_ => P0_ k_) from by repeat (first | (with_reducible first | exact HK.out | apply Kept.alloc | apply Kept.drewN | apply Kept.drew) | exact HK.out)).1) hk)), Kd.fresh' (Kd.R_lt (by (with_reducible repeat (first | apply Kd.R_alloc | apply Kd.R_drewN | apply Kd.R_drew)); exact HO_0.out)) k_ hk⟩)); (case aO => exact (by (with_reducible repeat (first | apply Kd.R_alloc | apply Kd.R_drewN | apply Kd.R_drew)); exact HO387.out)); (case aS => exact (below_size (by repeat (first | (with_reducible first | exact HB.out | apply below_alloc | apply pw_below_drewN | apply below_drew1) | exact HB.out)))); (case aL => have := LMc27.out; omega); intro v389 w36 ho hb hg hat; rw [← Ny388.out] at ho; have n0_ := Aside0.mk (Kd.R_after (ok := (fun k_ => (P0_ k_ ∨ w.heap.size ≤ k_))) (by (with_reducible repeat (first | apply Kd.R_alloc | apply Kd.R_drewN | apply Kd.R_drew)); exact HO_0.out) hg hat); have n1_ := Aside0.mk (hb); have n2_ := Aside0.mk (Kept.of_grown (S := (fun k_ => P0_ k_)) hg (by repeat (first | (with_reducible first | exact HK.out | apply Kept.alloc | apply Kept.drewN | apply Kept.drew) | exact HK.out)) (fun k_ e_ => (HO387.out.1 k_ e_).1)); have n3_ := Aside0.mk ((show Kd.C Kd.string w36 Ao31 y381.length y381 from by rw [Ny381.out]; exact Kd.C_take (m := (x5_1 : Int).toNat) ((Kd.R_reads' (Kd.R_after (ok := (fun k_ => (P0_ k_ ∨ w.heap.size ≤ k_))) (by (with_reducible repeat (first | apply Kd.R_alloc | apply Kd.R_drewN | apply Kd.R_drew)); exact HO_0.out) hg hat)).2.2) KL34.out)); have n4_ := Aside0.mk (ho); clear HO_0; clear HB; clear HK; clear HR384; clear HO387; have HO_0 := n0_; have HB := n1_; have HK := n2_; have HR384 := n3_; have HO390 := n4_; clear n0_ n1_ n2_ n3_ n4_; clear ho hb hg hat; have q37 : (x5_1 : Int) ≤ ((l0.length : Int) : Int) := of_decide_eq_true (by first | (with_reducible assumption) | assumption); obtain ⟨i037, hi037, _, hsz37, _⟩ := info_parts info9; have hroom37 : l0.length ≤ co31 := (Kd.R_reads' HO_0.out).2.1; have hC37 : Kd.C Kd.string _ Ao31 l0.length l0 := (Kd.R_reads' HO_0.out).2.2; have q037 : (0 : Int) ≤ (x5_1 : Int) := of_decide_eq_true (by first | (with_reducible assumption) | assumption); have hcut37 := cut_from (P := Tryz.prog) 38 9 .i64 Tryz.underlying38 hi037 1 hsz37 Ao31 l0.length co31 x5_1 q037 q37; have hr37 := Kd.C_drop (m := (x5_1 : Int).toNat) (c := co31) hC37 (by omega) hroom37; obtain ⟨A37, hA37⟩ : ∃ A1, A1 = (if co31 = (x5_1 : Int).toNat then Ao31 else (Ao31 : Option Addr).map (·.add ((x5_1 : Int).toNat * 1))) := ⟨_, rfl⟩; obtain ⟨c37, hc37⟩ : ∃ c1, c1 = co31 - (x5_1 : Int).toNat := ⟨_, rfl⟩; have hy37 : y391.length = l0.length - (x5_1 : Int).toNat := (by rw [Ny391.out, List.length_drop] <;> omega); rw [show (l0).drop (x5_1 : Int).toNat = y391 from Ny391.out.symm] at hr37; replace hr37 : Kd.C Kd.string _ A37 y391.length y391 := (by rw [hA37]; exact hr37); rw [← hy37, ← hA37, ← hc37] at hcut37; have HR394 := Aside0.mk hr37; have HC394 := Aside0.mk (show y391.length ≤ c37 from by rw [hy37, hc37]; exact Nat.sub_le_sub_right hroom37 _); clear hr37 hC37 hroom37 hi037 hsz37 hc37; have KY37 := Aside0.mk hy37; have KA37 := Aside0.mk hA37; clear hy37 hA37; have KL37 := Aside0.mk (show (x5_1 : Int).toNat ≤ l0.length from by omega); replace q37 := eq_true q37) | ((with_reducible refine gate_builtin (b := .append) (xs := #[.tmp 43, .tmp 46]) rfl ?_); at_builtin; refine Kd.R_append_rows Kd.string (w0 := w0) w0.heap.size rfl (.tmp 43) (.tmp 46) 38 9 (.string ⟨#[]⟩) 16 rfl Tryz.underlying38 info9 rfl (by decide) (by omega) v389 y388 y391 _ _ _ (fun k_ => (P0_ k_ ∨ w.heap.size ≤ k_) ∧ some k_ ≠ (.slice Ao31 l0.length co31 : Value).ownBlock) (fun _ => False) rfl rfl ?aO ?aR (fun _ _ h => h) (fun _ h => h.elim) ?aF ?aB ?aS ?aL ?_; (case aR => repeat (first | exact (by repeat (first | (with_reducible exact HR394.out) | (with_reducible refine Kd.C_alloc ?_ _) | (with_reducible refine Kd.C_drewN ?_ _) | (with_reducible refine Kd.C_drew ?_) | exact HR394.out)) | (with_reducible refine Kd.C_alloc ?_ _) | (with_reducible refine Kd.C_drewN ?_ _) | (with_reducible refine Kd.C_drew ?_))); (case aB => exact (by repeat (first | (with_reducible first | exact HB.out | apply below_alloc | apply pw_below_drewN | apply below_drew1) | exact HB.out))); (case aF => exact (fun k_ hk => ⟨(.inr (Nat.le_trans (by first | exact HK.out.1 | exact (show Kept w _ (fun k_ => P0_ k_) from by repeat (first | (with_reducible first | exact HK.out | apply Kept.alloc | apply Kept.drewN | apply Kept.drew) | exact HK.out)).1) hk)), Kd.fresh' (Kd.R_lt (by (with_reducible repeat (first | apply Kd.R_alloc | apply Kd.R_drewN | apply Kd.R_drew)); exact HO_0.out)) k_ hk⟩)); (case aO => exact (by (with_reducible repeat (first | apply Kd.R_alloc | apply Kd.R_drewN | apply Kd.R_drew)); exact HO390.out)); (case aS => exact (below_size (by repeat (first | (with_reducible first | exact HB.out | apply below_alloc | apply pw_below_drewN | apply below_drew1) | exact HB.out)))); (case aL => have := LMc30.out; omega); intro v396 w38 ho hb hg hat; rw [← Ny395.out] at ho; have n0_ := Aside0.mk (Kd.R_after (ok := (fun k_ => (P0_ k_ ∨ w.heap.size ≤ k_))) (by (with_reducible repeat (first | apply Kd.R_alloc | apply Kd.R_drewN | apply Kd.R_drew)); exact HO_0.out) hg hat); have n1_ := Aside0.mk (hb); have n2_ := Aside0.mk (Kept.of_grown (S := (fun k_ => P0_ k_)) hg (by repeat (first | (with_reducible first | exact HK.out | apply Kept.alloc | apply Kept.drewN | apply Kept.drew) | exact HK.out)) (fun k_ e_ => (HO390.out.1 k_ e_).1)); have n3_ := Aside0.mk ((show Kd.C Kd.string w38 Ao31 y381.length y381 from by rw [Ny381.out]; exact Kd.C_take (m := (x5_1 : Int).toNat) ((Kd.R_reads' (Kd.R_after (ok := (fun k_ => (P0_ k_ ∨ w.heap.size ≤ k_))) (by (with_reducible repeat (first | apply Kd.R_alloc | apply Kd.R_drewN | apply Kd.R_drew)); exact HO_0.out) hg hat)).2.2) KL34.out)); have n4_ := Aside0.mk ((show Kd.C Kd.string w38 A37 y391.length y391 from by rw [Ny391.out, KA37.out]; exact Kd.C_drop (m := (x5_1 : Int).toNat) (c := co31) ((Kd.R_reads' (Kd.R_after (ok := (fun k_ => (P0_ k_ ∨ w.heap.size ≤ k_))) (by (with_reducible repeat (first | apply Kd.R_alloc | apply Kd.R_drewN | apply Kd.R_drew)); exact HO_0.out) hg hat)).2.2) KL37.out ((Kd.R_reads' (Kd.R_after (ok := (fun k_ => (P0_ k_ ∨ w.heap.size ≤ k_))) (by (with_reducible repeat (first | apply Kd.R_alloc | apply Kd.R_drewN | apply Kd.R_drew)); exact HO_0.out) hg hat)).2.1))); have n5_ := Aside0.mk (ho); clear HO_0; clear HB; clear HK; clear HR384; clear HR394; clear HO390; have HO_0 := n0_; have HB := n1_; have HK := n2_; have HR384 := n3_; have HR394 := n4_; have HO397 := n5_; clear n0_ n1_ n2_ n3_ n4_ n5_; clear ho hb hg hat))
                  go_ret
                  exact ⟨_, by first | rfl | (simp [errW_none, errW_some] <;> rfl) | (simp [*, errW_none, errW_some] <;> rfl), by (with_reducible repeat (first | apply Kd.R_alloc | apply Kd.R_drewN | apply Kd.R_drew)); exact Kd.R_mono HO397.out (fun _ hk => hk.1), by repeat (first | (with_reducible first | exact HB.out | apply below_alloc | apply pw_below_drewN | apply below_drew1) | exact HB.out), by repeat (first | (with_reducible first | exact HK.out | apply Kept.alloc | apply Kept.drewN | apply Kept.drew) | exact HK.out)⟩
                · rw [if_neg c30] at H
                  exact absurd H (by simp)
              · rw [if_neg c27] at H
                exact absurd H (by simp)
            · rw [if_neg c26] at H
              exact absurd H (by simp)
          · rw [if_neg c25] at H
            exact absurd H (by simp)
        · rw [if_neg c24] at H
          exact absurd H (by simp)

end Go.Proofs.YtcjmplpfebpfpaaGreatDoor.PKindInstances

namespace Go.Proofs.YtcjmplpfebpfpaaGreatDoor.PKindInstances
open Go.RowKit Go.Proofs.YtcjmplpfebpfpaaGreatDoorW.PrintWords Go.Proofs.YtcjmplpfebpfpaaGreatDoorW.PrintLast Go.Proofs.YtcjmplpfebpfpaaGreatDoorW.PrintMore
attribute [local go_sem] max2_int min2_int max_two min_two max_three min_three max_four min_four   -- for this text's walks alone
set_option linter.unusedVariables false
set_option linter.unusedSimpArgs false

def plinthref03_Has.l0 : Nat → List ByteArray → ByteArray → Int → Option (Bool)
  | 0, _, _, _ => none
  | k + 1, x0, x1, x5 => if x5 < (x0.length : Int) then (if 0 ≤ x5 then (if (rdOf ByteArray.empty x0 x5).toList = x1.toList then (some true) else (plinthref03_Has.l0 k x0 x1 (wrap64 (x5 + 1)))) else (none)) else (some false)
def plinthref03_Has.f (k : Nat) (l0 : List ByteArray) (a1 : ByteArray) : Option (Bool) := plinthref03_Has.l0 k l0 a1 0
set_option maxHeartbeats 8000000 in
set_option maxRecDepth 100000 in
theorem plinthref03_Has.calls (k : Nat) (A0 : Option Addr) (c0 : Nat) (l0 : List ByteArray) (a1 : ByteArray) (r : Bool) (w : World) (hr0 : Kd.C Kd.string w A0 l0.length l0) (hc0 : l0.length ≤ c0) (h : plinthref03_Has.f k l0 a1 = some r) :
    Calls Tryz.prog 102 #[.slice A0 l0.length c0, .string a1] w fun e w' => e = .returned (.bool r) ∧ Drawn0 w w' := by
  have HR0 := Aside0.mk hr0
  have HC0 := Aside0.mk hc0
  clear hr0 hc0
  have H : (plinthref03_Has.l0 k l0 a1 0) = some r := h
  clear h
  have H' := Aside0.mk H
  clear H
  go_enter Tryz.func102, Tryz.ntmps102
  go_wp2
  go_loopg [5] k (fun kq v5 w' => ∃ (x5_1 : Int), v5 = .int .i64 x5_1 ∧ Aside0 (plinthref03_Has.l0 kq l0 a1 x5_1 = some r) ∧ Aside0 (kq ≤ k) ∧ Drawn0 w w')
  case atStart => exact ⟨(0), (by first | rfl | (simp; done) | (simp [*]; done)), H', ⟨Nat.le_refl _⟩, by repeat (first | exact Drawn0.refl _ | apply Drawn0.step)⟩
  case round =>
    clear H'
    try clear c1
    try clear p2
    obtain ⟨x5_1, rfl, HA, HK1, ⟨m1, rfl⟩⟩ := hrel
    cases gk with
    | zero => exact absurd HA.out (by simp [plinthref03_Has.l0])
    | succ k1 =>
      have H := HA.out
      clear HA
      simp only [plinthref03_Has.l0] at H
      by_cases c3 : x5_1 < (l0.length : Int)
      · rw [if_pos c3] at H
        have c3b0 : decide (x5_1 < (l0.length : Int)) = true := decide_eq_true c3
        clear c3
        by_cases c4 : 0 ≤ x5_1
        · rw [if_pos c4] at H
          have c4b0 : decide (0 ≤ x5_1) = true := decide_eq_true c4
          clear c4
          by_cases c5 : (rdOf ByteArray.empty l0 x5_1).toList = a1.toList
          · rw [if_pos c5] at H
            have c5b0 : ((rdOf ByteArray.empty l0 x5_1).toList == a1.toList) = true := beq_iff_eq.mpr c5
            have c5b1 : ((rdOf ByteArray.empty l0 x5_1).toList != a1.toList) = false := bne_eq_false_iff_eq.mpr c5
            clear c5
            obtain rfl := Option.some.inj H
            have p417 : 0 ≤ (x5_1 : Int) := of_decide_eq_true (by first | (with_reducible assumption) | assumption)
            have q417 : x5_1 < (l0.length : Int) := of_decide_eq_true (by first | (with_reducible assumption) | assumption)
            obtain ⟨ad417, e417, hx417_0⟩ := Kd.at_string HR0.out x5_1 p417 q417
            cases e417
            replace p417 := eq_true p417
            replace q417 := eq_true q417
            go_wp2
            go_ret
            exact ⟨by first | rfl | (simp; done) | (simp [*]; done), by repeat (first | exact Drawn0.refl _ | apply Drawn0.step)⟩
          · rw [if_neg c5] at H
            have c5b0 : ((rdOf ByteArray.empty l0 x5_1).toList == a1.toList) = false := beq_eq_false_iff_ne.mpr c5
            have c5b1 : ((rdOf ByteArray.empty l0 x5_1).toList != a1.toList) = true := bne_iff_ne.mpr c5
            have H' := Aside0.mk H
            clear H
            have p417 : 0 ≤ (x5_1 : Int) := of_decide_eq_true (by first | (with_reducible assumption) | assumption)
            have q417 : x5_1 < (l0.length : Int) := of_decide_eq_true (by first | (with_reducible assumption) | assumption)
            obtain ⟨ad417, e417, hx417_0⟩ := Kd.at_string HR0.out x5_1 p417 q417
            cases e417
            replace p417 := eq_true p417
            replace q417 := eq_true q417
            go_wp2
            go_roundg k1
            case measure => have := HK1.out; omega
            case rel => exact ⟨(wrap64 (x5_1 + 1)), (by first | rfl | (simp; done) | (simp [*]; done)), H', ⟨by have := HK1.out; omega⟩, by repeat (first | exact Drawn0.refl _ | apply Drawn0.step)⟩
        · rw [if_neg c4] at H
          exact absurd H (by simp)
      · rw [if_neg c3] at H
        have c3b0 : decide (x5_1 < (l0.length : Int)) = false := decide_eq_false c3
        clear c3
        obtain rfl := Option.some.inj H
        go_wp2
        go_ret
        exact ⟨by first | rfl | (simp; done) | (simp [*]; done), by repeat (first | exact Drawn0.refl _ | apply Drawn0.step)⟩

end Go.Proofs.YtcjmplpfebpfpaaGreatDoor.PKindInstances

namespace Go.Proofs.YtcjmplpfebpfpaaGreatDoor.PKindInstances
open Go.RowKit Go.Proofs.YtcjmplpfebpfpaaGreatDoorW.PrintWords Go.Proofs.YtcjmplpfebpfpaaGreatDoorW.PrintLast Go.Proofs.YtcjmplpfebpfpaaGreatDoorW.PrintMore
attribute [local go_sem] max2_int min2_int max_two min_two max_three min_three max_four min_four   -- for this text's walks alone
set_option linter.unusedVariables false
set_option linter.unusedSimpArgs false

def plinthref03_Reserved.f (k : Nat) (a0 : ByteArray) : Option (Bool) := (plinthref03_Has.f k (([(⟨#[105, 110, 116]⟩ : ByteArray), (⟨#[98, 111, 111, 108]⟩ : ByteArray), (⟨#[98, 105, 116, 115]⟩ : ByteArray), (⟨#[115, 101, 113]⟩ : ByteArray), (⟨#[115, 101, 116]⟩ : ByteArray), (⟨#[98, 97, 103]⟩ : ByteArray), (⟨#[109, 97, 112]⟩ : ByteArray), (⟨#[105, 109, 97, 112]⟩ : ByteArray), (⟨#[102, 117, 110]⟩ : ByteArray), (⟨#[109, 97, 121, 98, 101]⟩ : ByteArray)] : List ByteArray)) a0).bind fun t421 => (some t421)
set_option maxHeartbeats 8000000 in
set_option maxRecDepth 100000 in
theorem plinthref03_Reserved.calls (k : Nat) (a0 : ByteArray) (r : Bool) (w : World) (h : plinthref03_Reserved.f k a0 = some r) :
    Calls Tryz.prog 62 #[.string a0] w fun e w' => e = .returned (.bool r) ∧ Below w.heap.size w w' := by
  have HB := Aside0.mk (Below.refl w.heap.size w)
  have H : ((plinthref03_Has.f k (([(⟨#[105, 110, 116]⟩ : ByteArray), (⟨#[98, 111, 111, 108]⟩ : ByteArray), (⟨#[98, 105, 116, 115]⟩ : ByteArray), (⟨#[115, 101, 113]⟩ : ByteArray), (⟨#[115, 101, 116]⟩ : ByteArray), (⟨#[98, 97, 103]⟩ : ByteArray), (⟨#[109, 97, 112]⟩ : ByteArray), (⟨#[105, 109, 97, 112]⟩ : ByteArray), (⟨#[102, 117, 110]⟩ : ByteArray), (⟨#[109, 97, 121, 98, 101]⟩ : ByteArray)] : List ByteArray)) a0).bind fun t421 => (some t421)) = some r := h
  clear h
  obtain ⟨y418, hy418⟩ : ∃ y_ : List ByteArray, y_ = (([(⟨#[105, 110, 116]⟩ : ByteArray), (⟨#[98, 111, 111, 108]⟩ : ByteArray), (⟨#[98, 105, 116, 115]⟩ : ByteArray), (⟨#[115, 101, 113]⟩ : ByteArray), (⟨#[115, 101, 116]⟩ : ByteArray), (⟨#[98, 97, 103]⟩ : ByteArray), (⟨#[109, 97, 112]⟩ : ByteArray), (⟨#[105, 109, 97, 112]⟩ : ByteArray), (⟨#[102, 117, 110]⟩ : ByteArray), (⟨#[109, 97, 121, 98, 101]⟩ : ByteArray)] : List ByteArray)) := ⟨_, rfl⟩
  replace H : ((plinthref03_Has.f k y418 a0).bind fun t421 => (some t421)) = some r := by first | (rw [hy418]; with_reducible exact H) | (have H2_ := (Option.bind_some _ _).symm.trans H; rw [hy418]; with_reducible exact H2_) | (have H2_ := (Option.bind_some _ _).symm.trans H; with_reducible exact H2_) | with_reducible exact H | (rw [hy418]; exact H) | exact H
  have Ny418 := Aside0.mk hy418
  clear hy418
  replace H := Option.bind_eq_some_iff.mp H
  obtain ⟨t421, A20, H⟩ := H
  replace H : (some t421) = some r := H
  have A2 := Aside0.mk A20
  clear A20
  obtain rfl := Option.some.inj H
  go_enter Tryz.func62, Tryz.ntmps62
  go_wp2_with (first | ((with_reducible refine gate_dst (N := 3) rfl ?_); refine Kd.R_lit Kd.string _ 9 ?hg (N := 3) ?hd (xs := ([(⟨#[105, 110, 116]⟩ : ByteArray), (⟨#[98, 111, 111, 108]⟩ : ByteArray), (⟨#[98, 105, 116, 115]⟩ : ByteArray), (⟨#[115, 101, 113]⟩ : ByteArray), (⟨#[115, 101, 116]⟩ : ByteArray), (⟨#[98, 97, 103]⟩ : ByteArray), (⟨#[109, 97, 112]⟩ : ByteArray), (⟨#[105, 109, 97, 112]⟩ : ByteArray), (⟨#[102, 117, 110]⟩ : ByteArray), (⟨#[109, 97, 121, 98, 101]⟩ : ByteArray)] : List ByteArray)) (inner := [.string (⟨#[105, 110, 116]⟩ : ByteArray), .string (⟨#[98, 111, 111, 108]⟩ : ByteArray), .string (⟨#[98, 105, 116, 115]⟩ : ByteArray), .string (⟨#[115, 101, 113]⟩ : ByteArray), .string (⟨#[115, 101, 116]⟩ : ByteArray), .string (⟨#[98, 97, 103]⟩ : ByteArray), .string (⟨#[109, 97, 112]⟩ : ByteArray), .string (⟨#[105, 109, 97, 112]⟩ : ByteArray), .string (⟨#[102, 117, 110]⟩ : ByteArray), .string (⟨#[109, 97, 121, 98, 101]⟩ : ByteArray)]) (ok := fun _ => True) (okp := fun _ => True) ?hr ?hp (fun _ hk => hk) trivial (Below.refl _ _) (Nat.le_refl _) (by simp) ?_; (case hd => rfl); (case hg => rfl); (case hr => first | (go_simp; done) | (go_simp; rfl)); (case hp => exact (Reps.one (show Kd.M Kd.string _ _ _ (⟨#[105, 110, 116]⟩ : ByteArray) [.string (⟨#[105, 110, 116]⟩ : ByteArray)] from rfl) (Reps.one (show Kd.M Kd.string _ _ _ (⟨#[98, 111, 111, 108]⟩ : ByteArray) [.string (⟨#[98, 111, 111, 108]⟩ : ByteArray)] from rfl) (Reps.one (show Kd.M Kd.string _ _ _ (⟨#[98, 105, 116, 115]⟩ : ByteArray) [.string (⟨#[98, 105, 116, 115]⟩ : ByteArray)] from rfl) (Reps.one (show Kd.M Kd.string _ _ _ (⟨#[115, 101, 113]⟩ : ByteArray) [.string (⟨#[115, 101, 113]⟩ : ByteArray)] from rfl) (Reps.one (show Kd.M Kd.string _ _ _ (⟨#[115, 101, 116]⟩ : ByteArray) [.string (⟨#[115, 101, 116]⟩ : ByteArray)] from rfl) (Reps.one (show Kd.M Kd.string _ _ _ (⟨#[98, 97, 103]⟩ : ByteArray) [.string (⟨#[98, 97, 103]⟩ : ByteArray)] from rfl) (Reps.one (show Kd.M Kd.string _ _ _ (⟨#[109, 97, 112]⟩ : ByteArray) [.string (⟨#[109, 97, 112]⟩ : ByteArray)] from rfl) (Reps.one (show Kd.M Kd.string _ _ _ (⟨#[105, 109, 97, 112]⟩ : ByteArray) [.string (⟨#[105, 109, 97, 112]⟩ : ByteArray)] from rfl) (Reps.one (show Kd.M Kd.string _ _ _ (⟨#[102, 117, 110]⟩ : ByteArray) [.string (⟨#[102, 117, 110]⟩ : ByteArray)] from rfl) (Reps.one (show Kd.M Kd.string _ _ _ (⟨#[109, 97, 121, 98, 101]⟩ : ByteArray) [.string (⟨#[109, 97, 121, 98, 101]⟩ : ByteArray)] from rfl) (Reps.none _ _)))))))))))); intro v419 w3 ho4 hb hg_ hnew_; clear hg_ hnew_; (first | rw [← Ny418.out] at ho4 | (simp only [Int.reduceToNat] at ho4; rw [← Ny418.out] at ho4)); have n0_ := Aside0.mk (Kd.R_lower ho4 (below_size (by repeat (first | (with_reducible first | exact HB.out | apply below_alloc | apply pw_below_drewN | apply below_drew1) | exact HB.out)))); have n1_ := Aside0.mk (below_step (by repeat (first | (with_reducible first | exact HB.out | apply below_alloc | apply pw_below_drewN | apply below_drew1) | exact HB.out)) hb); clear HB; have HO420 := n0_; have HB := n1_; clear n0_ n1_; clear hb ho4; obtain ⟨Ao5, co5, eo5⟩ := Kd.R_slice HO420.out; subst eo5) | ((with_reducible refine gate_callee (f := 102) rfl ?_); refine goesL_ (some 5) rfl rfl Tryz.func102 (by kernel_rfl) rfl #[.slice Ao5 y418.length co5, .string a0] rfl (by (try simp only [List.map_toArray, List.map_cons, List.map_nil]); first | done | rfl | (simp only [List.length_drop, List.length_take]; rfl)) ?_; (with_reducible refine (plinthref03_Has.calls k _ _ y418 a0 t421 _ ?side1 ?side2 A2.out).mono ?_); (case side1 => repeat (first | exact (Kd.R_reads' HO420.out).2.2 | (with_reducible refine Kd.C_alloc ?_ _) | (with_reducible refine Kd.C_drewN ?_ _) | (with_reducible refine Kd.C_drew ?_))); (case side2 => exact (Kd.R_reads' HO420.out).2.1); rintro e w' ⟨rfl, ⟨nd, rfl⟩⟩; refine ⟨_, rfl, ?_⟩))
  go_ret
  exact ⟨by first | rfl | (simp [errW_none, errW_some] <;> rfl) | (simp [*, errW_none, errW_some] <;> rfl), by repeat (first | (with_reducible first | exact HB.out | apply below_alloc | apply pw_below_drewN | apply below_drew1) | exact HB.out)⟩

end Go.Proofs.YtcjmplpfebpfpaaGreatDoor.PKindInstances

namespace Go.Proofs.YtcjmplpfebpfpaaGreatDoor
open Go.RowKit Go.Proofs Go.Proofs.YtcjmplpfebpfpaaGreatDoorW.PrintWords Go.Proofs.YtcjmplpfebpfpaaGreatDoorW.PrintLast Go.Proofs.YtcjmplpfebpfpaaGreatDoorW.PrintMore PKindInstances
set_option linter.unusedVariables false
set_option linter.unusedSimpArgs false

theorem wrap_up {i : Nat} (h : i < 9000000000000) : wrap64 ((i : Int) + 1) = ((i + 1 : Nat) : Int) := by unfold wrap64; omega
theorem drop_at5 {α : Type} {l : List α} {i : Nat} {x : α} (hx : l[i]? = some x) : l.drop i = x :: l.drop (i + 1) := by
  obtain ⟨h, e⟩ := List.getElem?_eq_some_iff.1 hx
  rw [List.drop_eq_getElem_cons h, e]
theorem rdOf_at {α : Type} {z : α} {l : List α} {i : Nat} {x : α} (hx : l[i]? = some x) : rdOf z l (i : Int) = x := by simp [rdOf, List.getD, hx]

theorem bytes_toList' (l : List UInt8) : (ByteArray.mk l.toArray).toList = l := by rw [ByteArray.toList_eq]
theorem has_l0 (l : List ByteArray) (a : ByteArray) (hl : l.length < 9000000000000) (d : Nat) : ∀ (k i : Nat), d + i = l.length → d < k → plinthref03_Has.l0 k l a (i : Int) = some (decide (a ∈ l.drop i)) := by
  induction d with
  | zero =>
    intro k i h hk
    obtain ⟨k, rfl⟩ : ∃ m, k = m + 1 := ⟨k - 1, by omega⟩
    have e : l.drop i = [] := List.drop_eq_nil_of_le (by omega)
    simp only [plinthref03_Has.l0]
    rw [if_neg (by omega), e]
    simp
  | succ d ih =>
    intro k i h hk
    obtain ⟨k, rfl⟩ : ∃ m, k = m + 1 := ⟨k - 1, by omega⟩
    have hlt : i < l.length := by omega
    obtain ⟨x, hx⟩ : ∃ x, l[i]? = some x := ⟨l[i], by simp [hlt]⟩
    simp only [plinthref03_Has.l0]
    rw [if_pos (by omega), if_pos (by omega), rdOf_at hx, drop_at5 hx]
    by_cases e : x.toList = a.toList
    · rw [if_pos e, bytes_inj e]
      simp
    · rw [if_neg e, wrap_up (by omega), ih k (i + 1) (by omega) (by omega)]
      have : a ≠ x := fun h => e (by rw [h])
      simp [this]
theorem has_ev (l : List ByteArray) (a : ByteArray) (hl : l.length < 9000000000000) : Ev (fun k => plinthref03_Has.f k l a) (decide (a ∈ l)) := by
  refine ⟨l.length + 1, fun k hk => ?_⟩
  have := has_l0 l a hl l.length k 0 (by omega) (by omega)
  simpa [plinthref03_Has.f] using this

theorem reserved_ev (s : ByteArray) : Ev (fun k => plinthref03_Reserved.f k s) (resM s) := by
  have h := has_ev ([(⟨#[105, 110, 116]⟩ : ByteArray), (⟨#[98, 111, 111, 108]⟩ : ByteArray), (⟨#[98, 105, 116, 115]⟩ : ByteArray), (⟨#[115, 101, 113]⟩ : ByteArray), (⟨#[115, 101, 116]⟩ : ByteArray), (⟨#[98, 97, 103]⟩ : ByteArray), (⟨#[109, 97, 112]⟩ : ByteArray), (⟨#[105, 109, 97, 112]⟩ : ByteArray), (⟨#[102, 117, 110]⟩ : ByteArray), (⟨#[109, 97, 121, 98, 101]⟩ : ByteArray)]) s (by simp)
  have e1 : (s.toList == [105, 110, 116]) = decide (s = ⟨#[105, 110, 116]⟩) := by
    by_cases h : s = ⟨#[105, 110, 116]⟩
    · rw [h, bytes_toList']; rfl
    · rw [decide_eq_false h]; exact beq_eq_false_iff_ne.mpr fun e => h (bytes_inj (e.trans (bytes_toList' _).symm))
  have e2 : (s.toList == [98, 111, 111, 108]) = decide (s = ⟨#[98, 111, 111, 108]⟩) := by
    by_cases h : s = ⟨#[98, 111, 111, 108]⟩
    · rw [h, bytes_toList']; rfl
    · rw [decide_eq_false h]; exact beq_eq_false_iff_ne.mpr fun e => h (bytes_inj (e.trans (bytes_toList' _).symm))
  have e3 : resM s = decide (s ∈ [(⟨#[105, 110, 116]⟩ : ByteArray), (⟨#[98, 111, 111, 108]⟩ : ByteArray), (⟨#[98, 105, 116, 115]⟩ : ByteArray), (⟨#[115, 101, 113]⟩ : ByteArray), (⟨#[115, 101, 116]⟩ : ByteArray), (⟨#[98, 97, 103]⟩ : ByteArray), (⟨#[109, 97, 112]⟩ : ByteArray), (⟨#[105, 109, 97, 112]⟩ : ByteArray), (⟨#[102, 117, 110]⟩ : ByteArray), (⟨#[109, 97, 121, 98, 101]⟩ : ByteArray)]) := by
    unfold resM
    rw [e1, e2]
    simp only [headsM, look, List.mem_cons, List.not_mem_nil, or_false]
    repeat' split
    all_goals simp_all
  rw [e3]
  exact Ev.bind h (Ev.now _)

/-- A text put into an ascending row, once. -/
def putL : List ByteArray → ByteArray → List ByteArray
  | [], s => [s]
  | x :: l, s => if Op.bytesLess x.toList s.toList = true then x :: putL l s else if x.toList = s.toList then x :: l else s :: x :: l

theorem put_l0 (l : List ByteArray) (a : ByteArray) (hl : l.length < 9000000000) (d : Nat) : ∀ (k i : Nat), d + i = l.length → d < k → plinthref03_put.l0 k l a (i : Int) = some (l.take i ++ putL (l.drop i) a) := by
  induction d with
  | zero =>
    intro k i h hk
    obtain ⟨k, rfl⟩ : ∃ m, k = m + 1 := ⟨k - 1, by omega⟩
    have e : l.drop i = [] := List.drop_eq_nil_of_le (by omega)
    have hi : i = l.length := by omega
    subst hi
    simp only [plinthref03_put.l0]
    rw [if_neg (by omega), e]
    simp [putL]
    omega
  | succ d ih =>
    intro k i h hk
    obtain ⟨k, rfl⟩ : ∃ m, k = m + 1 := ⟨k - 1, by omega⟩
    have hlt : i < l.length := by omega
    obtain ⟨x, hx⟩ : ∃ x, l[i]? = some x := ⟨l[i], by simp [hlt]⟩
    have et : l.take (i + 1) = l.take i ++ [x] := by rw [List.take_add_one, hx]; rfl
    simp only [plinthref03_put.l0]
    rw [if_pos (by omega), if_pos (by omega), rdOf_at hx, drop_at5 hx]
    by_cases e : Op.bytesLess x.toList a.toList = true
    · rw [if_pos e, wrap_up (by omega), ih k (i + 1) (by omega) (by omega), et]
      simp [putL, e]
    · rw [if_neg e]
      by_cases e2 : x.toList = a.toList
      · rw [if_pos e2]
        simp only [putL]
        rw [if_neg e, if_pos e2, ← drop_at5 hx, List.take_append_drop]
      · rw [if_neg e2]
        simp only [putL]
        rw [if_neg e, if_neg e2, ← drop_at5 hx]
        simp
        omega
theorem put_ev (l : List ByteArray) (a : ByteArray) (hl : l.length < 9000000000) : Ev (fun k => plinthref03_put.f k l a) (putL l a) := by
  refine ⟨l.length + 1, fun k hk => ?_⟩
  have := put_l0 l a hl l.length k 0 (by omega) (by omega)
  simpa [plinthref03_put.f] using this

theorem putL_len : ∀ (l : List ByteArray) (a : ByteArray), (putL l a).length ≤ l.length + 1
  | [], a => by simp [putL]
  | x :: l, a => by
    have := putL_len l a
    simp only [putL]
    split
    · simp only [List.length_cons]; omega
    · split <;> simp
end Go.Proofs.YtcjmplpfebpfpaaGreatDoor

namespace Go.Proofs
open Go.RowKit Go.Maps Go.Sort Go.Shelf

end Go.Proofs

namespace Go.Proofs.YtcjmplpfebpfpaaGreatDoor
open Go.RowKit Go.Proofs Go.Proofs.YtcjmplpfebpfpaaGreatDoorW.PrintWords Go.Proofs.YtcjmplpfebpfpaaGreatDoorW.PrintLast Go.Proofs.YtcjmplpfebpfpaaGreatDoorW.PrintMore PKindInstances
set_option linter.unusedVariables false
set_option linter.unusedSimpArgs false

end Go.Proofs.YtcjmplpfebpfpaaGreatDoor

namespace Go.Proofs.YtcjmplpfebpfpaaGreatDoor
open Go.RowKit Go.Proofs Go.Proofs.YtcjmplpfebpfpaaGreatDoorW.PrintWords Go.Proofs.YtcjmplpfebpfpaaGreatDoorW.PrintLast Go.Proofs.YtcjmplpfebpfpaaGreatDoorW.PrintMore PKindInstances
set_option linter.unusedVariables false
set_option linter.unusedSimpArgs false

theorem less_lt : ∀ (x y : List UInt8), Op.bytesLess x y = decide (x < y)
  | [], [] => by simp [Op.bytesLess]
  | _ :: _, [] => by simp [Op.bytesLess]
  | [], _ :: _ => by simp [Op.bytesLess]
  | p :: x, q :: y => by
    have ih := less_lt x y
    unfold Op.bytesLess
    rw [ih, Bool.eq_iff_iff]
    simp [List.cons_lt_cons_iff]

abbrev lessB (a b : ByteArray) : Bool := Op.bytesLess a.toList b.toList
theorem lessB_trans {a b c : ByteArray} (h : lessB a b = true) (h2 : lessB b c = true) : lessB a c = true := by
  simp only [lessB, less_lt, decide_eq_true_eq] at *
  exact List.lt_trans h h2
theorem lessB_irrefl (a : ByteArray) : lessB a a = false := by
  simp only [lessB, less_lt, decide_eq_false_iff_not]
  exact List.lt_irrefl _
theorem lessB_asymm {a b : ByteArray} (h : lessB a b = true) : lessB b a = false := by
  cases h2 : lessB b a with
  | false => rfl
  | true => have := lessB_trans h h2; rw [lessB_irrefl] at this; cases this
theorem lessB_total {a b : ByteArray} (h : lessB a b = false) (h2 : a.toList ≠ b.toList) : lessB b a = true := by
  simp only [lessB, less_lt, decide_eq_false_iff_not, decide_eq_true_eq] at *
  exact (List.le_iff_lt_or_eq.1 (List.not_lt.1 h)).resolve_right (fun e => h2 e.symm)

/-- Ascending, each once. -/
def Asc (l : List ByteArray) : Prop := l.Pairwise fun a b => lessB a b = true
theorem mem_putL : ∀ (l : List ByteArray) (s t : ByteArray), t ∈ putL l s ↔ t = s ∨ t ∈ l
  | [], s, t => by simp [putL]
  | x :: l, s, t => by
    have ih := mem_putL l s t
    simp only [putL]
    split
    · simp only [List.mem_cons, ih]
      constructor
      · rintro (h | h | h)
        · exact .inr (.inl h)
        · exact .inl h
        · exact .inr (.inr h)
      · rintro (h | h | h)
        · exact .inr (.inl h)
        · exact .inl h
        · exact .inr (.inr h)
    · split
      · rename_i e
        have := bytes_inj e
        subst this
        simp only [List.mem_cons]
        constructor
        · exact .inr
        · rintro (h | h)
          · exact .inl h
          · exact h
      · simp only [List.mem_cons]
theorem asc_putL : ∀ (l : List ByteArray) (s : ByteArray), Asc l → Asc (putL l s)
  | [], s, _ => by simp [putL, Asc]
  | x :: l, s, h => by
    have h1 := List.pairwise_cons.1 h
    have ih := asc_putL l s h1.2
    simp only [putL]
    split
    · rename_i e
      refine List.pairwise_cons.2 ⟨fun y hy => ?_, ih⟩
      rcases (mem_putL l s y).1 hy with rfl | hy
      · exact e
      · exact h1.1 y hy
    · rename_i e
      split
      · exact h
      · rename_i e2
        have e3 := lessB_total (a := x) (b := s) (by simpa [lessB] using e) e2
        refine List.pairwise_cons.2 ⟨fun y hy => ?_, h⟩
        rcases List.mem_cons.1 hy with rfl | hy
        · exact e3
        · exact lessB_trans e3 (h1.1 y hy)
theorem putAll_asc : ∀ (m l : List ByteArray), Asc l → Asc (m.foldl putL l) ∧ ∀ t, t ∈ m.foldl putL l ↔ t ∈ l ∨ t ∈ m
  | [], l, h => ⟨h, fun t => by simp⟩
  | s :: m, l, h => by
    obtain ⟨h1, h2⟩ := putAll_asc m (putL l s) (asc_putL l s h)
    refine ⟨h1, fun t => ?_⟩
    simp only [List.foldl_cons, h2, mem_putL, List.mem_cons]
    constructor
    · rintro ((h | h) | h)
      · exact .inr (.inl h)
      · exact .inl h
      · exact .inr (.inr h)
    · rintro (h | h | h)
      · exact .inl (.inr h)
      · exact .inl (.inl h)
      · exact .inr h
end Go.Proofs.YtcjmplpfebpfpaaGreatDoor

namespace Go.Proofs.YtcjmplpfebpfpaaGreatDoor
open Go.RowKit Go.Shelf Go.Lib Go.Sort Go.Proofs Go.Proofs.YtcjmplpfebpfpaaGreatDoorW.PrintWords Go.Proofs.YtcjmplpfebpfpaaGreatDoorW.PrintLast Go.Proofs.YtcjmplpfebpfpaaGreatDoorW.PrintMore PKindInstances
set_option linter.unusedVariables false
set_option linter.unusedSimpArgs false

def enc51 (q : PV) : List Value := [.string q.x.f0, .int .i64 q.x.f1.f0, .int .i64 q.x.f1.f1, .string q.x.f1.f2, .slice q.A q.x.f1.f3.length q.c]
def cfP (a b : PV) : Int := cmpStr a.x.f0 b.x.f0
set_option maxHeartbeats 1000000 in
theorem closure46 (x y : PV) (W : World) : Calls Tryz.prog 46 #[.agg (enc51 x).toArray, .agg (enc51 y).toArray] W fun e w' => e = .returned (.int .i64 (cfP x y)) ∧ ∃ q os', w' = grow (W.drewN q) os' := by
  have hcon := fun W' => cmpStr_any x.x.f0 y.x.f0 W'
  unfold cfP
  generalize cmpStr x.x.f0 y.x.f0 = r at hcon ⊢
  simp only [enc51]
  have HC : Hid _ := hcon
  clear hcon
  go_enter Tryz.func46, Tryz.ntmps46
  go_wp2_with (go_at_call 47; refine (HC.out _).mono ?_; rintro e w' ⟨rfl, rfl⟩)
  go_ret
  exact ⟨rfl, 0, _, by rw [alloc_eq_grow, alloc_eq_grow, grow_grow]; rfl⟩
theorem ltP (x y : PV) : ltOf cfP x y = lessB x.x.f0 y.x.f0 := by
  unfold ltOf cfP cmpStr lessB
  cases h : Op.bytesLess x.x.f0.toList y.x.f0.toList with
  | true => simp
  | false => simp; split <;> omega
theorem swoP : SWO (ltOf cfP) where
  irrefl x := by rw [ltP]; exact lessB_irrefl _
  trans x y z h1 h2 := by rw [ltP] at *; exact lessB_trans h1 h2
  ntrans x y z h1 h2 := by
    rw [ltP] at *
    cases h : lessB x.x.f0 z.x.f0 with
    | false => rfl
    | true =>
      by_cases e : x.x.f0.toList = y.x.f0.toList
      · rw [bytes_inj e] at h; rw [h] at h2; cases h2
      · have h3 := lessB_total h1 e
        have h4 := lessB_trans h3 h
        rw [h4] at h2; cases h2
theorem heap_putRow_other {α : Type} [Inhabited α] (enc : α → Value) (w : World) (blk off : Nat) (d : Array α) {b : Nat} (h : b ≠ blk) : (Go.Sort.putRow enc w blk off d).heap[b]? = w.heap[b]? := by
  simp [Go.Sort.putRow, Go.Sort.mapBlock, Array.getElem?_modify]
  intro e
  exact absurd e.symm h
theorem sortWorld_by {α : Type} [Inhabited α] (enc : α → Value) (w : World) (g m : Nat) (dk : Array α) (os : Array Obj) : w.grownBy (sortWorld enc w g 0 m dk os) (some g) := by
  refine ⟨rfl, rfl, rfl, ?_, fun b hb hne => ?_⟩
  · unfold sortWorld Go.Sort.grow
    show _ ≤ (Array.append _ _).size
    have : (Go.Sort.putRow enc (Sort.ahead w m) g 0 dk).heap.size = w.heap.size := by rw [size_putRow]; rfl
    show _ ≤ ((Go.Sort.putRow enc (Sort.ahead w m) g 0 dk).heap ++ os).size
    rw [Array.size_append, this]; omega
  · unfold sortWorld
    have hz : (Go.Sort.putRow enc (Sort.ahead w m) g 0 dk).heap.size = w.heap.size := by rw [size_putRow]; rfl
    show ((Go.Sort.putRow enc (Sort.ahead w m) g 0 dk).heap ++ os)[b]? = _
    rw [Array.getElem?_append_left (by rw [hz]; exact hb), heap_putRow_other _ _ _ _ _ (fun e => hne (by rw [e]))]
    rfl
instance : Inhabited PV := ⟨⟨⟨⟨#[]⟩, ⟨0, 0, ⟨#[]⟩, []⟩⟩, none, 0⟩⟩
/-- The sort. -/
theorem sort_pairs (ds : List PV) (blk cap : Nat) (w : World) (hH : HoldsK enc51 5 w blk 0 ds.toArray) (hblk : blk < w.heap.size) (hsz : ds.length < 9000000) :
    Calls Tryz.prog 45 #[.slice (some ⟨blk, 0, none⟩) ds.length cap, .func (.func 46) #[] #[]] w fun e w' => e = .returned (.tuple #[]) ∧ ∃ ds' : List PV, ds'.Perm ds ∧ ds'.Pairwise (fun x y => lessB y.x.f0 x.x.f0 = false) ∧ HoldsK enc51 5 w' blk 0 ds'.toArray ∧ w.grownBy w' (some blk) := by
  have eg : ∀ args w, (callFunc 46 args).run Tryz.prog w = .ok (.enter 46 args) w := enters_of Tryz.func46 (by kernel_rfl) rfl
  have hS := AnyQ.slices_SortFunc Tryz.sortP 5 Tryz.isAgg51 Tryz.sizeOf51 enc51 (fun _ => rfl) (fun x v hv => by simp [enc51] at hv; rcases hv with rfl | rfl | rfl | rfl | rfl <;> rfl) cfP swoP 46 #[] blk 0 cap ds.toArray w eg (fun _ _ _ _ x y => closure46 x y _) hH hblk (by simp; omega)
  change Calls Tryz.prog 45 _ _ _ at hS
  have hsz2 : ds.toArray.size = ds.length := by simp
  rw [hsz2] at hS
  refine hS.mono ?_
  rintro e w' ⟨rfl, d', n, os, hP, hSo, rfl⟩
  obtain ⟨hPs, _, hPp⟩ := hP
  have hds : d'.size = ds.length := by rw [hPs]; simp
  have e1 : d'.extract 0 ds.length = d' := by rw [← hds]; exact Array.extract_size
  have e2 : ds.toArray.extract 0 ds.length = ds.toArray := by rw [← hsz2]; exact Array.extract_size
  rw [e1, e2] at hPp
  simp only [List.toList_toArray] at hPp
  refine ⟨rfl, d'.toList, hPp, ?_, ?_, ?_⟩
  · rw [List.pairwise_iff_getElem]
    intro i j hi hj hij
    have hi' : i < d'.size := by simpa using hi
    have hj' : j < d'.size := by simpa using hj
    have h9 := hSo i j (Nat.zero_le _) hij (by omega)
    rw [ltP, getElem!_pos d' i hi', getElem!_pos d' j hj'] at h9
    simpa using h9
  · rw [Array.toArray_toList]
    exact holdsK_sortWorldK enc51 5 w blk 0 n ds.toArray d' os hblk hH (by rw [hds]; simp)
  · exact sortWorld_by id w blk n (flatK enc51 5 d') os
theorem sort_none (p : Option Addr) (cap : Nat) (w : World) : Calls Tryz.prog 45 #[.slice p 0 cap, .func (.func 46) #[] #[]] w fun e w' => e = .returned (.tuple #[]) ∧ w' = w :=
  AnyF.slices_SortFunc_none Tryz.sortP p cap (.func (.func 46) #[] #[]) w

end Go.Proofs.YtcjmplpfebpfpaaGreatDoor

namespace Go.Proofs.YtcjmplpfebpfpaaGreatDoor
open Go.RowKit Go.Proofs Go.Proofs.YtcjmplpfebpfpaaGreatDoorW.PrintWords Go.Proofs.YtcjmplpfebpfpaaGreatDoorW.PrintLast Go.Proofs.YtcjmplpfebpfpaaGreatDoorW.PrintMore PKindInstances
set_option linter.unusedVariables false
set_option linter.unusedSimpArgs false

end Go.Proofs.YtcjmplpfebpfpaaGreatDoor

namespace Go.Proofs.YtcjmplpfebpfpaaGreatDoor
open Go.RowKit Go.Proofs Go.Proofs.YtcjmplpfebpfpaaGreatDoorW.PrintWords Go.Proofs.YtcjmplpfebpfpaaGreatDoorW.PrintLast Go.Proofs.YtcjmplpfebpfpaaGreatDoorW.PrintMore PKindInstances
set_option linter.unusedVariables false
set_option linter.unusedSimpArgs false

end Go.Proofs.YtcjmplpfebpfpaaGreatDoor

namespace Go.Proofs.YtcjmplpfebpfpaaGreatDoor
open Go.RowKit Go.Proofs Go.Proofs.YtcjmplpfebpfpaaGreatDoorW.PrintWords Go.Proofs.YtcjmplpfebpfpaaGreatDoorW.PrintLast Go.Proofs.YtcjmplpfebpfpaaGreatDoorW.PrintMore PKindInstances
set_option linter.unusedVariables false
set_option linter.unusedSimpArgs false

set_option maxRecDepth 100000 in
set_option maxHeartbeats 4000000 in
theorem unify_bare (vs : List ByteArray) (n : Nat) (W0 w : World) (base sp vb tb : Nat) (mt : List (ByteArray × S24)) (mtv : List (ByteArray × Value)) (a b : S24) (A5 B5 : Option Addr) (c5 d5 : Nat) (hs : SolvAt base w sp vb tb (varsV vs) mtv) (ht : ToAt W0 mt mtv)
    (hw : Below W0.heap.size W0 w) (hb : W0.heap.size ≤ base) (ha1 : Kd.C k24 W0 A5 a.f3.length a.f3) (u2 : a.f3.length ≤ c5) (u3 : wid a < 9000000) (hb1 : Kd.C k24 W0 B5 b.f3.length b.f3) (v2 : b.f3.length ≤ d5) (v3 : wid b < 9000000)
    (hL : ListsOk vs n) (R : URes) (hk : (if a.f0 ≠ 3 ∨ b.f0 ≠ 3 then (if eqM a b then some (.ok mt) else some (.stop 8)) else listsM (unifyM vs n) mt a b true) = some R) :
    Calls Tryz.prog 55 #[.pointer (some ⟨sp, 0, none⟩), formV a.f0 a.f1 a.f2 A5 a.f3.length c5, formV b.f0 b.f1 b.f2 B5 b.f3.length d5, .bool true] w (UPost W0 w base sp vb tb vs R) := by
  have hu24 := Tryz.underlying24
  have U1 : Hid _ := ha1
  have V1 : Hid _ := hb1
  obtain ⟨m0, m1, m2, m3⟩ := a
  obtain ⟨k0, k1, k2, k3⟩ := b
  have hx2 : ((w.alloc (Obj.cells #[.int .i64 m0, .int .i64 m1, .string m2, .slice A5 m3.length c5] 24)).alloc (Obj.cells #[.int .i64 k0, .int .i64 k1, .string k2, .slice B5 k3.length d5] 24)).heap[w.heap.size + 1]? = some (Obj.cells #[.int .i64 k0, .int .i64 k1, .string k2, .slice B5 k3.length d5] 24) := by
    have h := (MapKept.heap_alloc (w.alloc (Obj.cells #[.int .i64 m0, .int .i64 m1, .string m2, .slice A5 m3.length c5] 24)) (Obj.cells #[.int .i64 k0, .int .i64 k1, .string k2, .slice B5 k3.length d5] 24)).1
    rw [size_new] at h
    exact h
  have hx1 : ((w.alloc (Obj.cells #[.int .i64 m0, .int .i64 m1, .string m2, .slice A5 m3.length c5] 24)).alloc (Obj.cells #[.int .i64 k0, .int .i64 k1, .string k2, .slice B5 k3.length d5] 24)).heap[w.heap.size]? = some (Obj.cells #[.int .i64 m0, .int .i64 m1, .string m2, .slice A5 m3.length c5] 24) :=
    (Below.heap_alloc _ _ _ (by rw [size_new]; omega)).trans (MapKept.heap_alloc w _).1
  have hxb : Below w.heap.size w ((w.alloc (Obj.cells #[.int .i64 m0, .int .i64 m1, .string m2, .slice A5 m3.length c5] 24)).alloc (Obj.cells #[.int .i64 k0, .int .i64 k1, .string k2, .slice B5 k3.length d5] 24)) := below_alloc (below_alloc (Below.refl _ _) _) _
  have HX1 : Hid _ := hx1
  have HX2 : Hid _ := hx2
  have HXB : Hid _ := hxb
  have HS : Hid _ := hs
  have HT : Hid _ := ht
  have HL : Hid _ := hL
  have HK : Hid _ := hk
  have HW : Hid _ := hw
  have HBs : Hid _ := hb
  clear hx1 hx2 hxb hs ht ha1 hb1 hL hk hw hb
  go_enter Tryz.func55, Tryz.ntmps55
  go_upto_region 3 with fail
  go_cut [8, 9] from 18 to 49 (fun x8 x9 wx => x8 = .bool false ∧ x9 = .bool false ∧ Below w.heap.size w wx ∧ wx.heap[w.heap.size]? = some (.cells #[.int .i64 m0, .int .i64 m1, .string m2, .slice A5 m3.length c5] 24 (0, 0)) ∧
      wx.heap[w.heap.size + 1]? = some (.cells #[.int .i64 k0, .int .i64 k1, .string k2, .slice B5 k3.length d5] 24 (0, 0)))
  case first =>
    go_big_quiet (fail)
    go_wp2_with fail
    go_meet
    case rel => exact ⟨rfl, rfl, pw_below_drewN HXB.out nq, (heap_drewN _ _ _).trans HX1.out, (heap_drewN _ _ _).trans HX2.out⟩
  case rest =>
    obtain ⟨rfl, rfl, hB, hx, hy⟩ := hcut
    obtain ⟨p0, p1, p2, p3⟩ := cells4 hx
    obtain ⟨q0, q1, q2, q3⟩ := cells4 hy
    have G : Hid (w.grownBy wc (some tb)) := grown_of_below hB (some tb)
    have S3 : Hid _ := HS.out.below hB
    have W3 : Hid (Below W0.heap.size W0 wc) := HW.out.trans (hB.mono HW.out.size)
    have hK := HK.out
    clear hx hy hB
    by_cases h33 : m0 = 3 ∧ k0 = 3
    · obtain ⟨e3, e4⟩ := h33
      subst e3
      subst e4
      rw [if_neg (by simp)] at hK
      have BI : Hid _ := HL.out W0 wc base sp vb tb mt mtv ⟨3, m1, m2, m3⟩ ⟨3, k1, k2, k3⟩ true A5 B5 c5 d5 R S3.out HT.out W3.out HBs.out U1.out u2 u3 V1.out v2 v3 hK
      clear hK
      go_wp2_with fail
      refine Calls.mono BI.out ?_
      rintro e w5 h5
      have h6 := h5.from G.out
      clear h5
      cases R with
      | ok mt2 =>
        obtain ⟨rfl, h7⟩ := h6
        have H7 : Hid _ := h7
        clear h7
        go_wp2_with fail
        go_end0
        exact ⟨rfl, H7.out⟩
      | stop e2 =>
        obtain ⟨rfl, h7⟩ := h6
        have H7 : Hid _ := h7
        clear h7
        go_wp2_with fail
        exact ⟨rfl, rfl, H7.out⟩
    · rw [if_pos (by rcases Classical.em (m0 = 3) with h | h; exact .inr (fun h2 => h33 ⟨h, h2⟩); exact .inl h)] at hK
      have EQ : Hid _ := Equal_any ⟨m0, m1, m2, m3⟩ ⟨k0, k1, k2, k3⟩ A5 B5 c5 d5 wc (Kd.C_below U1.out W3.out) u2 (Kd.C_below V1.out W3.out) v2 u3 v3
      obtain ⟨q, hq⟩ : ∃ q, q = eqM ⟨m0, m1, m2, m3⟩ ⟨k0, k1, k2, k3⟩ := ⟨_, rfl⟩
      rw [← hq] at hK EQ
      clear hq
      have b33 : (m0 != 3) = true ∨ (m0 != 3) = false ∧ (k0 != 3) = true := by
        by_cases h : m0 = 3
        · exact .inr ⟨by simp [h], by simp; exact fun h2 => h33 ⟨h, h2⟩⟩
        · exact .inl (by simp [h])
      clear h33
      rcases b33 with b3 | ⟨b3, b4⟩
      · cases q with
        | true =>
          simp only [if_true, Option.some.injEq] at hK
          subst hK
          go_wp2_with fail
          refine Calls.mono EQ.out ?_
          rintro e w5 ⟨rfl, B5'⟩
          have S5 : Hid _ := S3.out.below B5'
          have G5 : Hid _ := G.out.trans (grown_of_below B5' (some tb))
          clear B5'
          go_wp2_with fail
          go_end0
          exact ⟨rfl, G5.out, mtv, S5.out, HT.out⟩
        | false =>
          simp only [Bool.false_eq_true, if_false, Option.some.injEq] at hK
          subst hK
          go_wp2_with fail
          refine Calls.mono EQ.out ?_
          rintro e w5 ⟨rfl, B5'⟩
          have G5 : Hid _ := G.out.trans (grown_of_below B5' (some tb))
          clear B5'
          go_wp2_with fail
          exact ⟨rfl, rfl, G5.out⟩
      · cases q with
        | true =>
          simp only [if_true, Option.some.injEq] at hK
          subst hK
          go_wp2_with fail
          refine Calls.mono EQ.out ?_
          rintro e w5 ⟨rfl, B5'⟩
          have S5 : Hid _ := S3.out.below B5'
          have G5 : Hid _ := G.out.trans (grown_of_below B5' (some tb))
          clear B5'
          go_wp2_with fail
          go_end0
          exact ⟨rfl, G5.out, mtv, S5.out, HT.out⟩
        | false =>
          simp only [Bool.false_eq_true, if_false, Option.some.injEq] at hK
          subst hK
          go_wp2_with fail
          refine Calls.mono EQ.out ?_
          rintro e w5 ⟨rfl, B5'⟩
          have G5 : Hid _ := G.out.trans (grown_of_below B5' (some tb))
          clear B5'
          go_wp2_with fail
          exact ⟨rfl, rfl, G5.out⟩

/-- unify, whatever the forms, where the lists of the next depth are unified rightly. -/
theorem unify_step (vs : List ByteArray) (n : Nat) (hL : ListsOk vs n) : UniOk vs (n + 1) := by
  intro W0 w base sp vb tb mt mtv a b bare A B c d R hs ht hw hb ha1 ha2 ha3 hb1 hb2 hb3 hk
  simp only [unifyM] at hk
  cases bare with
  | true =>
    simp only [if_true, isVar, Bool.not_true, Bool.false_and, Bool.false_eq_true, if_false] at hk
    exact unify_bare vs n W0 w base sp vb tb mt mtv a b A B c d hs ht hw hb ha1 ha2 ha3 hb1 hb2 hb3 hL R hk
  | false =>
    simp only [Bool.false_eq_true, if_false] at hk
    cases hka : knownM vs mt n a with
    | none => rw [hka] at hk; simp at hk
    | some a' =>
      cases hkb : knownM vs mt n b with
      | none => rw [hka, hkb] at hk; simp at hk
      | some b' =>
        rw [hka, hkb] at hk
        exact unify_x vs n W0 w base sp vb tb mt mtv a b A B c d a' b' hs ht hw hb ha1 ha2 ha3 hb1 hb2 hb3 hka hkb hL R hk

end Go.Proofs.YtcjmplpfebpfpaaGreatDoor
