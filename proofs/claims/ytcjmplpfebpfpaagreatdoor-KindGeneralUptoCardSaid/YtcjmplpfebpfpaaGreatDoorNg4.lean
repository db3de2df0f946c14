/- Part 4 of what the law's row leans on (Ng): the print's words and functions, cut to what is reached, and own texts. -/
import Derived.Defers
import Derived.WalkLawsBesides
import Derived.Deep.RegionLaw
import Derived.Deep.CutRange
import Derived.Deep.DeepCutAuto
import Derived.Deep.CutBlock
import Derived.Deep.RegionHeld3
import Derived.BigQuiet
import Derived.Test.YtcjmplpfebpfpaaGreatDoorNg3
namespace Go.Proofs.YtcjmplpfebpfpaaGreatDoor.PKindInstances
open Go.RowKit Go.Proofs.YtcjmplpfebpfpaaGreatDoorW.PrintWords Go.Proofs.YtcjmplpfebpfpaaGreatDoorW.PrintLast Go.Proofs.YtcjmplpfebpfpaaGreatDoorW.PrintMore
attribute [local go_sem] max2_int min2_int max_two min_two max_three min_three max_four min_four   -- for this text's walks alone
set_option linter.unusedVariables false
set_option linter.unusedSimpArgs false

def plinthref03_Reserved.f (k : Nat) (a0 : ByteArray) : Option (Bool) := (plinthref03_Has.f k (([(⟨#[105, 110, 116]⟩ : ByteArray), (⟨#[98, 111, 111, 108]⟩ : ByteArray), (⟨#[98, 105, 116, 115]⟩ : ByteArray), (⟨#[115, 101, 113]⟩ : ByteArray), (⟨#[115, 101, 116]⟩ : ByteArray), (⟨#[98, 97, 103]⟩ : ByteArray), (⟨#[109, 97, 112]⟩ : ByteArray), (⟨#[105, 109, 97, 112]⟩ : ByteArray), (⟨#[102, 117, 110]⟩ : ByteArray), (⟨#[109, 97, 121, 98, 101]⟩ : ByteArray)] : List ByteArray)) a0).bind fun t421 => (some t421)
set_option maxHeartbeats 8000000 in
set_option maxRecDepth 100000 in
theorem plinthref03_Reserved.calls (k : Nat) (a0 : ByteArray) (r : Bool) (w : World) (h : plinthref03_Reserved.f k a0 = some r) :
    Calls Tryz.prog 62 #[.string a0] w fun e w' => e = .returned (.bool r) ∧ Below w.heap.size w w' := by
  have HB := Aside0.mk (Below.refl w.heap.size w)
  have H : ((plinthref03_Has.f k (([(⟨#[105, 110, 116]⟩ : ByteArray), (⟨#[98, 111, 111, 108]⟩ : ByteArray), (⟨#[98, 105, 116, 115]⟩ : ByteArray), (⟨#[115, 101, 113]⟩ : ByteArray), (⟨#[115, 101, 116]⟩ : ByteArray), (⟨#[98, 97, 103]⟩ : ByteArray), (⟨#[109, 97, 112]⟩ : ByteArray), (⟨#[105, 109, 97, 112]⟩ : ByteArray), (⟨#[102, 117, 110]⟩ : ByteArray), (⟨#[109, 97, 121, 98, 101]⟩ : ByteArray)] : List ByteArray)) a0).bind fun t421 => (some t421)) = some r := h
  clear h
  obtain ⟨y418, hy418⟩ : ∃ y_ : List ByteArray, y_ = (([(⟨#[105, 110, 116]⟩ : ByteArray), (⟨#[98, 111, 111, 108]⟩ : ByteArray), (⟨#[98, 105, 116, 115]⟩ : ByteArray), (⟨#[115, 101, 113]⟩ : ByteArray), (⟨#[115, 101, 116]⟩ : ByteArray), (⟨#[98, 97, 103]⟩ : ByteArray), (⟨#[109, 97, 112]⟩ : ByteArray), (⟨#[105, 109, 97, 112]⟩ : ByteArray), (⟨#[102, 117, 110]⟩ : ByteArray), (⟨#[109, 97, 121, 98, 101]⟩ : ByteArray)] : List ByteArray)) := ⟨_, rfl⟩
  replace H : ((plinthref03_Has.f k y418 a0).bind fun t421 => (some t421)) = some r := by first | (rw [hy418]; with_reducible exact H) | (have H2_ := (Option.bind_some _ _).symm.trans H; rw [hy418]; with_reducible exact H2_) | (have H2_ := (Option.bind_some _ _).symm.trans H; with_reducible exact H2_) | with_reducible exact H | (rw [hy418]; exact H) | exact H
  have Ny418 := Aside0.mk hy418
  clear hy418
  replace H := Option.bind_eq_some_iff.mp H
  obtain ⟨t421, A20, H⟩ := H
  replace H : (some t421) = some r := H
  have A2 := Aside0.mk A20
  clear A20
  obtain rfl := Option.some.inj H
  go_enter Tryz.func62, Tryz.ntmps62
  go_wp2_with (first | ((with_reducible refine gate_dst (N := 3) rfl ?_); refine Kd.R_lit Kd.string _ 9 ?hg (N := 3) ?hd (xs := ([(⟨#[105, 110, 116]⟩ : ByteArray), (⟨#[98, 111, 111, 108]⟩ : ByteArray), (⟨#[98, 105, 116, 115]⟩ : ByteArray), (⟨#[115, 101, 113]⟩ : ByteArray), (⟨#[115, 101, 116]⟩ : ByteArray), (⟨#[98, 97, 103]⟩ : ByteArray), (⟨#[109, 97, 112]⟩ : ByteArray), (⟨#[105, 109, 97, 112]⟩ : ByteArray), (⟨#[102, 117, 110]⟩ : ByteArray), (⟨#[109, 97, 121, 98, 101]⟩ : ByteArray)] : List ByteArray)) (inner := [.string (⟨#[105, 110, 116]⟩ : ByteArray), .string (⟨#[98, 111, 111, 108]⟩ : ByteArray), .string (⟨#[98, 105, 116, 115]⟩ : ByteArray), .string (⟨#[115, 101, 113]⟩ : ByteArray), .string (⟨#[115, 101, 116]⟩ : ByteArray), .string (⟨#[98, 97, 103]⟩ : ByteArray), .string (⟨#[109, 97, 112]⟩ : ByteArray), .string (⟨#[105, 109, 97, 112]⟩ : ByteArray), .string (⟨#[102, 117, 110]⟩ : ByteArray), .string (⟨#[109, 97, 121, 98, 101]⟩ : ByteArray)]) (ok := fun _ => True) (okp := fun _ => True) ?hr ?hp (fun _ hk => hk) trivial (Below.refl _ _) (Nat.le_refl _) (by simp) ?_; (case hd => rfl); (case hg => rfl); (case hr => first | (go_simp; done) | (go_simp; rfl)); (case hp => exact (Reps.one (show Kd.M Kd.string _ _ _ (⟨#[105, 110, 116]⟩ : ByteArray) [.string (⟨#[105, 110, 116]⟩ : ByteArray)] from rfl) (Reps.one (show Kd.M Kd.string _ _ _ (⟨#[98, 111, 111, 108]⟩ : ByteArray) [.string (⟨#[98, 111, 111, 108]⟩ : ByteArray)] from rfl) (Reps.one (show Kd.M Kd.string _ _ _ (⟨#[98, 105, 116, 115]⟩ : ByteArray) [.string (⟨#[98, 105, 116, 115]⟩ : ByteArray)] from rfl) (Reps.one (show Kd.M Kd.string _ _ _ (⟨#[115, 101, 113]⟩ : ByteArray) [.string (⟨#[115, 101, 113]⟩ : ByteArray)] from rfl) (Reps.one (show Kd.M Kd.string _ _ _ (⟨#[115, 101, 116]⟩ : ByteArray) [.string (⟨#[115, 101, 116]⟩ : ByteArray)] from rfl) (Reps.one (show Kd.M Kd.string _ _ _ (⟨#[98, 97, 103]⟩ : ByteArray) [.string (⟨#[98, 97, 103]⟩ : ByteArray)] from rfl) (Reps.one (show Kd.M Kd.string _ _ _ (⟨#[109, 97, 112]⟩ : ByteArray) [.string (⟨#[109, 97, 112]⟩ : ByteArray)] from rfl) (Reps.one (show Kd.M Kd.string _ _ _ (⟨#[105, 109, 97, 112]⟩ : ByteArray) [.string (⟨#[105, 109, 97, 112]⟩ : ByteArray)] from rfl) (Reps.one (show Kd.M Kd.string _ _ _ (⟨#[102, 117, 110]⟩ : ByteArray) [.string (⟨#[102, 117, 110]⟩ : ByteArray)] from rfl) (Reps.one (show Kd.M Kd.string _ _ _ (⟨#[109, 97, 121, 98, 101]⟩ : ByteArray) [.string (⟨#[109, 97, 121, 98, 101]⟩ : ByteArray)] from rfl) (Reps.none _ _)))))))))))); intro v419 w3 ho4 hb hg_ hnew_; clear hg_ hnew_; (first | rw [← Ny418.out] at ho4 | (simp only [Int.reduceToNat] at ho4; rw [← Ny418.out] at ho4)); have n0_ := Aside0.mk (Kd.R_lower ho4 (below_size (by repeat (first | (with_reducible first | exact HB.out | apply below_alloc | apply pw_below_drewN | apply below_drew1) | exact HB.out)))); have n1_ := Aside0.mk (below_step (by repeat (first | (with_reducible first | exact HB.out | apply below_alloc | apply pw_below_drewN | apply below_drew1) | exact HB.out)) hb); clear HB; have HO420 := n0_; have HB := n1_; clear n0_ n1_; clear hb ho4; obtain ⟨Ao5, co5, eo5⟩ := Kd.R_slice HO420.out; subst eo5) | ((with_reducible refine gate_callee (f := 102) rfl ?_); refine goesL_ (some 5) rfl rfl Tryz.func102 (by kernel_rfl) rfl #[.slice Ao5 y418.length co5, .string a0] rfl (by (try simp only [List.map_toArray, List.map_cons, List.map_nil]); first | done | rfl | (simp only [List.length_drop, List.length_take]; rfl)) ?_; (with_reducible refine (plinthref03_Has.calls k _ _ y418 a0 t421 _ ?side1 ?side2 A2.out).mono ?_); (case side1 => repeat (first | exact (Kd.R_reads' HO420.out).2.2 | (with_reducible refine Kd.C_alloc ?_ _) | (with_reducible refine Kd.C_drewN ?_ _) | (with_reducible refine Kd.C_drew ?_))); (case side2 => exact (Kd.R_reads' HO420.out).2.1); rintro e w' ⟨rfl, ⟨nd, rfl⟩⟩; refine ⟨_, rfl, ?_⟩))
  go_ret
  exact ⟨by first | rfl | (simp [errW_none, errW_some] <;> rfl) | (simp [*, errW_none, errW_some] <;> rfl), by repeat (first | (with_reducible first | exact HB.out | apply below_alloc | apply pw_below_drewN | apply below_drew1) | exact HB.out)⟩

end Go.Proofs.YtcjmplpfebpfpaaGreatDoor.PKindInstances

namespace Go.Proofs.YtcjmplpfebpfpaaGreatDoor
open Go.RowKit Go.Proofs Go.Proofs.YtcjmplpfebpfpaaGreatDoorW.PrintWords Go.Proofs.YtcjmplpfebpfpaaGreatDoorW.PrintLast Go.Proofs.YtcjmplpfebpfpaaGreatDoorW.PrintMore PKindInstances
set_option linter.unusedVariables false
set_option linter.unusedSimpArgs false

theorem wrap_up {i : Nat} (h : i < 9000000000000) : wrap64 ((i : Int) + 1) = ((i + 1 : Nat) : Int) := by unfold wrap64; omega
theorem drop_at5 {α : Type} {l : List α} {i : Nat} {x : α} (hx : l[i]? = some x) : l.drop i = x :: l.drop (i + 1) := by
  obtain ⟨h, e⟩ := List.getElem?_eq_some_iff.1 hx
  rw [List.drop_eq_getElem_cons h, e]
theorem rdOf_at {α : Type} {z : α} {l : List α} {i : Nat} {x : α} (hx : l[i]? = some x) : rdOf z l (i : Int) = x := by simp [rdOf, List.getD, hx]

theorem bytes_toList' (l : List UInt8) : (ByteArray.mk l.toArray).toList = l := by rw [ByteArray.toList_eq]
theorem has_l0 (l : List ByteArray) (a : ByteArray) (hl : l.length < 9000000000000) (d : Nat) : ∀ (k i : Nat), d + i = l.length → d < k → plinthref03_Has.l0 k l a (i : Int) = some (decide (a ∈ l.drop i)) := by
  induction d with
  | zero =>
    intro k i h hk
    obtain ⟨k, rfl⟩ : ∃ m, k = m + 1 := ⟨k - 1, by omega⟩
    have e : l.drop i = [] := List.drop_eq_nil_of_le (by omega)
    simp only [plinthref03_Has.l0]
    rw [if_neg (by omega), e]
    simp
  | succ d ih =>
    intro k i h hk
    obtain ⟨k, rfl⟩ : ∃ m, k = m + 1 := ⟨k - 1, by omega⟩
    have hlt : i < l.length := by omega
    obtain ⟨x, hx⟩ : ∃ x, l[i]? = some x := ⟨l[i], by simp [hlt]⟩
    simp only [plinthref03_Has.l0]
    rw [if_pos (by omega), if_pos (by omega), rdOf_at hx, drop_at5 hx]
    by_cases e : x.toList = a.toList
    · rw [if_pos e, bytes_inj e]
      simp
    · rw [if_neg e, wrap_up (by omega), ih k (i + 1) (by omega) (by omega)]
      have : a ≠ x := fun h => e (by rw [h])
      simp [this]
theorem has_ev (l : List ByteArray) (a : ByteArray) (hl : l.length < 9000000000000) : Ev (fun k => plinthref03_Has.f k l a) (decide (a ∈ l)) := by
  refine ⟨l.length + 1, fun k hk => ?_⟩
  have := has_l0 l a hl l.length k 0 (by omega) (by omega)
  simpa [plinthref03_Has.f] using this

theorem reserved_ev (s : ByteArray) : Ev (fun k => plinthref03_Reserved.f k s) (resM s) := by
  have h := has_ev ([(⟨#[105, 110, 116]⟩ : ByteArray), (⟨#[98, 111, 111, 108]⟩ : ByteArray), (⟨#[98, 105, 116, 115]⟩ : ByteArray), (⟨#[115, 101, 113]⟩ : ByteArray), (⟨#[115, 101, 116]⟩ : ByteArray), (⟨#[98, 97, 103]⟩ : ByteArray), (⟨#[109, 97, 112]⟩ : ByteArray), (⟨#[105, 109, 97, 112]⟩ : ByteArray), (⟨#[102, 117, 110]⟩ : ByteArray), (⟨#[109, 97, 121, 98, 101]⟩ : ByteArray)]) s (by simp)
  have e1 : (s.toList == [105, 110, 116]) = decide (s = ⟨#[105, 110, 116]⟩) := by
    by_cases h : s = ⟨#[105, 110, 116]⟩
    · rw [h, bytes_toList']; rfl
    · rw [decide_eq_false h]; exact beq_eq_false_iff_ne.mpr fun e => h (bytes_inj (e.trans (bytes_toList' _).symm))
  have e2 : (s.toList == [98, 111, 111, 108]) = decide (s = ⟨#[98, 111, 111, 108]⟩) := by
    by_cases h : s = ⟨#[98, 111, 111, 108]⟩
    · rw [h, bytes_toList']; rfl
    · rw [decide_eq_false h]; exact beq_eq_false_iff_ne.mpr fun e => h (bytes_inj (e.trans (bytes_toList' _).symm))
  have e3 : resM s = decide (s ∈ [(⟨#[105, 110, 116]⟩ : ByteArray), (⟨#[98, 111, 111, 108]⟩ : ByteArray), (⟨#[98, 105, 116, 115]⟩ : ByteArray), (⟨#[115, 101, 113]⟩ : ByteArray), (⟨#[115, 101, 116]⟩ : ByteArray), (⟨#[98, 97, 103]⟩ : ByteArray), (⟨#[109, 97, 112]⟩ : ByteArray), (⟨#[105, 109, 97, 112]⟩ : ByteArray), (⟨#[102, 117, 110]⟩ : ByteArray), (⟨#[109, 97, 121, 98, 101]⟩ : ByteArray)]) := by
    unfold resM
    rw [e1, e2]
    simp only [headsM, look, List.mem_cons, List.not_mem_nil, or_false]
    repeat' split
    all_goals simp_all
  rw [e3]
  exact Ev.bind h (Ev.now _)

/-- A text put into an ascending row, once. -/
def putL : List ByteArray → ByteArray → List ByteArray
  | [], s => [s]
  | x :: l, s => if Op.bytesLess x.toList s.toList = true then x :: putL l s else if x.toList = s.toList then x :: l else s :: x :: l

theorem put_l0 (l : List ByteArray) (a : ByteArray) (hl : l.length < 9000000000) (d : Nat) : ∀ (k i : Nat), d + i = l.length → d < k → plinthref03_put.l0 k l a (i : Int) = some (l.take i ++ putL (l.drop i) a) := by
  induction d with
  | zero =>
    intro k i h hk
    obtain ⟨k, rfl⟩ : ∃ m, k = m + 1 := ⟨k - 1, by omega⟩
    have e : l.drop i = [] := List.drop_eq_nil_of_le (by omega)
    have hi : i = l.length := by omega
    subst hi
    simp only [plinthref03_put.l0]
    rw [if_neg (by omega), e]
    simp [putL]
    omega
  | succ d ih =>
    intro k i h hk
    obtain ⟨k, rfl⟩ : ∃ m, k = m + 1 := ⟨k - 1, by omega⟩
    have hlt : i < l.length := by omega
    obtain ⟨x, hx⟩ : ∃ x, l[i]? = some x := ⟨l[i], by simp [hlt]⟩
    have et : l.take (i + 1) = l.take i ++ [x] := by rw [List.take_add_one, hx]; rfl
    simp only [plinthref03_put.l0]
    rw [if_pos (by omega), if_pos (by omega), rdOf_at hx, drop_at5 hx]
    by_cases e : Op.bytesLess x.toList a.toList = true
    · rw [if_pos e, wrap_up (by omega), ih k (i + 1) (by omega) (by omega), et]
      simp [putL, e]
    · rw [if_neg e]
      by_cases e2 : x.toList = a.toList
      · rw [if_pos e2]
        simp only [putL]
        rw [if_neg e, if_pos e2, ← drop_at5 hx, List.take_append_drop]
      · rw [if_neg e2]
        simp only [putL]
        rw [if_neg e, if_neg e2, ← drop_at5 hx]
        simp
        omega
theorem put_ev (l : List ByteArray) (a : ByteArray) (hl : l.length < 9000000000) : Ev (fun k => plinthref03_put.f k l a) (putL l a) := by
  refine ⟨l.length + 1, fun k hk => ?_⟩
  have := put_l0 l a hl l.length k 0 (by omega) (by omega)
  simpa [plinthref03_put.f] using this

theorem putL_len : ∀ (l : List ByteArray) (a : ByteArray), (putL l a).length ≤ l.length + 1
  | [], a => by simp [putL]
  | x :: l, a => by
    have := putL_len l a
    simp only [putL]
    split
    · simp only [List.length_cons]; omega
    · split <;> simp
end Go.Proofs.YtcjmplpfebpfpaaGreatDoor

namespace Go.Proofs.YtcjmplpfebpfpaaGreatDoor
open Go.RowKit Go.Proofs Go.Proofs.YtcjmplpfebpfpaaGreatDoorW.PrintWords Go.Proofs.YtcjmplpfebpfpaaGreatDoorW.PrintLast Go.Proofs.YtcjmplpfebpfpaaGreatDoorW.PrintMore PKindInstances
set_option linter.unusedVariables false
set_option linter.unusedSimpArgs false

/-- What a call on the way ends with: what is known then, or an error that is thrown. -/
inductive URes where
  | ok (mt : List (ByteArray × S24))
  | stop (n : Int)

def stopE (n : Int) : PanicEntry := { v := .iface 88 (.agg #[.int .i64 n]), recovered := false }
/-- What holds behind such a call. -/
def UPost (W0 w : World) (base sp vb tb : Nat) (vs : List ByteArray) : URes → Ending → World → Prop
  | .ok mt, e, w' => e = .returned (.tuple #[]) ∧ w.grownBy w' (some tb) ∧ ∃ mtv, SolvAt base w' sp vb tb (varsV vs) mtv ∧ ToAt W0 mt mtv
  | .stop n, e, w' => e = .panicked [stopE n] ∧ w.grownBy w' (some tb)

def bindM (vs : List ByteArray) (mt : List (ByteArray × S24)) (n : Nat) (name : ByteArray) (x : S24) : Option URes :=
  match withinM vs mt n name x false with
  | none => none
  | some true => some (.stop 11)
  | some false => some (.ok (putT mt name x))

set_option maxRecDepth 100000 in
theorem bind_any (W0 w : World) (base sp vb tb : Nat) (vs : List ByteArray) (mt : List (ByteArray × S24)) (mtv : List (ByteArray × Value)) (hs : SolvAt base w sp vb tb (varsV vs) mtv) (ht : ToAt W0 mt mtv) (hw : Below W0.heap.size W0 w)
    (name : ByteArray) (x : S24) (A : Option Addr) (c : Nat) (hr : Kd.C k24 W0 A x.f3.length x.f3) (hc : x.f3.length ≤ c) (hx : wid x < 9000000) (n : Nat) (R : URes) (hk : bindM vs mt n name x = some R) :
    Calls Tryz.prog 95 #[.pointer (some ⟨sp, 0, none⟩), .string name, formV x.f0 x.f1 x.f2 A x.f3.length c] w (UPost W0 w base sp vb tb vs R) := by
  have hu24 := Tryz.underlying24
  have hfx : FormAt W0 (formV x.f0 x.f1 x.f2 A x.f3.length c) x := ⟨A, c, rfl, hr, hc, hx⟩
  obtain ⟨x0, x1, x2, x3⟩ := x
  have B0 : Below w.heap.size w (w.alloc (Obj.cells #[.int .i64 x0, .int .i64 x1, .string x2, .slice A x3.length c] 24)) := below_alloc (Below.refl _ _) _
  have BW : Below W0.heap.size W0 (w.alloc (Obj.cells #[.int .i64 x0, .int .i64 x1, .string x2, .slice A x3.length c] 24)) := below_alloc hw _
  unfold bindM at hk
  cases hq : withinM vs mt n name ⟨x0, x1, x2, x3⟩ false with
  | none => rw [hq] at hk; cases hk
  | some q =>
    rw [hq] at hk
    have WI : Hid _ := within_ok vs mt mtv n base sp vb tb _ name ⟨x0, x1, x2, x3⟩ false A c q (hs.below B0) (ToAt.below BW ht) (Kd.C_below hr BW) hc hx hq
    have HS : Hid _ := hs
    have HT : Hid _ := ht
    have HF : Hid _ := hfx
    have HB : Hid _ := B0
    clear hs ht hr hx hq B0 BW hfx hw
    cases q with
    | true =>
      simp only [Option.some.injEq] at hk
      subst hk
      go_enter Tryz.func95, Tryz.ntmps95
      go_wp2_with fail
      refine Calls.mono WI.out ?_
      rintro e w1 ⟨rfl, B1⟩
      have G1 : Hid _ := grown_of_below (below_after HB.out B1) (some tb)
      clear B1
      go_wp2_with fail
      exact ⟨rfl, rfl, G1.out⟩
    | false =>
      simp only [Option.some.injEq] at hk
      subst hk
      go_enter Tryz.func95, Tryz.ntmps95
      go_wp2_with fail
      refine Calls.mono WI.out ?_
      rintro e w1 ⟨rfl, B1⟩
      have G1 : Hid _ := grown_of_below (below_after HB.out B1) (some tb)
      have S1 := HS.out.below (below_after HB.out B1)
      obtain ⟨q0, q1, q2, q3⟩ := box_at B1
      have c1 := S1.c1
      obtain ⟨w9, hrun, M9, G9⟩ := run_update_at keyText' Tryz.underlying72 Tryz.underlying9 (show MapAt w1.drew tb _ from S1.tos) name (formV x0 x1 x2 A x3.length c)
      change (Instr.mapUpdate 72 (.map (some tb)) (.string name) _).run Tryz.prog _ = _ at hrun
      have S9 : Hid _ := SolvAt.putTo (show SolvAt base w1.drew sp vb tb (varsV vs) mtv from ⟨S1.blk, S1.vars, S1.tos, S1.bs, S1.bv, S1.bt, S1.ne⟩) M9 G9
      have GG : Hid (w.grownBy w9 (some tb)) := (G1.out.trans (grown_of_below (below_drew (Below.refl _ _)) (some tb))).trans G9
      clear B1 S1 M9 G9
      go_wp2_with fail
      go_region
      go_wp2_with fail
      go_end0
      exact ⟨rfl, GG.out, _, S9.out, put_to HT.out name HF.out⟩

end Go.Proofs.YtcjmplpfebpfpaaGreatDoor

namespace Go.Proofs.YtcjmplpfebpfpaaGreatDoor
open Go.RowKit Go.Proofs Go.Proofs.YtcjmplpfebpfpaaGreatDoorW.PrintWords Go.Proofs.YtcjmplpfebpfpaaGreatDoorW.PrintLast Go.Proofs.YtcjmplpfebpfpaaGreatDoorW.PrintMore PKindInstances
set_option linter.unusedVariables false
set_option linter.unusedSimpArgs false

/-- An operation taken first, its slot told. -/
theorem takeV {P : Program} {ops : Array Oper} {Q : Exit → Act → World → Prop} {md : Region.Mode} {S : World → Prop} (i : Nat) (d : Option Tmp) (v : Value) {oi : Oper} {fuel : Nat} {listed : Array Bool} {a : Act} {w : World} (hi : ops[i]? = some oi) (hd : oi.dst = d)
    (hs : Region.noSelect ops = true) (hf : Region.free md ops listed i = true) (hr : (Region.ready md ops listed).contains i = true)
    (hQ : ∀ c a w, Q (.panic c) (a.put d v) w → Q (.panic c) a w) (hy : YieldsIf P ops S oi v a) (hS : S w)
    (h : wpAnyH P md ops Q S fuel (listed.setIfInBounds i true) (a.put d v) w) : wpAnyH P md ops Q S (fuel + 1) listed a w := by
  subst hd
  exact wpAnyH_take hi hs hf hr hQ hy hS h

def listsL (f : List (ByteArray × S24) → S24 → S24 → Bool → Option URes) (fn bare : Bool) : Nat → List (ByteArray × S24) → List S24 → List S24 → Option URes
  | i, mt, x :: la, y :: lb =>
    if i = 0 ∧ bare = false ∧ (x.f0 = 1 ∨ y.f0 = 1) then (if eqM x y then listsL f fn bare (i + 1) mt la lb else some (.stop 8)) else
    match f mt x y (fn && decide (i = 1) && (x.f0 == 3) && (y.f0 == 3)) with
    | none => none
    | some (.stop e) => some (.stop e)
    | some (.ok mt') => listsL f fn bare (i + 1) mt' la lb
  | _, mt, _, _ => some (.ok mt)
def listsM (f : List (ByteArray × S24) → S24 → S24 → Bool → Option URes) (mt : List (ByteArray × S24)) (a b : S24) (bare : Bool) : Option URes :=
  match listsL f (!bare && isFunW (headOf a.f0 a.f3) && isFunW (headOf b.f0 b.f3)) bare 0 mt a.f3 b.f3 with
  | none => none
  | some (.stop e) => some (.stop e)
  | some (.ok mt') => if a.f3.length = b.f3.length then some (.ok mt') else some (.stop 8)
def isVar (vs : List ByteArray) (x : S24) (bare : Bool) : Bool := !bare && (x.f0 == 1) && decide (x.f2 ∈ vs)
def unifyM (vs : List ByteArray) : Nat → List (ByteArray × S24) → S24 → S24 → Bool → Option URes
  | 0, _, _, _, _ => none
  | n + 1, mt, a, b, bare =>
    match (if bare then some a else knownM vs mt n a), (if bare then some b else knownM vs mt n b) with
    | some a', some b' =>
      if isVar vs a' bare && isVar vs b' bare && (a'.f2.toList == b'.f2.toList) then some (.ok mt) else
      if isVar vs a' bare then bindM vs mt n a'.f2 b' else
      if isVar vs b' bare then bindM vs mt n b'.f2 a' else
      if a'.f0 ≠ 3 ∨ b'.f0 ≠ 3 then (if eqM a' b' then some (.ok mt) else some (.stop 8)) else
      listsM (unifyM vs n) mt a' b' bare
    | _, _ => none

def UniOk (vs : List ByteArray) (n : Nat) : Prop :=
  ∀ (W0 w : World) (base sp vb tb : Nat) (mt : List (ByteArray × S24)) (mtv : List (ByteArray × Value)) (a b : S24) (bare : Bool) (A B : Option Addr) (c d : Nat) (R : URes), SolvAt base w sp vb tb (varsV vs) mtv → ToAt W0 mt mtv →
    Below W0.heap.size W0 w → W0.heap.size ≤ base → Kd.C k24 W0 A a.f3.length a.f3 → a.f3.length ≤ c → wid a < 9000000 → Kd.C k24 W0 B b.f3.length b.f3 → b.f3.length ≤ d → wid b < 9000000 → unifyM vs n mt a b bare = some R →
    Calls Tryz.prog 55 #[.pointer (some ⟨sp, 0, none⟩), formV a.f0 a.f1 a.f2 A a.f3.length c, formV b.f0 b.f1 b.f2 B b.f3.length d, .bool bare] w (UPost W0 w base sp vb tb vs R)

theorem UPost.from {W0 w w1 w' : World} {base sp vb tb : Nat} {vs : List ByteArray} {R : URes} {e : Ending} (h : UPost W0 w1 base sp vb tb vs R e w') (hg : w.grownBy w1 (some tb)) : UPost W0 w base sp vb tb vs R e w' := by
  cases R with
  | ok mt => exact ⟨h.1, hg.trans h.2.1, h.2.2⟩
  | stop n => exact ⟨h.1, hg.trans h.2⟩
def ListsOk (vs : List ByteArray) (n : Nat) : Prop :=
  ∀ (W0 w : World) (base sp vb tb : Nat) (mt : List (ByteArray × S24)) (mtv : List (ByteArray × Value)) (a b : S24) (bare : Bool) (A B : Option Addr) (c d : Nat) (R : URes), SolvAt base w sp vb tb (varsV vs) mtv → ToAt W0 mt mtv →
    Below W0.heap.size W0 w → W0.heap.size ≤ base → Kd.C k24 W0 A a.f3.length a.f3 → a.f3.length ≤ c → wid a < 9000000 → Kd.C k24 W0 B b.f3.length b.f3 → b.f3.length ≤ d → wid b < 9000000 → listsM (unifyM vs n) mt a b bare = some R →
    Calls Tryz.prog 97 #[.pointer (some ⟨sp, 0, none⟩), formV a.f0 a.f1 a.f2 A a.f3.length c, formV b.f0 b.f1 b.f2 B b.f3.length d, .bool bare] w (UPost W0 w base sp vb tb vs R)

set_option maxRecDepth 100000 in
set_option maxHeartbeats 4000000 in
theorem unify_x (vs : List ByteArray) (n : Nat) (W0 w : World) (base sp vb tb : Nat) (mt : List (ByteArray × S24)) (mtv : List (ByteArray × Value)) (a b : S24) (A B : Option Addr) (c d : Nat) (a' b' : S24) (hs : SolvAt base w sp vb tb (varsV vs) mtv) (ht : ToAt W0 mt mtv)
    (hw : Below W0.heap.size W0 w) (hb : W0.heap.size ≤ base) (ha1 : Kd.C k24 W0 A a.f3.length a.f3) (ha2 : a.f3.length ≤ c) (ha3 : wid a < 9000000) (hb1 : Kd.C k24 W0 B b.f3.length b.f3) (hb2 : b.f3.length ≤ d) (hb3 : wid b < 9000000)
    (hka : knownM vs mt n a = some a') (hkb : knownM vs mt n b = some b') (hL : ListsOk vs n) (R : URes)
    (hk : (if isVar vs a' false && isVar vs b' false && (a'.f2.toList == b'.f2.toList) then some (.ok mt) else if isVar vs a' false then bindM vs mt n a'.f2 b' else if isVar vs b' false then bindM vs mt n b'.f2 a' else
      if a'.f0 ≠ 3 ∨ b'.f0 ≠ 3 then (if eqM a' b' then some (.ok mt) else some (.stop 8)) else listsM (unifyM vs n) mt a' b' false) = some R) :
    Calls Tryz.prog 55 #[.pointer (some ⟨sp, 0, none⟩), formV a.f0 a.f1 a.f2 A a.f3.length c, formV b.f0 b.f1 b.f2 B b.f3.length d, .bool false] w (UPost W0 w base sp vb tb vs R) := by
  have hu24 := Tryz.underlying24
  have KA : Hid (∀ w', Below w.heap.size w w' → Calls Tryz.prog 94 #[.pointer (some ⟨sp, 0, none⟩), formV a.f0 a.f1 a.f2 A a.f3.length c] w' fun e w'' => ∃ u, e = .returned u ∧ FormAt W0 u a' ∧ Below w'.heap.size w' w'') :=
    fun w' h => known_any W0 w' base sp vb tb vs mt mtv (hs.below h) ht (hw.trans (h.mono hw.size)) a A c ha1 ha2 ha3 n a' hka
  have KB : Hid (∀ w', Below w.heap.size w w' → Calls Tryz.prog 94 #[.pointer (some ⟨sp, 0, none⟩), formV b.f0 b.f1 b.f2 B b.f3.length d] w' fun e w'' => ∃ u, e = .returned u ∧ FormAt W0 u b' ∧ Below w'.heap.size w' w'') :=
    fun w' h => known_any W0 w' base sp vb tb vs mt mtv (hs.below h) ht (hw.trans (h.mono hw.size)) b B d hb1 hb2 hb3 n b' hkb
  have HS : Hid _ := hs
  have HT : Hid _ := ht
  have HL : Hid _ := hL
  have HK : Hid _ := hk
  have HW : Hid _ := hw
  have HBs : Hid _ := hb
  clear hs ht ha1 ha3 hb1 hb3 hka hkb hL hk hw hb
  obtain ⟨m0, m1, m2, m3⟩ := a'
  obtain ⟨k0, k1, k2, k3⟩ := b'
  obtain ⟨a0, a1, a2, a3⟩ := a
  obtain ⟨b0, b1, b2, b3⟩ := b
  have hx2 : ((w.alloc (Obj.cells #[.int .i64 a0, .int .i64 a1, .string a2, .slice A a3.length c] 24)).alloc (Obj.cells #[.int .i64 b0, .int .i64 b1, .string b2, .slice B b3.length d] 24)).drew.heap[w.heap.size + 1]? = some (Obj.cells #[.int .i64 b0, .int .i64 b1, .string b2, .slice B b3.length d] 24) := by
    have h := (MapKept.heap_alloc (w.alloc (Obj.cells #[.int .i64 a0, .int .i64 a1, .string a2, .slice A a3.length c] 24)) (Obj.cells #[.int .i64 b0, .int .i64 b1, .string b2, .slice B b3.length d] 24)).1
    rw [size_new] at h
    exact h
  have hx1 : ((w.alloc (Obj.cells #[.int .i64 a0, .int .i64 a1, .string a2, .slice A a3.length c] 24)).alloc (Obj.cells #[.int .i64 b0, .int .i64 b1, .string b2, .slice B b3.length d] 24)).drew.heap[w.heap.size]? = some (Obj.cells #[.int .i64 a0, .int .i64 a1, .string a2, .slice A a3.length c] 24) :=
    (Below.heap_alloc _ _ _ (by rw [size_new]; omega)).trans (MapKept.heap_alloc w _).1
  have hxb : Below w.heap.size w ((w.alloc (Obj.cells #[.int .i64 a0, .int .i64 a1, .string a2, .slice A a3.length c] 24)).alloc (Obj.cells #[.int .i64 b0, .int .i64 b1, .string b2, .slice B b3.length d] 24)).drew := below_drew (below_alloc (below_alloc (Below.refl _ _) _) _)
  have HX1 : Hid _ := hx1
  have HX2 : Hid _ := hx2
  have HXB : Hid _ := hxb
  clear hx1 hx2 hxb
  go_enter Tryz.func55, Tryz.ntmps55
  go_upto_region 2 with fail
  go_cut [] from 12 to 17 (fun wx => Below w.heap.size w wx ∧ ∃ A5 c5 B5 d5, wx.heap[w.heap.size]? = some (.cells #[.int .i64 m0, .int .i64 m1, .string m2, .slice A5 m3.length c5] 24 (0, 0)) ∧
      wx.heap[w.heap.size + 1]? = some (.cells #[.int .i64 k0, .int .i64 k1, .string k2, .slice B5 k3.length d5] 24 (0, 0)) ∧
      Kd.C k24 W0 A5 m3.length m3 ∧ m3.length ≤ c5 ∧ wid ⟨m0, m1, m2, m3⟩ < 9000000 ∧ Kd.C k24 W0 B5 k3.length k3 ∧ k3.length ≤ d5 ∧ wid ⟨k0, k1, k2, k3⟩ < 9000000)
  case first =>
    refine wp_region_held_drew (S := fun _ => True) (by kernel_rfl) trivial (fun hHeld => ?_)
    clear hHeld
    refine takeV 0 (some 12) (.pointer (some ⟨sp, 0, none⟩)) rfl rfl (by kernel_rfl) (by kernel_rfl) (by kernel_rfl) (fun _ _ _ h => h) (Or.inl ⟨by kernel_rfl, fun W hSw => by go_simp⟩) trivial ?_
    try simp only [Act.put, List.setIfInBounds_toArray, List.set_cons_zero, List.set_cons_succ]
    refine takeV 3 (some 15) (.pointer (some ⟨sp, 0, none⟩)) rfl rfl (by kernel_rfl) (by kernel_rfl) (by kernel_rfl) (fun _ _ _ h => h) (Or.inl ⟨by kernel_rfl, fun W hSw => by go_simp⟩) trivial ?_
    try simp only [Act.put, List.setIfInBounds_toArray, List.set_cons_zero, List.set_cons_succ]
    refine wpAnyH_ready (rs := [1, 4]) (by kernel_rfl) (by simp) ?_
    refine AllReadyH.cons rfl (fun K hK => ?_) (AllReadyH.cons rfl (fun K hK => ?_) AllReadyH.nil)
    · skip
      go_simp
      refine hK.out _ _ trivial (fun hHeld => ?_)
      clear hK K hHeld
      try simp only [Act.put, List.setIfInBounds_toArray, List.set_cons_zero, List.set_cons_succ]
      refine wpAnyH_ready (rs := [2, 4]) (by kernel_rfl) (by simp) ?_
      refine AllReadyH.cons rfl (fun K hK => ?_) (AllReadyH.cons rfl (fun K hK => ?_) AllReadyH.nil)
      · skip
        go_simp
        go_at_call 94
        refine Calls.mono (KA.out _ HXB.out) ?_
        rintro e wA ⟨uA, rfl, ⟨A5, c5, rfl, u1, u2, u3⟩, BA⟩
        have haA := (BA.block _ (Array.getElem?_eq_some_iff.1 HX1.out).1).trans HX1.out
        have hbA := (BA.block _ (Array.getElem?_eq_some_iff.1 HX2.out).1).trans HX2.out
        obtain ⟨q0, q1, q2, q3⟩ := cells4 hbA
        have BwA : Hid _ := below_after HXB.out BA
        have HA1 : Hid _ := haA
        have HA2 : Hid _ := hbA
        have U1 : Hid _ := u1
        clear BA haA hbA u1
        go_wp2_with fail
        refine hK.out _ _ trivial (fun hHeld => ?_)
        clear hK K hHeld
        try simp only [Act.put, List.setIfInBounds_toArray, List.set_cons_zero, List.set_cons_succ]
        refine wpAnyH_ready (rs := [4]) (by kernel_rfl) (by simp) ?_
        refine AllReadyH.cons rfl (fun K hK => ?_) AllReadyH.nil
        go_simp
        refine hK.out _ _ trivial (fun hHeld => ?_)
        clear hK K hHeld
        try simp only [Act.put, List.setIfInBounds_toArray, List.set_cons_zero, List.set_cons_succ]
        refine wpAnyH_ready (rs := [5]) (by kernel_rfl) (by simp) ?_
        refine AllReadyH.cons rfl (fun K hK => ?_) AllReadyH.nil
        go_simp
        go_at_call 94
        refine Calls.mono (KB.out _ BwA.out) ?_
        rintro e wB ⟨uB, rfl, ⟨B5, d5, rfl, v1, v2, v3⟩, BB⟩
        have haB := (BB.block _ (Array.getElem?_eq_some_iff.1 HA1.out).1).trans HA1.out
        have hbB := (BB.block _ (Array.getElem?_eq_some_iff.1 HA2.out).1).trans HA2.out
        obtain ⟨s0, s1, s2, s3⟩ := cells4 haB
        obtain ⟨t0, t1, t2, t3⟩ := cells4 hbB
        have f0 := frozen4 (i := 0) haB
        have f1 := frozen4 (i := 1) haB
        have f2 := frozen4 (i := 2) haB
        have f3 := frozen4 (i := 3) haB
        have g0 := frozen4 (i := 0) hbB
        have g1 := frozen4 (i := 1) hbB
        have g2 := frozen4 (i := 2) hbB
        have g3 := frozen4 (i := 3) hbB
        have BwB : Hid _ := below_after BwA.out BB
        have HB1 : Hid _ := haB
        have HB2 : Hid _ := hbB
        have V1 : Hid _ := v1
        clear BB haB hbB v1 q0 q1 q2 q3
        go_wp2_with fail
        refine hK.out _ _ trivial (fun hHeld => ?_)
        clear hK K hHeld
        try simp only [Act.put, List.setIfInBounds_toArray, List.set_cons_zero, List.set_cons_succ]
        refine wpAnyH_ready (rs := [6]) (by kernel_rfl) (by simp) ?_
        refine AllReadyH.cons rfl (fun K hK => ?_) AllReadyH.nil
        go_simp
        refine hK.out _ _ trivial (fun hHeld => ?_)
        clear hK K hHeld
        try simp only [Act.put, List.setIfInBounds_toArray, List.set_cons_zero, List.set_cons_succ]
        refine wpAnyH_ready (rs := [7]) (by kernel_rfl) (by simp) ?_
        refine AllReadyH.cons rfl (fun K hK => ?_) AllReadyH.nil
        go_simp
        refine hK.out _ _ trivial (fun hHeld => ?_)
        clear hK K hHeld
        try simp only [Act.put, List.setIfInBounds_toArray, List.set_cons_zero, List.set_cons_succ]
        refine wpAnyH_done (by kernel_rfl) ?_ _
        go_wp2_with fail
        go_meet
        case rel => exact ⟨below4 (below4 BwB.out (Nat.le_refl _)) (by omega), A5, c5, B5, d5, (stay4 (by omega)).trans (set4 HB1.out), set4 ((stay4 (by omega)).trans HB2.out), U1.out, u2, u3, V1.out, v2, v3⟩
      · skip
        go_simp
        refine hK.out _ _ trivial (fun hHeld => ?_)
        clear hK K hHeld
        try simp only [Act.put, List.setIfInBounds_toArray, List.set_cons_zero, List.set_cons_succ]
        refine wpAnyH_ready (rs := [2]) (by kernel_rfl) (by simp) ?_
        refine AllReadyH.cons rfl (fun K hK => ?_) AllReadyH.nil
        go_simp
        go_at_call 94
        refine Calls.mono (KA.out _ HXB.out) ?_
        rintro e wA ⟨uA, rfl, ⟨A5, c5, rfl, u1, u2, u3⟩, BA⟩
        have haA := (BA.block _ (Array.getElem?_eq_some_iff.1 HX1.out).1).trans HX1.out
        have hbA := (BA.block _ (Array.getElem?_eq_some_iff.1 HX2.out).1).trans HX2.out
        obtain ⟨q0, q1, q2, q3⟩ := cells4 hbA
        have BwA : Hid _ := below_after HXB.out BA
        have HA1 : Hid _ := haA
        have HA2 : Hid _ := hbA
        have U1 : Hid _ := u1
        clear BA haA hbA u1
        go_wp2_with fail
        refine hK.out _ _ trivial (fun hHeld => ?_)
        clear hK K hHeld
        try simp only [Act.put, List.setIfInBounds_toArray, List.set_cons_zero, List.set_cons_succ]
        refine wpAnyH_ready (rs := [5]) (by kernel_rfl) (by simp) ?_
        refine AllReadyH.cons rfl (fun K hK => ?_) AllReadyH.nil
        go_simp
        go_at_call 94
        refine Calls.mono (KB.out _ BwA.out) ?_
        rintro e wB ⟨uB, rfl, ⟨B5, d5, rfl, v1, v2, v3⟩, BB⟩
        have haB := (BB.block _ (Array.getElem?_eq_some_iff.1 HA1.out).1).trans HA1.out
        have hbB := (BB.block _ (Array.getElem?_eq_some_iff.1 HA2.out).1).trans HA2.out
        obtain ⟨s0, s1, s2, s3⟩ := cells4 haB
        obtain ⟨t0, t1, t2, t3⟩ := cells4 hbB
        have f0 := frozen4 (i := 0) haB
        have f1 := frozen4 (i := 1) haB
        have f2 := frozen4 (i := 2) haB
        have f3 := frozen4 (i := 3) haB
        have g0 := frozen4 (i := 0) hbB
        have g1 := frozen4 (i := 1) hbB
        have g2 := frozen4 (i := 2) hbB
        have g3 := frozen4 (i := 3) hbB
        have BwB : Hid _ := below_after BwA.out BB
        have HB1 : Hid _ := haB
        have HB2 : Hid _ := hbB
        have V1 : Hid _ := v1
        clear BB haB hbB v1 q0 q1 q2 q3
        go_wp2_with fail
        refine hK.out _ _ trivial (fun hHeld => ?_)
        clear hK K hHeld
        try simp only [Act.put, List.setIfInBounds_toArray, List.set_cons_zero, List.set_cons_succ]
        refine wpAnyH_ready (rs := [6]) (by kernel_rfl) (by simp) ?_
        refine AllReadyH.cons rfl (fun K hK => ?_) AllReadyH.nil
        go_simp
        refine hK.out _ _ trivial (fun hHeld => ?_)
        clear hK K hHeld
        try simp only [Act.put, List.setIfInBounds_toArray, List.set_cons_zero, List.set_cons_succ]
        refine wpAnyH_ready (rs := [7]) (by kernel_rfl) (by simp) ?_
        refine AllReadyH.cons rfl (fun K hK => ?_) AllReadyH.nil
        go_simp
        refine hK.out _ _ trivial (fun hHeld => ?_)
        clear hK K hHeld
        try simp only [Act.put, List.setIfInBounds_toArray, List.set_cons_zero, List.set_cons_succ]
        refine wpAnyH_done (by kernel_rfl) ?_ _
        go_wp2_with fail
        go_meet
        case rel => exact ⟨below4 (below4 BwB.out (Nat.le_refl _)) (by omega), A5, c5, B5, d5, (stay4 (by omega)).trans (set4 HB1.out), set4 ((stay4 (by omega)).trans HB2.out), U1.out, u2, u3, V1.out, v2, v3⟩
    · skip
      go_simp
      refine hK.out _ _ trivial (fun hHeld => ?_)
      clear hK K hHeld
      try simp only [Act.put, List.setIfInBounds_toArray, List.set_cons_zero, List.set_cons_succ]
      refine wpAnyH_ready (rs := [1]) (by kernel_rfl) (by simp) ?_
      refine AllReadyH.cons rfl (fun K hK => ?_) AllReadyH.nil
      go_simp
      refine hK.out _ _ trivial (fun hHeld => ?_)
      clear hK K hHeld
      try simp only [Act.put, List.setIfInBounds_toArray, List.set_cons_zero, List.set_cons_succ]
      refine wpAnyH_ready (rs := [2]) (by kernel_rfl) (by simp) ?_
      refine AllReadyH.cons rfl (fun K hK => ?_) AllReadyH.nil
      go_simp
      go_at_call 94
      refine Calls.mono (KA.out _ HXB.out) ?_
      rintro e wA ⟨uA, rfl, ⟨A5, c5, rfl, u1, u2, u3⟩, BA⟩
      have haA := (BA.block _ (Array.getElem?_eq_some_iff.1 HX1.out).1).trans HX1.out
      have hbA := (BA.block _ (Array.getElem?_eq_some_iff.1 HX2.out).1).trans HX2.out
      obtain ⟨q0, q1, q2, q3⟩ := cells4 hbA
      have BwA : Hid _ := below_after HXB.out BA
      have HA1 : Hid _ := haA
      have HA2 : Hid _ := hbA
      have U1 : Hid _ := u1
      clear BA haA hbA u1
      go_wp2_with fail
      refine hK.out _ _ trivial (fun hHeld => ?_)
      clear hK K hHeld
      try simp only [Act.put, List.setIfInBounds_toArray, List.set_cons_zero, List.set_cons_succ]
      refine wpAnyH_ready (rs := [5]) (by kernel_rfl) (by simp) ?_
      refine AllReadyH.cons rfl (fun K hK => ?_) AllReadyH.nil
      go_simp
      go_at_call 94
      refine Calls.mono (KB.out _ BwA.out) ?_
      rintro e wB ⟨uB, rfl, ⟨B5, d5, rfl, v1, v2, v3⟩, BB⟩
      have haB := (BB.block _ (Array.getElem?_eq_some_iff.1 HA1.out).1).trans HA1.out
      have hbB := (BB.block _ (Array.getElem?_eq_some_iff.1 HA2.out).1).trans HA2.out
      obtain ⟨s0, s1, s2, s3⟩ := cells4 haB
      obtain ⟨t0, t1, t2, t3⟩ := cells4 hbB
      have f0 := frozen4 (i := 0) haB
      have f1 := frozen4 (i := 1) haB
      have f2 := frozen4 (i := 2) haB
      have f3 := frozen4 (i := 3) haB
      have g0 := frozen4 (i := 0) hbB
      have g1 := frozen4 (i := 1) hbB
      have g2 := frozen4 (i := 2) hbB
      have g3 := frozen4 (i := 3) hbB
      have BwB : Hid _ := below_after BwA.out BB
      have HB1 : Hid _ := haB
      have HB2 : Hid _ := hbB
      have V1 : Hid _ := v1
      clear BB haB hbB v1 q0 q1 q2 q3
      go_wp2_with fail
      refine hK.out _ _ trivial (fun hHeld => ?_)
      clear hK K hHeld
      try simp only [Act.put, List.setIfInBounds_toArray, List.set_cons_zero, List.set_cons_succ]
      refine wpAnyH_ready (rs := [6]) (by kernel_rfl) (by simp) ?_
      refine AllReadyH.cons rfl (fun K hK => ?_) AllReadyH.nil
      go_simp
      refine hK.out _ _ trivial (fun hHeld => ?_)
      clear hK K hHeld
      try simp only [Act.put, List.setIfInBounds_toArray, List.set_cons_zero, List.set_cons_succ]
      refine wpAnyH_ready (rs := [7]) (by kernel_rfl) (by simp) ?_
      refine AllReadyH.cons rfl (fun K hK => ?_) AllReadyH.nil
      go_simp
      refine hK.out _ _ trivial (fun hHeld => ?_)
      clear hK K hHeld
      try simp only [Act.put, List.setIfInBounds_toArray, List.set_cons_zero, List.set_cons_succ]
      refine wpAnyH_done (by kernel_rfl) ?_ _
      go_wp2_with fail
      go_meet
      case rel => exact ⟨below4 (below4 BwB.out (Nat.le_refl _)) (by omega), A5, c5, B5, d5, (stay4 (by omega)).trans (set4 HB1.out), set4 ((stay4 (by omega)).trans HB2.out), U1.out, u2, u3, V1.out, v2, v3⟩
  case rest =>
    obtain ⟨hB, A5, c5, B5, d5, hx, hy, u1, u2, u3, v1, v2, v3⟩ := hcut
    obtain ⟨p0, p1, p2, p3⟩ := cells4 hx
    obtain ⟨q0, q1, q2, q3⟩ := cells4 hy
    have S2 := HS.out.below hB
    have c0 := S2.c0
    have ra := fun m => look_drewN S2 m2 m
    have rb := fun m => look_drewN S2 k2 m
    have HBw : Hid _ := hB
    have HX : Hid _ := hx
    have HY : Hid _ := hy
    have SS : Hid _ := S2
    have U1 : Hid _ := u1
    have V1 : Hid _ := v1
    clear hB hx hy S2 u1 v1
    obtain ⟨va, hva0⟩ : ∃ va, va = isVar vs ⟨m0, m1, m2, m3⟩ false := ⟨_, rfl⟩
    obtain ⟨vb', hvb0⟩ : ∃ vb', vb' = isVar vs ⟨k0, k1, k2, k3⟩ false := ⟨_, rfl⟩
    have hva : Hid _ := hva0
    have hvb : Hid _ := hvb0
    clear hva0 hvb0
    go_upto_region 3 with fail
    go_cut [8, 9] from 18 to 49 (fun x8 x9 wx => x8 = .bool va ∧ x9 = .bool vb' ∧ Below w.heap.size w wx ∧ wx.heap[w.heap.size]? = some (.cells #[.int .i64 m0, .int .i64 m1, .string m2, .slice A5 m3.length c5] 24 (0, 0)) ∧
      wx.heap[w.heap.size + 1]? = some (.cells #[.int .i64 k0, .int .i64 k1, .string k2, .slice B5 k3.length d5] 24 (0, 0)))
    case first =>
      by_cases ha0 : m0 = 1
      · subst ha0
        cases ham : decide (m2 ∈ vs) with
        | false =>
          simp only [ham] at ra
          have han : m2 ∉ vs := of_decide_eq_false ham
          obtain rfl : va = false := by rw [hva.out]; simp [isVar, han]
          clear ham han
          by_cases hb0 : k0 = 1
          · subst hb0
            cases hbm : decide (k2 ∈ vs) with
            | false =>
              simp only [hbm] at rb
              have hbn : k2 ∉ vs := of_decide_eq_false hbm
              obtain rfl : vb' = false := by rw [hvb.out]; simp [isVar, hbn]
              clear hbm hbn
              go_big_quiet (fail)
              go_wp2_with fail
              go_meet
              case rel => exact ⟨rfl, rfl, pw_below_drewN HBw.out nq, (heap_drewN _ _ _).trans HX.out, (heap_drewN _ _ _).trans HY.out⟩
            | true =>
              simp only [hbm] at rb
              have hbn : k2 ∈ vs := of_decide_eq_true hbm
              obtain rfl : vb' = true := by rw [hvb.out]; simp [isVar, hbn]
              clear hbm hbn
              go_big_quiet (fail)
              go_wp2_with fail
              go_meet
              case rel => exact ⟨rfl, rfl, pw_below_drewN HBw.out nq, (heap_drewN _ _ _).trans HX.out, (heap_drewN _ _ _).trans HY.out⟩
          · have bb : (k0 == 1) = false := beq_eq_false_iff_ne.mpr hb0
            obtain rfl : vb' = false := by rw [hvb.out]; simp [isVar, hb0]
            clear hb0
            go_big_quiet (fail)
            go_wp2_with fail
            go_meet
            case rel => exact ⟨rfl, rfl, pw_below_drewN HBw.out nq, (heap_drewN _ _ _).trans HX.out, (heap_drewN _ _ _).trans HY.out⟩
        | true =>
          simp only [ham] at ra
          have han : m2 ∈ vs := of_decide_eq_true ham
          obtain rfl : va = true := by rw [hva.out]; simp [isVar, han]
          clear ham han
          by_cases hb0 : k0 = 1
          · subst hb0
            cases hbm : decide (k2 ∈ vs) with
            | false =>
              simp only [hbm] at rb
              have hbn : k2 ∉ vs := of_decide_eq_false hbm
              obtain rfl : vb' = false := by rw [hvb.out]; simp [isVar, hbn]
              clear hbm hbn
              go_big_quiet (fail)
              go_wp2_with fail
              go_meet
              case rel => exact ⟨rfl, rfl, pw_below_drewN HBw.out nq, (heap_drewN _ _ _).trans HX.out, (heap_drewN _ _ _).trans HY.out⟩
            | true =>
              simp only [hbm] at rb
              have hbn : k2 ∈ vs := of_decide_eq_true hbm
              obtain rfl : vb' = true := by rw [hvb.out]; simp [isVar, hbn]
              clear hbm hbn
              go_big_quiet (fail)
              go_wp2_with fail
              go_meet
              case rel => exact ⟨rfl, rfl, pw_below_drewN HBw.out nq, (heap_drewN _ _ _).trans HX.out, (heap_drewN _ _ _).trans HY.out⟩
          · have bb : (k0 == 1) = false := beq_eq_false_iff_ne.mpr hb0
            obtain rfl : vb' = false := by rw [hvb.out]; simp [isVar, hb0]
            clear hb0
            go_big_quiet (fail)
            go_wp2_with fail
            go_meet
            case rel => exact ⟨rfl, rfl, pw_below_drewN HBw.out nq, (heap_drewN _ _ _).trans HX.out, (heap_drewN _ _ _).trans HY.out⟩
      · have ab : (m0 == 1) = false := beq_eq_false_iff_ne.mpr ha0
        obtain rfl : va = false := by rw [hva.out]; simp [isVar, ha0]
        clear ha0
        by_cases hb0 : k0 = 1
        · subst hb0
          cases hbm : decide (k2 ∈ vs) with
          | false =>
            simp only [hbm] at rb
            have hbn : k2 ∉ vs := of_decide_eq_false hbm
            obtain rfl : vb' = false := by rw [hvb.out]; simp [isVar, hbn]
            clear hbm hbn
            go_big_quiet (fail)
            go_wp2_with fail
            go_meet
            case rel => exact ⟨rfl, rfl, pw_below_drewN HBw.out nq, (heap_drewN _ _ _).trans HX.out, (heap_drewN _ _ _).trans HY.out⟩
          | true =>
            simp only [hbm] at rb
            have hbn : k2 ∈ vs := of_decide_eq_true hbm
            obtain rfl : vb' = true := by rw [hvb.out]; simp [isVar, hbn]
            clear hbm hbn
            go_big_quiet (fail)
            go_wp2_with fail
            go_meet
            case rel => exact ⟨rfl, rfl, pw_below_drewN HBw.out nq, (heap_drewN _ _ _).trans HX.out, (heap_drewN _ _ _).trans HY.out⟩
        · have bb : (k0 == 1) = false := beq_eq_false_iff_ne.mpr hb0
          obtain rfl : vb' = false := by rw [hvb.out]; simp [isVar, hb0]
          clear hb0
          go_big_quiet (fail)
          go_wp2_with fail
          go_meet
          case rel => exact ⟨rfl, rfl, pw_below_drewN HBw.out nq, (heap_drewN _ _ _).trans HX.out, (heap_drewN _ _ _).trans HY.out⟩
    case rest =>
      obtain ⟨rfl, rfl, hB, hx, hy⟩ := hcut
      obtain ⟨p0, p1, p2, p3⟩ := cells4 hx
      obtain ⟨q0, q1, q2, q3⟩ := cells4 hy
      have G : Hid (w.grownBy wc (some tb)) := grown_of_below hB (some tb)
      have S3 : Hid _ := HS.out.below hB
      have W3 : Hid (Below W0.heap.size W0 wc) := HW.out.trans (hB.mono HW.out.size)
      have hK := HK.out
      rw [← hva.out, ← hvb.out] at hK
      clear hx hy hB ra rb HX HY HBw SS
      cases va with
      | true =>
        cases vb' with
        | true =>
          cases hte : (m2.toList == k2.toList) with
          | true =>
            simp only [hte, Bool.and_true, Bool.true_and, if_true, Option.some.injEq] at hK
            subst hK
            go_wp2_with fail
            go_end0
            exact ⟨rfl, G.out, mtv, S3.out, HT.out⟩
          | false =>
            simp only [hte, Bool.and_false, Bool.false_eq_true, if_false, if_true] at hK
            have BI : Hid _ := bind_any W0 wc base sp vb tb vs mt mtv S3.out HT.out W3.out m2 ⟨k0, k1, k2, k3⟩ B5 d5 V1.out v2 v3 n R hK
            clear hK
            go_wp2_with fail
            refine Calls.mono BI.out ?_
            rintro e w5 h5
            have h6 := h5.from G.out
            clear h5
            cases R with
            | ok mt2 =>
              obtain ⟨rfl, h7⟩ := h6
              have H7 : Hid _ := h7
              clear h7
              go_wp2_with fail
              go_end0
              exact ⟨rfl, H7.out⟩
            | stop e2 =>
              obtain ⟨rfl, h7⟩ := h6
              have H7 : Hid _ := h7
              clear h7
              go_wp2_with fail
              exact ⟨rfl, rfl, H7.out⟩
        | false =>
          simp only [Bool.and_false, Bool.false_and, Bool.false_eq_true, if_false, if_true] at hK
          have BI : Hid _ := bind_any W0 wc base sp vb tb vs mt mtv S3.out HT.out W3.out m2 ⟨k0, k1, k2, k3⟩ B5 d5 V1.out v2 v3 n R hK
          clear hK
          go_wp2_with fail
          refine Calls.mono BI.out ?_
          rintro e w5 h5
          have h6 := h5.from G.out
          clear h5
          cases R with
          | ok mt2 =>
            obtain ⟨rfl, h7⟩ := h6
            have H7 : Hid _ := h7
            clear h7
            go_wp2_with fail
            go_end0
            exact ⟨rfl, H7.out⟩
          | stop e2 =>
            obtain ⟨rfl, h7⟩ := h6
            have H7 : Hid _ := h7
            clear h7
            go_wp2_with fail
            exact ⟨rfl, rfl, H7.out⟩
      | false =>
        cases vb' with
        | true =>
          simp only [Bool.false_and, Bool.false_eq_true, if_false, if_true] at hK
          have BI : Hid _ := bind_any W0 wc base sp vb tb vs mt mtv S3.out HT.out W3.out k2 ⟨m0, m1, m2, m3⟩ A5 c5 U1.out u2 u3 n R hK
          clear hK
          go_wp2_with fail
          refine Calls.mono BI.out ?_
          rintro e w5 h5
          have h6 := h5.from G.out
          clear h5
          cases R with
          | ok mt2 =>
            obtain ⟨rfl, h7⟩ := h6
            have H7 : Hid _ := h7
            clear h7
            go_wp2_with fail
            go_end0
            exact ⟨rfl, H7.out⟩
          | stop e2 =>
            obtain ⟨rfl, h7⟩ := h6
            have H7 : Hid _ := h7
            clear h7
            go_wp2_with fail
            exact ⟨rfl, rfl, H7.out⟩
        | false =>
          simp only [Bool.false_and, Bool.false_eq_true, if_false] at hK
          by_cases h33 : m0 = 3 ∧ k0 = 3
          · obtain ⟨e3, e4⟩ := h33
            subst e3
            subst e4
            rw [if_neg (by simp)] at hK
            have BI : Hid _ := HL.out W0 wc base sp vb tb mt mtv ⟨3, m1, m2, m3⟩ ⟨3, k1, k2, k3⟩ false A5 B5 c5 d5 R S3.out HT.out W3.out HBs.out U1.out u2 u3 V1.out v2 v3 hK
            clear hK
            go_wp2_with fail
            refine Calls.mono BI.out ?_
            rintro e w5 h5
            have h6 := h5.from G.out
            clear h5
            cases R with
            | ok mt2 =>
              obtain ⟨rfl, h7⟩ := h6
              have H7 : Hid _ := h7
              clear h7
              go_wp2_with fail
              go_end0
              exact ⟨rfl, H7.out⟩
            | stop e2 =>
              obtain ⟨rfl, h7⟩ := h6
              have H7 : Hid _ := h7
              clear h7
              go_wp2_with fail
              exact ⟨rfl, rfl, H7.out⟩
          · rw [if_pos (by rcases Classical.em (m0 = 3) with h | h; exact .inr (fun h2 => h33 ⟨h, h2⟩); exact .inl h)] at hK
            have EQ : Hid _ := Equal_any ⟨m0, m1, m2, m3⟩ ⟨k0, k1, k2, k3⟩ A5 B5 c5 d5 wc (Kd.C_below U1.out W3.out) u2 (Kd.C_below V1.out W3.out) v2 u3 v3
            obtain ⟨q, hq⟩ : ∃ q, q = eqM ⟨m0, m1, m2, m3⟩ ⟨k0, k1, k2, k3⟩ := ⟨_, rfl⟩
            rw [← hq] at hK EQ
            clear hq
            have b33 : (m0 != 3) = true ∨ (m0 != 3) = false ∧ (k0 != 3) = true := by
              by_cases h : m0 = 3
              · exact .inr ⟨by simp [h], by simp; exact fun h2 => h33 ⟨h, h2⟩⟩
              · exact .inl (by simp [h])
            clear h33
            rcases b33 with b3 | ⟨b3, b4⟩
            · cases q with
              | true =>
                simp only [if_true, Option.some.injEq] at hK
                subst hK
                go_wp2_with fail
                refine Calls.mono EQ.out ?_
                rintro e w5 ⟨rfl, B5'⟩
                have S5 : Hid _ := S3.out.below B5'
                have G5 : Hid _ := G.out.trans (grown_of_below B5' (some tb))
                clear B5'
                go_wp2_with fail
                go_end0
                exact ⟨rfl, G5.out, mtv, S5.out, HT.out⟩
              | false =>
                simp only [Bool.false_eq_true, if_false, Option.some.injEq] at hK
                subst hK
                go_wp2_with fail
                refine Calls.mono EQ.out ?_
                rintro e w5 ⟨rfl, B5'⟩
                have G5 : Hid _ := G.out.trans (grown_of_below B5' (some tb))
                clear B5'
                go_wp2_with fail
                exact ⟨rfl, rfl, G5.out⟩
            · cases q with
              | true =>
                simp only [if_true, Option.some.injEq] at hK
                subst hK
                go_wp2_with fail
                refine Calls.mono EQ.out ?_
                rintro e w5 ⟨rfl, B5'⟩
                have S5 : Hid _ := S3.out.below B5'
                have G5 : Hid _ := G.out.trans (grown_of_below B5' (some tb))
                clear B5'
                go_wp2_with fail
                go_end0
                exact ⟨rfl, G5.out, mtv, S5.out, HT.out⟩
              | false =>
                simp only [Bool.false_eq_true, if_false, Option.some.injEq] at hK
                subst hK
                go_wp2_with fail
                refine Calls.mono EQ.out ?_
                rintro e w5 ⟨rfl, B5'⟩
                have G5 : Hid _ := G.out.trans (grown_of_below B5' (some tb))
                clear B5'
                go_wp2_with fail
                exact ⟨rfl, rfl, G5.out⟩

end Go.Proofs.YtcjmplpfebpfpaaGreatDoor

namespace Go.Proofs.YtcjmplpfebpfpaaGreatDoor
open Go.RowKit Go.Proofs Go.Proofs.YtcjmplpfebpfpaaGreatDoorW.PrintWords Go.Proofs.YtcjmplpfebpfpaaGreatDoorW.PrintLast Go.Proofs.YtcjmplpfebpfpaaGreatDoorW.PrintMore PKindInstances
set_option linter.unusedVariables false
set_option linter.unusedSimpArgs false

end Go.Proofs.YtcjmplpfebpfpaaGreatDoor

namespace Go.Proofs.YtcjmplpfebpfpaaGreatDoor
open Go.RowKit Go.Proofs Go.Proofs.YtcjmplpfebpfpaaGreatDoorW.PrintWords Go.Proofs.YtcjmplpfebpfpaaGreatDoorW.PrintLast Go.Proofs.YtcjmplpfebpfpaaGreatDoorW.PrintMore PKindInstances
set_option linter.unusedVariables false
set_option linter.unusedSimpArgs false

end Go.Proofs.YtcjmplpfebpfpaaGreatDoor

namespace Go.Proofs.YtcjmplpfebpfpaaGreatDoor
open Go.RowKit Go.Proofs Go.Proofs.YtcjmplpfebpfpaaGreatDoorW.PrintWords Go.Proofs.YtcjmplpfebpfpaaGreatDoorW.PrintLast Go.Proofs.YtcjmplpfebpfpaaGreatDoorW.PrintMore PKindInstances
set_option linter.unusedVariables false
set_option linter.unusedSimpArgs false

set_option maxRecDepth 100000 in
set_option maxHeartbeats 4000000 in
theorem unify_bare (vs : List ByteArray) (n : Nat) (W0 w : World) (base sp vb tb : Nat) (mt : List (ByteArray × S24)) (mtv : List (ByteArray × Value)) (a b : S24) (A5 B5 : Option Addr) (c5 d5 : Nat) (hs : SolvAt base w sp vb tb (varsV vs) mtv) (ht : ToAt W0 mt mtv)
    (hw : Below W0.heap.size W0 w) (hb : W0.heap.size ≤ base) (ha1 : Kd.C k24 W0 A5 a.f3.length a.f3) (u2 : a.f3.length ≤ c5) (u3 : wid a < 9000000) (hb1 : Kd.C k24 W0 B5 b.f3.length b.f3) (v2 : b.f3.length ≤ d5) (v3 : wid b < 9000000)
    (hL : ListsOk vs n) (R : URes) (hk : (if a.f0 ≠ 3 ∨ b.f0 ≠ 3 then (if eqM a b then some (.ok mt) else some (.stop 8)) else listsM (unifyM vs n) mt a b true) = some R) :
    Calls Tryz.prog 55 #[.pointer (some ⟨sp, 0, none⟩), formV a.f0 a.f1 a.f2 A5 a.f3.length c5, formV b.f0 b.f1 b.f2 B5 b.f3.length d5, .bool true] w (UPost W0 w base sp vb tb vs R) := by
  have hu24 := Tryz.underlying24
  have U1 : Hid _ := ha1
  have V1 : Hid _ := hb1
  obtain ⟨m0, m1, m2, m3⟩ := a
  obtain ⟨k0, k1, k2, k3⟩ := b
  have hx2 : ((w.alloc (Obj.cells #[.int .i64 m0, .int .i64 m1, .string m2, .slice A5 m3.length c5] 24)).alloc (Obj.cells #[.int .i64 k0, .int .i64 k1, .string k2, .slice B5 k3.length d5] 24)).heap[w.heap.size + 1]? = some (Obj.cells #[.int .i64 k0, .int .i64 k1, .string k2, .slice B5 k3.length d5] 24) := by
    have h := (MapKept.heap_alloc (w.alloc (Obj.cells #[.int .i64 m0, .int .i64 m1, .string m2, .slice A5 m3.length c5] 24)) (Obj.cells #[.int .i64 k0, .int .i64 k1, .string k2, .slice B5 k3.length d5] 24)).1
    rw [size_new] at h
    exact h
  have hx1 : ((w.alloc (Obj.cells #[.int .i64 m0, .int .i64 m1, .string m2, .slice A5 m3.length c5] 24)).alloc (Obj.cells #[.int .i64 k0, .int .i64 k1, .string k2, .slice B5 k3.length d5] 24)).heap[w.heap.size]? = some (Obj.cells #[.int .i64 m0, .int .i64 m1, .string m2, .slice A5 m3.length c5] 24) :=
    (Below.heap_alloc _ _ _ (by rw [size_new]; omega)).trans (MapKept.heap_alloc w _).1
  have hxb : Below w.heap.size w ((w.alloc (Obj.cells #[.int .i64 m0, .int .i64 m1, .string m2, .slice A5 m3.length c5] 24)).alloc (Obj.cells #[.int .i64 k0, .int .i64 k1, .string k2, .slice B5 k3.length d5] 24)) := below_alloc (below_alloc (Below.refl _ _) _) _
  have HX1 : Hid _ := hx1
  have HX2 : Hid _ := hx2
  have HXB : Hid _ := hxb
  have HS : Hid _ := hs
  have HT : Hid _ := ht
  have HL : Hid _ := hL
  have HK : Hid _ := hk
  have HW : Hid _ := hw
  have HBs : Hid _ := hb
  clear hx1 hx2 hxb hs ht ha1 hb1 hL hk hw hb
  go_enter Tryz.func55, Tryz.ntmps55
  go_upto_region 3 with fail
  go_cut [8, 9] from 18 to 49 (fun x8 x9 wx => x8 = .bool false ∧ x9 = .bool false ∧ Below w.heap.size w wx ∧ wx.heap[w.heap.size]? = some (.cells #[.int .i64 m0, .int .i64 m1, .string m2, .slice A5 m3.length c5] 24 (0, 0)) ∧
      wx.heap[w.heap.size + 1]? = some (.cells #[.int .i64 k0, .int .i64 k1, .string k2, .slice B5 k3.length d5] 24 (0, 0)))
  case first =>
    go_big_quiet (fail)
    go_wp2_with fail
    go_meet
    case rel => exact ⟨rfl, rfl, pw_below_drewN HXB.out nq, (heap_drewN _ _ _).trans HX1.out, (heap_drewN _ _ _).trans HX2.out⟩
  case rest =>
    obtain ⟨rfl, rfl, hB, hx, hy⟩ := hcut
    obtain ⟨p0, p1, p2, p3⟩ := cells4 hx
    obtain ⟨q0, q1, q2, q3⟩ := cells4 hy
    have G : Hid (w.grownBy wc (some tb)) := grown_of_below hB (some tb)
    have S3 : Hid _ := HS.out.below hB
    have W3 : Hid (Below W0.heap.size W0 wc) := HW.out.trans (hB.mono HW.out.size)
    have hK := HK.out
    clear hx hy hB
    by_cases h33 : m0 = 3 ∧ k0 = 3
    · obtain ⟨e3, e4⟩ := h33
      subst e3
      subst e4
      rw [if_neg (by simp)] at hK
      have BI : Hid _ := HL.out W0 wc base sp vb tb mt mtv ⟨3, m1, m2, m3⟩ ⟨3, k1, k2, k3⟩ true A5 B5 c5 d5 R S3.out HT.out W3.out HBs.out U1.out u2 u3 V1.out v2 v3 hK
      clear hK
      go_wp2_with fail
      refine Calls.mono BI.out ?_
      rintro e w5 h5
      have h6 := h5.from G.out
      clear h5
      cases R with
      | ok mt2 =>
        obtain ⟨rfl, h7⟩ := h6
        have H7 : Hid _ := h7
        clear h7
        go_wp2_with fail
        go_end0
        exact ⟨rfl, H7.out⟩
      | stop e2 =>
        obtain ⟨rfl, h7⟩ := h6
        have H7 : Hid _ := h7
        clear h7
        go_wp2_with fail
        exact ⟨rfl, rfl, H7.out⟩
    · rw [if_pos (by rcases Classical.em (m0 = 3) with h | h; exact .inr (fun h2 => h33 ⟨h, h2⟩); exact .inl h)] at hK
      have EQ : Hid _ := Equal_any ⟨m0, m1, m2, m3⟩ ⟨k0, k1, k2, k3⟩ A5 B5 c5 d5 wc (Kd.C_below U1.out W3.out) u2 (Kd.C_below V1.out W3.out) v2 u3 v3
      obtain ⟨q, hq⟩ : ∃ q, q = eqM ⟨m0, m1, m2, m3⟩ ⟨k0, k1, k2, k3⟩ := ⟨_, rfl⟩
      rw [← hq] at hK EQ
      clear hq
      have b33 : (m0 != 3) = true ∨ (m0 != 3) = false ∧ (k0 != 3) = true := by
        by_cases h : m0 = 3
        · exact .inr ⟨by simp [h], by simp; exact fun h2 => h33 ⟨h, h2⟩⟩
        · exact .inl (by simp [h])
      clear h33
      rcases b33 with b3 | ⟨b3, b4⟩
      · cases q with
        | true =>
          simp only [if_true, Option.some.injEq] at hK
          subst hK
          go_wp2_with fail
          refine Calls.mono EQ.out ?_
          rintro e w5 ⟨rfl, B5'⟩
          have S5 : Hid _ := S3.out.below B5'
          have G5 : Hid _ := G.out.trans (grown_of_below B5' (some tb))
          clear B5'
          go_wp2_with fail
          go_end0
          exact ⟨rfl, G5.out, mtv, S5.out, HT.out⟩
        | false =>
          simp only [Bool.false_eq_true, if_false, Option.some.injEq] at hK
          subst hK
          go_wp2_with fail
          refine Calls.mono EQ.out ?_
          rintro e w5 ⟨rfl, B5'⟩
          have G5 : Hid _ := G.out.trans (grown_of_below B5' (some tb))
          clear B5'
          go_wp2_with fail
          exact ⟨rfl, rfl, G5.out⟩
      · cases q with
        | true =>
          simp only [if_true, Option.some.injEq] at hK
          subst hK
          go_wp2_with fail
          refine Calls.mono EQ.out ?_
          rintro e w5 ⟨rfl, B5'⟩
          have S5 : Hid _ := S3.out.below B5'
          have G5 : Hid _ := G.out.trans (grown_of_below B5' (some tb))
          clear B5'
          go_wp2_with fail
          go_end0
          exact ⟨rfl, G5.out, mtv, S5.out, HT.out⟩
        | false =>
          simp only [Bool.false_eq_true, if_false, Option.some.injEq] at hK
          subst hK
          go_wp2_with fail
          refine Calls.mono EQ.out ?_
          rintro e w5 ⟨rfl, B5'⟩
          have G5 : Hid _ := G.out.trans (grown_of_below B5' (some tb))
          clear B5'
          go_wp2_with fail
          exact ⟨rfl, rfl, G5.out⟩

/-- unify, whatever the forms, where the lists of the next depth are unified rightly. -/
theorem unify_step (vs : List ByteArray) (n : Nat) (hL : ListsOk vs n) : UniOk vs (n + 1) := by
  intro W0 w base sp vb tb mt mtv a b bare A B c d R hs ht hw hb ha1 ha2 ha3 hb1 hb2 hb3 hk
  simp only [unifyM] at hk
  cases bare with
  | true =>
    simp only [if_true, isVar, Bool.not_true, Bool.false_and, Bool.false_eq_true, if_false] at hk
    exact unify_bare vs n W0 w base sp vb tb mt mtv a b A B c d hs ht hw hb ha1 ha2 ha3 hb1 hb2 hb3 hL R hk
  | false =>
    simp only [Bool.false_eq_true, if_false] at hk
    cases hka : knownM vs mt n a with
    | none => rw [hka] at hk; simp at hk
    | some a' =>
      cases hkb : knownM vs mt n b with
      | none => rw [hka, hkb] at hk; simp at hk
      | some b' =>
        rw [hka, hkb] at hk
        exact unify_x vs n W0 w base sp vb tb mt mtv a b A B c d a' b' hs ht hw hb ha1 ha2 ha3 hb1 hb2 hb3 hka hkb hL R hk

end Go.Proofs.YtcjmplpfebpfpaaGreatDoor
