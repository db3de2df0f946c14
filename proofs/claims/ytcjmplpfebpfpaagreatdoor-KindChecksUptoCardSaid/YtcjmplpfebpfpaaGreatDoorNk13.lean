/- KindChecks: at every form and every table of rows of bulk at most 1048576 the law returns true, and both read afterwards as before; the listed package variables start as the program's text lays them. No other condition. -/
import Derived.Test.YtcjmplpfebpfpaaGreatDoorCards
import Derived.Test.YtcjmplpfebpfpaaGreatDoorTie
import Derived.Deep.Slices
import Derived.WalkKit
import Derived.ProofKit
import Derived.OpenShut
import Derived.ChangeOld
import Derived.Below
import Derived.SizedLaws
import Derived.Deep.DeepHandedRow
import Derived.LaidMore
import Derived.Lay
import Derived.SevenTiedAt
import Derived.Test.YtcjmplpfebpfpaaGreatDoorNk12
namespace Go.Proofs.YtcjmplpfebpfpaaGreatDoor.kindChecks
open Go.ChangeShapes Go.WideShapes Go.ChangeAt Go.Deep Go.RowKit Go.Proofs Go.Proofs.YtcjmplpfebpfpaaGreatDoorW.PrintWords Go.Proofs.YtcjmplpfebpfpaaGreatDoorW.PrintLast Go.Proofs.YtcjmplpfebpfpaaGreatDoorW.PrintMore PKindInstances
open Go.ChangeMaps (open_string shut_string)
set_option linter.unusedVariables false
theorem own : ownKnob Tryz.prog.godebug = none := by kernel_rfl
theorem laidOut : laidOutB Tryz.prog = true := by kernel_rfl

mutual
theorem wid_siz : ∀ x : S24, wid x ≤ siz x + 1
  | ⟨a, n, s, l⟩ => by
    have := wids_siz l
    simp only [wid, siz]
    omega
theorem wids_siz : ∀ l : List S24, wids l ≤ sizs l + 1
  | [] => by simp [wids]
  | x :: l => by
    have h1 := wid_siz x
    have h2 := wids_siz l
    have h3 := sizs_len l
    have h4 := siz_pos x
    simp only [wids, sizs]
    omega
end

theorem form_agg {w : World} {cs : Array Value} {s : S24} {n : Nat} (h : FormIn w (Value.agg cs).cells.toList s n) : ∃ A c, Value.agg cs = formV s.f0 s.f1 s.f2 A s.f3.length c ∧ s.f3.length ≤ c ∧ Kd.C k24 w A s.f3.length s.f3 ∧ siz s ≤ n := by
  obtain ⟨A, c, e, h1, h2, h3, _⟩ := h
  refine ⟨A, c, ?_, h1, h2, h3⟩
  have e2 : cs.toList = [.int .i64 s.f0, .int .i64 s.f1, .string s.f2, .slice A s.f3.length c] := e
  have : cs = #[.int .i64 s.f0, .int .i64 s.f1, .string s.f2, .slice A s.f3.length c] := by
    rw [← Array.toList_inj]; exact e2
  rw [this]

set_option maxRecDepth 100000 in
theorem contract (H : Type) (enc : TypeId × Value → H) (W : World) (base : Nat) (args : Array Value) (ds gs : List (DataW H)) (before : List MemPlace)
    (hval : ∀ (j : Nat) t v, Tryz.f9.params[j]? = some t → args[j]? = some v → Value.okWide Tryz.prog W .any base t v)
    (hW : DataW.Whole enc Tryz.prog Tryz.f9.params.toList Rows.kindChecksSpec.vars false W args.toList ds gs before) (hk : Rows.uptoSmall H (ds ++ gs) = true) :
    Calls Tryz.prog 9 args W fun e W' => ∃ v, e = .returned v ∧ Rows.kindChecksSpec.post enc Tryz.prog Tryz.f9 false true false false W args v W' := by
  have hW' := hW
  obtain ⟨p, q, hA0, hV, rfl, hfz, hnd⟩ := hW
  have hA : DataW.TrodAll enc Tryz.prog W 0 (fun _ => true) true Tryz.f9.params.toList args.toList ds p := hA0
  rw [Tryz.params9] at hA hval
  obtain ⟨v0, vs0, d0, ds0, p0, q0, hargs, rfl, rfl, h0, r0⟩ := trodAll_cons hA
  obtain ⟨v1, vs1, d1, ds1, p1, q1, rfl, rfl, rfl, h1, r1⟩ := trodAll_cons r0
  obtain ⟨rfl, rfl, rfl⟩ := trodAll_nil r1
  obtain rfl : args = #[v0, v1] := by cases args; simp_all
  obtain ⟨rfl, rfl⟩ := trodVars_none hV
  have k0 := h0
  have k1 := h1
  have lt1 : ∀ x ∈ p1, x.block < W.heap.size := by obtain ⟨m, hm⟩ := k1; exact DataW.trod_lt m _ _ _ hm
  have lt0 : ∀ x ∈ p0, x.block < W.heap.size := by obtain ⟨m, hm⟩ := k0; exact DataW.trod_lt m _ _ _ hm
  obtain ⟨cs, rfl, _⟩ := okWide_struct Tryz.underlying24 (hval 0 24 v0 rfl rfl)
  obtain ⟨s, A, c, hs, hc, hr, hz⟩ : ∃ s A c, Value.agg cs = formV s.f0 s.f1 s.f2 A s.f3.length c ∧ s.f3.length ≤ c ∧ Kd.C k24 W A s.f3.length s.f3 ∧ siz s ≤ Rows.uptoBulk d0 := by
    obtain ⟨fuel, hf⟩ := h0
    obtain ⟨s, hs⟩ := open_form _ hf rfl
    obtain ⟨A, c, h1, h2, h3, h4⟩ := form_agg hs
    exact ⟨s, A, c, h1, h2, h3, h4⟩
  obtain ⟨t, B, d, ht, hd, hrt, hlt, hzt⟩ : ∃ (l : List S114) (A : Option Addr) (c : Nat), v1 = .slice A l.length c ∧ l.length ≤ c ∧ Kd.C k114 W A l.length l ∧ l.length ≤ Rows.uptoBulk d1 ∧ ∀ p ∈ l, p.f0.size ≤ Rows.uptoBulk d1 := by
    obtain ⟨fuel, hf⟩ := h1
    obtain ⟨l, A, c, e, g⟩ := open_rows hf
    refine ⟨l, A, c, ?_, g⟩
    have h9 := hval 1 60 v1 rfl rfl
    obtain ⟨a9, n9, c9, rfl⟩ := okWide_slice Tryz.underlying60 h9
    have e9 : ([.slice a9 n9 c9] : List Value) = [.slice A l.length c] := e
    exact (List.cons.inj e9).1
  clear hA0
  have hb : Rows.uptoBulk d0 ≤ 1048576 ∧ Rows.uptoBulk d1 ≤ 1048576 := by
    simp only [List.append_nil, Rows.uptoSmall, Rows.uptoBulkAll, decide_eq_true_eq] at hk
    omega
  have hws := wid_siz s
  rw [hs, ht]
  refine (KindChecks_any s t W A B c d hr hc (by omega) hrt hd (by omega) (fun r h => by have := hzt r h; omega)).mono fun e W' ⟨he, bel⟩ => ?_
  subst he
  rw [← hs, ← ht]
  exact ⟨_, rfl, _, _, _, [], _, [], hW', trodAll_mk1 (shut_bool Tryz.underlying4 _), (trodAll_cons_mk (Below.trod laidOut (by kernel_rfl) (of_decide_eq_true (by kernel_rfl)) k0 bel lt0) (trodAll_cons_mk (Below.trod laidOut (by kernel_rfl) (of_decide_eq_true (by kernel_rfl)) k1 bel lt1) trodAll_mk0)), rfl, bel.frame _, fun h => by cases h⟩

def arg0 : Value := .agg #[.int .i64 0, .int .i64 0, .string ⟨#[]⟩, .slice none 0 0]
theorem laid_met (os : Os) : laidMet Tryz.prog Rows.kindChecksUptoRow.laid ((World.laidAll Tryz.prog os Rows.kindChecksUptoRow.laid).forCall (fun _ _ => 0) ⟨#[], #[arg0, .slice none 0 0], []⟩).memory :=
  laidMet_laidAll _ (by kernel_rfl) (by kernel_rfl)
theorem reads (os : Os) {H : Type} (enc : TypeId × Value → H) : ∃ places, DataW.whole enc Tryz.prog ((World.laidAll Tryz.prog os Rows.kindChecksUptoRow.laid).forCall (fun _ _ => 0) ⟨#[], #[arg0, .slice none 0 0], []⟩).memory Tryz.f9.params.toList Rows.kindChecksSpec.vars false #[arg0, Value.slice none 0 0].toList 8 = some ([.agg [.lit (.int .i64 0), .lit (.int .i64 0), .lit (.string []), .nil], .nil], [], places) :=
  ⟨[], by kernel_rfl⟩

set_option maxRecDepth 100000 in
theorem liftedUpto (os : Os) (started : os.Started) (H : Type) (enc : TypeId × Value → H) (F : Stop.Interp) :
    ReturnsInHanded {} Tryz.checked os 9 .any ((Rows.OpenSpec.upto Rows.kindChecksSpec).preRow enc Tryz.prog Tryz.f9 Rows.kindChecksUptoRow.domain false Rows.kindChecksUptoRow.laid) (((Rows.OpenSpec.upto Rows.kindChecksSpec).at F).post enc Tryz.prog Tryz.f9 false true false false) := by
  obtain ⟨places, hx⟩ := reads os enc
  refine returnsInHanded_of_row (C := Tryz.checked) (s := Rows.OpenSpec.upto Rows.kindChecksSpec) own started (by kernel_rfl) Tryz.func9
    (witness_row_at (enc := enc) (C := Tryz.checked) false (World.laidAll Tryz.prog os Rows.kindChecksUptoRow.laid) #[arg0, .slice none 0 0] (World.laidAll_os _ _ _) (by kernel_rfl) (by kernel_rfl) (by kernel_rfl)
      (OpenSpec.preRow_of_cond 9 hx (by kernel_rfl) (fun k hk => by cases hk; kernel_rfl) (by kernel_rfl) (laid_met os))) ?_
  intro W base args ds gs before hval hW _ hk _ _ _ _
  exact contract H enc W base args ds gs before hval hW (hk _ rfl)

theorem saidUpto : Rows.KindChecksUptoSaid :=
  OpenClaim.holds_of_cond 9 Tryz.f9 rfl rfl rfl rfl rfl rfl rfl ⟨rfl, rfl, rfl, rfl, rfl⟩ rfl rfl rfl rfl rfl (by kernel_rfl) Tryz.func9 (by kernel_rfl)
    (of_decide_eq_true (by kernel_rfl)) (by unfold Func.isWrapper; first | (rw [if_pos (by decide +kernel)]; kernel_rfl) | (rw [if_neg (by decide +kernel)]; exact ⟨rfl, rfl⟩))
    (fun os started H enc _ F => by rw [OpenClaim.pre_eq_preRow]; exact liftedUpto os started H enc F)

theorem plain (f : FuncId) (fn : Func) (hf : Tryz.pinned.checked.prog.funcNamed "plinth/plinthlaw03.KindChecks" = some f) (hfn : Tryz.pinned.checked.prog.funcs[f]? = some fn) :
    true = Tryz.pinned.checked.prog.looks [] ∧ ∀ (j : Nat) t, fn.params[j]? = some t → Tryz.pinned.checked.prog.wantsStandIn t = false := by
  obtain rfl : f = 9 := Option.some.inj ((show Tryz.prog.funcNamed "plinth/plinthlaw03.KindChecks" = some 9 by kernel_rfl).symm.trans hf) |>.symm
  obtain rfl : fn = Tryz.f9 := (Option.some.inj (Tryz.func9.symm.trans hfn)).symm
  refine ⟨by kernel_rfl, fun j t ht => ?_⟩
  rw [Tryz.params9] at ht
  have hm : t ∈ [24, 60] := by simpa using Array.mem_of_getElem? ht
  have hall : ([24, 60].all fun u => !Tryz.prog.wantsStandIn u) = true := by kernel_rfl
  exact (show Tryz.prog.wantsStandIn t = false by simpa using List.all_eq_true.1 hall t hm)

theorem cardUpto : Rows.KindChecksUptoCardSaid :=
  Claim7.holds_tied_plain_at .later [] _ _ _ _ saidUpto (fun _ h => by cases h) (by kernel_rfl) (fun _ h => by cases h) kindChecksUpto_row_tie rfl ⟨rfl, rfl⟩ (by kernel_rfl) rfl plain (by kernel_rfl)
#print axioms cardUpto
end Go.Proofs.YtcjmplpfebpfpaaGreatDoor.kindChecks
namespace Go.Proofs.YtcjmplpfebpfpaaGreatDoor
/-- The card, under a short name, for the claim. -/
theorem kindChecks_holds : Rows.KindChecksUptoCardSaid := kindChecks.cardUpto
end Go.Proofs.YtcjmplpfebpfpaaGreatDoor
