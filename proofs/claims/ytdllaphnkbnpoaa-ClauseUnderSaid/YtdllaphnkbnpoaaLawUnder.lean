/- ClauseUnder: at every list of clauses and every list of literals the law returns true, and both read afterwards as before. No condition. -/
import Derived.Test.YtdllaphnkbnpoaaRows
import Derived.Test.YtdllaphnkbnpoaaXy
import Derived.Test.YtdllaphnkbnpoaaXo
import Derived.WalkKit
import Derived.ProofKit
import Derived.OpenShut
import Derived.ChangeOld
import Derived.Below
import Derived.SizedLaws
namespace Go.Proofs.Ytdllaphnkbnpoaa.clauseUnder
open Go.ChangeShapes Go.WideShapes Go.ChangeAt Go.RowKit
theorem own : ownKnob Try.prog.godebug = none := by kernel_rfl
theorem laidOut : laidOutB Try.prog = true := by kernel_rfl

set_option maxRecDepth 100000 in
theorem lifted (os : Os) (started : os.Started) (H : Type) (enc : TypeId × Value → H) :
    ReturnsInHanded {} Try.checked os 7 .any (Rows.clauseUnderSpec.pre6 enc Try.prog Try.f7 Rows.clauseUnderRow.domain false) (Rows.clauseUnderSpec.post enc Try.prog Try.f7 false true false false) := by
  refine returnsInHanded_of_change_sized (C := Try.checked) own started (by kernel_rfl) Try.func7
    (ChangeSpec.witness6 (enc := enc) (C := Try.checked) false ⟨#[], #[.slice none 0 0, .slice none 0 0], []⟩ 7 (by kernel_rfl) (by kernel_rfl) (by kernel_rfl) (by kernel_rfl)) ?_
  intro W base args ds gs before hval0 hW hcnd hsz0 _
  have hval : ∀ (j : Nat) t v, Try.f7.params[j]? = some t → args[j]? = some v → Value.okWide Try.prog W .any base t v := hval0
  have hW' := hW
  obtain ⟨p, q, hA0, hV, rfl, hfz, hnd⟩ := hW
  have hA : DataW.TrodAll enc Try.prog W 0 (fun _ => true) true Try.f7.params.toList args.toList ds p := hA0
  rw [Try.params7] at hA hval
  obtain ⟨v0, vs0, d0, ds0, p0, q0, hargs, rfl, rfl, h0, r0⟩ := trodAll_cons hA
  obtain ⟨v1, vs1, d1, ds1, p1, q1, rfl, rfl, rfl, h1, r1⟩ := trodAll_cons r0
  obtain ⟨rfl, rfl, rfl⟩ := trodAll_nil r1
  obtain rfl : args = #[v0, v1] := by cases args; simp_all
  obtain ⟨rfl, rfl⟩ := trodVars_none hV
  have k0 := h0
  have k1 := h1
  have lt0 : ∀ x ∈ p0, x.block < W.heap.size := by obtain ⟨m, hm⟩ := k0; exact DataW.trod_lt m _ _ _ hm
  have lt1 : ∀ x ∈ p1, x.block < W.heap.size := by obtain ⟨m, hm⟩ := k1; exact DataW.trod_lt m _ _ _ hm
  obtain ⟨a0, len0, cap0, rfl⟩ := okWide_slice Try.underlying22 (hval 0 22 v0 rfl rfl)
  obtain ⟨a1, len1, cap1, rfl⟩ := okWide_slice Try.underlying26 (hval 1 26 v1 rfl rfl)
  obtain ⟨D, A, c, hv, hD, hL, hm, hw, hc0⟩ : ∃ (D : List (List Int)) (A : Option Addr) (c : Nat), Value.slice a0 len0 cap0 = .slice A D.length c ∧ D.length ≤ maxLen ∧ LiesR W.heap.size W A D ∧ (∀ e ∈ D, e.length ≤ maxLen) ∧ (∀ e ∈ D, ∀ y ∈ e, -9223372036854775808 ≤ y ∧ y ≤ 9223372036854775807) ∧ (A = none → c = 0) := by
    obtain ⟨fuel, hf⟩ := h0
    exact open_rows2 hf
  injection hv with e1 e2 e3
  subst e1 e2 e3
  obtain ⟨G, A2, c2, hv, hlc, hcm, hL2, hw2⟩ : ∃ (xs : List Int) (A : Option Addr) (c : Nat), Value.slice a1 len1 cap1 = .slice A xs.length c ∧ xs.length ≤ c ∧ c ≤ maxLen ∧ Lies W.heap.size W A xs ∧ ∀ y ∈ xs, -9223372036854775808 ≤ y ∧ y ≤ 9223372036854775807 := by
    obtain ⟨fuel, hf⟩ := h1
    exact open_row1 hf
  injection hv with e1 e2 e3
  subst e1 e2 e3
  clear hA0 hval0 hsz0
  refine (underLaw_any hL hc0 hL2 hD hm hw (Nat.le_trans hlc hcm) hw2).mono fun e W' ⟨he, bel⟩ => ?_
  subst he
  exact ⟨_, rfl, _, _, _, [], _, [], hW', trodAll_mk1 (shut_bool Try.underlying4 _), (trodAll_cons_mk (Below.trod laidOut (by kernel_rfl) (of_decide_eq_true (by kernel_rfl)) k0 bel lt0) (trodAll_cons_mk (Below.trod laidOut (by kernel_rfl) (of_decide_eq_true (by kernel_rfl)) k1 bel lt1) trodAll_mk0)), rfl, bel.frame _, fun h => by cases h⟩

theorem over : Rows.clauseUnderRow.holds Try.pinned (OpenSpec.ofChange Rows.clauseUnderSpec) :=
  OpenClaim.holds_of_wide 7 Try.f7 rfl rfl rfl rfl rfl rfl rfl ⟨rfl, rfl, rfl, rfl, rfl⟩ rfl rfl rfl rfl rfl (by kernel_rfl) Try.func7 (by kernel_rfl)
    (of_decide_eq_true (by kernel_rfl)) (by unfold Func.isWrapper; first | (rw [if_pos (by decide +kernel)]; kernel_rfl) | (rw [if_neg (by decide +kernel)]; exact ⟨rfl, rfl⟩))
    (fun os started H enc _ => lifted os started H enc)
theorem proved : Rows.ClauseUnderSaid := over
#print axioms proved
end Go.Proofs.Ytdllaphnkbnpoaa.clauseUnder
namespace Go.Proofs.Ytdllaphnkbnpoaa
/-- The row, under a short name, for the claim. -/
theorem clauseUnder_holds : Rows.ClauseUnderSaid := clauseUnder.proved
end Go.Proofs.Ytdllaphnkbnpoaa
