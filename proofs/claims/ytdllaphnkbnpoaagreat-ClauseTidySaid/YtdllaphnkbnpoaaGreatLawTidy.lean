/- ClauseTidy: at every list of clauses, every two lists of literals and every number the law returns true, and all of them read afterwards as before. No condition. -/
import Derived.Test.YtdllaphnkbnpoaaGreatRows
import Derived.Test.YtdllaphnkbnpoaaGreatTo
import Derived.Test.YtdllaphnkbnpoaaGreatXo
import Derived.WalkKit
import Derived.ProofKit
import Derived.OpenShut
import Derived.ChangeOld
import Derived.Below
import Derived.SizedLaws
namespace Go.Proofs.YtdllaphnkbnpoaaGreat.clauseTidy
open Go.ChangeShapes Go.WideShapes Go.ChangeAt Go.RowKit
theorem own : ownKnob Tryz.prog.godebug = none := by kernel_rfl
theorem laidOut : laidOutB Tryz.prog = true := by kernel_rfl

set_option maxRecDepth 100000 in
theorem lifted (os : Os) (started : os.Started) (H : Type) (enc : TypeId × Value → H) :
    ReturnsInHanded {} Tryz.checked os 3 .any (Rows.clauseTidySpec.pre6 enc Tryz.prog Tryz.f3 Rows.clauseTidyRow.domain false) (Rows.clauseTidySpec.post enc Tryz.prog Tryz.f3 false true false false) := by
  refine returnsInHanded_of_change_sized (C := Tryz.checked) own started (by kernel_rfl) Tryz.func3
    (ChangeSpec.witness6 (enc := enc) (C := Tryz.checked) false ⟨#[], #[.slice none 0 0, .slice none 0 0, .slice none 0 0, .int .i64 0], []⟩ 8 (by kernel_rfl) (by kernel_rfl) (by kernel_rfl) (by kernel_rfl)) ?_
  intro W base args ds gs before hval0 hW hcnd hsz0 _
  have hval : ∀ (j : Nat) t v, Tryz.f3.params[j]? = some t → args[j]? = some v → Value.okWide Tryz.prog W .any base t v := hval0
  have hW' := hW
  obtain ⟨p, q, hA0, hV, rfl, hfz, hnd⟩ := hW
  have hA : DataW.TrodAll enc Tryz.prog W 0 (fun _ => true) true Tryz.f3.params.toList args.toList ds p := hA0
  rw [Tryz.params3] at hA hval
  obtain ⟨v0, vs0, d0, ds0, p0, q0, hargs, rfl, rfl, h0, r0⟩ := trodAll_cons hA
  obtain ⟨v1, vs1, d1, ds1, p1, q1, rfl, rfl, rfl, h1, r1⟩ := trodAll_cons r0
  obtain ⟨v2, vs2, d2, ds2, p2, q2, rfl, rfl, rfl, h2, r2⟩ := trodAll_cons r1
  obtain ⟨v3, vs3, d3, ds3, p3, q3, rfl, rfl, rfl, h3, r3⟩ := trodAll_cons r2
  obtain ⟨rfl, rfl, rfl⟩ := trodAll_nil r3
  obtain rfl : args = #[v0, v1, v2, v3] := by cases args; simp_all
  obtain ⟨rfl, rfl⟩ := trodVars_none hV
  have k0 := h0
  have k1 := h1
  have k2 := h2
  have lt0 : ∀ x ∈ p0, x.block < W.heap.size := by obtain ⟨m, hm⟩ := k0; exact DataW.trod_lt m _ _ _ hm
  have lt1 : ∀ x ∈ p1, x.block < W.heap.size := by obtain ⟨m, hm⟩ := k1; exact DataW.trod_lt m _ _ _ hm
  have lt2 : ∀ x ∈ p2, x.block < W.heap.size := by obtain ⟨m, hm⟩ := k2; exact DataW.trod_lt m _ _ _ hm
  obtain ⟨a0, len0, cap0, rfl⟩ := okWide_slice Tryz.underlying22 (hval 0 22 v0 rfl rfl)
  obtain ⟨a1, len1, cap1, rfl⟩ := okWide_slice Tryz.underlying23 (hval 1 23 v1 rfl rfl)
  obtain ⟨a2, len2, cap2, rfl⟩ := okWide_slice Tryz.underlying23 (hval 2 23 v2 rfl rfl)
  obtain ⟨D, A, c, hv, hD, hL, hm, hw⟩ : ∃ (D : List (List Int)) (A : Option Addr) (c : Nat), Value.slice a0 len0 cap0 = .slice A D.length c ∧ D.length ≤ maxLen ∧ LiesR W.heap.size W A D ∧ (∀ e ∈ D, e.length ≤ maxLen) ∧ ∀ e ∈ D, ∀ y ∈ e, -9223372036854775808 ≤ y ∧ y ≤ 9223372036854775807 := by
    obtain ⟨fuel, hf⟩ := h0
    exact open_rows hf
  injection hv with e1 e2 e3
  subst e1 e2 e3
  obtain ⟨G, A2, c2, hv, hlc, hcm, hL2, hw2⟩ : ∃ (xs : List Int) (A : Option Addr) (c : Nat), Value.slice a1 len1 cap1 = .slice A xs.length c ∧ xs.length ≤ c ∧ c ≤ maxLen ∧ Lies W.heap.size W A xs ∧ ∀ y ∈ xs, -9223372036854775808 ≤ y ∧ y ≤ 9223372036854775807 := by
    obtain ⟨fuel, hf⟩ := h1
    exact open_row1 hf
  injection hv with e1 e2 e3
  subst e1 e2 e3
  obtain ⟨G2, A3, c3, hv, hlc3, hcm3, hL3, hw3⟩ : ∃ (xs : List Int) (A : Option Addr) (c : Nat), Value.slice a2 len2 cap2 = .slice A xs.length c ∧ xs.length ≤ c ∧ c ≤ maxLen ∧ Lies W.heap.size W A xs ∧ ∀ y ∈ xs, -9223372036854775808 ≤ y ∧ y ≤ 9223372036854775807 := by
    obtain ⟨fuel, hf⟩ := h2
    exact open_row1 hf
  injection hv with e1 e2 e3
  subst e1 e2 e3
  obtain ⟨on, rfl, rfl, rfl, won⟩ := open_int Tryz.underlying3 (hval 3 3 v3 rfl rfl) h3
  have hon : -9223372036854775808 ≤ on ∧ on ≤ 9223372036854775807 := by
    have e1 : IntKind.i64.min = -9223372036854775808 := by decide
    have e2 : IntKind.i64.max = 9223372036854775807 := by decide
    have := won
    simp [Lit.wf] at this
    omega
  clear hA0 hval0 hsz0
  refine (tidyLaw_any hL hL2 hL3 hD hm hw (Nat.le_trans hlc hcm) (Nat.le_trans hlc3 hcm3) hlc hlc3 hw2 hw3 hon).mono fun e W' ⟨he, bel⟩ => ?_
  subst he
  exact ⟨_, rfl, _, _, _, [], _, [], hW', trodAll_mk1 (shut_bool Tryz.underlying4 _), (trodAll_cons_mk (Below.trod laidOut (by kernel_rfl) (of_decide_eq_true (by kernel_rfl)) k0 bel lt0) (trodAll_cons_mk (Below.trod laidOut (by kernel_rfl) (of_decide_eq_true (by kernel_rfl)) k1 bel lt1) (trodAll_cons_mk (Below.trod laidOut (by kernel_rfl) (of_decide_eq_true (by kernel_rfl)) k2 bel lt2) (trodAll_cons_mk (shut_int Tryz.underlying3 won) trodAll_mk0)))), rfl, bel.frame _, fun h => by cases h⟩

theorem over : Rows.clauseTidyRow.holds Tryz.pinned (OpenSpec.ofChange Rows.clauseTidySpec) :=
  OpenClaim.holds_of_wide 3 Tryz.f3 rfl rfl rfl rfl rfl rfl rfl ⟨rfl, rfl, rfl, rfl, rfl⟩ rfl rfl rfl rfl rfl (by kernel_rfl) Tryz.func3 (by kernel_rfl)
    (of_decide_eq_true (by kernel_rfl)) (by unfold Func.isWrapper; first | (rw [if_pos (by decide +kernel)]; kernel_rfl) | (rw [if_neg (by decide +kernel)]; exact ⟨rfl, rfl⟩))
    (fun os started H enc _ => lifted os started H enc)
theorem proved : Rows.ClauseTidySaid := over
#print axioms proved
end Go.Proofs.YtdllaphnkbnpoaaGreat.clauseTidy
namespace Go.Proofs.YtdllaphnkbnpoaaGreat
/-- The row, under a short name, for the claim. -/
theorem clauseTidy_holds : Rows.ClauseTidySaid := clauseTidy.proved
end Go.Proofs.YtdllaphnkbnpoaaGreat
