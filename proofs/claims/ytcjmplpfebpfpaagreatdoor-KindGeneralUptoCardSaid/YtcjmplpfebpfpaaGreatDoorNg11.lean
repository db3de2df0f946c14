/- KindGeneral: at every form, every row of pairs and every row of texts of bulk at most 1048576 the law returns true, and all read afterwards as before; the listed package variables start as the program's text lays them. No other condition. -/
import Derived.Test.YtcjmplpfebpfpaaGreatDoorCards
import Derived.Test.YtcjmplpfebpfpaaGreatDoorTie
import Derived.WalkKit
import Derived.ProofKit
import Derived.OpenShut
import Derived.ChangeOld
import Derived.Below
import Derived.SizedLaws
import Derived.Deep.DeepHandedRow
import Derived.LaidMore
import Derived.Lay
import Derived.SevenTiedAt
import Derived.Test.YtcjmplpfebpfpaaGreatDoorNg10
namespace Go.Proofs.YtcjmplpfebpfpaaGreatDoor.kindGeneral
open Go.ChangeShapes Go.WideShapes Go.ChangeAt Go.Deep Go.RowKit Go.Proofs Go.Proofs.YtcjmplpfebpfpaaGreatDoorW.PrintWords Go.Proofs.YtcjmplpfebpfpaaGreatDoorW.PrintLast Go.Proofs.YtcjmplpfebpfpaaGreatDoorW.PrintMore PKindInstances
open Go.ChangeMaps (open_string shut_string)
set_option linter.unusedVariables false
theorem own : ownKnob Tryz.prog.godebug = none := by kernel_rfl
theorem laidOut : laidOutB Tryz.prog = true := by kernel_rfl

mutual
theorem wid_siz : ∀ x : S24, wid x ≤ siz x + 1
  | ⟨a, n, s, l⟩ => by
    have := wids_siz l
    simp only [wid, siz]
    omega
theorem wids_siz : ∀ l : List S24, wids l ≤ sizs l + 1
  | [] => by simp [wids]
  | x :: l => by
    have h1 := wid_siz x
    have h2 := wids_siz l
    have h3 := sizs_len l
    have h4 := siz_pos x
    simp only [wids, sizs]
    omega
end

theorem form_agg {w : World} {cs : Array Value} {s : S24} {n : Nat} (h : FormIn w (Value.agg cs).cells.toList s n) : ∃ A c, Value.agg cs = formV s.f0 s.f1 s.f2 A s.f3.length c ∧ s.f3.length ≤ c ∧ Kd.C k24 w A s.f3.length s.f3 ∧ siz s ≤ n := by
  obtain ⟨A, c, e, h1, h2, h3, _⟩ := h
  refine ⟨A, c, ?_, h1, h2, h3⟩
  have e2 : cs.toList = [.int .i64 s.f0, .int .i64 s.f1, .string s.f2, .slice A s.f3.length c] := e
  have : cs = #[.int .i64 s.f0, .int .i64 s.f1, .string s.f2, .slice A s.f3.length c] := by
    rw [← Array.toList_inj]; exact e2
  rw [this]

theorem open_texts {H : Type} {enc : TypeId × Value → H} {w : World} {fuel : Nat} {cs : List Value} {x : DataW H × List MemPlace} (h : DataW.trod enc Tryz.prog w 0 (fun _ => true) true fuel 38 cs = some x) :
    ∃ (l : List ByteArray) (A : Option Addr) (c : Nat), cs = [.slice A l.length c] ∧ l.length ≤ c ∧ Kd.C Kd.string w A l.length l ∧ l.length ≤ Rows.uptoBulk x.1 ∧ ∀ v ∈ l, v.size ≤ Rows.uptoBulk x.1 := by
  rcases open_slice Tryz.underlying38 h with ⟨e3, f3⟩ | ⟨a, len, cap, m, n', Dd, Pl, e3, _, hl, hm, hmm, f3, hall⟩
  · subst e3 f3
    exact ⟨[], none, 0, rfl, Nat.le_refl _, Kd.C_nil _ _, Nat.zero_le _, fun v hv => absurd hv List.not_mem_nil⟩
  · simp only [if_true] at hmm
    subst e3 f3
    have each : ∀ i, i < len → ∃ s : ByteArray, w.cell? (a.add i) = some (.string s) ∧ Dd i = .lit (.string s.data.toList) := by
      intro i hi
      obtain ⟨cs', g1, g2⟩ := hall i (by omega)
      rw [cells9'] at g1
      obtain ⟨z2, e2, f2, _⟩ := DataW.trod_string Tryz.underlying9 g2
      subst e2
      obtain ⟨_, hl9, hc9⟩ := World.cells?_some g1
      have := hc9 0 (by omega)
      refine ⟨z2, ?_, (Prod.mk.inj f2).1⟩
      rw [Nat.mul_one] at this
      simpa [Addr.add] using this
    obtain ⟨f, hf⟩ := choose_lt (α := ByteArray) each
    have hlist : ((List.range len).map f).length = len := by simp
    have hbulk : ∀ r : List Nat, (∀ i ∈ r, i < len) → r.length ≤ Rows.uptoBulkAll (r.map Dd) ∧ ∀ i ∈ r, (f i).size ≤ Rows.uptoBulkAll (r.map Dd) := by
      intro r
      induction r with
      | nil => intro _; exact ⟨Nat.zero_le _, fun i hi => absurd hi List.not_mem_nil⟩
      | cons i r ih =>
        intro hr
        obtain ⟨h1, h2⟩ := ih fun j hj => hr j (List.mem_cons_of_mem _ hj)
        have e := (hf i (hr i List.mem_cons_self)).2
        have hs : (f i).data.toList.length = (f i).size := Array.length_toList
        have hb : (f i).size + 1 ≤ Rows.uptoBulk (Dd i) := by rw [e]; simp [Rows.uptoBulk]
        simp only [List.map_cons, Rows.uptoBulkAll, List.length_cons]
        refine ⟨by omega, fun j hj => ?_⟩
        rcases List.mem_cons.1 hj with rfl | hj
        · omega
        · have := h2 j hj; omega
    obtain ⟨hb1, hb2⟩ := hbulk (List.range len) fun i hi => List.mem_range.1 hi
    rw [List.length_range] at hb1
    refine ⟨(List.range len).map f, some a, cap, by rw [hlist], by rw [hlist]; exact hl, ?_, ?_, ?_⟩
    · refine ⟨by simp, by rw [hlist]; simp only [maxLen] at hm; omega, fun hn => ⟨a, rfl, fun j p hj => ?_⟩⟩
      have hjl : j < len := by
        have := (List.getElem?_eq_some_iff.1 hj).1
        simpa using this
      obtain rfl : f j = p := by simpa [hjl] using hj
      refine ⟨[.string (f j)], rfl, rfl, fun i u hu => ?_⟩
      match i, hu with
      | 0, hu =>
        obtain rfl := Option.some.inj hu
        show w.cell? (a.add (j * 1 + 0)) = _
        rw [Nat.mul_one, Nat.add_zero]
        exact (hf j hjl).1
      | i + 1, hu => simp at hu
    · rw [hlist]; simp only [Rows.uptoBulk]; omega
    · intro v hv
      obtain ⟨i, hi, rfl⟩ := List.mem_map.1 hv
      have := hb2 i hi
      simp only [Rows.uptoBulk]
      omega

set_option maxRecDepth 100000 in
theorem contract (H : Type) (enc : TypeId × Value → H) (W : World) (base : Nat) (args : Array Value) (ds gs : List (DataW H)) (before : List MemPlace)
    (hval : ∀ (j : Nat) t v, Tryz.f6.params[j]? = some t → args[j]? = some v → Value.okWide Tryz.prog W .any base t v)
    (hW : DataW.Whole enc Tryz.prog Tryz.f6.params.toList Rows.kindGeneralSpec.vars false W args.toList ds gs before) (hk : Rows.uptoSmall H (ds ++ gs) = true) :
    Calls Tryz.prog 6 args W fun e W' => ∃ v, e = .returned v ∧ Rows.kindGeneralSpec.post enc Tryz.prog Tryz.f6 false true false false W args v W' := by
  have hW' := hW
  obtain ⟨p, q, hA0, hV, rfl, hfz, hnd⟩ := hW
  have hA : DataW.TrodAll enc Tryz.prog W 0 (fun _ => true) true Tryz.f6.params.toList args.toList ds p := hA0
  rw [Tryz.params6] at hA hval
  obtain ⟨v0, vs0, d0, ds0, p0, q0, hargs, rfl, rfl, h0, r0⟩ := trodAll_cons hA
  obtain ⟨v1, vs1, d1, ds1, p1, q1, rfl, rfl, rfl, h1, r1⟩ := trodAll_cons r0
  obtain ⟨v2, vs2, d2, ds2, p2, q2, rfl, rfl, rfl, h2, r2⟩ := trodAll_cons r1
  obtain ⟨rfl, rfl, rfl⟩ := trodAll_nil r2
  obtain rfl : args = #[v0, v1, v2] := by cases args; simp_all
  obtain ⟨rfl, rfl⟩ := trodVars_none hV
  have k0 := h0
  have k1 := h1
  have k2 := h2
  have lt0 : ∀ x ∈ p0, x.block < W.heap.size := by obtain ⟨m, hm⟩ := k0; exact DataW.trod_lt m _ _ _ hm
  have lt1 : ∀ x ∈ p1, x.block < W.heap.size := by obtain ⟨m, hm⟩ := k1; exact DataW.trod_lt m _ _ _ hm
  have lt2 : ∀ x ∈ p2, x.block < W.heap.size := by obtain ⟨m, hm⟩ := k2; exact DataW.trod_lt m _ _ _ hm
  obtain ⟨cs, rfl, _⟩ := okWide_struct Tryz.underlying24 (hval 0 24 v0 rfl rfl)
  obtain ⟨s, A, c, hs, hc, hr, hz⟩ : ∃ s A c, Value.agg cs = formV s.f0 s.f1 s.f2 A s.f3.length c ∧ s.f3.length ≤ c ∧ Kd.C k24 W A s.f3.length s.f3 ∧ siz s ≤ Rows.uptoBulk d0 := by
    obtain ⟨fuel, hf⟩ := h0
    obtain ⟨s, hs⟩ := open_form _ hf rfl
    obtain ⟨A, c, h1, h2, h3, h4⟩ := form_agg hs
    exact ⟨s, A, c, h1, h2, h3, h4⟩
  obtain ⟨t, B, d, ht, hd, hrt, hzt⟩ : ∃ (l : List S51) (A : Option Addr) (c : Nat), v1 = .slice A l.length c ∧ l.length ≤ c ∧ Kd.C k51 W A l.length l ∧ sizp l ≤ Rows.uptoBulk d1 := by
    obtain ⟨fuel, hf⟩ := h1
    obtain ⟨l, A, c, e, g⟩ := open_pairs hf
    refine ⟨l, A, c, ?_, g⟩
    have h9 := hval 1 25 v1 rfl rfl
    obtain ⟨a9, n9, c9, rfl⟩ := okWide_slice Tryz.underlying25 h9
    have e9 : ([.slice a9 n9 c9] : List Value) = [.slice A l.length c] := e
    exact (List.cons.inj e9).1
  obtain ⟨l, V, cv, hv2, hvc, hvr, hvn, hvz⟩ : ∃ (l : List ByteArray) (A : Option Addr) (c : Nat), v2 = .slice A l.length c ∧ l.length ≤ c ∧ Kd.C Kd.string W A l.length l ∧ l.length ≤ Rows.uptoBulk d2 ∧ ∀ v ∈ l, v.size ≤ Rows.uptoBulk d2 := by
    obtain ⟨fuel, hf⟩ := h2
    obtain ⟨l, A, c, e, g⟩ := open_texts hf
    refine ⟨l, A, c, ?_, g⟩
    have h9 := hval 2 38 v2 rfl rfl
    obtain ⟨a9, n9, c9, rfl⟩ := okWide_slice Tryz.underlying38 h9
    have e9 : ([.slice a9 n9 c9] : List Value) = [.slice A l.length c] := e
    exact (List.cons.inj e9).1
  clear hA0
  have hb : Rows.uptoBulk d0 + Rows.uptoBulk d1 ≤ 1048576 ∧ Rows.uptoBulk d2 ≤ 1048576 := by
    simp only [List.append_nil, Rows.uptoSmall, Rows.uptoBulkAll, decide_eq_true_eq] at hk
    omega
  have hws := wid_siz s
  rw [hs, ht, hv2]
  refine (KindGeneral_any l t s W A B V c d cv hr hc (by omega) hrt hd (fun p hp => by have h1 := wid_siz p.f1; have h2 := sizp_mem hp; omega) (by omega) hvr hvc (by omega) (fun v h => by have := hvz v h; omega)).mono fun e W' ⟨he, bel⟩ => ?_
  subst he
  rw [← hs, ← ht, ← hv2]
  exact ⟨_, rfl, _, _, _, [], _, [], hW', trodAll_mk1 (shut_bool Tryz.underlying4 _), (trodAll_cons_mk (Below.trod laidOut (by kernel_rfl) (of_decide_eq_true (by kernel_rfl)) k0 bel lt0) (trodAll_cons_mk (Below.trod laidOut (by kernel_rfl) (of_decide_eq_true (by kernel_rfl)) k1 bel lt1) (trodAll_cons_mk (Below.trod laidOut (by kernel_rfl) (of_decide_eq_true (by kernel_rfl)) k2 bel lt2) trodAll_mk0))), rfl, bel.frame _, fun h => by cases h⟩

def arg0 : Value := .agg #[.int .i64 0, .int .i64 0, .string ⟨#[]⟩, .slice none 0 0]
theorem laid_met (os : Os) : laidMet Tryz.prog Rows.kindGeneralUptoRow.laid ((World.laidAll Tryz.prog os Rows.kindGeneralUptoRow.laid).forCall (fun _ _ => 0) ⟨#[], #[arg0, .slice none 0 0, .slice none 0 0], []⟩).memory :=
  laidMet_laidAll _ (by kernel_rfl) (by kernel_rfl)
theorem reads (os : Os) {H : Type} (enc : TypeId × Value → H) : ∃ places, DataW.whole enc Tryz.prog ((World.laidAll Tryz.prog os Rows.kindGeneralUptoRow.laid).forCall (fun _ _ => 0) ⟨#[], #[arg0, .slice none 0 0, .slice none 0 0], []⟩).memory Tryz.f6.params.toList Rows.kindGeneralSpec.vars false #[arg0, .slice none 0 0, .slice none 0 0].toList 8 = some ([.agg [.lit (.int .i64 0), .lit (.int .i64 0), .lit (.string []), .nil], .nil, .nil], [], places) :=
  ⟨[], by kernel_rfl⟩

set_option maxRecDepth 100000 in
theorem liftedUpto (os : Os) (started : os.Started) (H : Type) (enc : TypeId × Value → H) (F : Stop.Interp) :
    ReturnsInHanded {} Tryz.checked os 6 .any ((Rows.OpenSpec.upto Rows.kindGeneralSpec).preRow enc Tryz.prog Tryz.f6 Rows.kindGeneralUptoRow.domain false Rows.kindGeneralUptoRow.laid) (((Rows.OpenSpec.upto Rows.kindGeneralSpec).at F).post enc Tryz.prog Tryz.f6 false true false false) := by
  obtain ⟨places, hx⟩ := reads os enc
  refine returnsInHanded_of_row (C := Tryz.checked) (s := Rows.OpenSpec.upto Rows.kindGeneralSpec) own started (by kernel_rfl) Tryz.func6
    (witness_row_at (enc := enc) (C := Tryz.checked) false (World.laidAll Tryz.prog os Rows.kindGeneralUptoRow.laid) #[arg0, .slice none 0 0, .slice none 0 0] (World.laidAll_os _ _ _) (by kernel_rfl) (by kernel_rfl) (by kernel_rfl)
      (OpenSpec.preRow_of_cond 6 hx (by kernel_rfl) (fun k hk => by cases hk; kernel_rfl) (by kernel_rfl) (laid_met os))) ?_
  intro W base args ds gs before hval hW _ hk _ _ _ _
  exact contract H enc W base args ds gs before hval hW (hk _ rfl)

theorem saidUpto : Rows.KindGeneralUptoSaid :=
  OpenClaim.holds_of_cond 6 Tryz.f6 rfl rfl rfl rfl rfl rfl rfl ⟨rfl, rfl, rfl, rfl, rfl⟩ rfl rfl rfl rfl rfl (by kernel_rfl) Tryz.func6 (by kernel_rfl)
    (of_decide_eq_true (by kernel_rfl)) (by unfold Func.isWrapper; first | (rw [if_pos (by decide +kernel)]; kernel_rfl) | (rw [if_neg (by decide +kernel)]; exact ⟨rfl, rfl⟩))
    (fun os started H enc _ F => by rw [OpenClaim.pre_eq_preRow]; exact liftedUpto os started H enc F)

theorem plain (f : FuncId) (fn : Func) (hf : Tryz.pinned.checked.prog.funcNamed "plinth/plinthlaw03.KindGeneral" = some f) (hfn : Tryz.pinned.checked.prog.funcs[f]? = some fn) :
    true = Tryz.pinned.checked.prog.looks [] ∧ ∀ (j : Nat) t, fn.params[j]? = some t → Tryz.pinned.checked.prog.wantsStandIn t = false := by
  obtain rfl : f = 6 := Option.some.inj ((show Tryz.prog.funcNamed "plinth/plinthlaw03.KindGeneral" = some 6 by kernel_rfl).symm.trans hf) |>.symm
  obtain rfl : fn = Tryz.f6 := (Option.some.inj (Tryz.func6.symm.trans hfn)).symm
  refine ⟨by kernel_rfl, fun j t ht => ?_⟩
  rw [Tryz.params6] at ht
  have hm : t ∈ [24, 25, 38] := by simpa using Array.mem_of_getElem? ht
  have hall : ([24, 25, 38].all fun u => !Tryz.prog.wantsStandIn u) = true := by kernel_rfl
  exact (show Tryz.prog.wantsStandIn t = false by simpa using List.all_eq_true.1 hall t hm)

theorem cardUpto : Rows.KindGeneralUptoCardSaid :=
  Claim7.holds_tied_plain_at .later [] _ _ _ _ saidUpto (fun _ h => by cases h) (by kernel_rfl) (fun _ h => by cases h) kindGeneralUpto_row_tie rfl ⟨rfl, rfl⟩ (by kernel_rfl) rfl plain (by kernel_rfl)
#print axioms cardUpto
end Go.Proofs.YtcjmplpfebpfpaaGreatDoor.kindGeneral
namespace Go.Proofs.YtcjmplpfebpfpaaGreatDoor
/-- The card, under a short name, for the claim. -/
theorem kindGeneral_holds : Rows.KindGeneralUptoCardSaid := kindGeneral.cardUpto
end Go.Proofs.YtcjmplpfebpfpaaGreatDoor
