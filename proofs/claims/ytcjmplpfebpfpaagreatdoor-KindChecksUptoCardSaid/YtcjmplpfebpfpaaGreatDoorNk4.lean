/- Part 4 of what the law's row leans on (Nk): the print's words and functions, cut to what is reached, and own texts. -/
import Derived.Deep.RegionLaw
import Derived.Deep.CutRange
import Derived.Deep.DeepCutAuto
import Derived.Deep.CutBlock
import Derived.Deep.RegionHeld3
import Derived.BigQuiet
import Derived.Test.YtcjmplpfebpfpaaGreatDoorNk3
namespace Go.Proofs.YtcjmplpfebpfpaaGreatDoor
open Go.RowKit Go.Proofs Go.Proofs.YtcjmplpfebpfpaaGreatDoorW.PrintWords Go.Proofs.YtcjmplpfebpfpaaGreatDoorW.PrintLast Go.Proofs.YtcjmplpfebpfpaaGreatDoorW.PrintMore PKindInstances
set_option linter.unusedVariables false
set_option linter.unusedSimpArgs false

/-- An operation taken first, its slot told. -/
theorem takeV {P : Program} {ops : Array Oper} {Q : Exit → Act → World → Prop} {md : Region.Mode} {S : World → Prop} (i : Nat) (d : Option Tmp) (v : Value) {oi : Oper} {fuel : Nat} {listed : Array Bool} {a : Act} {w : World} (hi : ops[i]? = some oi) (hd : oi.dst = d)
    (hs : Region.noSelect ops = true) (hf : Region.free md ops listed i = true) (hr : (Region.ready md ops listed).contains i = true)
    (hQ : ∀ c a w, Q (.panic c) (a.put d v) w → Q (.panic c) a w) (hy : YieldsIf P ops S oi v a) (hS : S w)
    (h : wpAnyH P md ops Q S fuel (listed.setIfInBounds i true) (a.put d v) w) : wpAnyH P md ops Q S (fuel + 1) listed a w := by
  subst hd
  exact wpAnyH_take hi hs hf hr hQ hy hS h

def listsL (f : List (ByteArray × S24) → S24 → S24 → Bool → Option URes) (fn bare : Bool) : Nat → List (ByteArray × S24) → List S24 → List S24 → Option URes
  | i, mt, x :: la, y :: lb =>
    if i = 0 ∧ bare = false ∧ (x.f0 = 1 ∨ y.f0 = 1) then (if eqM x y then listsL f fn bare (i + 1) mt la lb else some (.stop 8)) else
    match f mt x y (fn && decide (i = 1) && (x.f0 == 3) && (y.f0 == 3)) with
    | none => none
    | some (.stop e) => some (.stop e)
    | some (.ok mt') => listsL f fn bare (i + 1) mt' la lb
  | _, mt, _, _ => some (.ok mt)
def listsM (f : List (ByteArray × S24) → S24 → S24 → Bool → Option URes) (mt : List (ByteArray × S24)) (a b : S24) (bare : Bool) : Option URes :=
  match listsL f (!bare && isFunW (headOf a.f0 a.f3) && isFunW (headOf b.f0 b.f3)) bare 0 mt a.f3 b.f3 with
  | none => none
  | some (.stop e) => some (.stop e)
  | some (.ok mt') => if a.f3.length = b.f3.length then some (.ok mt') else some (.stop 8)
def isVar (vs : List ByteArray) (x : S24) (bare : Bool) : Bool := !bare && (x.f0 == 1) && decide (x.f2 ∈ vs)
def unifyM (vs : List ByteArray) : Nat → List (ByteArray × S24) → S24 → S24 → Bool → Option URes
  | 0, _, _, _, _ => none
  | n + 1, mt, a, b, bare =>
    match (if bare then some a else knownM vs mt n a), (if bare then some b else knownM vs mt n b) with
    | some a', some b' =>
      if isVar vs a' bare && isVar vs b' bare && (a'.f2.toList == b'.f2.toList) then some (.ok mt) else
      if isVar vs a' bare then bindM vs mt n a'.f2 b' else
      if isVar vs b' bare then bindM vs mt n b'.f2 a' else
      if a'.f0 ≠ 3 ∨ b'.f0 ≠ 3 then (if eqM a' b' then some (.ok mt) else some (.stop 8)) else
      listsM (unifyM vs n) mt a' b' bare
    | _, _ => none

def UniOk (vs : List ByteArray) (n : Nat) : Prop :=
  ∀ (W0 w : World) (base sp vb tb : Nat) (mt : List (ByteArray × S24)) (mtv : List (ByteArray × Value)) (a b : S24) (bare : Bool) (A B : Option Addr) (c d : Nat) (R : URes), SolvAt base w sp vb tb (varsV vs) mtv → ToAt W0 mt mtv →
    Below W0.heap.size W0 w → W0.heap.size ≤ base → Kd.C k24 W0 A a.f3.length a.f3 → a.f3.length ≤ c → wid a < 9000000 → Kd.C k24 W0 B b.f3.length b.f3 → b.f3.length ≤ d → wid b < 9000000 → unifyM vs n mt a b bare = some R →
    Calls Tryz.prog 55 #[.pointer (some ⟨sp, 0, none⟩), formV a.f0 a.f1 a.f2 A a.f3.length c, formV b.f0 b.f1 b.f2 B b.f3.length d, .bool bare] w (UPost W0 w base sp vb tb vs R)

theorem UPost.from {W0 w w1 w' : World} {base sp vb tb : Nat} {vs : List ByteArray} {R : URes} {e : Ending} (h : UPost W0 w1 base sp vb tb vs R e w') (hg : w.grownBy w1 (some tb)) : UPost W0 w base sp vb tb vs R e w' := by
  cases R with
  | ok mt => exact ⟨h.1, hg.trans h.2.1, h.2.2⟩
  | stop n => exact ⟨h.1, hg.trans h.2⟩
def ListsOk (vs : List ByteArray) (n : Nat) : Prop :=
  ∀ (W0 w : World) (base sp vb tb : Nat) (mt : List (ByteArray × S24)) (mtv : List (ByteArray × Value)) (a b : S24) (bare : Bool) (A B : Option Addr) (c d : Nat) (R : URes), SolvAt base w sp vb tb (varsV vs) mtv → ToAt W0 mt mtv →
    Below W0.heap.size W0 w → W0.heap.size ≤ base → Kd.C k24 W0 A a.f3.length a.f3 → a.f3.length ≤ c → wid a < 9000000 → Kd.C k24 W0 B b.f3.length b.f3 → b.f3.length ≤ d → wid b < 9000000 → listsM (unifyM vs n) mt a b bare = some R →
    Calls Tryz.prog 97 #[.pointer (some ⟨sp, 0, none⟩), formV a.f0 a.f1 a.f2 A a.f3.length c, formV b.f0 b.f1 b.f2 B b.f3.length d, .bool bare] w (UPost W0 w base sp vb tb vs R)

set_option maxRecDepth 100000 in
set_option maxHeartbeats 4000000 in
theorem unify_x (vs : List ByteArray) (n : Nat) (W0 w : World) (base sp vb tb : Nat) (mt : List (ByteArray × S24)) (mtv : List (ByteArray × Value)) (a b : S24) (A B : Option Addr) (c d : Nat) (a' b' : S24) (hs : SolvAt base w sp vb tb (varsV vs) mtv) (ht : ToAt W0 mt mtv)
    (hw : Below W0.heap.size W0 w) (hb : W0.heap.size ≤ base) (ha1 : Kd.C k24 W0 A a.f3.length a.f3) (ha2 : a.f3.length ≤ c) (ha3 : wid a < 9000000) (hb1 : Kd.C k24 W0 B b.f3.length b.f3) (hb2 : b.f3.length ≤ d) (hb3 : wid b < 9000000)
    (hka : knownM vs mt n a = some a') (hkb : knownM vs mt n b = some b') (hL : ListsOk vs n) (R : URes)
    (hk : (if isVar vs a' false && isVar vs b' false && (a'.f2.toList == b'.f2.toList) then some (.ok mt) else if isVar vs a' false then bindM vs mt n a'.f2 b' else if isVar vs b' false then bindM vs mt n b'.f2 a' else
      if a'.f0 ≠ 3 ∨ b'.f0 ≠ 3 then (if eqM a' b' then some (.ok mt) else some (.stop 8)) else listsM (unifyM vs n) mt a' b' false) = some R) :
    Calls Tryz.prog 55 #[.pointer (some ⟨sp, 0, none⟩), formV a.f0 a.f1 a.f2 A a.f3.length c, formV b.f0 b.f1 b.f2 B b.f3.length d, .bool false] w (UPost W0 w base sp vb tb vs R) := by
  have hu24 := Tryz.underlying24
  have KA : Hid (∀ w', Below w.heap.size w w' → Calls Tryz.prog 94 #[.pointer (some ⟨sp, 0, none⟩), formV a.f0 a.f1 a.f2 A a.f3.length c] w' fun e w'' => ∃ u, e = .returned u ∧ FormAt W0 u a' ∧ Below w'.heap.size w' w'') :=
    fun w' h => known_any W0 w' base sp vb tb vs mt mtv (hs.below h) ht (hw.trans (h.mono hw.size)) a A c ha1 ha2 ha3 n a' hka
  have KB : Hid (∀ w', Below w.heap.size w w' → Calls Tryz.prog 94 #[.pointer (some ⟨sp, 0, none⟩), formV b.f0 b.f1 b.f2 B b.f3.length d] w' fun e w'' => ∃ u, e = .returned u ∧ FormAt W0 u b' ∧ Below w'.heap.size w' w'') :=
    fun w' h => known_any W0 w' base sp vb tb vs mt mtv (hs.below h) ht (hw.trans (h.mono hw.size)) b B d hb1 hb2 hb3 n b' hkb
  have HS : Hid _ := hs
  have HT : Hid _ := ht
  have HL : Hid _ := hL
  have HK : Hid _ := hk
  have HW : Hid _ := hw
  have HBs : Hid _ := hb
  clear hs ht ha1 ha3 hb1 hb3 hka hkb hL hk hw hb
  obtain ⟨m0, m1, m2, m3⟩ := a'
  obtain ⟨k0, k1, k2, k3⟩ := b'
  obtain ⟨a0, a1, a2, a3⟩ := a
  obtain ⟨b0, b1, b2, b3⟩ := b
  have hx2 : ((w.alloc (Obj.cells #[.int .i64 a0, .int .i64 a1, .string a2, .slice A a3.length c] 24)).alloc (Obj.cells #[.int .i64 b0, .int .i64 b1, .string b2, .slice B b3.length d] 24)).drew.heap[w.heap.size + 1]? = some (Obj.cells #[.int .i64 b0, .int .i64 b1, .string b2, .slice B b3.length d] 24) := by
    have h := (MapKept.heap_alloc (w.alloc (Obj.cells #[.int .i64 a0, .int .i64 a1, .string a2, .slice A a3.length c] 24)) (Obj.cells #[.int .i64 b0, .int .i64 b1, .string b2, .slice B b3.length d] 24)).1
    rw [size_new] at h
    exact h
  have hx1 : ((w.alloc (Obj.cells #[.int .i64 a0, .int .i64 a1, .string a2, .slice A a3.length c] 24)).alloc (Obj.cells #[.int .i64 b0, .int .i64 b1, .string b2, .slice B b3.length d] 24)).drew.heap[w.heap.size]? = some (Obj.cells #[.int .i64 a0, .int .i64 a1, .string a2, .slice A a3.length c] 24) :=
    (Below.heap_alloc _ _ _ (by rw [size_new]; omega)).trans (MapKept.heap_alloc w _).1
  have hxb : Below w.heap.size w ((w.alloc (Obj.cells #[.int .i64 a0, .int .i64 a1, .string a2, .slice A a3.length c] 24)).alloc (Obj.cells #[.int .i64 b0, .int .i64 b1, .string b2, .slice B b3.length d] 24)).drew := below_drew (below_alloc (below_alloc (Below.refl _ _) _) _)
  have HX1 : Hid _ := hx1
  have HX2 : Hid _ := hx2
  have HXB : Hid _ := hxb
  clear hx1 hx2 hxb
  go_enter Tryz.func55, Tryz.ntmps55
  go_upto_region 2 with fail
  go_cut [] from 12 to 17 (fun wx => Below w.heap.size w wx ∧ ∃ A5 c5 B5 d5, wx.heap[w.heap.size]? = some (.cells #[.int .i64 m0, .int .i64 m1, .string m2, .slice A5 m3.length c5] 24 (0, 0)) ∧
      wx.heap[w.heap.size + 1]? = some (.cells #[.int .i64 k0, .int .i64 k1, .string k2, .slice B5 k3.length d5] 24 (0, 0)) ∧
      Kd.C k24 W0 A5 m3.length m3 ∧ m3.length ≤ c5 ∧ wid ⟨m0, m1, m2, m3⟩ < 9000000 ∧ Kd.C k24 W0 B5 k3.length k3 ∧ k3.length ≤ d5 ∧ wid ⟨k0, k1, k2, k3⟩ < 9000000)
  case first =>
    refine wp_region_held_drew (S := fun _ => True) (by kernel_rfl) trivial (fun hHeld => ?_)
    clear hHeld
    refine takeV 0 (some 12) (.pointer (some ⟨sp, 0, none⟩)) rfl rfl (by kernel_rfl) (by kernel_rfl) (by kernel_rfl) (fun _ _ _ h => h) (Or.inl ⟨by kernel_rfl, fun W hSw => by go_simp⟩) trivial ?_
    try simp only [Act.put, List.setIfInBounds_toArray, List.set_cons_zero, List.set_cons_succ]
    refine takeV 3 (some 15) (.pointer (some ⟨sp, 0, none⟩)) rfl rfl (by kernel_rfl) (by kernel_rfl) (by kernel_rfl) (fun _ _ _ h => h) (Or.inl ⟨by kernel_rfl, fun W hSw => by go_simp⟩) trivial ?_
    try simp only [Act.put, List.setIfInBounds_toArray, List.set_cons_zero, List.set_cons_succ]
    refine wpAnyH_ready (rs := [1, 4]) (by kernel_rfl) (by simp) ?_
    refine AllReadyH.cons rfl (fun K hK => ?_) (AllReadyH.cons rfl (fun K hK => ?_) AllReadyH.nil)
    · skip
      go_simp
      refine hK.out _ _ trivial (fun hHeld => ?_)
      clear hK K hHeld
      try simp only [Act.put, List.setIfInBounds_toArray, List.set_cons_zero, List.set_cons_succ]
      refine wpAnyH_ready (rs := [2, 4]) (by kernel_rfl) (by simp) ?_
      refine AllReadyH.cons rfl (fun K hK => ?_) (AllReadyH.cons rfl (fun K hK => ?_) AllReadyH.nil)
      · skip
        go_simp
        go_at_call 94
        refine Calls.mono (KA.out _ HXB.out) ?_
        rintro e wA ⟨uA, rfl, ⟨A5, c5, rfl, u1, u2, u3⟩, BA⟩
        have haA := (BA.block _ (Array.getElem?_eq_some_iff.1 HX1.out).1).trans HX1.out
        have hbA := (BA.block _ (Array.getElem?_eq_some_iff.1 HX2.out).1).trans HX2.out
        obtain ⟨q0, q1, q2, q3⟩ := cells4 hbA
        have BwA : Hid _ := below_after HXB.out BA
        have HA1 : Hid _ := haA
        have HA2 : Hid _ := hbA
        have U1 : Hid _ := u1
        clear BA haA hbA u1
        go_wp2_with fail
        refine hK.out _ _ trivial (fun hHeld => ?_)
        clear hK K hHeld
        try simp only [Act.put, List.setIfInBounds_toArray, List.set_cons_zero, List.set_cons_succ]
        refine wpAnyH_ready (rs := [4]) (by kernel_rfl) (by simp) ?_
        refine AllReadyH.cons rfl (fun K hK => ?_) AllReadyH.nil
        go_simp
        refine hK.out _ _ trivial (fun hHeld => ?_)
        clear hK K hHeld
        try simp only [Act.put, List.setIfInBounds_toArray, List.set_cons_zero, List.set_cons_succ]
        refine wpAnyH_ready (rs := [5]) (by kernel_rfl) (by simp) ?_
        refine AllReadyH.cons rfl (fun K hK => ?_) AllReadyH.nil
        go_simp
        go_at_call 94
        refine Calls.mono (KB.out _ BwA.out) ?_
        rintro e wB ⟨uB, rfl, ⟨B5, d5, rfl, v1, v2, v3⟩, BB⟩
        have haB := (BB.block _ (Array.getElem?_eq_some_iff.1 HA1.out).1).trans HA1.out
        have hbB := (BB.block _ (Array.getElem?_eq_some_iff.1 HA2.out).1).trans HA2.out
        obtain ⟨s0, s1, s2, s3⟩ := cells4 haB
        obtain ⟨t0, t1, t2, t3⟩ := cells4 hbB
        have f0 := frozen4 (i := 0) haB
        have f1 := frozen4 (i := 1) haB
        have f2 := frozen4 (i := 2) haB
        have f3 := frozen4 (i := 3) haB
        have g0 := frozen4 (i := 0) hbB
        have g1 := frozen4 (i := 1) hbB
        have g2 := frozen4 (i := 2) hbB
        have g3 := frozen4 (i := 3) hbB
        have BwB : Hid _ := below_after BwA.out BB
        have HB1 : Hid _ := haB
        have HB2 : Hid _ := hbB
        have V1 : Hid _ := v1
        clear BB haB hbB v1 q0 q1 q2 q3
        go_wp2_with fail
        refine hK.out _ _ trivial (fun hHeld => ?_)
        clear hK K hHeld
        try simp only [Act.put, List.setIfInBounds_toArray, List.set_cons_zero, List.set_cons_succ]
        refine wpAnyH_ready (rs := [6]) (by kernel_rfl) (by simp) ?_
        refine AllReadyH.cons rfl (fun K hK => ?_) AllReadyH.nil
        go_simp
        refine hK.out _ _ trivial (fun hHeld => ?_)
        clear hK K hHeld
        try simp only [Act.put, List.setIfInBounds_toArray, List.set_cons_zero, List.set_cons_succ]
        refine wpAnyH_ready (rs := [7]) (by kernel_rfl) (by simp) ?_
        refine AllReadyH.cons rfl (fun K hK => ?_) AllReadyH.nil
        go_simp
        refine hK.out _ _ trivial (fun hHeld => ?_)
        clear hK K hHeld
        try simp only [Act.put, List.setIfInBounds_toArray, List.set_cons_zero, List.set_cons_succ]
        refine wpAnyH_done (by kernel_rfl) ?_ _
        go_wp2_with fail
        go_meet
        case rel => exact ⟨below4 (below4 BwB.out (Nat.le_refl _)) (by omega), A5, c5, B5, d5, (stay4 (by omega)).trans (set4 HB1.out), set4 ((stay4 (by omega)).trans HB2.out), U1.out, u2, u3, V1.out, v2, v3⟩
      · skip
        go_simp
        refine hK.out _ _ trivial (fun hHeld => ?_)
        clear hK K hHeld
        try simp only [Act.put, List.setIfInBounds_toArray, List.set_cons_zero, List.set_cons_succ]
        refine wpAnyH_ready (rs := [2]) (by kernel_rfl) (by simp) ?_
        refine AllReadyH.cons rfl (fun K hK => ?_) AllReadyH.nil
        go_simp
        go_at_call 94
        refine Calls.mono (KA.out _ HXB.out) ?_
        rintro e wA ⟨uA, rfl, ⟨A5, c5, rfl, u1, u2, u3⟩, BA⟩
        have haA := (BA.block _ (Array.getElem?_eq_some_iff.1 HX1.out).1).trans HX1.out
        have hbA := (BA.block _ (Array.getElem?_eq_some_iff.1 HX2.out).1).trans HX2.out
        obtain ⟨q0, q1, q2, q3⟩ := cells4 hbA
        have BwA : Hid _ := below_after HXB.out BA
        have HA1 : Hid _ := haA
        have HA2 : Hid _ := hbA
        have U1 : Hid _ := u1
        clear BA haA hbA u1
        go_wp2_with fail
        refine hK.out _ _ trivial (fun hHeld => ?_)
        clear hK K hHeld
        try simp only [Act.put, List.setIfInBounds_toArray, List.set_cons_zero, List.set_cons_succ]
        refine wpAnyH_ready (rs := [5]) (by kernel_rfl) (by simp) ?_
        refine AllReadyH.cons rfl (fun K hK => ?_) AllReadyH.nil
        go_simp
        go_at_call 94
        refine Calls.mono (KB.out _ BwA.out) ?_
        rintro e wB ⟨uB, rfl, ⟨B5, d5, rfl, v1, v2, v3⟩, BB⟩
        have haB := (BB.block _ (Array.getElem?_eq_some_iff.1 HA1.out).1).trans HA1.out
        have hbB := (BB.block _ (Array.getElem?_eq_some_iff.1 HA2.out).1).trans HA2.out
        obtain ⟨s0, s1, s2, s3⟩ := cells4 haB
        obtain ⟨t0, t1, t2, t3⟩ := cells4 hbB
        have f0 := frozen4 (i := 0) haB
        have f1 := frozen4 (i := 1) haB
        have f2 := frozen4 (i := 2) haB
        have f3 := frozen4 (i := 3) haB
        have g0 := frozen4 (i := 0) hbB
        have g1 := frozen4 (i := 1) hbB
        have g2 := frozen4 (i := 2) hbB
        have g3 := frozen4 (i := 3) hbB
        have BwB : Hid _ := below_after BwA.out BB
        have HB1 : Hid _ := haB
        have HB2 : Hid _ := hbB
        have V1 : Hid _ := v1
        clear BB haB hbB v1 q0 q1 q2 q3
        go_wp2_with fail
        refine hK.out _ _ trivial (fun hHeld => ?_)
        clear hK K hHeld
        try simp only [Act.put, List.setIfInBounds_toArray, List.set_cons_zero, List.set_cons_succ]
        refine wpAnyH_ready (rs := [6]) (by kernel_rfl) (by simp) ?_
        refine AllReadyH.cons rfl (fun K hK => ?_) AllReadyH.nil
        go_simp
        refine hK.out _ _ trivial (fun hHeld => ?_)
        clear hK K hHeld
        try simp only [Act.put, List.setIfInBounds_toArray, List.set_cons_zero, List.set_cons_succ]
        refine wpAnyH_ready (rs := [7]) (by kernel_rfl) (by simp) ?_
        refine AllReadyH.cons rfl (fun K hK => ?_) AllReadyH.nil
        go_simp
        refine hK.out _ _ trivial (fun hHeld => ?_)
        clear hK K hHeld
        try simp only [Act.put, List.setIfInBounds_toArray, List.set_cons_zero, List.set_cons_succ]
        refine wpAnyH_done (by kernel_rfl) ?_ _
        go_wp2_with fail
        go_meet
        case rel => exact ⟨below4 (below4 BwB.out (Nat.le_refl _)) (by omega), A5, c5, B5, d5, (stay4 (by omega)).trans (set4 HB1.out), set4 ((stay4 (by omega)).trans HB2.out), U1.out, u2, u3, V1.out, v2, v3⟩
    · skip
      go_simp
      refine hK.out _ _ trivial (fun hHeld => ?_)
      clear hK K hHeld
      try simp only [Act.put, List.setIfInBounds_toArray, List.set_cons_zero, List.set_cons_succ]
      refine wpAnyH_ready (rs := [1]) (by kernel_rfl) (by simp) ?_
      refine AllReadyH.cons rfl (fun K hK => ?_) AllReadyH.nil
      go_simp
      refine hK.out _ _ trivial (fun hHeld => ?_)
      clear hK K hHeld
      try simp only [Act.put, List.setIfInBounds_toArray, List.set_cons_zero, List.set_cons_succ]
      refine wpAnyH_ready (rs := [2]) (by kernel_rfl) (by simp) ?_
      refine AllReadyH.cons rfl (fun K hK => ?_) AllReadyH.nil
      go_simp
      go_at_call 94
      refine Calls.mono (KA.out _ HXB.out) ?_
      rintro e wA ⟨uA, rfl, ⟨A5, c5, rfl, u1, u2, u3⟩, BA⟩
      have haA := (BA.block _ (Array.getElem?_eq_some_iff.1 HX1.out).1).trans HX1.out
      have hbA := (BA.block _ (Array.getElem?_eq_some_iff.1 HX2.out).1).trans HX2.out
      obtain ⟨q0, q1, q2, q3⟩ := cells4 hbA
      have BwA : Hid _ := below_after HXB.out BA
      have HA1 : Hid _ := haA
      have HA2 : Hid _ := hbA
      have U1 : Hid _ := u1
      clear BA haA hbA u1
      go_wp2_with fail
      refine hK.out _ _ trivial (fun hHeld => ?_)
      clear hK K hHeld
      try simp only [Act.put, List.setIfInBounds_toArray, List.set_cons_zero, List.set_cons_succ]
      refine wpAnyH_ready (rs := [5]) (by kernel_rfl) (by simp) ?_
      refine AllReadyH.cons rfl (fun K hK => ?_) AllReadyH.nil
      go_simp
      go_at_call 94
      refine Calls.mono (KB.out _ BwA.out) ?_
      rintro e wB ⟨uB, rfl, ⟨B5, d5, rfl, v1, v2, v3⟩, BB⟩
      have haB := (BB.block _ (Array.getElem?_eq_some_iff.1 HA1.out).1).trans HA1.out
      have hbB := (BB.block _ (Array.getElem?_eq_some_iff.1 HA2.out).1).trans HA2.out
      obtain ⟨s0, s1, s2, s3⟩ := cells4 haB
      obtain ⟨t0, t1, t2, t3⟩ := cells4 hbB
      have f0 := frozen4 (i := 0) haB
      have f1 := frozen4 (i := 1) haB
      have f2 := frozen4 (i := 2) haB
      have f3 := frozen4 (i := 3) haB
      have g0 := frozen4 (i := 0) hbB
      have g1 := frozen4 (i := 1) hbB
      have g2 := frozen4 (i := 2) hbB
      have g3 := frozen4 (i := 3) hbB
      have BwB : Hid _ := below_after BwA.out BB
      have HB1 : Hid _ := haB
      have HB2 : Hid _ := hbB
      have V1 : Hid _ := v1
      clear BB haB hbB v1 q0 q1 q2 q3
      go_wp2_with fail
      refine hK.out _ _ trivial (fun hHeld => ?_)
      clear hK K hHeld
      try simp only [Act.put, List.setIfInBounds_toArray, List.set_cons_zero, List.set_cons_succ]
      refine wpAnyH_ready (rs := [6]) (by kernel_rfl) (by simp) ?_
      refine AllReadyH.cons rfl (fun K hK => ?_) AllReadyH.nil
      go_simp
      refine hK.out _ _ trivial (fun hHeld => ?_)
      clear hK K hHeld
      try simp only [Act.put, List.setIfInBounds_toArray, List.set_cons_zero, List.set_cons_succ]
      refine wpAnyH_ready (rs := [7]) (by kernel_rfl) (by simp) ?_
      refine AllReadyH.cons rfl (fun K hK => ?_) AllReadyH.nil
      go_simp
      refine hK.out _ _ trivial (fun hHeld => ?_)
      clear hK K hHeld
      try simp only [Act.put, List.setIfInBounds_toArray, List.set_cons_zero, List.set_cons_succ]
      refine wpAnyH_done (by kernel_rfl) ?_ _
      go_wp2_with fail
      go_meet
      case rel => exact ⟨below4 (below4 BwB.out (Nat.le_refl _)) (by omega), A5, c5, B5, d5, (stay4 (by omega)).trans (set4 HB1.out), set4 ((stay4 (by omega)).trans HB2.out), U1.out, u2, u3, V1.out, v2, v3⟩
  case rest =>
    obtain ⟨hB, A5, c5, B5, d5, hx, hy, u1, u2, u3, v1, v2, v3⟩ := hcut
    obtain ⟨p0, p1, p2, p3⟩ := cells4 hx
    obtain ⟨q0, q1, q2, q3⟩ := cells4 hy
    have S2 := HS.out.below hB
    have c0 := S2.c0
    have ra := fun m => look_drewN S2 m2 m
    have rb := fun m => look_drewN S2 k2 m
    have HBw : Hid _ := hB
    have HX : Hid _ := hx
    have HY : Hid _ := hy
    have SS : Hid _ := S2
    have U1 : Hid _ := u1
    have V1 : Hid _ := v1
    clear hB hx hy S2 u1 v1
    obtain ⟨va, hva0⟩ : ∃ va, va = isVar vs ⟨m0, m1, m2, m3⟩ false := ⟨_, rfl⟩
    obtain ⟨vb', hvb0⟩ : ∃ vb', vb' = isVar vs ⟨k0, k1, k2, k3⟩ false := ⟨_, rfl⟩
    have hva : Hid _ := hva0
    have hvb : Hid _ := hvb0
    clear hva0 hvb0
    go_upto_region 3 with fail
    go_cut [8, 9] from 18 to 49 (fun x8 x9 wx => x8 = .bool va ∧ x9 = .bool vb' ∧ Below w.heap.size w wx ∧ wx.heap[w.heap.size]? = some (.cells #[.int .i64 m0, .int .i64 m1, .string m2, .slice A5 m3.length c5] 24 (0, 0)) ∧
      wx.heap[w.heap.size + 1]? = some (.cells #[.int .i64 k0, .int .i64 k1, .string k2, .slice B5 k3.length d5] 24 (0, 0)))
    case first =>
      by_cases ha0 : m0 = 1
      · subst ha0
        cases ham : decide (m2 ∈ vs) with
        | false =>
          simp only [ham] at ra
          have han : m2 ∉ vs := of_decide_eq_false ham
          obtain rfl : va = false := by rw [hva.out]; simp [isVar, han]
          clear ham han
          by_cases hb0 : k0 = 1
          · subst hb0
            cases hbm : decide (k2 ∈ vs) with
            | false =>
              simp only [hbm] at rb
              have hbn : k2 ∉ vs := of_decide_eq_false hbm
              obtain rfl : vb' = false := by rw [hvb.out]; simp [isVar, hbn]
              clear hbm hbn
              go_big_quiet (fail)
              go_wp2_with fail
              go_meet
              case rel => exact ⟨rfl, rfl, pw_below_drewN HBw.out nq, (heap_drewN _ _ _).trans HX.out, (heap_drewN _ _ _).trans HY.out⟩
            | true =>
              simp only [hbm] at rb
              have hbn : k2 ∈ vs := of_decide_eq_true hbm
              obtain rfl : vb' = true := by rw [hvb.out]; simp [isVar, hbn]
              clear hbm hbn
              go_big_quiet (fail)
              go_wp2_with fail
              go_meet
              case rel => exact ⟨rfl, rfl, pw_below_drewN HBw.out nq, (heap_drewN _ _ _).trans HX.out, (heap_drewN _ _ _).trans HY.out⟩
          · have bb : (k0 == 1) = false := beq_eq_false_iff_ne.mpr hb0
            obtain rfl : vb' = false := by rw [hvb.out]; simp [isVar, hb0]
            clear hb0
            go_big_quiet (fail)
            go_wp2_with fail
            go_meet
            case rel => exact ⟨rfl, rfl, pw_below_drewN HBw.out nq, (heap_drewN _ _ _).trans HX.out, (heap_drewN _ _ _).trans HY.out⟩
        | true =>
          simp only [ham] at ra
          have han : m2 ∈ vs := of_decide_eq_true ham
          obtain rfl : va = true := by rw [hva.out]; simp [isVar, han]
          clear ham han
          by_cases hb0 : k0 = 1
          · subst hb0
            cases hbm : decide (k2 ∈ vs) with
            | false =>
              simp only [hbm] at rb
              have hbn : k2 ∉ vs := of_decide_eq_false hbm
              obtain rfl : vb' = false := by rw [hvb.out]; simp [isVar, hbn]
              clear hbm hbn
              go_big_quiet (fail)
              go_wp2_with fail
              go_meet
              case rel => exact ⟨rfl, rfl, pw_below_drewN HBw.out nq, (heap_drewN _ _ _).trans HX.out, (heap_drewN _ _ _).trans HY.out⟩
            | true =>
              simp only [hbm] at rb
              have hbn : k2 ∈ vs := of_decide_eq_true hbm
              obtain rfl : vb' = true := by rw [hvb.out]; simp [isVar, hbn]
              clear hbm hbn
              go_big_quiet (fail)
              go_wp2_with fail
              go_meet
              case rel => exact ⟨rfl, rfl, pw_below_drewN HBw.out nq, (heap_drewN _ _ _).trans HX.out, (heap_drewN _ _ _).trans HY.out⟩
          · have bb : (k0 == 1) = false := beq_eq_false_iff_ne.mpr hb0
            obtain rfl : vb' = false := by rw [hvb.out]; simp [isVar, hb0]
            clear hb0
            go_big_quiet (fail)
            go_wp2_with fail
            go_meet
            case rel => exact ⟨rfl, rfl, pw_below_drewN HBw.out nq, (heap_drewN _ _ _).trans HX.out, (heap_drewN _ _ _).trans HY.out⟩
      · have ab : (m0 == 1) = false := beq_eq_false_iff_ne.mpr ha0
        obtain rfl : va = false := by rw [hva.out]; simp [isVar, ha0]
        clear ha0
        by_cases hb0 : k0 = 1
        · subst hb0
          cases hbm : decide (k2 ∈ vs) with
          | false =>
            simp only [hbm] at rb
            have hbn : k2 ∉ vs := of_decide_eq_false hbm
            obtain rfl : vb' = false := by rw [hvb.out]; simp [isVar, hbn]
            clear hbm hbn
            go_big_quiet (fail)
            go_wp2_with fail
            go_meet
            case rel => exact ⟨rfl, rfl, pw_below_drewN HBw.out nq, (heap_drewN _ _ _).trans HX.out, (heap_drewN _ _ _).trans HY.out⟩
          | true =>
            simp only [hbm] at rb
            have hbn : k2 ∈ vs := of_decide_eq_true hbm
            obtain rfl : vb' = true := by rw [hvb.out]; simp [isVar, hbn]
            clear hbm hbn
            go_big_quiet (fail)
            go_wp2_with fail
            go_meet
            case rel => exact ⟨rfl, rfl, pw_below_drewN HBw.out nq, (heap_drewN _ _ _).trans HX.out, (heap_drewN _ _ _).trans HY.out⟩
        · have bb : (k0 == 1) = false := beq_eq_false_iff_ne.mpr hb0
          obtain rfl : vb' = false := by rw [hvb.out]; simp [isVar, hb0]
          clear hb0
          go_big_quiet (fail)
          go_wp2_with fail
          go_meet
          case rel => exact ⟨rfl, rfl, pw_below_drewN HBw.out nq, (heap_drewN _ _ _).trans HX.out, (heap_drewN _ _ _).trans HY.out⟩
    case rest =>
      obtain ⟨rfl, rfl, hB, hx, hy⟩ := hcut
      obtain ⟨p0, p1, p2, p3⟩ := cells4 hx
      obtain ⟨q0, q1, q2, q3⟩ := cells4 hy
      have G : Hid (w.grownBy wc (some tb)) := grown_of_below hB (some tb)
      have S3 : Hid _ := HS.out.below hB
      have W3 : Hid (Below W0.heap.size W0 wc) := HW.out.trans (hB.mono HW.out.size)
      have hK := HK.out
      rw [← hva.out, ← hvb.out] at hK
      clear hx hy hB ra rb HX HY HBw SS
      cases va with
      | true =>
        cases vb' with
        | true =>
          cases hte : (m2.toList == k2.toList) with
          | true =>
            simp only [hte, Bool.and_true, Bool.true_and, if_true, Option.some.injEq] at hK
            subst hK
            go_wp2_with fail
            go_end0
            exact ⟨rfl, G.out, mtv, S3.out, HT.out⟩
          | false =>
            simp only [hte, Bool.and_false, Bool.false_eq_true, if_false, if_true] at hK
            have BI : Hid _ := bind_any W0 wc base sp vb tb vs mt mtv S3.out HT.out W3.out m2 ⟨k0, k1, k2, k3⟩ B5 d5 V1.out v2 v3 n R hK
            clear hK
            go_wp2_with fail
            refine Calls.mono BI.out ?_
            rintro e w5 h5
            have h6 := h5.from G.out
            clear h5
            cases R with
            | ok mt2 =>
              obtain ⟨rfl, h7⟩ := h6
              have H7 : Hid _ := h7
              clear h7
              go_wp2_with fail
              go_end0
              exact ⟨rfl, H7.out⟩
            | stop e2 =>
              obtain ⟨rfl, h7⟩ := h6
              have H7 : Hid _ := h7
              clear h7
              go_wp2_with fail
              exact ⟨rfl, rfl, H7.out⟩
        | false =>
          simp only [Bool.and_false, Bool.false_and, Bool.false_eq_true, if_false, if_true] at hK
          have BI : Hid _ := bind_any W0 wc base sp vb tb vs mt mtv S3.out HT.out W3.out m2 ⟨k0, k1, k2, k3⟩ B5 d5 V1.out v2 v3 n R hK
          clear hK
          go_wp2_with fail
          refine Calls.mono BI.out ?_
          rintro e w5 h5
          have h6 := h5.from G.out
          clear h5
          cases R with
          | ok mt2 =>
            obtain ⟨rfl, h7⟩ := h6
            have H7 : Hid _ := h7
            clear h7
            go_wp2_with fail
            go_end0
            exact ⟨rfl, H7.out⟩
          | stop e2 =>
            obtain ⟨rfl, h7⟩ := h6
            have H7 : Hid _ := h7
            clear h7
            go_wp2_with fail
            exact ⟨rfl, rfl, H7.out⟩
      | false =>
        cases vb' with
        | true =>
          simp only [Bool.false_and, Bool.false_eq_true, if_false, if_true] at hK
          have BI : Hid _ := bind_any W0 wc base sp vb tb vs mt mtv S3.out HT.out W3.out k2 ⟨m0, m1, m2, m3⟩ A5 c5 U1.out u2 u3 n R hK
          clear hK
          go_wp2_with fail
          refine Calls.mono BI.out ?_
          rintro e w5 h5
          have h6 := h5.from G.out
          clear h5
          cases R with
          | ok mt2 =>
            obtain ⟨rfl, h7⟩ := h6
            have H7 : Hid _ := h7
            clear h7
            go_wp2_with fail
            go_end0
            exact ⟨rfl, H7.out⟩
          | stop e2 =>
            obtain ⟨rfl, h7⟩ := h6
            have H7 : Hid _ := h7
            clear h7
            go_wp2_with fail
            exact ⟨rfl, rfl, H7.out⟩
        | false =>
          simp only [Bool.false_and, Bool.false_eq_true, if_false] at hK
          by_cases h33 : m0 = 3 ∧ k0 = 3
          · obtain ⟨e3, e4⟩ := h33
            subst e3
            subst e4
            rw [if_neg (by simp)] at hK
            have BI : Hid _ := HL.out W0 wc base sp vb tb mt mtv ⟨3, m1, m2, m3⟩ ⟨3, k1, k2, k3⟩ false A5 B5 c5 d5 R S3.out HT.out W3.out HBs.out U1.out u2 u3 V1.out v2 v3 hK
            clear hK
            go_wp2_with fail
            refine Calls.mono BI.out ?_
            rintro e w5 h5
            have h6 := h5.from G.out
            clear h5
            cases R with
            | ok mt2 =>
              obtain ⟨rfl, h7⟩ := h6
              have H7 : Hid _ := h7
              clear h7
              go_wp2_with fail
              go_end0
              exact ⟨rfl, H7.out⟩
            | stop e2 =>
              obtain ⟨rfl, h7⟩ := h6
              have H7 : Hid _ := h7
              clear h7
              go_wp2_with fail
              exact ⟨rfl, rfl, H7.out⟩
          · rw [if_pos (by rcases Classical.em (m0 = 3) with h | h; exact .inr (fun h2 => h33 ⟨h, h2⟩); exact .inl h)] at hK
            have EQ : Hid _ := Equal_any ⟨m0, m1, m2, m3⟩ ⟨k0, k1, k2, k3⟩ A5 B5 c5 d5 wc (Kd.C_below U1.out W3.out) u2 (Kd.C_below V1.out W3.out) v2 u3 v3
            obtain ⟨q, hq⟩ : ∃ q, q = eqM ⟨m0, m1, m2, m3⟩ ⟨k0, k1, k2, k3⟩ := ⟨_, rfl⟩
            rw [← hq] at hK EQ
            clear hq
            have b33 : (m0 != 3) = true ∨ (m0 != 3) = false ∧ (k0 != 3) = true := by
              by_cases h : m0 = 3
              · exact .inr ⟨by simp [h], by simp; exact fun h2 => h33 ⟨h, h2⟩⟩
              · exact .inl (by simp [h])
            clear h33
            rcases b33 with b3 | ⟨b3, b4⟩
            · cases q with
              | true =>
                simp only [if_true, Option.some.injEq] at hK
                subst hK
                go_wp2_with fail
                refine Calls.mono EQ.out ?_
                rintro e w5 ⟨rfl, B5'⟩
                have S5 : Hid _ := S3.out.below B5'
                have G5 : Hid _ := G.out.trans (grown_of_below B5' (some tb))
                clear B5'
                go_wp2_with fail
                go_end0
                exact ⟨rfl, G5.out, mtv, S5.out, HT.out⟩
              | false =>
                simp only [Bool.false_eq_true, if_false, Option.some.injEq] at hK
                subst hK
                go_wp2_with fail
                refine Calls.mono EQ.out ?_
                rintro e w5 ⟨rfl, B5'⟩
                have G5 : Hid _ := G.out.trans (grown_of_below B5' (some tb))
                clear B5'
                go_wp2_with fail
                exact ⟨rfl, rfl, G5.out⟩
            · cases q with
              | true =>
                simp only [if_true, Option.some.injEq] at hK
                subst hK
                go_wp2_with fail
                refine Calls.mono EQ.out ?_
                rintro e w5 ⟨rfl, B5'⟩
                have S5 : Hid _ := S3.out.below B5'
                have G5 : Hid _ := G.out.trans (grown_of_below B5' (some tb))
                clear B5'
                go_wp2_with fail
                go_end0
                exact ⟨rfl, G5.out, mtv, S5.out, HT.out⟩
              | false =>
                simp only [Bool.false_eq_true, if_false, Option.some.injEq] at hK
                subst hK
                go_wp2_with fail
                refine Calls.mono EQ.out ?_
                rintro e w5 ⟨rfl, B5'⟩
                have G5 : Hid _ := G.out.trans (grown_of_below B5' (some tb))
                clear B5'
                go_wp2_with fail
                exact ⟨rfl, rfl, G5.out⟩

end Go.Proofs.YtcjmplpfebpfpaaGreatDoor

namespace Go.Proofs.YtcjmplpfebpfpaaGreatDoor
open Go.RowKit Go.Proofs Go.Proofs.YtcjmplpfebpfpaaGreatDoorW.PrintWords Go.Proofs.YtcjmplpfebpfpaaGreatDoorW.PrintLast Go.Proofs.YtcjmplpfebpfpaaGreatDoorW.PrintMore PKindInstances
set_option linter.unusedVariables false
set_option linter.unusedSimpArgs false

/-- The types within a form that has a type's shape. -/
def partsM (x : S24) : List S24 :=
  if x.f0 = 3 then (if headL x.f3 = bitsB then [] else if headL x.f3 = funB then (match x.f3 with | [_, k1, k2] => k1.f3 ++ [k2] | _ => []) else x.f3.drop 1) else []
theorem shape_fun {l : List S24} (h : shapeH funB l = true) : ∃ k0 k1 k2, l = [k0, k1, k2] ∧ k1.f0 = 3 := by
  by_cases hl : (l.length : Int) = 2 + 1
  · rw [shapeH_yes (l := l) (m := 2) (by simp [manyM, bitsB, seqB, setB, bagB, maybeB, mapB, imapB, funB]) (by simp [ByteArray.toList_eq, funB]) hl] at h
    match l, hl with
    | [k0, k1, k2], _ =>
      refine ⟨k0, k1, k2, rfl, ?_⟩
      simpa [bitsB, maybeB, funB, kindAt] using h
  · rw [shapeH_no (l := l) (m := 2) (by simp [manyM, bitsB, seqB, setB, bagB, maybeB, mapB, imapB, funB]) hl] at h
    cases h
/-- A list of a type's shape has a head and more. -/
theorem shape_list {l : List S24} (h : shapeH (headL l) l = true) : (headL l).toList ≠ [] ∧ 2 ≤ l.length := by
  unfold shapeH at h
  split at h
  · cases h
  · rename_i hn
    refine ⟨fun e => hn (.inr (.inr e)), ?_⟩
    cases hm : manyM (headL l) with
    | none => rw [hm] at h; simp only [] at h; have := of_decide_eq_true h; omega
    | some m =>
      rw [hm] at h
      simp only [] at h
      split at h
      · rename_i hl
        have : 1 ≤ m := by
          unfold manyM at hm
          repeat (split at hm; · (obtain rfl := Option.some.inj hm; decide))
          cases hm
        omega
      · cases h
theorem types_cut_drop {w : World} {ad : Addr} {l : List S24} {c : Nat} (hr : Kd.C k24 w (some ad) l.length l) (h2 : 2 ≤ l.length) (hc : l.length ≤ c) :
    ∃ A' c', Value.slice (some ⟨ad.block, ad.off + 4, none⟩) (l.length - 1) (c - 1) = .slice A' (l.drop 1).length c' ∧ Kd.C k24 w A' (l.drop 1).length (l.drop 1) ∧ (l.drop 1).length ≤ c' := by
  match l, h2 with
  | k :: r, h2 =>
    obtain ⟨A, c', e, h1, h3⟩ := types_cut hr hc rfl (by simp only [List.length_cons] at h2 hc; omega)
    exact ⟨A, c', e, h1, h3⟩
theorem below_grown_none {w W w1 : World} (h : Below w.heap.size w W) (hg : W.grownBy w1 none) : Below w.heap.size w w1 :=
  ⟨hg.os.trans h.os, hg.tape.trans h.tape, hg.output.trans h.output, Nat.le_trans h.size hg.size, fun k hk => (hg.block k (Nat.lt_of_lt_of_le hk h.size) (by simp)).trans (h.block k hk)⟩
theorem below_grown1' {w W w1 : World} {row : Option Nat} (h : Below w.heap.size w W) (hg : W.grownBy w1 row) (hb : ∀ k, row = some k → w.heap.size ≤ k) : Below w.heap.size w w1 :=
  ⟨hg.os.trans h.os, hg.tape.trans h.tape, hg.output.trans h.output, Nat.le_trans h.size hg.size, fun k hk => (hg.block k (Nat.lt_of_lt_of_le hk h.size) (fun he => by have := hb k he.symm; omega)).trans (h.block k hk)⟩
set_option maxRecDepth 100000 in
set_option maxHeartbeats 16000000 in
theorem parts_any (x : S24) (A : Option Addr) (c : Nat) (w : World) (hr : Kd.C k24 w A x.f3.length x.f3) (hc : x.f3.length ≤ c) (hw : wid x < 9000000) (hs : shapedM x = true) :
    Calls Tryz.prog 118 #[formV x.f0 x.f1 x.f2 A x.f3.length c] w fun e w' => ∃ A' c', e = .returned (.slice A' (partsM x).length c') ∧ (partsM x).length ≤ c' ∧ Kd.C k24 w' A' (partsM x).length (partsM x) ∧ Below w.heap.size w w' := by
  have hu24 := Tryz.underlying24
  have hu22 := Tryz.underlying22
  have hll := wids_len x.f3
  have hkw := wid_kids x
  obtain ⟨a, n, s, l⟩ := x
  simp only [] at hr hc hll hkw
  have x1 := (MapKept.heap_alloc w (Obj.cells #[.int .i64 a, .int .i64 n, .string s, .slice A l.length c] 24)).1
  have b1 : Below w.heap.size w (w.alloc (Obj.cells #[.int .i64 a, .int .i64 n, .string s, .slice A l.length c] 24)) := below_alloc (Below.refl _ _) _
  have X1 : Hid _ := x1
  have B1 : Hid _ := b1
  have HR : Hid _ := hr
  by_cases h3 : a = 3
  · subst h3
    have hsh : shapeH (headL l) l = true := by simpa [shapedM, headOf] using hs
    obtain ⟨hne, hl2⟩ := shape_list hsh
    have e : partsM ⟨3, n, s, l⟩ = (if headL l = bitsB then [] else if headL l = funB then (match l with | [_, k1, k2] => k1.f3 ++ [k2] | _ => []) else l.drop 1) := by simp [partsM]
    rw [e]
    have HHD : Hid (∀ W, Below w.heap.size w W → _) := fun W h => Head_three n s c W (Kd.C_below hr h)
    have HSH : Hid _ := hsh
    clear x1 b1 hr hs hsh e
    obtain ⟨h, hh⟩ : ∃ h, h = headL l := ⟨_, rfl⟩
    rw [← hh] at HHD hne ⊢
    have HH : Hid _ := hh
    clear hh
    by_cases hb : h = bitsB
    · subst hb
      unfold bitsB at HHD
      rw [if_pos rfl]
      clear hne
      go_enter Tryz.func118, Tryz.ntmps118
      go_upto_region 1 with fail
      generalize w.alloc (Obj.cells #[.int .i64 3, .int .i64 n, .string s, .slice A l.length c] 24) = X at *
      obtain ⟨p0, p1, p2, p3⟩ := cells4 X1.out
      go_wp2_with fail
      refine Calls.mono (HHD.out _ B1.out) ?_
      rintro e w2 ⟨rfl, B2⟩
      have HB2 : Hid (Below w.heap.size w w2) := below_after B1.out B2
      clear B2
      go_wp2_with fail
      go_ret
      exact ⟨none, 0, rfl, Nat.le_refl _, Kd.C_nil _ _, HB2.out⟩
    · rw [if_neg hb]
      have tb : (h.toList == [98, 105, 116, 115]) = false := beq_eq_false_iff_ne.mpr (fun e => hb (bytes_inj (by rw [e]; simp [ByteArray.toList_eq, bitsB])))
      clear hb
      by_cases hf : h = funB
      · subst hf
        rw [if_pos rfl]
        unfold funB at HHD tb
        obtain ⟨k0, k1, k2, rfl, hk3⟩ := shape_fun (by rw [HH.out]; exact HSH.out)
        simp only []
        clear tb hne
        go_enter Tryz.func118, Tryz.ntmps118
        go_upto_region 1 with fail
        generalize w.alloc (Obj.cells #[.int .i64 3, .int .i64 n, .string s, .slice A [k0, k1, k2].length c] 24) = X at *
        obtain ⟨ad, rfl⟩ : ∃ ad, A = some ad := by
          obtain ⟨ad, e, _⟩ := HR.out.2.2 (by simp)
          exact ⟨ad, e⟩
        have hr3 : Kd.C k24 w (some ad) 3 [k0, k1, k2] := HR.out
        have hc3 : 3 ≤ c := hc
        have X1 : Hid (X.heap[w.heap.size]? = some (.cells #[.int .i64 3, .int .i64 n, .string s, .slice (some ad) 3 c] 24 (0, 0))) := X1
        have hK1 : Hid (k1.f3.length < 9000000) := by have h1 := wids_len k1.f3; have h2 := wid_kids k1; have h3 := wid_mem (show k1 ∈ [k0, k1, k2] by simp); show k1.f3.length < 9000000; omega
        obtain ⟨ad1, A1, c1, e1, g10, g11, g12, g13, hc1, hC1⟩ := row_at hr3 (i := 1) (by omega) (x := k1) rfl
        obtain rfl := Option.some.inj e1
        obtain ⟨ad2, A2, c2, e2, g20, g21, g22, g23, hc2, hC2⟩ := row_at hr3 (i := 2) (by omega) (x := k2) rfl
        obtain rfl := Option.some.inj e2
        rw [hk3] at g10
        have g10 : w.cell? ⟨ad.block, ad.off + 4, none⟩ = some (.int .i64 3) := g10
        have g13 : w.cell? ⟨ad.block, ad.off + 4 + 3, none⟩ = some (.slice A1 k1.f3.length c1) := g13
        have g20 : w.cell? ⟨ad.block, ad.off + 8, none⟩ = some (.int .i64 k2.f0) := g20
        have g21 : w.cell? ⟨ad.block, ad.off + 8 + 1, none⟩ = some (.int .i64 k2.f1) := g21
        have g22 : w.cell? ⟨ad.block, ad.off + 8 + 2, none⟩ = some (.string k2.f2) := g22
        have g23 : w.cell? ⟨ad.block, ad.off + 8 + 3, none⟩ = some (.slice A2 k2.f3.length c2) := g23
        have G1 : Hid (Kd.F k24 w (fun k => k < w.heap.size) A1 k1.f3.length k1.f3) := Kd.C_F k24_heap hC1
        have G2 : Hid (Kd.F k24 w (fun k => k < w.heap.size) A2 k2.f3.length k2.f3) := Kd.C_F k24_heap hC2
        have HC1 : Hid (k1.f3.length ≤ c1) := hc1
        have HC2 : Hid (k2.f3.length ≤ c2) := hc2
        have GO : Hid (∀ W, Below w.heap.size w W → W.cell? ⟨ad.block, ad.off + 4, none⟩ = some (.int .i64 3) ∧ W.cell? ⟨ad.block, ad.off + 4 + 3, none⟩ = some (.slice A1 k1.f3.length c1) ∧ W.cell? ⟨ad.block, ad.off + 8, none⟩ = some (.int .i64 k2.f0) ∧ W.cell? ⟨ad.block, ad.off + 8 + 1, none⟩ = some (.int .i64 k2.f1) ∧ W.cell? ⟨ad.block, ad.off + 8 + 2, none⟩ = some (.string k2.f2) ∧ W.cell? ⟨ad.block, ad.off + 8 + 3, none⟩ = some (.slice A2 k2.f3.length c2)) :=
          fun W h => ⟨pw_cell_below h g10, pw_cell_below h g13, pw_cell_below h g20, pw_cell_below h g21, pw_cell_below h g22, pw_cell_below h g23⟩
        clear g10 g11 g12 g13 g20 g21 g22 g23 hC1 hC2 hc1 hc2 hr3 hk3 e1 e2 HH HSH HR hc hc3 hll hkw
        obtain ⟨p0, p1, p2, p3⟩ := cells4 X1.out
        go_wp2_with fail
        refine Calls.mono (HHD.out _ B1.out) ?_
        rintro e w2 ⟨rfl, B2⟩
        have HB2 : Hid (Below w.heap.size w w2) := below_after B1.out B2
        have x2 := blk_below X1.out B2
        clear p0 p1 p2 p3 B2
        obtain ⟨p0, p1, p2, p3⟩ := cells4 x2
        go_wp2_with fail
        refine Calls.mono (HHD.out _ HB2.out) ?_
        rintro e w3 ⟨rfl, B3⟩
        have HB3 : Hid (Below w.heap.size w w3) := below_after HB2.out B3
        have x3 := blk_below x2 B3
        clear p0 p1 p2 p3 B3 x2
        obtain ⟨p0, p1, p2, p3⟩ := cells4 x3
        obtain ⟨q0, q1, q2, q3, q4, q5⟩ := GO.out _ HB3.out
        go_upto_region 4 with fail
        clear p0 p1 p2 p3 q0 q1 q2 q3 q4 q5
        have X3 : Hid (∀ W, Below w3.heap.size w3 W → W.cell? ⟨w.heap.size, 3, none⟩ = some (.slice (some ad) 3 c) ∧ W.cell? ⟨ad.block, ad.off + 4 + 3, none⟩ = some (.slice A1 k1.f3.length c1) ∧ W.cell? ⟨ad.block, ad.off + 8, none⟩ = some (.int .i64 k2.f0) ∧ W.cell? ⟨ad.block, ad.off + 8 + 1, none⟩ = some (.int .i64 k2.f1) ∧ W.cell? ⟨ad.block, ad.off + 8 + 2, none⟩ = some (.string k2.f2) ∧ W.cell? ⟨ad.block, ad.off + 8 + 3, none⟩ = some (.slice A2 k2.f3.length c2)) := fun W h => by
          obtain ⟨p0, p1, p2, p3⟩ := cells4 (blk_below x3 h)
          obtain ⟨q0, q1, q2, q3, q4, q5⟩ := GO.out W (below_after HB3.out h)
          exact ⟨p3, q1, q2, q3, q4, q5⟩
        clear x3
        refine wp_region_held_drew (S := fun W => W.cell? ⟨w.heap.size, 3, none⟩ = some (.slice (some ad) 3 c) ∧ W.cell? ⟨ad.block, ad.off + 4 + 3, none⟩ = some (.slice A1 k1.f3.length c1) ∧ W.cell? ⟨ad.block, ad.off + 8, none⟩ = some (.int .i64 k2.f0) ∧ W.cell? ⟨ad.block, ad.off + 8 + 1, none⟩ = some (.int .i64 k2.f1) ∧ W.cell? ⟨ad.block, ad.off + 8 + 2, none⟩ = some (.string k2.f2) ∧ W.cell? ⟨ad.block, ad.off + 8 + 3, none⟩ = some (.slice A2 k2.f3.length c2)) (by kernel_rfl) (X3.out _ (below_drew (Below.refl _ _))) (fun hHeld => ?_)
        refine takeV 0 (some 30) (.pointer (some ⟨w.heap.size, 3, none⟩)) rfl rfl (by kernel_rfl) (by kernel_rfl) (by kernel_rfl) (fun _ _ _ h => h) (Or.inl ⟨by kernel_rfl, fun W hSw => by obtain ⟨s0, s1, s2, s3, s4, s5⟩ := hSw; go_simp⟩) hHeld ?_
        try simp only [Act.put, List.setIfInBounds_toArray, List.set_cons_zero, List.set_cons_succ]
        refine takeV 1 (some 31) (.slice (some ad) 3 c) rfl rfl (by kernel_rfl) (by kernel_rfl) (by kernel_rfl) (fun _ _ _ h => h) (Or.inl ⟨by kernel_rfl, fun W hSw => by obtain ⟨s0, s1, s2, s3, s4, s5⟩ := hSw; go_simp⟩) hHeld ?_
        try simp only [Act.put, List.setIfInBounds_toArray, List.set_cons_zero, List.set_cons_succ]
        refine takeV 2 (some 32) (.pointer (some ⟨ad.block, ad.off + 4, none⟩)) rfl rfl (by kernel_rfl) (by kernel_rfl) (by kernel_rfl) (fun _ _ _ h => h) (Or.inl ⟨by kernel_rfl, fun W hSw => by obtain ⟨s0, s1, s2, s3, s4, s5⟩ := hSw; go_simp⟩) hHeld ?_
        try simp only [Act.put, List.setIfInBounds_toArray, List.set_cons_zero, List.set_cons_succ]
        refine takeV 3 (some 33) (.pointer (some ⟨ad.block, ad.off + 4 + 3, none⟩)) rfl rfl (by kernel_rfl) (by kernel_rfl) (by kernel_rfl) (fun _ _ _ h => h) (Or.inl ⟨by kernel_rfl, fun W hSw => by obtain ⟨s0, s1, s2, s3, s4, s5⟩ := hSw; go_simp⟩) hHeld ?_
        try simp only [Act.put, List.setIfInBounds_toArray, List.set_cons_zero, List.set_cons_succ]
        refine takeV 4 (some 34) (.slice A1 k1.f3.length c1) rfl rfl (by kernel_rfl) (by kernel_rfl) (by kernel_rfl) (fun _ _ _ h => h) (Or.inl ⟨by kernel_rfl, fun W hSw => by obtain ⟨s0, s1, s2, s3, s4, s5⟩ := hSw; go_simp⟩) hHeld ?_
        try simp only [Act.put, List.setIfInBounds_toArray, List.set_cons_zero, List.set_cons_succ]
        refine takeV 6 (some 36) (.pointer (some ⟨w.heap.size, 3, none⟩)) rfl rfl (by kernel_rfl) (by kernel_rfl) (by kernel_rfl) (fun _ _ _ h => h) (Or.inl ⟨by kernel_rfl, fun W hSw => by obtain ⟨s0, s1, s2, s3, s4, s5⟩ := hSw; go_simp⟩) hHeld ?_
        try simp only [Act.put, List.setIfInBounds_toArray, List.set_cons_zero, List.set_cons_succ]
        refine takeV 7 (some 37) (.slice (some ad) 3 c) rfl rfl (by kernel_rfl) (by kernel_rfl) (by kernel_rfl) (fun _ _ _ h => h) (Or.inl ⟨by kernel_rfl, fun W hSw => by obtain ⟨s0, s1, s2, s3, s4, s5⟩ := hSw; go_simp⟩) hHeld ?_
        try simp only [Act.put, List.setIfInBounds_toArray, List.set_cons_zero, List.set_cons_succ]
        refine takeV 8 (some 38) (.pointer (some ⟨ad.block, ad.off + 8, none⟩)) rfl rfl (by kernel_rfl) (by kernel_rfl) (by kernel_rfl) (fun _ _ _ h => h) (Or.inl ⟨by kernel_rfl, fun W hSw => by obtain ⟨s0, s1, s2, s3, s4, s5⟩ := hSw; go_simp⟩) hHeld ?_
        try simp only [Act.put, List.setIfInBounds_toArray, List.set_cons_zero, List.set_cons_succ]
        refine takeV 9 (some 39) (formV k2.f0 k2.f1 k2.f2 A2 k2.f3.length c2) rfl rfl (by kernel_rfl) (by kernel_rfl) (by kernel_rfl) (fun _ _ _ h => h) (Or.inl ⟨by kernel_rfl, fun W hSw => by obtain ⟨s0, s1, s2, s3, s4, s5⟩ := hSw; go_simp⟩) hHeld ?_
        try simp only [Act.put, List.setIfInBounds_toArray, List.set_cons_zero, List.set_cons_succ]
        generalize hZ' : w3.drew = W0
        have H0 : Hid (Below w3.heap.size w3 W0) := (by subst hZ'; exact below_drew (Below.refl _ _))
        clear hZ'
        have CL : Hid (∀ W, Below w.heap.size w W → _) := fun W h => Clone_any k1.f3 A1 c1 W _ (Kd.F_below G1.out h) HC1.out hK1.out
        have hl1 : k1.f3.length < 9000000 := hK1.out
        have F2 : Hid (∀ W, Below w.heap.size w W → Kd.FK k24 W (fun k => k < w.heap.size) k2 [.int .i64 k2.f0, .int .i64 k2.f1, .string k2.f2, .slice A2 k2.f3.length c2]) := fun W h => k24_mkF W _ k2 HC2.out (Kd.F_below G2.out h)
        refine wpAnyH_ready (rs := [5, 10]) (by kernel_rfl) (by simp) ?_
        refine AllReadyH.cons rfl (fun K hK => ?_) (AllReadyH.cons rfl (fun K hK => ?_) AllReadyH.nil)
        · clear hHeld
          go_simp
          go_at_call 82
          refine Calls.mono (CL.out _ (below_after HB3.out H0.out)) ?_
          rintro e W1 ⟨v, rfl, hN, B7⟩
          have H1 : Hid (Below w3.heap.size w3 W1) := below_after H0.out B7
          have N1 : Hid _ := Kd.N_mono (ok' := fun _ => True) (Kd.N_lower hN (below_size (below_after HB3.out H0.out))) (fun _ _ => trivial)
          have L1 : Hid (∀ k, v.ownBlock = some k → w.heap.size ≤ k) := fun k hk => Nat.le_trans (below_size (below_after HB3.out H0.out)) (Kd.N_base hN k hk)
          have L2 : Hid (∀ k, v.ownBlock = some k → k < W1.heap.size) := Kd.N_lt hN
          have L0 : Hid (∀ k, v.ownBlock = some k → W0.heap.size ≤ k) := Kd.N_base hN
          clear hN B7
          go_wp2_with fail
          refine hK.out _ _ (X3.out _ H1.out) (fun hHeld => ?_)
          clear hK K
          try simp only [Act.put, List.setIfInBounds_toArray, List.set_cons_zero, List.set_cons_succ]
          refine wpAnyH_ready (rs := [10]) (by kernel_rfl) (by simp) ?_
          refine AllReadyH.cons rfl (fun K hK => ?_) AllReadyH.nil
          clear hHeld
          refine Kd.N_lit_step k24 (w0 := w) w.heap.size 24 (by kernel_rfl) rfl (xs := [k2]) (inner := [.int .i64 k2.f0, .int .i64 k2.f1, .string k2.f2, .slice A2 k2.f3.length c2]) (ok := fun k => k < w.heap.size ∨ W1.heap.size ≤ k) (okp := fun k => k < w.heap.size) (by go_simp) ⟨rfl, fun jj p hj => ?rep⟩ (fun _ h => .inl h) (.inr (Nat.le_refl _)) (below_after HB3.out H1.out) (below_size (below_after HB3.out H1.out)) (by simp) ?_
          case rep =>
            rcases jj with _ | jj
            · obtain rfl := Option.some.inj hj
              exact F2.out _ (below_after HB3.out H1.out)
            · simp at hj
          intro v49 W2 hN_ hB_ hg_ hat_
          have H2 : Hid (Below w.heap.size w W2) := hB_
          have H2' : Hid (Below w3.heap.size w3 W2) := below_grown_none H1.out hg_
          obtain ⟨A9, c9, rfl⟩ := Kd.N_slice hN_
          have F9 : Hid (Kd.F k24 W2 (fun k => k < w.heap.size ∨ W1.heap.size ≤ k) A9 1 [k2]) := Kd.N_F hN_
          have N2 : Hid _ := Kd.N_grown N1.out hg_ (fun k _ => by simp)
          clear hN_ hB_ hg_ hat_
          refine hK.out _ _ (X3.out _ H2'.out) (fun hHeld => ?_)
          clear hK K
          try simp only [Act.put, List.setIfInBounds_toArray, List.set_cons_zero, List.set_cons_succ]
          refine wpAnyH_ready (rs := [11]) (by kernel_rfl) (by simp) ?_
          refine AllReadyH.cons rfl (fun K hK => ?_) AllReadyH.nil
          clear hHeld
          refine Kd.N_append_rows_step k24 (w0 := w) w.heap.size (by kernel_rfl) (.tmp 35) (.tmp 40) 22 24 (.agg #[(.int .i64 0), (.int .i64 0), (.string ⟨#[]⟩), (.slice none 0 0)]) 56 rfl hu22 info24 rfl (by decide) (by omega) v k1.f3 [k2] A9 1 c9 (fun _ => True) (fun k => k < w.heap.size ∨ W1.heap.size ≤ k) rfl rfl N2.out F9.out (fun k hk => ⟨trivial, fun he => by have := L1.out k he.symm; have := L2.out k he.symm; omega⟩) (fun _ _ => trivial) H2.out (below_size H2.out) (by omega) ?_
          intro v50 W3 hN_ hB_ hg_ hat_
          have N50 : Hid _ := hN_
          have H3 : Hid (Below w.heap.size w W3) := hB_
          have H3' : Hid (Below w3.heap.size w3 W3) := below_grown1' H2'.out hg_ (fun k hk => Nat.le_trans (below_size H0.out) (L0.out k hk))
          clear hN_ hB_ hg_ hat_
          obtain ⟨A', c', rfl, hc', hC'⟩ := Kd.N_reads N50.out
          refine hK.out _ _ (X3.out _ H3'.out) (fun hHeld => ?_)
          clear hK K
          try simp only [Act.put, List.setIfInBounds_toArray, List.set_cons_zero, List.set_cons_succ]
          refine takeV 12 (some 2) (.slice A' (k1.f3 ++ [k2]).length c') rfl rfl (by kernel_rfl) (by kernel_rfl) (by kernel_rfl) (fun _ _ _ h => h) (Or.inl ⟨by kernel_rfl, fun W hSw => by go_simp⟩) hHeld ?_
          try simp only [Act.put, List.setIfInBounds_toArray, List.set_cons_zero, List.set_cons_succ]
          refine wpAnyH_done (by kernel_rfl) ?_ _
          go_wp2_with fail
          go_ret
          have e9 : (k1.f3 ++ [k2]).length = k1.f3.length + 1 := by simp
          rw [e9] at hc' hC'
          exact ⟨A', c', rfl, hc', hC', H3.out⟩
        · clear hHeld
          refine Kd.N_lit_step k24 (w0 := w) w.heap.size 24 (by kernel_rfl) rfl (xs := [k2]) (inner := [.int .i64 k2.f0, .int .i64 k2.f1, .string k2.f2, .slice A2 k2.f3.length c2]) (ok := fun k => True) (okp := fun k => k < w.heap.size) (by go_simp) ⟨rfl, fun jj p hj => ?rep⟩ (fun _ h => trivial) trivial (below_after HB3.out H0.out) (below_size (below_after HB3.out H0.out)) (by simp) ?_
          case rep =>
            rcases jj with _ | jj
            · obtain rfl := Option.some.inj hj
              exact F2.out _ (below_after HB3.out H0.out)
            · simp at hj
          intro v49 W1 hN_ hB_ hg_ hat_
          have H1 : Hid (Below w.heap.size w W1) := hB_
          have H1' : Hid (Below w3.heap.size w3 W1) := below_grown_none H0.out hg_
          obtain ⟨A9, c9, rfl⟩ := Kd.N_slice hN_
          have F9 : Hid (Kd.F k24 W1 (fun k => k < W1.heap.size) A9 1 [k2]) := Kd.F_mono (Kd.F_bound (Kd.N_F hN_)) (fun k hk => hk.2)
          clear hN_ hB_ hg_ hat_
          refine hK.out _ _ (X3.out _ H1'.out) (fun hHeld => ?_)
          clear hK K
          try simp only [Act.put, List.setIfInBounds_toArray, List.set_cons_zero, List.set_cons_succ]
          refine wpAnyH_ready (rs := [5]) (by kernel_rfl) (by simp) ?_
          refine AllReadyH.cons rfl (fun K hK => ?_) AllReadyH.nil
          clear hHeld
          go_simp
          go_at_call 82
          refine Calls.mono (CL.out _ H1.out) ?_
          rintro e W2 ⟨v, rfl, hN, B7⟩
          have H2 : Hid (Below w.heap.size w W2) := below_after H1.out B7
          have H2' : Hid (Below w3.heap.size w3 W2) := below_after H1'.out B7
          have N2 : Hid _ := Kd.N_mono (ok' := fun _ => True) (Kd.N_lower hN (below_size H1.out)) (fun _ _ => trivial)
          have L1 : Hid (∀ k, v.ownBlock = some k → W1.heap.size ≤ k) := Kd.N_base hN
          have F92 : Hid _ := Kd.F_below F9.out B7
          clear hN B7
          go_wp2_with fail
          refine hK.out _ _ (X3.out _ H2'.out) (fun hHeld => ?_)
          clear hK K
          try simp only [Act.put, List.setIfInBounds_toArray, List.set_cons_zero, List.set_cons_succ]
          refine wpAnyH_ready (rs := [11]) (by kernel_rfl) (by simp) ?_
          refine AllReadyH.cons rfl (fun K hK => ?_) AllReadyH.nil
          clear hHeld
          refine Kd.N_append_rows_step k24 (w0 := w) w.heap.size (by kernel_rfl) (.tmp 35) (.tmp 40) 22 24 (.agg #[(.int .i64 0), (.int .i64 0), (.string ⟨#[]⟩), (.slice none 0 0)]) 56 rfl hu22 info24 rfl (by decide) (by omega) v k1.f3 [k2] A9 1 c9 (fun _ => True) (fun k => k < W1.heap.size) rfl rfl N2.out F92.out (fun k hk => ⟨trivial, fun he => by have := L1.out k he.symm; omega⟩) (fun _ _ => trivial) H2.out (below_size H2.out) (by omega) ?_
          intro v50 W3 hN_ hB_ hg_ hat_
          have N50 : Hid _ := hN_
          have H3 : Hid (Below w.heap.size w W3) := hB_
          have H3' : Hid (Below w3.heap.size w3 W3) := below_grown1' H2'.out hg_ (fun k hk => Nat.le_trans (below_size H1'.out) (L1.out k hk))
          clear hN_ hB_ hg_ hat_
          obtain ⟨A', c', rfl, hc', hC'⟩ := Kd.N_reads N50.out
          refine hK.out _ _ (X3.out _ H3'.out) (fun hHeld => ?_)
          clear hK K
          try simp only [Act.put, List.setIfInBounds_toArray, List.set_cons_zero, List.set_cons_succ]
          refine takeV 12 (some 2) (.slice A' (k1.f3 ++ [k2]).length c') rfl rfl (by kernel_rfl) (by kernel_rfl) (by kernel_rfl) (fun _ _ _ h => h) (Or.inl ⟨by kernel_rfl, fun W hSw => by go_simp⟩) hHeld ?_
          try simp only [Act.put, List.setIfInBounds_toArray, List.set_cons_zero, List.set_cons_succ]
          refine wpAnyH_done (by kernel_rfl) ?_ _
          go_wp2_with fail
          go_ret
          have e9 : (k1.f3 ++ [k2]).length = k1.f3.length + 1 := by simp
          rw [e9] at hc' hC'
          exact ⟨A', c', rfl, hc', hC', H3.out⟩
      · rw [if_neg hf]
        have tf : (h.toList == [102, 117, 110]) = false := beq_eq_false_iff_ne.mpr (fun e => hf (bytes_inj (by rw [e]; simp [ByteArray.toList_eq, funB])))
        have te : (h.toList == []) = false := beq_eq_false_iff_ne.mpr hne
        have te2 : h.toList.isEmpty = false := by cases hq : h.toList with | nil => exact absurd hq hne | cons _ _ => rfl
        clear hf hne
        obtain ⟨ad, rfl⟩ : ∃ ad, A = some ad := by
          obtain ⟨ad, e, _⟩ := HR.out.2.2 (by omega)
          exact ⟨ad, e⟩
        have hc1 : ¬ c = 1 := by omega
        have h1c : 1 ≤ c := by omega
        go_enter Tryz.func118, Tryz.ntmps118
        go_upto_region 1 with fail
        generalize w.alloc (Obj.cells #[.int .i64 3, .int .i64 n, .string s, .slice (some ad) l.length c] 24) = X at *
        obtain ⟨p0, p1, p2, p3⟩ := cells4 X1.out
        go_wp2_with fail
        refine Calls.mono (HHD.out _ B1.out) ?_
        rintro e w2 ⟨rfl, B2⟩
        have HB2 : Hid (Below w.heap.size w w2) := below_after B1.out B2
        have x2 := blk_below X1.out B2
        clear p0 p1 p2 p3 B2
        obtain ⟨p0, p1, p2, p3⟩ := cells4 x2
        go_wp2_with fail
        refine Calls.mono (HHD.out _ HB2.out) ?_
        rintro e w3 ⟨rfl, B3⟩
        have HB3 : Hid (Below w.heap.size w w3) := below_after HB2.out B3
        have x3 := blk_below x2 B3
        clear p0 p1 p2 p3 B3 x2
        obtain ⟨p0, p1, p2, p3⟩ := cells4 x3
        go_wp2_with fail
        refine Calls.mono (HHD.out _ HB3.out) ?_
        rintro e w4 ⟨rfl, B4⟩
        have HB4 : Hid (Below w.heap.size w w4) := below_after HB3.out B4
        have x4 := blk_below x3 B4
        clear p0 p1 p2 p3 B4 x3
        obtain ⟨p0, p1, p2, p3⟩ := cells4 x4
        have X4 : Hid _ := x4
        clear x4
        go_wp2_with fail
        go_ret
        have hT := types_cut_drop (Kd.C_below HR.out HB4.out) hl2 hc
        obtain ⟨A', c', e', hC', hc'⟩ := hT
        exact ⟨A', c', by rw [← e']; rfl, hc', hC', HB4.out⟩
  · have b3 : (a != 3) = true := bne_iff_ne.mpr h3
    have e : partsM ⟨a, n, s, l⟩ = [] := by simp [partsM, h3]
    rw [e]
    clear x1 b1 hr h3 hs e
    go_enter Tryz.func118, Tryz.ntmps118
    go_wp2_with fail
    go_ret
    exact ⟨none, 0, rfl, Nat.le_refl _, Kd.C_nil _ _, B1.out⟩

end Go.Proofs.YtcjmplpfebpfpaaGreatDoor

namespace Go.Proofs.YtcjmplpfebpfpaaGreatDoor
open Go.RowKit Go.Proofs Go.Proofs.YtcjmplpfebpfpaaGreatDoorW.PrintWords Go.Proofs.YtcjmplpfebpfpaaGreatDoorW.PrintLast Go.Proofs.YtcjmplpfebpfpaaGreatDoorW.PrintMore PKindInstances
set_option linter.unusedVariables false
set_option linter.unusedSimpArgs false

theorem siz_in' : ∀ {l : List S24} {x : S24}, x ∈ l → siz x ≤ sizs l
  | [], x, h => absurd h List.not_mem_nil
  | y :: l, x, h => by
    simp only [sizs]
    rcases List.mem_cons.1 h with h | h
    · rw [h]; omega
    · have := siz_in' h; omega
theorem siz_kids (x : S24) : sizs x.f3 < siz x := by obtain ⟨a, b, s, l⟩ := x; simp only [siz]; omega
/-- The name that a type stands under. -/
def nameF (x : S24) : ByteArray := if x.f0 = 3 then headL x.f3 else x.f2
def findT (T : List S114) (h : ByteArray) : Option S114 := T.find? fun r => decide (h = r.f0)
def kindT (T : List S114) (h : ByteArray) : Int := match findT T h with | some r => r.f1 | none => 0
theorem look_find : ∀ (T : List S114) (h : ByteArray), look (tabV T) h = (findT T h).map rowV
  | [], h => rfl
  | r :: l, h => by
    simp only [tabV, List.map_cons, look, findT, List.find?]
    by_cases e : h = r.f0
    · rw [if_pos e, decide_eq_true e]; rfl
    · rw [if_neg e, decide_eq_false e]; exact look_find l h
def kid1 (x : S24) : S24 := (x.f3[1]?).getD z24
/-- What a type's outermost name answers. -/
def outT (T : List S114) (x : S24) : Int :=
  if (manyM (nameF x)).isSome && decide (x.f0 = 1) then 6 else
  if resM (nameF x) then (if nameF x = bitsB ∧ ((kid1 x).f1 < 1 ∨ 16 < (kid1 x).f1) then 8 else 0) else
  match findT T (nameF x) with
  | none => 6
  | some r => if r.f2 = max 0 ((x.f3.length : Int) - 1) then 0 else 8
/-- Whether a type's values may be compared. -/
def compM (T : List S114) : Nat → S24 → Bool
  | 0, _ => false
  | n + 1, x =>
    if nameF x = intB ∨ nameF x = boolB ∨ nameF x = bitsB ∨ nameF x = maybeB then true else
    if nameF x = funB ∨ nameF x = imapB then false else
    if nameF x = seqB ∨ nameF x = setB ∨ nameF x = bagB ∨ nameF x = mapB then (x.f3.drop 1).all (compM T n) else
    if kindT T (nameF x) = 3 ∨ kindT T (nameF x) = 4 then true else
    if kindT T (nameF x) = 2 then false else
    (match findT T (nameF x) with | some r => r.f3 | none => false) && (decide (x.f0 = 1) || (x.f3.drop 1).all (compM T n))
def chkL (f : S24 → Int) : List S24 → Int
  | [] => 0
  | x :: l => if f x = 0 then chkL f l else f x
def lastT (T : List S114) (f : S24 → Bool) (x : S24) : Int :=
  if nameF x = setB ∨ nameF x = bagB ∨ nameF x = mapB ∨ nameF x = imapB then (if f (kid1 x) then 0 else 8) else
  if nameF x = maybeB then (if kindT T (kid1 x).f2 = 3 ∨ kindT T (kid1 x).f2 = 4 then 0 else 8) else 0
/-- What the check of a type answers. -/
def chkM (T : List S114) : Nat → S24 → Int
  | 0, _ => 1
  | n + 1, x =>
    if shapedM x = false then 1 else
    if outT T x ≠ 0 then outT T x else
    if chkL (chkM T n) (partsM x) ≠ 0 then chkL (chkM T n) (partsM x) else
    lastT T (compM T n) x
theorem chkL_zero {f : S24 → Int} : ∀ {l : List S24}, chkL f l = 0 → ∀ x ∈ l, f x = 0
  | [], _, x, h => absurd h List.not_mem_nil
  | y :: l, h, x, hx => by
    simp only [chkL] at h
    split at h
    · rename_i h0
      rcases List.mem_cons.1 hx with hx | hx
      · rw [hx]; exact h0
      · exact chkL_zero h x hx
    · rename_i h0; exact absurd h h0
theorem chk_zero {T : List S114} {n : Nat} {x : S24} (h : chkM T (n + 1) x = 0) : shapedM x = true ∧ outT T x = 0 ∧ ∀ y ∈ partsM x, chkM T n y = 0 := by
  simp only [chkM] at h
  split at h
  · cases h
  · rename_i h1
    split at h
    · rename_i h2; exact absurd h h2
    · rename_i h2
      split at h
      · rename_i h3; exact absurd h h3
      · rename_i h3
        exact ⟨by simpa using h1, by omega, chkL_zero (by omega)⟩
theorem res_many {h : ByteArray} : resM h = ((manyM h).isSome || (h.toList == [105, 110, 116]) || (h.toList == [98, 111, 111, 108])) := by
  unfold resM
  rw [look_many]
  cases manyM h <;> rfl
theorem many_none {h : ByteArray} (h0 : ¬ h = bitsB) (h1 : ¬ h = seqB) (h2 : ¬ h = setB) (h3 : ¬ h = bagB) (h4 : ¬ h = maybeB) (h5 : ¬ h = mapB) (h6 : ¬ h = imapB) (h7 : ¬ h = funB) : manyM h = none := by
  unfold manyM
  rw [if_neg h0, if_neg h1, if_neg h2, if_neg h3, if_neg h4, if_neg h5, if_neg h6, if_neg h7]
theorem byt_ne {h : ByteArray} {L : List UInt8} {k : ByteArray} (hk : k.toList = L) (hn : ¬ h = k) : (h.toList == L) = false :=
  beq_eq_false_iff_ne.mpr fun e => hn (bytes_inj (by rw [e, hk]))
/-- A name that is none of the ten stands in the table. -/
theorem out_row {T : List S114} {x : S24} (h : outT T x = 0) (hr : resM (nameF x) = false) (hm : manyM (nameF x) = none) : ∃ r, findT T (nameF x) = some r ∧ r.f2 = max 0 ((x.f3.length : Int) - 1) := by
  unfold outT at h
  rw [hm, hr] at h
  simp only [Option.isSome_none, Bool.false_and, Bool.false_eq_true, if_false] at h
  split at h
  · cases h
  · rename_i r hf
    split at h
    · rename_i e; exact ⟨r, hf, e⟩
    · cases h
theorem out_word {T : List S114} {x : S24} (h : outT T x = 0) (hm : (manyM (nameF x)).isSome = true) : ¬ x.f0 = 1 := by
  intro e
  unfold outT at h
  rw [hm, decide_eq_true e] at h
  cases h
theorem shaped_list {x : S24} (h : shapedM x = true) (h1 : ¬ x.f0 = 1) : x.f0 = 3 ∧ shapeH (headL x.f3) x.f3 = true := by
  unfold shapedM at h
  rw [if_neg h1] at h
  by_cases h3 : x.f0 = 3
  · exact ⟨h3, by simpa [headOf, h3] using h⟩
  · simp [headOf, h3, shapeH] at h
theorem parts_drop {x : S24} (h3 : x.f0 = 3) (hb : ¬ headL x.f3 = bitsB) (hf : ¬ headL x.f3 = funB) : partsM x = x.f3.drop 1 := by
  unfold partsM
  rw [if_pos h3, if_neg hb, if_neg hf]
theorem name_list {x : S24} (h3 : x.f0 = 3) : nameF x = headL x.f3 := by simp [nameF, h3]

end Go.Proofs.YtcjmplpfebpfpaaGreatDoor

namespace Go.Proofs.YtcjmplpfebpfpaaGreatDoor
open Go.RowKit Go.Proofs Go.Proofs.YtcjmplpfebpfpaaGreatDoorW.PrintWords Go.Proofs.YtcjmplpfebpfpaaGreatDoorW.PrintLast Go.Proofs.YtcjmplpfebpfpaaGreatDoorW.PrintMore PKindInstances
set_option linter.unusedVariables false
set_option linter.unusedSimpArgs false

theorem cell1 {w : World} {b : Nat} {v0 : Value} {t : TypeId} (h : w.heap[b]? = some (.cells #[v0] t (0, 0))) : w.cell? ⟨b, 0, none⟩ = some v0 := by simp [World.cell?, h]
def CompOk (T : List S114) (n : Nat) : Prop :=
  ∀ (x : S24) (A : Option Addr) (c : Nat) (w : World) (b : Nat), Kd.C k24 w A x.f3.length x.f3 → x.f3.length ≤ c → wid x < 9000000 → MapAt w b (kvs textV (tabV T)) → chkM T n x = 0 →
    Calls Tryz.prog 77 #[.agg #[.map (some b)], formV x.f0 x.f1 x.f2 A x.f3.length c] w fun e w' => e = .returned (.bool (compM T n x)) ∧ Below w.heap.size w w'
theorem map_below {w w1 : World} {b : Nat} {m : List (ByteArray × Value)} (h : MapAt w b (kvs textV m)) (hb : Below w.heap.size w w1) : MapAt w1 b (kvs textV m) := MapAt.kept h (grown_of_below hb none) (by simp)
set_option maxRecDepth 100000 in
theorem notComp_any {T : List S114} {n : Nat} (OK : CompOk T n) (x : S24) (A : Option Addr) (c : Nat) (w : World) (p b : Nat) (hr : Kd.C k24 w A x.f3.length x.f3) (hc : x.f3.length ≤ c) (hw : wid x < 9000000) (hm : MapAt w b (kvs textV (tabV T))) (hp : w.heap[p]? = some (.cells #[.map (some b)] 120 (0, 0))) (h0 : chkM T n x = 0) :
    Calls Tryz.prog 121 #[formV x.f0 x.f1 x.f2 A x.f3.length c, .pointer (some ⟨p, 0, none⟩)] w fun e w' => e = .returned (.bool (!(compM T n x))) ∧ Below w.heap.size w w' := by
  have hu24 := Tryz.underlying24
  have hu120 := Tryz.underlying120
  have b1 : Below w.heap.size w (w.alloc (Obj.cells #[.int .i64 x.f0, .int .i64 x.f1, .string x.f2, .slice A x.f3.length c] 24)) := below_alloc (Below.refl _ _) _
  have x1 := (MapKept.heap_alloc w (Obj.cells #[.int .i64 x.f0, .int .i64 x.f1, .string x.f2, .slice A x.f3.length c] 24)).1
  have CA : Hid (∀ W, Below w.heap.size w W → _) := fun W h => OK x A c W b (Kd.C_below hr h) hc hw (map_below hm h) h0
  have hp1 := blk_below hp b1
  have B1 : Hid _ := b1
  obtain ⟨R, hR⟩ : ∃ R, R = compM T n x := ⟨_, rfl⟩
  rw [← hR] at CA ⊢
  clear hR hr hm h0 hp
  obtain ⟨a, m, s, l⟩ := x
  simp only [] at *
  go_enter Tryz.func121, Tryz.ntmps121
  go_upto_region 1 with fail
  clear b1
  generalize w.alloc (Obj.cells #[.int .i64 a, .int .i64 m, .string s, .slice A l.length c] 24) = X at *
  obtain ⟨p0, p1, p2, p3⟩ := cells4 x1
  have q0 := cell1 hp1
  clear x1 hp1
  go_wp2_with fail
  refine Calls.mono (CA.out _ B1.out) ?_
  rintro e w2 ⟨rfl, B2⟩
  have B3 : Hid _ := below_after B1.out B2
  clear B2
  go_wp2_with fail
  go_ret
  exact ⟨rfl, B3.out⟩
/-- What holds of the loop. -/
def IcRel (W0 : World) (T : List S114) (n : Nat) (l : List S24) (R : Bool) (k : Nat) (x8 : Value) (wr : World) : Prop :=
  ∃ (i : Nat), x8 = .int .i64 (i : Int) ∧ k + i = l.length ∧ Below W0.heap.size W0 wr ∧ (l.drop i).any (fun x => !compM T n x) = R
set_option maxRecDepth 100000 in
set_option maxHeartbeats 4000000 in
theorem indexComp_any {T : List S114} {n : Nat} (OK : CompOk T n) (l : List S24) (A : Option Addr) (c : Nat) (w : World) (p b : Nat) (hr : Kd.C k24 w A l.length l) (hc : l.length ≤ c) (hn : l.length < 9000000) (hq : ∀ x ∈ l, chkM T n x = 0 ∧ wid x < 9000000) (hm : MapAt w b (kvs textV (tabV T))) (hp : w.heap[p]? = some (.cells #[.map (some b)] 120 (0, 0))) :
    Calls Tryz.prog 135 #[.slice A l.length c, .func (.func 121) #[] #[.pointer (some ⟨p, 0, none⟩)]] w fun e w' => ∃ r, e = .returned (.int .i64 r) ∧ decide (0 ≤ r) = l.any (fun x => !compM T n x) ∧ Below w.heap.size w w' := by
  have hu24 := Tryz.underlying24
  obtain ⟨R, hR⟩ : ∃ R, R = l.any (fun x => !compM T n x) := ⟨_, rfl⟩
  rw [← hR]
  have start : Hid (IcRel w T n l R l.length (.int .i64 ((0 : Nat) : Int)) w) := ⟨0, rfl, rfl, Below.refl _ _, hR.symm⟩
  have HR : Hid _ := hr
  have HQ : Hid _ := hq
  have HM : Hid _ := hm
  have HP : Hid _ := hp
  have HOK : Hid _ := OK
  clear hr hq hR hm hp OK
  go_enter Tryz.func135, Tryz.ntmps135
  go_wp2_with fail
  go_loopg [8] l.length (fun k x8 wr => IcRel w T n l R k x8 wr)
  case atStart => exact start.out
  case round =>
    clear start
    obtain ⟨i, rfl, hki, Bl, hV⟩ := hrel
    by_cases hlt : i < l.length
    · obtain ⟨g, rfl⟩ : ∃ g, gk = g + 1 := ⟨gk - 1, by omega⟩
      have e1 : decide (i < l.length) = true := decide_eq_true hlt
      obtain ⟨x, hx⟩ : ∃ x, l[i]? = some x := ⟨l[i], by simp [hlt]⟩
      obtain ⟨ad, A3, c3, rfl, g0, g1, g2, g3, g4, g5⟩ := row_at (Kd.C_below HR.out Bl) hlt hx
      rw [drop_at2 hx, List.any_cons] at hV
      have NC : Hid _ := notComp_any HOK.out x A3 c3 wr p b g5 g4 (HQ.out x (List.mem_of_getElem? hx)).2 (map_below HM.out Bl) (blk_below HP.out Bl) (HQ.out x (List.mem_of_getElem? hx)).1
      have BL : Hid _ := Bl
      clear Bl g5 hx
      obtain ⟨q, hv⟩ : ∃ q, q = compM T n x := ⟨_, rfl⟩
      rw [← hv] at NC hV
      clear hv
      obtain ⟨x0, x1, x2, x3⟩ := x
      have HV : Hid _ := hV
      clear hV
      cases q with
      | true =>
        go_wp2_with fail
        refine Calls.mono NC.out ?_
        rintro e w2 ⟨rfl, B2⟩
        have B3 : Hid _ := below_after BL.out B2
        clear B2
        go_wp2_with fail
        go_roundg g
        case measure => omega
        case rel => exact ⟨i + 1, by go_num, by omega, B3.out, by simpa using HV.out⟩
      | false =>
        go_wp2_with fail
        refine Calls.mono NC.out ?_
        rintro e w2 ⟨rfl, B2⟩
        have B3 : Hid _ := below_after BL.out B2
        clear B2
        go_wp2_with fail
        go_ret
        exact ⟨_, rfl, by have h := HV.out; simp at h; rw [h]; exact decide_eq_true (Int.natCast_nonneg i), B3.out⟩
    · have e1 : decide (i < l.length) = false := decide_eq_false hlt
      have hge2 : l.length ≤ i := by omega
      have e3 : l.drop i = [] := List.drop_eq_nil_of_le (by omega)
      rw [e3] at hV
      have HV : Hid _ := hV
      have BL : Hid _ := Bl
      clear e3 Bl hV
      go_wp2_with fail
      go_ret
      exact ⟨_, rfl, by rw [← HV.out]; rfl, BL.out⟩
theorem anyNot_all {α : Type} (f : α → Bool) : ∀ l : List α, (!(l.any fun x => !f x)) = l.all f
  | [] => rfl
  | x :: l => by simp only [List.any_cons, List.all_cons, Bool.not_or, Bool.not_not, anyNot_all f l]
set_option maxRecDepth 100000 in
theorem everyComp_any {T : List S114} {n : Nat} (OK : CompOk T n) (l : List S24) (A : Option Addr) (c : Nat) (w : World) (p b : Nat) (hr : Kd.C k24 w A l.length l) (hc : l.length ≤ c) (hn : l.length < 9000000) (hq : ∀ x ∈ l, chkM T n x = 0 ∧ wid x < 9000000) (hm : MapAt w b (kvs textV (tabV T))) (hp : w.heap[p]? = some (.cells #[.map (some b)] 120 (0, 0))) :
    Calls Tryz.prog 120 #[.slice A l.length c, .pointer (some ⟨p, 0, none⟩)] w fun e w' => e = .returned (.bool (l.all (compM T n))) ∧ Below w.heap.size w w' := by
  have HI : Hid _ := indexComp_any OK l A c w p b hr hc hn hq hm hp
  rw [← anyNot_all]
  obtain ⟨R, hR⟩ : ∃ R, R = l.any (fun x => !compM T n x) := ⟨_, rfl⟩
  rw [← hR] at HI ⊢
  clear hr hq hR OK hm hp
  have HC : Hid (Calls Tryz.prog 92 #[.slice A l.length c, .func (.func 121) #[] #[.pointer (some ⟨p, 0, none⟩)]] w fun e w' => e = .returned (.bool R) ∧ Below w.heap.size w w') := by
    go_enter Tryz.func92, Tryz.ntmps92
    go_wp2_with fail
    refine Calls.mono HI.out ?_
    rintro e w2 ⟨r, rfl, hr, B2⟩
    go_wp2_with fail
    go_ret
    exact ⟨by rw [← hr]; rfl, B2⟩
  clear HI
  go_enter Tryz.func120, Tryz.ntmps120
  go_wp2_with fail
  refine Calls.mono HC.out ?_
  rintro e w2 ⟨rfl, B2⟩
  go_wp2_with fail
  go_ret
  exact ⟨rfl, B2⟩

end Go.Proofs.YtcjmplpfebpfpaaGreatDoor

namespace Go.Proofs.YtcjmplpfebpfpaaGreatDoor
open Go.RowKit Go.Proofs Go.Proofs.YtcjmplpfebpfpaaGreatDoorW.PrintWords Go.Proofs.YtcjmplpfebpfpaaGreatDoorW.PrintLast Go.Proofs.YtcjmplpfebpfpaaGreatDoorW.PrintMore PKindInstances
set_option linter.unusedVariables false
set_option linter.unusedSimpArgs false

set_option maxRecDepth 100000 in
set_option maxHeartbeats 16000000 in
theorem comp_step {T : List S114} {n : Nat} (OK : CompOk T n) : CompOk T (n + 1) := by
  intro x A c w b hr hc hw hm h0
  have hu24 := Tryz.underlying24
  have hu120 := Tryz.underlying120
  have hu := Tryz.underlying116
  have hk := Tryz.underlying9
  have hu114 := Tryz.underlying114
  have hll := wids_len x.f3
  have hkw := wid_kids x
  obtain ⟨hsh, hout, hkids⟩ := chk_zero h0
  have x1 := (MapKept.heap_alloc (w.alloc (.cells #[.map (some b)] 120)) (Obj.cells #[.int .i64 x.f0, .int .i64 x.f1, .string x.f2, .slice A x.f3.length c] 24)).1
  have sz : (w.alloc (.cells #[.map (some b)] 120)).heap.size = w.heap.size + 1 := size_new _ _
  rw [sz] at x1
  have b0 : Below w.heap.size w (w.alloc (.cells #[.map (some b)] 120)) := below_alloc (Below.refl _ _) _
  have x0 := (MapKept.heap_alloc w (.cells #[.map (some b)] 120)).1
  have b1' : Below (w.alloc (.cells #[.map (some b)] 120)).heap.size (w.alloc (.cells #[.map (some b)] 120)) ((w.alloc (.cells #[.map (some b)] 120)).alloc (Obj.cells #[.int .i64 x.f0, .int .i64 x.f1, .string x.f2, .slice A x.f3.length c] 24)) := below_alloc (Below.refl _ _) _
  have X0 : Hid _ := blk_below x0 b1'
  have X1 : Hid _ := x1
  have B1 : Hid _ := below_after b0 b1'
  have HD : Hid (∀ W, Below w.heap.size w W → _) := fun W h => Head_any x.f0 x.f1 x.f2 c W (Kd.C_below hr h)
  have EV : Hid (∀ W A' c' , Below w.heap.size w W → W.heap[w.heap.size]? = some (.cells #[.map (some b)] 120 (0, 0)) → Kd.C k24 W A' (x.f3.drop 1).length (x.f3.drop 1) → (x.f3.drop 1).length ≤ c' → (∀ y ∈ x.f3.drop 1, chkM T n y = 0) → _) :=
    fun W A' c' h hx hC hc' hy => everyComp_any OK (x.f3.drop 1) A' c' W w.heap.size b hC hc' (by have := List.length_drop (i := 1) (l := x.f3); omega) (fun y h' => ⟨hy y h', by have := wid_mem (List.mem_of_mem_drop h'); omega⟩) (map_below hm h) hx
  have HM : Hid _ := hm
  have HR : Hid _ := hr
  have HW : Hid (shapedM x = true ∧ outT T x = 0 ∧ ∀ y ∈ partsM x, chkM T n y = 0) := ⟨hsh, hout, hkids⟩
  have HN : Hid (x.f3.length < 9000000) := by show x.f3.length < 9000000; omega
  have HCC : Hid (x.f3.length ≤ c) := hc
  clear hr hm h0 hsh hout hkids OK x0 x1 b0 b1' sz hw hll hkw
  obtain ⟨v, hv⟩ : ∃ v, v = compM T (n + 1) x := ⟨_, rfl⟩
  rw [← hv]
  have HV : Hid _ := hv
  clear hv
  obtain ⟨h, hh⟩ : ∃ h, h = nameF x := ⟨_, rfl⟩
  have HH : Hid _ := hh
  clear hh
  have hname : (x.f0 == 3) = true ∧ headOf x.f0 x.f3 = h ∨ (x.f0 == 3) = false ∧ x.f2 = h := by
    rw [HH.out]
    unfold nameF headOf
    by_cases h3 : x.f0 = 3
    · exact .inl ⟨beq_iff_eq.mpr h3, by rw [if_pos h3, if_pos h3]⟩
    · exact .inr ⟨beq_eq_false_iff_ne.mpr h3, by rw [if_neg h3]⟩
  have HNM : Hid _ := hname
  clear hname
  generalize hl : x.f3 = l at *
  generalize ha : x.f0 = a at *
  generalize hmm : x.f1 = m at *
  generalize hs : x.f2 = s at *
  have HL : Hid (l = x.f3) := hl.symm
  have HA : Hid (a = x.f0) := ha.symm
  clear hl ha hmm hs
  go_enter Tryz.func77, Tryz.ntmps77
  go_upto_region 1 with fail
  generalize ((w.alloc (.cells #[.map (some b)] 120)).alloc (Obj.cells #[.int .i64 a, .int .i64 m, .string s, .slice A l.length c] 24)) = X at *
  obtain ⟨p0, p1, p2, p3⟩ := cells4 X1.out
  have q0 := cell1 X0.out
  have hcutq : True := trivial
  go_upto_if 13 with fail
  go_cut [6] from 8 to 60 (fun v6 wx => v6 = .string h ∧ Below w.heap.size w wx ∧ wx.heap[w.heap.size]? = some (.cells #[.map (some b)] 120 (0, 0)) ∧ wx.heap[w.heap.size + 1]? = some (.cells #[.int .i64 a, .int .i64 m, .string s, .slice A l.length c] 24 (0, 0)))
  case first =>
    rcases HNM.out with ⟨e3, eh⟩ | ⟨e3, eh⟩
    · go_wp2_with fail
      refine Calls.mono (HD.out _ B1.out) ?_
      rintro e w2 ⟨rfl, B2⟩
      have HB2 : Hid _ := below_after B1.out B2
      have y0 := blk_below X0.out B2
      have y1 := blk_below X1.out B2
      go_wp2_with fail
      go_meet
      case rel => exact ⟨by first | rfl | rw [eh], HB2.out, y0, y1⟩
    · go_wp2_with fail
      go_meet
      case rel => exact ⟨by first | rfl | rw [eh], B1.out, X0.out, X1.out⟩
  case rest =>
    clear p0 p1 p2 p3 q0 hcutq B1 X0 X1
    obtain ⟨rfl, HB, y0, y1⟩ := hcut
    have B1 : Hid _ := HB
    have X0 : Hid _ := y0
    have X1 : Hid _ := y1
    clear HB y0 y1 HD HNM
    by_cases hint : h = intB
    · have e : v = true := by rw [HV.out]; simp only [compM, ← HH.out, hint]; simp [intB, boolB, bitsB, maybeB, funB, imapB, seqB, setB, bagB, mapB]
      subst e
      subst hint
      clear HV
      unfold intB at *
      go_wp2_with fail
      go_ret
      exact ⟨rfl, B1.out⟩
    have tint : (h.toList == [105, 110, 116]) = false := byt_ne (by simp [ByteArray.toList_eq, intB]) hint
    have Nint : Hid (¬ h = intB) := hint
    clear hint
    by_cases hbool : h = boolB
    · have e : v = true := by rw [HV.out]; simp only [compM, ← HH.out, hbool]; simp [intB, boolB, bitsB, maybeB, funB, imapB, seqB, setB, bagB, mapB]
      subst e
      subst hbool
      clear HV
      unfold boolB at *
      go_wp2_with fail
      go_ret
      exact ⟨rfl, B1.out⟩
    have tbool : (h.toList == [98, 111, 111, 108]) = false := byt_ne (by simp [ByteArray.toList_eq, boolB]) hbool
    have Nbool : Hid (¬ h = boolB) := hbool
    clear hbool
    by_cases hbits : h = bitsB
    · have e : v = true := by rw [HV.out]; simp only [compM, ← HH.out, hbits]; simp [intB, boolB, bitsB, maybeB, funB, imapB, seqB, setB, bagB, mapB]
      subst e
      subst hbits
      clear HV
      unfold bitsB at *
      go_wp2_with fail
      go_ret
      exact ⟨rfl, B1.out⟩
    have tbits : (h.toList == [98, 105, 116, 115]) = false := byt_ne (by simp [ByteArray.toList_eq, bitsB]) hbits
    have Nbits : Hid (¬ h = bitsB) := hbits
    clear hbits
    by_cases hmaybe : h = maybeB
    · have e : v = true := by rw [HV.out]; simp only [compM, ← HH.out, hmaybe]; simp [intB, boolB, bitsB, maybeB, funB, imapB, seqB, setB, bagB, mapB]
      subst e
      subst hmaybe
      clear HV
      unfold maybeB at *
      go_wp2_with fail
      go_ret
      exact ⟨rfl, B1.out⟩
    have tmaybe : (h.toList == [109, 97, 121, 98, 101]) = false := byt_ne (by simp [ByteArray.toList_eq, maybeB]) hmaybe
    have Nmaybe : Hid (¬ h = maybeB) := hmaybe
    clear hmaybe
    by_cases hfun : h = funB
    · have e : v = false := by rw [HV.out]; simp only [compM, ← HH.out, hfun]; simp [intB, boolB, bitsB, maybeB, funB, imapB, seqB, setB, bagB, mapB]
      subst e
      subst hfun
      clear HV
      unfold funB at *
      go_wp2_with fail
      go_ret
      exact ⟨rfl, B1.out⟩
    have tfun : (h.toList == [102, 117, 110]) = false := byt_ne (by simp [ByteArray.toList_eq, funB]) hfun
    have Nfun : Hid (¬ h = funB) := hfun
    clear hfun
    by_cases himap : h = imapB
    · have e : v = false := by rw [HV.out]; simp only [compM, ← HH.out, himap]; simp [intB, boolB, bitsB, maybeB, funB, imapB, seqB, setB, bagB, mapB]
      subst e
      subst himap
      clear HV
      unfold imapB at *
      go_wp2_with fail
      go_ret
      exact ⟨rfl, B1.out⟩
    have timap : (h.toList == [105, 109, 97, 112]) = false := byt_ne (by simp [ByteArray.toList_eq, imapB]) himap
    have Nimap : Hid (¬ h = imapB) := himap
    clear himap
    by_cases hseq : h = seqB
    · have e : v = (l.drop 1).all (compM T n) := by rw [HV.out]; simp only [compM, ← HH.out, hseq, HL.out]; simp [intB, boolB, bitsB, maybeB, funB, imapB, seqB, setB, bagB, mapB]
      subst e
      have hne : ¬ x.f0 = 1 := out_word HW.out.2.1 (by rw [← HH.out, hseq]; simp [manyM, intB, boolB, bitsB, maybeB, funB, imapB, seqB, setB, bagB, mapB])
      obtain ⟨h3, hsh⟩ := shaped_list HW.out.1 hne
      have hnm : headL x.f3 = seqB := by rw [← name_list h3, ← HH.out, hseq]
      have hpt : partsM x = x.f3.drop 1 := parts_drop h3 (by rw [hnm]; simp [intB, boolB, bitsB, maybeB, funB, imapB, seqB, setB, bagB, mapB]) (by rw [hnm]; simp [intB, boolB, bitsB, maybeB, funB, imapB, seqB, setB, bagB, mapB])
      have h2 : 2 ≤ l.length := by rw [HL.out]; exact (shape_list hsh).2
      have HK : Hid (∀ y ∈ l.drop 1, chkM T n y = 0) := by have h9 := HW.out.2.2; rw [hpt, ← HL.out] at h9; exact h9
      clear hne h3 hsh hnm hpt
      subst hseq
      unfold seqB at *
      obtain ⟨ad, rfl⟩ : ∃ ad, A = some ad := by
        obtain ⟨ad, e, _⟩ := HR.out.2.2 (by omega)
        exact ⟨ad, e⟩
      have hc1 : ¬ c = 1 := by omega
      have h1c : 1 ≤ c := by omega
      obtain ⟨A', c', e', hC', hc'⟩ := types_cut_drop HR.out h2 HCC.out
      have ED : Hid (∀ W, Below w.heap.size w W → W.heap[w.heap.size]? = some (.cells #[.map (some b)] 120 (0, 0)) → Calls Tryz.prog 120 #[.slice (some ⟨ad.block, ad.off + 4, none⟩) (l.length - 1) (c - 1), .pointer (some ⟨w.heap.size, 0, none⟩)] W fun e w' => e = .returned (.bool ((l.drop 1).all (compM T n))) ∧ Below W.heap.size W w') := fun W h hx => by
        rw [e']
        exact EV.out W A' c' h hx (Kd.C_below hC' h) hc' HK.out
      clear e' hC' hc' HR EV
      have hn9 : l.length < 9000000 := HN.out
      obtain ⟨p0, p1, p2, p3⟩ := cells4 X1.out
      have q0 := cell1 X0.out
      go_wp2_with fail
      refine Calls.mono (ED.out _ B1.out X0.out) ?_
      rintro e w5 ⟨rfl, B4⟩
      have B5 : Hid _ := below_after B1.out B4
      clear B4 p0 p1 p2 p3 q0
      go_wp2_with fail
      go_ret
      exact ⟨by first | rfl | (rw [List.drop_one]; rfl), B5.out⟩
    have tseq : (h.toList == [115, 101, 113]) = false := byt_ne (by simp [ByteArray.toList_eq, seqB]) hseq
    have Nseq : Hid (¬ h = seqB) := hseq
    clear hseq
    by_cases hset : h = setB
    · have e : v = (l.drop 1).all (compM T n) := by rw [HV.out]; simp only [compM, ← HH.out, hset, HL.out]; simp [intB, boolB, bitsB, maybeB, funB, imapB, seqB, setB, bagB, mapB]
      subst e
      have hne : ¬ x.f0 = 1 := out_word HW.out.2.1 (by rw [← HH.out, hset]; simp [manyM, intB, boolB, bitsB, maybeB, funB, imapB, seqB, setB, bagB, mapB])
      obtain ⟨h3, hsh⟩ := shaped_list HW.out.1 hne
      have hnm : headL x.f3 = setB := by rw [← name_list h3, ← HH.out, hset]
      have hpt : partsM x = x.f3.drop 1 := parts_drop h3 (by rw [hnm]; simp [intB, boolB, bitsB, maybeB, funB, imapB, seqB, setB, bagB, mapB]) (by rw [hnm]; simp [intB, boolB, bitsB, maybeB, funB, imapB, seqB, setB, bagB, mapB])
      have h2 : 2 ≤ l.length := by rw [HL.out]; exact (shape_list hsh).2
      have HK : Hid (∀ y ∈ l.drop 1, chkM T n y = 0) := by have h9 := HW.out.2.2; rw [hpt, ← HL.out] at h9; exact h9
      clear hne h3 hsh hnm hpt
      subst hset
      unfold setB at *
      obtain ⟨ad, rfl⟩ : ∃ ad, A = some ad := by
        obtain ⟨ad, e, _⟩ := HR.out.2.2 (by omega)
        exact ⟨ad, e⟩
      have hc1 : ¬ c = 1 := by omega
      have h1c : 1 ≤ c := by omega
      obtain ⟨A', c', e', hC', hc'⟩ := types_cut_drop HR.out h2 HCC.out
      have ED : Hid (∀ W, Below w.heap.size w W → W.heap[w.heap.size]? = some (.cells #[.map (some b)] 120 (0, 0)) → Calls Tryz.prog 120 #[.slice (some ⟨ad.block, ad.off + 4, none⟩) (l.length - 1) (c - 1), .pointer (some ⟨w.heap.size, 0, none⟩)] W fun e w' => e = .returned (.bool ((l.drop 1).all (compM T n))) ∧ Below W.heap.size W w') := fun W h hx => by
        rw [e']
        exact EV.out W A' c' h hx (Kd.C_below hC' h) hc' HK.out
      clear e' hC' hc' HR EV
      have hn9 : l.length < 9000000 := HN.out
      obtain ⟨p0, p1, p2, p3⟩ := cells4 X1.out
      have q0 := cell1 X0.out
      go_wp2_with fail
      refine Calls.mono (ED.out _ B1.out X0.out) ?_
      rintro e w5 ⟨rfl, B4⟩
      have B5 : Hid _ := below_after B1.out B4
      clear B4 p0 p1 p2 p3 q0
      go_wp2_with fail
      go_ret
      exact ⟨by first | rfl | (rw [List.drop_one]; rfl), B5.out⟩
    have tset : (h.toList == [115, 101, 116]) = false := byt_ne (by simp [ByteArray.toList_eq, setB]) hset
    have Nset : Hid (¬ h = setB) := hset
    clear hset
    by_cases hbag : h = bagB
    · have e : v = (l.drop 1).all (compM T n) := by rw [HV.out]; simp only [compM, ← HH.out, hbag, HL.out]; simp [intB, boolB, bitsB, maybeB, funB, imapB, seqB, setB, bagB, mapB]
      subst e
      have hne : ¬ x.f0 = 1 := out_word HW.out.2.1 (by rw [← HH.out, hbag]; simp [manyM, intB, boolB, bitsB, maybeB, funB, imapB, seqB, setB, bagB, mapB])
      obtain ⟨h3, hsh⟩ := shaped_list HW.out.1 hne
      have hnm : headL x.f3 = bagB := by rw [← name_list h3, ← HH.out, hbag]
      have hpt : partsM x = x.f3.drop 1 := parts_drop h3 (by rw [hnm]; simp [intB, boolB, bitsB, maybeB, funB, imapB, seqB, setB, bagB, mapB]) (by rw [hnm]; simp [intB, boolB, bitsB, maybeB, funB, imapB, seqB, setB, bagB, mapB])
      have h2 : 2 ≤ l.length := by rw [HL.out]; exact (shape_list hsh).2
      have HK : Hid (∀ y ∈ l.drop 1, chkM T n y = 0) := by have h9 := HW.out.2.2; rw [hpt, ← HL.out] at h9; exact h9
      clear hne h3 hsh hnm hpt
      subst hbag
      unfold bagB at *
      obtain ⟨ad, rfl⟩ : ∃ ad, A = some ad := by
        obtain ⟨ad, e, _⟩ := HR.out.2.2 (by omega)
        exact ⟨ad, e⟩
      have hc1 : ¬ c = 1 := by omega
      have h1c : 1 ≤ c := by omega
      obtain ⟨A', c', e', hC', hc'⟩ := types_cut_drop HR.out h2 HCC.out
      have ED : Hid (∀ W, Below w.heap.size w W → W.heap[w.heap.size]? = some (.cells #[.map (some b)] 120 (0, 0)) → Calls Tryz.prog 120 #[.slice (some ⟨ad.block, ad.off + 4, none⟩) (l.length - 1) (c - 1), .pointer (some ⟨w.heap.size, 0, none⟩)] W fun e w' => e = .returned (.bool ((l.drop 1).all (compM T n))) ∧ Below W.heap.size W w') := fun W h hx => by
        rw [e']
        exact EV.out W A' c' h hx (Kd.C_below hC' h) hc' HK.out
      clear e' hC' hc' HR EV
      have hn9 : l.length < 9000000 := HN.out
      obtain ⟨p0, p1, p2, p3⟩ := cells4 X1.out
      have q0 := cell1 X0.out
      go_wp2_with fail
      refine Calls.mono (ED.out _ B1.out X0.out) ?_
      rintro e w5 ⟨rfl, B4⟩
      have B5 : Hid _ := below_after B1.out B4
      clear B4 p0 p1 p2 p3 q0
      go_wp2_with fail
      go_ret
      exact ⟨by first | rfl | (rw [List.drop_one]; rfl), B5.out⟩
    have tbag : (h.toList == [98, 97, 103]) = false := byt_ne (by simp [ByteArray.toList_eq, bagB]) hbag
    have Nbag : Hid (¬ h = bagB) := hbag
    clear hbag
    by_cases hmap : h = mapB
    · have e : v = (l.drop 1).all (compM T n) := by rw [HV.out]; simp only [compM, ← HH.out, hmap, HL.out]; simp [intB, boolB, bitsB, maybeB, funB, imapB, seqB, setB, bagB, mapB]
      subst e
      have hne : ¬ x.f0 = 1 := out_word HW.out.2.1 (by rw [← HH.out, hmap]; simp [manyM, intB, boolB, bitsB, maybeB, funB, imapB, seqB, setB, bagB, mapB])
      obtain ⟨h3, hsh⟩ := shaped_list HW.out.1 hne
      have hnm : headL x.f3 = mapB := by rw [← name_list h3, ← HH.out, hmap]
      have hpt : partsM x = x.f3.drop 1 := parts_drop h3 (by rw [hnm]; simp [intB, boolB, bitsB, maybeB, funB, imapB, seqB, setB, bagB, mapB]) (by rw [hnm]; simp [intB, boolB, bitsB, maybeB, funB, imapB, seqB, setB, bagB, mapB])
      have h2 : 2 ≤ l.length := by rw [HL.out]; exact (shape_list hsh).2
      have HK : Hid (∀ y ∈ l.drop 1, chkM T n y = 0) := by have h9 := HW.out.2.2; rw [hpt, ← HL.out] at h9; exact h9
      clear hne h3 hsh hnm hpt
      subst hmap
      unfold mapB at *
      obtain ⟨ad, rfl⟩ : ∃ ad, A = some ad := by
        obtain ⟨ad, e, _⟩ := HR.out.2.2 (by omega)
        exact ⟨ad, e⟩
      have hc1 : ¬ c = 1 := by omega
      have h1c : 1 ≤ c := by omega
      obtain ⟨A', c', e', hC', hc'⟩ := types_cut_drop HR.out h2 HCC.out
      have ED : Hid (∀ W, Below w.heap.size w W → W.heap[w.heap.size]? = some (.cells #[.map (some b)] 120 (0, 0)) → Calls Tryz.prog 120 #[.slice (some ⟨ad.block, ad.off + 4, none⟩) (l.length - 1) (c - 1), .pointer (some ⟨w.heap.size, 0, none⟩)] W fun e w' => e = .returned (.bool ((l.drop 1).all (compM T n))) ∧ Below W.heap.size W w') := fun W h hx => by
        rw [e']
        exact EV.out W A' c' h hx (Kd.C_below hC' h) hc' HK.out
      clear e' hC' hc' HR EV
      have hn9 : l.length < 9000000 := HN.out
      obtain ⟨p0, p1, p2, p3⟩ := cells4 X1.out
      have q0 := cell1 X0.out
      go_wp2_with fail
      refine Calls.mono (ED.out _ B1.out X0.out) ?_
      rintro e w5 ⟨rfl, B4⟩
      have B5 : Hid _ := below_after B1.out B4
      clear B4 p0 p1 p2 p3 q0
      go_wp2_with fail
      go_ret
      exact ⟨by first | rfl | (rw [List.drop_one]; rfl), B5.out⟩
    have tmap : (h.toList == [109, 97, 112]) = false := byt_ne (by simp [ByteArray.toList_eq, mapB]) hmap
    have Nmap : Hid (¬ h = mapB) := hmap
    clear hmap
    have hmn : manyM h = none := many_none Nbits.out Nseq.out Nset.out Nbag.out Nmaybe.out Nmap.out Nimap.out Nfun.out
    have hrn : resM h = false := by rw [res_many, hmn, tint, tbool]; rfl
    obtain ⟨r, hf, hrl⟩ := out_row HW.out.2.1 (by rw [← HH.out]; exact hrn) (by rw [← HH.out]; exact hmn)
    rw [← HH.out] at hf
    have hkt : kindT T h = r.f1 := by unfold kindT; rw [hf]
    have e : v = (if r.f1 = 3 ∨ r.f1 = 4 then true else if r.f1 = 2 then false else r.f3 && (decide (a = 1) || (l.drop 1).all (compM T n))) := by
      rw [HV.out]
      simp only [compM, ← HH.out, HL.out, HA.out]
      rw [if_neg (by simp [Nint.out, Nbool.out, Nbits.out, Nmaybe.out]), if_neg (by simp [Nfun.out, Nimap.out]), if_neg (by simp [Nseq.out, Nset.out, Nbag.out, Nmap.out]), hkt, hf]
    have E : Hid _ := e
    clear e
    have hz : (zeroValue 114).run Tryz.prog wc = .ok (.agg #[.string ⟨#[]⟩, .int .i64 0, .int .i64 0, .bool false, .bool false]) wc := by go_simp
    have r2 := run_lookup_at keyText' hu hk hz (map_below HM.out B1.out) h false
    rw [look_find, hf] at r2
    simp only [Bool.false_eq_true, if_false, Option.map_some, Option.getD_some] at r2
    change (Instr.lookup 116 (.map (some b)) (.string h) false).run Tryz.prog wc = _ at r2
    clear hz hmn hrn hrl hf hkt HV HM
    have HP : Hid (¬ a = 1 → 2 ≤ l.length ∧ ∀ y ∈ l.drop 1, chkM T n y = 0) := by
      show ¬ a = 1 → _
      intro hne
      obtain ⟨h3, hsh⟩ := shaped_list HW.out.1 (by rw [← HA.out]; exact hne)
      have hnm : headL x.f3 = h := by rw [← name_list h3, ← HH.out]
      have hpt : partsM x = x.f3.drop 1 := parts_drop h3 (by rw [hnm]; exact Nbits.out) (by rw [hnm]; exact Nfun.out)
      have h9 := HW.out.2.2
      rw [hpt, ← HL.out] at h9
      rw [← HL.out] at hsh
      exact ⟨(shape_list hsh).2, h9⟩
    clear Nint Nbool Nbits Nmaybe Nfun Nimap Nseq Nset Nbag Nmap HW HH HL HA
    obtain ⟨rn, rk, rl, re, rw'⟩ := r
    simp only [rowV] at *
    obtain ⟨p0, p1, p2, p3⟩ := cells4 X1.out
    have q0 := cell1 X0.out
    go_upto_region 20 with fail
    clear p0 p1 p2 p3 q0 r2
    have b5 : Below wc.heap.size wc (wc.alloc (Obj.cells #[.string rn, .int .i64 rk, .int .i64 rl, .bool re, .bool rw'] 114)) := below_alloc (Below.refl _ _) _
    have y5 := (MapKept.heap_alloc wc (Obj.cells #[.string rn, .int .i64 rk, .int .i64 rl, .bool re, .bool rw'] 114)).1
    have Z0 : Hid _ := blk_below X0.out b5
    have Z1 : Hid _ := blk_below X1.out b5
    have B2 : Hid _ := below_after B1.out b5
    clear b5 X0 X1 B1
    generalize wc.alloc (Obj.cells #[.string rn, .int .i64 rk, .int .i64 rl, .bool re, .bool rw'] 114) = M at *
    generalize wc.heap.size = bR at *
    obtain ⟨y50, y51, y52, y53, y54⟩ := cells5 y5
    clear y5
    by_cases k3 : rk = 3
    · subst k3
      obtain rfl : v = true := by rw [E.out]; simp
      go_wp2_with fail
      go_ret
      exact ⟨by simp, B2.out⟩
    by_cases k4 : rk = 4
    · subst k4
      obtain rfl : v = true := by rw [E.out]; simp
      go_wp2_with fail
      go_ret
      exact ⟨by simp, B2.out⟩
    have g3 : (rk == 3) = false := beq_eq_false_iff_ne.mpr k3
    have g4 : (rk == 4) = false := beq_eq_false_iff_ne.mpr k4
    by_cases k2 : rk = 2
    · subst k2
      obtain rfl : v = false := by rw [E.out]; simp
      go_wp2_with fail
      go_ret
      exact ⟨by simp, B2.out⟩
    have g2 : (rk == 2) = false := beq_eq_false_iff_ne.mpr k2
    have E2 : v = (re && (decide (a = 1) || (l.drop 1).all (compM T n))) := by rw [E.out, if_neg (by simp [k3, k4]), if_neg k2]
    clear k2 k3 k4 E
    cases re with
    | false =>
      obtain rfl : v = false := by rw [E2]; rfl
      clear E2
      obtain ⟨p0, p1, p2, p3⟩ := cells4 Z1.out
      go_wp2_with fail
      go_ret
      exact ⟨by simp, B2.out⟩
    | true =>
      by_cases a1 : a = 1
      · have f1 : (a == 1) = true := beq_iff_eq.mpr a1
        obtain rfl : v = true := by rw [E2, decide_eq_true a1]; rfl
        clear E2
        obtain ⟨p0, p1, p2, p3⟩ := cells4 Z1.out
        clear a1
        go_wp2_with fail
        go_ret
        exact ⟨by simp, B2.out⟩
      · have f1 : (a == 1) = false := beq_eq_false_iff_ne.mpr a1
        obtain ⟨h2, hq⟩ := HP.out a1
        have HK : Hid (∀ y ∈ l.drop 1, chkM T n y = 0) := hq
        obtain rfl : v = (l.drop 1).all (compM T n) := by rw [E2, decide_eq_false a1, Bool.true_and, Bool.false_or]
        clear E2 a1 hq HP
        obtain ⟨ad, rfl⟩ : ∃ ad, A = some ad := by
          obtain ⟨ad, e, _⟩ := HR.out.2.2 (by omega)
          exact ⟨ad, e⟩
        have hc1 : ¬ c = 1 := by omega
        have h1c : 1 ≤ c := by omega
        obtain ⟨A', c', e', hC', hc'⟩ := types_cut_drop HR.out h2 HCC.out
        have ED : Hid (∀ W, Below w.heap.size w W → W.heap[w.heap.size]? = some (.cells #[.map (some b)] 120 (0, 0)) → Calls Tryz.prog 120 #[.slice (some ⟨ad.block, ad.off + 4, none⟩) (l.length - 1) (c - 1), .pointer (some ⟨w.heap.size, 0, none⟩)] W fun e w' => e = .returned (.bool ((l.drop 1).all (compM T n))) ∧ Below W.heap.size W w') := fun W h hx => by
          rw [e']
          exact EV.out W A' c' h hx (Kd.C_below hC' h) hc' HK.out
        clear e' hC' hc' HR EV
        have hn9 : l.length < 9000000 := HN.out
        obtain ⟨p0, p1, p2, p3⟩ := cells4 Z1.out
        have q0 := cell1 Z0.out
        go_wp2_with fail
        refine Calls.mono (ED.out _ B2.out Z0.out) ?_
        rintro e w5 ⟨rfl, B4⟩
        have B5 : Hid _ := below_after B2.out B4
        clear B4 p0 p1 p2 p3 q0
        go_wp2_with fail
        go_ret
        exact ⟨by first | rfl | (rw [List.drop_one]; rfl), B5.out⟩
theorem comp_any (T : List S114) : ∀ n, CompOk T n
  | 0 => fun x A c w b hr hc hw hm h0 => absurd h0 (by simp [chkM])
  | n + 1 => comp_step (comp_any T n)

end Go.Proofs.YtcjmplpfebpfpaaGreatDoor
