/- KindInstances, part 12: the print's words and functions that it leans on, cut to what is reached, and own texts. -/
import Derived.Sort.KeysCollected
import Derived.StringKeys
import Derived.Test.YtcjmplpfebpfpaaGreatDoorNi11
namespace Go.Proofs.YtcjmplpfebpfpaaGreatDoor
open Go.RowKit Go.Proofs Go.Proofs.YtcjmplpfebpfpaaGreatDoorW.PrintWords Go.Proofs.YtcjmplpfebpfpaaGreatDoorW.PrintLast Go.Proofs.YtcjmplpfebpfpaaGreatDoorW.PrintMore PKindInstances
set_option linter.unusedVariables false
set_option linter.unusedSimpArgs false

theorem own_l0 (a n : Int) (s : ByteArray) (l : List S24) (hl : l.length < 9000000) (hq : ∀ x ∈ l, Ev (fun k => plinthref01_Own.f k x.f0 x.f1 x.f2 x.f3) (x.f0, x.f1, x.f2, x.f3)) (d : Nat) :
    ∀ (i : Nat), d + i = l.length → Ev (fun k => plinthref01_Own.l0 k (l.take i) (i : Int) a n s l) (a, n, s, l) := by
  induction d with
  | zero =>
    intro i h
    refine ⟨1, fun k hk => ?_⟩
    obtain ⟨k, rfl⟩ : ∃ m, k = m + 1 := ⟨k - 1, by omega⟩
    simp only [plinthref01_Own.l0]
    rw [if_neg (by omega), List.take_of_length_le (by omega)]
  | succ d ih =>
    intro i h
    obtain ⟨x, hx⟩ : ∃ x, l[i]? = some x := ⟨l[i]'(by omega), List.getElem?_eq_getElem _⟩
    obtain ⟨K1, h1⟩ := hq x (List.mem_of_getElem? hx)
    obtain ⟨K2, h2⟩ := ih (i + 1) (by omega)
    refine ⟨max K1 K2 + 1, fun k hk => ?_⟩
    obtain ⟨k, rfl⟩ : ∃ m, k = m + 1 := ⟨k - 1, by omega⟩
    have h1' := h1 k (by omega)
    have h2' := h2 k (by omega)
    simp only [] at h1' h2'
    simp only [plinthref01_Own.l0]
    rw [if_pos (by omega), if_pos (by omega), rd_at hx, h1', Option.bind_some, if_pos (by rw [List.length_take]; omega), wr64 (by omega) (by omega), show (i : Int) + 1 = ((i + 1 : Nat) : Int) from by omega]
    rw [List.take_add_one, hx, show (some x).toList = [x] from rfl] at h2'
    cases x
    exact h2'
mutual
theorem own_ev : ∀ x : S24, wid x < 9000000 → Ev (fun k => plinthref01_Own.f k x.f0 x.f1 x.f2 x.f3) (x.f0, x.f1, x.f2, x.f3)
  | ⟨a, n, s, l⟩, h => by
    have hl := own_evs l
    have h1 := wid_kids ⟨a, n, s, l⟩
    simp only [] at h1
    have h2 := wids_len l
    obtain ⟨K, hK⟩ := own_l0 a n s l (by omega) (fun x hx => hl x hx (by have := wid_mem hx; omega)) l.length 0 (by omega)
    refine ⟨K + 1, fun k hk => ?_⟩
    obtain ⟨k, rfl⟩ : ∃ m, k = m + 1 := ⟨k - 1, by omega⟩
    have := hK k (by omega)
    simp only [List.take_zero] at this
    simp only [plinthref01_Own.f]
    exact this
theorem own_evs : ∀ (l : List S24), ∀ x ∈ l, wid x < 9000000 → Ev (fun k => plinthref01_Own.f k x.f0 x.f1 x.f2 x.f3) (x.f0, x.f1, x.f2, x.f3)
  | [], x, h => absurd h (List.not_mem_nil)
  | y :: l, x, h => by
    rcases List.mem_cons.1 h with h | h
    · rw [h]; exact own_ev y
    · exact own_evs l x h
end
theorem Own_any (x : S24) (A : Option Addr) (c : Nat) (w : World) (hr : Kd.C k24 w A x.f3.length x.f3) (hc : x.f3.length ≤ c) (hw : wid x < 9000000) :
    Calls Tryz.prog 42 #[formV x.f0 x.f1 x.f2 A x.f3.length c] w fun e w' => ∃ A3 c3, e = .returned (formV x.f0 x.f1 x.f2 A3 x.f3.length c3) ∧ x.f3.length ≤ c3 ∧ (∀ nm : ByteArray, Kd.FK k71 w' (fun k => w.heap.size ≤ k) ⟨nm, x⟩ [.string nm, .int .i64 x.f0, .int .i64 x.f1, .string x.f2, .slice A3 x.f3.length c3]) ∧ Below w.heap.size w w' := by
  obtain ⟨K, hK⟩ := own_ev x hw
  refine (plinthref01_Own.calls K x.f0 x.f1 x.f2 A c x.f3 _ _ _ _ w hr hc (hK K (Nat.le_refl _))).mono ?_
  rintro e w' ⟨v3, rfl, hR, hB⟩
  obtain ⟨A3, c3, rfl⟩ := Kd.R_slice hR
  have hR2 := Kd.R_mono (Kd.R_bound hR) (ok' := fun k => w.heap.size ≤ k) (fun k hk => hk.2.1)
  refine ⟨A3, c3, rfl, (Kd.R_reads' hR).2.1, fun nm => ?_, hB⟩
  exact Kd.FK_of_M (k71_mkM w' w.heap.size _ ⟨nm, x⟩ hR2)

def toOf (by_ : List S71) (nm : ByteArray) : S24 := (findM by_ nm).getD z24
theorem find_any2 (l : List S71) (s : ByteArray) (A : Option Addr) (c : Nat) (w : World) (hr : Kd.C k71 w A l.length l) (hn : l.length < 9000000) :
    Calls Tryz.prog 67 #[.slice A l.length c, .string s] w fun e w' => ∃ A' c' b, e = .returned (.tuple #[formV (toOf l s).f0 (toOf l s).f1 (toOf l s).f2 A' (toOf l s).f3.length c', .bool b]) ∧ (toOf l s).f3.length ≤ c' ∧ Kd.C k24 w' A' (toOf l s).f3.length (toOf l s).f3 ∧ Below w.heap.size w w' := by
  have h := find_any l s A c w hr hn
  unfold toOf
  cases hf : findM l s with
  | none =>
    rw [hf] at h
    refine h.mono ?_
    rintro e w' ⟨rfl, hB⟩
    exact ⟨none, 0, false, rfl, Nat.le_refl _, ⟨rfl, Nat.zero_le _, fun h => absurd h (Nat.lt_irrefl _)⟩, hB⟩
  | some x =>
    rw [hf] at h
    refine h.mono ?_
    rintro e w' ⟨A', c', rfl, h1, h2, hB⟩
    exact ⟨A', c', true, rfl, h1, h2, hB⟩
def putAll (acc : List ByteArray) (l : List S71) : List ByteArray := l.foldl (fun acc p => putL acc p.f0) acc
def outOf (by_ : List S71) : List S71 := (putAll [] by_).map fun nm => ⟨nm, toOf by_ nm⟩
def rInstM (vs : List ByteArray) (x y : S24) : Option (List S71) :=
  if (mrM vs x y false []).1 && (namedR [] vs && (ValidR x && ValidR y)) then some (outOf (mrM vs x y false []).2) else none
def RIPost (w : World) (R : Option (List S71)) (e : Ending) (w' : World) : Prop :=
  match R with
  | none => e = .returned (.tuple #[.slice none 0 0, .bool false]) ∧ Below w.heap.size w w'
  | some l => ∃ A c, e = .returned (.tuple #[.slice A l.length c, .bool true]) ∧ l.length ≤ c ∧ Kd.C k71 w' A l.length l ∧ Below w.heap.size w w'
/-- What holds of the loop over the pairs. -/
def RnRel (WL : World) (bl : List S71) (NS : List ByteArray) (k : Nat) (x10 x11 : Value) (wr : World) : Prop :=
  ∃ (i : Nat) (acc : List ByteArray), x11 = .int .i64 (i : Int) ∧ k + i = bl.length ∧ Below WL.heap.size WL wr ∧ Kd.R Kd.string 9 wr WL.heap.size (fun _ => True) x10 acc ∧ acc.length ≤ i ∧ putAll acc (bl.drop i) = NS
/-- What holds of the loop over the names. -/
def RoRel (WM : World) (bl : List S71) (NS : List ByteArray) (k : Nat) (x12 x13 : Value) (wr : World) : Prop :=
  ∃ (i : Nat), x13 = .int .i64 (i : Int) ∧ k + i = NS.length ∧ Below WM.heap.size WM wr ∧ Kd.N k71 71 wr WM.heap.size (fun _ => True) x12 ((NS.take i).map fun nm => ⟨nm, toOf bl nm⟩)
set_option maxRecDepth 100000 in
set_option maxHeartbeats 16000000 in
theorem RInstance_any (vs : List ByteArray) (w : World) (x y : S24) (A B V : Option Addr) (c d cv : Nat)
    (ha : Kd.C k24 w A x.f3.length x.f3) (hac : x.f3.length ≤ c) (haw : wid x < 9000000) (haz : siz x < 9000000) (hb : Kd.C k24 w B y.f3.length y.f3) (hbc : y.f3.length ≤ d) (hbw : wid y < 9000000) (hbz : siz y < 9000000) (hv : Kd.C Kd.string w V vs.length vs) (hvc : vs.length ≤ cv) (hvn : vs.length < 9000000) (hvz : ∀ v ∈ vs, v.size < 9000000) :
    Calls Tryz.prog 27 #[formV x.f0 x.f1 x.f2 A x.f3.length c, formV y.f0 y.f1 y.f2 B y.f3.length d, .slice V vs.length cv] w (RIPost w (rInstM vs x y)) := by
  have hu24 := Tryz.underlying24
  have hu71 := Tryz.underlying71
  have MT : Hid (∀ w1, Below w.heap.size w w1 → Calls Tryz.prog 66 #[formV x.f0 x.f1 x.f2 A x.f3.length c, formV y.f0 y.f1 y.f2 B y.f3.length d, .slice V vs.length cv, .slice none 0 0, .bool false] w1 (MRPost w1 (mrM vs x y false []))) := fun w1 h1 => matched_ok vs x w1 [] y false A B V none c d cv 0 (Kd.C_below ha h1) hac haw (Kd.C_below hb h1) hbc hbw (Kd.C_below hv h1) hvc hvn ⟨rfl, Nat.zero_le _, fun h => absurd h (Nat.lt_irrefl _)⟩ (Nat.le_refl _) (by simpa using haz) (fun p hp => absurd hp List.not_mem_nil)
  have NM : Hid (∀ w1, Below w.heap.size w w1 → _) := fun w1 h1 => named_any vs V cv w1 (Kd.C_below hv h1) hvc hvn hvz
  have VX : Hid (∀ w1, Below w.heap.size w w1 → _) := fun w1 h1 => RValid_any x A c w1 (Kd.C_below ha h1) hac haz haw
  have VY : Hid (∀ w1, Below w.heap.size w w1 → _) := fun w1 h1 => RValid_any y B d w1 (Kd.C_below hb h1) hbc hbz hbw
  have GR := mrM_grows vs x y false [] 9000000 (fun p hp => absurd hp List.not_mem_nil) hbw
  unfold rInstM
  obtain ⟨Q, hQ⟩ : ∃ Q, Q = mrM vs x y false [] := ⟨_, rfl⟩
  rw [← hQ] at MT GR ⊢
  obtain ⟨qm, bl⟩ := Q
  have hblw : Hid _ := GR.1
  have hbln : bl.length < 9000000 := by have := GR.2; simp only [List.length_nil] at this; omega
  clear GR hQ
  obtain ⟨nm, hnm⟩ : ∃ b, b = namedR [] vs := ⟨_, rfl⟩
  obtain ⟨vx, hvx⟩ : ∃ b, b = ValidR x := ⟨_, rfl⟩
  obtain ⟨vy, hvy⟩ : ∃ b, b = ValidR y := ⟨_, rfl⟩
  rw [← hnm] at NM ⊢
  rw [← hvx] at VX ⊢
  rw [← hvy] at VY ⊢
  clear hnm hvx hvy ha haw haz hb hbw hbz hv hvz
  obtain ⟨x0, x1', x2', x3⟩ := x
  obtain ⟨y0, y1, y2, y3⟩ := y
  simp only [] at hac hbc
  obtain ⟨x1, x2, xb⟩ := boxes2 w (Obj.cells #[.int .i64 x0, .int .i64 x1', .string x2', .slice A x3.length c] 24) (Obj.cells #[.int .i64 y0, .int .i64 y1, .string y2, .slice B y3.length d] 24)
  have XB : Hid _ := xb
  clear xb
  cases qm with
  | false =>
    rw [if_neg (by simp)]
    go_enter Tryz.func27, Tryz.ntmps27
    go_upto_region 1 with fail
    generalize (w.alloc (Obj.cells #[.int .i64 x0, .int .i64 x1', .string x2', .slice A x3.length c] 24)).alloc (Obj.cells #[.int .i64 y0, .int .i64 y1, .string y2, .slice B y3.length d] 24) = X at *
    obtain ⟨p0, p1, p2, p3⟩ := cells4 x1
    obtain ⟨q0, q1, q2, q3⟩ := cells4 x2
    generalize hbA : w.heap.size = bA at *
    generalize hbB : bA + 1 = bB at *
    clear x1 x2
    go_wp2_with fail
    refine Calls.mono (MT.out _ (by subst hbA; exact XB.out)) ?_
    rintro e w1 ⟨A1, c1, rfl, hc1, hC1, B1⟩
    have HB1 : Hid (Below X.heap.size X w1) := B1
    have HC1 : Hid _ := hC1
    replace p0 := pw_cell_below B1 p0
    replace p1 := pw_cell_below B1 p1
    replace p2 := pw_cell_below B1 p2
    replace p3 := pw_cell_below B1 p3
    replace q0 := pw_cell_below B1 q0
    replace q1 := pw_cell_below B1 q1
    replace q2 := pw_cell_below B1 q2
    replace q3 := pw_cell_below B1 q3
    clear B1 hC1
    simp only [] at hc1 HC1
    go_wp2_with fail
    go_ret2
    exact ⟨rfl, by subst hbA; exact below_after XB.out HB1.out⟩
  | true =>
    cases nm with
    | false =>
      rw [if_neg (by simp)]
      go_enter Tryz.func27, Tryz.ntmps27
      go_upto_region 1 with fail
      generalize (w.alloc (Obj.cells #[.int .i64 x0, .int .i64 x1', .string x2', .slice A x3.length c] 24)).alloc (Obj.cells #[.int .i64 y0, .int .i64 y1, .string y2, .slice B y3.length d] 24) = X at *
      obtain ⟨p0, p1, p2, p3⟩ := cells4 x1
      obtain ⟨q0, q1, q2, q3⟩ := cells4 x2
      generalize hbA : w.heap.size = bA at *
      generalize hbB : bA + 1 = bB at *
      clear x1 x2
      go_wp2_with fail
      refine Calls.mono (MT.out _ (by subst hbA; exact XB.out)) ?_
      rintro e w1 ⟨A1, c1, rfl, hc1, hC1, B1⟩
      have HB1 : Hid (Below X.heap.size X w1) := B1
      have HC1 : Hid _ := hC1
      replace p0 := pw_cell_below B1 p0
      replace p1 := pw_cell_below B1 p1
      replace p2 := pw_cell_below B1 p2
      replace p3 := pw_cell_below B1 p3
      replace q0 := pw_cell_below B1 q0
      replace q1 := pw_cell_below B1 q1
      replace q2 := pw_cell_below B1 q2
      replace q3 := pw_cell_below B1 q3
      clear B1 hC1
      simp only [] at hc1 HC1
      go_wp2_with fail
      refine Calls.mono (NM.out _ (by subst hbA; exact below_after XB.out HB1.out)) ?_
      rintro e w2 ⟨rfl, B2⟩
      have HB2 : Hid (Below X.heap.size X w2) := below_after HB1.out B2
      have HC2 : Hid _ := Kd.C_below HC1.out B2
      replace p0 := pw_cell_below B2 p0
      replace p1 := pw_cell_below B2 p1
      replace p2 := pw_cell_below B2 p2
      replace p3 := pw_cell_below B2 p3
      replace q0 := pw_cell_below B2 q0
      replace q1 := pw_cell_below B2 q1
      replace q2 := pw_cell_below B2 q2
      replace q3 := pw_cell_below B2 q3
      clear B2
      go_wp2_with fail
      go_ret2
      exact ⟨rfl, by subst hbA; exact below_after XB.out HB2.out⟩
    | true =>
      cases vx with
      | false =>
        rw [if_neg (by simp)]
        go_enter Tryz.func27, Tryz.ntmps27
        go_upto_region 1 with fail
        generalize (w.alloc (Obj.cells #[.int .i64 x0, .int .i64 x1', .string x2', .slice A x3.length c] 24)).alloc (Obj.cells #[.int .i64 y0, .int .i64 y1, .string y2, .slice B y3.length d] 24) = X at *
        obtain ⟨p0, p1, p2, p3⟩ := cells4 x1
        obtain ⟨q0, q1, q2, q3⟩ := cells4 x2
        generalize hbA : w.heap.size = bA at *
        generalize hbB : bA + 1 = bB at *
        clear x1 x2
        go_wp2_with fail
        refine Calls.mono (MT.out _ (by subst hbA; exact XB.out)) ?_
        rintro e w1 ⟨A1, c1, rfl, hc1, hC1, B1⟩
        have HB1 : Hid (Below X.heap.size X w1) := B1
        have HC1 : Hid _ := hC1
        replace p0 := pw_cell_below B1 p0
        replace p1 := pw_cell_below B1 p1
        replace p2 := pw_cell_below B1 p2
        replace p3 := pw_cell_below B1 p3
        replace q0 := pw_cell_below B1 q0
        replace q1 := pw_cell_below B1 q1
        replace q2 := pw_cell_below B1 q2
        replace q3 := pw_cell_below B1 q3
        clear B1 hC1
        simp only [] at hc1 HC1
        go_wp2_with fail
        refine Calls.mono (NM.out _ (by subst hbA; exact below_after XB.out HB1.out)) ?_
        rintro e w2 ⟨rfl, B2⟩
        have HB2 : Hid (Below X.heap.size X w2) := below_after HB1.out B2
        have HC2 : Hid _ := Kd.C_below HC1.out B2
        replace p0 := pw_cell_below B2 p0
        replace p1 := pw_cell_below B2 p1
        replace p2 := pw_cell_below B2 p2
        replace p3 := pw_cell_below B2 p3
        replace q0 := pw_cell_below B2 q0
        replace q1 := pw_cell_below B2 q1
        replace q2 := pw_cell_below B2 q2
        replace q3 := pw_cell_below B2 q3
        clear B2
        go_wp2_with fail
        refine Calls.mono (VX.out _ (by subst hbA; exact below_after XB.out HB2.out)) ?_
        rintro e w3 ⟨rfl, B3⟩
        have HB3 : Hid (Below X.heap.size X w3) := below_after HB2.out B3
        have HC3 : Hid _ := Kd.C_below HC2.out B3
        replace p0 := pw_cell_below B3 p0
        replace p1 := pw_cell_below B3 p1
        replace p2 := pw_cell_below B3 p2
        replace p3 := pw_cell_below B3 p3
        replace q0 := pw_cell_below B3 q0
        replace q1 := pw_cell_below B3 q1
        replace q2 := pw_cell_below B3 q2
        replace q3 := pw_cell_below B3 q3
        clear B3
        go_wp2_with fail
        go_ret2
        exact ⟨rfl, by subst hbA; exact below_after XB.out HB3.out⟩
      | true =>
        cases vy with
        | false =>
          rw [if_neg (by simp)]
          go_enter Tryz.func27, Tryz.ntmps27
          go_upto_region 1 with fail
          generalize (w.alloc (Obj.cells #[.int .i64 x0, .int .i64 x1', .string x2', .slice A x3.length c] 24)).alloc (Obj.cells #[.int .i64 y0, .int .i64 y1, .string y2, .slice B y3.length d] 24) = X at *
          obtain ⟨p0, p1, p2, p3⟩ := cells4 x1
          obtain ⟨q0, q1, q2, q3⟩ := cells4 x2
          generalize hbA : w.heap.size = bA at *
          generalize hbB : bA + 1 = bB at *
          clear x1 x2
          go_wp2_with fail
          refine Calls.mono (MT.out _ (by subst hbA; exact XB.out)) ?_
          rintro e w1 ⟨A1, c1, rfl, hc1, hC1, B1⟩
          have HB1 : Hid (Below X.heap.size X w1) := B1
          have HC1 : Hid _ := hC1
          replace p0 := pw_cell_below B1 p0
          replace p1 := pw_cell_below B1 p1
          replace p2 := pw_cell_below B1 p2
          replace p3 := pw_cell_below B1 p3
          replace q0 := pw_cell_below B1 q0
          replace q1 := pw_cell_below B1 q1
          replace q2 := pw_cell_below B1 q2
          replace q3 := pw_cell_below B1 q3
          clear B1 hC1
          simp only [] at hc1 HC1
          go_wp2_with fail
          refine Calls.mono (NM.out _ (by subst hbA; exact below_after XB.out HB1.out)) ?_
          rintro e w2 ⟨rfl, B2⟩
          have HB2 : Hid (Below X.heap.size X w2) := below_after HB1.out B2
          have HC2 : Hid _ := Kd.C_below HC1.out B2
          replace p0 := pw_cell_below B2 p0
          replace p1 := pw_cell_below B2 p1
          replace p2 := pw_cell_below B2 p2
          replace p3 := pw_cell_below B2 p3
          replace q0 := pw_cell_below B2 q0
          replace q1 := pw_cell_below B2 q1
          replace q2 := pw_cell_below B2 q2
          replace q3 := pw_cell_below B2 q3
          clear B2
          go_wp2_with fail
          refine Calls.mono (VX.out _ (by subst hbA; exact below_after XB.out HB2.out)) ?_
          rintro e w3 ⟨rfl, B3⟩
          have HB3 : Hid (Below X.heap.size X w3) := below_after HB2.out B3
          have HC3 : Hid _ := Kd.C_below HC2.out B3
          replace p0 := pw_cell_below B3 p0
          replace p1 := pw_cell_below B3 p1
          replace p2 := pw_cell_below B3 p2
          replace p3 := pw_cell_below B3 p3
          replace q0 := pw_cell_below B3 q0
          replace q1 := pw_cell_below B3 q1
          replace q2 := pw_cell_below B3 q2
          replace q3 := pw_cell_below B3 q3
          clear B3
          go_wp2_with fail
          refine Calls.mono (VY.out _ (by subst hbA; exact below_after XB.out HB3.out)) ?_
          rintro e w4 ⟨rfl, B4⟩
          have HB4 : Hid (Below X.heap.size X w4) := below_after HB3.out B4
          have HC4 : Hid _ := Kd.C_below HC3.out B4
          replace p0 := pw_cell_below B4 p0
          replace p1 := pw_cell_below B4 p1
          replace p2 := pw_cell_below B4 p2
          replace p3 := pw_cell_below B4 p3
          replace q0 := pw_cell_below B4 q0
          replace q1 := pw_cell_below B4 q1
          replace q2 := pw_cell_below B4 q2
          replace q3 := pw_cell_below B4 q3
          clear B4
          go_wp2_with fail
          go_ret2
          exact ⟨rfl, by subst hbA; exact below_after XB.out HB4.out⟩
        | true =>
          rw [if_pos (by simp)]
          go_enter Tryz.func27, Tryz.ntmps27
          go_upto_region 1 with fail
          generalize (w.alloc (Obj.cells #[.int .i64 x0, .int .i64 x1', .string x2', .slice A x3.length c] 24)).alloc (Obj.cells #[.int .i64 y0, .int .i64 y1, .string y2, .slice B y3.length d] 24) = X at *
          obtain ⟨p0, p1, p2, p3⟩ := cells4 x1
          obtain ⟨q0, q1, q2, q3⟩ := cells4 x2
          generalize hbA : w.heap.size = bA at *
          generalize hbB : bA + 1 = bB at *
          clear x1 x2
          go_wp2_with fail
          refine Calls.mono (MT.out _ (by subst hbA; exact XB.out)) ?_
          rintro e w1 ⟨A1, c1, rfl, hc1, hC1, B1⟩
          have HB1 : Hid (Below X.heap.size X w1) := B1
          have HC1 : Hid _ := hC1
          replace p0 := pw_cell_below B1 p0
          replace p1 := pw_cell_below B1 p1
          replace p2 := pw_cell_below B1 p2
          replace p3 := pw_cell_below B1 p3
          replace q0 := pw_cell_below B1 q0
          replace q1 := pw_cell_below B1 q1
          replace q2 := pw_cell_below B1 q2
          replace q3 := pw_cell_below B1 q3
          clear B1 hC1
          simp only [] at hc1 HC1
          go_wp2_with fail
          refine Calls.mono (NM.out _ (by subst hbA; exact below_after XB.out HB1.out)) ?_
          rintro e w2 ⟨rfl, B2⟩
          have HB2 : Hid (Below X.heap.size X w2) := below_after HB1.out B2
          have HC2 : Hid _ := Kd.C_below HC1.out B2
          replace p0 := pw_cell_below B2 p0
          replace p1 := pw_cell_below B2 p1
          replace p2 := pw_cell_below B2 p2
          replace p3 := pw_cell_below B2 p3
          replace q0 := pw_cell_below B2 q0
          replace q1 := pw_cell_below B2 q1
          replace q2 := pw_cell_below B2 q2
          replace q3 := pw_cell_below B2 q3
          clear B2
          go_wp2_with fail
          refine Calls.mono (VX.out _ (by subst hbA; exact below_after XB.out HB2.out)) ?_
          rintro e w3 ⟨rfl, B3⟩
          have HB3 : Hid (Below X.heap.size X w3) := below_after HB2.out B3
          have HC3 : Hid _ := Kd.C_below HC2.out B3
          replace p0 := pw_cell_below B3 p0
          replace p1 := pw_cell_below B3 p1
          replace p2 := pw_cell_below B3 p2
          replace p3 := pw_cell_below B3 p3
          replace q0 := pw_cell_below B3 q0
          replace q1 := pw_cell_below B3 q1
          replace q2 := pw_cell_below B3 q2
          replace q3 := pw_cell_below B3 q3
          clear B3
          go_wp2_with fail
          refine Calls.mono (VY.out _ (by subst hbA; exact below_after XB.out HB3.out)) ?_
          rintro e w4 ⟨rfl, B4⟩
          have HB4 : Hid (Below X.heap.size X w4) := below_after HB3.out B4
          have HC4 : Hid _ := Kd.C_below HC3.out B4
          replace p0 := pw_cell_below B4 p0
          replace p1 := pw_cell_below B4 p1
          replace p2 := pw_cell_below B4 p2
          replace p3 := pw_cell_below B4 p3
          replace q0 := pw_cell_below B4 q0
          replace q1 := pw_cell_below B4 q1
          replace q2 := pw_cell_below B4 q2
          replace q3 := pw_cell_below B4 q3
          clear B4
          go_wp2_with fail
          have HL1 : Hid (Below w.heap.size w w4) := (by subst hbA; exact below_after XB.out HB4.out)
          clear p0 p1 p2 p3 q0 q1 q2 q3
          obtain ⟨NS, hNS⟩ : ∃ NS, NS = putAll [] bl := ⟨_, rfl⟩
          have hout : outOf bl = NS.map fun nm => ⟨nm, toOf bl nm⟩ := by rw [hNS]; rfl
          have HOUT : Hid _ := hout
          clear hout
          have start : Hid (RnRel w4 bl NS bl.length (.slice none 0 0) (.int .i64 ((0 : Nat) : Int)) w4) := ⟨0, [], rfl, rfl, Below.refl _ _, Kd.R_nil _ _ _ _ _, Nat.le_refl _, hNS.symm⟩
          clear hNS
          go_loopg [10, 11] bl.length (fun k x10 x11 wr => RnRel w4 bl NS k x10 x11 wr)
          case atStart => exact start.out
          case round =>
            clear start
            obtain ⟨i, acc, rfl, hki, hB0, hR0, hac0, hV⟩ := hrel
            by_cases hlt : i < bl.length
            · obtain ⟨g, rfl⟩ : ∃ g, gk = g + 1 := ⟨gk - 1, by omega⟩
              have e1 : decide (i < bl.length) = true := decide_eq_true hlt
              obtain ⟨p, hp⟩ : ∃ p, bl[i]? = some p := ⟨bl[i]'(by omega), List.getElem?_eq_getElem _⟩
              obtain ⟨ad, A5, c5, rfl, g0, g1, g2, g3, g4, g5, g6⟩ := row_at5 (Kd.C_below HC4.out hB0) (by omega) hp
              rw [drop_at71 hp] at hV
              obtain ⟨K, hK⟩ := put_ev acc p.f0 (by omega)
              have PU : Hid (∀ wq, Below wr.heap.size wr wq → _) := fun wq hwq => plinthref03_put.calls K (fun _ => True) u10 acc p.f0 _ w4 wq (below_after hB0 hwq) (Kd.R_below hR0 hwq) (hK K (Nat.le_refl _))
              have hpl := putL_len acc p.f0
              have HBL : Hid _ := hB0
              have HV : Hid (putAll (putL acc p.f0) (bl.drop (i + 1)) = NS) := hV
              clear hp g5 g6 hV hB0 hR0 hK
              obtain ⟨pn, px0, px1, px2, px3⟩ := p
              simp only [] at g0 g1 g2 g3 g4 hpl PU HV
              go_wp2_with fail
              refine Calls.mono (PU.out _ (by first | exact Below.refl _ _ | (repeat (first | assumption | exact Below.refl _ _ | apply below_alloc | apply pw_below_drewN | apply below_drew1)))) ?_
              rintro e w6 ⟨v6, rfl, hR6, hB6, _⟩
              have HB6 : Hid (Below w4.heap.size w4 w6) := hB6
              have HR6 : Hid _ := hR6
              clear hR6 hB6
              go_wp2_with fail
              go_roundg g
              case measure => omega
              case rel => exact ⟨i + 1, _, by go_num, by omega, HB6.out, Kd.R_mono HR6.out (fun _ _ => trivial), by omega, HV.out⟩
            · have e1 : decide (i < bl.length) = false := decide_eq_false hlt
              have hge : bl.length ≤ i := by omega
              have e3 : bl.drop i = [] := List.drop_eq_nil_of_le (by omega)
              rw [e3] at hV
              have hV2 : acc = NS := hV
              subst hV2
              obtain ⟨AN, cN, rfl⟩ := Kd.R_slice hR0
              have HNS : Hid (Kd.C Kd.string wr AN acc.length acc) := (Kd.R_reads' hR0).2.2
              have hNn : acc.length < 9000000 := by omega
              have HWM : Hid (Below w4.heap.size w4 wr) := hB0
              have HBL : Hid (Kd.C k71 wr A1 bl.length bl) := Kd.C_below HC4.out hB0
              clear e3 hV hR0 hB0
              obtain ⟨wm, ewm⟩ : ∃ wm, wm = wr := ⟨wr, rfl⟩
              subst ewm
              go_wp2_with fail
              have start : Hid (RoRel wm bl acc acc.length (.slice none 0 0) (.int .i64 ((0 : Nat) : Int)) wm) := ⟨0, rfl, rfl, Below.refl _ _, Kd.N_nil _ _ _ _ _⟩
              go_loopg [12, 13] acc.length (fun k x12 x13 wr => RoRel wm bl acc k x12 x13 wr)
              case atStart => exact start.out
              case round =>
                clear start
                obtain ⟨j, rfl, hkj, hB1, hN1⟩ := hrel
                by_cases hlj : j < acc.length
                · obtain ⟨g, rfl⟩ : ∃ g, gk = g + 1 := ⟨gk - 1, by omega⟩
                  have e2 : decide (j < acc.length) = true := decide_eq_true hlj
                  obtain ⟨nn, hnn⟩ : ∃ nn, acc[j]? = some nn := ⟨acc[j]'(by omega), List.getElem?_eq_getElem _⟩
                  obtain ⟨ad, rfl, g0⟩ := text_at HNS.out hnn
                  have hadb : (ad.add j).block < wm.heap.size := World.block_lt_of_cell? _ _ g0
                  replace g0 := pw_cell_below hB1 g0
                  have htk : acc.take (j + 1) = acc.take j ++ [nn] := by rw [List.take_add_one, hnn]; rfl
                  have FI : Hid (∀ wq, Below wr.heap.size wr wq → _) := fun wq hwq => find_any2 bl nn A1 c1 wq (Kd.C_below HBL.out (below_after hB1 hwq)) hbln
                  have hxw : wid (toOf bl nn) < 9000000 := by
                    unfold toOf
                    cases hf : findM bl nn with
                    | none => decide
                    | some z => obtain ⟨p, hp, e⟩ := findM_mem hf; rw [Option.getD_some, ← e]; exact hblw.out p hp
                  obtain ⟨F, hF⟩ : ∃ F, F = toOf bl nn := ⟨_, rfl⟩
                  rw [← hF] at FI hxw
                  have HF : Hid _ := hF
                  have HXW : Hid _ := hxw
                  have HBM : Hid _ := hB1
                  have HN1 : Hid _ := hN1
                  have HTK : Hid _ := htk
                  clear hF hxw hB1 hN1 hnn htk
                  go_wp2_with fail
                  refine Calls.mono (FI.out _ (by first | exact Below.refl _ _ | (repeat (first | assumption | exact Below.refl _ _ | apply below_alloc | apply pw_below_drewN | apply below_drew1)))) ?_
                  rintro e w6 ⟨AF, cF, bF, rfl, hcF, hCF, B6⟩
                  have HB6 : Hid (Below wr.heap.size wr w6) := below_after (by first | exact Below.refl _ _ | (repeat (first | assumption | exact Below.refl _ _ | apply below_alloc | apply pw_below_drewN | apply below_drew1))) B6
                  have HCF : Hid _ := hCF
                  replace g0 := pw_cell_below HB6.out g0
                  clear B6 hCF
                  obtain ⟨f0, f1, f2, f3⟩ := F
                  simp only [] at hcF HCF
                  go_upto_region 14 with fail
                  have z1 : (w6.alloc (Obj.cells #[Value.int IntKind.i64 f0, Value.int IntKind.i64 f1, Value.string f2, Value.slice AF f3.length cF] 24)).heap[w6.heap.size]? = some (Obj.cells #[Value.int IntKind.i64 f0, Value.int IntKind.i64 f1, Value.string f2, Value.slice AF f3.length cF] 24) := (MapKept.heap_alloc w6 _).1
                  have HZ9 : Hid (Below w6.heap.size w6 (w6.alloc (Obj.cells #[Value.int IntKind.i64 f0, Value.int IntKind.i64 f1, Value.string f2, Value.slice AF f3.length cF] 24))) := below_alloc (Below.refl _ _) _
                  replace g0 := pw_cell_below HZ9.out g0
                  generalize w6.alloc (Obj.cells #[Value.int IntKind.i64 f0, Value.int IntKind.i64 f1, Value.string f2, Value.slice AF f3.length cF] 24) = Z at *
                  obtain ⟨z0, z1, z2, z3⟩ := cells4 z1
                  have HZw : Hid (Below wr.heap.size wr Z) := below_after HB6.out HZ9.out
                  have HCZ : Hid (∀ wq, Below Z.heap.size Z wq → Kd.C k24 wq AF f3.length f3) := fun wq hwq => Kd.C_below HCF.out (below_after HZ9.out hwq)
                  have hbZ : wr.heap.size ≤ w6.heap.size := HB6.out.size
                  generalize w6.heap.size = bZ at *
                  have GZ : Hid (∀ W, Below Z.heap.size Z W → W.cell? (ad.add j) = some (.string nn) ∧ W.cell? ⟨bZ, 0, none⟩ = some (.int .i64 f0) ∧ W.cell? ⟨bZ, 1, none⟩ = some (.int .i64 f1) ∧ W.cell? ⟨bZ, 2, none⟩ = some (.string f2) ∧ W.cell? ⟨bZ, 3, none⟩ = some (.slice AF f3.length cF)) := fun W h => ⟨pw_cell_below h g0, pw_cell_below h z0, pw_cell_below h z1, pw_cell_below h z2, pw_cell_below h z3⟩
                  have OW : Hid (∀ wq, Below Z.heap.size Z wq → _) := fun wq hwq => Own_any ⟨f0, f1, f2, f3⟩ AF cF wq (HCZ.out wq hwq) hcF HXW.out
                  clear g0 z0 z1 z2 z3
                  refine wp_region_held_drew (S := fun W => W.cell? (ad.add j) = some (.string nn) ∧ W.cell? ⟨bZ, 0, none⟩ = some (.int .i64 f0) ∧ W.cell? ⟨bZ, 1, none⟩ = some (.int .i64 f1) ∧ W.cell? ⟨bZ, 2, none⟩ = some (.string f2) ∧ W.cell? ⟨bZ, 3, none⟩ = some (.slice AF f3.length cF)) (by kernel_rfl) (GZ.out _ (below_drew (Below.refl _ _))) (fun hHeld => ?_)
                  refine takeV 0 (some 68) (u12) rfl rfl (by kernel_rfl) (by kernel_rfl) (by kernel_rfl) (fun _ _ _ h => h) (Or.inl ⟨by kernel_rfl, fun W hSw => by go_simp⟩) hHeld ?_
                  try simp only [Act.put, List.setIfInBounds_toArray, List.set_cons_zero, List.set_cons_succ]
                  refine takeV 1 (some 69) (.slice (some ad) acc.length cN) rfl rfl (by kernel_rfl) (by kernel_rfl) (by kernel_rfl) (fun _ _ _ h => h) (Or.inl ⟨by kernel_rfl, fun W hSw => by obtain ⟨s0, s1, s2, s3, s4⟩ := hSw; go_simp⟩) hHeld ?_
                  try simp only [Act.put, List.setIfInBounds_toArray, List.set_cons_zero, List.set_cons_succ]
                  refine takeV 2 (some 70) (.int .i64 (j : Int)) rfl rfl (by kernel_rfl) (by kernel_rfl) (by kernel_rfl) (fun _ _ _ h => h) (Or.inl ⟨by kernel_rfl, fun W hSw => by obtain ⟨s0, s1, s2, s3, s4⟩ := hSw; go_simp⟩) hHeld ?_
                  try simp only [Act.put, List.setIfInBounds_toArray, List.set_cons_zero, List.set_cons_succ]
                  refine takeV 3 (some 71) (.pointer (some (ad.add j))) rfl rfl (by kernel_rfl) (by kernel_rfl) (by kernel_rfl) (fun _ _ _ h => h) (Or.inl ⟨by kernel_rfl, fun W hSw => by obtain ⟨s0, s1, s2, s3, s4⟩ := hSw; go_simp; first | done | (intro h9; exact absurd h9 (by omega))⟩) hHeld ?_
                  try simp only [Act.put, List.setIfInBounds_toArray, List.set_cons_zero, List.set_cons_succ]
                  refine takeV 4 (some 72) (.string nn) rfl rfl (by kernel_rfl) (by kernel_rfl) (by kernel_rfl) (fun _ _ _ h => h) (Or.inl ⟨by kernel_rfl, fun W hSw => by obtain ⟨s0, s1, s2, s3, s4⟩ := hSw; go_simp⟩) hHeld ?_
                  try simp only [Act.put, List.setIfInBounds_toArray, List.set_cons_zero, List.set_cons_succ]
                  refine takeV 5 (some 73) (formV f0 f1 f2 AF f3.length cF) rfl rfl (by kernel_rfl) (by kernel_rfl) (by kernel_rfl) (fun _ _ _ h => h) (Or.inl ⟨by kernel_rfl, fun W hSw => by obtain ⟨s0, s1, s2, s3, s4⟩ := hSw; go_simp⟩) hHeld ?_
                  try simp only [Act.put, List.setIfInBounds_toArray, List.set_cons_zero, List.set_cons_succ]
                  generalize hZ' : Z.drew = W0
                  have H0 : Hid (Below Z.heap.size Z W0) := (by subst hZ'; exact below_drew (Below.refl _ _))
                  clear hZ'
                  refine wpAnyH_ready (rs := [6]) (by kernel_rfl) (by simp) ?_
                  refine AllReadyH.cons rfl (fun K hK => ?_) AllReadyH.nil
                  clear hHeld
                  go_simp
                  go_at_call 42
                  refine Calls.mono (OW.out _ H0.out) ?_
                  rintro e W1 ⟨A3, c3, rfl, hc3, hFK, B7⟩
                  have H1 : Hid (Below Z.heap.size Z W1) := below_after H0.out B7
                  have FK3 : Hid (Kd.FK k71 W1 (fun k => W0.heap.size ≤ k) (⟨nn, ⟨f0, f1, f2, f3⟩⟩ : S71) [.string nn, .int .i64 f0, .int .i64 f1, .string f2, .slice A3 f3.length c3]) := hFK nn
                  have HS1 : Hid (W0.heap.size ≤ W1.heap.size) := B7.size
                  clear hFK B7
                  go_wp2_with fail
                  refine hK.out _ _ (GZ.out _ H1.out) (fun hHeld => ?_)
                  clear hK K
                  try simp only [Act.put, List.setIfInBounds_toArray, List.set_cons_zero, List.set_cons_succ]
                  refine takeV 7 (some 75) (.agg #[.string nn, .int .i64 f0, .int .i64 f1, .string f2, .slice A3 f3.length c3]) rfl rfl (by kernel_rfl) (by kernel_rfl) (by kernel_rfl) (fun _ _ _ h => h) (Or.inl ⟨by kernel_rfl, fun W hSw => by go_simp⟩) hHeld ?_
                  try simp only [Act.put, List.setIfInBounds_toArray, List.set_cons_zero, List.set_cons_succ]
                  refine wpAnyH_ready (rs := [8]) (by kernel_rfl) (by simp) ?_
                  refine AllReadyH.cons rfl (fun K hK => ?_) AllReadyH.nil
                  clear hHeld
                  refine Kd.N_lit_step k71 (w0 := Z) Z.heap.size 71 (by kernel_rfl) rfl (xs := [(⟨nn, ⟨f0, f1, f2, f3⟩⟩ : S71)]) (inner := [.string nn, .int .i64 f0, .int .i64 f1, .string f2, .slice A3 f3.length c3]) (ok := fun k => W0.heap.size ≤ k) (okp := fun k => W0.heap.size ≤ k) (by go_simp) ⟨rfl, fun jj p hj => ?rep⟩ (fun _ h => h) HS1.out H1.out H1.out.size (by simp) ?_
                  case rep =>
                    rcases jj with _ | jj
                    · obtain rfl := Option.some.inj hj
                      exact FK3.out
                    · simp at hj
                  intro v49 W2 hN_ hB_ hg_ hat_
                  have H2 : Hid (Below Z.heap.size Z W2) := hB_
                  have G1 : Hid (W1.grownBy W2 none) := hg_
                  obtain ⟨A9, c9, rfl⟩ := Kd.N_slice hN_
                  have F9 : Hid (Kd.F k71 W2 (fun k => W0.heap.size ≤ k) A9 1 [(⟨nn, ⟨f0, f1, f2, f3⟩⟩ : S71)]) := Kd.N_F hN_
                  clear hN_ hB_ hg_ hat_
                  refine hK.out _ _ (GZ.out _ H2.out) (fun hHeld => ?_)
                  clear hK K
                  try simp only [Act.put, List.setIfInBounds_toArray, List.set_cons_zero, List.set_cons_succ]
                  have N12 : Hid (Kd.N k71 71 W2 wm.heap.size (fun _ => True) u12 ((acc.take j).map fun nm => ⟨nm, toOf bl nm⟩)) := Kd.N_below HN1.out (below_after HZw.out H2.out)
                  have L12 : Hid (∀ k, u12.ownBlock = some k → k < W0.heap.size) := fun k hk => Nat.lt_of_lt_of_le (Kd.N_lt HN1.out k hk) (Nat.le_trans HZw.out.size H0.out.size)
                  have HM2 : Hid (Below wm.heap.size wm W2) := below_after HBM.out (below_after HZw.out H2.out)
                  refine wpAnyH_ready (rs := [9]) (by kernel_rfl) (by simp) ?_
                  refine AllReadyH.cons rfl (fun K hK => ?_) AllReadyH.nil
                  clear hHeld
                  refine Kd.N_append_rows_step k71 (w0 := wm) wm.heap.size (by kernel_rfl) (.tmp 68) (.tmp 76) 29 71 (.agg #[(.string ⟨#[]⟩), (.int .i64 0), (.int .i64 0), (.string ⟨#[]⟩), (.slice none 0 0)]) 72 rfl Tryz.underlying29 info71 rfl (by decide) (by omega) u12 ((acc.take j).map fun nm => ⟨nm, toOf bl nm⟩) [(⟨nn, ⟨f0, f1, f2, f3⟩⟩ : S71)] A9 1 c9 (fun _ => True) (fun k => W0.heap.size ≤ k) rfl rfl N12.out F9.out (fun k hk => ⟨trivial, fun he => by have := L12.out k he.symm; omega⟩) (fun _ _ => trivial) HM2.out HM2.out.size (by simp only [List.length_map, List.length_take]; omega) ?_
                  intro v50 W3 hN_ hB_ hg_ hat_
                  have N50 : Hid _ := hN_
                  have HM3 : Hid (Below wm.heap.size wm W3) := hB_
                  have hS2 := GZ.out _ H2.out
                  obtain ⟨t0, t1, t2, t3, t4⟩ := hS2
                  have hn1 : some (ad.add j).block ≠ u12.ownBlock := fun he => by have := Kd.N_base HN1.out _ he.symm; omega
                  have hn2 : some bZ ≠ u12.ownBlock := fun he => by have := Kd.N_lt HN1.out _ he.symm; omega
                  have hS3 := And.intro (cell_grown hg_ t0 hn1) (And.intro (cell_grown hg_ t1 hn2) (And.intro (cell_grown hg_ t2 hn2) (And.intro (cell_grown hg_ t3 hn2) (cell_grown hg_ t4 hn2))))
                  clear t0 t1 t2 t3 t4
                  clear hN_ hB_ hg_ hat_
                  refine hK.out _ _ hS3 (fun hHeld => ?_)
                  clear hK K
                  try simp only [Act.put, List.setIfInBounds_toArray, List.set_cons_zero, List.set_cons_succ]
                  refine takeV 10 (some 12) (v50) rfl rfl (by kernel_rfl) (by kernel_rfl) (by kernel_rfl) (fun _ _ _ h => h) (Or.inl ⟨by kernel_rfl, fun W hSw => by go_simp⟩) hHeld ?_
                  try simp only [Act.put, List.setIfInBounds_toArray, List.set_cons_zero, List.set_cons_succ]
                  refine wpAnyH_done (by kernel_rfl) ?_ _
                  go_wp2_with fail
                  go_roundg g
                  case measure => omega
                  case rel =>
                    refine ⟨j + 1, by go_num, by omega, HM3.out, ?_⟩
                    have h50 := N50.out
                    rw [HTK.out, List.map_append, List.map_cons, List.map_nil, ← HF.out]
                    exact h50
                · have e2 : decide (j < acc.length) = false := decide_eq_false hlj
                  have hge2 : acc.length ≤ j := by omega
                  rw [List.take_of_length_le hge2] at hN1
                  rw [← HOUT.out] at hN1
                  obtain ⟨A9, c9, rfl, h9, hC9⟩ := Kd.N_reads hN1
                  have HC9 : Hid _ := hC9
                  have HB9 : Hid _ := hB1
                  clear hN1 hC9 hB1
                  go_wp2_with fail
                  go_ret2
                  exact ⟨A9, c9, rfl, h9, HC9.out, below_after HL1.out (below_after HWM.out HB9.out)⟩

end Go.Proofs.YtcjmplpfebpfpaaGreatDoor

namespace Go.Proofs.YtcjmplpfebpfpaaGreatDoor
open Go.RowKit Go.Proofs Go.MapKept Go.WideElems Go.Maps Go.Proofs.YtcjmplpfebpfpaaGreatDoorW.PrintWords Go.Proofs.YtcjmplpfebpfpaaGreatDoorW.PrintLast Go.Proofs.YtcjmplpfebpfpaaGreatDoorW.PrintMore PKindInstances
set_option linter.unusedVariables false
set_option linter.unusedSimpArgs false

def anyR (v : Value) : Option (DataW Unit × List MemPlace) := some (.lit (.bool true), [])
theorem map_owns {w : World} {b : Nat} {mv : List (ByteArray × Value)} (h : MapAt w b (kvs textV mv)) (hz : ∀ p ∈ mv, p.1.size ≤ maxLen) (hn : mv.length ≤ maxLen) :
    ∃ D : DataW Unit, w.ownsMap Tryz.prog 9 anyR b mv.length D ∧ (strKeys D).Nodup ∧ (∀ t, t ∈ strKeys D ↔ ∃ p ∈ mv, p.1.data.toList = t) ∧ Maps.size D = mv.length := by
  obtain ⟨es, c, hb, hl, hs⟩ := h
  have hes : es.size = mv.length := by
    have := congrArg List.length hl
    simpa [kvs] using this
  have hk : ∀ x ∈ es.toList, ∃ p ∈ mv, x.key = .string p.1 := by
    intro x hx
    have h1 : (x.key, x.val) ∈ kvs textV mv := by rw [← hl]; exact List.mem_map.2 ⟨x, hx, rfl⟩
    obtain ⟨p, hp, e⟩ := List.mem_map.1 h1
    exact ⟨p, hp, (Prod.mk.inj e).1.symm⟩
  have hrd : ∀ x ∈ es.toList, ∀ s : ByteArray, s.size ≤ maxLen → x.key = .string s → WideElems.rd Tryz.prog 9 anyR x = some (.string s.data.toList, .lit (.bool true)) := by
    intro x hx s hs9 e
    unfold WideElems.rd
    rw [e, WideMaps.keyOf_string_mk Tryz.underlying9 hs9]
    rfl
  have F : Fit Tryz.prog 9 anyR es c := ⟨by omega, hs, fun x hx => by
    obtain ⟨p, hp, e⟩ := hk x hx
    exact ⟨_, hrd x hx p.1 (hz p hp) e⟩⟩
  have own : w.ownsMap Tryz.prog 9 anyR b mv.length (.map ((es.toList.map (rg Tryz.prog 9 anyR)).foldr DataW.insert [])) := ⟨es, c, hb, F, by omega, rfl⟩
  refine ⟨_, own, ?_, ?_, ?_⟩
  · show (((es.toList.map (rg Tryz.prog 9 anyR)).foldr DataW.insert []).map fun p => strOf p.1).Nodup
    refine (((WideShapes.sorted_perm _).map fun p => strOf p.1).nodup_iff).2 ?_
    rw [List.map_map]
    refine List.pairwise_map.2 ?_
    have hp := ((MapKept.stamped_iff es c).1 hs).2.2
    refine hp.imp_of_mem ?_
    intro x y hx hy hne e
    obtain ⟨p, hp, e1⟩ := hk x hx
    obtain ⟨q, hq, e2⟩ := hk y hy
    simp only [Function.comp_def] at e
    rw [rg_of (hrd x hx p.1 (hz p hp) e1), rg_of (hrd y hy q.1 (hz q hq) e2)] at e
    apply hne
    rw [e1, e2]
    have e3 : p.1.data.toList = q.1.data.toList := e
    congr 1
    have := Array.toList_inj.1 e3
    cases hp1 : p.1; cases hq1 : q.1
    rw [hp1, hq1] at this
    simp only [] at this
    rw [this]
  · intro t
    show t ∈ (((es.toList.map (rg Tryz.prog 9 anyR)).foldr DataW.insert []).map fun p => strOf p.1) ↔ _
    rw [((WideShapes.sorted_perm _).map fun p => strOf p.1).mem_iff, List.map_map, List.mem_map]
    constructor
    · rintro ⟨x, hx, e⟩
      obtain ⟨p, hp, e1⟩ := hk x hx
      simp only [Function.comp_def] at e
      rw [rg_of (hrd x hx p.1 (hz p hp) e1)] at e
      exact ⟨p, hp, e⟩
    · rintro ⟨p, hp, e⟩
      have h1 : (Value.string p.1, p.2) ∈ es.toList.map (fun e => (e.key, e.val)) := by rw [hl]; exact List.mem_map.2 ⟨p, hp, rfl⟩
      obtain ⟨x, hx, e2⟩ := List.mem_map.1 h1
      refine ⟨x, hx, ?_⟩
      simp only [Function.comp_def]
      rw [rg_of (hrd x hx p.1 (hz p hp) (Prod.mk.inj e2).1)]
      exact e
  · show (((es.toList.map (rg Tryz.prog 9 anyR)).foldr DataW.insert [])).length = _
    rw [length_sorted, List.length_map]
    exact hes
end Go.Proofs.YtcjmplpfebpfpaaGreatDoor

namespace Go.Proofs.YtcjmplpfebpfpaaGreatDoor
open Go.RowKit Go.Proofs Go.Proofs.YtcjmplpfebpfpaaGreatDoorW.PrintWords Go.Proofs.YtcjmplpfebpfpaaGreatDoorW.PrintLast Go.Proofs.YtcjmplpfebpfpaaGreatDoorW.PrintMore PKindInstances
set_option linter.unusedVariables false
set_option linter.unusedSimpArgs false

theorem two_row {w : World} {b : Nat} {x y : S24} {A B : Option Addr} {c d : Nat} (h : w.heap[b]? = some (.cells #[.int .i64 x.f0, .int .i64 x.f1, .string x.f2, .slice A x.f3.length c, .int .i64 y.f0, .int .i64 y.f1, .string y.f2, .slice B y.f3.length d] 24 (0, 0)))
    (hx : Kd.C k24 w A x.f3.length x.f3) (hc : x.f3.length ≤ c) (hy : Kd.C k24 w B y.f3.length y.f3) (hd : y.f3.length ≤ d) : Kd.C k24 w (some ⟨b, 0, none⟩) [x, y].length [x, y] := by
  refine ⟨rfl, by simp, fun _ => ⟨_, rfl, fun j p hj => ?_⟩⟩
  match j, hj with
  | 0, hj =>
    obtain rfl : x = p := by simpa using hj
    refine ⟨_, rfl, k24_mk w x hc hx, fun i u hu => ?_⟩
    match i, hu with
    | 0, hu => obtain rfl := Option.some.inj hu; simp [World.cell?, h, Addr.add]
    | 1, hu => obtain rfl := Option.some.inj hu; simp [World.cell?, h, Addr.add]
    | 2, hu => obtain rfl := Option.some.inj hu; simp [World.cell?, h, Addr.add]
    | 3, hu => obtain rfl := Option.some.inj hu; simp [World.cell?, h, Addr.add]
    | i + 4, hu => simp at hu
  | 1, hj =>
    obtain rfl : y = p := by simpa using hj
    refine ⟨_, rfl, k24_mk w y hd hy, fun i u hu => ?_⟩
    have e : k24.sz = 4 := rfl
    match i, hu with
    | 0, hu => obtain rfl := Option.some.inj hu; simp [World.cell?, h, Addr.add, e]
    | 1, hu => obtain rfl := Option.some.inj hu; simp [World.cell?, h, Addr.add, e]
    | 2, hu => obtain rfl := Option.some.inj hu; simp [World.cell?, h, Addr.add, e]
    | 3, hu => obtain rfl := Option.some.inj hu; simp [World.cell?, h, Addr.add, e]
    | i + 4, hu => simp at hu
  | j + 2, hj => simp at hj
theorem one_list {w : World} {b : Nat} {t : TypeId} {l : List S24} {A : Option Addr} {c : Nat} (h : w.heap[b]? = some (.cells #[.slice A l.length c] t (0, 0))) (ha : Kd.C k24 w A l.length l) (hc : l.length ≤ c) :
    Kd.C (Kd.slice 22 k24) w (some ⟨b, 0, none⟩) [l].length [l] := by
  refine ⟨rfl, by simp, fun _ => ⟨_, rfl, fun j p hj => ?_⟩⟩
  match j, hj with
  | 0, hj =>
    obtain rfl : l = p := by simpa using hj
    refine ⟨[.slice A l.length c], rfl, ⟨A, c, rfl, hc, ha⟩, fun i u hu => ?_⟩
    match i, hu with
    | 0, hu =>
      obtain rfl : Value.slice A l.length c = u := by simpa using hu
      simp [World.cell?, h, Addr.add]
    | i + 1, hu => simp at hu
  | j + 1, hj => simp at hj
theorem info51 : (Tryz.prog.info? 51).map (fun i => (i.zero, i.size, i.bytes)) = some (some (.agg #[(.string ⟨#[]⟩), (.int .i64 0), (.int .i64 0), (.string ⟨#[]⟩), (.slice none 0 0)]), 5, 72) := by kernel_rfl
theorem toAt_keys {W0 : World} : ∀ {m : List (ByteArray × S24)} {n : List (ByteArray × Value)}, ToAt W0 m n → n.map (·.1) = m.map (·.1)
  | [], [], _ => rfl
  | (a, x) :: m, (b, v) :: n, h => by obtain ⟨rfl, _, h2⟩ := h; simp only [List.map_cons, toAt_keys h2]
theorem putT_keys : ∀ (m : List (ByteArray × S24)) (k : ByteArray) (x : S24), (∀ p ∈ putT m k x, p ∈ m ∨ p = (k, x)) ∧ (putT m k x).length ≤ m.length + 1
  | [], k, x => by simp [putT]
  | (a, y) :: m, k, x => by
    have ih := putT_keys m k x
    simp only [putT]
    split
    · rename_i h
      refine ⟨fun p hp => ?_, by simp⟩
      rcases List.mem_cons.1 hp with hp | hp
      · right; rw [hp, h]
      · exact .inl (List.mem_cons_of_mem _ hp)
    · refine ⟨fun p hp => ?_, by simp only [List.length_cons]; have := ih.2; omega⟩
      rcases List.mem_cons.1 hp with hp | hp
      · exact .inl (by rw [hp]; exact List.mem_cons_self)
      · rcases ih.1 p hp with h | h
        · exact .inl (List.mem_cons_of_mem _ h)
        · exact .inr h
mutual
theorem matchM_grows (vs : List ByteArray) : ∀ (x y : S24) (b : Bool) (mt : List (ByteArray × S24)), (∀ p ∈ mt, p.1 ∈ vs) → (∀ p ∈ (matchM vs x y b mt).2, p.1 ∈ vs) ∧ (matchM vs x y b mt).2.length ≤ mt.length + siz x
  | ⟨a, n, s, l⟩, y, b, mt, h1 => by
    simp only [matchM]
    have hp : 1 ≤ siz ⟨a, n, s, l⟩ := by simp only [siz]; omega
    split
    · rename_i hv
      split
      · have := putT_keys mt s y
        refine ⟨fun p hp => ?_, by have := this.2; simp only []; omega⟩
        rcases this.1 p hp with h | h
        · exact h1 p h
        · rw [h]; exact hv.2.2
      · exact ⟨h1, by simp only []; omega⟩
    · split
      · exact ⟨h1, by simp only []; omega⟩
      · split
        · exact ⟨h1, by simp only []; omega⟩
        · have := matchL_grows vs (!b && isFunW (headL l)) b 0 l y.f3 mt h1
          refine ⟨this.1, ?_⟩
          have := this.2
          simp only [siz]
          omega
theorem matchL_grows (vs : List ByteArray) (fn bare : Bool) : ∀ (i : Nat) (la lb : List S24) (mt : List (ByteArray × S24)), (∀ p ∈ mt, p.1 ∈ vs) → (∀ p ∈ (matchL vs fn bare i la lb mt).2, p.1 ∈ vs) ∧ (matchL vs fn bare i la lb mt).2.length ≤ mt.length + sizs la
  | i, [], lb, mt, h1 => by simp only [matchL]; exact ⟨h1, by omega⟩
  | i, x :: la, [], mt, h1 => by simp only [matchL]; exact ⟨h1, by omega⟩
  | i, x :: la, y :: lb, mt, h1 => by
    simp only [matchL, sizs]
    have h3 := matchL_grows vs fn bare (i + 1) la lb mt h1
    have h4 := matchM_grows vs x y (fn && decide (i = 1) && (x.f0 == 3)) mt h1
    have h5 := matchL_grows vs fn bare (i + 1) la lb (matchM vs x y (fn && decide (i = 1) && (x.f0 == 3)) mt).2 h4.1
    split
    · split
      · exact ⟨h3.1, by have := h3.2; omega⟩
      · exact ⟨h1, by simp only []; omega⟩
    · split
      · exact ⟨h5.1, by have := h5.2; have := h4.2; omega⟩
      · exact ⟨h4.1, by have := h4.2; simp only []; omega⟩
end
theorem lookT_none : ∀ {m : List (ByteArray × S24)} {k : ByteArray}, lookT m k = none → ∀ p ∈ m, p.1 ≠ k
  | [], k, _, p, hp => absurd hp List.not_mem_nil
  | (a, x) :: m, k, h, p, hp => by
    simp only [lookT] at h
    split at h
    · cases h
    · rename_i hk
      rcases List.mem_cons.1 hp with hp | hp
      · rw [hp]; exact fun e => hk e.symm
      · exact lookT_none h p hp
def kOut (mt : List (ByteArray × S24)) (T : List ByteArray) : List S51 := T.map fun s => ⟨s, (lookT mt s).getD z24⟩
def KIGot (w : World) (mt : List (ByteArray × S24)) (e : Ending) (w' : World) : Prop :=
  ∃ T A c, Asc T ∧ (∀ s, s ∈ T ↔ ∃ p ∈ mt, p.1 = s) ∧ e = .returned (.tuple #[.slice A T.length c, .bool true]) ∧ T.length ≤ c ∧ Kd.C k51 w' A T.length (kOut mt T) ∧ Below w.heap.size w w'
def KIPost (w : World) (vs : List ByteArray) (x y : S24) (e : Ending) (w' : World) : Prop :=
  if (namesM [] vs && rowsM [[x, y]]) && (matchM vs x y false []).1 then
    KIGot w (matchM vs x y false []).2 e w'
  else e = .returned (.tuple #[.slice none 0 0, .bool false]) ∧ Below w.heap.size w w'
/-- What holds of the loop. -/
def KiRel (WM : World) (mt : List (ByteArray × S24)) (T : List ByteArray) (k : Nat) (x10 x45 : Value) (wr : World) : Prop :=
  ∃ (i : Nat), x45 = .int .i64 (i : Int) ∧ k + i = T.length ∧ Below WM.heap.size WM wr ∧ Kd.N k51 51 wr WM.heap.size (fun _ => True) x10 (kOut mt (T.take i))
set_option maxRecDepth 100000 in
set_option maxHeartbeats 16000000 in
theorem KInstance_any (vs : List ByteArray) (w : World) (x y : S24) (A B V : Option Addr) (c d cv : Nat)
    (ha : Kd.C k24 w A x.f3.length x.f3) (hac : x.f3.length ≤ c) (haw : wid x < 9000000) (haz : siz x < 9000000) (hb : Kd.C k24 w B y.f3.length y.f3) (hbc : y.f3.length ≤ d) (hbw : wid y < 9000000) (hv : Kd.C Kd.string w V vs.length vs) (hvc : vs.length ≤ cv) (hvn : vs.length < 9000000) (hvz : ∀ v ∈ vs, v.size < 8000000) :
    Calls Tryz.prog 26 #[formV x.f0 x.f1 x.f2 A x.f3.length c, formV y.f0 y.f1 y.f2 B y.f3.length d, .slice V vs.length cv] w (KIPost w vs x y) := by
  have hu24 := Tryz.underlying24
  have hu72 := Tryz.underlying72
  have hu9 := Tryz.underlying9
  have F := four_boxes w (Obj.cells #[.int .i64 x.f0, .int .i64 x.f1, .string x.f2, .slice A x.f3.length c] 24) (Obj.cells #[.int .i64 y.f0, .int .i64 y.f1, .string y.f2, .slice B y.f3.length d] 24) (.cells #[.int .i64 x.f0, .int .i64 x.f1, .string x.f2, .slice A x.f3.length c, .int .i64 y.f0, .int .i64 y.f1, .string y.f2, .slice B y.f3.length d] 24) (.cells #[.slice (some ⟨w.heap.size + 1 + 1, 0, none⟩) 2 2] 22)
  have OP := open_any vs [[x, y]] V (some ⟨w.heap.size + 1 + 1 + 1, 0, none⟩) cv 1 _ (Kd.C_below hv F.1) hvc (one_list (l := [x, y]) F.2.2 (two_row F.2.1 (Kd.C_below ha F.1) hac (Kd.C_below hb F.1) hbc) (Nat.le_refl 2)) (Nat.le_refl 1) hvn (by simp) (fun v h => ⟨leafC_all _, hvz v h⟩) (by
    intro l hl
    obtain rfl := List.mem_singleton.1 hl
    refine ⟨by simp, fun z hz => ⟨allC_all z, ?_⟩⟩
    rcases List.mem_cons.1 hz with rfl | hz
    · exact haw
    · obtain rfl := List.mem_singleton.1 hz; exact hbw)
  have OP : Hid _ := OP
  have HB0 : Hid _ := F.1
  obtain ⟨f1, f2, fb⟩ := boxes2 w (Obj.cells #[.int .i64 x.f0, .int .i64 x.f1, .string x.f2, .slice A x.f3.length c] 24) (Obj.cells #[.int .i64 y.f0, .int .i64 y.f1, .string y.f2, .slice B y.f3.length d] 24)
  have X1 := (below_alloc (below_alloc (Below.refl _ _) (.cells #[.int .i64 x.f0, .int .i64 x.f1, .string x.f2, .slice A x.f3.length c, .int .i64 y.f0, .int .i64 y.f1, .string y.f2, .slice B y.f3.length d] 24)) (.cells #[.slice (some ⟨w.heap.size + 1 + 1, 0, none⟩) 2 2] 22) : Below ((w.alloc (Obj.cells #[.int .i64 x.f0, .int .i64 x.f1, .string x.f2, .slice A x.f3.length c] 24)).alloc (Obj.cells #[.int .i64 y.f0, .int .i64 y.f1, .string y.f2, .slice B y.f3.length d] 24)).heap.size ((w.alloc (Obj.cells #[.int .i64 x.f0, .int .i64 x.f1, .string x.f2, .slice A x.f3.length c] 24)).alloc (Obj.cells #[.int .i64 y.f0, .int .i64 y.f1, .string y.f2, .slice B y.f3.length d] 24)) _)
  have HX1 : Hid _ := blk_below f1 X1
  have HX2 : Hid _ := blk_below f2 X1
  have HA : Hid _ := ha
  have HBB : Hid _ := hb
  have HVZ : Hid _ := hvz
  unfold KIPost
  obtain ⟨R, hR⟩ : ∃ R, R = (namesM [] vs && rowsM [[x, y]]) := ⟨_, rfl⟩
  rw [← hR] at OP ⊢
  have GRM : Hid _ := matchM_grows vs x y false [] (fun p hp => absurd hp List.not_mem_nil)
  obtain ⟨Q, hQ⟩ : ∃ Q, Q = matchM vs x y false [] := ⟨_, rfl⟩
  rw [← hQ] at GRM ⊢
  have HQ : Hid _ := hQ
  obtain ⟨qm, mt⟩ := Q
  simp only [] at GRM
  have HAX := allC_all x
  clear F X1 f1 f2 fb hR hQ ha hb hv hvz HAX
  obtain ⟨x0, x1, x2, x3⟩ := x
  obtain ⟨y0, y1, y2, y3⟩ := y
  simp only [] at hac hbc HA HBB
  go_enter Tryz.func26, Tryz.ntmps26
  go_wp2_with fail
  refine Calls.mono OP.out ?_
  rintro e w1 ⟨rfl, hS, B1⟩
  have HS1 : Hid _ := hS
  have HBx : Hid _ := B1
  have HX3 : Hid _ := blk_below HX1.out B1
  have HX4 : Hid _ := blk_below HX2.out B1
  have HB1 : Hid (Below w.heap.size w w1) := below_after HB0.out B1
  have hlt1 := blk_lt HX1.out
  have hlt2 := blk_lt HX2.out
  clear B1 hS HX1 HX2 OP
  cases R with
  | false =>
    rw [if_neg (by simp)]
    simp only [Bool.false_eq_true, if_false]
    generalize hbA : w.heap.size = bA at *
    go_wp2_with fail
    refine wp_region_held_drew (S := fun _ => True) (by kernel_rfl) (trivial) (fun hHeld => ?_)
    refine takeV 0 (some 22) (.bool false) rfl rfl (by kernel_rfl) (by kernel_rfl) (by kernel_rfl) (fun _ _ _ h => h) (Or.inl ⟨by kernel_rfl, fun W hSw => by go_simp⟩) hHeld ?_
    try simp only [Act.put, List.setIfInBounds_toArray, List.set_cons_zero, List.set_cons_succ]
    refine takeV 1 (some 23) (.bool true) rfl rfl (by kernel_rfl) (by kernel_rfl) (by kernel_rfl) (fun _ _ _ h => h) (Or.inl ⟨by kernel_rfl, fun W hSw => by go_simp⟩) hHeld ?_
    try simp only [Act.put, List.setIfInBounds_toArray, List.set_cons_zero, List.set_cons_succ]
    refine takeV 2 (some 24) (.bool true) rfl rfl (by kernel_rfl) (by kernel_rfl) (by kernel_rfl) (fun _ _ _ h => h) (Or.inl ⟨by kernel_rfl, fun W hSw => by go_simp⟩) hHeld ?_
    try simp only [Act.put, List.setIfInBounds_toArray, List.set_cons_zero, List.set_cons_succ]
    refine takeV 3 (some 25) undef rfl rfl (by kernel_rfl) (by kernel_rfl) (by kernel_rfl) (fun _ _ _ h => h) (Or.inr ⟨by kernel_rfl, rfl⟩) hHeld ?_
    try simp only [Act.put, List.setIfInBounds_toArray, List.set_cons_zero, List.set_cons_succ]
    refine takeV 4 (some 26) undef rfl rfl (by kernel_rfl) (by kernel_rfl) (by kernel_rfl) (fun _ _ _ h => h) (Or.inr ⟨by kernel_rfl, rfl⟩) hHeld ?_
    try simp only [Act.put, List.setIfInBounds_toArray, List.set_cons_zero, List.set_cons_succ]
    refine takeV 5 (some 27) undef rfl rfl (by kernel_rfl) (by kernel_rfl) (by kernel_rfl) (fun _ _ _ h => h) (Or.inr ⟨by kernel_rfl, rfl⟩) hHeld ?_
    try simp only [Act.put, List.setIfInBounds_toArray, List.set_cons_zero, List.set_cons_succ]
    refine takeV 6 (some 28) undef rfl rfl (by kernel_rfl) (by kernel_rfl) (by kernel_rfl) (fun _ _ _ h => h) (Or.inr ⟨by kernel_rfl, rfl⟩) hHeld ?_
    try simp only [Act.put, List.setIfInBounds_toArray, List.set_cons_zero, List.set_cons_succ]
    refine takeV 7 (some 29) undef rfl rfl (by kernel_rfl) (by kernel_rfl) (by kernel_rfl) (fun _ _ _ h => h) (Or.inr ⟨by kernel_rfl, rfl⟩) hHeld ?_
    try simp only [Act.put, List.setIfInBounds_toArray, List.set_cons_zero, List.set_cons_succ]
    refine takeV 8 (some 30) undef rfl rfl (by kernel_rfl) (by kernel_rfl) (by kernel_rfl) (fun _ _ _ h => h) (Or.inr ⟨by kernel_rfl, rfl⟩) hHeld ?_
    try simp only [Act.put, List.setIfInBounds_toArray, List.set_cons_zero, List.set_cons_succ]
    refine takeV 9 (some 31) undef rfl rfl (by kernel_rfl) (by kernel_rfl) (by kernel_rfl) (fun _ _ _ h => h) (Or.inr ⟨by kernel_rfl, rfl⟩) hHeld ?_
    try simp only [Act.put, List.setIfInBounds_toArray, List.set_cons_zero, List.set_cons_succ]
    refine takeV 10 (some 32) undef rfl rfl (by kernel_rfl) (by kernel_rfl) (by kernel_rfl) (fun _ _ _ h => h) (Or.inr ⟨by kernel_rfl, rfl⟩) hHeld ?_
    try simp only [Act.put, List.setIfInBounds_toArray, List.set_cons_zero, List.set_cons_succ]
    refine takeV 11 (some 33) undef rfl rfl (by kernel_rfl) (by kernel_rfl) (by kernel_rfl) (fun _ _ _ h => h) (Or.inr ⟨by kernel_rfl, rfl⟩) hHeld ?_
    try simp only [Act.put, List.setIfInBounds_toArray, List.set_cons_zero, List.set_cons_succ]
    refine takeV 12 (some 34) undef rfl rfl (by kernel_rfl) (by kernel_rfl) (by kernel_rfl) (fun _ _ _ h => h) (Or.inr ⟨by kernel_rfl, rfl⟩) hHeld ?_
    try simp only [Act.put, List.setIfInBounds_toArray, List.set_cons_zero, List.set_cons_succ]
    refine takeV 13 (some 35) undef rfl rfl (by kernel_rfl) (by kernel_rfl) (by kernel_rfl) (fun _ _ _ h => h) (Or.inr ⟨by kernel_rfl, rfl⟩) hHeld ?_
    try simp only [Act.put, List.setIfInBounds_toArray, List.set_cons_zero, List.set_cons_succ]
    refine takeV 14 (some 36) undef rfl rfl (by kernel_rfl) (by kernel_rfl) (by kernel_rfl) (fun _ _ _ h => h) (Or.inr ⟨by kernel_rfl, rfl⟩) hHeld ?_
    try simp only [Act.put, List.setIfInBounds_toArray, List.set_cons_zero, List.set_cons_succ]
    refine takeV 15 (some 37) (.bool true) rfl rfl (by kernel_rfl) (by kernel_rfl) (by kernel_rfl) (fun _ _ _ h => h) (Or.inl ⟨by kernel_rfl, fun W hSw => by go_simp⟩) hHeld ?_
    try simp only [Act.put, List.setIfInBounds_toArray, List.set_cons_zero, List.set_cons_succ]
    refine wpAnyH_done (by kernel_rfl) ?_ _
    go_wp2_with fail
    go_ret2
    exact ⟨rfl, by subst hbA; exact below_drew HB1.out⟩
  | true =>
    have hS9 := HS1.out rfl
    have hsz4 := HB0.out.size
    generalize hW4 : (((w.alloc _).alloc _).alloc _).alloc _ = W4 at *
    generalize hsp : W4.heap.size + 1 + 1 = sp at *
    generalize hvb : W4.heap.size = vb at *
    generalize htb9 : vb + 1 = tb at *
    simp only [if_true]
    have htb : w.heap.size ≤ tb := by omega
    generalize hbA : w.heap.size = bA at *
    generalize hbB : bA + 1 = bB at *
    obtain ⟨p0, p1, p2, p3⟩ := cells4 HX3.out
    obtain ⟨q0, q1, q2, q3⟩ := cells4 HX4.out
    have c0 := hS9.c0
    have c1 := hS9.c1
    have GS : Hid (∀ W, Below w1.heap.size w1 W → (W.cell? ⟨bA, 0, none⟩ = some (.int .i64 x0) ∧ W.cell? ⟨bA, 1, none⟩ = some (.int .i64 x1) ∧ W.cell? ⟨bA, 2, none⟩ = some (.string x2) ∧ W.cell? ⟨bA, 3, none⟩ = some (.slice A x3.length c)) ∧ (W.cell? ⟨bB, 0, none⟩ = some (.int .i64 y0) ∧ W.cell? ⟨bB, 1, none⟩ = some (.int .i64 y1) ∧ W.cell? ⟨bB, 2, none⟩ = some (.string y2) ∧ W.cell? ⟨bB, 3, none⟩ = some (.slice B y3.length d)) ∧ W.cell? ⟨sp, 0, none⟩ = some (.map (some vb)) ∧ W.cell? ⟨sp, 1, none⟩ = some (.map (some tb))) := fun W h => ⟨⟨pw_cell_below h p0, pw_cell_below h p1, pw_cell_below h p2, pw_cell_below h p3⟩, ⟨pw_cell_below h q0, pw_cell_below h q1, pw_cell_below h q2, pw_cell_below h q3⟩, pw_cell_below h c0, pw_cell_below h c1⟩
    have n1 : some bA ≠ some tb := fun h => by have := Option.some.inj h; omega
    have n2 : some bB ≠ some tb := fun h => by have := Option.some.inj h; omega
    have n3 : some sp ≠ some tb := fun h => by have := Option.some.inj h; omega
    have GS2 : Hid (∀ W, w1.grownBy W (some tb) → (W.cell? ⟨bA, 0, none⟩ = some (.int .i64 x0) ∧ W.cell? ⟨bA, 1, none⟩ = some (.int .i64 x1) ∧ W.cell? ⟨bA, 2, none⟩ = some (.string x2) ∧ W.cell? ⟨bA, 3, none⟩ = some (.slice A x3.length c)) ∧ (W.cell? ⟨bB, 0, none⟩ = some (.int .i64 y0) ∧ W.cell? ⟨bB, 1, none⟩ = some (.int .i64 y1) ∧ W.cell? ⟨bB, 2, none⟩ = some (.string y2) ∧ W.cell? ⟨bB, 3, none⟩ = some (.slice B y3.length d)) ∧ W.cell? ⟨sp, 0, none⟩ = some (.map (some vb)) ∧ W.cell? ⟨sp, 1, none⟩ = some (.map (some tb))) := fun W h => ⟨⟨cell_grown h p0 n1, cell_grown h p1 n1, cell_grown h p2 n1, cell_grown h p3 n1⟩, ⟨cell_grown h q0 n2, cell_grown h q1 n2, cell_grown h q2 n2, cell_grown h q3 n2⟩, cell_grown h c0 n3, cell_grown h c1 n3⟩
    have MA : Hid (∀ wq, Below w1.heap.size w1 wq → Calls Tryz.prog 63 #[formV x0 x1 x2 A x3.length c, formV y0 y1 y2 B y3.length d, .map (some vb), .map (some tb), .bool false] wq (MaPost w wq vb sp vb tb vs (qm, mt))) := by
      intro wq hwq
      rw [HQ.out]
      exact match_ok vs ⟨x0, x1, x2, x3⟩ w wq vb sp vb tb [] [] ⟨y0, y1, y2, y3⟩ false A B c d (hS9.below hwq) trivial (by subst hbA; exact below_after HB1.out hwq) (by omega) HA.out hac haw HBB.out hbc hbw
    have HS9 : Hid _ := hS9
    clear hS9 n1 n2 n3
    cases qm with
    | false =>
      go_wp2_with fail
      clear p0 p1 p2 p3 q0 q1 q2 q3 c0 c1
      refine wp_region_held_drew (S := fun W => (W.cell? ⟨bA, 0, none⟩ = some (.int .i64 x0) ∧ W.cell? ⟨bA, 1, none⟩ = some (.int .i64 x1) ∧ W.cell? ⟨bA, 2, none⟩ = some (.string x2) ∧ W.cell? ⟨bA, 3, none⟩ = some (.slice A x3.length c)) ∧ (W.cell? ⟨bB, 0, none⟩ = some (.int .i64 y0) ∧ W.cell? ⟨bB, 1, none⟩ = some (.int .i64 y1) ∧ W.cell? ⟨bB, 2, none⟩ = some (.string y2) ∧ W.cell? ⟨bB, 3, none⟩ = some (.slice B y3.length d)) ∧ W.cell? ⟨sp, 0, none⟩ = some (.map (some vb)) ∧ W.cell? ⟨sp, 1, none⟩ = some (.map (some tb))) (by kernel_rfl) (GS.out _ (below_drew (Below.refl _ _))) (fun hHeld => ?_)
      refine takeV 0 (some 22) (.bool true) rfl rfl (by kernel_rfl) (by kernel_rfl) (by kernel_rfl) (fun _ _ _ h => h) (Or.inl ⟨by kernel_rfl, fun W hSw => by go_simp⟩) hHeld ?_
      try simp only [Act.put, List.setIfInBounds_toArray, List.set_cons_zero, List.set_cons_succ]
      refine takeV 1 (some 23) (.bool false) rfl rfl (by kernel_rfl) (by kernel_rfl) (by kernel_rfl) (fun _ _ _ h => h) (Or.inl ⟨by kernel_rfl, fun W hSw => by go_simp⟩) hHeld ?_
      try simp only [Act.put, List.setIfInBounds_toArray, List.set_cons_zero, List.set_cons_succ]
      refine takeV 2 (some 24) (.bool false) rfl rfl (by kernel_rfl) (by kernel_rfl) (by kernel_rfl) (fun _ _ _ h => h) (Or.inl ⟨by kernel_rfl, fun W hSw => by go_simp⟩) hHeld ?_
      try simp only [Act.put, List.setIfInBounds_toArray, List.set_cons_zero, List.set_cons_succ]
      refine takeV 3 (some 25) (formV x0 x1 x2 A x3.length c) rfl rfl (by kernel_rfl) (by kernel_rfl) (by kernel_rfl) (fun _ _ _ h => h) (Or.inl ⟨by kernel_rfl, fun W hSw => by obtain ⟨⟨a0, a1, a2, a3⟩, ⟨b0, b1, b2, b3⟩, s0, s1⟩ := hSw; go_simp⟩) hHeld ?_
      try simp only [Act.put, List.setIfInBounds_toArray, List.set_cons_zero, List.set_cons_succ]
      refine takeV 4 (some 26) (formV y0 y1 y2 B y3.length d) rfl rfl (by kernel_rfl) (by kernel_rfl) (by kernel_rfl) (fun _ _ _ h => h) (Or.inl ⟨by kernel_rfl, fun W hSw => by obtain ⟨⟨a0, a1, a2, a3⟩, ⟨b0, b1, b2, b3⟩, s0, s1⟩ := hSw; go_simp⟩) hHeld ?_
      try simp only [Act.put, List.setIfInBounds_toArray, List.set_cons_zero, List.set_cons_succ]
      refine takeV 5 (some 27) (.pointer (some ⟨sp, 0, none⟩)) rfl rfl (by kernel_rfl) (by kernel_rfl) (by kernel_rfl) (fun _ _ _ h => h) (Or.inl ⟨by kernel_rfl, fun W hSw => by go_simp⟩) hHeld ?_
      try simp only [Act.put, List.setIfInBounds_toArray, List.set_cons_zero, List.set_cons_succ]
      refine takeV 6 (some 28) (.pointer (some ⟨sp, 0, none⟩)) rfl rfl (by kernel_rfl) (by kernel_rfl) (by kernel_rfl) (fun _ _ _ h => h) (Or.inl ⟨by kernel_rfl, fun W hSw => by go_simp⟩) hHeld ?_
      try simp only [Act.put, List.setIfInBounds_toArray, List.set_cons_zero, List.set_cons_succ]
      refine takeV 7 (some 29) (.pointer (some ⟨sp, 0, none⟩)) rfl rfl (by kernel_rfl) (by kernel_rfl) (by kernel_rfl) (fun _ _ _ h => h) (Or.inl ⟨by kernel_rfl, fun W hSw => by go_simp⟩) hHeld ?_
      try simp only [Act.put, List.setIfInBounds_toArray, List.set_cons_zero, List.set_cons_succ]
      refine takeV 8 (some 30) (.map (some vb)) rfl rfl (by kernel_rfl) (by kernel_rfl) (by kernel_rfl) (fun _ _ _ h => h) (Or.inl ⟨by kernel_rfl, fun W hSw => by obtain ⟨⟨a0, a1, a2, a3⟩, ⟨b0, b1, b2, b3⟩, s0, s1⟩ := hSw; go_simp⟩) hHeld ?_
      try simp only [Act.put, List.setIfInBounds_toArray, List.set_cons_zero, List.set_cons_succ]
      refine takeV 9 (some 31) (.pointer (some ⟨sp, 0, none⟩)) rfl rfl (by kernel_rfl) (by kernel_rfl) (by kernel_rfl) (fun _ _ _ h => h) (Or.inl ⟨by kernel_rfl, fun W hSw => by go_simp⟩) hHeld ?_
      try simp only [Act.put, List.setIfInBounds_toArray, List.set_cons_zero, List.set_cons_succ]
      refine takeV 10 (some 32) (.pointer (some ⟨sp, 0, none⟩)) rfl rfl (by kernel_rfl) (by kernel_rfl) (by kernel_rfl) (fun _ _ _ h => h) (Or.inl ⟨by kernel_rfl, fun W hSw => by go_simp⟩) hHeld ?_
      try simp only [Act.put, List.setIfInBounds_toArray, List.set_cons_zero, List.set_cons_succ]
      refine takeV 11 (some 33) (.pointer (some ⟨sp, 1, none⟩)) rfl rfl (by kernel_rfl) (by kernel_rfl) (by kernel_rfl) (fun _ _ _ h => h) (Or.inl ⟨by kernel_rfl, fun W hSw => by go_simp⟩) hHeld ?_
      try simp only [Act.put, List.setIfInBounds_toArray, List.set_cons_zero, List.set_cons_succ]
      refine takeV 12 (some 34) (.map (some tb)) rfl rfl (by kernel_rfl) (by kernel_rfl) (by kernel_rfl) (fun _ _ _ h => h) (Or.inl ⟨by kernel_rfl, fun W hSw => by obtain ⟨⟨a0, a1, a2, a3⟩, ⟨b0, b1, b2, b3⟩, s0, s1⟩ := hSw; go_simp⟩) hHeld ?_
      try simp only [Act.put, List.setIfInBounds_toArray, List.set_cons_zero, List.set_cons_succ]
      refine wpAnyH_ready (rs := [13]) (by kernel_rfl) (by simp) ?_
      refine AllReadyH.cons rfl (fun K hK => ?_) AllReadyH.nil
      clear hHeld
      go_simp
      go_at_call 63
      refine Calls.mono (MA.out _ (below_drew (Below.refl _ _))) ?_
      rintro e w2 ⟨rfl, hg2, mtv, hS2, hT2⟩
      have HG2 : Hid (w1.grownBy w2 (some tb)) := (grown_of_below (below_drew (Below.refl w1.heap.size w1)) (some tb)).trans hg2
      have HS2 : Hid _ := hS2
      have HT2 : Hid _ := hT2
      have HB2 : Hid (Below w.heap.size w w2) := (by subst hbA; exact pw_below_grown HB1.out (some tb) HB1.out.size HG2.out (fun k hk => by cases hk; exact htb))
      clear hg2 hS2 hT2
      go_wp2_with fail
      refine hK.out _ _ (GS2.out _ HG2.out) (fun hHeld => ?_)
      clear hK K
      try simp only [Act.put, List.setIfInBounds_toArray, List.set_cons_zero, List.set_cons_succ]
      refine takeV 14 (some 36) (.bool true) rfl rfl (by kernel_rfl) (by kernel_rfl) (by kernel_rfl) (fun _ _ _ h => h) (Or.inl ⟨by kernel_rfl, fun W hSw => by go_simp⟩) hHeld ?_
      try simp only [Act.put, List.setIfInBounds_toArray, List.set_cons_zero, List.set_cons_succ]
      refine takeV 15 (some 37) (.bool true) rfl rfl (by kernel_rfl) (by kernel_rfl) (by kernel_rfl) (fun _ _ _ h => h) (Or.inl ⟨by kernel_rfl, fun W hSw => by go_simp⟩) hHeld ?_
      try simp only [Act.put, List.setIfInBounds_toArray, List.set_cons_zero, List.set_cons_succ]
      refine wpAnyH_done (by kernel_rfl) ?_ _
      go_wp2_with fail
      go_ret2
      exact ⟨rfl, by subst hbA; exact HB2.out⟩
    | true =>
      go_wp2_with fail
      clear p0 p1 p2 p3 q0 q1 q2 q3 c0 c1
      refine wp_region_held_drew (S := fun W => (W.cell? ⟨bA, 0, none⟩ = some (.int .i64 x0) ∧ W.cell? ⟨bA, 1, none⟩ = some (.int .i64 x1) ∧ W.cell? ⟨bA, 2, none⟩ = some (.string x2) ∧ W.cell? ⟨bA, 3, none⟩ = some (.slice A x3.length c)) ∧ (W.cell? ⟨bB, 0, none⟩ = some (.int .i64 y0) ∧ W.cell? ⟨bB, 1, none⟩ = some (.int .i64 y1) ∧ W.cell? ⟨bB, 2, none⟩ = some (.string y2) ∧ W.cell? ⟨bB, 3, none⟩ = some (.slice B y3.length d)) ∧ W.cell? ⟨sp, 0, none⟩ = some (.map (some vb)) ∧ W.cell? ⟨sp, 1, none⟩ = some (.map (some tb))) (by kernel_rfl) (GS.out _ (below_drew (Below.refl _ _))) (fun hHeld => ?_)
      refine takeV 0 (some 22) (.bool true) rfl rfl (by kernel_rfl) (by kernel_rfl) (by kernel_rfl) (fun _ _ _ h => h) (Or.inl ⟨by kernel_rfl, fun W hSw => by go_simp⟩) hHeld ?_
      try simp only [Act.put, List.setIfInBounds_toArray, List.set_cons_zero, List.set_cons_succ]
      refine takeV 1 (some 23) (.bool false) rfl rfl (by kernel_rfl) (by kernel_rfl) (by kernel_rfl) (fun _ _ _ h => h) (Or.inl ⟨by kernel_rfl, fun W hSw => by go_simp⟩) hHeld ?_
      try simp only [Act.put, List.setIfInBounds_toArray, List.set_cons_zero, List.set_cons_succ]
      refine takeV 2 (some 24) (.bool false) rfl rfl (by kernel_rfl) (by kernel_rfl) (by kernel_rfl) (fun _ _ _ h => h) (Or.inl ⟨by kernel_rfl, fun W hSw => by go_simp⟩) hHeld ?_
      try simp only [Act.put, List.setIfInBounds_toArray, List.set_cons_zero, List.set_cons_succ]
      refine takeV 3 (some 25) (formV x0 x1 x2 A x3.length c) rfl rfl (by kernel_rfl) (by kernel_rfl) (by kernel_rfl) (fun _ _ _ h => h) (Or.inl ⟨by kernel_rfl, fun W hSw => by obtain ⟨⟨a0, a1, a2, a3⟩, ⟨b0, b1, b2, b3⟩, s0, s1⟩ := hSw; go_simp⟩) hHeld ?_
      try simp only [Act.put, List.setIfInBounds_toArray, List.set_cons_zero, List.set_cons_succ]
      refine takeV 4 (some 26) (formV y0 y1 y2 B y3.length d) rfl rfl (by kernel_rfl) (by kernel_rfl) (by kernel_rfl) (fun _ _ _ h => h) (Or.inl ⟨by kernel_rfl, fun W hSw => by obtain ⟨⟨a0, a1, a2, a3⟩, ⟨b0, b1, b2, b3⟩, s0, s1⟩ := hSw; go_simp⟩) hHeld ?_
      try simp only [Act.put, List.setIfInBounds_toArray, List.set_cons_zero, List.set_cons_succ]
      refine takeV 5 (some 27) (.pointer (some ⟨sp, 0, none⟩)) rfl rfl (by kernel_rfl) (by kernel_rfl) (by kernel_rfl) (fun _ _ _ h => h) (Or.inl ⟨by kernel_rfl, fun W hSw => by go_simp⟩) hHeld ?_
      try simp only [Act.put, List.setIfInBounds_toArray, List.set_cons_zero, List.set_cons_succ]
      refine takeV 6 (some 28) (.pointer (some ⟨sp, 0, none⟩)) rfl rfl (by kernel_rfl) (by kernel_rfl) (by kernel_rfl) (fun _ _ _ h => h) (Or.inl ⟨by kernel_rfl, fun W hSw => by go_simp⟩) hHeld ?_
      try simp only [Act.put, List.setIfInBounds_toArray, List.set_cons_zero, List.set_cons_succ]
      refine takeV 7 (some 29) (.pointer (some ⟨sp, 0, none⟩)) rfl rfl (by kernel_rfl) (by kernel_rfl) (by kernel_rfl) (fun _ _ _ h => h) (Or.inl ⟨by kernel_rfl, fun W hSw => by go_simp⟩) hHeld ?_
      try simp only [Act.put, List.setIfInBounds_toArray, List.set_cons_zero, List.set_cons_succ]
      refine takeV 8 (some 30) (.map (some vb)) rfl rfl (by kernel_rfl) (by kernel_rfl) (by kernel_rfl) (fun _ _ _ h => h) (Or.inl ⟨by kernel_rfl, fun W hSw => by obtain ⟨⟨a0, a1, a2, a3⟩, ⟨b0, b1, b2, b3⟩, s0, s1⟩ := hSw; go_simp⟩) hHeld ?_
      try simp only [Act.put, List.setIfInBounds_toArray, List.set_cons_zero, List.set_cons_succ]
      refine takeV 9 (some 31) (.pointer (some ⟨sp, 0, none⟩)) rfl rfl (by kernel_rfl) (by kernel_rfl) (by kernel_rfl) (fun _ _ _ h => h) (Or.inl ⟨by kernel_rfl, fun W hSw => by go_simp⟩) hHeld ?_
      try simp only [Act.put, List.setIfInBounds_toArray, List.set_cons_zero, List.set_cons_succ]
      refine takeV 10 (some 32) (.pointer (some ⟨sp, 0, none⟩)) rfl rfl (by kernel_rfl) (by kernel_rfl) (by kernel_rfl) (fun _ _ _ h => h) (Or.inl ⟨by kernel_rfl, fun W hSw => by go_simp⟩) hHeld ?_
      try simp only [Act.put, List.setIfInBounds_toArray, List.set_cons_zero, List.set_cons_succ]
      refine takeV 11 (some 33) (.pointer (some ⟨sp, 1, none⟩)) rfl rfl (by kernel_rfl) (by kernel_rfl) (by kernel_rfl) (fun _ _ _ h => h) (Or.inl ⟨by kernel_rfl, fun W hSw => by go_simp⟩) hHeld ?_
      try simp only [Act.put, List.setIfInBounds_toArray, List.set_cons_zero, List.set_cons_succ]
      refine takeV 12 (some 34) (.map (some tb)) rfl rfl (by kernel_rfl) (by kernel_rfl) (by kernel_rfl) (fun _ _ _ h => h) (Or.inl ⟨by kernel_rfl, fun W hSw => by obtain ⟨⟨a0, a1, a2, a3⟩, ⟨b0, b1, b2, b3⟩, s0, s1⟩ := hSw; go_simp⟩) hHeld ?_
      try simp only [Act.put, List.setIfInBounds_toArray, List.set_cons_zero, List.set_cons_succ]
      refine wpAnyH_ready (rs := [13]) (by kernel_rfl) (by simp) ?_
      refine AllReadyH.cons rfl (fun K hK => ?_) AllReadyH.nil
      clear hHeld
      go_simp
      go_at_call 63
      refine Calls.mono (MA.out _ (below_drew (Below.refl _ _))) ?_
      rintro e w2 ⟨rfl, hg2, mtv, hS2, hT2⟩
      have HG2 : Hid (w1.grownBy w2 (some tb)) := (grown_of_below (below_drew (Below.refl w1.heap.size w1)) (some tb)).trans hg2
      have HS2 : Hid _ := hS2
      have HT2 : Hid _ := hT2
      have HB2 : Hid (Below w.heap.size w w2) := (by subst hbA; exact pw_below_grown HB1.out (some tb) HB1.out.size HG2.out (fun k hk => by cases hk; exact htb))
      clear hg2 hS2 hT2
      go_wp2_with fail
      refine hK.out _ _ (GS2.out _ HG2.out) (fun hHeld => ?_)
      clear hK K
      try simp only [Act.put, List.setIfInBounds_toArray, List.set_cons_zero, List.set_cons_succ]
      refine takeV 14 (some 36) (.bool false) rfl rfl (by kernel_rfl) (by kernel_rfl) (by kernel_rfl) (fun _ _ _ h => h) (Or.inl ⟨by kernel_rfl, fun W hSw => by go_simp⟩) hHeld ?_
      try simp only [Act.put, List.setIfInBounds_toArray, List.set_cons_zero, List.set_cons_succ]
      refine takeV 15 (some 37) (.bool false) rfl rfl (by kernel_rfl) (by kernel_rfl) (by kernel_rfl) (fun _ _ _ h => h) (Or.inl ⟨by kernel_rfl, fun W hSw => by go_simp⟩) hHeld ?_
      try simp only [Act.put, List.setIfInBounds_toArray, List.set_cons_zero, List.set_cons_succ]
      refine wpAnyH_done (by kernel_rfl) ?_ _
      clear hHeld
      have cs0 := HS2.out.c0
      have cs1 := HS2.out.c1
      have hkeys := toAt_keys HT2.out
      have hmvl : mtv.length = mt.length := by have := congrArg List.length hkeys; simpa using this
      have hMN := GRM.out
      have hml : mt.length < 9000000 := by have := hMN.2; simp only [List.length_nil] at this; omega
      obtain ⟨D0, own, hnd, hmem, hsz⟩ := map_owns HS2.out.tos (fun p hp => by
        have h1 : p.1 ∈ mt.map (·.1) := by rw [← hkeys]; exact List.mem_map.2 ⟨p, hp, rfl⟩
        obtain ⟨q, hq, e⟩ := List.mem_map.1 h1
        have h2 := HVZ.out q.1 (hMN.1 q hq)
        rw [e] at h2
        simp only [maxLen]
        omega) (by simp only [maxLen]; omega)
      have OWN : Hid _ := own
      have HND : Hid _ := hnd
      have HMEM : Hid _ := hmem
      have hsz2 : Maps.size D0 < 9000000 := by omega
      have HKEY : Hid _ := hkeys
      clear own hnd hmem hkeys hMN
      go_wp2_with fail
      refine (callsIn_wide.1 (Tryz.maps_Keys_65 _ _)).mono ?_
      rintro e w' ⟨rfl, rfl⟩
      go_wp2_with fail
      refine (callsIn_wide.1 (Tryz.slices_Sorted_keys_64_65 _ _ _ _ w2 OWN.out (by simp only [maxLen]; omega) (by omega))).mono ?_
      rintro e wm ⟨v, ss, rfl, hperm, hrow, hnil, B3⟩
      have HBM : Hid (Below w2.heap.size w2 wm) := below_after (below_alloc (Below.refl _ _) _) B3
      obtain ⟨T, hT⟩ : ∃ T, T = (ss.mergeSort leB).map backB := ⟨_, rfl⟩
      have hTl : T.length = ss.length := by rw [hT]; simp
      have hss : ss.Nodup := (hperm.nodup_iff).2 HND.out
      have hasc : Asc T := by rw [hT]; exact sorted_asc hss
      have hTmem : ∀ s, s ∈ T ↔ ∃ p ∈ mt, p.1 = s := by
        intro s
        have back : ∀ t : List UInt8, backB t = s ↔ t = s.data.toList := by
          intro t
          constructor
          · intro h; rw [← h]; rfl
          · intro h; rw [h]; cases s; rfl
        rw [hT, List.mem_map]
        constructor
        · rintro ⟨t, ht, e⟩
          have h1 := (HMEM.out t).1 (hperm.mem_iff.1 ((List.mergeSort_perm ss leB).mem_iff.1 ht))
          obtain ⟨p, hp, e2⟩ := h1
          have h2 : p.1 ∈ mt.map (·.1) := by rw [← HKEY.out]; exact List.mem_map.2 ⟨p, hp, rfl⟩
          obtain ⟨q, hq, e3⟩ := List.mem_map.1 h2
          refine ⟨q, hq, ?_⟩
          rw [e3]
          rw [← e2] at e
          rw [← e]
          exact ((show backB p.1.data.toList = p.1 from by cases p.1; rfl)).symm
        · rintro ⟨p, hp, e⟩
          have h2 : p.1 ∈ mtv.map (·.1) := by rw [HKEY.out]; exact List.mem_map.2 ⟨p, hp, rfl⟩
          obtain ⟨q, hq, e3⟩ := List.mem_map.1 h2
          refine ⟨s.data.toList, (List.mergeSort_perm ss leB).mem_iff.2 (hperm.mem_iff.2 ((HMEM.out _).2 ⟨q, hq, ?_⟩)), (back _).2 rfl⟩
          rw [e3, e]
      have key : ∃ AT cT, v = .slice AT T.length cT ∧ T.length ≤ cT ∧ Kd.C Kd.string wm AT T.length T := by
        have h1 : ((ss.mergeSort (fun x y => decide (x ≤ y))).map encStr) = encs Value.string T := by
          rw [hT]; exact enc_back _
        rw [h1, ← hTl] at hrow
        obtain ⟨A2, c2, hv, h2, h3⟩ := Kd.R_reads (Kd.R_of_own (h1 := fun _ => rfl) (ok := fun _ => True) hrow (fun _ _ => trivial))
        exact ⟨A2, c2, hv, h2, h3⟩
      obtain ⟨AT, cT, rfl, hcT, hCT⟩ := key
      have hT9 : T.length < 9000000 := by
        have h1 := hperm.length_eq
        have h2 : (strKeys D0).length = Maps.size D0 := by
          obtain ⟨es, clock, _, _, _, hD⟩ := OWN.out
          rw [hD]; simp [strKeys, Maps.size]
        omega
      have HCT : Hid _ := hCT
      have HASC : Hid _ := hasc
      have HTM : Hid _ := hTmem
      have HSM : Hid _ := HS2.out.below HBM.out
      clear hperm hrow hnil B3 hT hTl hss hasc hTmem hCT cs0 cs1
      subst hbA
      go_wp2_with fail
      have start : Hid (KiRel wm mt T T.length (.slice none 0 0) (.int .i64 ((0 : Nat) : Int)) wm) := ⟨0, rfl, rfl, Below.refl _ _, Kd.N_nil _ _ _ _ _⟩
      have HBw : Hid (Below w.heap.size w wm) := below_after HB2.out HBM.out
      have hbm : w.heap.size ≤ wm.heap.size := HBw.out.size
      go_loopg [10, 45] T.length (fun k x10 x45 wr => KiRel wm mt T k x10 x45 wr)
      case atStart => exact start.out
      case round =>
        clear start
        obtain ⟨i, rfl, hki, hB0, hN0⟩ := hrel
        by_cases hlt : i < T.length
        · obtain ⟨g, rfl⟩ : ∃ g, gk = g + 1 := ⟨gk - 1, by omega⟩
          have e1 : decide (i < T.length) = true := decide_eq_true hlt
          obtain ⟨nn, hnn⟩ : ∃ nn, T[i]? = some nn := ⟨T[i]'(by omega), List.getElem?_eq_getElem _⟩
          have htk : T.take (i + 1) = T.take i ++ [nn] := by rw [List.take_add_one, hnn]; rfl
          obtain ⟨ad, rfl, g0⟩ := text_at HCT.out hnn
          replace g0 := pw_cell_below hB0 g0
          have hSr := HSM.out.below hB0
          have cs1 := hSr.c1
          obtain ⟨p, hp, hpe⟩ := (HTM.out nn).1 (List.mem_of_getElem? hnn)
          rcases look_to HT2.out nn with ⟨e8, _⟩ | ⟨z, u1, e8, e9, e10⟩
          · exact absurd hpe (lookT_none e8 p hp)
          · obtain ⟨A5, c5, rfl, e4, e5, e6⟩ := e10
            have hz : (zeroValue 24).run Tryz.prog wr = .ok (formV 0 0 ⟨#[]⟩ none 0 0) wr := by go_simp
            have r2 := run_lookup_at keyText' hu72 hu9 hz hSr.tos nn false
            rw [if_neg (by simp), e9, Option.getD_some] at r2
            change (Instr.lookup 72 (.map (some tb)) (.string nn) false).run Tryz.prog wr = _ at r2
            have FK9 : Hid (Kd.FK k51 wr (fun k => k < w.heap.size) ⟨nn, z⟩ [.string nn, .int .i64 z.f0, .int .i64 z.f1, .string z.f2, .slice A5 z.f3.length c5]) := k51_mkF wr _ ⟨nn, z⟩ e5 (Kd.F_below (Kd.C_F k24_heap e4) (below_after HBw.out hB0))
            have HN0 : Hid _ := hN0
            have HB9 : Hid (Below wm.heap.size wm wr) := hB0
            have htk2 : kOut mt (T.take i) ++ [⟨nn, z⟩] = kOut mt (T.take (i + 1)) := by rw [htk]; unfold kOut; rw [List.map_append, List.map_cons, List.map_nil, e8, Option.getD_some]
            have hkl : (kOut mt (T.take i)).length < 9000000 := by simp only [kOut, List.length_map, List.length_take]; omega
            have HTK : Hid _ := htk2
            clear htk2
            clear hN0 hB0 hSr hnn htk hp hpe e8 e9 e4 e6 hz
            obtain ⟨z0, z1, z2, z3⟩ := z
            simp only [] at e5 r2 FK9
            go_wp2_with (first | (refine Kd.N_append k51 (w0 := wm) wm.heap.size rfl (.tmp 49) (.tmp 58) 25 51 (.agg #[(.string ⟨#[]⟩), (.int .i64 0), (.int .i64 0), (.string ⟨#[]⟩), (.slice none 0 0)]) 72 rfl Tryz.underlying25 info51 rfl (by decide) (by omega) u10 (kOut mt (T.take i)) ⟨nn, ⟨z0, z1, z2, z3⟩⟩ [.string nn, .int .i64 z0, .int .i64 z1, .string z2, .slice A5 z3.length c5] (fun _ => True) (fun k => k < w.heap.size) rfl rfl FK9.out (fun k hk => ⟨trivial, fun he => by have := Kd.N_base HN0.out k he.symm; omega⟩) (fun _ _ => trivial) HN0.out HB9.out HB9.out.size (by omega) ?_; intro v9 w9 hN9 hB10 hg9 hat9; have HN9 : Hid _ := hN9; have HB10 : Hid (Below wm.heap.size wm w9) := hB10; clear hN9 hB10 hg9 hat9))
            go_roundg g
            case measure => omega
            case rel => exact ⟨i + 1, by go_num, by omega, HB10.out, by rw [← HTK.out]; exact HN9.out⟩
        · have e1 : decide (i < T.length) = false := decide_eq_false hlt
          have hge : T.length ≤ i := by omega
          rw [List.take_of_length_le hge] at hN0
          obtain ⟨A9, c9, rfl, h9, hC9⟩ := Kd.N_reads hN0
          have hln : (kOut mt T).length = T.length := by simp [kOut]
          rw [hln] at h9 hC9
          have HC9 : Hid _ := hC9
          have HB9 : Hid _ := hB0
          have HLN : Hid _ := hln
          clear hN0 hC9 hB0 hln
          go_wp2_with fail
          go_ret2
          exact (show KIGot w mt _ _ from ⟨T, A9, c9, HASC.out, HTM.out, by first | rfl | (rw [← HLN.out]; rfl) | simp [kOut], h9, HC9.out, below_after HBw.out HB9.out⟩)

end Go.Proofs.YtcjmplpfebpfpaaGreatDoor

namespace Go.Proofs.YtcjmplpfebpfpaaGreatDoor
open Go.RowKit Go.Proofs Go.Proofs.YtcjmplpfebpfpaaGreatDoorW.PrintWords Go.Proofs.YtcjmplpfebpfpaaGreatDoorW.PrintLast Go.Proofs.YtcjmplpfebpfpaaGreatDoorW.PrintMore PKindInstances
set_option linter.unusedVariables false
set_option linter.unusedSimpArgs false

theorem dw_nil {α : Type} (p : α → Bool) : ∀ l : List α, l.dropWhile p = [] ↔ ∀ x ∈ l, p x = true
  | [] => by simp
  | a :: l => by
    by_cases h : p a = true
    · rw [List.dropWhile_cons_of_pos h, dw_nil p l]; simp [h]
    · rw [List.dropWhile_cons_of_neg h]; simp [h]
theorem dw_head {α : Type} (p : α → Bool) : ∀ (l : List α) (a : α) (r : List α), l.dropWhile p = a :: r → p a = false
  | [], a, r, h => by simp at h
  | b :: l, a, r, h => by
    by_cases hb : p b = true
    · rw [List.dropWhile_cons_of_pos hb] at h; exact dw_head p l a r h
    · rw [List.dropWhile_cons_of_neg hb] at h
      obtain ⟨rfl, _⟩ := List.cons.inj h
      simpa using hb
theorem trimS_nil (l cs : List UInt8) : (Lib.trimS l cs == []) = l.all (cs.contains ·) := by
  rw [Bool.eq_iff_iff, beq_iff_eq, List.all_eq_true]
  unfold Lib.trimS Lib.trimLeftS Lib.trimRightS
  rw [dw_nil]
  constructor
  · intro h
    cases hd : l.reverse.dropWhile (cs.contains ·) with
    | nil =>
      intro x hx
      exact (dw_nil _ _).1 hd x (List.mem_reverse.2 hx)
    | cons a r =>
      have h1 := dw_head _ _ _ _ hd
      have h2 := h a (by rw [hd]; simp)
      rw [h1] at h2; cases h2
  · intro h x hx
    have : l.reverse.dropWhile (cs.contains ·) = [] := (dw_nil _ _).2 fun y hy => h y (List.mem_reverse.1 hy)
    rw [this] at hx
    simp at hx
theorem dig_all : ∀ c : Fin 256, digitsB.contains (UInt8.ofNat c.val) = digI (c.val : Int) := by
  have h : (List.range 256).all (fun n => digitsB.contains (UInt8.ofNat n) == digI (n : Int)) = true := by kernel_rfl
  intro c
  exact eq_of_beq (List.all_eq_true.1 h c.val (List.mem_range.2 c.isLt))
theorem dig_one (b : UInt8) : digitsB.contains b = digI (b.toNat : Int) := by
  have := dig_all ⟨b.toNat, b.toNat_lt⟩
  simpa using this
theorem digits_list (l : List UInt8) : l.all (digitsB.contains ·) = (l.map fun b => (b.toNat : Int)).all digI := by
  induction l with
  | nil => rfl
  | cons a l ih => rw [List.all_cons, List.map_cons, List.all_cons, ih, dig_one]
theorem numM_digs (s : ByteArray) : numM s = digsM (unsigned s) := by
  have e0 : ∀ b : ByteArray, b.toList = b.data.toList := fun b => ByteArray.toList_eq b
  unfold numM digsM bytesI
  rw [trimS_nil, digits_list, e0]
  obtain ⟨⟨l⟩⟩ := s
  have hsz : (ByteArray.mk ⟨l⟩).size = l.length := rfl
  cases l with
  | nil => rfl
  | cons a r =>
    by_cases ha : a = 45
    · subst ha
      cases r with
      | nil => rfl
      | cons b r =>
        have h1 : cutMinus ⟨⟨45 :: b :: r⟩⟩ = b :: r := by
          unfold cutMinus Lib.trimPrefix Lib.hasPrefix
          simp
        have h2 : unsigned ⟨⟨45 :: b :: r⟩⟩ = (ByteArray.mk ⟨45 :: b :: r⟩).extract 1 (ByteArray.mk ⟨45 :: b :: r⟩).size := by
          unfold unsigned
          rw [if_pos]
          rw [hsz]; simp
        have h3 : ((ByteArray.mk ⟨45 :: b :: r⟩).extract 1 (ByteArray.mk ⟨45 :: b :: r⟩).size).data.toList = b :: r := by
          rw [ByteArray.data_extract, hsz]
          simp
        rw [h1, h2, h3]
    · have h1 : cutMinus ⟨⟨a :: r⟩⟩ = a :: r := by
        unfold cutMinus Lib.trimPrefix Lib.hasPrefix
        simp [ha]
        exact fun h => ha h.symm
      have h2 : unsigned ⟨⟨a :: r⟩⟩ = ⟨⟨a :: r⟩⟩ := by
        unfold unsigned
        rw [if_neg]
        simp [ha]
      rw [h1, h2]
theorem wordR_eq (s : ByteArray) : wordR s = wordM s := by
  unfold wordR wordM
  rw [numM_digs]
  have h : (!(s.toList == [])) = decide (1 ≤ s.size) := by
    rw [ByteArray.toList_eq]
    obtain ⟨⟨l⟩⟩ := s
    cases l with
    | nil => rfl
    | cons a r =>
      have : (ByteArray.mk ⟨a :: r⟩).size = (a :: r).length := rfl
      rw [this]
      simp
  rw [h]
  cases (bytesI s).all fun c => !outM c <;> cases decide (1 ≤ s.size) <;> cases decide (s.size ≤ 30) <;> simp
theorem leafR_eq (x : S24) : leafR x = leafM x := by unfold leafR leafM; rw [wordR_eq]

theorem leafM_kids {a n : Int} {s : ByteArray} {l : List S24} (h : leafM ⟨a, n, s, l⟩ = true) : a = 3 ∨ l = [] := by
  unfold leafM at h
  simp only [] at h
  by_cases h3 : a = 3
  · exact .inl h3
  · right
    split at h
    · simp only [Bool.and_eq_true, beq_iff_eq] at h
      exact List.length_eq_zero_iff.1 (by omega)
    · split at h
      · simp only [Bool.and_eq_true, beq_iff_eq] at h
        exact List.length_eq_zero_iff.1 (by omega)
      · split at h
        · simp only [Bool.and_eq_true, beq_iff_eq] at h
          exact List.length_eq_zero_iff.1 (by omega)
        · first | cases h | (rw [if_neg h3] at h; cases h)
mutual
theorem validM_is : ∀ (x : S24) (n d : Int), 0 ≤ n → 0 ≤ d → (validM x n d).1 = (fieldsM x && (decide ((cnt x : Int) ≤ n) && decide ((dep x : Int) ≤ d))) ∧ ((validM x n d).1 = true → (validM x n d).2 = n - cnt x)
  | ⟨a, b, s, l⟩, n, d, hn, hd => by
    simp only [validM, fieldsM, leafR_eq]
    cases hl : leafM ⟨a, b, s, l⟩ with
    | false =>
      simp
    | true =>
      have hk : cnt ⟨a, b, s, l⟩ = 1 + cnts l ∧ dep ⟨a, b, s, l⟩ = deps l + 1 := by
        rcases leafM_kids hl with h | h
        · subst h; simp [cnt, dep]
        · subst h; simp [cnt, dep, cnts, deps]
      rw [hk.1, hk.2]
      by_cases h1 : n - 1 < 0
      · have : decide (((1 + cnts l : Nat) : Int) ≤ n) = false := decide_eq_false (by omega)
        rw [decide_eq_true h1, this]
        simp
      · by_cases h2 : d = 0
        · have : decide (((deps l + 1 : Nat) : Int) ≤ d) = false := decide_eq_false (by omega)
          have h2' : (d == 0) = true := beq_iff_eq.2 h2
          rw [h2', this]
          simp
        · have h2' : (d == 0) = false := beq_eq_false_iff_ne.2 h2
          rw [decide_eq_false h1, h2']
          simp only [Bool.not_true, Bool.or_false, Bool.false_eq_true, if_false, Bool.true_and]
          obtain ⟨i1, i2⟩ := validL_is l (n - 1) (d - 1) (by omega) (by omega)
          refine ⟨?_, fun h => ?_⟩
          · rw [i1]
            congr 1
            congr 1
            · rw [decide_eq_decide]; omega
            · rw [decide_eq_decide]; omega
          · rw [i2 h]; omega
theorem validL_is : ∀ (l : List S24) (n d : Int), 0 ≤ n → 0 ≤ d → (validL l n d).1 = (fieldsL l && (decide ((cnts l : Int) ≤ n) && decide ((deps l : Int) ≤ d))) ∧ ((validL l n d).1 = true → (validL l n d).2 = n - cnts l)
  | [], n, d, hn, hd => by
    simp only [validL, fieldsL]
    rw [show cnts [] = 0 from rfl, show deps [] = 0 from rfl]
    refine ⟨?_, fun _ => by omega⟩
    rw [decide_eq_true (by omega), decide_eq_true (by omega)]
    rfl
  | x :: l, n, d, hn, hd => by
    simp only [validL, fieldsL]
    rw [show cnts (x :: l) = cnt x + cnts l from rfl, show deps (x :: l) = max (dep x) (deps l) from rfl]
    obtain ⟨i1, i2⟩ := validM_is x n d hn hd
    cases hx : (validM x n d).1 with
    | false =>
      rw [hx] at i1
      simp only [Bool.false_eq_true, if_false, false_implies, and_true]
      cases hf : fieldsM x with
      | false => simp
      | true =>
        rw [hf] at i1
        simp only [Bool.true_and] at i1 ⊢
        by_cases h1 : (cnt x : Int) ≤ n
        · rw [decide_eq_true h1] at i1
          have h2 : ¬ (dep x : Int) ≤ d := by simpa using i1.symm
          have : decide (((max (dep x) (deps l) : Nat) : Int) ≤ d) = false := decide_eq_false (by omega)
          rw [this]; simp
        · have : decide (((cnt x + cnts l : Nat) : Int) ≤ n) = false := decide_eq_false (by omega)
          rw [this]; simp
    | true =>
      rw [hx] at i1
      have e2 := i2 hx
      have i1' := i1.symm
      simp only [Bool.and_eq_true, decide_eq_true_eq] at i1'
      obtain ⟨hf, hc, hdp⟩ := i1'
      simp only [if_true]
      rw [e2, hf, Bool.true_and]
      obtain ⟨j1, j2⟩ := validL_is l (n - cnt x) d (by omega) hd
      refine ⟨?_, fun h => ?_⟩
      · rw [j1]
        congr 1
        congr 1
        · rw [decide_eq_decide]; omega
        · rw [decide_eq_decide]; omega
      · rw [j2 h]; omega
end
theorem ValidR_eq (x : S24) : ValidR x = ValidM x := by
  unfold ValidR ValidM smallM
  rw [(validM_is x 20000 100 (by decide) (by decide)).1]
  congr 1
  congr 1
  · rw [decide_eq_decide]; omega
  · rw [decide_eq_decide]; omega
theorem isName_eq (s : ByteArray) : isNameR s = isNameM s := by
  unfold isNameR isNameM
  rw [← ValidR_eq, wordR_eq, Bool.and_comm]
  congr 1
  unfold ValidR smallM
  simp [fieldsM, fieldsL, leafR, cnt, dep, wordR_eq]
theorem named_eq : ∀ (l seen : List ByteArray), namedR seen l = namesM seen l
  | [], seen => rfl
  | v :: l, seen => by
    simp only [namedR, namesM, isName_eq, named_eq l]
    cases isNameM v <;> cases decide (v ∈ seen) <;> simp
end Go.Proofs.YtcjmplpfebpfpaaGreatDoor

namespace Go.Proofs.YtcjmplpfebpfpaaGreatDoor
open Go.RowKit Go.Proofs Go.Proofs.YtcjmplpfebpfpaaGreatDoorW.PrintWords Go.Proofs.YtcjmplpfebpfpaaGreatDoorW.PrintLast Go.Proofs.YtcjmplpfebpfpaaGreatDoorW.PrintMore PKindInstances
set_option linter.unusedVariables false
set_option linter.unusedSimpArgs false

theorem less_self (s : ByteArray) : Op.bytesLess s.toList s.toList = false := lessB_irrefl s
mutual
theorem cmp_self : ∀ x : S24, cmpM x x = 0
  | ⟨a, n, s, l⟩ => by
    simp only [cmpM]
    rw [if_neg (by simp), cmps_self l]
    split
    · simp [Lib.compareInt]
    · split
      · simp [cmpStr, less_self]
      · simp
theorem cmps_self : ∀ l : List S24, cmpL l l = 0
  | [] => rfl
  | x :: l => by simp only [cmpL]; rw [cmp_self x, cmps_self l]; simp
end
theorem eq_self (x : S24) : eqM x x = true := by unfold eqM; rw [cmp_self]; rfl
theorem same_self : ∀ l : List S71, sameM l l = true
  | [] => rfl
  | x :: l => by simp only [sameM, same_self l, eq_self]; simp
theorem eq_kind {x y : S24} (h : x.f0 ≠ y.f0) : eqM x y = false := by
  obtain ⟨a, n, s, l⟩ := x
  unfold eqM
  simp only [cmpM]
  rw [if_pos h]
  unfold Lib.compareInt
  have h : a ≠ y.f0 := h
  split
  · rfl
  · split
    · rfl
    · omega

def pairOf (p : ByteArray × S24) : S71 := ⟨p.1, p.2⟩
theorem text_eq (a b : ByteArray) : (a.toList == b.toList) = true ↔ b = a := by
  rw [beq_iff_eq]
  exact ⟨fun h => (bytes_inj h).symm, fun h => by rw [h]⟩
theorem look_pairs : ∀ (mt : List (ByteArray × S24)) (s : ByteArray), lookR (mt.map pairOf) s = lookT mt s
  | [], s => rfl
  | (a, x) :: m, s => by
    simp only [List.map_cons, pairOf, lookR, lookT]
    by_cases h : s = a
    · rw [if_pos ((text_eq a s).2 h), if_pos h]
    · rw [if_neg (fun e => h ((text_eq a s).1 e)), if_neg h]
      exact look_pairs m s
theorem find_pairs (mt : List (ByteArray × S24)) (s : ByteArray) (h : resM s = false) : findM (mt.map pairOf) s = lookT mt s := by
  unfold findM
  rw [h, if_neg (by simp), look_pairs]
theorem put_new : ∀ (mt : List (ByteArray × S24)) (s : ByteArray) (x : S24), lookT mt s = none → putT mt s x = mt ++ [(s, x)]
  | [], s, x, _ => rfl
  | (a, y) :: m, s, x, h => by
    simp only [lookT] at h
    split at h
    · cases h
    · rename_i hk
      simp only [putT, if_neg hk, put_new m s x h, List.cons_append]
mutual
theorem match_is (vs : List ByteArray) (hv : ∀ v ∈ vs, resM v = false) : ∀ (x y : S24) (b : Bool) (mt : List (ByteArray × S24)), (b = true → x.f0 = 3) →
    (mrM vs x y b (mt.map pairOf)).1 = (matchM vs x y b mt).1 ∧ ((matchM vs x y b mt).1 = true → (mrM vs x y b (mt.map pairOf)).2 = (matchM vs x y b mt).2.map pairOf)
  | ⟨a, n, s, l⟩, y, b, mt, hb => by
    have hb : b = true → a = 3 := hb
    simp only [mrM, matchM]
    by_cases h : a = 1 ∧ s ∈ vs
    · obtain ⟨rfl, hs⟩ := h
      have hb0 : b = false := by cases b; rfl; exact absurd (hb rfl) (by decide)
      rw [if_pos ⟨rfl, hv s hs, hs⟩, if_pos ⟨hb0, rfl, hs⟩, find_pairs mt s (hv s hs)]
      cases hl : lookT mt s with
      | none => exact ⟨rfl, fun _ => by rw [put_new mt s y hl, List.map_append]; rfl⟩
      | some was => exact ⟨rfl, fun _ => rfl⟩
    · rw [if_neg (show ¬ (a = 1 ∧ resM s = false ∧ s ∈ vs) from fun h2 => h ⟨h2.1, h2.2.2⟩), if_neg (show ¬ (b = false ∧ a = 1 ∧ s ∈ vs) from fun h2 => h h2.2)]
      by_cases h3 : a ≠ 3 ∨ y.f0 ≠ 3
      · rw [if_pos h3, if_pos h3]
        exact ⟨rfl, fun _ => rfl⟩
      · rw [if_neg h3, if_neg h3]
        by_cases h4 : l.length ≠ y.f3.length
        · rw [if_pos h4, if_pos h4]
          exact ⟨rfl, fun _ => rfl⟩
        · rw [if_neg h4, if_neg h4]
          exact matches_is vs hv (!b && isFunW (headL l)) b (!b && (hasHead l || hasHead y.f3)) 0 l y.f3 mt (fun _ => rfl)
theorem matches_is (vs : List ByteArray) (hv : ∀ v ∈ vs, resM v = false) (fn bare hd : Bool) : ∀ (i : Nat) (la lb : List S24) (mt : List (ByteArray × S24)), (i = 0 → hd = (!bare && (hasHead la || hasHead lb))) →
    (mrL vs fn hd i la lb (mt.map pairOf)).1 = (matchL vs fn bare i la lb mt).1 ∧ ((matchL vs fn bare i la lb mt).1 = true → (mrL vs fn hd i la lb (mt.map pairOf)).2 = (matchL vs fn bare i la lb mt).2.map pairOf)
  | i, [], lb, mt, hi => by simp [mrL, matchL]
  | i, x :: la, [], mt, hi => by simp [mrL, matchL]
  | i, x :: la, y :: lb, mt, hi => by
    simp only [mrL, matchL]
    have ih := fun mt2 => matches_is vs hv fn bare hd (i + 1) la lb mt2 (fun h => absurd h (by omega))
    have hm := match_is vs hv x y (fn && decide (i = 1) && (x.f0 == 3)) mt (fun h => by
      simp only [Bool.and_eq_true, beq_iff_eq] at h; exact h.2)
    have rest : (if (mrM vs x y (fn && decide (i = 1) && (x.f0 == 3)) (mt.map pairOf)).1 then mrL vs fn hd (i + 1) la lb (mrM vs x y (fn && decide (i = 1) && (x.f0 == 3)) (mt.map pairOf)).2 else (false, (mrM vs x y (fn && decide (i = 1) && (x.f0 == 3)) (mt.map pairOf)).2)).1 =
        (if (matchM vs x y (fn && decide (i = 1) && (x.f0 == 3)) mt).1 then matchL vs fn bare (i + 1) la lb (matchM vs x y (fn && decide (i = 1) && (x.f0 == 3)) mt).2 else (false, (matchM vs x y (fn && decide (i = 1) && (x.f0 == 3)) mt).2)).1 ∧
        ((if (matchM vs x y (fn && decide (i = 1) && (x.f0 == 3)) mt).1 then matchL vs fn bare (i + 1) la lb (matchM vs x y (fn && decide (i = 1) && (x.f0 == 3)) mt).2 else (false, (matchM vs x y (fn && decide (i = 1) && (x.f0 == 3)) mt).2)).1 = true →
        (if (mrM vs x y (fn && decide (i = 1) && (x.f0 == 3)) (mt.map pairOf)).1 then mrL vs fn hd (i + 1) la lb (mrM vs x y (fn && decide (i = 1) && (x.f0 == 3)) (mt.map pairOf)).2 else (false, (mrM vs x y (fn && decide (i = 1) && (x.f0 == 3)) (mt.map pairOf)).2)).2 =
        (if (matchM vs x y (fn && decide (i = 1) && (x.f0 == 3)) mt).1 then matchL vs fn bare (i + 1) la lb (matchM vs x y (fn && decide (i = 1) && (x.f0 == 3)) mt).2 else (false, (matchM vs x y (fn && decide (i = 1) && (x.f0 == 3)) mt).2)).2.map pairOf) := by
      rw [hm.1]
      cases hq : (matchM vs x y (fn && decide (i = 1) && (x.f0 == 3)) mt).1 with
      | true =>
        rw [hm.2 hq]
        simp only [if_true]
        exact ih _
      | false => simp
    by_cases h0 : i = 0
    · have hd0 := hi h0
      cases hbr : bare with
      | true =>
        rw [hbr] at hd0
        have hd1 : hd = false := by rw [hd0]; rfl
        rw [hbr] at rest
        rw [if_neg (show ¬ (i = 0 ∧ hd = true) from fun h => by rw [hd1] at h; exact absurd h.2 (by decide)), if_neg (show ¬ (i = 0 ∧ true = false ∧ x.f0 = 1) from fun h => absurd h.2.1 (by decide))]
        exact rest
      | false =>
        rw [hbr] at hd0 rest ih
        by_cases hx : x.f0 = 1
        · have hd1 : hd = true := by rw [hd0]; simp [hasHead, hx]
          rw [if_pos (show i = 0 ∧ hd = true from ⟨h0, hd1⟩), if_pos (show i = 0 ∧ false = false ∧ x.f0 = 1 from ⟨h0, rfl, hx⟩)]
          cases eqM x y with
          | true => simp only [if_true]; exact ih mt
          | false => simp
        · rw [if_neg (show ¬ (i = 0 ∧ false = false ∧ x.f0 = 1) from fun h => hx h.2.2)]
          by_cases hy : y.f0 = 1
          · have hd1 : hd = true := by rw [hd0]; simp [hasHead, hy]
            rw [if_pos (show i = 0 ∧ hd = true from ⟨h0, hd1⟩)]
            have he : eqM x y = false := eq_kind (by rw [hy]; exact hx)
            have hmf : (matchM vs x y (fn && decide (i = 1) && (x.f0 == 3)) mt).1 = false := by
              obtain ⟨a, n, s, l⟩ := x
              simp only [matchM]
              rw [if_neg (fun h => hx h.2.1), if_pos (.inr (by rw [hy]; decide))]
              exact he
            rw [he, hmf]
            simp
          · have hd1 : hd = false := by rw [hd0]; simp [hasHead, hx, hy]
            rw [if_neg (show ¬ (i = 0 ∧ hd = true) from fun h => by rw [hd1] at h; exact absurd h.2 (by decide))]
            exact rest
    · rw [if_neg (show ¬ (i = 0 ∧ hd = true) from fun h => h0 h.1), if_neg (show ¬ (i = 0 ∧ bare = false ∧ x.f0 = 1) from fun h => h0 h.1)]
      exact rest
end
theorem putAll_pairs (mt : List (ByteArray × S24)) : putAll [] (mt.map pairOf) = (mt.map (·.1)).foldl putL [] := by
  unfold putAll
  rw [List.foldl_map, List.foldl_map]
  rfl
theorem names_are {T : List ByteArray} {mt : List (ByteArray × S24)} (hT : Asc T) (hm : ∀ s, s ∈ T ↔ ∃ p ∈ mt, p.1 = s) : putAll [] (mt.map pairOf) = T := by
  rw [putAll_pairs]
  have h := putAll_asc (mt.map (·.1)) [] List.Pairwise.nil
  refine Asc.same h.1 hT fun s => ?_
  rw [h.2 s, hm s, List.mem_map]
  simp
/-- What both find is one. -/
theorem found_is {T : List ByteArray} {mt : List (ByteArray × S24)} (hT : Asc T) (hm : ∀ s, s ∈ T ↔ ∃ p ∈ mt, p.1 = s) (hr : ∀ p ∈ mt, resM p.1 = false) :
    outOf (mt.map pairOf) = (kOut mt T).map fun x => ⟨x.f0, x.f1⟩ := by
  unfold outOf kOut
  rw [names_are hT hm, List.map_map]
  refine List.map_congr_left fun s hs => ?_
  obtain ⟨p, hp, e⟩ := (hm s).1 hs
  simp only [Function.comp_def, toOf]
  rw [find_pairs mt s (by rw [← e]; exact hr p hp)]
theorem names_ok : ∀ (l seen : List ByteArray), namesM seen l = true → ∀ v ∈ l, resM v = false
  | [], seen, _, v, h => absurd h List.not_mem_nil
  | u :: l, seen, h, v, hv => by
    simp only [namesM] at h
    split at h
    · cases h
    · rename_i hc
      rcases List.mem_cons.1 hv with rfl | hv
      · simp only [Bool.or_eq_true, Bool.not_eq_true'] at hc
        have h1 : isNameM v ≠ false := fun e => hc (.inr e)
        unfold isNameM at h1
        cases hr : resM v with
        | false => rfl
        | true => rw [hr] at h1; exact absurd rfl h1
      · exact names_ok l _ h v hv

/-- The law's two answers. -/
theorem instance_is (vs : List ByteArray) (x y : S24) :
    (rInstM vs x y = none ∧ ((namesM [] vs && rowsM [[x, y]]) && (matchM vs x y false []).1) = false) ∨
    (((namesM [] vs && rowsM [[x, y]]) && (matchM vs x y false []).1) = true ∧ ∀ T, Asc T → (∀ s, s ∈ T ↔ ∃ p ∈ (matchM vs x y false []).2, p.1 = s) → rInstM vs x y = some ((kOut (matchM vs x y false []).2 T).map fun p => ⟨p.f0, p.f1⟩)) := by
  have hrow : rowsM [[x, y]] = (ValidM x && ValidM y) := by
    unfold rowsM
    simp
  unfold rInstM
  rw [named_eq, ValidR_eq, ValidR_eq, hrow]
  cases hn : namesM [] vs with
  | false => left; simp
  | true =>
    have hv := names_ok vs [] hn
    have hm := match_is vs hv x y false [] (fun h => by cases h)
    rw [List.map_nil] at hm
    rw [hm.1]
    cases hq : (matchM vs x y false []).1 with
    | false => left; simp
    | true =>
      cases hvv : (ValidM x && ValidM y) with
      | false => left; simp
      | true =>
        right
        refine ⟨rfl, fun T hT hTm => ?_⟩
        rw [if_pos (by simp), hm.2 hq]
        congr 1
        refine found_is hT hTm fun p hp => ?_
        exact hv p.1 ((matchM_grows vs x y false [] (fun p hp => absurd hp List.not_mem_nil)).1 p hp)
end Go.Proofs.YtcjmplpfebpfpaaGreatDoor

namespace Go.Proofs.YtcjmplpfebpfpaaGreatDoor
open Go.RowKit Go.Proofs Go.Proofs.YtcjmplpfebpfpaaGreatDoorW.PrintWords Go.Proofs.YtcjmplpfebpfpaaGreatDoorW.PrintLast Go.Proofs.YtcjmplpfebpfpaaGreatDoorW.PrintMore PKindInstances
set_option linter.unusedVariables false
set_option linter.unusedSimpArgs false

theorem head_some (a n : Int) (s : ByteArray) (l : List S24) : ∃ h, plinthref01_Head.f a n s l = some h := by
  unfold plinthref01_Head.f
  split
  · split
    · exact ⟨_, rfl⟩
    · split
      · split
        · exact ⟨_, rfl⟩
        · exact ⟨_, rfl⟩
      · omega
  · exact ⟨_, rfl⟩
theorem listed_l0 (l : List S24) (hl : l.length < 9000000) (hq : ∀ x ∈ l, ∃ b, Ev (fun k => plinthlaw03_listed.f k x.f3) b) (d : Nat) : ∀ (i : Nat), d + i = l.length → ∃ b, Ev (fun k => plinthlaw03_listed.l0 k l (i : Int)) b := by
  induction d with
  | zero =>
    intro i h
    refine ⟨true, 1, fun k hk => ?_⟩
    obtain ⟨k, rfl⟩ : ∃ m, k = m + 1 := ⟨k - 1, by omega⟩
    simp only [plinthlaw03_listed.l0]
    rw [if_neg (by omega)]
  | succ d ih =>
    intro i h
    obtain ⟨x, hx⟩ : ∃ x, l[i]? = some x := ⟨l[i]'(by omega), List.getElem?_eq_getElem _⟩
    obtain ⟨b1, K1, h1⟩ := hq x (List.mem_of_getElem? hx)
    obtain ⟨b2, K2, h2⟩ := ih (i + 1) (by omega)
    obtain ⟨hd, hh⟩ := head_some x.f0 x.f1 x.f2 x.f3
    have hw : wrap64 ((i : Int) + 1) = ((i + 1 : Nat) : Int) := by rw [wr64 (by omega) (by omega)]; omega
    have key : ∀ k, plinthlaw03_listed.l0 (k + 1) l (i : Int) = if hd.toList = ([102, 117, 110] : List UInt8) then (if (x.f3.length : Int) = 3 then (if 1 < (x.f3.length : Int) then (if (rd_T24 x.f3 1).f0 = 3 then ((plinthlaw03_listed.f k x.f3).bind fun t => (if t = true then (plinthlaw03_listed.l0 k l ((i + 1 : Nat) : Int)) else (some false))) else (some false)) else none) else (some false)) else ((plinthlaw03_listed.f k x.f3).bind fun t => (if t = true then (plinthlaw03_listed.l0 k l ((i + 1 : Nat) : Int)) else (some false))) := by
      intro k
      simp only [plinthlaw03_listed.l0]
      rw [if_pos (by omega), if_pos (by omega), rd_at hx, hh, Option.bind_some, hw]
    have tail : ∃ b, Ev (fun k => (plinthlaw03_listed.f k x.f3).bind fun t => (if t = true then (plinthlaw03_listed.l0 k l ((i + 1 : Nat) : Int)) else (some false))) b := by
      cases b1 with
      | false => exact ⟨false, K1, fun k hk => by have := h1 k hk; simp only [] at this ⊢; rw [this]; rfl⟩
      | true => exact ⟨b2, max K1 K2, fun k hk => by have e1 := h1 k (by omega); have e2 := h2 k (by omega); simp only [] at e1 e2 ⊢; rw [e1, Option.bind_some, if_pos rfl, e2]⟩
    obtain ⟨b3, K3, h3⟩ := tail
    by_cases c1 : hd.toList = ([102, 117, 110] : List UInt8)
    · by_cases c2 : (x.f3.length : Int) = 3
      · by_cases c3 : (rd_T24 x.f3 1).f0 = 3
        · refine ⟨b3, K3 + 1, fun k hk => ?_⟩
          obtain ⟨k, rfl⟩ : ∃ m, k = m + 1 := ⟨k - 1, by omega⟩
          show plinthlaw03_listed.l0 (k + 1) l (i : Int) = _
          rw [key, if_pos c1, if_pos c2, if_pos (by omega), if_pos c3]
          exact h3 k (by omega)
        · refine ⟨false, 1, fun k hk => ?_⟩
          obtain ⟨k, rfl⟩ : ∃ m, k = m + 1 := ⟨k - 1, by omega⟩
          show plinthlaw03_listed.l0 (k + 1) l (i : Int) = _
          rw [key, if_pos c1, if_pos c2, if_pos (by omega), if_neg c3]
      · refine ⟨false, 1, fun k hk => ?_⟩
        obtain ⟨k, rfl⟩ : ∃ m, k = m + 1 := ⟨k - 1, by omega⟩
        show plinthlaw03_listed.l0 (k + 1) l (i : Int) = _
        rw [key, if_pos c1, if_neg c2]
    · refine ⟨b3, K3 + 1, fun k hk => ?_⟩
      obtain ⟨k, rfl⟩ : ∃ m, k = m + 1 := ⟨k - 1, by omega⟩
      show plinthlaw03_listed.l0 (k + 1) l (i : Int) = _
      rw [key, if_neg c1]
      exact h3 k (by omega)
theorem listed_row (l : List S24) (hl : l.length < 9000000) (hq : ∀ x ∈ l, ∃ b, Ev (fun k => plinthlaw03_listed.f k x.f3) b) : ∃ b, Ev (fun k => plinthlaw03_listed.f k l) b := by
  obtain ⟨b, K, h⟩ := listed_l0 l hl hq l.length 0 (by omega)
  refine ⟨b, K + 1, fun k hk => ?_⟩
  obtain ⟨k, rfl⟩ : ∃ m, k = m + 1 := ⟨k - 1, by omega⟩
  simp only [plinthlaw03_listed.f]
  exact h k (by omega)
mutual
theorem listed_ev : ∀ x : S24, wid x < 9000000 → ∃ b, Ev (fun k => plinthlaw03_listed.f k x.f3) b
  | ⟨a, n, s, l⟩, h => by
    have hl := listed_evs l
    have h1 := wid_kids ⟨a, n, s, l⟩
    simp only [] at h1
    have h2 := wids_len l
    exact listed_row l (by omega) (fun x hx => hl x hx (by have := wid_mem hx; omega))
theorem listed_evs : ∀ (l : List S24), ∀ x ∈ l, wid x < 9000000 → ∃ b, Ev (fun k => plinthlaw03_listed.f k x.f3) b
  | [], x, h => absurd h (List.not_mem_nil)
  | y :: l, x, h => by
    rcases List.mem_cons.1 h with h | h
    · rw [h]; exact listed_ev y
    · exact listed_evs l x h
end
theorem listed_any (l : List S24) (A : Option Addr) (c : Nat) (w : World) (hr : Kd.C k24 w A l.length l) (hc : l.length ≤ c) (hl : l.length < 9000000) (hw : ∀ x ∈ l, wid x < 9000000) :
    Calls Tryz.prog 17 #[.slice A l.length c] w fun e w' => (∃ b, e = .returned (.bool b)) ∧ Below w.heap.size w w' := by
  obtain ⟨b, K, h⟩ := listed_row l hl (fun x hx => listed_ev x (hw x hx))
  refine (plinthlaw03_listed.calls K A c l b w hr hc (h K (Nat.le_refl _))).mono ?_
  rintro e w' ⟨rfl, hB⟩
  exact ⟨⟨b, rfl⟩, hB⟩

def conv (x : S51) : S71 := ⟨x.f0, x.f1⟩
theorem pairs_l0 (l : List S51) (hl : l.length < 9000000) (d : Nat) : ∀ (i k : Nat) (acc : List S71), d + i = l.length → d < k → acc.length ≤ i → plinthlaw03_pairs.l0 k l acc (i : Int) = some (acc ++ (l.drop i).map conv) := by
  induction d with
  | zero =>
    intro i k acc h hk ha
    obtain ⟨k, rfl⟩ : ∃ m, k = m + 1 := ⟨k - 1, by omega⟩
    have e : l.drop i = [] := List.drop_eq_nil_of_le (by omega)
    simp only [plinthlaw03_pairs.l0]
    rw [if_neg (by omega), e]
    simp
  | succ d ih =>
    intro i k acc h hk ha
    obtain ⟨k, rfl⟩ : ∃ m, k = m + 1 := ⟨k - 1, by omega⟩
    obtain ⟨x, hx⟩ : ∃ x, l[i]? = some x := ⟨l[i]'(by omega), List.getElem?_eq_getElem _⟩
    have e : l.drop i = x :: l.drop (i + 1) := by obtain ⟨h9, h10⟩ := List.getElem?_eq_some_iff.1 hx; rw [← h10]; exact List.drop_eq_getElem_cons h9
    have er : rd_T51 l (i : Int) = x := by unfold rd_T51; rw [Int.toNat_natCast, List.getD_eq_getElem?_getD, hx]; rfl
    have hw : wrap64 ((i : Int) + 1) = ((i + 1 : Nat) : Int) := by rw [wr64 (by omega) (by omega)]; omega
    simp only [plinthlaw03_pairs.l0]
    rw [if_pos (by omega), if_pos (by omega), if_pos (by omega), er, hw, ih (i + 1) k _ (by omega) (by omega) (by simp only [List.length_append, List.length_cons, List.length_nil]; omega), e]
    simp [conv]
    obtain ⟨nm, ⟨z0, z1, z2, z3⟩⟩ := x
    rfl
theorem pairs_any (l : List S51) (A : Option Addr) (c : Nat) (w : World) (hr : Kd.C k51 w A l.length l) (hc : l.length ≤ c) (hl : l.length < 9000000) :
    Calls Tryz.prog 13 #[.slice A l.length c] w fun e w' => ∃ A' c', e = .returned (.slice A' (l.map conv).length c') ∧ (l.map conv).length ≤ c' ∧ Kd.C k71 w' A' (l.map conv).length (l.map conv) ∧ Below w.heap.size w w' := by
  have h : plinthlaw03_pairs.f (l.length + 1) l = some (l.map conv) := by
    unfold plinthlaw03_pairs.f
    have := pairs_l0 l hl l.length 0 (l.length + 1) [] (by omega) (by omega) (Nat.le_refl _)
    simpa using this
  refine (plinthlaw03_pairs.calls (l.length + 1) (fun k => k < w.heap.size) A c l _ w (Kd.V_mk hc (Kd.C_F k51_heap hr)) h).mono ?_
  rintro e w' ⟨v, rfl, hN, hB⟩
  obtain ⟨A', c', rfl, h1, h2⟩ := Kd.N_reads hN
  exact ⟨A', c', rfl, h1, h2, hB⟩
theorem rinst_small {vs : List ByteArray} {x y : S24} {l : List S71} (h : rInstM vs x y = some l) (hy : wid y < 9000000) (hx : siz x < 9000000) : (∀ p ∈ l, wid p.f1 < 9000000) ∧ l.length < 9000000 := by
  have GR := mrM_grows vs x y false [] 9000000 (fun p hp => absurd hp List.not_mem_nil) hy
  unfold rInstM at h
  split at h
  · obtain rfl := Option.some.inj h
    unfold outOf
    refine ⟨fun p hp => ?_, ?_⟩
    · obtain ⟨nm, _, rfl⟩ := List.mem_map.1 hp
      show wid (toOf _ nm) < 9000000
      unfold toOf
      cases hf : findM (mrM vs x y false []).2 nm with
      | none => decide
      | some z => obtain ⟨p, hp, e⟩ := findM_mem hf; rw [Option.getD_some, ← e]; exact GR.1 p hp
    · rw [List.length_map]
      have h2 := GR.2
      simp only [List.length_nil, Nat.zero_add] at h2
      have h3 : ∀ (l : List S71) (acc : List ByteArray), (putAll acc l).length ≤ acc.length + l.length := by
        intro l
        induction l with
        | nil => intro acc; simp [putAll]
        | cons p l ih =>
          intro acc
          have h4 := ih (putL acc p.f0)
          have h5 := putL_len acc p.f0
          have h6 : putAll acc (p :: l) = putAll (putL acc p.f0) l := rfl
          rw [h6]
          simp only [List.length_cons]
          omega
      have h7 := h3 (mrM vs x y false []).2 []
      simp only [List.length_nil, Nat.zero_add] at h7
      omega
  · cases h
set_option maxRecDepth 100000 in
set_option maxHeartbeats 16000000 in
theorem KindInstances_any (vs : List ByteArray) (w : World) (x y : S24) (A B V : Option Addr) (c d cv : Nat)
    (ha : Kd.C k24 w A x.f3.length x.f3) (hac : x.f3.length ≤ c) (haw : wid x < 9000000) (haz : siz x < 9000000) (hb : Kd.C k24 w B y.f3.length y.f3) (hbc : y.f3.length ≤ d) (hbw : wid y < 9000000) (hbz : siz y < 9000000) (hv : Kd.C Kd.string w V vs.length vs) (hvc : vs.length ≤ cv) (hvn : vs.length < 9000000) (hvz : ∀ v ∈ vs, v.size < 8000000) :
    Calls Tryz.prog 7 #[formV x.f0 x.f1 x.f2 A x.f3.length c, formV y.f0 y.f1 y.f2 B y.f3.length d, .slice V vs.length cv] w fun e w' => e = .returned (.bool true) ∧ Below w.heap.size w w' := by
  have hu24 := Tryz.underlying24
  obtain ⟨f1, f2, fb⟩ := boxes2 w (Obj.cells #[.int .i64 x.f0, .int .i64 x.f1, .string x.f2, .slice A x.f3.length c] 24) (Obj.cells #[.int .i64 y.f0, .int .i64 y.f1, .string y.f2, .slice B y.f3.length d] 24)
  have XB : Hid _ := fb
  have X1 : Hid _ := f1
  have X2 : Hid _ := f2
  have hrw : ∀ z ∈ [x, y], wid z < 9000000 := by
    intro z hz
    rcases List.mem_cons.1 hz with rfl | hz
    · exact haw
    · obtain rfl := List.mem_singleton.1 hz; exact hbw
  have LI : Hid (∀ (w1 : World), Below w.heap.size w w1 → Calls Tryz.prog 17 #[.slice (some ⟨w1.heap.size, 0, none⟩) 2 2] (w1.alloc (.cells #[.int .i64 x.f0, .int .i64 x.f1, .string x.f2, .slice A x.f3.length c, .int .i64 y.f0, .int .i64 y.f1, .string y.f2, .slice B y.f3.length d] 24)) _) := fun w1 h1 => by
    have hB2 := below_alloc h1 (.cells #[.int .i64 x.f0, .int .i64 x.f1, .string x.f2, .slice A x.f3.length c, .int .i64 y.f0, .int .i64 y.f1, .string y.f2, .slice B y.f3.length d] 24)
    exact listed_any [x, y] (some ⟨w1.heap.size, 0, none⟩) 2 _ (two_row (MapKept.heap_alloc w1 _).1 (Kd.C_below ha hB2) hac (Kd.C_below hb hB2) hbc) (Nat.le_refl 2) (by simp) hrw
  have KI : Hid (∀ w1, Below w.heap.size w w1 → _) := fun w1 h1 => KInstance_any vs w1 x y A B V c d cv (Kd.C_below ha h1) hac haw haz (Kd.C_below hb h1) hbc hbw (Kd.C_below hv h1) hvc hvn hvz
  have RI : Hid (∀ w1, Below w.heap.size w w1 → _) := fun w1 h1 => RInstance_any vs w1 x y A B V c d cv (Kd.C_below ha h1) hac haw haz (Kd.C_below hb h1) hbc hbw hbz (Kd.C_below hv h1) hvc hvn (fun v h => by have := hvz v h; omega)
  have IS := instance_is vs x y
  have SM : Hid (∀ l, rInstM vs x y = some l → _) := fun l h => rinst_small h hbw haz
  clear f1 f2 fb ha hb hv hvz hrw haw hbw haz hbz
  unfold KIPost at KI
  obtain ⟨R, hR⟩ : ∃ R, R = rInstM vs x y := ⟨_, rfl⟩
  obtain ⟨Q, hQ⟩ : ∃ Q, Q = ((namesM [] vs && rowsM [[x, y]]) && (matchM vs x y false []).1) := ⟨_, rfl⟩
  obtain ⟨mt, hmt⟩ : ∃ mt, mt = (matchM vs x y false []).2 := ⟨_, rfl⟩
  rw [← hR, ← hQ, ← hmt] at IS
  rw [← hR] at RI SM
  rw [← hQ, ← hmt] at KI
  clear hR hQ hmt
  obtain ⟨x0, x1', x2', x3⟩ := x
  obtain ⟨y0, y1, y2, y3⟩ := y
  simp only [] at hac hbc
  have IS : Hid _ := IS
  go_enter Tryz.func7, Tryz.ntmps7
  go_upto_region 1 with fail
  generalize (w.alloc (Obj.cells #[.int .i64 x0, .int .i64 x1', .string x2', .slice A x3.length c] 24)).alloc (Obj.cells #[.int .i64 y0, .int .i64 y1, .string y2, .slice B y3.length d] 24) = X at *
  obtain ⟨p0, p1, p2, p3⟩ := cells4 X1.out
  obtain ⟨q0, q1, q2, q3⟩ := cells4 X2.out
  generalize hbA : w.heap.size = bA at *
  generalize hbB : bA + 1 = bB at *
  go_wp2_with fail
  refine Calls.mono (LI.out _ (by subst hbA; exact XB.out)) ?_
  rintro e w1 ⟨⟨b, rfl⟩, B1'⟩
  have B1 : Below X.heap.size X w1 := below_after (below_alloc (Below.refl _ _) _) B1'
  have HB1 : Hid _ := B1
  replace p0 := pw_cell_below B1 p0
  replace p1 := pw_cell_below B1 p1
  replace p2 := pw_cell_below B1 p2
  replace p3 := pw_cell_below B1 p3
  replace q0 := pw_cell_below B1 q0
  replace q1 := pw_cell_below B1 q1
  replace q2 := pw_cell_below B1 q2
  replace q3 := pw_cell_below B1 q3
  clear B1 B1'
  cases b with
  | false =>
    go_wp2_with fail
    refine (sane_any _).mono ?_
    rintro e w2 ⟨rfl, B2⟩
    have HB2 : Hid (Below X.heap.size X w2) := below_after HB1.out B2
    clear B2
    go_wp2_with fail
    go_ret
    exact ⟨rfl, by subst hbA; exact below_after XB.out HB2.out⟩
  | true =>
    go_wp2_with fail
    rcases IS.out with ⟨hr, hc⟩ | ⟨hc, hT⟩
    · subst hr
      subst hc
      clear IS
      refine Calls.mono (KI.out _ (by subst hbA; exact below_after XB.out HB1.out)) ?_
      intro e w2 h2
      obtain ⟨rfl, B2⟩ : e = .returned (.tuple #[.slice none 0 0, .bool false]) ∧ Below w1.heap.size w1 w2 := h2
      have HB2 : Hid (Below X.heap.size X w2) := below_after HB1.out B2
      replace p0 := pw_cell_below B2 p0
      replace p1 := pw_cell_below B2 p1
      replace p2 := pw_cell_below B2 p2
      replace p3 := pw_cell_below B2 p3
      replace q0 := pw_cell_below B2 q0
      replace q1 := pw_cell_below B2 q1
      replace q2 := pw_cell_below B2 q2
      replace q3 := pw_cell_below B2 q3
      clear B2
      go_wp2_with fail
      refine Calls.mono (RI.out _ (by subst hbA; exact below_after XB.out HB2.out)) ?_
      rintro e w3 ⟨rfl, B3⟩
      have HB3 : Hid (Below X.heap.size X w3) := below_after HB2.out B3
      clear B3
      go_wp2_with fail
      refine Calls.mono (pairs_any [] none 0 w3 ⟨rfl, Nat.zero_le _, fun h => absurd h (Nat.lt_irrefl _)⟩ (Nat.le_refl _) (by decide)) ?_
      rintro e w4 ⟨A4, c4, rfl, h4, hC4, B4⟩
      have HB4 : Hid (Below X.heap.size X w4) := below_after HB3.out B4
      have HC4 : Hid _ := hC4
      clear B4 hC4
      go_wp2_with fail
      refine Calls.mono (Same_any [] [] A4 none c4 0 w4 HC4.out ⟨rfl, Nat.zero_le _, fun h => absurd h (Nat.lt_irrefl _)⟩ (fun x h => absurd h List.not_mem_nil) (fun x h => absurd h List.not_mem_nil) (by decide)) ?_
      rintro e w5 ⟨rfl, B5⟩
      have HB5 : Hid (Below X.heap.size X w5) := below_after HB4.out B5
      clear B5
      go_wp2_with fail
      refine (sane_any _).mono ?_
      rintro e w6 ⟨rfl, B6⟩
      have HB6 : Hid (Below X.heap.size X w6) := below_after HB5.out B6
      clear B6
      go_wp2_with fail
      go_ret
      exact ⟨rfl, by subst hbA; exact below_after XB.out HB6.out⟩
    · subst hc
      clear IS
      refine Calls.mono (KI.out _ (by subst hbA; exact below_after XB.out HB1.out)) ?_
      intro e w2 h2
      obtain ⟨T, A2, c2, hTa, hTm, rfl, hc2, hC2, B2⟩ : KIGot w1 mt e w2 := h2
      have hr := hT T hTa hTm
      have HL : Hid _ := SM.out _ hr
      have hln : (kOut mt T).length = T.length := by simp [kOut]
      have HLN : Hid _ := hln
      have HC2 : Hid _ := hC2
      have HB2 : Hid (Below X.heap.size X w2) := below_after HB1.out B2
      replace p0 := pw_cell_below B2 p0
      replace p1 := pw_cell_below B2 p1
      replace p2 := pw_cell_below B2 p2
      replace p3 := pw_cell_below B2 p3
      replace q0 := pw_cell_below B2 q0
      replace q1 := pw_cell_below B2 q1
      replace q2 := pw_cell_below B2 q2
      replace q3 := pw_cell_below B2 q3
      subst hr
      clear B2 hT hTa hTm hC2 hln SM
      generalize hl9 : kOut mt T = L at *
      go_wp2_with fail
      refine Calls.mono (RI.out _ (by subst hbA; exact below_after XB.out HB2.out)) ?_
      rintro e w3 ⟨A3, c3, rfl, hc3, hC3, B3⟩
      have HB3 : Hid (Below X.heap.size X w3) := below_after HB2.out B3
      have HC3 : Hid _ := hC3
      have HB23 : Hid (Below w2.heap.size w2 w3) := B3
      clear B3 hC3 p0 p1 p2 p3 q0 q1 q2 q3
      go_wp2_with fail
      have PA := pairs_any L A2 c2 w3 (by rw [HLN.out]; exact Kd.C_below HC2.out HB23.out) (by rw [HLN.out]; exact hc2) (by have := HL.out.2; rw [List.length_map] at this; exact this)
      rw [HLN.out] at PA
      refine Calls.mono PA ?_
      rintro e w4 ⟨A4, c4, rfl, h4, hC4, B4⟩
      have HB4 : Hid (Below X.heap.size X w4) := below_after HB3.out B4
      have HC4 : Hid _ := hC4
      have HC5 : Hid _ := Kd.C_below HC3.out B4
      clear B4 hC4
      go_wp2_with fail
      have SA := Same_any (L.map conv) (L.map conv) A4 A3 c4 c3 w4 HC4.out HC5.out HL.out.1 HL.out.1 HL.out.2
      rw [same_self] at SA
      simp only [List.length_map] at SA
      refine Calls.mono SA ?_
      rintro e w5 ⟨rfl, B5⟩
      have HB5 : Hid (Below X.heap.size X w5) := below_after HB4.out B5
      clear B5
      go_wp2_with fail
      refine (sane_any _).mono ?_
      rintro e w6 ⟨rfl, B6⟩
      have HB6 : Hid (Below X.heap.size X w6) := below_after HB5.out B6
      clear B6
      go_wp2_with fail
      go_ret
      exact ⟨rfl, by subst hbA; exact below_after XB.out HB6.out⟩
end Go.Proofs.YtcjmplpfebpfpaaGreatDoor
