/- Part 7 of what the law's row leans on (Na): the print's words and functions, cut to what is reached, and own texts. -/
import Derived.Defers
import Derived.Recover
import Derived.BigQuiet
import Derived.Deep.RegionLaw
import Derived.Deep.RegionHeld3
import Derived.Test.YtcjmplpfebpfpaaGreatDoorNa6
namespace Go.Proofs.YtcjmplpfebpfpaaGreatDoor
open Go.RowKit Go.Proofs Go.Proofs.YtcjmplpfebpfpaaGreatDoorW.PrintWords Go.Proofs.YtcjmplpfebpfpaaGreatDoorW.PrintLast Go.Proofs.YtcjmplpfebpfpaaGreatDoorW.PrintMore PKindInstances
set_option linter.unusedVariables false
set_option linter.unusedSimpArgs false

def sameM : List S71 → List S71 → Bool
  | [], [] => true
  | x :: l, y :: m => ((x.f0.toList == y.f0.toList) && eqM x.f1 y.f1) && sameM l m
  | _, _ => false
theorem sameM_len : ∀ (l m : List S71), l.length ≠ m.length → sameM l m = false
  | [], [], h => absurd rfl h
  | [], _ :: _, _ => rfl
  | _ :: _, [], _ => rfl
  | x :: l, y :: m, h => by
    simp only [sameM, sameM_len l m (fun e => h (by simp [e])), Bool.and_false]
theorem drop_at71 {l : List S71} {i : Nat} {x : S71} (hx : l[i]? = some x) : l.drop i = x :: l.drop (i + 1) := by
  obtain ⟨h, rfl⟩ := List.getElem?_eq_some_iff.1 hx
  exact List.drop_eq_getElem_cons h
theorem row_at5 {w : World} {A : Option Addr} {n : Nat} {l : List S71} (h : Kd.C k71 w A n l) {i : Nat} (hi : i < n) {x : S71} (hx : l[i]? = some x) :
    ∃ ad A4 c4, A = some ad ∧ w.cell? (ad.add (i * 5)) = some (.string x.f0) ∧ w.cell? ⟨(ad.add (i * 5)).block, (ad.add (i * 5)).off + 1, none⟩ = some (.int .i64 x.f1.f0) ∧
      w.cell? ⟨(ad.add (i * 5)).block, (ad.add (i * 5)).off + 2, none⟩ = some (.int .i64 x.f1.f1) ∧ w.cell? ⟨(ad.add (i * 5)).block, (ad.add (i * 5)).off + 3, none⟩ = some (.string x.f1.f2) ∧ w.cell? ⟨(ad.add (i * 5)).block, (ad.add (i * 5)).off + 4, none⟩ = some (.slice A4 x.f1.f3.length c4) ∧
      x.f1.f3.length ≤ c4 ∧ k24.C w A4 x.f1.f3.length x.f1.f3 := by
  obtain ⟨ad, A3, c3, e, g0, g1, g2, g3, g4, g5, g6⟩ := at_T71 h (i : Int) (by omega) (by omega)
  have er : rd_T71 l (i : Int) = x := by unfold rd_T71; rw [Int.toNat_natCast, List.getD_eq_getElem?_getD, hx]; rfl
  rw [er] at g0 g1 g2 g3 g4 g5 g6
  rw [Int.toNat_natCast] at g0 g1 g2 g3 g4
  exact ⟨ad, A3, c3, e, g0, g1, g2, g3, g4, g5, g6⟩

/-- What holds of the loop. -/
def SmRel (W0 : World) (l m : List S71) (R : Bool) (k : Nat) (x5 : Value) (wr : World) : Prop :=
  ∃ (i : Nat), x5 = .int .i64 (i : Int) ∧ k + i = l.length ∧ Below W0.heap.size W0 wr ∧ sameM (l.drop i) (m.drop i) = R

set_option maxRecDepth 100000 in
set_option maxHeartbeats 8000000 in
theorem Same_any (l m : List S71) (A B : Option Addr) (c d : Nat) (w : World) (hr : Kd.C k71 w A l.length l) (hs : Kd.C k71 w B m.length m)
    (hl : ∀ x ∈ l, wid x.f1 < 9000000) (hm : ∀ x ∈ m, wid x.f1 < 9000000) (hn : l.length < 9000000) :
    Calls Tryz.prog 15 #[.slice A l.length c, .slice B m.length d] w fun e w' => e = .returned (.bool (sameM l m)) ∧ Below w.heap.size w w' := by
  have hu24 := Tryz.underlying24
  have hu71 := Tryz.underlying71
  by_cases hlm : l.length = m.length
  · obtain ⟨R, hR⟩ : ∃ R, R = sameM l m := ⟨_, rfl⟩
    rw [← hR]
    have HA : Hid _ := hr
    have HB : Hid _ := hs
    have HL : Hid _ := hl
    have HM : Hid _ := hm
    have HLM : Hid _ := hlm
    have en : ((l.length : Int) != (m.length : Int)) = false := bne_eq_false_iff_eq.mpr (by omega)
    have start : Hid (SmRel w l m R l.length (.int .i64 ((0 : Nat) : Int)) w) := ⟨0, rfl, rfl, Below.refl _ _, hR.symm⟩
    clear hr hs hl hm hlm hR
    go_enter Tryz.func15, Tryz.ntmps15
    go_wp2_with fail
    go_loopg [5] l.length (fun k x5 wr => SmRel w l m R k x5 wr)
    case atStart => exact start.out
    case round =>
      clear start
      obtain ⟨i, rfl, hki, hB0, hV⟩ := hrel
      by_cases hlt : i < l.length
      · obtain ⟨g, rfl⟩ : ∃ g, gk = g + 1 := ⟨gk - 1, by omega⟩
        have e1 : decide (i < l.length) = true := decide_eq_true hlt
        have hlm := HLM.out
        obtain ⟨x, hx⟩ : ∃ x, l[i]? = some x := ⟨l[i]'(by omega), List.getElem?_eq_getElem _⟩
        obtain ⟨y, hy⟩ : ∃ y, m[i]? = some y := ⟨m[i]'(by omega), List.getElem?_eq_getElem _⟩
        have hltm : i < m.length := by omega
        obtain ⟨ad, A5, c5, rfl, g0, g1, g2, g3, g4, g5, g6⟩ := row_at5 (Kd.C_below HA.out hB0) (by omega) hx
        obtain ⟨ae, B5, d5, rfl, k0, k1, k2, k3, k4, k5, k6⟩ := row_at5 (Kd.C_below HB.out hB0) (by omega) hy
        rw [drop_at71 hx, drop_at71 hy] at hV
        simp only [sameM] at hV
        have MQ : Hid (∀ wq, Below wr.heap.size wr wq → _) := fun wq hwq => REqual_any x.f1 y.f1 A5 B5 c5 d5 wq (Kd.C_below g6 hwq) g5 (Kd.C_below k6 hwq) k5 (HL.out x (List.mem_of_getElem? hx)) (HM.out y (List.mem_of_getElem? hy))
        clear hx hy g6 k6 hlm
        obtain ⟨xn, x0, x1, x2, x3⟩ := x
        obtain ⟨yn, y0, y1, y2, y3⟩ := y
        have HF : Hid (∀ W : World, Below wr.heap.size wr W → (W.cell? (ad.add (i * 5)) = some (.string xn) ∧ W.cell? ⟨(ad.add (i * 5)).block, (ad.add (i * 5)).off + 1, none⟩ = some (.int .i64 x0) ∧ W.cell? ⟨(ad.add (i * 5)).block, (ad.add (i * 5)).off + 2, none⟩ = some (.int .i64 x1) ∧ W.cell? ⟨(ad.add (i * 5)).block, (ad.add (i * 5)).off + 3, none⟩ = some (.string x2) ∧ W.cell? ⟨(ad.add (i * 5)).block, (ad.add (i * 5)).off + 4, none⟩ = some (.slice A5 x3.length c5)) ∧ (W.cell? (ae.add (i * 5)) = some (.string yn) ∧ W.cell? ⟨(ae.add (i * 5)).block, (ae.add (i * 5)).off + 1, none⟩ = some (.int .i64 y0) ∧ W.cell? ⟨(ae.add (i * 5)).block, (ae.add (i * 5)).off + 2, none⟩ = some (.int .i64 y1) ∧ W.cell? ⟨(ae.add (i * 5)).block, (ae.add (i * 5)).off + 3, none⟩ = some (.string y2) ∧ W.cell? ⟨(ae.add (i * 5)).block, (ae.add (i * 5)).off + 4, none⟩ = some (.slice B5 y3.length d5))) := fun W h => ⟨⟨pw_cell_below h g0, pw_cell_below h g1, pw_cell_below h g2, pw_cell_below h g3, pw_cell_below h g4⟩, pw_cell_below h k0, pw_cell_below h k1, pw_cell_below h k2, pw_cell_below h k3, pw_cell_below h k4⟩
        simp only [] at hV MQ
        obtain ⟨q, hq⟩ : ∃ q, q = eqM ⟨x0, x1, x2, x3⟩ ⟨y0, y1, y2, y3⟩ := ⟨_, rfl⟩
        rw [← hq] at MQ hV
        have HBL : Hid _ := hB0
        clear hq hB0
        cases hnm : (xn.toList == yn.toList) with
        | true =>
          rw [hnm] at hV
          have HV : Hid _ := hV
          clear hV
          go_wp2_with fail
          clear g0 g1 g2 g3 g4 k0 k1 k2 k3 k4
          refine wp_region_held_drew (S := fun W => (W.cell? (ad.add (i * 5)) = some (.string xn) ∧ W.cell? ⟨(ad.add (i * 5)).block, (ad.add (i * 5)).off + 1, none⟩ = some (.int .i64 x0) ∧ W.cell? ⟨(ad.add (i * 5)).block, (ad.add (i * 5)).off + 2, none⟩ = some (.int .i64 x1) ∧ W.cell? ⟨(ad.add (i * 5)).block, (ad.add (i * 5)).off + 3, none⟩ = some (.string x2) ∧ W.cell? ⟨(ad.add (i * 5)).block, (ad.add (i * 5)).off + 4, none⟩ = some (.slice A5 x3.length c5)) ∧ (W.cell? (ae.add (i * 5)) = some (.string yn) ∧ W.cell? ⟨(ae.add (i * 5)).block, (ae.add (i * 5)).off + 1, none⟩ = some (.int .i64 y0) ∧ W.cell? ⟨(ae.add (i * 5)).block, (ae.add (i * 5)).off + 2, none⟩ = some (.int .i64 y1) ∧ W.cell? ⟨(ae.add (i * 5)).block, (ae.add (i * 5)).off + 3, none⟩ = some (.string y2) ∧ W.cell? ⟨(ae.add (i * 5)).block, (ae.add (i * 5)).off + 4, none⟩ = some (.slice B5 y3.length d5))) (by kernel_rfl) (HF.out _ (below_drew (Below.refl _ _))) (fun hHeld => ?_)
          refine takeV 0 (some 17) (.slice (some ad) l.length c) rfl rfl (by kernel_rfl) (by kernel_rfl) (by kernel_rfl) (fun _ _ _ h => h) (Or.inl ⟨by kernel_rfl, fun W hSw => by obtain ⟨⟨t0, t1, t2, t3, t4⟩, u0, u1, u2, u3, u4⟩ := hSw; go_simp⟩) hHeld ?_
          try simp only [Act.put, List.setIfInBounds_toArray, List.set_cons_zero, List.set_cons_succ]
          refine takeV 1 (some 18) (.int .i64 (i : Int)) rfl rfl (by kernel_rfl) (by kernel_rfl) (by kernel_rfl) (fun _ _ _ h => h) (Or.inl ⟨by kernel_rfl, fun W hSw => by obtain ⟨⟨t0, t1, t2, t3, t4⟩, u0, u1, u2, u3, u4⟩ := hSw; go_simp⟩) hHeld ?_
          try simp only [Act.put, List.setIfInBounds_toArray, List.set_cons_zero, List.set_cons_succ]
          refine takeV 2 (some 19) (.pointer (some (ad.add (i * 5)))) rfl rfl (by kernel_rfl) (by kernel_rfl) (by kernel_rfl) (fun _ _ _ h => h) (Or.inl ⟨by kernel_rfl, fun W hSw => by obtain ⟨⟨t0, t1, t2, t3, t4⟩, u0, u1, u2, u3, u4⟩ := hSw; go_simp; first | done | (intro h9; exact absurd h9 (by omega))⟩) hHeld ?_
          try simp only [Act.put, List.setIfInBounds_toArray, List.set_cons_zero, List.set_cons_succ]
          refine takeV 3 (some 20) (.pointer (some (ad.add (i * 5)))) rfl rfl (by kernel_rfl) (by kernel_rfl) (by kernel_rfl) (fun _ _ _ h => h) (Or.inl ⟨by kernel_rfl, fun W hSw => by obtain ⟨⟨t0, t1, t2, t3, t4⟩, u0, u1, u2, u3, u4⟩ := hSw; go_simp⟩) hHeld ?_
          try simp only [Act.put, List.setIfInBounds_toArray, List.set_cons_zero, List.set_cons_succ]
          refine takeV 4 (some 21) (.string xn) rfl rfl (by kernel_rfl) (by kernel_rfl) (by kernel_rfl) (fun _ _ _ h => h) (Or.inl ⟨by kernel_rfl, fun W hSw => by obtain ⟨⟨t0, t1, t2, t3, t4⟩, u0, u1, u2, u3, u4⟩ := hSw; go_simp⟩) hHeld ?_
          try simp only [Act.put, List.setIfInBounds_toArray, List.set_cons_zero, List.set_cons_succ]
          refine takeV 5 (some 22) (.slice (some ae) m.length d) rfl rfl (by kernel_rfl) (by kernel_rfl) (by kernel_rfl) (fun _ _ _ h => h) (Or.inl ⟨by kernel_rfl, fun W hSw => by obtain ⟨⟨t0, t1, t2, t3, t4⟩, u0, u1, u2, u3, u4⟩ := hSw; go_simp⟩) hHeld ?_
          try simp only [Act.put, List.setIfInBounds_toArray, List.set_cons_zero, List.set_cons_succ]
          refine takeV 6 (some 23) (.int .i64 (i : Int)) rfl rfl (by kernel_rfl) (by kernel_rfl) (by kernel_rfl) (fun _ _ _ h => h) (Or.inl ⟨by kernel_rfl, fun W hSw => by obtain ⟨⟨t0, t1, t2, t3, t4⟩, u0, u1, u2, u3, u4⟩ := hSw; go_simp⟩) hHeld ?_
          try simp only [Act.put, List.setIfInBounds_toArray, List.set_cons_zero, List.set_cons_succ]
          refine takeV 7 (some 24) (.pointer (some (ae.add (i * 5)))) rfl rfl (by kernel_rfl) (by kernel_rfl) (by kernel_rfl) (fun _ _ _ h => h) (Or.inl ⟨by kernel_rfl, fun W hSw => by obtain ⟨⟨t0, t1, t2, t3, t4⟩, u0, u1, u2, u3, u4⟩ := hSw; go_simp; first | done | (intro h9; exact absurd h9 (by omega))⟩) hHeld ?_
          try simp only [Act.put, List.setIfInBounds_toArray, List.set_cons_zero, List.set_cons_succ]
          refine takeV 8 (some 25) (.pointer (some (ae.add (i * 5)))) rfl rfl (by kernel_rfl) (by kernel_rfl) (by kernel_rfl) (fun _ _ _ h => h) (Or.inl ⟨by kernel_rfl, fun W hSw => by obtain ⟨⟨t0, t1, t2, t3, t4⟩, u0, u1, u2, u3, u4⟩ := hSw; go_simp⟩) hHeld ?_
          try simp only [Act.put, List.setIfInBounds_toArray, List.set_cons_zero, List.set_cons_succ]
          refine takeV 9 (some 26) (.string yn) rfl rfl (by kernel_rfl) (by kernel_rfl) (by kernel_rfl) (fun _ _ _ h => h) (Or.inl ⟨by kernel_rfl, fun W hSw => by obtain ⟨⟨t0, t1, t2, t3, t4⟩, u0, u1, u2, u3, u4⟩ := hSw; go_simp⟩) hHeld ?_
          try simp only [Act.put, List.setIfInBounds_toArray, List.set_cons_zero, List.set_cons_succ]
          refine takeV 10 (some 27) (.bool false) rfl rfl (by kernel_rfl) (by kernel_rfl) (by kernel_rfl) (fun _ _ _ h => h) (Or.inl ⟨by kernel_rfl, fun W hSw => by obtain ⟨⟨t0, t1, t2, t3, t4⟩, u0, u1, u2, u3, u4⟩ := hSw; go_simp⟩) hHeld ?_
          try simp only [Act.put, List.setIfInBounds_toArray, List.set_cons_zero, List.set_cons_succ]
          refine takeV 11 (some 28) (.bool false) rfl rfl (by kernel_rfl) (by kernel_rfl) (by kernel_rfl) (fun _ _ _ h => h) (Or.inl ⟨by kernel_rfl, fun W hSw => by obtain ⟨⟨t0, t1, t2, t3, t4⟩, u0, u1, u2, u3, u4⟩ := hSw; go_simp⟩) hHeld ?_
          try simp only [Act.put, List.setIfInBounds_toArray, List.set_cons_zero, List.set_cons_succ]
          refine takeV 12 (some 29) (.slice (some ad) l.length c) rfl rfl (by kernel_rfl) (by kernel_rfl) (by kernel_rfl) (fun _ _ _ h => h) (Or.inl ⟨by kernel_rfl, fun W hSw => by obtain ⟨⟨t0, t1, t2, t3, t4⟩, u0, u1, u2, u3, u4⟩ := hSw; go_simp⟩) hHeld ?_
          try simp only [Act.put, List.setIfInBounds_toArray, List.set_cons_zero, List.set_cons_succ]
          refine takeV 13 (some 30) (.int .i64 (i : Int)) rfl rfl (by kernel_rfl) (by kernel_rfl) (by kernel_rfl) (fun _ _ _ h => h) (Or.inl ⟨by kernel_rfl, fun W hSw => by obtain ⟨⟨t0, t1, t2, t3, t4⟩, u0, u1, u2, u3, u4⟩ := hSw; go_simp⟩) hHeld ?_
          try simp only [Act.put, List.setIfInBounds_toArray, List.set_cons_zero, List.set_cons_succ]
          refine takeV 14 (some 31) (.pointer (some (ad.add (i * 5)))) rfl rfl (by kernel_rfl) (by kernel_rfl) (by kernel_rfl) (fun _ _ _ h => h) (Or.inl ⟨by kernel_rfl, fun W hSw => by obtain ⟨⟨t0, t1, t2, t3, t4⟩, u0, u1, u2, u3, u4⟩ := hSw; go_simp; first | done | (intro h9; exact absurd h9 (by omega))⟩) hHeld ?_
          try simp only [Act.put, List.setIfInBounds_toArray, List.set_cons_zero, List.set_cons_succ]
          refine takeV 15 (some 32) (.pointer (some ⟨(ad.add (i * 5)).block, (ad.add (i * 5)).off + 1, none⟩)) rfl rfl (by kernel_rfl) (by kernel_rfl) (by kernel_rfl) (fun _ _ _ h => h) (Or.inl ⟨by kernel_rfl, fun W hSw => by obtain ⟨⟨t0, t1, t2, t3, t4⟩, u0, u1, u2, u3, u4⟩ := hSw; go_simp⟩) hHeld ?_
          try simp only [Act.put, List.setIfInBounds_toArray, List.set_cons_zero, List.set_cons_succ]
          refine takeV 16 (some 33) (formV x0 x1 x2 A5 x3.length c5) rfl rfl (by kernel_rfl) (by kernel_rfl) (by kernel_rfl) (fun _ _ _ h => h) (Or.inl ⟨by kernel_rfl, fun W hSw => by obtain ⟨⟨t0, t1, t2, t3, t4⟩, u0, u1, u2, u3, u4⟩ := hSw; go_simp⟩) hHeld ?_
          try simp only [Act.put, List.setIfInBounds_toArray, List.set_cons_zero, List.set_cons_succ]
          refine takeV 17 (some 34) (.slice (some ae) m.length d) rfl rfl (by kernel_rfl) (by kernel_rfl) (by kernel_rfl) (fun _ _ _ h => h) (Or.inl ⟨by kernel_rfl, fun W hSw => by obtain ⟨⟨t0, t1, t2, t3, t4⟩, u0, u1, u2, u3, u4⟩ := hSw; go_simp⟩) hHeld ?_
          try simp only [Act.put, List.setIfInBounds_toArray, List.set_cons_zero, List.set_cons_succ]
          refine takeV 18 (some 35) (.int .i64 (i : Int)) rfl rfl (by kernel_rfl) (by kernel_rfl) (by kernel_rfl) (fun _ _ _ h => h) (Or.inl ⟨by kernel_rfl, fun W hSw => by obtain ⟨⟨t0, t1, t2, t3, t4⟩, u0, u1, u2, u3, u4⟩ := hSw; go_simp⟩) hHeld ?_
          try simp only [Act.put, List.setIfInBounds_toArray, List.set_cons_zero, List.set_cons_succ]
          refine takeV 19 (some 36) (.pointer (some (ae.add (i * 5)))) rfl rfl (by kernel_rfl) (by kernel_rfl) (by kernel_rfl) (fun _ _ _ h => h) (Or.inl ⟨by kernel_rfl, fun W hSw => by obtain ⟨⟨t0, t1, t2, t3, t4⟩, u0, u1, u2, u3, u4⟩ := hSw; go_simp; first | done | (intro h9; exact absurd h9 (by omega))⟩) hHeld ?_
          try simp only [Act.put, List.setIfInBounds_toArray, List.set_cons_zero, List.set_cons_succ]
          refine takeV 20 (some 37) (.pointer (some ⟨(ae.add (i * 5)).block, (ae.add (i * 5)).off + 1, none⟩)) rfl rfl (by kernel_rfl) (by kernel_rfl) (by kernel_rfl) (fun _ _ _ h => h) (Or.inl ⟨by kernel_rfl, fun W hSw => by obtain ⟨⟨t0, t1, t2, t3, t4⟩, u0, u1, u2, u3, u4⟩ := hSw; go_simp⟩) hHeld ?_
          try simp only [Act.put, List.setIfInBounds_toArray, List.set_cons_zero, List.set_cons_succ]
          refine takeV 21 (some 38) (formV y0 y1 y2 B5 y3.length d5) rfl rfl (by kernel_rfl) (by kernel_rfl) (by kernel_rfl) (fun _ _ _ h => h) (Or.inl ⟨by kernel_rfl, fun W hSw => by obtain ⟨⟨t0, t1, t2, t3, t4⟩, u0, u1, u2, u3, u4⟩ := hSw; go_simp⟩) hHeld ?_
          try simp only [Act.put, List.setIfInBounds_toArray, List.set_cons_zero, List.set_cons_succ]
          refine wpAnyH_ready (rs := [22]) (by kernel_rfl) (by simp) ?_
          refine AllReadyH.cons rfl (fun K hK => ?_) AllReadyH.nil
          clear hHeld
          go_simp
          go_at_call 11
          refine Calls.mono (MQ.out _ (below_drew (Below.refl _ _))) ?_
          rintro e w6 ⟨rfl, B6'⟩
          have B6 : Hid _ := below_after (below_drew (Below.refl wr.heap.size wr)) B6'
          have HSn := HF.out _ B6.out
          clear B6'
          go_wp2_with fail
          refine hK.out _ _ HSn (fun hHeld => ?_)
          clear hK K
          try simp only [Act.put, List.setIfInBounds_toArray, List.set_cons_zero, List.set_cons_succ]
          refine takeV 23 (some 40) (.bool (!q)) rfl rfl (by kernel_rfl) (by kernel_rfl) (by kernel_rfl) (fun _ _ _ h => h) (Or.inl ⟨by kernel_rfl, fun W hSw => by go_simp⟩) hHeld ?_
          try simp only [Act.put, List.setIfInBounds_toArray, List.set_cons_zero, List.set_cons_succ]
          refine takeV 24 (some 41) (.bool (!q)) rfl rfl (by kernel_rfl) (by kernel_rfl) (by kernel_rfl) (fun _ _ _ h => h) (Or.inl ⟨by kernel_rfl, fun W hSw => by go_simp⟩) hHeld ?_
          try simp only [Act.put, List.setIfInBounds_toArray, List.set_cons_zero, List.set_cons_succ]
          refine wpAnyH_done (by kernel_rfl) ?_ _
          have hV := HV.out
          clear HV hHeld HSn
          cases q with
          | true =>
            have HV9 : Hid (sameM (List.drop (i + 1) l) (List.drop (i + 1) m) = R) := hV
            clear hV
            go_wp2_with fail
            go_roundg g
            case measure => omega
            case rel => exact ⟨i + 1, by go_num, by omega, below_after HBL.out B6.out, HV9.out⟩
          | false =>
            have hV : false = R := hV
            subst hV
            go_wp2_with fail
            go_ret
            exact ⟨rfl, below_after HBL.out B6.out⟩
        | false =>
          rw [hnm] at hV
          have HV : Hid _ := hV
          clear hV
          go_wp2_with fail
          clear g0 g1 g2 g3 g4 k0 k1 k2 k3 k4
          refine wp_region_held_drew (S := fun W => (W.cell? (ad.add (i * 5)) = some (.string xn) ∧ W.cell? ⟨(ad.add (i * 5)).block, (ad.add (i * 5)).off + 1, none⟩ = some (.int .i64 x0) ∧ W.cell? ⟨(ad.add (i * 5)).block, (ad.add (i * 5)).off + 2, none⟩ = some (.int .i64 x1) ∧ W.cell? ⟨(ad.add (i * 5)).block, (ad.add (i * 5)).off + 3, none⟩ = some (.string x2) ∧ W.cell? ⟨(ad.add (i * 5)).block, (ad.add (i * 5)).off + 4, none⟩ = some (.slice A5 x3.length c5)) ∧ (W.cell? (ae.add (i * 5)) = some (.string yn) ∧ W.cell? ⟨(ae.add (i * 5)).block, (ae.add (i * 5)).off + 1, none⟩ = some (.int .i64 y0) ∧ W.cell? ⟨(ae.add (i * 5)).block, (ae.add (i * 5)).off + 2, none⟩ = some (.int .i64 y1) ∧ W.cell? ⟨(ae.add (i * 5)).block, (ae.add (i * 5)).off + 3, none⟩ = some (.string y2) ∧ W.cell? ⟨(ae.add (i * 5)).block, (ae.add (i * 5)).off + 4, none⟩ = some (.slice B5 y3.length d5))) (by kernel_rfl) (HF.out _ (below_drew (Below.refl _ _))) (fun hHeld => ?_)
          refine takeV 0 (some 17) (.slice (some ad) l.length c) rfl rfl (by kernel_rfl) (by kernel_rfl) (by kernel_rfl) (fun _ _ _ h => h) (Or.inl ⟨by kernel_rfl, fun W hSw => by obtain ⟨⟨t0, t1, t2, t3, t4⟩, u0, u1, u2, u3, u4⟩ := hSw; go_simp⟩) hHeld ?_
          try simp only [Act.put, List.setIfInBounds_toArray, List.set_cons_zero, List.set_cons_succ]
          refine takeV 1 (some 18) (.int .i64 (i : Int)) rfl rfl (by kernel_rfl) (by kernel_rfl) (by kernel_rfl) (fun _ _ _ h => h) (Or.inl ⟨by kernel_rfl, fun W hSw => by obtain ⟨⟨t0, t1, t2, t3, t4⟩, u0, u1, u2, u3, u4⟩ := hSw; go_simp⟩) hHeld ?_
          try simp only [Act.put, List.setIfInBounds_toArray, List.set_cons_zero, List.set_cons_succ]
          refine takeV 2 (some 19) (.pointer (some (ad.add (i * 5)))) rfl rfl (by kernel_rfl) (by kernel_rfl) (by kernel_rfl) (fun _ _ _ h => h) (Or.inl ⟨by kernel_rfl, fun W hSw => by obtain ⟨⟨t0, t1, t2, t3, t4⟩, u0, u1, u2, u3, u4⟩ := hSw; go_simp; first | done | (intro h9; exact absurd h9 (by omega))⟩) hHeld ?_
          try simp only [Act.put, List.setIfInBounds_toArray, List.set_cons_zero, List.set_cons_succ]
          refine takeV 3 (some 20) (.pointer (some (ad.add (i * 5)))) rfl rfl (by kernel_rfl) (by kernel_rfl) (by kernel_rfl) (fun _ _ _ h => h) (Or.inl ⟨by kernel_rfl, fun W hSw => by obtain ⟨⟨t0, t1, t2, t3, t4⟩, u0, u1, u2, u3, u4⟩ := hSw; go_simp⟩) hHeld ?_
          try simp only [Act.put, List.setIfInBounds_toArray, List.set_cons_zero, List.set_cons_succ]
          refine takeV 4 (some 21) (.string xn) rfl rfl (by kernel_rfl) (by kernel_rfl) (by kernel_rfl) (fun _ _ _ h => h) (Or.inl ⟨by kernel_rfl, fun W hSw => by obtain ⟨⟨t0, t1, t2, t3, t4⟩, u0, u1, u2, u3, u4⟩ := hSw; go_simp⟩) hHeld ?_
          try simp only [Act.put, List.setIfInBounds_toArray, List.set_cons_zero, List.set_cons_succ]
          refine takeV 5 (some 22) (.slice (some ae) m.length d) rfl rfl (by kernel_rfl) (by kernel_rfl) (by kernel_rfl) (fun _ _ _ h => h) (Or.inl ⟨by kernel_rfl, fun W hSw => by obtain ⟨⟨t0, t1, t2, t3, t4⟩, u0, u1, u2, u3, u4⟩ := hSw; go_simp⟩) hHeld ?_
          try simp only [Act.put, List.setIfInBounds_toArray, List.set_cons_zero, List.set_cons_succ]
          refine takeV 6 (some 23) (.int .i64 (i : Int)) rfl rfl (by kernel_rfl) (by kernel_rfl) (by kernel_rfl) (fun _ _ _ h => h) (Or.inl ⟨by kernel_rfl, fun W hSw => by obtain ⟨⟨t0, t1, t2, t3, t4⟩, u0, u1, u2, u3, u4⟩ := hSw; go_simp⟩) hHeld ?_
          try simp only [Act.put, List.setIfInBounds_toArray, List.set_cons_zero, List.set_cons_succ]
          refine takeV 7 (some 24) (.pointer (some (ae.add (i * 5)))) rfl rfl (by kernel_rfl) (by kernel_rfl) (by kernel_rfl) (fun _ _ _ h => h) (Or.inl ⟨by kernel_rfl, fun W hSw => by obtain ⟨⟨t0, t1, t2, t3, t4⟩, u0, u1, u2, u3, u4⟩ := hSw; go_simp; first | done | (intro h9; exact absurd h9 (by omega))⟩) hHeld ?_
          try simp only [Act.put, List.setIfInBounds_toArray, List.set_cons_zero, List.set_cons_succ]
          refine takeV 8 (some 25) (.pointer (some (ae.add (i * 5)))) rfl rfl (by kernel_rfl) (by kernel_rfl) (by kernel_rfl) (fun _ _ _ h => h) (Or.inl ⟨by kernel_rfl, fun W hSw => by obtain ⟨⟨t0, t1, t2, t3, t4⟩, u0, u1, u2, u3, u4⟩ := hSw; go_simp⟩) hHeld ?_
          try simp only [Act.put, List.setIfInBounds_toArray, List.set_cons_zero, List.set_cons_succ]
          refine takeV 9 (some 26) (.string yn) rfl rfl (by kernel_rfl) (by kernel_rfl) (by kernel_rfl) (fun _ _ _ h => h) (Or.inl ⟨by kernel_rfl, fun W hSw => by obtain ⟨⟨t0, t1, t2, t3, t4⟩, u0, u1, u2, u3, u4⟩ := hSw; go_simp⟩) hHeld ?_
          try simp only [Act.put, List.setIfInBounds_toArray, List.set_cons_zero, List.set_cons_succ]
          refine takeV 10 (some 27) (.bool true) rfl rfl (by kernel_rfl) (by kernel_rfl) (by kernel_rfl) (fun _ _ _ h => h) (Or.inl ⟨by kernel_rfl, fun W hSw => by obtain ⟨⟨t0, t1, t2, t3, t4⟩, u0, u1, u2, u3, u4⟩ := hSw; go_simp⟩) hHeld ?_
          try simp only [Act.put, List.setIfInBounds_toArray, List.set_cons_zero, List.set_cons_succ]
          refine takeV 11 (some 28) (.bool true) rfl rfl (by kernel_rfl) (by kernel_rfl) (by kernel_rfl) (fun _ _ _ h => h) (Or.inl ⟨by kernel_rfl, fun W hSw => by obtain ⟨⟨t0, t1, t2, t3, t4⟩, u0, u1, u2, u3, u4⟩ := hSw; go_simp⟩) hHeld ?_
          try simp only [Act.put, List.setIfInBounds_toArray, List.set_cons_zero, List.set_cons_succ]
          refine takeV 12 (some 29) undef rfl rfl (by kernel_rfl) (by kernel_rfl) (by kernel_rfl) (fun _ _ _ h => h) (Or.inr ⟨by kernel_rfl, rfl⟩) hHeld ?_
          try simp only [Act.put, List.setIfInBounds_toArray, List.set_cons_zero, List.set_cons_succ]
          refine takeV 13 (some 30) undef rfl rfl (by kernel_rfl) (by kernel_rfl) (by kernel_rfl) (fun _ _ _ h => h) (Or.inr ⟨by kernel_rfl, rfl⟩) hHeld ?_
          try simp only [Act.put, List.setIfInBounds_toArray, List.set_cons_zero, List.set_cons_succ]
          refine takeV 14 (some 31) undef rfl rfl (by kernel_rfl) (by kernel_rfl) (by kernel_rfl) (fun _ _ _ h => h) (Or.inr ⟨by kernel_rfl, rfl⟩) hHeld ?_
          try simp only [Act.put, List.setIfInBounds_toArray, List.set_cons_zero, List.set_cons_succ]
          refine takeV 15 (some 32) undef rfl rfl (by kernel_rfl) (by kernel_rfl) (by kernel_rfl) (fun _ _ _ h => h) (Or.inr ⟨by kernel_rfl, rfl⟩) hHeld ?_
          try simp only [Act.put, List.setIfInBounds_toArray, List.set_cons_zero, List.set_cons_succ]
          refine takeV 16 (some 33) undef rfl rfl (by kernel_rfl) (by kernel_rfl) (by kernel_rfl) (fun _ _ _ h => h) (Or.inr ⟨by kernel_rfl, rfl⟩) hHeld ?_
          try simp only [Act.put, List.setIfInBounds_toArray, List.set_cons_zero, List.set_cons_succ]
          refine takeV 17 (some 34) undef rfl rfl (by kernel_rfl) (by kernel_rfl) (by kernel_rfl) (fun _ _ _ h => h) (Or.inr ⟨by kernel_rfl, rfl⟩) hHeld ?_
          try simp only [Act.put, List.setIfInBounds_toArray, List.set_cons_zero, List.set_cons_succ]
          refine takeV 18 (some 35) undef rfl rfl (by kernel_rfl) (by kernel_rfl) (by kernel_rfl) (fun _ _ _ h => h) (Or.inr ⟨by kernel_rfl, rfl⟩) hHeld ?_
          try simp only [Act.put, List.setIfInBounds_toArray, List.set_cons_zero, List.set_cons_succ]
          refine takeV 19 (some 36) undef rfl rfl (by kernel_rfl) (by kernel_rfl) (by kernel_rfl) (fun _ _ _ h => h) (Or.inr ⟨by kernel_rfl, rfl⟩) hHeld ?_
          try simp only [Act.put, List.setIfInBounds_toArray, List.set_cons_zero, List.set_cons_succ]
          refine takeV 20 (some 37) undef rfl rfl (by kernel_rfl) (by kernel_rfl) (by kernel_rfl) (fun _ _ _ h => h) (Or.inr ⟨by kernel_rfl, rfl⟩) hHeld ?_
          try simp only [Act.put, List.setIfInBounds_toArray, List.set_cons_zero, List.set_cons_succ]
          refine takeV 21 (some 38) undef rfl rfl (by kernel_rfl) (by kernel_rfl) (by kernel_rfl) (fun _ _ _ h => h) (Or.inr ⟨by kernel_rfl, rfl⟩) hHeld ?_
          try simp only [Act.put, List.setIfInBounds_toArray, List.set_cons_zero, List.set_cons_succ]
          refine takeV 22 (some 39) undef rfl rfl (by kernel_rfl) (by kernel_rfl) (by kernel_rfl) (fun _ _ _ h => h) (Or.inr ⟨by kernel_rfl, rfl⟩) hHeld ?_
          try simp only [Act.put, List.setIfInBounds_toArray, List.set_cons_zero, List.set_cons_succ]
          refine takeV 23 (some 40) undef rfl rfl (by kernel_rfl) (by kernel_rfl) (by kernel_rfl) (fun _ _ _ h => h) (Or.inr ⟨by kernel_rfl, rfl⟩) hHeld ?_
          try simp only [Act.put, List.setIfInBounds_toArray, List.set_cons_zero, List.set_cons_succ]
          refine takeV 24 (some 41) (.bool true) rfl rfl (by kernel_rfl) (by kernel_rfl) (by kernel_rfl) (fun _ _ _ h => h) (Or.inl ⟨by kernel_rfl, fun W hSw => by obtain ⟨⟨t0, t1, t2, t3, t4⟩, u0, u1, u2, u3, u4⟩ := hSw; go_simp⟩) hHeld ?_
          try simp only [Act.put, List.setIfInBounds_toArray, List.set_cons_zero, List.set_cons_succ]
          refine wpAnyH_done (by kernel_rfl) ?_ _
          have hV : false = R := HV.out
          clear HV hHeld
          subst hV
          go_wp2_with fail
          go_ret
          exact ⟨rfl, below_after HBL.out (below_drew (Below.refl wr.heap.size wr))⟩
      · have e1 : decide (i < l.length) = false := decide_eq_false hlt
        have e3 : l.drop i = [] := List.drop_eq_nil_of_le (by omega)
        have e4 : m.drop i = [] := List.drop_eq_nil_of_le (by have := HLM.out; omega)
        rw [e3, e4] at hV
        simp only [sameM] at hV
        subst hV
        have BW : Hid _ := hB0
        clear hB0 e3 e4
        go_wp2_with fail
        go_ret
        exact ⟨rfl, BW.out⟩
  · rw [sameM_len l m hlm]
    have en : ((l.length : Int) != (m.length : Int)) = true := bne_iff_ne.mpr (by omega)
    clear hr hs hl hm hlm
    go_enter Tryz.func15, Tryz.ntmps15
    go_wp2_with fail
    go_ret
    exact ⟨rfl, Below.refl _ _⟩

end Go.Proofs.YtcjmplpfebpfpaaGreatDoor

namespace Go.Proofs.YtcjmplpfebpfpaaGreatDoor
open Go.RowKit Go.Proofs Go.Proofs.YtcjmplpfebpfpaaGreatDoorW.PrintWords Go.Proofs.YtcjmplpfebpfpaaGreatDoorW.PrintLast Go.Proofs.YtcjmplpfebpfpaaGreatDoorW.PrintMore PKindInstances
set_option linter.unusedVariables false
set_option linter.unusedSimpArgs false

theorem lists_step (vs : List ByteArray) (n : Nat) (hU : UniOk vs n) : ListsOk vs n := by
  intro W0 w base sp vb tb mt mtv a b bare A B c d R hs ht hw hb ha1 ha2 ha3 hb1 hb2 hb3 hk
  have s1 := wid_kids a
  have s2 := wid_kids b
  unfold listsM at hk
  cases bare with
  | true => exact lists_bare vs n W0 w base sp vb tb mt mtv a.f0 a.f1 a.f2 a.f3 b.f0 b.f1 b.f2 b.f3 A B c d R hs ht hw hb ha1 ha2 (by omega) hb1 hb2 (by omega) hU hk
  | false => exact lists_open vs n W0 w base sp vb tb mt mtv a.f0 a.f1 a.f2 a.f3 b.f0 b.f1 b.f2 b.f3 A B c d R hs ht hw hb ha1 ha2 (by omega) hb1 hb2 (by omega) hU hk

theorem unify_ok (vs : List ByteArray) : ∀ n, UniOk vs n
  | 0 => by
    intro W0 w base sp vb tb mt mtv a b bare A B c d R hs ht hw hb ha1 ha2 ha3 hb1 hb2 hb3 hk
    simp [unifyM] at hk
  | n + 1 => unify_step vs n (lists_step vs n (unify_ok vs n))

end Go.Proofs.YtcjmplpfebpfpaaGreatDoor

namespace Go.Proofs.YtcjmplpfebpfpaaGreatDoor
open Go.RowKit Go.Proofs Go.Proofs.YtcjmplpfebpfpaaGreatDoorW.PrintWords Go.Proofs.YtcjmplpfebpfpaaGreatDoorW.PrintLast Go.Proofs.YtcjmplpfebpfpaaGreatDoorW.PrintMore PKindInstances
set_option linter.unusedVariables false
set_option linter.unusedSimpArgs false

theorem assert88 (W : World) (v : Value) : (Instr.typeAssert (.iface 88 v) 20 88 true).run Tryz.prog W = .ok (.tuple #[v, .bool true]) W := by kernel_rfl
set_option maxRecDepth 100000 in
theorem catch_stop (pb qb : Nat) (v0 : Value) (m n : Int) (w : World) (hp : w.heap[pb]? = some (.cells #[v0] 25 (0, 0))) (hq : w.heap[qb]? = some (.cells #[.int .i64 m] 39 (0, 0))) (hne : pb ≠ qb) :
    CallsD Tryz.prog 54 #[.pointer (some ⟨pb, 0, none⟩), .pointer (some ⟨qb, 0, none⟩)] (.panicking [stopE n]) w fun e u' w' =>
      e = .returned (.tuple #[]) ∧ u' = .panicking [{ stopE n with recovered := true }] ∧ w'.heap[pb]? = some (.cells #[.slice none 0 0] 25 (0, 0)) ∧ w'.heap[qb]? = some (.cells #[.int .i64 n] 39 (0, 0)) ∧
      ∀ w0 : World, Below w0.heap.size w0 w → w0.heap.size ≤ pb → w0.heap.size ≤ qb → Below w0.heap.size w0 w' := by
  unfold stopE
  have hu88 := Tryz.underlying88
  have p0 : w.cell? ⟨pb, 0, none⟩ = some v0 := by simp [World.cell?, hp]
  have q0 : w.cell? ⟨qb, 0, none⟩ = some (.int .i64 m) := by simp [World.cell?, hq]
  have pf := frozen4 (i := 0) hp
  have qf := frozen4 (i := 0) hq
  refine callsD_of_wpS Tryz.func54 rfl fun c₀ cs hu => ?_
  simp only [Tryz.ntmps54, List.size_toArray, List.length_cons, List.length_nil, Nat.reduceAdd, Nat.reduceSub, Array.replicate_succ,
     Array.replicate_zero, List.push_toArray, List.append_toArray, List.nil_append, List.cons_append]
  refine wpS_seq ?_
  refine wpS_region ?_
  generalize hQ : Exit.thenS _ _ = Q
  simp [wpOpsS, go_sem, recoverD, hu]
  rw [← hQ]
  simp only [Exit.thenS]
  refine wpS_of_wp ?_
  clear hQ hu
  have hta := assert88
  go_wp2_with fail
  have a1 : (w.alloc (Obj.cells #[Value.int IntKind.i64 n] 88)).heap[pb]? = some (.cells #[v0] 25 (0, 0)) := (Below.heap_alloc _ _ _ (Array.getElem?_eq_some_iff.1 hp).1).trans hp
  have a2 : (w.alloc (Obj.cells #[Value.int IntKind.i64 n] 88)).heap[qb]? = some (.cells #[.int .i64 m] 39 (0, 0)) := (Below.heap_alloc _ _ _ (Array.getElem?_eq_some_iff.1 hq).1).trans hq
  have a3 : (w.alloc (Obj.cells #[Value.int IntKind.i64 n] 88)).heap[w.heap.size]? = some (.cells #[.int .i64 n] 88 (0, 0)) := (MapKept.heap_alloc w _).1
  have a4 : ∀ w0 : World, Below w0.heap.size w0 w → Below w0.heap.size w0 (w.alloc (Obj.cells #[Value.int IntKind.i64 n] 88)) := fun w0 h => below_alloc h _
  have lp := (Array.getElem?_eq_some_iff.1 hp).1
  have lq := (Array.getElem?_eq_some_iff.1 hq).1
  have a5 : w.heap.size ≠ pb := by omega
  have a6 : w.heap.size ≠ qb := by omega
  clear p0 q0 pf qf hp hq lp lq
  generalize w.alloc (Obj.cells #[Value.int IntKind.i64 n] 88) = W at *
  generalize w.heap.size = sb at *
  have p0 : W.cell? ⟨pb, 0, none⟩ = some v0 := by simp [World.cell?, a1]
  have q0 : W.cell? ⟨qb, 0, none⟩ = some (.int .i64 m) := by simp [World.cell?, a2]
  have r0 : W.cell? ⟨sb, 0, none⟩ = some (.int .i64 n) := by simp [World.cell?, a3]
  have pf := frozen4 (i := 0) a1
  have qf := frozen4 (i := 0) a2
  go_region
  all_goals
    go_wp2_with fail
    refine ⟨rfl, _, rfl, _, results_none rfl _ _ _, rfl, rfl, ?_, ?_, fun w0 h h1 h2 => below_drew ((Below.setCell (Below.setCell (a4 w0 h) h1 _) h2 _))⟩
    · exact (heap_setCell_other _ ⟨qb, 0, none⟩ pb _ (by simpa using hne)).trans (heap_setCell_same W pb 0 #[v0] 25 _ a1)
    · exact heap_setCell_same _ qb 0 #[.int .i64 m] 39 _ ((heap_setCell_other W ⟨pb, 0, none⟩ qb _ (by simpa using Ne.symm hne)).trans a2)

set_option maxRecDepth 100000 in
theorem catch_idle (p q : Addr) (w : World) :
    CallsD Tryz.prog 54 #[.pointer (some p), .pointer (some q)] .returning w fun e u' w' => e = .returned (.tuple #[]) ∧ u' = .returning ∧ w' = w := by
  refine callsD_of_wpS Tryz.func54 rfl fun c₀ cs hu => ?_
  simp only [Tryz.ntmps54, List.size_toArray, List.length_cons, List.length_nil, Nat.reduceAdd, Nat.reduceSub, Array.replicate_succ,
     Array.replicate_zero, List.push_toArray, List.append_toArray, List.nil_append, List.cons_append]
  refine wpS_seq ?_
  refine wpS_region ?_
  generalize hQ : Exit.thenS _ _ = Q
  simp [wpOpsS, go_sem, recoverD, hu]
  rw [← hQ]
  simp only [Exit.thenS]
  refine wpS_of_wp ?_
  clear hQ
  go_wp2_with fail
  exact ⟨rfl, .returning, by cases c₀; simp_all, _, results_none rfl _ _ _, rfl, rfl, rfl⟩
end Go.Proofs.YtcjmplpfebpfpaaGreatDoor

namespace Go.Proofs.YtcjmplpfebpfpaaGreatDoor
open Go.RowKit Go.Proofs Go.Proofs.YtcjmplpfebpfpaaGreatDoorW.PrintWords Go.Proofs.YtcjmplpfebpfpaaGreatDoorW.PrintLast Go.Proofs.YtcjmplpfebpfpaaGreatDoorW.PrintMore PKindInstances
set_option linter.unusedVariables false
set_option linter.unusedSimpArgs false

/-- Pairs of forms unified, one by one. -/
def allM (vs : List ByteArray) (n : Nat) : List (ByteArray × S24) → List S24 → List S24 → Option URes
  | mt, x :: la, y :: lb => match unifyM vs n mt x y false with | none => none | some (.stop e) => some (.stop e) | some (.ok mt') => allM vs n mt' la lb
  | mt, _, _ => some (.ok mt)

theorem two_rows {w : World} {b : Nat} {t : TypeId} {la lb : List S24} {A B : Option Addr} {c d : Nat} (h : w.heap[b]? = some (.cells #[.slice A la.length c, .slice B lb.length d] t (0, 0))) (ha : Kd.C k24 w A la.length la) (hc : la.length ≤ c) (hb : Kd.C k24 w B lb.length lb) (hd : lb.length ≤ d) :
    Kd.C (Kd.slice 22 k24) w (some ⟨b, 0, none⟩) [la, lb].length [la, lb] := by
  refine ⟨rfl, by simp, fun _ => ⟨_, rfl, fun j p hj => ?_⟩⟩
  match j, hj with
  | 0, hj =>
    obtain rfl : la = p := by simpa using hj
    refine ⟨[.slice A la.length c], rfl, ⟨A, c, rfl, hc, ha⟩, fun i u hu => ?_⟩
    match i, hu with
    | 0, hu =>
      obtain rfl : Value.slice A la.length c = u := by simpa using hu
      simp [World.cell?, h, Addr.add]
    | i + 1, hu => simp at hu
  | 1, hj =>
    obtain rfl : lb = p := by simpa using hj
    refine ⟨[.slice B lb.length d], rfl, ⟨B, d, rfl, hd, hb⟩, fun i u hu => ?_⟩
    match i, hu with
    | 0, hu =>
      obtain rfl : Value.slice B lb.length d = u := by simpa using hu
      simp [World.cell?, h, Addr.add, Kd.slice]
    | i + 1, hu => simp at hu
  | j + 2, hj => simp at hj

/-- The named results are read out of their cells. -/
theorem ua_results {w : World} {tmps : Array Value} {p q : Nat} {A : Option Addr} {n c : Nat} {z : Int} (h6 : tmps[6]? = some (.pointer (some ⟨p, 0, none⟩))) (h7 : tmps[7]? = some (.pointer (some ⟨q, 0, none⟩))) (hp : w.heap[p]? = some (.cells #[.slice A n c] 25 (0, 0))) (hq : w.heap[q]? = some (.cells #[.int .i64 z] 39 (0, 0))) :
    (results Tryz.f20 tmps).run Tryz.prog w = .ok (.tuple #[.slice A n c, .int .i64 z]) w := by
  have p3 : w.cell? ⟨p, 0, none⟩ = some (.slice A n c) := by simp [World.cell?, hp]
  have p4 : w.cell? ⟨q, 0, none⟩ = some (.int .i64 z) := by simp [World.cell?, hq]
  simp [results, Tryz.results20, go_sem, h6, h7, p3, p4]

/-- The world in which UnifyAll opens its solver. -/
def uaW (w : World) (A B : Option Addr) (n c m d : Nat) : World := ((w.alloc (.cells #[.slice none 0 0] 25)).alloc (.cells #[.int .i64 0] 39)).alloc (.cells #[.slice A n c, .slice B m d] 22)
theorem uaW_facts (w : World) (A B : Option Addr) (n c m d : Nat) : (uaW w A B n c m d).heap.size = w.heap.size + 3 ∧ Below w.heap.size w (uaW w A B n c m d) ∧
    (uaW w A B n c m d).heap[w.heap.size]? = some (.cells #[.slice none 0 0] 25 (0, 0)) ∧ (uaW w A B n c m d).heap[w.heap.size + 1]? = some (.cells #[.int .i64 0] 39 (0, 0)) ∧ (uaW w A B n c m d).heap[w.heap.size + 1 + 1]? = some (.cells #[.slice A n c, .slice B m d] 22 (0, 0)) := by
  have s1 := size_new w (.cells #[.slice none 0 0] 25)
  have s2 := size_new (w.alloc (.cells #[.slice none 0 0] 25)) (.cells #[.int .i64 0] 39)
  have s3 := size_new ((w.alloc (.cells #[.slice none 0 0] 25)).alloc (.cells #[.int .i64 0] 39)) (.cells #[.slice A n c, .slice B m d] 22)
  have h1 := (MapKept.heap_alloc w (.cells #[.slice none 0 0] 25)).1
  have h2 := (MapKept.heap_alloc (w.alloc (.cells #[.slice none 0 0] 25)) (.cells #[.int .i64 0] 39)).1
  have h3 := (MapKept.heap_alloc ((w.alloc (.cells #[.slice none 0 0] 25)).alloc (.cells #[.int .i64 0] 39)) (.cells #[.slice A n c, .slice B m d] 22)).1
  rw [s1] at h2
  rw [s2, s1] at h3
  unfold uaW
  refine ⟨by omega, below_alloc (below_alloc (below_alloc (Below.refl _ _) _) _) _, ?_, ?_, h3⟩
  · exact (Below.heap_alloc _ _ _ (by omega)).trans ((Below.heap_alloc _ _ _ (by omega)).trans h1)
  · exact (Below.heap_alloc _ _ _ (by omega)).trans h2

/-- What holds of the loop. -/
def UaRel (w X : World) (base sp vb tb : Nat) (vs : List ByteArray) (n : Nat) (la lb : List S24) (R : URes) (k : Nat) (x10 : Value) (wr : World) : Prop :=
  ∃ (i : Nat) (mt : List (ByteArray × S24)) (mtv : List (ByteArray × Value)), x10 = .int .i64 (i : Int) ∧ k + i = la.length ∧ i ≤ lb.length ∧ X.grownBy wr (some tb) ∧ SolvAt base wr sp vb tb (varsV vs) mtv ∧ ToAt w mt mtv ∧ allM vs n mt (la.drop i) (lb.drop i) = some R
/-- What comes back. -/
def UaPost (w : World) (RP : Value → Int → World → Prop) (la lb : List S24) : URes → Ending → World → Prop
  | .stop n, e, w' => e = .returned (.tuple #[.slice none 0 0, .int .i64 n]) ∧ Below w.heap.size w w'
  | .ok mt, e, w' => if la.length = lb.length then (∃ v E, e = .returned (.tuple #[v, .int .i64 E]) ∧ RP v E w' ∧ Below w.heap.size w w') else e = .returned (.tuple #[.slice none 0 0, .int .i64 8]) ∧ Below w.heap.size w w'

theorem allM_end {vs : List ByteArray} {n : Nat} {mt : List (ByteArray × S24)} {la lb : List S24} (h : la = [] ∨ lb = []) : allM vs n mt la lb = some (.ok mt) := by
  rcases h with rfl | rfl
  · cases lb <;> rfl
  · cases la <;> rfl

theorem leaves_congr {P : Program} {fn : Func} {R : Ending → World → Prop} {tmps tmps' : Array Value} (hr : results fn tmps = results fn tmps') : ∀ (ds : List Deferred) (u : FrameMode) (w : World), Leaves P fn tmps R ds u w → Leaves P fn tmps' R ds u w
  | [], .returning, w, ⟨v, h1, h2⟩ => ⟨v, by rw [← hr]; exact h1, h2⟩
  | [], .panicking chain, w, h => h
  | [], .run, w, h => h.elim
  | d :: ds, u, w, ⟨h1, fv, cap, f, args, h2, h3, h4⟩ => ⟨h1, fv, cap, f, args, h2, h3, h4.mono fun e u' w' h => by
      cases e with
      | returned v => exact leaves_congr hr ds _ w' h
      | panicked chain => exact leaves_congr hr ds _ w' h
      | outgrown => exact h⟩
theorem ua_res_put (tmps : Array Value) (d : Nat) (v : Value) (h6 : d ≠ 6) (h7 : d ≠ 7) : results Tryz.f20 (tmps.setIfInBounds d v) = results Tryz.f20 tmps := by
  unfold results
  rw [Tryz.results20]
  simp [Array.getElem?_setIfInBounds_ne h6, Array.getElem?_setIfInBounds_ne h7]
theorem ua_panic {R : Ending → World → Prop} {c : List PanicEntry} {a : Act} {w : World} {d : Nat} {v : Value} (h6 : d ≠ 6) (h7 : d ≠ 7) (h : bodyPostD Tryz.prog Tryz.f20 R (.panic c) (a.put (some d) v) w) : bodyPostD Tryz.prog Tryz.f20 R (.panic c) a w :=
  leaves_congr (ua_res_put a.tmps d v h6 h7) _ _ _ h

set_option maxRecDepth 100000 in
set_option maxHeartbeats 8000000 in
theorem UnifyAll_good (la lb : List S24) (vars : List ByteArray) (A B AN : Option Addr) (c d cn : Nat) (w : World) (hv : Kd.C Kd.string w AN vars.length vars) (hcn : vars.length ≤ cn) (ha : Kd.C k24 w A la.length la) (hc : la.length ≤ c) (hb : Kd.C k24 w B lb.length lb) (hd : lb.length ≤ d)
    (hn : vars.length < 9000000) (hq : ∀ v ∈ vars, LeafC ⟨1, 0, v, []⟩ ∧ v.size < 8000000) (hla : la.length < 9000000 ∧ ∀ x ∈ la, allC x ∧ wid x < 9000000) (hlb : lb.length < 9000000 ∧ ∀ x ∈ lb, allC x ∧ wid x < 9000000) (hgood : (namesM [] vars && rowsM [la, lb]) = true)
    (n : Nat) (R : URes) (hR : allM vars n [] la lb = some R) (RP : Value → Int → World → Prop) (hRP : ∀ v E w' W2, RP v E w' → (∀ k, k < w'.heap.size → k ≠ w.heap.size → k ≠ w.heap.size + 1 → W2.heap[k]? = w'.heap[k]?) → RP v E W2)
    (hres : ∀ mt, R = .ok mt → la.length = lb.length → ∀ (W1 : World) (sp vb tb : Nat) (mtv : List (ByteArray × Value)), Below w.heap.size w W1 → w.heap.size + 3 ≤ W1.heap.size → SolvAt (w.heap.size + 3) W1 sp vb tb (varsV vars) mtv → ToAt w mt mtv →
      Calls Tryz.prog 56 #[.pointer (some ⟨sp, 0, none⟩)] W1 fun e w' => ∃ A n c E, e = .returned (.tuple #[.slice A n c, .int .i64 E]) ∧ RP (.slice A n c) E w' ∧ Below W1.heap.size W1 w') :
    Calls Tryz.prog 20 #[.slice A la.length c, .slice B lb.length d, .slice AN vars.length cn] w (UaPost w RP la lb R) := by
  obtain ⟨f1, f2, f3, f4, f5⟩ := uaW_facts w A B la.length c lb.length d
  have OP := open_any vars [la, lb] AN (some ⟨w.heap.size + 1 + 1, 0, none⟩) cn 2 (uaW w A B la.length c lb.length d) (Kd.C_below hv f2) hcn (two_rows f5 (Kd.C_below ha f2) hc (Kd.C_below hb f2) hd) (Nat.le_refl _) hn (by simp) hq (by
    intro l hl
    simp only [List.mem_cons, List.not_mem_nil, or_false] at hl
    rcases hl with rfl | rfl
    · exact hla
    · exact hlb)
  rw [hgood, f1] at OP
  have OP : Hid _ := OP
  have HA : Hid _ := ha
  have HB : Hid _ := hb
  have HLA : Hid _ := hla
  have HLB : Hid _ := hlb
  have HRes : Hid _ := hres
  have HRP : Hid _ := hRP
  have HR : Hid _ := hR
  have hmf : ∀ (fn : Fn) (first cap : Array Value) (w : World), (Instr.makeFunc fn first cap).run Tryz.prog w = .ok (.func fn first cap) w := fun _ _ _ _ => rfl
  have hlaw : la.length < 9000000 := hla.1
  have hlbw : lb.length < 9000000 := hlb.1
  clear hv ha hb hq hla hlb hgood hres hRP hR
  go_enter_defers Tryz.func20, Tryz.ntmps20
  go_wp2_with fail
  refine Calls.mono OP.out ?_
  rintro e w1 ⟨rfl, hS1, B1⟩
  have S1 := hS1 rfl
  have q3 := (B1.block _ (by omega)).trans f3
  have q4 := (B1.block _ (by omega)).trans f4
  have B2 : Below w.heap.size w w1 := below_after f2 B1
  have hsz1 : w.heap.size + 3 ≤ w1.heap.size := by rw [← f1]; exact B1.size
  rw [f1] at S1
  have start : Hid (UaRel w w1 (w.heap.size + 3) (w.heap.size + 3 + 1 + 1) (w.heap.size + 3) (w.heap.size + 3 + 1) vars n la lb R la.length (.int .i64 ((0 : Nat) : Int)) w1) := ⟨0, [], [], rfl, rfl, Nat.zero_le _, ⟨rfl, rfl, rfl, Nat.le_refl _, fun _ _ _ => rfl⟩, S1, trivial, HR.out⟩
  have Q3 : Hid _ := q3
  have Q4 : Hid _ := q4
  have HB2 : Hid _ := B2
  clear B1 OP f1 f2 f3 f4 f5 S1 hS1 q3 q4 B2
  simp only [if_true]
  go_wp2_with fail
  go_loopg [10] la.length (fun k x10 wr => UaRel w w1 (w.heap.size + 3) (w.heap.size + 3 + 1 + 1) (w.heap.size + 3) (w.heap.size + 3 + 1) vars n la lb R k x10 wr)
  case atStart => exact start.out
  case round =>
    clear start
    obtain ⟨i, mt, mtv, rfl, hki, hil, hg, hS, hT, hV⟩ := hrel
    have hW := pw_below_grown HB2.out (some (w.heap.size + 3 + 1)) HB2.out.size hg (fun k hk => by cases hk; omega)
    have emin : min (la.length : Int) (lb.length : Int) = ((min la.length lb.length : Nat) : Int) := by omega
    by_cases hlt : i < min la.length lb.length
    · obtain ⟨g, rfl⟩ : ∃ g, gk = g + 1 := ⟨gk - 1, by omega⟩
      have elt : decide (i < min la.length lb.length) = true := decide_eq_true hlt
      obtain ⟨x, hx⟩ : ∃ x, la[i]? = some x := ⟨la[i]'(by omega), List.getElem?_eq_getElem _⟩
      obtain ⟨y, hy⟩ : ∃ y, lb[i]? = some y := ⟨lb[i]'(by omega), List.getElem?_eq_getElem _⟩
      obtain ⟨ad, A5, c5, rfl, g0, g1, g2, g3, g4, g5⟩ := row_at HA.out (by omega) hx
      obtain ⟨ae, B5, d5, rfl, k0, k1, k2, k3, k4, k5⟩ := row_at HB.out (by omega) hy
      rw [drop_at3 hx, drop_at3 hy] at hV
      simp only [allM] at hV
      have SX := (HLA.out.2 x (List.mem_of_getElem? hx)).2
      have SY := (HLB.out.2 y (List.mem_of_getElem? hy)).2
      clear hx hy
      obtain ⟨x0, x1, x2, x3⟩ := x
      obtain ⟨y0, y1, y2, y3⟩ := y
      have HC : Hid (∀ W' : World, Below w.heap.size w W' → (W'.cell? (ad.add (i * 4)) = some (.int .i64 x0) ∧ W'.cell? ⟨(ad.add (i * 4)).block, (ad.add (i * 4)).off + 1, none⟩ = some (.int .i64 x1) ∧ W'.cell? ⟨(ad.add (i * 4)).block, (ad.add (i * 4)).off + 2, none⟩ = some (.string x2) ∧ W'.cell? ⟨(ad.add (i * 4)).block, (ad.add (i * 4)).off + 3, none⟩ = some (.slice A5 x3.length c5)) ∧ (W'.cell? (ae.add (i * 4)) = some (.int .i64 y0) ∧ W'.cell? ⟨(ae.add (i * 4)).block, (ae.add (i * 4)).off + 1, none⟩ = some (.int .i64 y1) ∧ W'.cell? ⟨(ae.add (i * 4)).block, (ae.add (i * 4)).off + 2, none⟩ = some (.string y2) ∧ W'.cell? ⟨(ae.add (i * 4)).block, (ae.add (i * 4)).off + 3, none⟩ = some (.slice B5 y3.length d5))) :=
        fun W' h => ⟨⟨pw_cell_below h g0, pw_cell_below h g1, pw_cell_below h g2, pw_cell_below h g3⟩, pw_cell_below h k0, pw_cell_below h k1, pw_cell_below h k2, pw_cell_below h k3⟩
      have HWW : Hid _ := hW
      clear g0 g1 g2 g3 k0 k1 k2 k3
      cases hq1 : unifyM vars n mt ⟨x0, x1, x2, x3⟩ ⟨y0, y1, y2, y3⟩ false with
      | none => rw [hq1] at hV; cases hV
      | some R1 =>
        rw [hq1] at hV
        have UU : Hid (∀ wq, Below wr.heap.size wr wq → _) := fun wq hwq => unify_ok vars n w wq (w.heap.size + 3) (w.heap.size + 3 + 1 + 1) (w.heap.size + 3) (w.heap.size + 3 + 1) mt mtv ⟨x0, x1, x2, x3⟩ ⟨y0, y1, y2, y3⟩ false A5 B5 c5 d5 R1 (hS.below hwq) hT (hW.trans (hwq.mono hW.size)) (by omega) g5 g4 SX k5 k4 SY hq1
        have HG : Hid _ := hg
        have HV : Hid _ := hV
        clear hq1 SX SY hg hS hT hV g5 k5 hW
        go_wp2_with fail
        refine wp_region_held_drew (S := fun w' => (w'.cell? (ad.add (i * 4)) = some (.int .i64 x0) ∧ w'.cell? ⟨(ad.add (i * 4)).block, (ad.add (i * 4)).off + 1, none⟩ = some (.int .i64 x1) ∧ w'.cell? ⟨(ad.add (i * 4)).block, (ad.add (i * 4)).off + 2, none⟩ = some (.string x2) ∧ w'.cell? ⟨(ad.add (i * 4)).block, (ad.add (i * 4)).off + 3, none⟩ = some (.slice A5 x3.length c5)) ∧ (w'.cell? (ae.add (i * 4)) = some (.int .i64 y0) ∧ w'.cell? ⟨(ae.add (i * 4)).block, (ae.add (i * 4)).off + 1, none⟩ = some (.int .i64 y1) ∧ w'.cell? ⟨(ae.add (i * 4)).block, (ae.add (i * 4)).off + 2, none⟩ = some (.string y2) ∧ w'.cell? ⟨(ae.add (i * 4)).block, (ae.add (i * 4)).off + 3, none⟩ = some (.slice B5 y3.length d5))) (by kernel_rfl) (HC.out _ (below_drew HWW.out)) (fun hHeld => ?_)
        have i1 : decide (i < la.length) = true := decide_eq_true (by omega)
        have i2 : decide (i < lb.length) = true := decide_eq_true (by omega)
        refine takeV 0 (some 31) (.pointer (some ⟨w.heap.size + 3 + 1 + 1, 0, none⟩)) rfl rfl (by kernel_rfl) (by kernel_rfl) (by kernel_rfl) (fun _ _ _ h => ua_panic (by decide) (by decide) h) (Or.inl ⟨by kernel_rfl, fun W hSw => by go_simp⟩) hHeld ?_
        try simp only [Act.put, List.setIfInBounds_toArray, List.set_cons_zero, List.set_cons_succ]
        refine takeV 1 (some 32) (.slice (some ad) la.length c) rfl rfl (by kernel_rfl) (by kernel_rfl) (by kernel_rfl) (fun _ _ _ h => ua_panic (by decide) (by decide) h) (Or.inl ⟨by kernel_rfl, fun W hSw => by go_simp⟩) hHeld ?_
        try simp only [Act.put, List.setIfInBounds_toArray, List.set_cons_zero, List.set_cons_succ]
        refine takeV 2 (some 33) (.int .i64 (i : Int)) rfl rfl (by kernel_rfl) (by kernel_rfl) (by kernel_rfl) (fun _ _ _ h => ua_panic (by decide) (by decide) h) (Or.inl ⟨by kernel_rfl, fun W hSw => by go_simp⟩) hHeld ?_
        try simp only [Act.put, List.setIfInBounds_toArray, List.set_cons_zero, List.set_cons_succ]
        refine takeV 3 (some 34) (.pointer (some (ad.add (i * 4)))) rfl rfl (by kernel_rfl) (by kernel_rfl) (by kernel_rfl) (fun _ _ _ h => ua_panic (by decide) (by decide) h) (Or.inl ⟨by kernel_rfl, fun W hSw => by go_simp; intro h9; exact absurd h9 (by omega)⟩) hHeld ?_
        try simp only [Act.put, List.setIfInBounds_toArray, List.set_cons_zero, List.set_cons_succ]
        refine takeV 4 (some 35) (formV x0 x1 x2 A5 x3.length c5) rfl rfl (by kernel_rfl) (by kernel_rfl) (by kernel_rfl) (fun _ _ _ h => ua_panic (by decide) (by decide) h) (Or.inl ⟨by kernel_rfl, fun W hSw => by obtain ⟨⟨s0, s1, s2, s3⟩, t0, t1, t2, t3⟩ := hSw; go_simp⟩) hHeld ?_
        try simp only [Act.put, List.setIfInBounds_toArray, List.set_cons_zero, List.set_cons_succ]
        refine takeV 5 (some 36) (.slice (some ae) lb.length d) rfl rfl (by kernel_rfl) (by kernel_rfl) (by kernel_rfl) (fun _ _ _ h => ua_panic (by decide) (by decide) h) (Or.inl ⟨by kernel_rfl, fun W hSw => by go_simp⟩) hHeld ?_
        try simp only [Act.put, List.setIfInBounds_toArray, List.set_cons_zero, List.set_cons_succ]
        refine takeV 6 (some 37) (.int .i64 (i : Int)) rfl rfl (by kernel_rfl) (by kernel_rfl) (by kernel_rfl) (fun _ _ _ h => ua_panic (by decide) (by decide) h) (Or.inl ⟨by kernel_rfl, fun W hSw => by go_simp⟩) hHeld ?_
        try simp only [Act.put, List.setIfInBounds_toArray, List.set_cons_zero, List.set_cons_succ]
        refine takeV 7 (some 38) (.pointer (some (ae.add (i * 4)))) rfl rfl (by kernel_rfl) (by kernel_rfl) (by kernel_rfl) (fun _ _ _ h => ua_panic (by decide) (by decide) h) (Or.inl ⟨by kernel_rfl, fun W hSw => by go_simp; intro h9; exact absurd h9 (by omega)⟩) hHeld ?_
        try simp only [Act.put, List.setIfInBounds_toArray, List.set_cons_zero, List.set_cons_succ]
        refine takeV 8 (some 39) (formV y0 y1 y2 B5 y3.length d5) rfl rfl (by kernel_rfl) (by kernel_rfl) (by kernel_rfl) (fun _ _ _ h => ua_panic (by decide) (by decide) h) (Or.inl ⟨by kernel_rfl, fun W hSw => by obtain ⟨⟨s0, s1, s2, s3⟩, t0, t1, t2, t3⟩ := hSw; go_simp⟩) hHeld ?_
        try simp only [Act.put, List.setIfInBounds_toArray, List.set_cons_zero, List.set_cons_succ]
        refine wpAnyH_ready (rs := [9]) (by kernel_rfl) (by simp) ?_
        refine AllReadyH.cons rfl (fun K hK => ?_) AllReadyH.nil
        clear hHeld
        go_simp
        go_at_call 55
        refine Calls.mono (UU.out _ (below_drew (Below.refl _ _))) ?_
        rintro e w6 h6
        cases R1 with
        | stop e1 =>
          obtain ⟨rfl, h7⟩ := h6
          have hV := HV.out
          simp only [Option.some.injEq] at hV
          subst hV
          have G6 : w1.grownBy w6 (some (w.heap.size + 3 + 1)) := HG.out.trans ((grown_of_below (below_drew (Below.refl _ _)) (some (w.heap.size + 3 + 1))).trans h7)
          have W6 := pw_below_grown HB2.out (some (w.heap.size + 3 + 1)) HB2.out.size G6 (fun k hk => by cases hk; omega)
          have q3 := (G6.block _ (by omega) (by intro h; injection h; omega)).trans Q3.out
          have q4 := (G6.block _ (by omega) (by intro h; injection h; omega)).trans Q4.out
          show bodyPostD Tryz.prog Tryz.f20 _ (.panic _) _ _
          refine leaves_cons (f := 54) (args := #[.pointer (some ⟨w.heap.size, 0, none⟩), .pointer (some ⟨w.heap.size + 1, 0, none⟩)]) (by simp) (by simp [go_sem]) ?_
          refine (catch_stop w.heap.size (w.heap.size + 1) _ _ e1 w6 q3 q4 (by omega)).mono ?_
          rintro e u' w7 ⟨rfl, rfl, t3, t4, hbel⟩
          simp only [settle, stopE, List.dropWhile_nil]
          exact ⟨_, ua_results rfl rfl t3 t4, rfl, hbel w W6 (Nat.le_refl _) (by omega)⟩
        | ok mt3 =>
          obtain ⟨rfl, h7, mtv3, h8, h9⟩ := h6
          have hV := HV.out
          simp only [] at hV
          have G6 : w1.grownBy w6 (some (w.heap.size + 3 + 1)) := HG.out.trans ((grown_of_below (below_drew (Below.refl _ _)) (some (w.heap.size + 3 + 1))).trans h7)
          have W6 := pw_below_grown HB2.out (some (w.heap.size + 3 + 1)) HB2.out.size G6 (fun k hk => by cases hk; omega)
          refine hK.out _ _ (HC.out _ W6) (fun hHeld => ?_)
          have H7 : Hid _ := G6
          have H8 : Hid _ := h8
          have H9 : Hid _ := h9
          have HV9 : Hid _ := hV
          clear hK K hHeld h7 h8 h9 hV G6 W6 HV
          try simp only [Act.put, List.setIfInBounds_toArray, List.set_cons_zero, List.set_cons_succ]
          refine ⟨by kernel_rfl, ?_⟩
          go_wp2_with fail
          go_roundg g
          case measure => omega
          case rel => exact ⟨i + 1, mt3, mtv3, by go_num, by omega, by omega, H7.out, H8.out, H9.out, HV9.out⟩
    · have elt : decide (i < min la.length lb.length) = false := decide_eq_false hlt
      have ele : min la.length lb.length ≤ i := by omega
      rw [allM_end (by rcases (by omega : la.length ≤ i ∨ lb.length ≤ i) with h | h; exact .inl (List.drop_eq_nil_of_le h); exact .inr (List.drop_eq_nil_of_le h))] at hV
      obtain rfl := Option.some.inj hV
      have q3 := (hg.block _ (by omega) (by intro h; injection h; omega)).trans Q3.out
      have q4 := (hg.block _ (by omega) (by intro h; injection h; omega)).trans Q4.out
      have p3 : wr.cell? ⟨w.heap.size, 0, none⟩ = some (.slice none 0 0) := by simp [World.cell?, q3]
      have p4 : wr.cell? ⟨w.heap.size + 1, 0, none⟩ = some (.int .i64 0) := by simp [World.cell?, q4]
      have r3 := frozen4 (i := 0) q3
      have r4 := frozen4 (i := 0) q4
      have HQ3 : Hid _ := q3
      have HQ4 : Hid _ := q4
      have S9 : Hid _ := hS
      have T9 : Hid _ := hT
      have W9 : Hid _ := hW
      have Z9 : w.heap.size + 3 ≤ wr.heap.size := Nat.le_trans hsz1 hg.size
      clear hV hg hS hT hW q3 q4
      by_cases hll : la.length = lb.length
      · have en : ((la.length : Int) != (lb.length : Int)) = false := bne_eq_false_iff_eq.mpr (by omega)
        have RS : Hid _ := HRes.out mt rfl hll wr (w.heap.size + 3 + 1 + 1) (w.heap.size + 3) (w.heap.size + 3 + 1) mtv W9.out Z9 S9.out T9.out
        go_wp2_with fail
        refine Calls.mono RS.out ?_
        rintro e w7 ⟨A7, n7, c7, E7, rfl, hR7, B7⟩
        have q3 := (B7.block _ (by omega)).trans HQ3.out
        have q4 := (B7.block _ (by omega)).trans HQ4.out
        have p3 : w7.cell? ⟨w.heap.size, 0, none⟩ = some (.slice none 0 0) := by simp [World.cell?, q3]
        have p4 : w7.cell? ⟨w.heap.size + 1, 0, none⟩ = some (.int .i64 0) := by simp [World.cell?, q4]
        have r3 := frozen4 (i := 0) q3
        have r4 := frozen4 (i := 0) q4
        have W7 : Hid _ := below_after W9.out B7
        have R7 : Hid _ := hR7
        have K3 : Hid _ := q3
        have K4 : Hid _ := q4
        clear B7 hR7 q3 q4
        go_wp2_with fail
        refine leaves_cons (f := 54) (args := #[.pointer (some ⟨w.heap.size, 0, none⟩), .pointer (some ⟨w.heap.size + 1, 0, none⟩)]) (by simp) (by simp [go_sem]) ?_
        refine (catch_idle _ _ _).mono ?_
        rintro e u' w8 ⟨rfl, rfl, rfl⟩
        refine ⟨_, ua_results rfl rfl (A := A7) (n := n7) (c := c7) (z := E7) ?_ ?_, ?_⟩
        · exact (heap_setCell_other _ ⟨w.heap.size + 1, 0, none⟩ w.heap.size _ (by simp)).trans (heap_setCell_same w7 w.heap.size 0 #[.slice none 0 0] 25 _ K3.out)
        · exact heap_setCell_same _ (w.heap.size + 1) 0 #[.int .i64 0] 39 _ ((heap_setCell_other w7 ⟨w.heap.size, 0, none⟩ (w.heap.size + 1) _ (by simp)).trans K4.out)
        · show (if la.length = lb.length then _ else _)
          rw [if_pos hll]
          refine ⟨_, _, rfl, HRP.out _ _ _ _ R7.out (fun k hk h1 h2 => ?_), (W7.out.setCell (Nat.le_refl _) _).setCell (by simp) _⟩
          exact (heap_setCell_other _ ⟨w.heap.size + 1, 0, none⟩ k _ h2).trans (heap_setCell_other _ ⟨w.heap.size, 0, none⟩ k _ h1)
      · have en : ((la.length : Int) != (lb.length : Int)) = true := bne_iff_ne.mpr (by omega)
        go_wp2_with fail
        refine leaves_cons (f := 54) (args := #[.pointer (some ⟨w.heap.size, 0, none⟩), .pointer (some ⟨w.heap.size + 1, 0, none⟩)]) (by simp) (by simp [go_sem]) ?_
        refine (catch_idle _ _ _).mono ?_
        rintro e u' w8 ⟨rfl, rfl, rfl⟩
        refine ⟨_, ua_results rfl rfl (A := none) (n := 0) (c := 0) (z := 8) ?_ ?_, ?_⟩
        · exact (heap_setCell_other _ ⟨w.heap.size + 1, 0, none⟩ w.heap.size _ (by simp)).trans (heap_setCell_same wr w.heap.size 0 #[.slice none 0 0] 25 _ HQ3.out)
        · exact heap_setCell_same _ (w.heap.size + 1) 0 #[.int .i64 0] 39 _ ((heap_setCell_other wr ⟨w.heap.size, 0, none⟩ (w.heap.size + 1) _ (by simp)).trans HQ4.out)
        · show (if la.length = lb.length then _ else _)
          rw [if_neg hll]
          exact ⟨rfl, (W9.out.setCell (Nat.le_refl _) _).setCell (by simp) _⟩

end Go.Proofs.YtcjmplpfebpfpaaGreatDoor

namespace Go.Proofs.YtcjmplpfebpfpaaGreatDoor
open Go.RowKit Go.Proofs Go.Proofs.YtcjmplpfebpfpaaGreatDoorW.PrintWords Go.Proofs.YtcjmplpfebpfpaaGreatDoorW.PrintLast Go.Proofs.YtcjmplpfebpfpaaGreatDoorW.PrintMore PKindInstances
set_option linter.unusedVariables false
set_option linter.unusedSimpArgs false

theorem one_row {w : World} {b : Nat} {x : S24} {A : Option Addr} {c : Nat} (h : w.heap[b]? = some (.cells #[.int .i64 x.f0, .int .i64 x.f1, .string x.f2, .slice A x.f3.length c] 24 (0, 0))) (hx : Kd.C k24 w A x.f3.length x.f3) (hc : x.f3.length ≤ c) :
    Kd.C k24 w (some ⟨b, 0, none⟩) [x].length [x] := by
  refine ⟨rfl, by simp, fun _ => ⟨_, rfl, fun j p hj => ?_⟩⟩
  match j, hj with
  | 0, hj =>
    obtain rfl : x = p := by simpa using hj
    refine ⟨_, rfl, k24_mk w x hc hx, fun i u hu => ?_⟩
    match i, hu with
    | 0, hu => obtain rfl := Option.some.inj hu; simp [World.cell?, h, Addr.add]
    | 1, hu => obtain rfl := Option.some.inj hu; simp [World.cell?, h, Addr.add]
    | 2, hu => obtain rfl := Option.some.inj hu; simp [World.cell?, h, Addr.add]
    | 3, hu => obtain rfl := Option.some.inj hu; simp [World.cell?, h, Addr.add]
    | i + 4, hu => simp at hu
  | j + 1, hj => simp at hj

/-- Four blocks, one behind the other. -/
theorem four_boxes (w : World) (o1 o2 o3 o4 : Obj) : Below w.heap.size w ((((w.alloc o1).alloc o2).alloc o3).alloc o4) ∧ ((((w.alloc o1).alloc o2).alloc o3).alloc o4).heap[w.heap.size + 1 + 1]? = some o3 ∧ ((((w.alloc o1).alloc o2).alloc o3).alloc o4).heap[w.heap.size + 1 + 1 + 1]? = some o4 := by
  have s1 := size_new w o1
  have s2 := size_new (w.alloc o1) o2
  have s3 := size_new ((w.alloc o1).alloc o2) o3
  have h3 := (MapKept.heap_alloc ((w.alloc o1).alloc o2) o3).1
  have h4 := (MapKept.heap_alloc (((w.alloc o1).alloc o2).alloc o3) o4).1
  rw [s2, s1] at h3
  rw [s3, s2, s1] at h4
  exact ⟨below_alloc (below_alloc (below_alloc (below_alloc (Below.refl _ _) _) _) _) _, (Below.heap_alloc _ _ _ (by omega)).trans h3, h4⟩

/-- What comes back of a call of two results. -/
def TwoPost (w : World) (RP : Value → Int → World → Prop) (e : Ending) (w' : World) : Prop := ∃ A n c E, e = .returned (.tuple #[.slice A n c, .int .i64 E]) ∧ RP (.slice A n c) E w' ∧ Below w.heap.size w w'

set_option maxRecDepth 100000 in
theorem Unify_of (x y : S24) (A B : Option Addr) (c d : Nat) (v : Value) (w : World) (RP : Value → Int → World → Prop) (hx : Kd.C k24 w A x.f3.length x.f3) (hc : x.f3.length ≤ c) (hy : Kd.C k24 w B y.f3.length y.f3) (hd : y.f3.length ≤ d)
    (h : ∀ (W : World) (p q : Nat), Below w.heap.size w W → Kd.C k24 W (some ⟨p, 0, none⟩) [x].length [x] → Kd.C k24 W (some ⟨q, 0, none⟩) [y].length [y] → Calls Tryz.prog 20 #[.slice (some ⟨p, 0, none⟩) 1 1, .slice (some ⟨q, 0, none⟩) 1 1, v] W (TwoPost W RP)) :
    Calls Tryz.prog 22 #[formV x.f0 x.f1 x.f2 A x.f3.length c, formV y.f0 y.f1 y.f2 B y.f3.length d, v] w (TwoPost w RP) := by
  have hu24 := Tryz.underlying24
  have F := fun o1 o2 => four_boxes w o1 o2 (.cells #[.int .i64 x.f0, .int .i64 x.f1, .string x.f2, .slice A x.f3.length c] 24) (.cells #[.int .i64 y.f0, .int .i64 y.f1, .string y.f2, .slice B y.f3.length d] 24)
  have HC : Hid (∀ o1 o2, Calls Tryz.prog 20 _ _ (TwoPost _ RP)) := fun o1 o2 => h _ _ _ (F o1 o2).1 (one_row (F o1 o2).2.1 (Kd.C_below hx (F o1 o2).1) hc) (one_row (F o1 o2).2.2 (Kd.C_below hy (F o1 o2).1) hd)
  have HB : Hid (∀ o1 o2, _) := fun o1 o2 => (F o1 o2).1
  clear h F hx hy
  obtain ⟨x0, x1, x2, x3⟩ := x
  obtain ⟨y0, y1, y2, y3⟩ := y
  go_enter Tryz.func22, Tryz.ntmps22
  go_wp2_with fail
  refine Calls.mono (HC.out _ _) ?_
  rintro e w1 ⟨A1, n1, c1, E1, rfl, h1, B1⟩
  have B2 : Hid _ := below_after (HB.out _ _) B1
  have R1 : Hid _ := h1
  clear B1 h1
  go_wp2_with fail
  go_ret2
  exact ⟨A1, n1, c1, E1, rfl, R1.out, B2.out⟩

set_option maxRecDepth 100000 in
theorem Word_any (s : ByteArray) (w : World) : Calls Tryz.prog 49 #[.string s] w fun e w' => e = .returned (formV 1 0 s none 0 0) ∧ Below w.heap.size w w' := by
  have hu24 := Tryz.underlying24
  go_enter Tryz.func49, Tryz.ntmps49
  go_wp2
  refine bodyPost_ret (results_cell_row rfl _ _ w.heap.size 24 #[.int .i64 1, .int .i64 0, .string s, .slice none 0 0] (0, 0) _ rfl (MapKept.heap_alloc w _).1 Tryz.underlying24 rfl (by kernel_rfl)) rfl ?_
  exact ⟨rfl, below_alloc (Below.refl _ _) _⟩
set_option maxRecDepth 100000 in
theorem word_any (s : ByteArray) (w : World) : Calls Tryz.prog 52 #[.string s] w fun e w' => e = .returned (formV 1 0 s none 0 0) ∧ Below w.heap.size w w' := by
  have hu24 := Tryz.underlying24
  go_enter Tryz.func52, Tryz.ntmps52
  go_wp2_with fail
  refine (Word_any _ _).mono ?_
  rintro e w1 ⟨rfl, B1⟩
  have hb := box_heap B1
  obtain ⟨p0, p1, p2, p3⟩ := cells4 hb
  have f0 := frozen4 (i := 0) hb
  have f1 := frozen4 (i := 1) hb
  have f2 := frozen4 (i := 2) hb
  have f3 := frozen4 (i := 3) hb
  have B2 : Hid _ := below_after (below_alloc (Below.refl w.heap.size w) (Obj.cells #[.int .i64 0, .int .i64 0, .string ⟨#[]⟩, .slice none 0 0] 24)) B1
  have HB : Hid _ := hb
  clear B1 hb
  go_wp2_with fail
  refine bodyPost_ret (results_cell_row rfl _ _ w.heap.size 24 #[.int .i64 1, .int .i64 0, .string s, .slice none 0 0] (0, 0) _ rfl (set4 HB.out) Tryz.underlying24 rfl (by kernel_rfl)) rfl ?_
  exact ⟨rfl, below4 B2.out (Nat.le_refl _)⟩
set_option maxRecDepth 100000 in
theorem list_any (A : Option Addr) (n c : Nat) (w : World) : Calls Tryz.prog 51 #[.slice A n c] w fun e w' => e = .returned (formV 3 0 ⟨#[]⟩ A n c) ∧ Below w.heap.size w w' := by
  have hu24 := Tryz.underlying24
  go_enter Tryz.func51, Tryz.ntmps51
  go_wp2
  refine bodyPost_ret (results_cell_row rfl _ _ w.heap.size 24 #[.int .i64 3, .int .i64 0, .string ⟨#[]⟩, .slice A n c] (0, 0) _ rfl (MapKept.heap_alloc w _).1 Tryz.underlying24 rfl (by kernel_rfl)) rfl ?_
  exact ⟨rfl, below_alloc (Below.refl _ _) _⟩
end Go.Proofs.YtcjmplpfebpfpaaGreatDoor

namespace Go.Proofs.YtcjmplpfebpfpaaGreatDoor
open Go.RowKit Go.Proofs Go.Proofs.YtcjmplpfebpfpaaGreatDoorW.PrintWords Go.Proofs.YtcjmplpfebpfpaaGreatDoorW.PrintLast Go.Proofs.YtcjmplpfebpfpaaGreatDoorW.PrintMore PKindInstances
set_option linter.unusedVariables false
set_option linter.unusedSimpArgs false

def lookR : List S71 → ByteArray → Option S24
  | [], _ => none
  | x :: l, s => if (x.f0.toList == s.toList) = true then some x.f1 else lookR l s
def findM (l : List S71) (s : ByteArray) : Option S24 := if resM s = true then none else lookR l s
end Go.Proofs.YtcjmplpfebpfpaaGreatDoor

namespace Go.Proofs.YtcjmplpfebpfpaaGreatDoor.PKindInstances
open Go.RowKit Go.Proofs.YtcjmplpfebpfpaaGreatDoorW.PrintWords Go.Proofs.YtcjmplpfebpfpaaGreatDoorW.PrintLast Go.Proofs.YtcjmplpfebpfpaaGreatDoorW.PrintMore
attribute [local go_sem] max2_int min2_int max_two min_two max_three min_three max_four min_four   -- for this text's walks alone
set_option linter.unusedVariables false
set_option linter.unusedSimpArgs false

def plinthref03_isWord.f (a0_0 : Int) (a0_1 : Int) (a0_2 : ByteArray) (l0_3 : List (S24)) : Option (Bool) := some (a0_0 == 1)
set_option maxHeartbeats 8000000 in
set_option maxRecDepth 100000 in
theorem plinthref03_isWord.calls (a0_0 : Int) (a0_1 : Int) (a0_2 : ByteArray) (A0_3 : Option Addr) (c0_3 : Nat) (l0_3 : List (S24)) (r : Bool) (w : World) (hr0_3 : Kd.C k24 w A0_3 l0_3.length l0_3) (hc0_3 : l0_3.length ≤ c0_3) (h : plinthref03_isWord.f a0_0 a0_1 a0_2 l0_3 = some r) :
    Calls Tryz.prog 61 #[.agg #[.int .i64 a0_0, .int .i64 a0_1, .string a0_2, .slice A0_3 l0_3.length c0_3]] w fun e w' => e = .returned (.bool r) ∧ Below w.heap.size w w' := by
  have hu24 := Tryz.underlying24
  have HR0_3 := Aside0.mk hr0_3
  have HC0_3 := Aside0.mk hc0_3
  clear hr0_3 hc0_3
  have HB := Aside0.mk (Below.refl w.heap.size w)
  have H : (some (a0_0 == 1)) = some r := h
  clear h
  obtain rfl := Option.some.inj H
  go_enter Tryz.func61, Tryz.ntmps61
  go_wp2_with (first | ((with_reducible refine gate_dst (N := 1) rfl ?_); refine box_event ?hg (N := 1) ?hd (cs := #[.int .i64 a0_0, .int .i64 a0_1, .string a0_2, .slice A0_3 l0_3.length c0_3]) (t := 24) ?hr ?_; (case hd => rfl); (case hg => rfl); (case hr => first | (go_simp; done) | (go_simp; rfl)); intro gb429 hg w2 hbox hb; have n0_ := Aside0.mk (below_step (by repeat (first | (with_reducible first | exact HB.out | apply below_alloc | apply pw_below_drewN | apply below_drew1) | exact HB.out)) hb); have n1_ := Aside0.mk (hbox); have n2_ := Aside0.mk ((by rw [hg]; exact (below_size (by repeat (first | (with_reducible first | exact HB.out | apply below_alloc | apply pw_below_drewN | apply below_drew1) | exact HB.out))) : w.heap.size ≤ gb429)); have n3_ := Aside0.mk ((by rw [hg]; exact (below_size (by repeat (first | (with_reducible first | exact HB.out | apply below_alloc | apply pw_below_drewN | apply below_drew1) | exact HB.out))) : w.heap.size ≤ gb429)); clear HB; have HB := n0_; have BK429 := n1_; have GW429 := n2_; have GE429 := n3_; clear n0_ n1_ n2_ n3_; clear hb hbox hg; have hcz3_0 : w2.cell? ⟨gb429, 0, none⟩ = some (.int .i64 a0_0) := (blk_cell BK429.out 0).trans rfl; have hcz3_1 : w2.cell? ⟨gb429, 1, none⟩ = some (.int .i64 a0_1) := (blk_cell BK429.out 1).trans rfl; have hcz3_2 : w2.cell? ⟨gb429, 2, none⟩ = some (.string a0_2) := (blk_cell BK429.out 2).trans rfl; have hcz3_3 : w2.cell? ⟨gb429, 3, none⟩ = some (.slice A0_3 l0_3.length c0_3) := (blk_cell BK429.out 3).trans rfl; have hfz3_0 := blk_frozen BK429.out 0; have hfz3_1 := blk_frozen BK429.out 1; have hfz3_2 := blk_frozen BK429.out 2; have hfz3_3 := blk_frozen BK429.out 3))
  go_ret
  exact ⟨by first | rfl | (simp [errW_none, errW_some] <;> rfl) | (simp [*, errW_none, errW_some] <;> rfl), by repeat (first | (with_reducible first | exact HB.out | apply below_alloc | apply pw_below_drewN | apply below_drew1 | refine below_set ?_ GE429.out) | exact HB.out)⟩

end Go.Proofs.YtcjmplpfebpfpaaGreatDoor.PKindInstances

namespace Go.Proofs.YtcjmplpfebpfpaaGreatDoor.PKindInstances
open Go.RowKit Go.Proofs.YtcjmplpfebpfpaaGreatDoorW.PrintWords Go.Proofs.YtcjmplpfebpfpaaGreatDoorW.PrintLast Go.Proofs.YtcjmplpfebpfpaaGreatDoorW.PrintMore
attribute [local go_sem] max2_int min2_int max_two min_two max_three min_three max_four min_four   -- for this text's walks alone
set_option linter.unusedVariables false
set_option linter.unusedSimpArgs false

def plinthref03_heads.f (a0_0 : Int) (a0_1 : Int) (a0_2 : ByteArray) (l0_3 : List (S24)) (a1 : Bool) : Option (Bool) := if a1 = true then (some false) else (if a0_0 = 3 then (if (l0_3.length : Int) > 0 then (if 0 < (l0_3.length : Int) then ((plinthref03_isWord.f ((rd_T24 l0_3 0).f0) ((rd_T24 l0_3 0).f1) ((rd_T24 l0_3 0).f2) ((rd_T24 l0_3 0).f3)).bind fun t436 => (some t436)) else (none)) else (some false)) else (some false))
set_option maxHeartbeats 8000000 in
set_option maxRecDepth 100000 in
theorem plinthref03_heads.calls (a0_0 : Int) (a0_1 : Int) (a0_2 : ByteArray) (A0_3 : Option Addr) (c0_3 : Nat) (l0_3 : List (S24)) (a1 : Bool) (r : Bool) (w : World) (hr0_3 : Kd.C k24 w A0_3 l0_3.length l0_3) (hc0_3 : l0_3.length ≤ c0_3) (h : plinthref03_heads.f a0_0 a0_1 a0_2 l0_3 a1 = some r) :
    Calls Tryz.prog 84 #[.agg #[.int .i64 a0_0, .int .i64 a0_1, .string a0_2, .slice A0_3 l0_3.length c0_3], .bool a1] w fun e w' => e = .returned (.bool r) ∧ Below w.heap.size w w' := by
  have hu24 := Tryz.underlying24
  have HR0_3 := Aside0.mk hr0_3
  have HC0_3 := Aside0.mk hc0_3
  clear hr0_3 hc0_3
  have HB := Aside0.mk (Below.refl w.heap.size w)
  have H : (if a1 = true then (some false) else (if a0_0 = 3 then (if (l0_3.length : Int) > 0 then (if 0 < (l0_3.length : Int) then ((plinthref03_isWord.f ((rd_T24 l0_3 0).f0) ((rd_T24 l0_3 0).f1) ((rd_T24 l0_3 0).f2) ((rd_T24 l0_3 0).f3)).bind fun t436 => (some t436)) else (none)) else (some false)) else (some false))) = some r := h
  clear h
  by_cases c3 : a1 = true
  · subst c3
    have H1 : (some false) = some r := by rw [if_pos rfl] at H; exact H
    clear H
    have H := H1
    clear H1
    obtain rfl := Option.some.inj H
    go_enter Tryz.func84, Tryz.ntmps84
    go_wp2_with (first | ((with_reducible refine gate_dst (N := 2) rfl ?_); (try (refine gate_guard (by rfl) ?_; dsimp only)); refine box_event ?hg (N := 2) ?hd (cs := #[.int .i64 a0_0, .int .i64 a0_1, .string a0_2, .slice A0_3 l0_3.length c0_3]) (t := 24) ?hr ?_; (case hd => rfl); (case hg => rfl); (case hr => first | (go_simp; done) | (go_simp; rfl)); intro gb434 hg w4 hbox hb; have n0_ := Aside0.mk (below_step (by repeat (first | (with_reducible first | exact HB.out | apply below_alloc | apply pw_below_drewN | apply below_drew1) | exact HB.out)) hb); have n1_ := Aside0.mk (hbox); have n2_ := Aside0.mk ((by rw [hg]; exact (below_size (by repeat (first | (with_reducible first | exact HB.out | apply below_alloc | apply pw_below_drewN | apply below_drew1) | exact HB.out))) : w.heap.size ≤ gb434)); have n3_ := Aside0.mk ((by rw [hg]; exact (below_size (by repeat (first | (with_reducible first | exact HB.out | apply below_alloc | apply pw_below_drewN | apply below_drew1) | exact HB.out))) : w.heap.size ≤ gb434)); clear HB; have HB := n0_; have BK434 := n1_; have GW434 := n2_; have GE434 := n3_; clear n0_ n1_ n2_ n3_; clear hb hbox hg))
    go_ret
    exact ⟨by first | rfl | (simp [errW_none, errW_some] <;> rfl) | (simp [*, errW_none, errW_some] <;> rfl), by repeat (first | (with_reducible first | exact HB.out | apply below_alloc | apply pw_below_drewN | apply below_drew1 | refine below_set ?_ GE434.out) | exact HB.out)⟩
  · replace c3 := Bool.eq_false_iff.mpr c3
    subst c3
    have H1 : (if a0_0 = 3 then (if (l0_3.length : Int) > 0 then (if 0 < (l0_3.length : Int) then ((plinthref03_isWord.f ((rd_T24 l0_3 0).f0) ((rd_T24 l0_3 0).f1) ((rd_T24 l0_3 0).f2) ((rd_T24 l0_3 0).f3)).bind fun t436 => (some t436)) else (none)) else (some false)) else (some false)) = some r := by rw [if_neg (show ¬ (false = true) by decide)] at H; exact H
    clear H
    have H := H1
    clear H1
    by_cases c5 : a0_0 = 3
    · rw [if_pos c5] at H
      have c5b0 : (a0_0 == 3) = true := beq_iff_eq.mpr c5
      have c5b1 : (a0_0 != 3) = false := bne_eq_false_iff_eq.mpr c5
      clear c5
      by_cases c6 : (l0_3.length : Int) > 0
      · rw [if_pos c6] at H
        have c6b0 : decide (0 < (l0_3.length : Int)) = true := decide_eq_true c6
        have c6b1 : decide (0 < l0_3.length) = true := decide_eq_true (by omega)
        clear c6
        by_cases c7 : 0 < (l0_3.length : Int)
        · rw [if_pos c7] at H
          have c7b0 : decide (0 < (l0_3.length : Int)) = true := decide_eq_true c7
          have c7b1 : decide (0 < l0_3.length) = true := decide_eq_true (by omega)
          clear c7
          replace H := Option.bind_eq_some_iff.mp H
          obtain ⟨t436, A80, H⟩ := H
          replace H : (some t436) = some r := H
          have A8 := Aside0.mk A80
          clear A80
          obtain rfl := Option.some.inj H
          go_enter Tryz.func84, Tryz.ntmps84
          go_wp2_with (first | ((with_reducible refine gate_dst (N := 2) rfl ?_); (try (refine gate_guard (by rfl) ?_; dsimp only)); refine box_event ?hg (N := 2) ?hd (cs := #[.int .i64 a0_0, .int .i64 a0_1, .string a0_2, .slice A0_3 l0_3.length c0_3]) (t := 24) ?hr ?_; (case hd => rfl); (case hg => rfl); (case hr => first | (go_simp; done) | (go_simp; rfl)); intro gb434 hg w9 hbox hb; have n0_ := Aside0.mk (below_step (by repeat (first | (with_reducible first | exact HB.out | apply below_alloc | apply pw_below_drewN | apply below_drew1) | exact HB.out)) hb); have n1_ := Aside0.mk (hbox); have n2_ := Aside0.mk ((by rw [hg]; exact (below_size (by repeat (first | (with_reducible first | exact HB.out | apply below_alloc | apply pw_below_drewN | apply below_drew1) | exact HB.out))) : w.heap.size ≤ gb434)); have n3_ := Aside0.mk ((by rw [hg]; exact (below_size (by repeat (first | (with_reducible first | exact HB.out | apply below_alloc | apply pw_below_drewN | apply below_drew1) | exact HB.out))) : w.heap.size ≤ gb434)); clear HB; have HB := n0_; have BK434 := n1_; have GW434 := n2_; have GE434 := n3_; clear n0_ n1_ n2_ n3_; clear hb hbox hg; have hcz10_0 : w9.cell? ⟨gb434, 0, none⟩ = some (.int .i64 a0_0) := (blk_cell BK434.out 0).trans rfl; have hcz10_1 : w9.cell? ⟨gb434, 1, none⟩ = some (.int .i64 a0_1) := (blk_cell BK434.out 1).trans rfl; have hcz10_2 : w9.cell? ⟨gb434, 2, none⟩ = some (.string a0_2) := (blk_cell BK434.out 2).trans rfl; have hcz10_3 : w9.cell? ⟨gb434, 3, none⟩ = some (.slice A0_3 l0_3.length c0_3) := (blk_cell BK434.out 3).trans rfl; have hfz10_0 := blk_frozen BK434.out 0; have hfz10_1 := blk_frozen BK434.out 1; have hfz10_2 := blk_frozen BK434.out 2; have hfz10_3 := blk_frozen BK434.out 3; have p435 : 0 ≤ (0 : Int) := (by omega); have q435 : 0 < (l0_3.length : Int) := of_decide_eq_true (by first | (with_reducible assumption) | assumption); obtain ⟨ad435, A435_3, c435_3, e435, hx435_0, hx435_1, hx435_2, hx435_3, hl435_3, hi435_3⟩ := at_T24 HR0_3.out 0 p435 q435; cases e435; have qi435 : (0 < l0_3.length) = True := eq_true (by omega); (try rw [show ((0 : Int)).toNat = 0 from rfl] at hx435_0); (try rw [show 0 * 4 = 0 from rfl] at hx435_0); (try rw [Addr.add_zero'] at hx435_0); (try rw [show ((0 : Int)).toNat = 0 from rfl] at hx435_1); (try rw [show 0 * 4 = 0 from rfl] at hx435_1); (try rw [Addr.add_zero'] at hx435_1); (try rw [show ((0 : Int)).toNat = 0 from rfl] at hx435_2); (try rw [show 0 * 4 = 0 from rfl] at hx435_2); (try rw [Addr.add_zero'] at hx435_2); (try rw [show ((0 : Int)).toNat = 0 from rfl] at hx435_3); (try rw [show 0 * 4 = 0 from rfl] at hx435_3); (try rw [Addr.add_zero'] at hx435_3); replace hx435_0 := (HB.out.cell (World.block_lt_of_cell? w _ hx435_0)).trans hx435_0; replace hx435_1 := (HB.out.cell (World.block_lt_of_cell? w _ hx435_1)).trans hx435_1; replace hx435_2 := (HB.out.cell (World.block_lt_of_cell? w _ hx435_2)).trans hx435_2; replace hx435_3 := (HB.out.cell (World.block_lt_of_cell? w _ hx435_3)).trans hx435_3; have HR435_3 := Aside0.mk hi435_3; have HC435_3 := Aside0.mk hl435_3; clear hi435_3 hl435_3; replace p435 := eq_true p435; replace q435 := eq_true q435) | (go_at_call 61; (with_reducible refine (plinthref03_isWord.calls ((rd_T24 l0_3 0).f0) ((rd_T24 l0_3 0).f1) ((rd_T24 l0_3 0).f2) _ _ ((rd_T24 l0_3 0).f3) t436 _ ?side1 ?side2 A8.out).mono ?_); (case side1 => repeat (first | exact (Kd.C_below HR435_3.out HB.out) | (with_reducible refine Kd.C_alloc ?_ _) | (with_reducible refine Kd.C_drewN ?_ _) | (with_reducible refine Kd.C_drew ?_))); (case side2 => exact HC435_3.out); rintro e w11 ⟨rfl, hb⟩; have n0_ := Aside0.mk (blk_below (g := gb434) (o := .cells #[.int .i64 a0_0, .int .i64 a0_1, .string a0_2, .slice (some ad435) l0_3.length c0_3] 24 (0, 0)) (by (with_reducible repeat (first | refine blk_drewN ?_ _ | refine blk_drew ?_ | refine blk_alloc ?_ _)); exact BK434.out) hb); have n1_ := Aside0.mk (below_step (by repeat (first | (with_reducible first | exact HB.out | apply below_alloc | apply pw_below_drewN | apply below_drew1 | refine below_set ?_ GE434.out) | exact HB.out)) hb); clear BK434; clear HB; have BK434 := n0_; have HB := n1_; clear n0_ n1_; (try clear hb); (try clear hb2); (try clear hk); (try clear hi)))
          go_ret
          exact ⟨by first | rfl | (simp [errW_none, errW_some] <;> rfl) | (simp [*, errW_none, errW_some] <;> rfl), by repeat (first | (with_reducible first | exact HB.out | apply below_alloc | apply pw_below_drewN | apply below_drew1 | refine below_set ?_ GE434.out) | exact HB.out)⟩
        · rw [if_neg c7] at H
          exact absurd H (by simp)
      · rw [if_neg c6] at H
        have c6b0 : decide (0 < (l0_3.length : Int)) = false := decide_eq_false c6
        have c6b1 : decide (0 < l0_3.length) = false := decide_eq_false (by omega)
        clear c6
        obtain rfl := Option.some.inj H
        go_enter Tryz.func84, Tryz.ntmps84
        go_wp2_with (first | ((with_reducible refine gate_dst (N := 2) rfl ?_); (try (refine gate_guard (by rfl) ?_; dsimp only)); refine box_event ?hg (N := 2) ?hd (cs := #[.int .i64 a0_0, .int .i64 a0_1, .string a0_2, .slice A0_3 l0_3.length c0_3]) (t := 24) ?hr ?_; (case hd => rfl); (case hg => rfl); (case hr => first | (go_simp; done) | (go_simp; rfl)); intro gb434 hg w12 hbox hb; have n0_ := Aside0.mk (below_step (by repeat (first | (with_reducible first | exact HB.out | apply below_alloc | apply pw_below_drewN | apply below_drew1) | exact HB.out)) hb); have n1_ := Aside0.mk (hbox); have n2_ := Aside0.mk ((by rw [hg]; exact (below_size (by repeat (first | (with_reducible first | exact HB.out | apply below_alloc | apply pw_below_drewN | apply below_drew1) | exact HB.out))) : w.heap.size ≤ gb434)); have n3_ := Aside0.mk ((by rw [hg]; exact (below_size (by repeat (first | (with_reducible first | exact HB.out | apply below_alloc | apply pw_below_drewN | apply below_drew1) | exact HB.out))) : w.heap.size ≤ gb434)); clear HB; have HB := n0_; have BK434 := n1_; have GW434 := n2_; have GE434 := n3_; clear n0_ n1_ n2_ n3_; clear hb hbox hg; have hcz13_0 : w12.cell? ⟨gb434, 0, none⟩ = some (.int .i64 a0_0) := (blk_cell BK434.out 0).trans rfl; have hcz13_1 : w12.cell? ⟨gb434, 1, none⟩ = some (.int .i64 a0_1) := (blk_cell BK434.out 1).trans rfl; have hcz13_2 : w12.cell? ⟨gb434, 2, none⟩ = some (.string a0_2) := (blk_cell BK434.out 2).trans rfl; have hcz13_3 : w12.cell? ⟨gb434, 3, none⟩ = some (.slice A0_3 l0_3.length c0_3) := (blk_cell BK434.out 3).trans rfl; have hfz13_0 := blk_frozen BK434.out 0; have hfz13_1 := blk_frozen BK434.out 1; have hfz13_2 := blk_frozen BK434.out 2; have hfz13_3 := blk_frozen BK434.out 3))
        go_ret
        exact ⟨by first | rfl | (simp [errW_none, errW_some] <;> rfl) | (simp [*, errW_none, errW_some] <;> rfl), by repeat (first | (with_reducible first | exact HB.out | apply below_alloc | apply pw_below_drewN | apply below_drew1 | refine below_set ?_ GE434.out) | exact HB.out)⟩
    · rw [if_neg c5] at H
      have c5b0 : (a0_0 == 3) = false := beq_eq_false_iff_ne.mpr c5
      have c5b1 : (a0_0 != 3) = true := bne_iff_ne.mpr c5
      obtain rfl := Option.some.inj H
      go_enter Tryz.func84, Tryz.ntmps84
      go_wp2_with (first | ((with_reducible refine gate_dst (N := 2) rfl ?_); (try (refine gate_guard (by rfl) ?_; dsimp only)); refine box_event ?hg (N := 2) ?hd (cs := #[.int .i64 a0_0, .int .i64 a0_1, .string a0_2, .slice A0_3 l0_3.length c0_3]) (t := 24) ?hr ?_; (case hd => rfl); (case hg => rfl); (case hr => first | (go_simp; done) | (go_simp; rfl)); intro gb434 hg w14 hbox hb; have n0_ := Aside0.mk (below_step (by repeat (first | (with_reducible first | exact HB.out | apply below_alloc | apply pw_below_drewN | apply below_drew1) | exact HB.out)) hb); have n1_ := Aside0.mk (hbox); have n2_ := Aside0.mk ((by rw [hg]; exact (below_size (by repeat (first | (with_reducible first | exact HB.out | apply below_alloc | apply pw_below_drewN | apply below_drew1) | exact HB.out))) : w.heap.size ≤ gb434)); have n3_ := Aside0.mk ((by rw [hg]; exact (below_size (by repeat (first | (with_reducible first | exact HB.out | apply below_alloc | apply pw_below_drewN | apply below_drew1) | exact HB.out))) : w.heap.size ≤ gb434)); clear HB; have HB := n0_; have BK434 := n1_; have GW434 := n2_; have GE434 := n3_; clear n0_ n1_ n2_ n3_; clear hb hbox hg; have hcz15_0 : w14.cell? ⟨gb434, 0, none⟩ = some (.int .i64 a0_0) := (blk_cell BK434.out 0).trans rfl; have hcz15_1 : w14.cell? ⟨gb434, 1, none⟩ = some (.int .i64 a0_1) := (blk_cell BK434.out 1).trans rfl; have hcz15_2 : w14.cell? ⟨gb434, 2, none⟩ = some (.string a0_2) := (blk_cell BK434.out 2).trans rfl; have hcz15_3 : w14.cell? ⟨gb434, 3, none⟩ = some (.slice A0_3 l0_3.length c0_3) := (blk_cell BK434.out 3).trans rfl; have hfz15_0 := blk_frozen BK434.out 0; have hfz15_1 := blk_frozen BK434.out 1; have hfz15_2 := blk_frozen BK434.out 2; have hfz15_3 := blk_frozen BK434.out 3))
      go_ret
      exact ⟨by first | rfl | (simp [errW_none, errW_some] <;> rfl) | (simp [*, errW_none, errW_some] <;> rfl), by repeat (first | (with_reducible first | exact HB.out | apply below_alloc | apply pw_below_drewN | apply below_drew1 | refine below_set ?_ GE434.out) | exact HB.out)⟩

end Go.Proofs.YtcjmplpfebpfpaaGreatDoor.PKindInstances

namespace Go.Proofs.YtcjmplpfebpfpaaGreatDoor.PKindInstances
open Go.RowKit Go.Proofs.YtcjmplpfebpfpaaGreatDoorW.PrintWords Go.Proofs.YtcjmplpfebpfpaaGreatDoorW.PrintLast Go.Proofs.YtcjmplpfebpfpaaGreatDoorW.PrintMore
attribute [local go_sem] max2_int min2_int max_two min_two max_three min_three max_four min_four   -- for this text's walks alone
set_option linter.unusedVariables false
set_option linter.unusedSimpArgs false

def plinthref03_isFun.f (a0_0 : Int) (a0_1 : Int) (a0_2 : ByteArray) (l0_3 : List (S24)) (a1 : Int) (a2 : Bool) : Option (Bool) := (plinthref03_heads.f a0_0 a0_1 a0_2 l0_3 a2).bind fun t438 => (if t438 = true then (if a1 = 1 then (if 0 < (l0_3.length : Int) then (if ((rd_T24 l0_3 0).f2).toList = ([102, 117, 110] : List UInt8) then (if 1 < (l0_3.length : Int) then (some (((rd_T24 l0_3 1).f0) == 3)) else (none)) else (some false)) else (none)) else (some false)) else (some false))
set_option maxHeartbeats 8000000 in
set_option maxRecDepth 100000 in
theorem plinthref03_isFun.calls (a0_0 : Int) (a0_1 : Int) (a0_2 : ByteArray) (A0_3 : Option Addr) (c0_3 : Nat) (l0_3 : List (S24)) (a1 : Int) (a2 : Bool) (r : Bool) (w : World) (hr0_3 : Kd.C k24 w A0_3 l0_3.length l0_3) (hc0_3 : l0_3.length ≤ c0_3) (h : plinthref03_isFun.f a0_0 a0_1 a0_2 l0_3 a1 a2 = some r) :
    Calls Tryz.prog 85 #[.agg #[.int .i64 a0_0, .int .i64 a0_1, .string a0_2, .slice A0_3 l0_3.length c0_3], .int .i64 a1, .bool a2] w fun e w' => e = .returned (.bool r) ∧ Below w.heap.size w w' := by
  have hu24 := Tryz.underlying24
  have HR0_3 := Aside0.mk hr0_3
  have HC0_3 := Aside0.mk hc0_3
  clear hr0_3 hc0_3
  have HB := Aside0.mk (Below.refl w.heap.size w)
  have H : ((plinthref03_heads.f a0_0 a0_1 a0_2 l0_3 a2).bind fun t438 => (if t438 = true then (if a1 = 1 then (if 0 < (l0_3.length : Int) then (if ((rd_T24 l0_3 0).f2).toList = ([102, 117, 110] : List UInt8) then (if 1 < (l0_3.length : Int) then (some (((rd_T24 l0_3 1).f0) == 3)) else (none)) else (some false)) else (none)) else (some false)) else (some false))) = some r := h
  clear h
  replace H := Option.bind_eq_some_iff.mp H
  obtain ⟨t438, A40, H⟩ := H
  replace H : (if t438 = true then (if a1 = 1 then (if 0 < (l0_3.length : Int) then (if ((rd_T24 l0_3 0).f2).toList = ([102, 117, 110] : List UInt8) then (if 1 < (l0_3.length : Int) then (some (((rd_T24 l0_3 1).f0) == 3)) else (none)) else (some false)) else (none)) else (some false)) else (some false)) = some r := H
  have A4 := Aside0.mk A40
  clear A40
  by_cases c5 : t438 = true
  · subst c5
    have H1 : (if a1 = 1 then (if 0 < (l0_3.length : Int) then (if ((rd_T24 l0_3 0).f2).toList = ([102, 117, 110] : List UInt8) then (if 1 < (l0_3.length : Int) then (some (((rd_T24 l0_3 1).f0) == 3)) else (none)) else (some false)) else (none)) else (some false)) = some r := by rw [if_pos rfl] at H; exact H
    clear H
    have H := H1
    clear H1
    by_cases c6 : a1 = 1
    · rw [if_pos c6] at H
      have c6b0 : (a1 == 1) = true := beq_iff_eq.mpr c6
      have c6b1 : (a1 != 1) = false := bne_eq_false_iff_eq.mpr c6
      clear c6
      by_cases c7 : 0 < (l0_3.length : Int)
      · rw [if_pos c7] at H
        have c7b0 : decide (0 < (l0_3.length : Int)) = true := decide_eq_true c7
        have c7b1 : decide (0 < l0_3.length) = true := decide_eq_true (by omega)
        clear c7
        by_cases c8 : ((rd_T24 l0_3 0).f2).toList = ([102, 117, 110] : List UInt8)
        · rw [if_pos c8] at H
          have c8b0 : (((rd_T24 l0_3 0).f2).toList == ([102, 117, 110] : List UInt8)) = true := beq_iff_eq.mpr c8
          have c8b1 : (((rd_T24 l0_3 0).f2).toList != ([102, 117, 110] : List UInt8)) = false := bne_eq_false_iff_eq.mpr c8
          clear c8
          by_cases c9 : 1 < (l0_3.length : Int)
          · rw [if_pos c9] at H
            have c9b0 : decide (1 < (l0_3.length : Int)) = true := decide_eq_true c9
            have c9b1 : decide (1 < l0_3.length) = true := decide_eq_true (by omega)
            clear c9
            obtain rfl := Option.some.inj H
            go_enter Tryz.func85, Tryz.ntmps85
            go_wp2_with (first | ((with_reducible refine gate_dst (N := 3) rfl ?_); refine box_event ?hg (N := 3) ?hd (cs := #[.int .i64 a0_0, .int .i64 a0_1, .string a0_2, .slice A0_3 l0_3.length c0_3]) (t := 24) ?hr ?_; (case hd => rfl); (case hg => rfl); (case hr => first | (go_simp; done) | (go_simp; rfl)); intro gb437 hg w10 hbox hb; have n0_ := Aside0.mk (below_step (by repeat (first | (with_reducible first | exact HB.out | apply below_alloc | apply pw_below_drewN | apply below_drew1) | exact HB.out)) hb); have n1_ := Aside0.mk (hbox); have n2_ := Aside0.mk ((by rw [hg]; exact (below_size (by repeat (first | (with_reducible first | exact HB.out | apply below_alloc | apply pw_below_drewN | apply below_drew1) | exact HB.out))) : w.heap.size ≤ gb437)); have n3_ := Aside0.mk ((by rw [hg]; exact (below_size (by repeat (first | (with_reducible first | exact HB.out | apply below_alloc | apply pw_below_drewN | apply below_drew1) | exact HB.out))) : w.heap.size ≤ gb437)); clear HB; have HB := n0_; have BK437 := n1_; have GW437 := n2_; have GE437 := n3_; clear n0_ n1_ n2_ n3_; clear hb hbox hg; have hcz11_0 : w10.cell? ⟨gb437, 0, none⟩ = some (.int .i64 a0_0) := (blk_cell BK437.out 0).trans rfl; have hcz11_1 : w10.cell? ⟨gb437, 1, none⟩ = some (.int .i64 a0_1) := (blk_cell BK437.out 1).trans rfl; have hcz11_2 : w10.cell? ⟨gb437, 2, none⟩ = some (.string a0_2) := (blk_cell BK437.out 2).trans rfl; have hcz11_3 : w10.cell? ⟨gb437, 3, none⟩ = some (.slice A0_3 l0_3.length c0_3) := (blk_cell BK437.out 3).trans rfl; have hfz11_0 := blk_frozen BK437.out 0; have hfz11_1 := blk_frozen BK437.out 1; have hfz11_2 := blk_frozen BK437.out 2; have hfz11_3 := blk_frozen BK437.out 3) | ((with_reducible refine gate_callee (f := 84) rfl ?_); refine goesL_ (some 9) rfl rfl Tryz.func84 (by kernel_rfl) rfl #[.agg #[.int .i64 a0_0, .int .i64 a0_1, .string a0_2, .slice A0_3 l0_3.length c0_3], .bool a2] rfl (by (try simp only [List.map_toArray, List.map_cons, List.map_nil]); first | done | rfl | (simp only [List.length_drop, List.length_take]; rfl)) ?_; (with_reducible refine (plinthref03_heads.calls a0_0 a0_1 a0_2 _ _ l0_3 a2 true _ ?side1 ?side2 A4.out).mono ?_); (case side1 => repeat (first | exact (Kd.C_below HR0_3.out HB.out) | (with_reducible refine Kd.C_alloc ?_ _) | (with_reducible refine Kd.C_drewN ?_ _) | (with_reducible refine Kd.C_drew ?_))); (case side2 => exact HC0_3.out); rintro e w12 ⟨rfl, hb⟩; refine ⟨_, rfl, ?_⟩; have n0_ := Aside0.mk (blk_below (g := gb437) (o := .cells #[.int .i64 a0_0, .int .i64 a0_1, .string a0_2, .slice A0_3 l0_3.length c0_3] 24 (0, 0)) (by (with_reducible repeat (first | refine blk_drewN ?_ _ | refine blk_drew ?_ | refine blk_alloc ?_ _)); exact BK437.out) hb); have n1_ := Aside0.mk (below_step (by repeat (first | (with_reducible first | exact HB.out | apply below_alloc | apply pw_below_drewN | apply below_drew1 | refine below_set ?_ GE437.out) | exact HB.out)) hb); clear BK437; clear HB; have BK437 := n0_; have HB := n1_; clear n0_ n1_; (try clear hb); (try clear hb2); (try clear hk); (try clear hi); have hcz13_0 : w12.cell? ⟨gb437, 0, none⟩ = some (.int .i64 a0_0) := (blk_cell BK437.out 0).trans rfl; have hcz13_1 : w12.cell? ⟨gb437, 1, none⟩ = some (.int .i64 a0_1) := (blk_cell BK437.out 1).trans rfl; have hcz13_2 : w12.cell? ⟨gb437, 2, none⟩ = some (.string a0_2) := (blk_cell BK437.out 2).trans rfl; have hcz13_3 : w12.cell? ⟨gb437, 3, none⟩ = some (.slice A0_3 l0_3.length c0_3) := (blk_cell BK437.out 3).trans rfl; have hfz13_0 := blk_frozen BK437.out 0; have hfz13_1 := blk_frozen BK437.out 1; have hfz13_2 := blk_frozen BK437.out 2; have hfz13_3 := blk_frozen BK437.out 3; have p439 : 0 ≤ (0 : Int) := (by omega); have q439 : 0 < (l0_3.length : Int) := of_decide_eq_true (by first | (with_reducible assumption) | assumption); obtain ⟨ad439, A439_3, c439_3, e439, hx439_0, hx439_1, hx439_2, hx439_3, hl439_3, hi439_3⟩ := at_T24 HR0_3.out 0 p439 q439; cases e439; have qi439 : (0 < l0_3.length) = True := eq_true (by omega); (try rw [show ((0 : Int)).toNat = 0 from rfl] at hx439_0); (try rw [show 0 * 4 = 0 from rfl] at hx439_0); (try rw [Addr.add_zero'] at hx439_0); (try rw [show ((0 : Int)).toNat = 0 from rfl] at hx439_1); (try rw [show 0 * 4 = 0 from rfl] at hx439_1); (try rw [Addr.add_zero'] at hx439_1); (try rw [show ((0 : Int)).toNat = 0 from rfl] at hx439_2); (try rw [show 0 * 4 = 0 from rfl] at hx439_2); (try rw [Addr.add_zero'] at hx439_2); (try rw [show ((0 : Int)).toNat = 0 from rfl] at hx439_3); (try rw [show 0 * 4 = 0 from rfl] at hx439_3); (try rw [Addr.add_zero'] at hx439_3); replace hx439_0 := (HB.out.cell (World.block_lt_of_cell? w _ hx439_0)).trans hx439_0; replace hx439_1 := (HB.out.cell (World.block_lt_of_cell? w _ hx439_1)).trans hx439_1; replace hx439_2 := (HB.out.cell (World.block_lt_of_cell? w _ hx439_2)).trans hx439_2; replace hx439_3 := (HB.out.cell (World.block_lt_of_cell? w _ hx439_3)).trans hx439_3; have HR439_3 := Aside0.mk hi439_3; have HC439_3 := Aside0.mk hl439_3; clear hi439_3 hl439_3; replace p439 := eq_true p439; replace q439 := eq_true q439; have p440 : 0 ≤ (1 : Int) := (by omega); have q440 : 1 < (l0_3.length : Int) := of_decide_eq_true (by first | (with_reducible assumption) | assumption); obtain ⟨ad440, A440_3, c440_3, e440, hx440_0, hx440_1, hx440_2, hx440_3, hl440_3, hi440_3⟩ := at_T24 HR0_3.out 1 p440 q440; obtain rfl : ad439 = ad440 := (by injection e440); (try simp only [show (1 : Int).toNat = 1 from rfl, Nat.reduceMul, Nat.reduceEqDiff, Go.Addr.add, ↓reduceIte] at hx440_0); (try simp only [show (1 : Int).toNat = 1 from rfl, Nat.reduceMul, Nat.reduceEqDiff, Go.Addr.add, ↓reduceIte] at hx440_1); (try simp only [show (1 : Int).toNat = 1 from rfl, Nat.reduceMul, Nat.reduceEqDiff, Go.Addr.add, ↓reduceIte] at hx440_2); (try simp only [show (1 : Int).toNat = 1 from rfl, Nat.reduceMul, Nat.reduceEqDiff, Go.Addr.add, ↓reduceIte] at hx440_3); have qi440 : (1 < l0_3.length) = True := eq_true (by omega); (try rw [show ((1 : Int)).toNat = 1 from rfl] at hx440_0); (try rw [show 1 * 4 = 4 from rfl] at hx440_0); (try rw [show ((1 : Int)).toNat = 1 from rfl] at hx440_1); (try rw [show 1 * 4 = 4 from rfl] at hx440_1); (try rw [show ((1 : Int)).toNat = 1 from rfl] at hx440_2); (try rw [show 1 * 4 = 4 from rfl] at hx440_2); (try rw [show ((1 : Int)).toNat = 1 from rfl] at hx440_3); (try rw [show 1 * 4 = 4 from rfl] at hx440_3); replace hx440_0 := (HB.out.cell (World.block_lt_of_cell? w _ hx440_0)).trans hx440_0; replace hx440_1 := (HB.out.cell (World.block_lt_of_cell? w _ hx440_1)).trans hx440_1; replace hx440_2 := (HB.out.cell (World.block_lt_of_cell? w _ hx440_2)).trans hx440_2; replace hx440_3 := (HB.out.cell (World.block_lt_of_cell? w _ hx440_3)).trans hx440_3; have HR440_3 := Aside0.mk hi440_3; have HC440_3 := Aside0.mk hl440_3; clear hi440_3 hl440_3; replace p440 := eq_true p440; replace q440 := eq_true q440))
            go_ret
            exact ⟨by first | rfl | (simp [errW_none, errW_some] <;> rfl) | (simp [*, errW_none, errW_some] <;> rfl), by repeat (first | (with_reducible first | exact HB.out | apply below_alloc | apply pw_below_drewN | apply below_drew1 | refine below_set ?_ GE437.out) | exact HB.out)⟩
          · rw [if_neg c9] at H
            exact absurd H (by simp)
        · rw [if_neg c8] at H
          have c8b0 : (((rd_T24 l0_3 0).f2).toList == ([102, 117, 110] : List UInt8)) = false := beq_eq_false_iff_ne.mpr c8
          have c8b1 : (((rd_T24 l0_3 0).f2).toList != ([102, 117, 110] : List UInt8)) = true := bne_iff_ne.mpr c8
          obtain rfl := Option.some.inj H
          go_enter Tryz.func85, Tryz.ntmps85
          go_wp2_with (first | ((with_reducible refine gate_dst (N := 3) rfl ?_); refine box_event ?hg (N := 3) ?hd (cs := #[.int .i64 a0_0, .int .i64 a0_1, .string a0_2, .slice A0_3 l0_3.length c0_3]) (t := 24) ?hr ?_; (case hd => rfl); (case hg => rfl); (case hr => first | (go_simp; done) | (go_simp; rfl)); intro gb437 hg w14 hbox hb; have n0_ := Aside0.mk (below_step (by repeat (first | (with_reducible first | exact HB.out | apply below_alloc | apply pw_below_drewN | apply below_drew1) | exact HB.out)) hb); have n1_ := Aside0.mk (hbox); have n2_ := Aside0.mk ((by rw [hg]; exact (below_size (by repeat (first | (with_reducible first | exact HB.out | apply below_alloc | apply pw_below_drewN | apply below_drew1) | exact HB.out))) : w.heap.size ≤ gb437)); have n3_ := Aside0.mk ((by rw [hg]; exact (below_size (by repeat (first | (with_reducible first | exact HB.out | apply below_alloc | apply pw_below_drewN | apply below_drew1) | exact HB.out))) : w.heap.size ≤ gb437)); clear HB; have HB := n0_; have BK437 := n1_; have GW437 := n2_; have GE437 := n3_; clear n0_ n1_ n2_ n3_; clear hb hbox hg; have hcz15_0 : w14.cell? ⟨gb437, 0, none⟩ = some (.int .i64 a0_0) := (blk_cell BK437.out 0).trans rfl; have hcz15_1 : w14.cell? ⟨gb437, 1, none⟩ = some (.int .i64 a0_1) := (blk_cell BK437.out 1).trans rfl; have hcz15_2 : w14.cell? ⟨gb437, 2, none⟩ = some (.string a0_2) := (blk_cell BK437.out 2).trans rfl; have hcz15_3 : w14.cell? ⟨gb437, 3, none⟩ = some (.slice A0_3 l0_3.length c0_3) := (blk_cell BK437.out 3).trans rfl; have hfz15_0 := blk_frozen BK437.out 0; have hfz15_1 := blk_frozen BK437.out 1; have hfz15_2 := blk_frozen BK437.out 2; have hfz15_3 := blk_frozen BK437.out 3) | ((with_reducible refine gate_callee (f := 84) rfl ?_); refine goesL_ (some 9) rfl rfl Tryz.func84 (by kernel_rfl) rfl #[.agg #[.int .i64 a0_0, .int .i64 a0_1, .string a0_2, .slice A0_3 l0_3.length c0_3], .bool a2] rfl (by (try simp only [List.map_toArray, List.map_cons, List.map_nil]); first | done | rfl | (simp only [List.length_drop, List.length_take]; rfl)) ?_; (with_reducible refine (plinthref03_heads.calls a0_0 a0_1 a0_2 _ _ l0_3 a2 true _ ?side1 ?side2 A4.out).mono ?_); (case side1 => repeat (first | exact (Kd.C_below HR0_3.out HB.out) | (with_reducible refine Kd.C_alloc ?_ _) | (with_reducible refine Kd.C_drewN ?_ _) | (with_reducible refine Kd.C_drew ?_))); (case side2 => exact HC0_3.out); rintro e w16 ⟨rfl, hb⟩; refine ⟨_, rfl, ?_⟩; have n0_ := Aside0.mk (blk_below (g := gb437) (o := .cells #[.int .i64 a0_0, .int .i64 a0_1, .string a0_2, .slice A0_3 l0_3.length c0_3] 24 (0, 0)) (by (with_reducible repeat (first | refine blk_drewN ?_ _ | refine blk_drew ?_ | refine blk_alloc ?_ _)); exact BK437.out) hb); have n1_ := Aside0.mk (below_step (by repeat (first | (with_reducible first | exact HB.out | apply below_alloc | apply pw_below_drewN | apply below_drew1 | refine below_set ?_ GE437.out) | exact HB.out)) hb); clear BK437; clear HB; have BK437 := n0_; have HB := n1_; clear n0_ n1_; (try clear hb); (try clear hb2); (try clear hk); (try clear hi); have hcz17_0 : w16.cell? ⟨gb437, 0, none⟩ = some (.int .i64 a0_0) := (blk_cell BK437.out 0).trans rfl; have hcz17_1 : w16.cell? ⟨gb437, 1, none⟩ = some (.int .i64 a0_1) := (blk_cell BK437.out 1).trans rfl; have hcz17_2 : w16.cell? ⟨gb437, 2, none⟩ = some (.string a0_2) := (blk_cell BK437.out 2).trans rfl; have hcz17_3 : w16.cell? ⟨gb437, 3, none⟩ = some (.slice A0_3 l0_3.length c0_3) := (blk_cell BK437.out 3).trans rfl; have hfz17_0 := blk_frozen BK437.out 0; have hfz17_1 := blk_frozen BK437.out 1; have hfz17_2 := blk_frozen BK437.out 2; have hfz17_3 := blk_frozen BK437.out 3; have p439 : 0 ≤ (0 : Int) := (by omega); have q439 : 0 < (l0_3.length : Int) := of_decide_eq_true (by first | (with_reducible assumption) | assumption); obtain ⟨ad439, A439_3, c439_3, e439, hx439_0, hx439_1, hx439_2, hx439_3, hl439_3, hi439_3⟩ := at_T24 HR0_3.out 0 p439 q439; cases e439; have qi439 : (0 < l0_3.length) = True := eq_true (by omega); (try rw [show ((0 : Int)).toNat = 0 from rfl] at hx439_0); (try rw [show 0 * 4 = 0 from rfl] at hx439_0); (try rw [Addr.add_zero'] at hx439_0); (try rw [show ((0 : Int)).toNat = 0 from rfl] at hx439_1); (try rw [show 0 * 4 = 0 from rfl] at hx439_1); (try rw [Addr.add_zero'] at hx439_1); (try rw [show ((0 : Int)).toNat = 0 from rfl] at hx439_2); (try rw [show 0 * 4 = 0 from rfl] at hx439_2); (try rw [Addr.add_zero'] at hx439_2); (try rw [show ((0 : Int)).toNat = 0 from rfl] at hx439_3); (try rw [show 0 * 4 = 0 from rfl] at hx439_3); (try rw [Addr.add_zero'] at hx439_3); replace hx439_0 := (HB.out.cell (World.block_lt_of_cell? w _ hx439_0)).trans hx439_0; replace hx439_1 := (HB.out.cell (World.block_lt_of_cell? w _ hx439_1)).trans hx439_1; replace hx439_2 := (HB.out.cell (World.block_lt_of_cell? w _ hx439_2)).trans hx439_2; replace hx439_3 := (HB.out.cell (World.block_lt_of_cell? w _ hx439_3)).trans hx439_3; have HR439_3 := Aside0.mk hi439_3; have HC439_3 := Aside0.mk hl439_3; clear hi439_3 hl439_3; replace p439 := eq_true p439; replace q439 := eq_true q439))
          go_ret
          exact ⟨by first | rfl | (simp [errW_none, errW_some] <;> rfl) | (simp [*, errW_none, errW_some] <;> rfl), by repeat (first | (with_reducible first | exact HB.out | apply below_alloc | apply pw_below_drewN | apply below_drew1 | refine below_set ?_ GE437.out) | exact HB.out)⟩
      · rw [if_neg c7] at H
        exact absurd H (by simp)
    · rw [if_neg c6] at H
      have c6b0 : (a1 == 1) = false := beq_eq_false_iff_ne.mpr c6
      have c6b1 : (a1 != 1) = true := bne_iff_ne.mpr c6
      obtain rfl := Option.some.inj H
      go_enter Tryz.func85, Tryz.ntmps85
      go_wp2_with (first | ((with_reducible refine gate_dst (N := 3) rfl ?_); refine box_event ?hg (N := 3) ?hd (cs := #[.int .i64 a0_0, .int .i64 a0_1, .string a0_2, .slice A0_3 l0_3.length c0_3]) (t := 24) ?hr ?_; (case hd => rfl); (case hg => rfl); (case hr => first | (go_simp; done) | (go_simp; rfl)); intro gb437 hg w18 hbox hb; have n0_ := Aside0.mk (below_step (by repeat (first | (with_reducible first | exact HB.out | apply below_alloc | apply pw_below_drewN | apply below_drew1) | exact HB.out)) hb); have n1_ := Aside0.mk (hbox); have n2_ := Aside0.mk ((by rw [hg]; exact (below_size (by repeat (first | (with_reducible first | exact HB.out | apply below_alloc | apply pw_below_drewN | apply below_drew1) | exact HB.out))) : w.heap.size ≤ gb437)); have n3_ := Aside0.mk ((by rw [hg]; exact (below_size (by repeat (first | (with_reducible first | exact HB.out | apply below_alloc | apply pw_below_drewN | apply below_drew1) | exact HB.out))) : w.heap.size ≤ gb437)); clear HB; have HB := n0_; have BK437 := n1_; have GW437 := n2_; have GE437 := n3_; clear n0_ n1_ n2_ n3_; clear hb hbox hg; have hcz19_0 : w18.cell? ⟨gb437, 0, none⟩ = some (.int .i64 a0_0) := (blk_cell BK437.out 0).trans rfl; have hcz19_1 : w18.cell? ⟨gb437, 1, none⟩ = some (.int .i64 a0_1) := (blk_cell BK437.out 1).trans rfl; have hcz19_2 : w18.cell? ⟨gb437, 2, none⟩ = some (.string a0_2) := (blk_cell BK437.out 2).trans rfl; have hcz19_3 : w18.cell? ⟨gb437, 3, none⟩ = some (.slice A0_3 l0_3.length c0_3) := (blk_cell BK437.out 3).trans rfl; have hfz19_0 := blk_frozen BK437.out 0; have hfz19_1 := blk_frozen BK437.out 1; have hfz19_2 := blk_frozen BK437.out 2; have hfz19_3 := blk_frozen BK437.out 3) | ((with_reducible refine gate_callee (f := 84) rfl ?_); refine goesL_ (some 9) rfl rfl Tryz.func84 (by kernel_rfl) rfl #[.agg #[.int .i64 a0_0, .int .i64 a0_1, .string a0_2, .slice A0_3 l0_3.length c0_3], .bool a2] rfl (by (try simp only [List.map_toArray, List.map_cons, List.map_nil]); first | done | rfl | (simp only [List.length_drop, List.length_take]; rfl)) ?_; (with_reducible refine (plinthref03_heads.calls a0_0 a0_1 a0_2 _ _ l0_3 a2 true _ ?side1 ?side2 A4.out).mono ?_); (case side1 => repeat (first | exact (Kd.C_below HR0_3.out HB.out) | (with_reducible refine Kd.C_alloc ?_ _) | (with_reducible refine Kd.C_drewN ?_ _) | (with_reducible refine Kd.C_drew ?_))); (case side2 => exact HC0_3.out); rintro e w20 ⟨rfl, hb⟩; refine ⟨_, rfl, ?_⟩; have n0_ := Aside0.mk (blk_below (g := gb437) (o := .cells #[.int .i64 a0_0, .int .i64 a0_1, .string a0_2, .slice A0_3 l0_3.length c0_3] 24 (0, 0)) (by (with_reducible repeat (first | refine blk_drewN ?_ _ | refine blk_drew ?_ | refine blk_alloc ?_ _)); exact BK437.out) hb); have n1_ := Aside0.mk (below_step (by repeat (first | (with_reducible first | exact HB.out | apply below_alloc | apply pw_below_drewN | apply below_drew1 | refine below_set ?_ GE437.out) | exact HB.out)) hb); clear BK437; clear HB; have BK437 := n0_; have HB := n1_; clear n0_ n1_; (try clear hb); (try clear hb2); (try clear hk); (try clear hi)))
      go_ret
      exact ⟨by first | rfl | (simp [errW_none, errW_some] <;> rfl) | (simp [*, errW_none, errW_some] <;> rfl), by repeat (first | (with_reducible first | exact HB.out | apply below_alloc | apply pw_below_drewN | apply below_drew1 | refine below_set ?_ GE437.out) | exact HB.out)⟩
  · replace c5 := Bool.eq_false_iff.mpr c5
    subst c5
    have H1 : (some false) = some r := by rw [if_neg (show ¬ (false = true) by decide)] at H; exact H
    clear H
    have H := H1
    clear H1
    obtain rfl := Option.some.inj H
    go_enter Tryz.func85, Tryz.ntmps85
    go_wp2_with (first | ((with_reducible refine gate_dst (N := 3) rfl ?_); refine box_event ?hg (N := 3) ?hd (cs := #[.int .i64 a0_0, .int .i64 a0_1, .string a0_2, .slice A0_3 l0_3.length c0_3]) (t := 24) ?hr ?_; (case hd => rfl); (case hg => rfl); (case hr => first | (go_simp; done) | (go_simp; rfl)); intro gb437 hg w21 hbox hb; have n0_ := Aside0.mk (below_step (by repeat (first | (with_reducible first | exact HB.out | apply below_alloc | apply pw_below_drewN | apply below_drew1) | exact HB.out)) hb); have n1_ := Aside0.mk (hbox); have n2_ := Aside0.mk ((by rw [hg]; exact (below_size (by repeat (first | (with_reducible first | exact HB.out | apply below_alloc | apply pw_below_drewN | apply below_drew1) | exact HB.out))) : w.heap.size ≤ gb437)); have n3_ := Aside0.mk ((by rw [hg]; exact (below_size (by repeat (first | (with_reducible first | exact HB.out | apply below_alloc | apply pw_below_drewN | apply below_drew1) | exact HB.out))) : w.heap.size ≤ gb437)); clear HB; have HB := n0_; have BK437 := n1_; have GW437 := n2_; have GE437 := n3_; clear n0_ n1_ n2_ n3_; clear hb hbox hg; have hcz22_0 : w21.cell? ⟨gb437, 0, none⟩ = some (.int .i64 a0_0) := (blk_cell BK437.out 0).trans rfl; have hcz22_1 : w21.cell? ⟨gb437, 1, none⟩ = some (.int .i64 a0_1) := (blk_cell BK437.out 1).trans rfl; have hcz22_2 : w21.cell? ⟨gb437, 2, none⟩ = some (.string a0_2) := (blk_cell BK437.out 2).trans rfl; have hcz22_3 : w21.cell? ⟨gb437, 3, none⟩ = some (.slice A0_3 l0_3.length c0_3) := (blk_cell BK437.out 3).trans rfl; have hfz22_0 := blk_frozen BK437.out 0; have hfz22_1 := blk_frozen BK437.out 1; have hfz22_2 := blk_frozen BK437.out 2; have hfz22_3 := blk_frozen BK437.out 3) | ((with_reducible refine gate_callee (f := 84) rfl ?_); refine goesL_ (some 9) rfl rfl Tryz.func84 (by kernel_rfl) rfl #[.agg #[.int .i64 a0_0, .int .i64 a0_1, .string a0_2, .slice A0_3 l0_3.length c0_3], .bool a2] rfl (by (try simp only [List.map_toArray, List.map_cons, List.map_nil]); first | done | rfl | (simp only [List.length_drop, List.length_take]; rfl)) ?_; (with_reducible refine (plinthref03_heads.calls a0_0 a0_1 a0_2 _ _ l0_3 a2 false _ ?side1 ?side2 A4.out).mono ?_); (case side1 => repeat (first | exact (Kd.C_below HR0_3.out HB.out) | (with_reducible refine Kd.C_alloc ?_ _) | (with_reducible refine Kd.C_drewN ?_ _) | (with_reducible refine Kd.C_drew ?_))); (case side2 => exact HC0_3.out); rintro e w23 ⟨rfl, hb⟩; refine ⟨_, rfl, ?_⟩; have n0_ := Aside0.mk (blk_below (g := gb437) (o := .cells #[.int .i64 a0_0, .int .i64 a0_1, .string a0_2, .slice A0_3 l0_3.length c0_3] 24 (0, 0)) (by (with_reducible repeat (first | refine blk_drewN ?_ _ | refine blk_drew ?_ | refine blk_alloc ?_ _)); exact BK437.out) hb); have n1_ := Aside0.mk (below_step (by repeat (first | (with_reducible first | exact HB.out | apply below_alloc | apply pw_below_drewN | apply below_drew1 | refine below_set ?_ GE437.out) | exact HB.out)) hb); clear BK437; clear HB; have BK437 := n0_; have HB := n1_; clear n0_ n1_; (try clear hb); (try clear hb2); (try clear hk); (try clear hi)))
    go_ret
    exact ⟨by first | rfl | (simp [errW_none, errW_some] <;> rfl) | (simp [*, errW_none, errW_some] <;> rfl), by repeat (first | (with_reducible first | exact HB.out | apply below_alloc | apply pw_below_drewN | apply below_drew1 | refine below_set ?_ GE437.out) | exact HB.out)⟩

end Go.Proofs.YtcjmplpfebpfpaaGreatDoor.PKindInstances

namespace Go.Proofs.YtcjmplpfebpfpaaGreatDoor
open Go.RowKit Go.Proofs Go.Proofs.YtcjmplpfebpfpaaGreatDoorW.PrintWords Go.Proofs.YtcjmplpfebpfpaaGreatDoorW.PrintLast Go.Proofs.YtcjmplpfebpfpaaGreatDoorW.PrintMore PKindInstances
set_option linter.unusedVariables false
set_option linter.unusedSimpArgs false

end Go.Proofs.YtcjmplpfebpfpaaGreatDoor

namespace Go.Proofs.YtcjmplpfebpfpaaGreatDoor
open Go.RowKit Go.Proofs Go.Proofs.YtcjmplpfebpfpaaGreatDoorW.PrintWords Go.Proofs.YtcjmplpfebpfpaaGreatDoorW.PrintLast Go.Proofs.YtcjmplpfebpfpaaGreatDoorW.PrintMore PKindInstances
set_option linter.unusedVariables false
set_option linter.unusedSimpArgs false

end Go.Proofs.YtcjmplpfebpfpaaGreatDoor

namespace Go.Proofs.YtcjmplpfebpfpaaGreatDoor
open Go.RowKit Go.Proofs Go.Proofs.YtcjmplpfebpfpaaGreatDoorW.PrintWords Go.Proofs.YtcjmplpfebpfpaaGreatDoorW.PrintLast Go.Proofs.YtcjmplpfebpfpaaGreatDoorW.PrintMore PKindInstances
set_option linter.unusedVariables false
set_option linter.unusedSimpArgs false

theorem siz_pos (x : S24) : 0 < siz x := by obtain ⟨a, b, s, l⟩ := x; simp only [siz]; omega
theorem findM_mem {by_ : List S71} {s : ByteArray} {x : S24} (h : findM by_ s = some x) : ∃ p ∈ by_, p.f1 = x := by
  unfold findM at h
  split at h
  · cases h
  · induction by_ with
    | nil => cases h
    | cons p r ih =>
      simp only [lookR] at h
      split at h
      · exact ⟨p, List.mem_cons_self, Option.some.inj h⟩
      · obtain ⟨q, h1, h2⟩ := ih h
        exact ⟨q, List.mem_cons_of_mem _ h1, h2⟩
end Go.Proofs.YtcjmplpfebpfpaaGreatDoor

namespace Go.Proofs.YtcjmplpfebpfpaaGreatDoor
open Go.RowKit Go.Proofs Go.Proofs.YtcjmplpfebpfpaaGreatDoorW.PrintWords Go.Proofs.YtcjmplpfebpfpaaGreatDoorW.PrintLast Go.Proofs.YtcjmplpfebpfpaaGreatDoorW.PrintMore PKindInstances
set_option linter.unusedVariables false
set_option linter.unusedSimpArgs false

end Go.Proofs.YtcjmplpfebpfpaaGreatDoor
