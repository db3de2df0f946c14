/- KindInstances, part 10: the print's words and functions that it leans on, cut to what is reached, and own texts. -/
import Derived.Test.YtcjmplpfebpfpaaGreatDoorNi9
namespace Go.Proofs.YtcjmplpfebpfpaaGreatDoor
open Go.RowKit Go.Proofs Go.Proofs.YtcjmplpfebpfpaaGreatDoorW.PrintWords Go.Proofs.YtcjmplpfebpfpaaGreatDoorW.PrintLast Go.Proofs.YtcjmplpfebpfpaaGreatDoorW.PrintMore PKindInstances
set_option linter.unusedVariables false
set_option linter.unusedSimpArgs false

def sameM : List S71 → List S71 → Bool
  | [], [] => true
  | x :: l, y :: m => ((x.f0.toList == y.f0.toList) && eqM x.f1 y.f1) && sameM l m
  | _, _ => false
theorem sameM_len : ∀ (l m : List S71), l.length ≠ m.length → sameM l m = false
  | [], [], h => absurd rfl h
  | [], _ :: _, _ => rfl
  | _ :: _, [], _ => rfl
  | x :: l, y :: m, h => by
    simp only [sameM, sameM_len l m (fun e => h (by simp [e])), Bool.and_false]
theorem drop_at71 {l : List S71} {i : Nat} {x : S71} (hx : l[i]? = some x) : l.drop i = x :: l.drop (i + 1) := by
  obtain ⟨h, rfl⟩ := List.getElem?_eq_some_iff.1 hx
  exact List.drop_eq_getElem_cons h
theorem row_at5 {w : World} {A : Option Addr} {n : Nat} {l : List S71} (h : Kd.C k71 w A n l) {i : Nat} (hi : i < n) {x : S71} (hx : l[i]? = some x) :
    ∃ ad A4 c4, A = some ad ∧ w.cell? (ad.add (i * 5)) = some (.string x.f0) ∧ w.cell? ⟨(ad.add (i * 5)).block, (ad.add (i * 5)).off + 1, none⟩ = some (.int .i64 x.f1.f0) ∧
      w.cell? ⟨(ad.add (i * 5)).block, (ad.add (i * 5)).off + 2, none⟩ = some (.int .i64 x.f1.f1) ∧ w.cell? ⟨(ad.add (i * 5)).block, (ad.add (i * 5)).off + 3, none⟩ = some (.string x.f1.f2) ∧ w.cell? ⟨(ad.add (i * 5)).block, (ad.add (i * 5)).off + 4, none⟩ = some (.slice A4 x.f1.f3.length c4) ∧
      x.f1.f3.length ≤ c4 ∧ k24.C w A4 x.f1.f3.length x.f1.f3 := by
  obtain ⟨ad, A3, c3, e, g0, g1, g2, g3, g4, g5, g6⟩ := at_T71 h (i : Int) (by omega) (by omega)
  have er : rd_T71 l (i : Int) = x := by unfold rd_T71; rw [Int.toNat_natCast, List.getD_eq_getElem?_getD, hx]; rfl
  rw [er] at g0 g1 g2 g3 g4 g5 g6
  rw [Int.toNat_natCast] at g0 g1 g2 g3 g4
  exact ⟨ad, A3, c3, e, g0, g1, g2, g3, g4, g5, g6⟩

/-- What holds of the loop. -/
def SmRel (W0 : World) (l m : List S71) (R : Bool) (k : Nat) (x5 : Value) (wr : World) : Prop :=
  ∃ (i : Nat), x5 = .int .i64 (i : Int) ∧ k + i = l.length ∧ Below W0.heap.size W0 wr ∧ sameM (l.drop i) (m.drop i) = R

set_option maxRecDepth 100000 in
set_option maxHeartbeats 8000000 in
theorem Same_any (l m : List S71) (A B : Option Addr) (c d : Nat) (w : World) (hr : Kd.C k71 w A l.length l) (hs : Kd.C k71 w B m.length m)
    (hl : ∀ x ∈ l, wid x.f1 < 9000000) (hm : ∀ x ∈ m, wid x.f1 < 9000000) (hn : l.length < 9000000) :
    Calls Tryz.prog 15 #[.slice A l.length c, .slice B m.length d] w fun e w' => e = .returned (.bool (sameM l m)) ∧ Below w.heap.size w w' := by
  have hu24 := Tryz.underlying24
  have hu71 := Tryz.underlying71
  by_cases hlm : l.length = m.length
  · obtain ⟨R, hR⟩ : ∃ R, R = sameM l m := ⟨_, rfl⟩
    rw [← hR]
    have HA : Hid _ := hr
    have HB : Hid _ := hs
    have HL : Hid _ := hl
    have HM : Hid _ := hm
    have HLM : Hid _ := hlm
    have en : ((l.length : Int) != (m.length : Int)) = false := bne_eq_false_iff_eq.mpr (by omega)
    have start : Hid (SmRel w l m R l.length (.int .i64 ((0 : Nat) : Int)) w) := ⟨0, rfl, rfl, Below.refl _ _, hR.symm⟩
    clear hr hs hl hm hlm hR
    go_enter Tryz.func15, Tryz.ntmps15
    go_wp2_with fail
    go_loopg [5] l.length (fun k x5 wr => SmRel w l m R k x5 wr)
    case atStart => exact start.out
    case round =>
      clear start
      obtain ⟨i, rfl, hki, hB0, hV⟩ := hrel
      by_cases hlt : i < l.length
      · obtain ⟨g, rfl⟩ : ∃ g, gk = g + 1 := ⟨gk - 1, by omega⟩
        have e1 : decide (i < l.length) = true := decide_eq_true hlt
        have hlm := HLM.out
        obtain ⟨x, hx⟩ : ∃ x, l[i]? = some x := ⟨l[i]'(by omega), List.getElem?_eq_getElem _⟩
        obtain ⟨y, hy⟩ : ∃ y, m[i]? = some y := ⟨m[i]'(by omega), List.getElem?_eq_getElem _⟩
        have hltm : i < m.length := by omega
        obtain ⟨ad, A5, c5, rfl, g0, g1, g2, g3, g4, g5, g6⟩ := row_at5 (Kd.C_below HA.out hB0) (by omega) hx
        obtain ⟨ae, B5, d5, rfl, k0, k1, k2, k3, k4, k5, k6⟩ := row_at5 (Kd.C_below HB.out hB0) (by omega) hy
        rw [drop_at71 hx, drop_at71 hy] at hV
        simp only [sameM] at hV
        have MQ : Hid (∀ wq, Below wr.heap.size wr wq → _) := fun wq hwq => REqual_any x.f1 y.f1 A5 B5 c5 d5 wq (Kd.C_below g6 hwq) g5 (Kd.C_below k6 hwq) k5 (HL.out x (List.mem_of_getElem? hx)) (HM.out y (List.mem_of_getElem? hy))
        clear hx hy g6 k6 hlm
        obtain ⟨xn, x0, x1, x2, x3⟩ := x
        obtain ⟨yn, y0, y1, y2, y3⟩ := y
        have HF : Hid (∀ W : World, Below wr.heap.size wr W → (W.cell? (ad.add (i * 5)) = some (.string xn) ∧ W.cell? ⟨(ad.add (i * 5)).block, (ad.add (i * 5)).off + 1, none⟩ = some (.int .i64 x0) ∧ W.cell? ⟨(ad.add (i * 5)).block, (ad.add (i * 5)).off + 2, none⟩ = some (.int .i64 x1) ∧ W.cell? ⟨(ad.add (i * 5)).block, (ad.add (i * 5)).off + 3, none⟩ = some (.string x2) ∧ W.cell? ⟨(ad.add (i * 5)).block, (ad.add (i * 5)).off + 4, none⟩ = some (.slice A5 x3.length c5)) ∧ (W.cell? (ae.add (i * 5)) = some (.string yn) ∧ W.cell? ⟨(ae.add (i * 5)).block, (ae.add (i * 5)).off + 1, none⟩ = some (.int .i64 y0) ∧ W.cell? ⟨(ae.add (i * 5)).block, (ae.add (i * 5)).off + 2, none⟩ = some (.int .i64 y1) ∧ W.cell? ⟨(ae.add (i * 5)).block, (ae.add (i * 5)).off + 3, none⟩ = some (.string y2) ∧ W.cell? ⟨(ae.add (i * 5)).block, (ae.add (i * 5)).off + 4, none⟩ = some (.slice B5 y3.length d5))) := fun W h => ⟨⟨pw_cell_below h g0, pw_cell_below h g1, pw_cell_below h g2, pw_cell_below h g3, pw_cell_below h g4⟩, pw_cell_below h k0, pw_cell_below h k1, pw_cell_below h k2, pw_cell_below h k3, pw_cell_below h k4⟩
        simp only [] at hV MQ
        obtain ⟨q, hq⟩ : ∃ q, q = eqM ⟨x0, x1, x2, x3⟩ ⟨y0, y1, y2, y3⟩ := ⟨_, rfl⟩
        rw [← hq] at MQ hV
        have HBL : Hid _ := hB0
        clear hq hB0
        cases hnm : (xn.toList == yn.toList) with
        | true =>
          rw [hnm] at hV
          have HV : Hid _ := hV
          clear hV
          go_wp2_with fail
          clear g0 g1 g2 g3 g4 k0 k1 k2 k3 k4
          refine wp_region_held_drew (S := fun W => (W.cell? (ad.add (i * 5)) = some (.string xn) ∧ W.cell? ⟨(ad.add (i * 5)).block, (ad.add (i * 5)).off + 1, none⟩ = some (.int .i64 x0) ∧ W.cell? ⟨(ad.add (i * 5)).block, (ad.add (i * 5)).off + 2, none⟩ = some (.int .i64 x1) ∧ W.cell? ⟨(ad.add (i * 5)).block, (ad.add (i * 5)).off + 3, none⟩ = some (.string x2) ∧ W.cell? ⟨(ad.add (i * 5)).block, (ad.add (i * 5)).off + 4, none⟩ = some (.slice A5 x3.length c5)) ∧ (W.cell? (ae.add (i * 5)) = some (.string yn) ∧ W.cell? ⟨(ae.add (i * 5)).block, (ae.add (i * 5)).off + 1, none⟩ = some (.int .i64 y0) ∧ W.cell? ⟨(ae.add (i * 5)).block, (ae.add (i * 5)).off + 2, none⟩ = some (.int .i64 y1) ∧ W.cell? ⟨(ae.add (i * 5)).block, (ae.add (i * 5)).off + 3, none⟩ = some (.string y2) ∧ W.cell? ⟨(ae.add (i * 5)).block, (ae.add (i * 5)).off + 4, none⟩ = some (.slice B5 y3.length d5))) (by kernel_rfl) (HF.out _ (below_drew (Below.refl _ _))) (fun hHeld => ?_)
          refine takeV 0 (some 17) (.slice (some ad) l.length c) rfl rfl (by kernel_rfl) (by kernel_rfl) (by kernel_rfl) (fun _ _ _ h => h) (Or.inl ⟨by kernel_rfl, fun W hSw => by obtain ⟨⟨t0, t1, t2, t3, t4⟩, u0, u1, u2, u3, u4⟩ := hSw; go_simp⟩) hHeld ?_
          try simp only [Act.put, List.setIfInBounds_toArray, List.set_cons_zero, List.set_cons_succ]
          refine takeV 1 (some 18) (.int .i64 (i : Int)) rfl rfl (by kernel_rfl) (by kernel_rfl) (by kernel_rfl) (fun _ _ _ h => h) (Or.inl ⟨by kernel_rfl, fun W hSw => by obtain ⟨⟨t0, t1, t2, t3, t4⟩, u0, u1, u2, u3, u4⟩ := hSw; go_simp⟩) hHeld ?_
          try simp only [Act.put, List.setIfInBounds_toArray, List.set_cons_zero, List.set_cons_succ]
          refine takeV 2 (some 19) (.pointer (some (ad.add (i * 5)))) rfl rfl (by kernel_rfl) (by kernel_rfl) (by kernel_rfl) (fun _ _ _ h => h) (Or.inl ⟨by kernel_rfl, fun W hSw => by obtain ⟨⟨t0, t1, t2, t3, t4⟩, u0, u1, u2, u3, u4⟩ := hSw; go_simp; first | done | (intro h9; exact absurd h9 (by omega))⟩) hHeld ?_
          try simp only [Act.put, List.setIfInBounds_toArray, List.set_cons_zero, List.set_cons_succ]
          refine takeV 3 (some 20) (.pointer (some (ad.add (i * 5)))) rfl rfl (by kernel_rfl) (by kernel_rfl) (by kernel_rfl) (fun _ _ _ h => h) (Or.inl ⟨by kernel_rfl, fun W hSw => by obtain ⟨⟨t0, t1, t2, t3, t4⟩, u0, u1, u2, u3, u4⟩ := hSw; go_simp⟩) hHeld ?_
          try simp only [Act.put, List.setIfInBounds_toArray, List.set_cons_zero, List.set_cons_succ]
          refine takeV 4 (some 21) (.string xn) rfl rfl (by kernel_rfl) (by kernel_rfl) (by kernel_rfl) (fun _ _ _ h => h) (Or.inl ⟨by kernel_rfl, fun W hSw => by obtain ⟨⟨t0, t1, t2, t3, t4⟩, u0, u1, u2, u3, u4⟩ := hSw; go_simp⟩) hHeld ?_
          try simp only [Act.put, List.setIfInBounds_toArray, List.set_cons_zero, List.set_cons_succ]
          refine takeV 5 (some 22) (.slice (some ae) m.length d) rfl rfl (by kernel_rfl) (by kernel_rfl) (by kernel_rfl) (fun _ _ _ h => h) (Or.inl ⟨by kernel_rfl, fun W hSw => by obtain ⟨⟨t0, t1, t2, t3, t4⟩, u0, u1, u2, u3, u4⟩ := hSw; go_simp⟩) hHeld ?_
          try simp only [Act.put, List.setIfInBounds_toArray, List.set_cons_zero, List.set_cons_succ]
          refine takeV 6 (some 23) (.int .i64 (i : Int)) rfl rfl (by kernel_rfl) (by kernel_rfl) (by kernel_rfl) (fun _ _ _ h => h) (Or.inl ⟨by kernel_rfl, fun W hSw => by obtain ⟨⟨t0, t1, t2, t3, t4⟩, u0, u1, u2, u3, u4⟩ := hSw; go_simp⟩) hHeld ?_
          try simp only [Act.put, List.setIfInBounds_toArray, List.set_cons_zero, List.set_cons_succ]
          refine takeV 7 (some 24) (.pointer (some (ae.add (i * 5)))) rfl rfl (by kernel_rfl) (by kernel_rfl) (by kernel_rfl) (fun _ _ _ h => h) (Or.inl ⟨by kernel_rfl, fun W hSw => by obtain ⟨⟨t0, t1, t2, t3, t4⟩, u0, u1, u2, u3, u4⟩ := hSw; go_simp; first | done | (intro h9; exact absurd h9 (by omega))⟩) hHeld ?_
          try simp only [Act.put, List.setIfInBounds_toArray, List.set_cons_zero, List.set_cons_succ]
          refine takeV 8 (some 25) (.pointer (some (ae.add (i * 5)))) rfl rfl (by kernel_rfl) (by kernel_rfl) (by kernel_rfl) (fun _ _ _ h => h) (Or.inl ⟨by kernel_rfl, fun W hSw => by obtain ⟨⟨t0, t1, t2, t3, t4⟩, u0, u1, u2, u3, u4⟩ := hSw; go_simp⟩) hHeld ?_
          try simp only [Act.put, List.setIfInBounds_toArray, List.set_cons_zero, List.set_cons_succ]
          refine takeV 9 (some 26) (.string yn) rfl rfl (by kernel_rfl) (by kernel_rfl) (by kernel_rfl) (fun _ _ _ h => h) (Or.inl ⟨by kernel_rfl, fun W hSw => by obtain ⟨⟨t0, t1, t2, t3, t4⟩, u0, u1, u2, u3, u4⟩ := hSw; go_simp⟩) hHeld ?_
          try simp only [Act.put, List.setIfInBounds_toArray, List.set_cons_zero, List.set_cons_succ]
          refine takeV 10 (some 27) (.bool false) rfl rfl (by kernel_rfl) (by kernel_rfl) (by kernel_rfl) (fun _ _ _ h => h) (Or.inl ⟨by kernel_rfl, fun W hSw => by obtain ⟨⟨t0, t1, t2, t3, t4⟩, u0, u1, u2, u3, u4⟩ := hSw; go_simp⟩) hHeld ?_
          try simp only [Act.put, List.setIfInBounds_toArray, List.set_cons_zero, List.set_cons_succ]
          refine takeV 11 (some 28) (.bool false) rfl rfl (by kernel_rfl) (by kernel_rfl) (by kernel_rfl) (fun _ _ _ h => h) (Or.inl ⟨by kernel_rfl, fun W hSw => by obtain ⟨⟨t0, t1, t2, t3, t4⟩, u0, u1, u2, u3, u4⟩ := hSw; go_simp⟩) hHeld ?_
          try simp only [Act.put, List.setIfInBounds_toArray, List.set_cons_zero, List.set_cons_succ]
          refine takeV 12 (some 29) (.slice (some ad) l.length c) rfl rfl (by kernel_rfl) (by kernel_rfl) (by kernel_rfl) (fun _ _ _ h => h) (Or.inl ⟨by kernel_rfl, fun W hSw => by obtain ⟨⟨t0, t1, t2, t3, t4⟩, u0, u1, u2, u3, u4⟩ := hSw; go_simp⟩) hHeld ?_
          try simp only [Act.put, List.setIfInBounds_toArray, List.set_cons_zero, List.set_cons_succ]
          refine takeV 13 (some 30) (.int .i64 (i : Int)) rfl rfl (by kernel_rfl) (by kernel_rfl) (by kernel_rfl) (fun _ _ _ h => h) (Or.inl ⟨by kernel_rfl, fun W hSw => by obtain ⟨⟨t0, t1, t2, t3, t4⟩, u0, u1, u2, u3, u4⟩ := hSw; go_simp⟩) hHeld ?_
          try simp only [Act.put, List.setIfInBounds_toArray, List.set_cons_zero, List.set_cons_succ]
          refine takeV 14 (some 31) (.pointer (some (ad.add (i * 5)))) rfl rfl (by kernel_rfl) (by kernel_rfl) (by kernel_rfl) (fun _ _ _ h => h) (Or.inl ⟨by kernel_rfl, fun W hSw => by obtain ⟨⟨t0, t1, t2, t3, t4⟩, u0, u1, u2, u3, u4⟩ := hSw; go_simp; first | done | (intro h9; exact absurd h9 (by omega))⟩) hHeld ?_
          try simp only [Act.put, List.setIfInBounds_toArray, List.set_cons_zero, List.set_cons_succ]
          refine takeV 15 (some 32) (.pointer (some ⟨(ad.add (i * 5)).block, (ad.add (i * 5)).off + 1, none⟩)) rfl rfl (by kernel_rfl) (by kernel_rfl) (by kernel_rfl) (fun _ _ _ h => h) (Or.inl ⟨by kernel_rfl, fun W hSw => by obtain ⟨⟨t0, t1, t2, t3, t4⟩, u0, u1, u2, u3, u4⟩ := hSw; go_simp⟩) hHeld ?_
          try simp only [Act.put, List.setIfInBounds_toArray, List.set_cons_zero, List.set_cons_succ]
          refine takeV 16 (some 33) (formV x0 x1 x2 A5 x3.length c5) rfl rfl (by kernel_rfl) (by kernel_rfl) (by kernel_rfl) (fun _ _ _ h => h) (Or.inl ⟨by kernel_rfl, fun W hSw => by obtain ⟨⟨t0, t1, t2, t3, t4⟩, u0, u1, u2, u3, u4⟩ := hSw; go_simp⟩) hHeld ?_
          try simp only [Act.put, List.setIfInBounds_toArray, List.set_cons_zero, List.set_cons_succ]
          refine takeV 17 (some 34) (.slice (some ae) m.length d) rfl rfl (by kernel_rfl) (by kernel_rfl) (by kernel_rfl) (fun _ _ _ h => h) (Or.inl ⟨by kernel_rfl, fun W hSw => by obtain ⟨⟨t0, t1, t2, t3, t4⟩, u0, u1, u2, u3, u4⟩ := hSw; go_simp⟩) hHeld ?_
          try simp only [Act.put, List.setIfInBounds_toArray, List.set_cons_zero, List.set_cons_succ]
          refine takeV 18 (some 35) (.int .i64 (i : Int)) rfl rfl (by kernel_rfl) (by kernel_rfl) (by kernel_rfl) (fun _ _ _ h => h) (Or.inl ⟨by kernel_rfl, fun W hSw => by obtain ⟨⟨t0, t1, t2, t3, t4⟩, u0, u1, u2, u3, u4⟩ := hSw; go_simp⟩) hHeld ?_
          try simp only [Act.put, List.setIfInBounds_toArray, List.set_cons_zero, List.set_cons_succ]
          refine takeV 19 (some 36) (.pointer (some (ae.add (i * 5)))) rfl rfl (by kernel_rfl) (by kernel_rfl) (by kernel_rfl) (fun _ _ _ h => h) (Or.inl ⟨by kernel_rfl, fun W hSw => by obtain ⟨⟨t0, t1, t2, t3, t4⟩, u0, u1, u2, u3, u4⟩ := hSw; go_simp; first | done | (intro h9; exact absurd h9 (by omega))⟩) hHeld ?_
          try simp only [Act.put, List.setIfInBounds_toArray, List.set_cons_zero, List.set_cons_succ]
          refine takeV 20 (some 37) (.pointer (some ⟨(ae.add (i * 5)).block, (ae.add (i * 5)).off + 1, none⟩)) rfl rfl (by kernel_rfl) (by kernel_rfl) (by kernel_rfl) (fun _ _ _ h => h) (Or.inl ⟨by kernel_rfl, fun W hSw => by obtain ⟨⟨t0, t1, t2, t3, t4⟩, u0, u1, u2, u3, u4⟩ := hSw; go_simp⟩) hHeld ?_
          try simp only [Act.put, List.setIfInBounds_toArray, List.set_cons_zero, List.set_cons_succ]
          refine takeV 21 (some 38) (formV y0 y1 y2 B5 y3.length d5) rfl rfl (by kernel_rfl) (by kernel_rfl) (by kernel_rfl) (fun _ _ _ h => h) (Or.inl ⟨by kernel_rfl, fun W hSw => by obtain ⟨⟨t0, t1, t2, t3, t4⟩, u0, u1, u2, u3, u4⟩ := hSw; go_simp⟩) hHeld ?_
          try simp only [Act.put, List.setIfInBounds_toArray, List.set_cons_zero, List.set_cons_succ]
          refine wpAnyH_ready (rs := [22]) (by kernel_rfl) (by simp) ?_
          refine AllReadyH.cons rfl (fun K hK => ?_) AllReadyH.nil
          clear hHeld
          go_simp
          go_at_call 11
          refine Calls.mono (MQ.out _ (below_drew (Below.refl _ _))) ?_
          rintro e w6 ⟨rfl, B6'⟩
          have B6 : Hid _ := below_after (below_drew (Below.refl wr.heap.size wr)) B6'
          have HSn := HF.out _ B6.out
          clear B6'
          go_wp2_with fail
          refine hK.out _ _ HSn (fun hHeld => ?_)
          clear hK K
          try simp only [Act.put, List.setIfInBounds_toArray, List.set_cons_zero, List.set_cons_succ]
          refine takeV 23 (some 40) (.bool (!q)) rfl rfl (by kernel_rfl) (by kernel_rfl) (by kernel_rfl) (fun _ _ _ h => h) (Or.inl ⟨by kernel_rfl, fun W hSw => by go_simp⟩) hHeld ?_
          try simp only [Act.put, List.setIfInBounds_toArray, List.set_cons_zero, List.set_cons_succ]
          refine takeV 24 (some 41) (.bool (!q)) rfl rfl (by kernel_rfl) (by kernel_rfl) (by kernel_rfl) (fun _ _ _ h => h) (Or.inl ⟨by kernel_rfl, fun W hSw => by go_simp⟩) hHeld ?_
          try simp only [Act.put, List.setIfInBounds_toArray, List.set_cons_zero, List.set_cons_succ]
          refine wpAnyH_done (by kernel_rfl) ?_ _
          have hV := HV.out
          clear HV hHeld HSn
          cases q with
          | true =>
            have HV9 : Hid (sameM (List.drop (i + 1) l) (List.drop (i + 1) m) = R) := hV
            clear hV
            go_wp2_with fail
            go_roundg g
            case measure => omega
            case rel => exact ⟨i + 1, by go_num, by omega, below_after HBL.out B6.out, HV9.out⟩
          | false =>
            have hV : false = R := hV
            subst hV
            go_wp2_with fail
            go_ret
            exact ⟨rfl, below_after HBL.out B6.out⟩
        | false =>
          rw [hnm] at hV
          have HV : Hid _ := hV
          clear hV
          go_wp2_with fail
          clear g0 g1 g2 g3 g4 k0 k1 k2 k3 k4
          refine wp_region_held_drew (S := fun W => (W.cell? (ad.add (i * 5)) = some (.string xn) ∧ W.cell? ⟨(ad.add (i * 5)).block, (ad.add (i * 5)).off + 1, none⟩ = some (.int .i64 x0) ∧ W.cell? ⟨(ad.add (i * 5)).block, (ad.add (i * 5)).off + 2, none⟩ = some (.int .i64 x1) ∧ W.cell? ⟨(ad.add (i * 5)).block, (ad.add (i * 5)).off + 3, none⟩ = some (.string x2) ∧ W.cell? ⟨(ad.add (i * 5)).block, (ad.add (i * 5)).off + 4, none⟩ = some (.slice A5 x3.length c5)) ∧ (W.cell? (ae.add (i * 5)) = some (.string yn) ∧ W.cell? ⟨(ae.add (i * 5)).block, (ae.add (i * 5)).off + 1, none⟩ = some (.int .i64 y0) ∧ W.cell? ⟨(ae.add (i * 5)).block, (ae.add (i * 5)).off + 2, none⟩ = some (.int .i64 y1) ∧ W.cell? ⟨(ae.add (i * 5)).block, (ae.add (i * 5)).off + 3, none⟩ = some (.string y2) ∧ W.cell? ⟨(ae.add (i * 5)).block, (ae.add (i * 5)).off + 4, none⟩ = some (.slice B5 y3.length d5))) (by kernel_rfl) (HF.out _ (below_drew (Below.refl _ _))) (fun hHeld => ?_)
          refine takeV 0 (some 17) (.slice (some ad) l.length c) rfl rfl (by kernel_rfl) (by kernel_rfl) (by kernel_rfl) (fun _ _ _ h => h) (Or.inl ⟨by kernel_rfl, fun W hSw => by obtain ⟨⟨t0, t1, t2, t3, t4⟩, u0, u1, u2, u3, u4⟩ := hSw; go_simp⟩) hHeld ?_
          try simp only [Act.put, List.setIfInBounds_toArray, List.set_cons_zero, List.set_cons_succ]
          refine takeV 1 (some 18) (.int .i64 (i : Int)) rfl rfl (by kernel_rfl) (by kernel_rfl) (by kernel_rfl) (fun _ _ _ h => h) (Or.inl ⟨by kernel_rfl, fun W hSw => by obtain ⟨⟨t0, t1, t2, t3, t4⟩, u0, u1, u2, u3, u4⟩ := hSw; go_simp⟩) hHeld ?_
          try simp only [Act.put, List.setIfInBounds_toArray, List.set_cons_zero, List.set_cons_succ]
          refine takeV 2 (some 19) (.pointer (some (ad.add (i * 5)))) rfl rfl (by kernel_rfl) (by kernel_rfl) (by kernel_rfl) (fun _ _ _ h => h) (Or.inl ⟨by kernel_rfl, fun W hSw => by obtain ⟨⟨t0, t1, t2, t3, t4⟩, u0, u1, u2, u3, u4⟩ := hSw; go_simp; first | done | (intro h9; exact absurd h9 (by omega))⟩) hHeld ?_
          try simp only [Act.put, List.setIfInBounds_toArray, List.set_cons_zero, List.set_cons_succ]
          refine takeV 3 (some 20) (.pointer (some (ad.add (i * 5)))) rfl rfl (by kernel_rfl) (by kernel_rfl) (by kernel_rfl) (fun _ _ _ h => h) (Or.inl ⟨by kernel_rfl, fun W hSw => by obtain ⟨⟨t0, t1, t2, t3, t4⟩, u0, u1, u2, u3, u4⟩ := hSw; go_simp⟩) hHeld ?_
          try simp only [Act.put, List.setIfInBounds_toArray, List.set_cons_zero, List.set_cons_succ]
          refine takeV 4 (some 21) (.string xn) rfl rfl (by kernel_rfl) (by kernel_rfl) (by kernel_rfl) (fun _ _ _ h => h) (Or.inl ⟨by kernel_rfl, fun W hSw => by obtain ⟨⟨t0, t1, t2, t3, t4⟩, u0, u1, u2, u3, u4⟩ := hSw; go_simp⟩) hHeld ?_
          try simp only [Act.put, List.setIfInBounds_toArray, List.set_cons_zero, List.set_cons_succ]
          refine takeV 5 (some 22) (.slice (some ae) m.length d) rfl rfl (by kernel_rfl) (by kernel_rfl) (by kernel_rfl) (fun _ _ _ h => h) (Or.inl ⟨by kernel_rfl, fun W hSw => by obtain ⟨⟨t0, t1, t2, t3, t4⟩, u0, u1, u2, u3, u4⟩ := hSw; go_simp⟩) hHeld ?_
          try simp only [Act.put, List.setIfInBounds_toArray, List.set_cons_zero, List.set_cons_succ]
          refine takeV 6 (some 23) (.int .i64 (i : Int)) rfl rfl (by kernel_rfl) (by kernel_rfl) (by kernel_rfl) (fun _ _ _ h => h) (Or.inl ⟨by kernel_rfl, fun W hSw => by obtain ⟨⟨t0, t1, t2, t3, t4⟩, u0, u1, u2, u3, u4⟩ := hSw; go_simp⟩) hHeld ?_
          try simp only [Act.put, List.setIfInBounds_toArray, List.set_cons_zero, List.set_cons_succ]
          refine takeV 7 (some 24) (.pointer (some (ae.add (i * 5)))) rfl rfl (by kernel_rfl) (by kernel_rfl) (by kernel_rfl) (fun _ _ _ h => h) (Or.inl ⟨by kernel_rfl, fun W hSw => by obtain ⟨⟨t0, t1, t2, t3, t4⟩, u0, u1, u2, u3, u4⟩ := hSw; go_simp; first | done | (intro h9; exact absurd h9 (by omega))⟩) hHeld ?_
          try simp only [Act.put, List.setIfInBounds_toArray, List.set_cons_zero, List.set_cons_succ]
          refine takeV 8 (some 25) (.pointer (some (ae.add (i * 5)))) rfl rfl (by kernel_rfl) (by kernel_rfl) (by kernel_rfl) (fun _ _ _ h => h) (Or.inl ⟨by kernel_rfl, fun W hSw => by obtain ⟨⟨t0, t1, t2, t3, t4⟩, u0, u1, u2, u3, u4⟩ := hSw; go_simp⟩) hHeld ?_
          try simp only [Act.put, List.setIfInBounds_toArray, List.set_cons_zero, List.set_cons_succ]
          refine takeV 9 (some 26) (.string yn) rfl rfl (by kernel_rfl) (by kernel_rfl) (by kernel_rfl) (fun _ _ _ h => h) (Or.inl ⟨by kernel_rfl, fun W hSw => by obtain ⟨⟨t0, t1, t2, t3, t4⟩, u0, u1, u2, u3, u4⟩ := hSw; go_simp⟩) hHeld ?_
          try simp only [Act.put, List.setIfInBounds_toArray, List.set_cons_zero, List.set_cons_succ]
          refine takeV 10 (some 27) (.bool true) rfl rfl (by kernel_rfl) (by kernel_rfl) (by kernel_rfl) (fun _ _ _ h => h) (Or.inl ⟨by kernel_rfl, fun W hSw => by obtain ⟨⟨t0, t1, t2, t3, t4⟩, u0, u1, u2, u3, u4⟩ := hSw; go_simp⟩) hHeld ?_
          try simp only [Act.put, List.setIfInBounds_toArray, List.set_cons_zero, List.set_cons_succ]
          refine takeV 11 (some 28) (.bool true) rfl rfl (by kernel_rfl) (by kernel_rfl) (by kernel_rfl) (fun _ _ _ h => h) (Or.inl ⟨by kernel_rfl, fun W hSw => by obtain ⟨⟨t0, t1, t2, t3, t4⟩, u0, u1, u2, u3, u4⟩ := hSw; go_simp⟩) hHeld ?_
          try simp only [Act.put, List.setIfInBounds_toArray, List.set_cons_zero, List.set_cons_succ]
          refine takeV 12 (some 29) undef rfl rfl (by kernel_rfl) (by kernel_rfl) (by kernel_rfl) (fun _ _ _ h => h) (Or.inr ⟨by kernel_rfl, rfl⟩) hHeld ?_
          try simp only [Act.put, List.setIfInBounds_toArray, List.set_cons_zero, List.set_cons_succ]
          refine takeV 13 (some 30) undef rfl rfl (by kernel_rfl) (by kernel_rfl) (by kernel_rfl) (fun _ _ _ h => h) (Or.inr ⟨by kernel_rfl, rfl⟩) hHeld ?_
          try simp only [Act.put, List.setIfInBounds_toArray, List.set_cons_zero, List.set_cons_succ]
          refine takeV 14 (some 31) undef rfl rfl (by kernel_rfl) (by kernel_rfl) (by kernel_rfl) (fun _ _ _ h => h) (Or.inr ⟨by kernel_rfl, rfl⟩) hHeld ?_
          try simp only [Act.put, List.setIfInBounds_toArray, List.set_cons_zero, List.set_cons_succ]
          refine takeV 15 (some 32) undef rfl rfl (by kernel_rfl) (by kernel_rfl) (by kernel_rfl) (fun _ _ _ h => h) (Or.inr ⟨by kernel_rfl, rfl⟩) hHeld ?_
          try simp only [Act.put, List.setIfInBounds_toArray, List.set_cons_zero, List.set_cons_succ]
          refine takeV 16 (some 33) undef rfl rfl (by kernel_rfl) (by kernel_rfl) (by kernel_rfl) (fun _ _ _ h => h) (Or.inr ⟨by kernel_rfl, rfl⟩) hHeld ?_
          try simp only [Act.put, List.setIfInBounds_toArray, List.set_cons_zero, List.set_cons_succ]
          refine takeV 17 (some 34) undef rfl rfl (by kernel_rfl) (by kernel_rfl) (by kernel_rfl) (fun _ _ _ h => h) (Or.inr ⟨by kernel_rfl, rfl⟩) hHeld ?_
          try simp only [Act.put, List.setIfInBounds_toArray, List.set_cons_zero, List.set_cons_succ]
          refine takeV 18 (some 35) undef rfl rfl (by kernel_rfl) (by kernel_rfl) (by kernel_rfl) (fun _ _ _ h => h) (Or.inr ⟨by kernel_rfl, rfl⟩) hHeld ?_
          try simp only [Act.put, List.setIfInBounds_toArray, List.set_cons_zero, List.set_cons_succ]
          refine takeV 19 (some 36) undef rfl rfl (by kernel_rfl) (by kernel_rfl) (by kernel_rfl) (fun _ _ _ h => h) (Or.inr ⟨by kernel_rfl, rfl⟩) hHeld ?_
          try simp only [Act.put, List.setIfInBounds_toArray, List.set_cons_zero, List.set_cons_succ]
          refine takeV 20 (some 37) undef rfl rfl (by kernel_rfl) (by kernel_rfl) (by kernel_rfl) (fun _ _ _ h => h) (Or.inr ⟨by kernel_rfl, rfl⟩) hHeld ?_
          try simp only [Act.put, List.setIfInBounds_toArray, List.set_cons_zero, List.set_cons_succ]
          refine takeV 21 (some 38) undef rfl rfl (by kernel_rfl) (by kernel_rfl) (by kernel_rfl) (fun _ _ _ h => h) (Or.inr ⟨by kernel_rfl, rfl⟩) hHeld ?_
          try simp only [Act.put, List.setIfInBounds_toArray, List.set_cons_zero, List.set_cons_succ]
          refine takeV 22 (some 39) undef rfl rfl (by kernel_rfl) (by kernel_rfl) (by kernel_rfl) (fun _ _ _ h => h) (Or.inr ⟨by kernel_rfl, rfl⟩) hHeld ?_
          try simp only [Act.put, List.setIfInBounds_toArray, List.set_cons_zero, List.set_cons_succ]
          refine takeV 23 (some 40) undef rfl rfl (by kernel_rfl) (by kernel_rfl) (by kernel_rfl) (fun _ _ _ h => h) (Or.inr ⟨by kernel_rfl, rfl⟩) hHeld ?_
          try simp only [Act.put, List.setIfInBounds_toArray, List.set_cons_zero, List.set_cons_succ]
          refine takeV 24 (some 41) (.bool true) rfl rfl (by kernel_rfl) (by kernel_rfl) (by kernel_rfl) (fun _ _ _ h => h) (Or.inl ⟨by kernel_rfl, fun W hSw => by obtain ⟨⟨t0, t1, t2, t3, t4⟩, u0, u1, u2, u3, u4⟩ := hSw; go_simp⟩) hHeld ?_
          try simp only [Act.put, List.setIfInBounds_toArray, List.set_cons_zero, List.set_cons_succ]
          refine wpAnyH_done (by kernel_rfl) ?_ _
          have hV : false = R := HV.out
          clear HV hHeld
          subst hV
          go_wp2_with fail
          go_ret
          exact ⟨rfl, below_after HBL.out (below_drew (Below.refl wr.heap.size wr))⟩
      · have e1 : decide (i < l.length) = false := decide_eq_false hlt
        have e3 : l.drop i = [] := List.drop_eq_nil_of_le (by omega)
        have e4 : m.drop i = [] := List.drop_eq_nil_of_le (by have := HLM.out; omega)
        rw [e3, e4] at hV
        simp only [sameM] at hV
        subst hV
        have BW : Hid _ := hB0
        clear hB0 e3 e4
        go_wp2_with fail
        go_ret
        exact ⟨rfl, BW.out⟩
  · rw [sameM_len l m hlm]
    have en : ((l.length : Int) != (m.length : Int)) = true := bne_iff_ne.mpr (by omega)
    clear hr hs hl hm hlm
    go_enter Tryz.func15, Tryz.ntmps15
    go_wp2_with fail
    go_ret
    exact ⟨rfl, Below.refl _ _⟩

end Go.Proofs.YtcjmplpfebpfpaaGreatDoor

namespace Go.Proofs.YtcjmplpfebpfpaaGreatDoor
open Go.RowKit Go.Proofs Go.Proofs.YtcjmplpfebpfpaaGreatDoorW.PrintWords Go.Proofs.YtcjmplpfebpfpaaGreatDoorW.PrintLast Go.Proofs.YtcjmplpfebpfpaaGreatDoorW.PrintMore PKindInstances
set_option linter.unusedVariables false
set_option linter.unusedSimpArgs false

def digI (c : Int) : Bool := !(decide (c < 48) || decide (57 < c))
def digsM (b : ByteArray) : Bool := (!(b.toList == [])) && (bytesI b).all digI
/-- What holds of the loop. -/
def DgRel (W0 : World) (b : ByteArray) (R : Bool) (k : Nat) (x3 : Value) (wr : World) : Prop :=
  ∃ (i : Nat), x3 = .int .i64 (i : Int) ∧ k + i = b.size ∧ Below W0.heap.size W0 wr ∧ ((!(b.toList == [])) && ((bytesI b).drop i).all digI) = R

/-- The text behind its minus. -/
def unsigned (s : ByteArray) : ByteArray := if decide (1 < s.size) && (s.data.toList.headD 0 == 45) then s.extract 1 s.size else s

set_option maxRecDepth 100000 in
set_option maxHeartbeats 4000000 in
theorem Digits_any (s : ByteArray) (w : World) (hz : s.size < 9000000) : Calls Tryz.prog 157 #[.string s] w fun e w' => e = .returned (.bool (digsM (unsigned s))) ∧ Below w.heap.size w w' := by
  obtain ⟨b, hb⟩ : ∃ b, b = unsigned s := ⟨_, rfl⟩
  rw [← hb]
  obtain ⟨R, hR⟩ : ∃ R, R = digsM b := ⟨_, rfl⟩
  rw [← hR]
  unfold digsM at hR
  have hbz : b.size < 9000000 := by
    rw [hb]; unfold unsigned; split
    · simp only [ByteArray.size_extract]; omega
    · exact hz
  unfold unsigned at hb
  by_cases h1 : 1 < s.size
  · have e1 : decide (1 < s.size) = true := decide_eq_true h1
    have hh : s.data.toList.headD 0 = s[0]'(by omega) := by
      obtain ⟨⟨l⟩⟩ := s
      cases l with
      | nil => exact absurd h1 (by decide)
      | cons a l => rfl
    rw [e1, hh] at hb
    cases h2 : (s[0]'(by omega) == 45) with
    | true =>
      have h3 : (((s[0]'(by omega)).toNat : Int) == 45) = true := by rw [eq_of_beq h2]; rfl
      rw [h2] at hb
      simp only [Bool.and_self, if_true] at hb
      clear h2 hh
      go_enter Tryz.func157, Tryz.ntmps157
      go_upto_region 3 with fail
      clear h3 e1 h1
      rw [← hb]
      clear hb
      have start : Hid (DgRel w b R b.size (.int .i64 ((0 : Nat) : Int)) w) := ⟨0, rfl, rfl, Below.refl _ _, hR.symm⟩
      clear hR
      go_wp2_with fail
      go_loopg [3] b.size (fun k x3 wr => DgRel w b R k x3 wr)
      case atStart => exact start.out
      case round =>
        clear start
        obtain ⟨i, rfl, hki, hB0, hV⟩ := hrel
        by_cases hlt : i < b.size
        · obtain ⟨g, rfl⟩ : ∃ g, gk = g + 1 := ⟨gk - 1, by omega⟩
          have e1 : decide (i < b.size) = true := decide_eq_true hlt
          have hd : (bytesI b).drop i = ((b[i]'hlt).toNat : Int) :: (bytesI b).drop (i + 1) := by
            have hl : i < (bytesI b).length := by simpa [bytesI] using hlt
            rw [List.drop_eq_getElem_cons hl]
            congr 1
            simp [bytesI]; rfl
          rw [hd, List.all_cons] at hV
          unfold digI at hV
          have HB : Hid _ := hB0
          cases hc1 : decide (((b[i]'hlt).toNat : Int) < 48) with
          | true =>
            rw [hc1] at hV
            have hV2 : false = R := by rw [← hV]; simp
            subst hV2
            clear hV hd hB0
            go_wp2_with fail
            go_ret
            exact ⟨rfl, HB.out⟩
          | false =>
            cases hc2 : decide (57 < ((b[i]'hlt).toNat : Int)) with
            | true =>
              rw [hc1, hc2] at hV
              have hV2 : false = R := by rw [← hV]; simp
              subst hV2
              clear hV hd hB0
              go_wp2_with fail
              go_ret
              exact ⟨rfl, HB.out⟩
            | false =>
              rw [hc1, hc2] at hV
              have HV : Hid (((!(b.toList == [])) && ((bytesI b).drop (i + 1)).all digI) = R) := by rw [← hV]; rfl
              clear hV hd hB0
              go_wp2_with fail
              go_roundg g
              case measure => omega
              case rel => exact ⟨i + 1, by go_num, by omega, HB.out, HV.out⟩
        · have e1 : decide (i < b.size) = false := decide_eq_false hlt
          have hnil : (bytesI b).drop i = [] := List.drop_eq_nil_of_le (by simpa [bytesI] using Nat.le_of_not_lt hlt)
          rw [hnil] at hV
          have hV2 : (!(b.toList == [])) = R := by rw [← hV]; simp
          have HB : Hid _ := hB0
          have hge : b.size ≤ i := by omega
          subst hV2
          clear hnil hV hlt hB0
          go_wp2_with fail
          go_ret
          exact ⟨by first | rfl | simp, HB.out⟩
    | false =>
      have h3 : (((s[0]'(by omega)).toNat : Int) == 45) = false := by
        rw [beq_eq_false_iff_ne] at h2 ⊢
        intro h
        apply h2
        apply UInt8.toNat_inj.1
        exact Int.ofNat.inj h
      rw [h2] at hb
      simp only [Bool.and_false, Bool.false_eq_true, if_false] at hb
      subst hb
      clear h2 hh
      go_enter Tryz.func157, Tryz.ntmps157
      go_upto_region 3 with fail
      clear h3 e1 h1
      have start : Hid (DgRel w b R b.size (.int .i64 ((0 : Nat) : Int)) w) := ⟨0, rfl, rfl, Below.refl _ _, hR.symm⟩
      clear hR
      go_wp2_with fail
      go_loopg [3] b.size (fun k x3 wr => DgRel w b R k x3 wr)
      case atStart => exact start.out
      case round =>
        clear start
        obtain ⟨i, rfl, hki, hB0, hV⟩ := hrel
        by_cases hlt : i < b.size
        · obtain ⟨g, rfl⟩ : ∃ g, gk = g + 1 := ⟨gk - 1, by omega⟩
          have e1 : decide (i < b.size) = true := decide_eq_true hlt
          have hd : (bytesI b).drop i = ((b[i]'hlt).toNat : Int) :: (bytesI b).drop (i + 1) := by
            have hl : i < (bytesI b).length := by simpa [bytesI] using hlt
            rw [List.drop_eq_getElem_cons hl]
            congr 1
            simp [bytesI]; rfl
          rw [hd, List.all_cons] at hV
          unfold digI at hV
          have HB : Hid _ := hB0
          cases hc1 : decide (((b[i]'hlt).toNat : Int) < 48) with
          | true =>
            rw [hc1] at hV
            have hV2 : false = R := by rw [← hV]; simp
            subst hV2
            clear hV hd hB0
            go_wp2_with fail
            go_ret
            exact ⟨rfl, HB.out⟩
          | false =>
            cases hc2 : decide (57 < ((b[i]'hlt).toNat : Int)) with
            | true =>
              rw [hc1, hc2] at hV
              have hV2 : false = R := by rw [← hV]; simp
              subst hV2
              clear hV hd hB0
              go_wp2_with fail
              go_ret
              exact ⟨rfl, HB.out⟩
            | false =>
              rw [hc1, hc2] at hV
              have HV : Hid (((!(b.toList == [])) && ((bytesI b).drop (i + 1)).all digI) = R) := by rw [← hV]; rfl
              clear hV hd hB0
              go_wp2_with fail
              go_roundg g
              case measure => omega
              case rel => exact ⟨i + 1, by go_num, by omega, HB.out, HV.out⟩
        · have e1 : decide (i < b.size) = false := decide_eq_false hlt
          have hnil : (bytesI b).drop i = [] := List.drop_eq_nil_of_le (by simpa [bytesI] using Nat.le_of_not_lt hlt)
          rw [hnil] at hV
          have hV2 : (!(b.toList == [])) = R := by rw [← hV]; simp
          have HB : Hid _ := hB0
          have hge : b.size ≤ i := by omega
          subst hV2
          clear hnil hV hlt hB0
          go_wp2_with fail
          go_ret
          exact ⟨by first | rfl | simp, HB.out⟩
  · have e1 : decide (1 < s.size) = false := decide_eq_false h1
    rw [e1] at hb
    simp only [Bool.false_and, Bool.false_eq_true, if_false] at hb
    subst hb
    go_enter Tryz.func157, Tryz.ntmps157
    go_upto_region 3 with fail
    clear e1 h1
    have start : Hid (DgRel w b R b.size (.int .i64 ((0 : Nat) : Int)) w) := ⟨0, rfl, rfl, Below.refl _ _, hR.symm⟩
    clear hR
    go_wp2_with fail
    go_loopg [3] b.size (fun k x3 wr => DgRel w b R k x3 wr)
    case atStart => exact start.out
    case round =>
      clear start
      obtain ⟨i, rfl, hki, hB0, hV⟩ := hrel
      by_cases hlt : i < b.size
      · obtain ⟨g, rfl⟩ : ∃ g, gk = g + 1 := ⟨gk - 1, by omega⟩
        have e1 : decide (i < b.size) = true := decide_eq_true hlt
        have hd : (bytesI b).drop i = ((b[i]'hlt).toNat : Int) :: (bytesI b).drop (i + 1) := by
          have hl : i < (bytesI b).length := by simpa [bytesI] using hlt
          rw [List.drop_eq_getElem_cons hl]
          congr 1
          simp [bytesI]; rfl
        rw [hd, List.all_cons] at hV
        unfold digI at hV
        have HB : Hid _ := hB0
        cases hc1 : decide (((b[i]'hlt).toNat : Int) < 48) with
        | true =>
          rw [hc1] at hV
          have hV2 : false = R := by rw [← hV]; simp
          subst hV2
          clear hV hd hB0
          go_wp2_with fail
          go_ret
          exact ⟨rfl, HB.out⟩
        | false =>
          cases hc2 : decide (57 < ((b[i]'hlt).toNat : Int)) with
          | true =>
            rw [hc1, hc2] at hV
            have hV2 : false = R := by rw [← hV]; simp
            subst hV2
            clear hV hd hB0
            go_wp2_with fail
            go_ret
            exact ⟨rfl, HB.out⟩
          | false =>
            rw [hc1, hc2] at hV
            have HV : Hid (((!(b.toList == [])) && ((bytesI b).drop (i + 1)).all digI) = R) := by rw [← hV]; rfl
            clear hV hd hB0
            go_wp2_with fail
            go_roundg g
            case measure => omega
            case rel => exact ⟨i + 1, by go_num, by omega, HB.out, HV.out⟩
      · have e1 : decide (i < b.size) = false := decide_eq_false hlt
        have hnil : (bytesI b).drop i = [] := List.drop_eq_nil_of_le (by simpa [bytesI] using Nat.le_of_not_lt hlt)
        rw [hnil] at hV
        have hV2 : (!(b.toList == [])) = R := by rw [← hV]; simp
        have HB : Hid _ := hB0
        have hge : b.size ≤ i := by omega
        subst hV2
        clear hnil hV hlt hB0
        go_wp2_with fail
        go_ret
        exact ⟨by first | rfl | simp, HB.out⟩

end Go.Proofs.YtcjmplpfebpfpaaGreatDoor

namespace Go.Proofs.YtcjmplpfebpfpaaGreatDoor
open Go.RowKit Go.Proofs Go.Proofs.YtcjmplpfebpfpaaGreatDoorW.PrintWords Go.Proofs.YtcjmplpfebpfpaaGreatDoorW.PrintLast Go.Proofs.YtcjmplpfebpfpaaGreatDoorW.PrintMore PKindInstances
set_option linter.unusedVariables false
set_option linter.unusedSimpArgs false

theorem visible_f : ∀ n : Fin 256, plinthref01_visible.f ((n.val : Nat) : Int) = some (!outM ((n.val : Nat) : Int)) := by
  have h : (List.range 256).all (fun n => plinthref01_visible.f ((n : Nat) : Int) == some (!outM ((n : Nat) : Int))) = true := by kernel_rfl
  intro n
  have := List.all_eq_true.1 h n.val (List.mem_range.2 n.isLt)
  exact eq_of_beq this
theorem visible_any (c : UInt8) (w : World) : Calls Tryz.prog 156 #[.int .u8 (c.toNat : Int)] w fun e w' => e = .returned (.bool (!outM (c.toNat : Int))) ∧ Below w.heap.size w w' := by
  refine (plinthref01_visible.calls _ _ w (visible_f ⟨c.toNat, c.toNat_lt⟩)).mono ?_
  rintro e w' ⟨rfl, m, rfl⟩
  exact ⟨rfl, pw_below_drewN (Below.refl _ _) _⟩

def wordR (s : ByteArray) : Bool := ((bytesI s).all fun c => !outM c) && (decide (1 ≤ s.size) && decide (s.size ≤ 30) && !digsM (unsigned s))
/-- What holds of the loop. -/
def IwRel (W0 : World) (b : ByteArray) (R : Bool) (k : Nat) (x3 : Value) (wr : World) : Prop :=
  ∃ (i : Nat), x3 = .int .i64 (i : Int) ∧ k + i = b.size ∧ Below W0.heap.size W0 wr ∧ (((bytesI b).drop i).all (fun c => !outM c) && (decide (1 ≤ b.size) && decide (b.size ≤ 30) && !digsM (unsigned b))) = R

set_option maxRecDepth 100000 in
set_option maxHeartbeats 4000000 in
theorem IsWord_any (b : ByteArray) (w : World) (hz : b.size < 9000000) : Calls Tryz.prog 138 #[.string b] w fun e w' => e = .returned (.bool (wordR b)) ∧ Below w.heap.size w w' := by
  obtain ⟨R, hR⟩ : ∃ R, R = wordR b := ⟨_, rfl⟩
  rw [← hR]
  have start : Hid (IwRel w b R b.size (.int .i64 ((0 : Nat) : Int)) w) := ⟨0, rfl, rfl, Below.refl _ _, hR.symm⟩
  have DG : Hid _ := fun w1 => Digits_any b w1 hz
  obtain ⟨dg, hdg⟩ : ∃ dg, dg = digsM (unsigned b) := ⟨_, rfl⟩
  rw [← hdg] at DG
  clear hR
  go_enter Tryz.func138, Tryz.ntmps138
  go_wp2_with fail
  go_loopg [3] b.size (fun k x3 wr => IwRel w b R k x3 wr)
  case atStart => exact start.out
  case round =>
    clear start
    obtain ⟨i, rfl, hki, hB0, hV⟩ := hrel
    rw [← hdg] at hV
    by_cases hlt : i < b.size
    · obtain ⟨g, rfl⟩ : ∃ g, gk = g + 1 := ⟨gk - 1, by omega⟩
      have e1 : decide (i < b.size) = true := decide_eq_true hlt
      have hd : (bytesI b).drop i = ((b[i]'hlt).toNat : Int) :: (bytesI b).drop (i + 1) := by
        have hl : i < (bytesI b).length := by simpa [bytesI] using hlt
        rw [List.drop_eq_getElem_cons hl]
        congr 1
        simp [bytesI]; rfl
      rw [hd, List.all_cons] at hV
      have HB : Hid _ := hB0
      have HV : Hid _ := hV
      clear hd hV hB0
      go_wp2_with fail
      refine (visible_any _ _).mono ?_
      rintro e w2 ⟨rfl, B2⟩
      have HB2 : Hid _ := below_after HB.out B2
      clear B2
      have hV := HV.out
      clear HV
      obtain ⟨o, ho⟩ : ∃ o, o = outM ((b[i]'hlt).toNat : Int) := ⟨_, rfl⟩
      rw [← ho] at hV ⊢
      clear ho
      cases o with
      | true =>
        have hV2 : false = R := by rw [← hV]; simp
        subst hV2
        clear hV
        go_wp2_with fail
        go_ret
        exact ⟨rfl, HB2.out⟩
      | false =>
        rw [hdg] at hV
        have HV : Hid _ := hV
        clear hV
        go_wp2_with fail
        go_roundg g
        case measure => omega
        case rel => exact ⟨i + 1, by go_num, by omega, HB2.out, HV.out⟩
    · have e1 : decide (i < b.size) = false := decide_eq_false hlt
      have hnil : (bytesI b).drop i = [] := List.drop_eq_nil_of_le (by simpa [bytesI] using Nat.le_of_not_lt hlt)
      rw [hnil] at hV
      have hV2 : (decide (1 ≤ b.size) && decide (b.size ≤ 30) && !dg) = R := by rw [← hV]; simp
      have HB : Hid _ := hB0
      have hge : b.size ≤ i := by omega
      subst hV2
      clear hnil hV hlt hB0 hdg
      cases h1 : decide (1 ≤ b.size) with
      | false =>
        have i1 : decide (1 ≤ (b.size : Int)) = false := decide_eq_false (by have := of_decide_eq_false h1; omega)
        have i2 : decide ((b.size : Int) < 1) = true := decide_eq_true (by have := of_decide_eq_false h1; omega)
        have i3 : (b.size : Int) < 1 := of_decide_eq_true i2
        go_wp2_with fail
        go_ret
        exact ⟨by first | rfl | simp [h1], HB.out⟩
      | true =>
        have i1 : decide (1 ≤ (b.size : Int)) = true := decide_eq_true (by have := of_decide_eq_true h1; omega)
        have i2 : decide ((b.size : Int) < 1) = false := decide_eq_false (by have := of_decide_eq_true h1; omega)
        have i3 : ¬ (b.size : Int) < 1 := of_decide_eq_false i2
        cases h2 : decide (b.size ≤ 30) with
        | false =>
          have j1 : decide ((b.size : Int) ≤ 30) = false := decide_eq_false (by have := of_decide_eq_false h2; omega)
          have j3 : 30 < (b.size : Int) := by have := of_decide_eq_false h2; omega
          go_wp2_with fail
          go_ret
          exact ⟨by first | rfl | simp [h1, h2], HB.out⟩
        | true =>
          have j1 : decide ((b.size : Int) ≤ 30) = true := decide_eq_true (by have := of_decide_eq_true h2; omega)
          have j3 : (b.size : Int) ≤ 30 := by have := of_decide_eq_true h2; omega
          have j4 : ¬ 30 < (b.size : Int) := by omega
          go_wp2_with fail
          refine (DG.out _).mono ?_
          rintro e w2 ⟨rfl, B2⟩
          have HB2 : Hid _ := below_after HB.out B2
          clear B2
          go_wp2_with fail
          go_ret
          exact ⟨by first | rfl | simp [h1, h2], HB2.out⟩

end Go.Proofs.YtcjmplpfebpfpaaGreatDoor

namespace Go.Proofs.YtcjmplpfebpfpaaGreatDoor
open Go.RowKit Go.Proofs Go.Proofs.YtcjmplpfebpfpaaGreatDoorW.PrintWords Go.Proofs.YtcjmplpfebpfpaaGreatDoorW.PrintLast Go.Proofs.YtcjmplpfebpfpaaGreatDoorW.PrintMore PKindInstances
set_option linter.unusedVariables false
set_option linter.unusedSimpArgs false

theorem text_f : ∀ (s : ByteArray) (i k : Nat), s.size < 9000000 → i ≤ s.size → s.size < k + i → plinthref01_IsText.l0 k s (i : Int) = some (decide ((s.size : Int) ≤ 2000) && ((bytesI s).drop i).all fun c => c == 10 || (decide (32 ≤ c) && decide (c ≤ 126)))
  | s, i, 0, h1, h2, h3 => by omega
  | s, i, k + 1, h1, h2, h3 => by
    by_cases hlt : i < s.size
    · have hd : (bytesI s).drop i = ((s[i]'hlt).toNat : Int) :: (bytesI s).drop (i + 1) := by
        have hl : i < (bytesI s).length := by simpa [bytesI] using hlt
        rw [List.drop_eq_getElem_cons hl]
        congr 1
        simp [bytesI]; rfl
      have hw : wrap64 ((i : Int) + 1) = ((i + 1 : Nat) : Int) := by unfold wrap64; omega
      have hb : bt s (i : Int) = ((s[i]'hlt).toNat : Int) := by
        unfold bt
        simp [hlt]
      have ih := text_f s (i + 1) k h1 (by omega) (by omega)
      simp only [plinthref01_IsText.l0]
      rw [if_pos (by omega), if_pos (by omega), hw, ih, hd, List.all_cons, hb]
      generalize ((s[i]'hlt).toNat : Int) = c
      by_cases c1 : c = 10
      · simp [c1]
      · by_cases c2 : c < 32
        · have : ¬ 32 ≤ c := by omega
          simp [c1, c2, this]
        · by_cases c3 : 126 < c
          · have : ¬ c ≤ 126 := by omega
            simp [c1, c2, c3, this]
          · have : 32 ≤ c := by omega
            have : c ≤ 126 := by omega
            have c3' : ¬ c > 126 := c3
            simp [c1, c2, c3', *]
    · have hnil : (bytesI s).drop i = [] := List.drop_eq_nil_of_le (by simpa [bytesI] using Nat.le_of_not_lt hlt)
      simp only [plinthref01_IsText.l0]
      rw [if_neg (by omega), hnil]
      simp
theorem IsText_any (s : ByteArray) (w : World) (hz : s.size < 9000000) : Calls Tryz.prog 139 #[.string s] w fun e w' => e = .returned (.bool (textM s)) ∧ Below w.heap.size w w' := by
  refine (plinthref01_IsText.calls (s.size + 1) s (textM s) w (by unfold plinthref01_IsText.f textM; rw [show (0 : Int) = ((0 : Nat) : Int) from rfl, text_f s 0 _ hz (by omega) (by omega), List.drop_zero, show decide ((s.size : Int) ≤ 2000) = decide (s.size ≤ 2000) from by congr 1; exact propext (by omega)])).mono ?_
  rintro e w' ⟨rfl, m, rfl⟩
  exact ⟨rfl, pw_below_drewN (Below.refl _ _) _⟩

/-- A form's own fields, the document's way. -/
def leafR (x : S24) : Bool :=
  if x.f0 = 0 then (x.f2.toList == []) && ((x.f3.length : Int) == 0) && (decide (-1152921504606846976 ≤ x.f1) && decide (x.f1 ≤ 1152921504606846976)) else
  if x.f0 = 1 then wordR x.f2 && (x.f1 == 0) && ((x.f3.length : Int) == 0) else
  if x.f0 = 2 then textM x.f2 && (x.f1 == 0) && ((x.f3.length : Int) == 0) else
  if x.f0 = 3 then (x.f2.toList == []) && (x.f1 == 0) else false
mutual
def fieldsM : S24 → Bool
  | ⟨a, b, s, l⟩ => leafR ⟨a, b, s, l⟩ && fieldsL l
def fieldsL : List S24 → Bool
  | [] => true
  | x :: l => fieldsM x && fieldsL l
end
def FieldsOk (x : S24) : Prop :=
  ∀ (A : Option Addr) (c : Nat) (w : World), Kd.C k24 w A x.f3.length x.f3 → x.f3.length ≤ c → wid x < 9000000 →
    Calls Tryz.prog 99 #[formV x.f0 x.f1 x.f2 A x.f3.length c] w fun e w' => e = .returned (.bool (fieldsM x)) ∧ Below w.heap.size w w'

set_option maxRecDepth 100000 in
set_option maxHeartbeats 4000000 in
theorem fields_num (n : Int) (s : ByteArray) (l : List S24) (A : Option Addr) (c : Nat) (w : World) :
    Calls Tryz.prog 99 #[formV 0 n s A l.length c] w fun e w' => e = .returned (.bool ((s.toList == []) && ((l.length : Int) == 0) && (decide (-1152921504606846976 ≤ n) && decide (n ≤ 1152921504606846976)))) ∧ Below w.heap.size w w' := by
  have hu24 := Tryz.underlying24
  generalize l.length = m
  by_cases hm : 0 < m
  · have e1 : decide (0 < m) = true := decide_eq_true hm
    have e2 : ((m : Int) == 0) = false := beq_eq_false_iff_ne.mpr (by omega)
    rw [e2]
    simp only [Bool.and_false, Bool.false_and]
    clear hm
    go_enter Tryz.func99, Tryz.ntmps99
    go_wp2_with fail
    go_ret
    exact ⟨rfl, (by (repeat (first | assumption | exact Below.refl _ _ | apply below_alloc | apply pw_below_drewN | apply below_drew1)))⟩
  · obtain rfl : m = 0 := by omega
    cases hs : (s.toList == []) with
    | false =>
      simp only [Bool.false_and]
      go_enter Tryz.func99, Tryz.ntmps99
      go_wp2_with fail
      go_ret
      exact ⟨rfl, (by (repeat (first | assumption | exact Below.refl _ _ | apply below_alloc | apply pw_below_drewN | apply below_drew1)))⟩
    | true =>
      cases h1 : decide (-1152921504606846976 ≤ n) with
      | false =>
        simp only [Bool.false_and, Bool.and_false]
        have i1 : ¬ -1152921504606846976 ≤ n := of_decide_eq_false h1
        have i2 : n < -1152921504606846976 := by omega
        go_enter Tryz.func99, Tryz.ntmps99
        go_wp2_with fail
        go_ret
        exact ⟨rfl, (by (repeat (first | assumption | exact Below.refl _ _ | apply below_alloc | apply pw_below_drewN | apply below_drew1)))⟩
      | true =>
        have i1 : -1152921504606846976 ≤ n := of_decide_eq_true h1
        have i2 : ¬ n < -1152921504606846976 := by omega
        go_enter Tryz.func99, Tryz.ntmps99
        go_wp2_with fail
        go_ret
        exact ⟨by simp, (by (repeat (first | assumption | exact Below.refl _ _ | apply below_alloc | apply pw_below_drewN | apply below_drew1)))⟩

set_option maxRecDepth 100000 in
set_option maxHeartbeats 4000000 in
theorem fields_word (n : Int) (s : ByteArray) (l : List S24) (A : Option Addr) (c : Nat) (w : World) (hz : s.size < 9000000) :
    Calls Tryz.prog 99 #[formV 1 n s A l.length c] w fun e w' => e = .returned (.bool (wordR s && (n == 0) && ((l.length : Int) == 0))) ∧ Below w.heap.size w w' := by
  have hu24 := Tryz.underlying24
  generalize l.length = m
  cases hn : (n == 0) with
  | false =>
    simp only [Bool.false_and, Bool.and_false]
    have n1 : (n != 0) = true := bne_iff_ne.mpr (beq_eq_false_iff_ne.mp hn)
    go_enter Tryz.func99, Tryz.ntmps99
    go_wp2_with fail
    go_ret
    exact ⟨rfl, (by (repeat (first | assumption | exact Below.refl _ _ | apply below_alloc | apply pw_below_drewN | apply below_drew1)))⟩
  | true =>
    obtain rfl : n = 0 := eq_of_beq hn
    by_cases hm : 0 < m
    · have e1 : decide (0 < m) = true := decide_eq_true hm
      have e2 : ((m : Int) == 0) = false := beq_eq_false_iff_ne.mpr (by omega)
      rw [e2]
      simp only [Bool.and_false, Bool.false_and]
      clear hm hn
      go_enter Tryz.func99, Tryz.ntmps99
      go_wp2_with fail
      go_ret
      exact ⟨rfl, (by (repeat (first | assumption | exact Below.refl _ _ | apply below_alloc | apply pw_below_drewN | apply below_drew1)))⟩
    · obtain rfl : m = 0 := by omega
      have IW : Hid _ := fun w1 => IsWord_any s w1 hz
      clear hm hn
      go_enter Tryz.func99, Tryz.ntmps99
      go_wp2_with fail
      refine (IW.out _).mono ?_
      rintro e w2 ⟨rfl, B2'⟩
      have B2 : Below w.heap.size w w2 := below_after (by (repeat (first | assumption | exact Below.refl _ _ | apply below_alloc | apply pw_below_drewN | apply below_drew1))) B2'
      clear B2'
      go_wp2_with fail
      go_ret
      exact ⟨by simp, B2⟩

set_option maxRecDepth 100000 in
set_option maxHeartbeats 4000000 in
theorem fields_text (n : Int) (s : ByteArray) (l : List S24) (A : Option Addr) (c : Nat) (w : World) (hz : s.size < 9000000) :
    Calls Tryz.prog 99 #[formV 2 n s A l.length c] w fun e w' => e = .returned (.bool (textM s && (n == 0) && ((l.length : Int) == 0))) ∧ Below w.heap.size w w' := by
  have hu24 := Tryz.underlying24
  generalize l.length = m
  cases hn : (n == 0) with
  | false =>
    simp only [Bool.false_and, Bool.and_false]
    have n1 : (n != 0) = true := bne_iff_ne.mpr (beq_eq_false_iff_ne.mp hn)
    go_enter Tryz.func99, Tryz.ntmps99
    go_wp2_with fail
    go_ret
    exact ⟨rfl, (by (repeat (first | assumption | exact Below.refl _ _ | apply below_alloc | apply pw_below_drewN | apply below_drew1)))⟩
  | true =>
    obtain rfl : n = 0 := eq_of_beq hn
    by_cases hm : 0 < m
    · have e1 : decide (0 < m) = true := decide_eq_true hm
      have e2 : ((m : Int) == 0) = false := beq_eq_false_iff_ne.mpr (by omega)
      rw [e2]
      simp only [Bool.and_false, Bool.false_and]
      clear hm hn
      go_enter Tryz.func99, Tryz.ntmps99
      go_wp2_with fail
      go_ret
      exact ⟨rfl, (by (repeat (first | assumption | exact Below.refl _ _ | apply below_alloc | apply pw_below_drewN | apply below_drew1)))⟩
    · obtain rfl : m = 0 := by omega
      have IW : Hid _ := fun w1 => IsText_any s w1 hz
      clear hm hn
      go_enter Tryz.func99, Tryz.ntmps99
      go_wp2_with fail
      refine (IW.out _).mono ?_
      rintro e w2 ⟨rfl, B2'⟩
      have B2 : Below w.heap.size w w2 := below_after (by (repeat (first | assumption | exact Below.refl _ _ | apply below_alloc | apply pw_below_drewN | apply below_drew1))) B2'
      clear B2'
      go_wp2_with fail
      go_ret
      exact ⟨by simp, B2⟩

set_option maxRecDepth 100000 in
set_option maxHeartbeats 4000000 in
theorem fields_none (a n : Int) (s : ByteArray) (l : List S24) (A : Option Addr) (c : Nat) (w : World) (h0 : a ≠ 0) (h1 : a ≠ 1) (h2 : a ≠ 2) (h3 : a ≠ 3) :
    Calls Tryz.prog 99 #[formV a n s A l.length c] w fun e w' => e = .returned (.bool false) ∧ Below w.heap.size w w' := by
  have hu24 := Tryz.underlying24
  generalize l.length = m
  have a0 : (a != 0) = true := bne_iff_ne.mpr h0
  have a1 : (a != 1) = true := bne_iff_ne.mpr h1
  have a2 : (a != 2) = true := bne_iff_ne.mpr h2
  have a3 : (a != 3) = true := bne_iff_ne.mpr h3
  have b0 : (a == 0) = false := beq_eq_false_iff_ne.mpr h0
  have b1 : (a == 1) = false := beq_eq_false_iff_ne.mpr h1
  have b2 : (a == 2) = false := beq_eq_false_iff_ne.mpr h2
  have b3 : (a == 3) = false := beq_eq_false_iff_ne.mpr h3
  clear h0 h1 h2 h3
  cases hn : (n == 0) with
  | false =>
    have n1 : (n != 0) = true := bne_iff_ne.mpr (beq_eq_false_iff_ne.mp hn)
    go_enter Tryz.func99, Tryz.ntmps99
    go_wp2_with fail
    go_ret
    exact ⟨rfl, (by (repeat (first | assumption | exact Below.refl _ _ | apply below_alloc | apply pw_below_drewN | apply below_drew1)))⟩
  | true =>
    obtain rfl : n = 0 := eq_of_beq hn
    by_cases hm : 0 < m
    · have e1 : decide (0 < m) = true := decide_eq_true hm
      clear hm hn
      go_enter Tryz.func99, Tryz.ntmps99
      go_wp2_with fail
      go_ret
      exact ⟨rfl, (by (repeat (first | assumption | exact Below.refl _ _ | apply below_alloc | apply pw_below_drewN | apply below_drew1)))⟩
    · obtain rfl : m = 0 := by omega
      clear hm hn
      cases hs : (s.toList == []) with
      | false =>
        go_enter Tryz.func99, Tryz.ntmps99
        go_wp2_with fail
        go_ret
        exact ⟨rfl, (by (repeat (first | assumption | exact Below.refl _ _ | apply below_alloc | apply pw_below_drewN | apply below_drew1)))⟩
      | true =>
        go_enter Tryz.func99, Tryz.ntmps99
        go_wp2_with fail
        go_ret
        exact ⟨rfl, (by (repeat (first | assumption | exact Below.refl _ _ | apply below_alloc | apply pw_below_drewN | apply below_drew1)))⟩

/-- What holds of the loop. -/
def FiRel (W0 : World) (l : List S24) (R : Bool) (k : Nat) (x3 : Value) (wr : World) : Prop :=
  ∃ (i : Nat), x3 = .int .i64 (i : Int) ∧ k + i = l.length ∧ Below W0.heap.size W0 wr ∧ fieldsL (l.drop i) = R

set_option maxRecDepth 100000 in
set_option maxHeartbeats 8000000 in
theorem fields_list (n : Int) (s : ByteArray) (l : List S24) (A : Option Addr) (c : Nat) (w : World) (hr : Kd.C k24 w A l.length l) (hc : l.length ≤ c) (hz : wids l < 9000000) (hq : ∀ x ∈ l, FieldsOk x) :
    Calls Tryz.prog 99 #[formV 3 n s A l.length c] w fun e w' => e = .returned (.bool ((s.toList == []) && (n == 0) && fieldsL l)) ∧ Below w.heap.size w w' := by
  have hu24 := Tryz.underlying24
  have h1 := wids_len l
  cases hn : (n == 0) with
  | false =>
    simp only [Bool.false_and, Bool.and_false]
    have n1 : (n != 0) = true := bne_iff_ne.mpr (beq_eq_false_iff_ne.mp hn)
    clear hr hc hz hq h1
    go_enter Tryz.func99, Tryz.ntmps99
    go_wp2_with fail
    go_ret
    exact ⟨rfl, (by (repeat (first | assumption | exact Below.refl _ _ | apply below_alloc | apply pw_below_drewN | apply below_drew1)))⟩
  | true =>
    obtain rfl : n = 0 := eq_of_beq hn
    cases hs : (s.toList == []) with
    | false =>
      simp only [Bool.false_and, Bool.and_false]
      clear hr hc hz hq h1 hn
      go_enter Tryz.func99, Tryz.ntmps99
      go_wp2_with fail
      go_ret
      exact ⟨rfl, (by (repeat (first | assumption | exact Below.refl _ _ | apply below_alloc | apply pw_below_drewN | apply below_drew1)))⟩
    | true =>
      simp only [Bool.true_and]
      obtain ⟨R, hR⟩ : ∃ R, R = fieldsL l := ⟨_, rfl⟩
      rw [← hR]
      have xb : Below w.heap.size w (w.alloc (Obj.cells #[.int .i64 3, .int .i64 0, .string s, .slice A l.length c] 24)) := below_alloc (Below.refl _ _) _
      have x1 : (w.alloc (Obj.cells #[.int .i64 3, .int .i64 0, .string s, .slice A l.length c] 24)).heap[w.heap.size]? = some (Obj.cells #[.int .i64 3, .int .i64 0, .string s, .slice A l.length c] 24) := (MapKept.heap_alloc w _).1
      have XB : Hid _ := xb
      have HA : Hid _ := Kd.C_below hr xb
      have HQ : Hid _ := hq
      clear xb hr hq hn
      go_enter Tryz.func99, Tryz.ntmps99
      go_upto_region 1 with fail
      generalize w.alloc (Obj.cells #[.int .i64 3, .int .i64 0, .string s, .slice A l.length c] 24) = X at *
      obtain ⟨p0, p1, p2, p3⟩ := cells4 x1
      have start : Hid (FiRel X l R l.length (.int .i64 ((0 : Nat) : Int)) X) := ⟨0, rfl, rfl, Below.refl _ _, hR.symm⟩
      generalize hbA : w.heap.size = bA at *
      clear x1 hR
      go_wp2_with fail
      go_loopg [3] l.length (fun k x3 wr => FiRel X l R k x3 wr)
      case atStart => exact start.out
      case round =>
        clear start
        obtain ⟨i, rfl, hki, hB0, hV⟩ := hrel
        replace p0 := pw_cell_below hB0 p0
        replace p1 := pw_cell_below hB0 p1
        replace p2 := pw_cell_below hB0 p2
        replace p3 := pw_cell_below hB0 p3
        by_cases hlt : i < l.length
        · obtain ⟨g, rfl⟩ : ∃ g, gk = g + 1 := ⟨gk - 1, by omega⟩
          have e1 : decide (i < l.length) = true := decide_eq_true hlt
          obtain ⟨x, hx⟩ : ∃ x, l[i]? = some x := ⟨l[i]'(by omega), List.getElem?_eq_getElem _⟩
          obtain ⟨ad, A5, c5, rfl, g0, g1, g2, g3, g4, g5⟩ := row_at (Kd.C_below HA.out hB0) (by omega) hx
          rw [drop_at3 hx] at hV
          simp only [fieldsL] at hV
          have MQ : Hid (∀ wq, Below wr.heap.size wr wq → _) := fun wq hwq => HQ.out x (List.mem_of_getElem? hx) A5 c5 wq (Kd.C_below g5 hwq) g4 (by have := wid_mem (List.mem_of_getElem? hx); omega)
          clear hx g5
          obtain ⟨x0, x1, x2, x3⟩ := x
          obtain ⟨q, hq⟩ : ∃ q, q = fieldsM ⟨x0, x1, x2, x3⟩ := ⟨_, rfl⟩
          rw [← hq] at MQ hV
          have HBL : Hid _ := hB0
          have HV : Hid _ := hV
          clear hq hB0 hV
          go_wp2_with fail
          refine Calls.mono (MQ.out _ (by first | exact Below.refl _ _ | exact below_drew (Below.refl _ _) | (repeat (first | assumption | exact Below.refl _ _ | apply below_alloc | apply pw_below_drewN | apply below_drew1)))) ?_
          rintro e w6 ⟨rfl, B6'⟩
          have B6 : Hid (Below wr.heap.size wr w6) := below_after (by first | exact Below.refl _ _ | exact below_drew (Below.refl _ _) | (repeat (first | assumption | exact Below.refl _ _ | apply below_alloc | apply pw_below_drewN | apply below_drew1))) B6'
          clear B6'
          have hV := HV.out
          clear HV
          replace p0 := pw_cell_below B6.out p0
          replace p1 := pw_cell_below B6.out p1
          replace p2 := pw_cell_below B6.out p2
          replace p3 := pw_cell_below B6.out p3
          cases q with
          | false =>
            have hV2 : false = R := hV
            subst hV2
            clear hV
            go_wp2_with fail
            go_ret
            exact ⟨rfl, by subst hbA; exact below_after XB.out (below_after HBL.out B6.out)⟩
          | true =>
            have HV9 : Hid (fieldsL (List.drop (i + 1) l) = R) := hV
            clear hV
            go_wp2_with fail
            go_roundg g
            case measure => omega
            case rel => exact ⟨i + 1, by go_num, by omega, below_after HBL.out B6.out, HV9.out⟩
        · have e1 : decide (i < l.length) = false := decide_eq_false hlt
          have e3 : l.drop i = [] := List.drop_eq_nil_of_le (by omega)
          rw [e3] at hV
          simp only [fieldsL] at hV
          subst hV
          have BW : Hid _ := hB0
          have hge : l.length ≤ i := by omega
          clear hB0 e3
          go_wp2_with fail
          go_ret
          exact ⟨rfl, by subst hbA; exact below_after XB.out BW.out⟩

mutual
theorem fields_ok : ∀ x : S24, FieldsOk x
  | ⟨a, n, s, l⟩ => by
    have hl := fields_oks l
    intro A c w hr hc hz
    have k1 := wid_kids ⟨a, n, s, l⟩
    have hsz : s.size < 9000000 := by simp only [wid] at hz; omega
    simp only [] at k1
    simp only [fieldsM, leafR]
    have hflat : ∀ b : Bool, (b && ((l.length : Int) == 0) && fieldsL l) = (b && ((l.length : Int) == 0)) := by
      intro b
      cases l with
      | nil => simp [fieldsL]
      | cons x l => 
        have : (((x :: l).length : Int) == 0) = false := beq_eq_false_iff_ne.mpr (by simp only [List.length_cons]; omega)
        rw [this]; simp
    by_cases h0 : a = 0
    · subst h0
      rw [if_pos rfl]
      have e : ((s.toList == []) && ((l.length : Int) == 0) && (decide (-1152921504606846976 ≤ n) && decide (n ≤ 1152921504606846976)) && fieldsL l) = ((s.toList == []) && ((l.length : Int) == 0) && (decide (-1152921504606846976 ≤ n) && decide (n ≤ 1152921504606846976))) := by
        have := hflat (s.toList == [])
        rw [Bool.and_assoc, Bool.and_comm (decide _ && decide _), ← Bool.and_assoc, this]
      rw [e]
      exact fields_num n s l A c w
    · rw [if_neg h0]
      by_cases h1 : a = 1
      · subst h1
        rw [if_pos rfl, hflat]
        exact fields_word n s l A c w hsz
      · rw [if_neg h1]
        by_cases h2 : a = 2
        · subst h2
          rw [if_pos rfl, hflat]
          exact fields_text n s l A c w hsz
        · rw [if_neg h2]
          by_cases h3 : a = 3
          · subst h3
            rw [if_pos rfl]
            exact fields_list n s l A c w hr hc (by omega) hl
          · rw [if_neg h3]
            exact fields_none a n s l A c w h0 h1 h2 h3
theorem fields_oks : ∀ (l : List S24), ∀ x ∈ l, FieldsOk x
  | [], x, h => absurd h (List.not_mem_nil)
  | y :: l, x, h => by
    rcases List.mem_cons.1 h with h | h
    · rw [h]; exact fields_ok y
    · exact fields_oks l x h
end

end Go.Proofs.YtcjmplpfebpfpaaGreatDoor

namespace Go.Proofs.YtcjmplpfebpfpaaGreatDoor
open Go.RowKit Go.Proofs Go.Proofs.YtcjmplpfebpfpaaGreatDoorW.PrintWords Go.Proofs.YtcjmplpfebpfpaaGreatDoorW.PrintLast Go.Proofs.YtcjmplpfebpfpaaGreatDoorW.PrintMore PKindInstances
set_option linter.unusedVariables false
set_option linter.unusedSimpArgs false

theorem row_take {α : Type} {d : Kd α} {w : World} {A : Option Addr} {l : List α} (h : Kd.C d w A l.length l) (i : Nat) (hi : i ≤ l.length) : Kd.C d w A i (l.take i) := by
  obtain ⟨h1, h2, h3⟩ := h
  refine ⟨by simp [Nat.min_eq_left hi], by omega, fun hn => ?_⟩
  obtain ⟨ad, e, h4⟩ := h3 (by omega)
  refine ⟨ad, e, fun j p hj => h4 j p ?_⟩
  rw [List.getElem?_take] at hj
  split at hj
  · exact hj
  · cases hj
theorem RHas_any (l : List ByteArray) (a : ByteArray) (A : Option Addr) (c : Nat) (w : World) (hr : Kd.C Kd.string w A l.length l) (hc : l.length ≤ c) (hl : l.length < 9000000) :
    Calls Tryz.prog 102 #[.slice A l.length c, .string a] w fun e w' => e = .returned (.bool (decide (a ∈ l))) ∧ Below w.heap.size w w' := by
  obtain ⟨k, hk⟩ := has_ev l a (by omega)
  refine (plinthref03_Has.calls k A c l a _ w hr hc (hk k (Nat.le_refl _))).mono ?_
  rintro e w' ⟨rfl, m, rfl⟩
  exact ⟨rfl, pw_below_drewN (Below.refl _ _) _⟩
theorem RReserved_any (s : ByteArray) (w : World) : Calls Tryz.prog 62 #[.string s] w fun e w' => e = .returned (.bool (resM s)) ∧ Below w.heap.size w w' := by
  obtain ⟨k, hk⟩ := reserved_ev s
  exact plinthref03_Reserved.calls k s _ w (hk k (Nat.le_refl _))

def isNameR (s : ByteArray) : Bool := wordR s && !resM s
set_option maxRecDepth 100000 in
theorem RisName_any (s : ByteArray) (w : World) (hz : s.size < 9000000) : Calls Tryz.prog 101 #[.string s] w fun e w' => e = .returned (.bool (isNameR s)) ∧ Below w.heap.size w w' := by
  have IW : Hid _ := fun w1 => IsWord_any s w1 hz
  unfold isNameR
  cases hq : wordR s with
  | false =>
    rw [hq] at IW
    go_enter Tryz.func101, Tryz.ntmps101
    go_wp2_with fail
    refine (IW.out _).mono ?_
    rintro e w2 ⟨rfl, B2⟩
    go_wp2_with fail
    go_ret
    exact ⟨rfl, B2⟩
  | true =>
    rw [hq] at IW
    obtain ⟨r, hr⟩ : ∃ r, r = resM s := ⟨_, rfl⟩
    have IR : Hid _ := fun w1 => RReserved_any s w1
    rw [← hr] at IR ⊢
    clear hr
    go_enter Tryz.func101, Tryz.ntmps101
    go_wp2_with fail
    refine (IW.out _).mono ?_
    rintro e w2 ⟨rfl, B2⟩
    have HB : Hid _ := B2
    clear B2
    go_wp2_with fail
    refine (IR.out _).mono ?_
    rintro e w3 ⟨rfl, B3⟩
    have HB3 : Hid _ := below_after HB.out B3
    clear B3
    go_wp2_with fail
    go_ret
    exact ⟨rfl, HB3.out⟩

def namedR : List ByteArray → List ByteArray → Bool
  | _, [] => true
  | seen, v :: l => (isNameR v && !decide (v ∈ seen)) && namedR (seen ++ [v]) l
/-- What holds of the loop. -/
def NaRel (W0 : World) (l : List ByteArray) (R : Bool) (k : Nat) (x3 : Value) (wr : World) : Prop :=
  ∃ (i : Nat), x3 = .int .i64 (i : Int) ∧ k + i = l.length ∧ Below W0.heap.size W0 wr ∧ namedR (l.take i) (l.drop i) = R

set_option maxRecDepth 100000 in
set_option maxHeartbeats 8000000 in
theorem named_any (l : List ByteArray) (A : Option Addr) (c : Nat) (w : World) (hr : Kd.C Kd.string w A l.length l) (hc : l.length ≤ c) (hn : l.length < 9000000) (hq : ∀ v ∈ l, v.size < 9000000) :
    Calls Tryz.prog 58 #[.slice A l.length c] w fun e w' => e = .returned (.bool (namedR [] l)) ∧ Below w.heap.size w w' := by
  obtain ⟨R, hR⟩ : ∃ R, R = namedR [] l := ⟨_, rfl⟩
  rw [← hR]
  have HA : Hid _ := hr
  have HQ : Hid _ := hq
  have start : Hid (NaRel w l R l.length (.int .i64 ((0 : Nat) : Int)) w) := ⟨0, rfl, rfl, Below.refl _ _, hR.symm⟩
  clear hr hq hR
  go_enter Tryz.func58, Tryz.ntmps58
  go_wp2_with fail
  go_loopg [3] l.length (fun k x3 wr => NaRel w l R k x3 wr)
  case atStart => exact start.out
  case round =>
    clear start
    obtain ⟨i, rfl, hki, hB0, hV⟩ := hrel
    by_cases hlt : i < l.length
    · obtain ⟨g, rfl⟩ : ∃ g, gk = g + 1 := ⟨gk - 1, by omega⟩
      have e1 : decide (i < l.length) = true := decide_eq_true hlt
      obtain ⟨v, hv⟩ : ∃ v, l[i]? = some v := ⟨l[i]'(by omega), List.getElem?_eq_getElem _⟩
      have hT := row_take (Kd.C_below HA.out hB0) i (Nat.le_of_lt hlt)
      have hlen : (l.take i).length = i := by simp [Nat.min_eq_left (Nat.le_of_lt hlt)]
      obtain ⟨ad, rfl, hc0⟩ := text_at (Kd.C_below HA.out hB0) hv
      have hd : l.drop i = v :: l.drop (i + 1) := by
        obtain ⟨h9, h10⟩ := List.getElem?_eq_some_iff.1 hv
        rw [← h10]; exact List.drop_eq_getElem_cons h9
      have ht : l.take (i + 1) = l.take i ++ [v] := by rw [List.take_add_one, hv]; rfl
      rw [hd] at hV
      simp only [namedR] at hV
      rw [← ht] at hV
      have HF : Hid (∀ W : World, Below wr.heap.size wr W → W.cell? (ad.add i) = some (.string v)) := fun W h => pw_cell_below h hc0
      have IN : Hid _ := fun w1 => RisName_any v w1 (HQ.out v (List.mem_of_getElem? hv))
      have IH : Hid (∀ wq, Below wr.heap.size wr wq → Calls Tryz.prog 102 #[.slice (some ad) i c, .string v] wq fun e w' => e = .returned (.bool (decide (v ∈ l.take i))) ∧ Below wq.heap.size wq w') := by
        intro wq hwq
        have := RHas_any (l.take i) v (some ad) c wq (by rw [hlen]; exact Kd.C_below hT hwq) (by omega) (by omega)
        rw [hlen] at this
        exact this
      obtain ⟨q, hq⟩ : ∃ q, q = isNameR v := ⟨_, rfl⟩
      obtain ⟨h, hh⟩ : ∃ h, h = decide (v ∈ l.take i) := ⟨_, rfl⟩
      rw [← hq] at IN hV
      rw [← hh] at IH hV
      have HBL : Hid _ := hB0
      have HV : Hid _ := hV
      clear hq hh hB0 hV hd ht hT hv hlen
      go_wp2_with fail
      clear hc0
      refine wp_region_held_drew (S := fun W => W.cell? (ad.add i) = some (.string v)) (by kernel_rfl) (HF.out _ (below_drew (Below.refl _ _))) (fun hHeld => ?_)
      refine takeV 0 (some 10) (.slice (some ad) l.length c) rfl rfl (by kernel_rfl) (by kernel_rfl) (by kernel_rfl) (fun _ _ _ h => h) (Or.inl ⟨by kernel_rfl, fun W hSw => by have s0 := hSw; go_simp⟩) hHeld ?_
      try simp only [Act.put, List.setIfInBounds_toArray, List.set_cons_zero, List.set_cons_succ]
      refine takeV 1 (some 11) (.int .i64 (i : Int)) rfl rfl (by kernel_rfl) (by kernel_rfl) (by kernel_rfl) (fun _ _ _ h => h) (Or.inl ⟨by kernel_rfl, fun W hSw => by have s0 := hSw; go_simp⟩) hHeld ?_
      try simp only [Act.put, List.setIfInBounds_toArray, List.set_cons_zero, List.set_cons_succ]
      refine takeV 2 (some 12) (.pointer (some (ad.add i))) rfl rfl (by kernel_rfl) (by kernel_rfl) (by kernel_rfl) (fun _ _ _ h => h) (Or.inl ⟨by kernel_rfl, fun W hSw => by have s0 := hSw; go_simp; first | done | (intro h9; exact absurd h9 (by omega))⟩) hHeld ?_
      try simp only [Act.put, List.setIfInBounds_toArray, List.set_cons_zero, List.set_cons_succ]
      refine takeV 3 (some 13) (.string v) rfl rfl (by kernel_rfl) (by kernel_rfl) (by kernel_rfl) (fun _ _ _ h => h) (Or.inl ⟨by kernel_rfl, fun W hSw => by have s0 := hSw; go_simp⟩) hHeld ?_
      try simp only [Act.put, List.setIfInBounds_toArray, List.set_cons_zero, List.set_cons_succ]
      refine wpAnyH_ready (rs := [4]) (by kernel_rfl) (by simp) ?_
      refine AllReadyH.cons rfl (fun K hK => ?_) AllReadyH.nil
      clear hHeld
      go_simp
      go_at_call 101
      refine Calls.mono (IN.out _) ?_
      rintro e w6 ⟨rfl, B6'⟩
      have B6 : Hid _ := below_after (below_drew (Below.refl wr.heap.size wr)) B6'
      have HSn := HF.out _ B6.out
      clear B6'
      cases q with
      | false =>
        go_wp2_with fail
        refine hK.out _ _ HSn (fun hHeld => ?_)
        clear hK K
        try simp only [Act.put, List.setIfInBounds_toArray, List.set_cons_zero, List.set_cons_succ]
        refine takeV 5 (some 15) (.bool true) rfl rfl (by kernel_rfl) (by kernel_rfl) (by kernel_rfl) (fun _ _ _ h => h) (Or.inl ⟨by kernel_rfl, fun W hSw => by have s0 := hSw; go_simp⟩) hHeld ?_
        try simp only [Act.put, List.setIfInBounds_toArray, List.set_cons_zero, List.set_cons_succ]
        refine takeV 6 (some 16) (.bool true) rfl rfl (by kernel_rfl) (by kernel_rfl) (by kernel_rfl) (fun _ _ _ h => h) (Or.inl ⟨by kernel_rfl, fun W hSw => by have s0 := hSw; go_simp⟩) hHeld ?_
        try simp only [Act.put, List.setIfInBounds_toArray, List.set_cons_zero, List.set_cons_succ]
        refine takeV 7 (some 17) undef rfl rfl (by kernel_rfl) (by kernel_rfl) (by kernel_rfl) (fun _ _ _ h => h) (Or.inr ⟨by kernel_rfl, rfl⟩) hHeld ?_
        try simp only [Act.put, List.setIfInBounds_toArray, List.set_cons_zero, List.set_cons_succ]
        refine takeV 8 (some 18) undef rfl rfl (by kernel_rfl) (by kernel_rfl) (by kernel_rfl) (fun _ _ _ h => h) (Or.inr ⟨by kernel_rfl, rfl⟩) hHeld ?_
        try simp only [Act.put, List.setIfInBounds_toArray, List.set_cons_zero, List.set_cons_succ]
        refine takeV 9 (some 19) undef rfl rfl (by kernel_rfl) (by kernel_rfl) (by kernel_rfl) (fun _ _ _ h => h) (Or.inr ⟨by kernel_rfl, rfl⟩) hHeld ?_
        try simp only [Act.put, List.setIfInBounds_toArray, List.set_cons_zero, List.set_cons_succ]
        refine takeV 10 (some 20) undef rfl rfl (by kernel_rfl) (by kernel_rfl) (by kernel_rfl) (fun _ _ _ h => h) (Or.inr ⟨by kernel_rfl, rfl⟩) hHeld ?_
        try simp only [Act.put, List.setIfInBounds_toArray, List.set_cons_zero, List.set_cons_succ]
        refine takeV 11 (some 21) undef rfl rfl (by kernel_rfl) (by kernel_rfl) (by kernel_rfl) (fun _ _ _ h => h) (Or.inr ⟨by kernel_rfl, rfl⟩) hHeld ?_
        try simp only [Act.put, List.setIfInBounds_toArray, List.set_cons_zero, List.set_cons_succ]
        refine takeV 12 (some 22) undef rfl rfl (by kernel_rfl) (by kernel_rfl) (by kernel_rfl) (fun _ _ _ h => h) (Or.inr ⟨by kernel_rfl, rfl⟩) hHeld ?_
        try simp only [Act.put, List.setIfInBounds_toArray, List.set_cons_zero, List.set_cons_succ]
        refine takeV 13 (some 23) undef rfl rfl (by kernel_rfl) (by kernel_rfl) (by kernel_rfl) (fun _ _ _ h => h) (Or.inr ⟨by kernel_rfl, rfl⟩) hHeld ?_
        try simp only [Act.put, List.setIfInBounds_toArray, List.set_cons_zero, List.set_cons_succ]
        refine takeV 14 (some 24) undef rfl rfl (by kernel_rfl) (by kernel_rfl) (by kernel_rfl) (fun _ _ _ h => h) (Or.inr ⟨by kernel_rfl, rfl⟩) hHeld ?_
        try simp only [Act.put, List.setIfInBounds_toArray, List.set_cons_zero, List.set_cons_succ]
        refine takeV 15 (some 25) (.bool true) rfl rfl (by kernel_rfl) (by kernel_rfl) (by kernel_rfl) (fun _ _ _ h => h) (Or.inl ⟨by kernel_rfl, fun W hSw => by have s0 := hSw; go_simp⟩) hHeld ?_
        try simp only [Act.put, List.setIfInBounds_toArray, List.set_cons_zero, List.set_cons_succ]
        refine wpAnyH_done (by kernel_rfl) ?_ _
        have hV : false = R := by have := HV.out; simpa using this
        clear HV hHeld HSn
        subst hV
        go_wp2_with fail
        go_ret
        exact ⟨rfl, below_after HBL.out B6.out⟩
      | true =>
        go_wp2_with fail
        refine hK.out _ _ HSn (fun hHeld => ?_)
        clear hK K
        try simp only [Act.put, List.setIfInBounds_toArray, List.set_cons_zero, List.set_cons_succ]
        refine takeV 5 (some 15) (.bool false) rfl rfl (by kernel_rfl) (by kernel_rfl) (by kernel_rfl) (fun _ _ _ h => h) (Or.inl ⟨by kernel_rfl, fun W hSw => by have s0 := hSw; go_simp⟩) hHeld ?_
        try simp only [Act.put, List.setIfInBounds_toArray, List.set_cons_zero, List.set_cons_succ]
        refine takeV 6 (some 16) (.bool false) rfl rfl (by kernel_rfl) (by kernel_rfl) (by kernel_rfl) (fun _ _ _ h => h) (Or.inl ⟨by kernel_rfl, fun W hSw => by have s0 := hSw; go_simp⟩) hHeld ?_
        try simp only [Act.put, List.setIfInBounds_toArray, List.set_cons_zero, List.set_cons_succ]
        refine takeV 7 (some 17) (.slice (some ad) l.length c) rfl rfl (by kernel_rfl) (by kernel_rfl) (by kernel_rfl) (fun _ _ _ h => h) (Or.inl ⟨by kernel_rfl, fun W hSw => by have s0 := hSw; go_simp⟩) hHeld ?_
        try simp only [Act.put, List.setIfInBounds_toArray, List.set_cons_zero, List.set_cons_succ]
        refine takeV 8 (some 18) (.int .i64 (i : Int)) rfl rfl (by kernel_rfl) (by kernel_rfl) (by kernel_rfl) (fun _ _ _ h => h) (Or.inl ⟨by kernel_rfl, fun W hSw => by have s0 := hSw; go_simp⟩) hHeld ?_
        try simp only [Act.put, List.setIfInBounds_toArray, List.set_cons_zero, List.set_cons_succ]
        refine takeV 9 (some 19) (.slice (some ad) i c) rfl rfl (by kernel_rfl) (by kernel_rfl) (by kernel_rfl) (fun _ _ _ h => h) (Or.inl ⟨by kernel_rfl, fun W hSw => by have s0 := hSw; go_simp; first | done | (intro h9; exact absurd h9 (by omega))⟩) hHeld ?_
        try simp only [Act.put, List.setIfInBounds_toArray, List.set_cons_zero, List.set_cons_succ]
        refine takeV 10 (some 20) (.slice (some ad) l.length c) rfl rfl (by kernel_rfl) (by kernel_rfl) (by kernel_rfl) (fun _ _ _ h => h) (Or.inl ⟨by kernel_rfl, fun W hSw => by have s0 := hSw; go_simp⟩) hHeld ?_
        try simp only [Act.put, List.setIfInBounds_toArray, List.set_cons_zero, List.set_cons_succ]
        refine takeV 11 (some 21) (.int .i64 (i : Int)) rfl rfl (by kernel_rfl) (by kernel_rfl) (by kernel_rfl) (fun _ _ _ h => h) (Or.inl ⟨by kernel_rfl, fun W hSw => by have s0 := hSw; go_simp⟩) hHeld ?_
        try simp only [Act.put, List.setIfInBounds_toArray, List.set_cons_zero, List.set_cons_succ]
        refine takeV 12 (some 22) (.pointer (some (ad.add i))) rfl rfl (by kernel_rfl) (by kernel_rfl) (by kernel_rfl) (fun _ _ _ h => h) (Or.inl ⟨by kernel_rfl, fun W hSw => by have s0 := hSw; go_simp; first | done | (intro h9; exact absurd h9 (by omega))⟩) hHeld ?_
        try simp only [Act.put, List.setIfInBounds_toArray, List.set_cons_zero, List.set_cons_succ]
        refine takeV 13 (some 23) (.string v) rfl rfl (by kernel_rfl) (by kernel_rfl) (by kernel_rfl) (fun _ _ _ h => h) (Or.inl ⟨by kernel_rfl, fun W hSw => by have s0 := hSw; go_simp⟩) hHeld ?_
        try simp only [Act.put, List.setIfInBounds_toArray, List.set_cons_zero, List.set_cons_succ]
        refine wpAnyH_ready (rs := [14]) (by kernel_rfl) (by simp) ?_
        refine AllReadyH.cons rfl (fun K hK => ?_) AllReadyH.nil
        clear hHeld
        go_simp
        go_at_call 102
        refine Calls.mono (IH.out _ B6.out) ?_
        rintro e w7 ⟨rfl, B7'⟩
        have B7 : Hid _ := below_after B6.out B7'
        have HSm := HF.out _ B7.out
        clear B7' HSn
        go_wp2_with fail
        refine hK.out _ _ HSm (fun hHeld => ?_)
        clear hK K
        try simp only [Act.put, List.setIfInBounds_toArray, List.set_cons_zero, List.set_cons_succ]
        refine takeV 15 (some 25) (.bool h) rfl rfl (by kernel_rfl) (by kernel_rfl) (by kernel_rfl) (fun _ _ _ h => h) (Or.inl ⟨by kernel_rfl, fun W hSw => by have s0 := hSw; go_simp⟩) hHeld ?_
        try simp only [Act.put, List.setIfInBounds_toArray, List.set_cons_zero, List.set_cons_succ]
        refine wpAnyH_done (by kernel_rfl) ?_ _
        have hV := HV.out
        clear HV hHeld HSm
        cases h with
        | true =>
          have hV : false = R := by simpa using hV
          subst hV
          go_wp2_with fail
          go_ret
          exact ⟨rfl, below_after HBL.out B7.out⟩
        | false =>
          have hV9 : namedR (List.take (i + 1) l) (List.drop (i + 1) l) = R := by simpa using hV
          have HV9 : Hid _ := hV9
          clear hV hV9
          go_wp2_with fail
          go_roundg g
          case measure => omega
          case rel => exact ⟨i + 1, by go_num, by omega, below_after HBL.out B7.out, HV9.out⟩
    · have e1 : decide (i < l.length) = false := decide_eq_false hlt
      have e3 : l.drop i = [] := List.drop_eq_nil_of_le (by omega)
      rw [e3] at hV
      simp only [namedR] at hV
      subst hV
      have BW : Hid _ := hB0
      clear hB0 e3
      go_wp2_with fail
      go_ret
      exact ⟨rfl, BW.out⟩

end Go.Proofs.YtcjmplpfebpfpaaGreatDoor

namespace Go.Proofs.YtcjmplpfebpfpaaGreatDoor
open Go.RowKit Go.Proofs Go.Proofs.YtcjmplpfebpfpaaGreatDoorW.PrintWords Go.Proofs.YtcjmplpfebpfpaaGreatDoorW.PrintLast Go.Proofs.YtcjmplpfebpfpaaGreatDoorW.PrintMore PKindInstances
set_option linter.unusedVariables false
set_option linter.unusedSimpArgs false

def lookR : List S71 → ByteArray → Option S24
  | [], _ => none
  | x :: l, s => if (x.f0.toList == s.toList) = true then some x.f1 else lookR l s
def findM (l : List S71) (s : ByteArray) : Option S24 := if resM s = true then none else lookR l s
def FindPost (w : World) (R : Option S24) (e : Ending) (w' : World) : Prop :=
  match R with
  | none => e = .returned (.tuple #[formV 0 0 ⟨#[]⟩ none 0 0, .bool false]) ∧ Below w.heap.size w w'
  | some x => ∃ A c, e = .returned (.tuple #[formV x.f0 x.f1 x.f2 A x.f3.length c, .bool true]) ∧ x.f3.length ≤ c ∧ Kd.C k24 w' A x.f3.length x.f3 ∧ Below w.heap.size w w'
/-- What holds of the loop. -/
def FnRel (W0 : World) (l : List S71) (s : ByteArray) (R : Option S24) (k : Nat) (x6 : Value) (wr : World) : Prop :=
  ∃ (i : Nat), x6 = .int .i64 (i : Int) ∧ k + i = l.length ∧ Below W0.heap.size W0 wr ∧ lookR (l.drop i) s = R

set_option maxRecDepth 100000 in
set_option maxHeartbeats 8000000 in
theorem find_any (l : List S71) (s : ByteArray) (A : Option Addr) (c : Nat) (w : World) (hr : Kd.C k71 w A l.length l) (hn : l.length < 9000000) :
    Calls Tryz.prog 67 #[.slice A l.length c, .string s] w (FindPost w (findM l s)) := by
  have hu24 := Tryz.underlying24
  have hu71 := Tryz.underlying71
  obtain ⟨R, hR⟩ : ∃ R, R = lookR l s := ⟨_, rfl⟩
  have x1 : (w.alloc (Obj.cells #[.int .i64 0, .int .i64 0, .string ⟨#[]⟩, .slice none 0 0] 24)).heap[w.heap.size]? = some (Obj.cells #[.int .i64 0, .int .i64 0, .string ⟨#[]⟩, .slice none 0 0] 24) := (MapKept.heap_alloc w _).1
  have xb : Below w.heap.size w (w.alloc (Obj.cells #[.int .i64 0, .int .i64 0, .string ⟨#[]⟩, .slice none 0 0] 24)) := below_alloc (Below.refl _ _) _
  have XB : Hid _ := xb
  have X1 : Hid _ := x1
  have HA : Hid _ := hr
  clear xb hr x1
  unfold findM
  cases hs : resM s with
  | true =>
    have IR : Hid _ := fun w1 => RReserved_any s w1
    rw [hs] at IR
    rw [if_pos rfl]
    clear hs hR
    go_enter Tryz.func67, Tryz.ntmps67
    go_wp2_with fail
    refine (IR.out _).mono ?_
    rintro e w2 ⟨rfl, B2⟩
    have hb := box_heap B2
    have f0 := frozen4 (i := 0) hb
    have f1 := frozen4 (i := 1) hb
    have f2 := frozen4 (i := 2) hb
    have f3 := frozen4 (i := 3) hb
    obtain ⟨p0, p1, p2, p3⟩ := cells4 hb
    have HB : Hid _ := hb
    have HB2 : Hid _ := below_after XB.out B2
    clear hb B2
    go_wp2_with fail
    refine bodyPost_ret (results_ct rfl _ _ w.heap.size 24 #[.int .i64 0, .int .i64 0, .string ⟨#[]⟩, .slice none 0 0] (0, 0) _ rfl (set4 HB.out) Tryz.underlying24 rfl (by kernel_rfl)) rfl ?_
    exact ⟨rfl, below4 HB2.out (Nat.le_refl _)⟩
  | false =>
    have IR : Hid _ := fun w1 => RReserved_any s w1
    rw [hs] at IR
    rw [if_neg (by simp), ← hR]
    clear hs
    go_enter Tryz.func67, Tryz.ntmps67
    go_upto_region 1 with fail
    generalize w.alloc (Obj.cells #[.int .i64 0, .int .i64 0, .string ⟨#[]⟩, .slice none 0 0] 24) = X at *
    have start : Hid (∀ W, Below X.heap.size X W → FnRel X l s R l.length (.int .i64 ((0 : Nat) : Int)) W) := fun W h => ⟨0, rfl, rfl, h, hR.symm⟩
    generalize hbA : w.heap.size = bA at *
    clear hR
    go_wp2_with fail
    refine (IR.out _).mono ?_
    rintro e w2 ⟨rfl, B2'⟩
    have B2 : Hid _ := B2'
    clear B2'
    go_wp2_with fail
    go_loopg [6] l.length (fun k x6 wr => FnRel X l s R k x6 wr)
    case atStart => exact start.out _ B2.out
    case round =>
      clear start
      obtain ⟨i, rfl, hki, hB0, hV⟩ := hrel
      have hb : wr.heap[bA]? = some (Obj.cells #[.int .i64 0, .int .i64 0, .string ⟨#[]⟩, .slice none 0 0] 24) := blk_below X1.out hB0
      have f0 := frozen4 (i := 0) hb
      have f1 := frozen4 (i := 1) hb
      have f2 := frozen4 (i := 2) hb
      have f3 := frozen4 (i := 3) hb
      obtain ⟨p0, p1, p2, p3⟩ := cells4 hb
      have HB : Hid _ := hb
      clear hb
      by_cases hlt : i < l.length
      · obtain ⟨g, rfl⟩ : ∃ g, gk = g + 1 := ⟨gk - 1, by omega⟩
        have e1 : decide (i < l.length) = true := decide_eq_true hlt
        obtain ⟨x, hx⟩ : ∃ x, l[i]? = some x := ⟨l[i]'(by omega), List.getElem?_eq_getElem _⟩
        obtain ⟨ad, A5, c5, rfl, g0, g1, g2, g3, g4, g5, g6⟩ := row_at5 HA.out (by omega) hx
        have hBw : Below w.heap.size w wr := by subst hbA; exact below_after XB.out hB0
        replace g0 := pw_cell_below hBw g0
        replace g1 := pw_cell_below hBw g1
        replace g2 := pw_cell_below hBw g2
        replace g3 := pw_cell_below hBw g3
        replace g4 := pw_cell_below hBw g4
        rw [drop_at71 hx] at hV
        simp only [lookR] at hV
        have H6 : Hid _ := g6
        have HBL : Hid _ := hB0
        clear hx g6 hB0 hBw
        obtain ⟨xn, x0, x1, x2, x3⟩ := x
        simp only [] at hV g0 g1 g2 g3 g4 g5 H6
        cases hnm : (xn.toList == s.toList) with
        | true =>
          rw [hnm, if_pos rfl] at hV
          subst hV
          go_wp2_with fail
          refine bodyPost_ret (results_ct rfl _ _ bA 24 #[.int .i64 x0, .int .i64 x1, .string x2, .slice A5 x3.length c5] (0, 0) _ rfl (set4 HB.out) Tryz.underlying24 rfl (by kernel_rfl)) rfl ?_
          subst hbA
          have B9 := below_after XB.out HBL.out
          exact ⟨A5, c5, rfl, g5, Kd.C_below H6.out (below4 B9 (Nat.le_refl _)), below4 B9 (Nat.le_refl _)⟩
        | false =>
          rw [hnm, if_neg (by simp)] at hV
          have HV : Hid _ := hV
          clear hV
          go_wp2_with fail
          go_roundg g
          case measure => omega
          case rel => exact ⟨i + 1, by go_num, by omega, HBL.out, HV.out⟩
      · have e1 : decide (i < l.length) = false := decide_eq_false hlt
        have e3 : l.drop i = [] := List.drop_eq_nil_of_le (by omega)
        rw [e3] at hV
        simp only [lookR] at hV
        subst hV
        have BW : Hid _ := hB0
        have hge : l.length ≤ i := by omega
        clear hB0 e3
        go_wp2_with fail
        refine bodyPost_ret (results_ct rfl _ _ bA 24 #[.int .i64 0, .int .i64 0, .string ⟨#[]⟩, .slice none 0 0] (0, 0) _ rfl (set4 HB.out) Tryz.underlying24 rfl (by kernel_rfl)) rfl ?_
        subst hbA
        exact ⟨rfl, below4 (below_after XB.out BW.out) (Nat.le_refl _)⟩

end Go.Proofs.YtcjmplpfebpfpaaGreatDoor

namespace Go.Proofs.YtcjmplpfebpfpaaGreatDoor
open Go.RowKit Go.Proofs Go.Proofs.YtcjmplpfebpfpaaGreatDoorW.PrintWords Go.Proofs.YtcjmplpfebpfpaaGreatDoorW.PrintLast Go.Proofs.YtcjmplpfebpfpaaGreatDoorW.PrintMore PKindInstances
set_option linter.unusedVariables false
set_option linter.unusedSimpArgs false

def hasHead (l : List S24) : Bool := match l with | [] => false | k :: _ => k.f0 == 1
mutual
/-- What the variables of a form are in another one, the document's way. -/
def mrM (vs : List ByteArray) : S24 → S24 → Bool → List S71 → Bool × List S71
  | ⟨a, n, s, l⟩, t, inner, by_ =>
    if a = 1 ∧ resM s = false ∧ s ∈ vs then (match findM by_ s with | none => (true, by_ ++ [⟨s, t⟩]) | some was => (eqM was t, by_)) else
    if a ≠ 3 ∨ t.f0 ≠ 3 then (eqM ⟨a, n, s, l⟩ t, by_) else
    if l.length ≠ t.f3.length then (false, by_) else mrL vs (!inner && isFunW (headL l)) (!inner && (hasHead l || hasHead t.f3)) 0 l t.f3 by_
def mrL (vs : List ByteArray) (fn hd : Bool) : Nat → List S24 → List S24 → List S71 → Bool × List S71
  | i, x :: la, lb, by_ =>
    match lb with
    | [] => (true, by_)
    | y :: lb =>
      if i = 0 ∧ hd = true then (if eqM x y then mrL vs fn hd (i + 1) la lb by_ else (false, by_)) else
      if (mrM vs x y (fn && decide (i = 1) && (x.f0 == 3)) by_).1 then mrL vs fn hd (i + 1) la lb (mrM vs x y (fn && decide (i = 1) && (x.f0 == 3)) by_).2
      else (false, (mrM vs x y (fn && decide (i = 1) && (x.f0 == 3)) by_).2)
  | _, [], _, by_ => (true, by_)
end
/-- What comes back. -/
def MRPost (w : World) (R : Bool × List S71) (e : Ending) (w' : World) : Prop :=
  ∃ A c, e = .returned (.tuple #[.slice A R.2.length c, .bool R.1]) ∧ R.2.length ≤ c ∧ Kd.C k71 w' A R.2.length R.2 ∧ Below w.heap.size w w'
def MROk (vs : List ByteArray) (x : S24) : Prop :=
  ∀ (w : World) (by_ : List S71) (y : S24) (inner : Bool) (A B V Y : Option Addr) (c d cv cy : Nat), Kd.C k24 w A x.f3.length x.f3 → x.f3.length ≤ c → wid x < 9000000 → Kd.C k24 w B y.f3.length y.f3 → y.f3.length ≤ d → wid y < 9000000 →
    Kd.C Kd.string w V vs.length vs → vs.length ≤ cv → vs.length < 9000000 → Kd.C k71 w Y by_.length by_ → by_.length ≤ cy → by_.length + siz x < 9000000 → (∀ p ∈ by_, wid p.f1 < 9000000) →
    Calls Tryz.prog 66 #[formV x.f0 x.f1 x.f2 A x.f3.length c, formV y.f0 y.f1 y.f2 B y.f3.length d, .slice V vs.length cv, .slice Y by_.length cy, .bool inner] w (MRPost w (mrM vs x y inner by_))

theorem isWord_any (x : S24) (A : Option Addr) (c : Nat) (w : World) (hr : Kd.C k24 w A x.f3.length x.f3) (hc : x.f3.length ≤ c) :
    Calls Tryz.prog 61 #[formV x.f0 x.f1 x.f2 A x.f3.length c] w fun e w' => e = .returned (.bool (x.f0 == 1)) ∧ Below w.heap.size w w' :=
  plinthref03_isWord.calls x.f0 x.f1 x.f2 A c x.f3 _ w hr hc rfl

/-- What a literal of one pair is. -/
theorem lit_facts {w : World} {z g : Nat} {v : Value} {p : S71} (hN : Kd.N k71 71 w z (fun k => k < z ∨ k = g) v [p]) (hat : ∃ b, v.ownBlock = some b ∧ g ≤ b) (hz : z ≤ g) :
    ∃ A c, v = .slice A 1 c ∧ Kd.F k71 w (fun k => k < z ∨ k = g) A 1 [p] ∧ g < w.heap.size := by
  obtain ⟨A, c, rfl⟩ := Kd.N_slice hN
  refine ⟨A, c, rfl, Kd.N_F hN, ?_⟩
  obtain ⟨b, hb, hle⟩ := hat
  have h1 := Kd.N_lt hN b hb
  omega

set_option maxRecDepth 100000 in
set_option maxHeartbeats 8000000 in
theorem matched_add (vs : List ByteArray) (w : World) (by_ : List S71) (n : Int) (s : ByteArray) (l : List S24) (y : S24) (inner : Bool) (A B V Y : Option Addr) (c d cv cy : Nat)
    (ha : Kd.C k24 w A l.length l) (hac : l.length ≤ c) (hb : Kd.C k24 w B y.f3.length y.f3) (hbc : y.f3.length ≤ d) (hv : Kd.C Kd.string w V vs.length vs) (hvc : vs.length ≤ cv) (hvn : vs.length < 9000000)
    (hy : Kd.C k71 w Y by_.length by_) (hyc : by_.length ≤ cy) (hyn : by_.length < 9000000) (hres : resM s = false) (hmem : s ∈ vs) (hfind : findM by_ s = none) :
    Calls Tryz.prog 66 #[formV 1 n s A l.length c, formV y.f0 y.f1 y.f2 B y.f3.length d, .slice V vs.length cv, .slice Y by_.length cy, .bool inner] w (MRPost w (true, by_ ++ [⟨s, y⟩])) := by
  have hu24 := Tryz.underlying24
  have hu71 := Tryz.underlying71
  obtain ⟨y0, y1, y2, y3⟩ := y
  obtain ⟨x1, x2, xb⟩ := boxes2 w (Obj.cells #[.int .i64 1, .int .i64 n, .string s, .slice A l.length c] 24) (Obj.cells #[.int .i64 y0, .int .i64 y1, .string y2, .slice B y3.length d] 24)
  have XB : Hid _ := xb
  have HY : Hid _ := hy
  have HBB : Hid _ := hb
  have IW : Hid (∀ w1, Below w.heap.size w w1 → _) := fun w1 h1 => isWord_any ⟨1, n, s, l⟩ A c w1 (Kd.C_below ha h1) hac
  have IR : Hid _ := fun w1 => RReserved_any s w1
  rw [hres] at IR
  have IH : Hid (∀ w1, Below w.heap.size w w1 → _) := fun w1 h1 => RHas_any vs s V cv w1 (Kd.C_below hv h1) hvc hvn
  rw [decide_eq_true hmem] at IH
  have FI : Hid (∀ w1, Below w.heap.size w w1 → _) := fun w1 h1 => find_any by_ s Y cy w1 (Kd.C_below hy h1) hyn
  rw [hfind] at FI
  simp only [] at hbc hb HBB
  clear xb ha hb hv hy hmem hfind hres
  go_enter Tryz.func66, Tryz.ntmps66
  go_upto_region 1 with fail
  generalize (w.alloc (Obj.cells #[.int .i64 1, .int .i64 n, .string s, .slice A l.length c] 24)).alloc (Obj.cells #[.int .i64 y0, .int .i64 y1, .string y2, .slice B y3.length d] 24) = X at *
  have X1 : Hid _ := x1
  have X2 : Hid _ := x2
  obtain ⟨p0, p1, p2, p3⟩ := cells4 x1
  obtain ⟨q0, q1, q2, q3⟩ := cells4 x2
  generalize hbA : w.heap.size = bA at *
  generalize hbB : bA + 1 = bB at *
  clear x1 x2
  go_wp2_with fail
  refine (IW.out _ (by subst hbA; exact XB.out)).mono ?_
  rintro e w1 ⟨rfl, B1⟩
  have HB1 : Hid _ := B1
  replace p2 := pw_cell_below B1 p2
  clear B1
  go_wp2_with fail
  refine (IR.out _).mono ?_
  rintro e w2 ⟨rfl, B2⟩
  have HB2 : Hid _ := below_after HB1.out B2
  replace p2 := pw_cell_below B2 p2
  clear B2
  go_wp2_with fail
  refine (IH.out _ (by subst hbA; exact below_after XB.out HB2.out)).mono ?_
  rintro e w3 ⟨rfl, B3⟩
  have HB3 : Hid _ := below_after HB2.out B3
  replace p2 := pw_cell_below B3 p2
  clear B3
  go_wp2_with fail
  refine Calls.mono (FI.out _ (by subst hbA; exact below_after XB.out HB3.out)) ?_
  rintro e w4 ⟨rfl, B4⟩
  have HB4 : Hid (Below X.heap.size X w4) := below_after HB3.out B4
  clear B4 p0 p1 p2 p3 q0 q1 q2 q3
  have GG : Hid (∀ W, Below w4.heap.size w4 W → W.cell? ⟨bA, 2, none⟩ = some (.string s) ∧ W.cell? ⟨bB, 0, none⟩ = some (.int .i64 y0) ∧ W.cell? ⟨bB, 1, none⟩ = some (.int .i64 y1) ∧ W.cell? ⟨bB, 2, none⟩ = some (.string y2) ∧ W.cell? ⟨bB, 3, none⟩ = some (.slice B y3.length d)) := by
    intro W hW
    have hX := below_after HB4.out hW
    obtain ⟨p0, p1, p2, p3⟩ := cells4 (blk_below X1.out hX)
    obtain ⟨q0, q1, q2, q3⟩ := cells4 (blk_below X2.out hX)
    exact ⟨p2, q0, q1, q2, q3⟩
  go_upto_region 5 with fail
  have HZ0 := below_after HB4.out (below_alloc (Below.refl w4.heap.size w4) (Obj.cells #[Value.int IntKind.i64 0, Value.int IntKind.i64 0, Value.string { data := #[] }, Value.slice none 0 0] 24))
  have GZ : Hid (∀ W, Below (w4.alloc (Obj.cells #[Value.int IntKind.i64 0, Value.int IntKind.i64 0, Value.string { data := #[] }, Value.slice none 0 0] 24)).heap.size (w4.alloc (Obj.cells #[Value.int IntKind.i64 0, Value.int IntKind.i64 0, Value.string { data := #[] }, Value.slice none 0 0] 24)) W → W.cell? ⟨bA, 2, none⟩ = some (.string s) ∧ W.cell? ⟨bB, 0, none⟩ = some (.int .i64 y0) ∧ W.cell? ⟨bB, 1, none⟩ = some (.int .i64 y1) ∧ W.cell? ⟨bB, 2, none⟩ = some (.string y2) ∧ W.cell? ⟨bB, 3, none⟩ = some (.slice B y3.length d)) := fun W h => GG.out W (below_after (below_alloc (Below.refl _ _) _) h)
  have HZ : Hid (Below w.heap.size w _) := (by subst hbA; exact below_after XB.out HZ0)
  clear HZ0
  generalize w4.alloc (Obj.cells #[Value.int IntKind.i64 0, Value.int IntKind.i64 0, Value.string { data := #[] }, Value.slice none 0 0] 24) = Z at *
  have hZs : w.heap.size ≤ Z.heap.size := HZ.out.size
  have FY : Hid (∀ W, Below Z.heap.size Z W → Kd.F k71 W (fun k => k < Z.heap.size) Y by_.length by_) := fun W h => Kd.F_below (Kd.C_F k71_heap (Kd.C_below HY.out HZ.out)) h
  have FP : Hid (∀ W, Below Z.heap.size Z W → Kd.FK k71 W (fun k => k < Z.heap.size) (⟨s, ⟨y0, y1, y2, y3⟩⟩ : S71) [.string s, .int .i64 y0, .int .i64 y1, .string y2, .slice B y3.length d]) := fun W h => Kd.FK_below (k71_mkF Z _ (⟨s, ⟨y0, y1, y2, y3⟩⟩ : S71) hbc (Kd.C_F k24_heap (Kd.C_below HBB.out HZ.out))) h
  refine wp_region_held_drew (S := fun W => W.cell? ⟨bA, 2, none⟩ = some (.string s) ∧ W.cell? ⟨bB, 0, none⟩ = some (.int .i64 y0) ∧ W.cell? ⟨bB, 1, none⟩ = some (.int .i64 y1) ∧ W.cell? ⟨bB, 2, none⟩ = some (.string y2) ∧ W.cell? ⟨bB, 3, none⟩ = some (.slice B y3.length d)) (by kernel_rfl) (GZ.out _ (below_drew (Below.refl _ _))) (fun hHeld => ?_)
  refine takeV 1 (some 43) (.slice Y by_.length cy) rfl rfl (by kernel_rfl) (by kernel_rfl) (by kernel_rfl) (fun _ _ _ h => h) (Or.inl ⟨by kernel_rfl, fun W hSw => by obtain ⟨s0, s1, s2, s3, s4⟩ := hSw; go_simp⟩) hHeld ?_
  try simp only [Act.put, List.setIfInBounds_toArray, List.set_cons_zero, List.set_cons_succ]
  refine takeV 3 (some 45) (.pointer (some ⟨bA, 2, none⟩)) rfl rfl (by kernel_rfl) (by kernel_rfl) (by kernel_rfl) (fun _ _ _ h => h) (Or.inl ⟨by kernel_rfl, fun W hSw => by obtain ⟨s0, s1, s2, s3, s4⟩ := hSw; go_simp⟩) hHeld ?_
  try simp only [Act.put, List.setIfInBounds_toArray, List.set_cons_zero, List.set_cons_succ]
  refine takeV 4 (some 46) (.string s) rfl rfl (by kernel_rfl) (by kernel_rfl) (by kernel_rfl) (fun _ _ _ h => h) (Or.inl ⟨by kernel_rfl, fun W hSw => by obtain ⟨s0, s1, s2, s3, s4⟩ := hSw; go_simp⟩) hHeld ?_
  try simp only [Act.put, List.setIfInBounds_toArray, List.set_cons_zero, List.set_cons_succ]
  refine takeV 5 (some 47) (formV y0 y1 y2 B y3.length d) rfl rfl (by kernel_rfl) (by kernel_rfl) (by kernel_rfl) (fun _ _ _ h => h) (Or.inl ⟨by kernel_rfl, fun W hSw => by obtain ⟨s0, s1, s2, s3, s4⟩ := hSw; go_simp⟩) hHeld ?_
  try simp only [Act.put, List.setIfInBounds_toArray, List.set_cons_zero, List.set_cons_succ]
  refine takeV 6 (some 48) (.agg #[.string s, .int .i64 y0, .int .i64 y1, .string y2, .slice B y3.length d]) rfl rfl (by kernel_rfl) (by kernel_rfl) (by kernel_rfl) (fun _ _ _ h => h) (Or.inl ⟨by kernel_rfl, fun W hSw => by obtain ⟨s0, s1, s2, s3, s4⟩ := hSw; go_simp⟩) hHeld ?_
  try simp only [Act.put, List.setIfInBounds_toArray, List.set_cons_zero, List.set_cons_succ]
  generalize hZ' : Z.drew = W0
  have H0 : Hid (Below Z.heap.size Z W0) := (by subst hZ'; exact below_drew (Below.refl _ _))
  clear hZ'
  refine wpAnyH_ready (rs := [0, 7]) (by kernel_rfl) (by simp) ?_
  refine AllReadyH.cons rfl (fun K hK => ?_) (AllReadyH.cons rfl (fun K hK => ?_) AllReadyH.nil)
  · clear hHeld
    refine Kd.N_lit_step k71 (w0 := Z) Z.heap.size 71 (by kernel_rfl) rfl (xs := ([] : List S71)) (inner := []) (ok := fun _ => True) (okp := fun k => k < Z.heap.size) (by go_simp) (Reps.none _ _) (fun _ _ => trivial) trivial H0.out H0.out.size (by simp) ?_
    intro v42 W1 hN_ hB_ hg_ hat_
    have N42 : Hid _ := hN_
    have H1 : Hid (Below Z.heap.size Z W1) := hB_
    have G0 : Hid (W0.grownBy W1 none) := hg_
    have A42 : Hid (∃ b, v42.ownBlock = some b ∧ W0.heap.size ≤ b) := hat_
    clear hN_ hB_ hg_ hat_
    refine hK.out _ _ (GZ.out _ H1.out) (fun hHeld => ?_)
    clear hK K
    try simp only [Act.put, List.setIfInBounds_toArray, List.set_cons_zero, List.set_cons_succ]
    refine wpAnyH_ready (rs := [2, 7]) (by kernel_rfl) (by simp) ?_
    refine AllReadyH.cons rfl (fun K hK => ?_) (AllReadyH.cons rfl (fun K hK => ?_) AllReadyH.nil)
    · clear hHeld
      refine Kd.N_append_rows_step k71 (w0 := Z) Z.heap.size (by kernel_rfl) (.tmp 42) (.tmp 43) 29 71 (.agg #[(.string ⟨#[]⟩), (.int .i64 0), (.int .i64 0), (.string ⟨#[]⟩), (.slice none 0 0)]) 72 rfl Tryz.underlying29 info71 rfl (by decide) (by omega) v42 ([] : List S71) by_ Y by_.length cy (fun _ => True) (fun k => k < Z.heap.size) rfl rfl N42.out (FY.out _ H1.out) (fun k hk => ⟨trivial, fun he => by have := Kd.N_base N42.out k he.symm; omega⟩) (fun _ _ => trivial) H1.out H1.out.size (by simp only [List.length_nil]; omega) ?_
      intro v44 W2 hN_ hB_ hg_ hat_
      have N44 : Hid (Kd.N k71 71 W2 Z.heap.size (fun _ => True) v44 by_) := hN_
      have H2 : Hid (Below Z.heap.size Z W2) := hB_
      have G2 : Hid (W1.grownBy W2 v42.ownBlock) := hg_
      have A44 : Hid (v44.ownBlock = v42.ownBlock ∨ ∃ b, v44.ownBlock = some b ∧ W1.heap.size ≤ b) := hat_
      clear hN_ hB_ hg_ hat_
      refine hK.out _ _ (GZ.out _ H2.out) (fun hHeld => ?_)
      clear hK K
      try simp only [Act.put, List.setIfInBounds_toArray, List.set_cons_zero, List.set_cons_succ]
      refine wpAnyH_ready (rs := [7]) (by kernel_rfl) (by simp) ?_
      refine AllReadyH.cons rfl (fun K hK => ?_) AllReadyH.nil
      clear hHeld
      refine Kd.N_lit_step k71 (w0 := Z) Z.heap.size 71 (by kernel_rfl) rfl (xs := [(⟨s, ⟨y0, y1, y2, y3⟩⟩ : S71)]) (inner := [.string s, .int .i64 y0, .int .i64 y1, .string y2, .slice B y3.length d]) (ok := fun k => k < Z.heap.size ∨ k = W2.heap.size) (okp := fun k => k < Z.heap.size) (by go_simp) ⟨rfl, fun j p hj => ?rep⟩ (fun _ h => .inl h) (.inr rfl) H2.out H2.out.size (by simp) ?_
      case rep =>
        rcases j with _ | j
        · obtain rfl := Option.some.inj hj
          exact FP.out _ H2.out
        · simp at hj
      intro v49 W3 hN_ hB_ hg_ hat_
      have H3 : Hid (Below Z.heap.size Z W3) := hB_
      have G1 : Hid (W2.grownBy W3 none) := hg_
      obtain ⟨A9, c9, rfl, hF_, hlt_⟩ := lit_facts hN_ hat_ H2.out.size
      have F9 : Hid (Kd.F k71 W3 (fun k => k < Z.heap.size ∨ k = W2.heap.size) A9 1 [(⟨s, ⟨y0, y1, y2, y3⟩⟩ : S71)]) := hF_
      have L9 : Hid (W2.heap.size < W3.heap.size) := hlt_
      clear hN_ hB_ hg_ hat_ hF_ hlt_
      refine hK.out _ _ (GZ.out _ H3.out) (fun hHeld => ?_)
      clear hK K
      try simp only [Act.put, List.setIfInBounds_toArray, List.set_cons_zero, List.set_cons_succ]
      refine wpAnyH_ready (rs := [8]) (by kernel_rfl) (by simp) ?_
      refine AllReadyH.cons rfl (fun K hK => ?_) AllReadyH.nil
      clear hHeld
      refine Kd.N_append_rows_step k71 (w0 := Z) Z.heap.size (by kernel_rfl) (.tmp 44) (.tmp 49) 29 71 (.agg #[(.string ⟨#[]⟩), (.int .i64 0), (.int .i64 0), (.string ⟨#[]⟩), (.slice none 0 0)]) 72 rfl Tryz.underlying29 info71 rfl (by decide) (by omega) v44 by_ [(⟨s, ⟨y0, y1, y2, y3⟩⟩ : S71)] A9 1 c9 (fun _ => True) (fun k => k < Z.heap.size ∨ k = W2.heap.size) rfl rfl (Kd.N_grown N44.out G1.out (fun _ _ h => by cases h)) F9.out (fun k hk => ⟨trivial, fun he => ?sep⟩) (fun _ _ => trivial) H3.out H3.out.size (by omega) ?_
      case sep =>
        have h1 := Kd.N_base N44.out k he.symm
        have h2 := Kd.N_lt N44.out k he.symm
        omega
      intro v50 W4 hN_ hB_ hg_ hat_
      have H4 : Hid (Below Z.heap.size Z W4) := hB_
      obtain ⟨A0, c0, rfl, hc0_, hC0_⟩ := Kd.N_reads hN_
      have C50 : Hid _ := hC0_
      have L50 : Hid _ := hc0_
      clear hN_ hB_ hg_ hat_ hC0_ hc0_
      refine hK.out _ _ (GZ.out _ H4.out) (fun hHeld => ?_)
      clear hK K
      try simp only [Act.put, List.setIfInBounds_toArray, List.set_cons_zero, List.set_cons_succ]
      refine takeV 9 (some 10) (.slice A0 (by_ ++ [(⟨s, ⟨y0, y1, y2, y3⟩⟩ : S71)]).length c0) rfl rfl (by kernel_rfl) (by kernel_rfl) (by kernel_rfl) (fun _ _ _ h => h) (Or.inl ⟨by kernel_rfl, fun W hSw => by go_simp⟩) hHeld ?_
      try simp only [Act.put, List.setIfInBounds_toArray, List.set_cons_zero, List.set_cons_succ]
      refine takeV 10 (some 11) (.bool true) rfl rfl (by kernel_rfl) (by kernel_rfl) (by kernel_rfl) (fun _ _ _ h => h) (Or.inl ⟨by kernel_rfl, fun W hSw => by go_simp⟩) hHeld ?_
      try simp only [Act.put, List.setIfInBounds_toArray, List.set_cons_zero, List.set_cons_succ]
      refine wpAnyH_done (by kernel_rfl) ?_ _
      go_wp2_with fail
      go_ret2
      exact ⟨A0, c0, by (simp only [List.length_append, List.length_cons, List.length_nil]; rfl), L50.out, C50.out, below_after HZ.out (by first | exact H4.out | exact below_drew H4.out)⟩
    · clear hHeld
      refine Kd.N_lit_step k71 (w0 := Z) Z.heap.size 71 (by kernel_rfl) rfl (xs := [(⟨s, ⟨y0, y1, y2, y3⟩⟩ : S71)]) (inner := [.string s, .int .i64 y0, .int .i64 y1, .string y2, .slice B y3.length d]) (ok := fun k => k < Z.heap.size ∨ k = W1.heap.size) (okp := fun k => k < Z.heap.size) (by go_simp) ⟨rfl, fun j p hj => ?rep⟩ (fun _ h => .inl h) (.inr rfl) H1.out H1.out.size (by simp) ?_
      case rep =>
        rcases j with _ | j
        · obtain rfl := Option.some.inj hj
          exact FP.out _ H1.out
        · simp at hj
      intro v49 W2 hN_ hB_ hg_ hat_
      have H2 : Hid (Below Z.heap.size Z W2) := hB_
      have G1 : Hid (W1.grownBy W2 none) := hg_
      obtain ⟨A9, c9, rfl, hF_, hlt_⟩ := lit_facts hN_ hat_ H1.out.size
      have F9 : Hid (Kd.F k71 W2 (fun k => k < Z.heap.size ∨ k = W1.heap.size) A9 1 [(⟨s, ⟨y0, y1, y2, y3⟩⟩ : S71)]) := hF_
      have L9 : Hid (W1.heap.size < W2.heap.size) := hlt_
      clear hN_ hB_ hg_ hat_ hF_ hlt_
      refine hK.out _ _ (GZ.out _ H2.out) (fun hHeld => ?_)
      clear hK K
      try simp only [Act.put, List.setIfInBounds_toArray, List.set_cons_zero, List.set_cons_succ]
      have S42 : Hid (∀ q, v42.ownBlock = some q → Z.heap.size ≤ q ∧ q ≠ W1.heap.size) := fun q hq => ⟨Kd.N_base N42.out q hq, by have := Kd.N_lt N42.out q hq; omega⟩
      have GL : Hid (W1.heap.size < W2.heap.size) := L9.out
      refine wpAnyH_ready (rs := [2]) (by kernel_rfl) (by simp) ?_
      refine AllReadyH.cons rfl (fun K hK => ?_) AllReadyH.nil
      clear hHeld
      refine Kd.N_append_rows_step k71 (w0 := Z) Z.heap.size (by kernel_rfl) (.tmp 42) (.tmp 43) 29 71 (.agg #[(.string ⟨#[]⟩), (.int .i64 0), (.int .i64 0), (.string ⟨#[]⟩), (.slice none 0 0)]) 72 rfl Tryz.underlying29 info71 rfl (by decide) (by omega) v42 ([] : List S71) by_ Y by_.length cy (fun _ => True) (fun k => k < Z.heap.size) rfl rfl (Kd.N_grown N42.out G1.out (fun _ _ h => by cases h)) (FY.out _ H2.out) (fun k hk => ⟨trivial, fun he => by have := Kd.N_base (Kd.N_grown N42.out G1.out (fun _ _ h => by cases h)) k he.symm; omega⟩) (fun _ _ => trivial) H2.out H2.out.size (by simp only [List.length_nil]; omega) ?_
      intro v44 W3 hN_ hB_ hg_ hat_
      have N44 : Hid (Kd.N k71 71 W3 Z.heap.size (fun _ => True) v44 by_) := hN_
      have H3 : Hid (Below Z.heap.size Z W3) := hB_
      have G2 : Hid (W2.grownBy W3 v42.ownBlock) := hg_
      have A44 : Hid (v44.ownBlock = v42.ownBlock ∨ ∃ b, v44.ownBlock = some b ∧ W2.heap.size ≤ b) := hat_
      clear hN_ hB_ hg_ hat_
      refine hK.out _ _ (GZ.out _ H3.out) (fun hHeld => ?_)
      clear hK K
      try simp only [Act.put, List.setIfInBounds_toArray, List.set_cons_zero, List.set_cons_succ]
      refine wpAnyH_ready (rs := [8]) (by kernel_rfl) (by simp) ?_
      refine AllReadyH.cons rfl (fun K hK => ?_) AllReadyH.nil
      clear hHeld
      refine Kd.N_append_rows_step k71 (w0 := Z) Z.heap.size (by kernel_rfl) (.tmp 44) (.tmp 49) 29 71 (.agg #[(.string ⟨#[]⟩), (.int .i64 0), (.int .i64 0), (.string ⟨#[]⟩), (.slice none 0 0)]) 72 rfl Tryz.underlying29 info71 rfl (by decide) (by omega) v44 by_ [(⟨s, ⟨y0, y1, y2, y3⟩⟩ : S71)] A9 1 c9 (fun _ => True) (fun k => k < Z.heap.size ∨ k = W1.heap.size) rfl rfl N44.out (Kd.F_grown F9.out G2.out (fun k hk he => by have := S42.out k he.symm; omega)) (fun k hk => ⟨trivial, fun he => ?sep⟩) (fun _ _ => trivial) H3.out H3.out.size (by omega) ?_
      case sep =>
        have h44 := A44.out
        have hb42 : ∀ q, v42.ownBlock = some q → Z.heap.size ≤ q ∧ q ≠ W1.heap.size := S42.out
        have hg9 : W1.heap.size < W2.heap.size := GL.out
        rcases h44 with h44 | ⟨b, h44, hb⟩
        · have := hb42 k (by rw [← h44]; exact he.symm)
          omega
        · rw [h44] at he
          have he := Option.some.inj he
          have := H2.out.size
          omega
      intro v50 W4 hN_ hB_ hg_ hat_
      have H4 : Hid (Below Z.heap.size Z W4) := hB_
      obtain ⟨A0, c0, rfl, hc0_, hC0_⟩ := Kd.N_reads hN_
      have C50 : Hid _ := hC0_
      have L50 : Hid _ := hc0_
      clear hN_ hB_ hg_ hat_ hC0_ hc0_
      refine hK.out _ _ (GZ.out _ H4.out) (fun hHeld => ?_)
      clear hK K
      try simp only [Act.put, List.setIfInBounds_toArray, List.set_cons_zero, List.set_cons_succ]
      refine takeV 9 (some 10) (.slice A0 (by_ ++ [(⟨s, ⟨y0, y1, y2, y3⟩⟩ : S71)]).length c0) rfl rfl (by kernel_rfl) (by kernel_rfl) (by kernel_rfl) (fun _ _ _ h => h) (Or.inl ⟨by kernel_rfl, fun W hSw => by go_simp⟩) hHeld ?_
      try simp only [Act.put, List.setIfInBounds_toArray, List.set_cons_zero, List.set_cons_succ]
      refine takeV 10 (some 11) (.bool true) rfl rfl (by kernel_rfl) (by kernel_rfl) (by kernel_rfl) (fun _ _ _ h => h) (Or.inl ⟨by kernel_rfl, fun W hSw => by go_simp⟩) hHeld ?_
      try simp only [Act.put, List.setIfInBounds_toArray, List.set_cons_zero, List.set_cons_succ]
      refine wpAnyH_done (by kernel_rfl) ?_ _
      go_wp2_with fail
      go_ret2
      exact ⟨A0, c0, by (simp only [List.length_append, List.length_cons, List.length_nil]; rfl), L50.out, C50.out, below_after HZ.out (by first | exact H4.out | exact below_drew H4.out)⟩
  · clear hHeld
    refine Kd.N_lit_step k71 (w0 := Z) Z.heap.size 71 (by kernel_rfl) rfl (xs := [(⟨s, ⟨y0, y1, y2, y3⟩⟩ : S71)]) (inner := [.string s, .int .i64 y0, .int .i64 y1, .string y2, .slice B y3.length d]) (ok := fun k => k < Z.heap.size ∨ k = W0.heap.size) (okp := fun k => k < Z.heap.size) (by go_simp) ⟨rfl, fun j p hj => ?rep⟩ (fun _ h => .inl h) (.inr rfl) H0.out H0.out.size (by simp) ?_
    case rep =>
      rcases j with _ | j
      · obtain rfl := Option.some.inj hj
        exact FP.out _ H0.out
      · simp at hj
    intro v49 W1 hN_ hB_ hg_ hat_
    have H1 : Hid (Below Z.heap.size Z W1) := hB_
    have G1 : Hid (W0.grownBy W1 none) := hg_
    obtain ⟨A9, c9, rfl, hF_, hlt_⟩ := lit_facts hN_ hat_ H0.out.size
    have F9 : Hid (Kd.F k71 W1 (fun k => k < Z.heap.size ∨ k = W0.heap.size) A9 1 [(⟨s, ⟨y0, y1, y2, y3⟩⟩ : S71)]) := hF_
    have L9 : Hid (W0.heap.size < W1.heap.size) := hlt_
    clear hN_ hB_ hg_ hat_ hF_ hlt_
    refine hK.out _ _ (GZ.out _ H1.out) (fun hHeld => ?_)
    clear hK K
    try simp only [Act.put, List.setIfInBounds_toArray, List.set_cons_zero, List.set_cons_succ]
    refine wpAnyH_ready (rs := [0]) (by kernel_rfl) (by simp) ?_
    refine AllReadyH.cons rfl (fun K hK => ?_) AllReadyH.nil
    clear hHeld
    refine Kd.N_lit_step k71 (w0 := Z) Z.heap.size 71 (by kernel_rfl) rfl (xs := ([] : List S71)) (inner := []) (ok := fun _ => True) (okp := fun k => k < Z.heap.size) (by go_simp) (Reps.none _ _) (fun _ _ => trivial) trivial H1.out H1.out.size (by simp) ?_
    intro v42 W2 hN_ hB_ hg_ hat_
    have N42 : Hid _ := hN_
    have H2 : Hid (Below Z.heap.size Z W2) := hB_
    have G0 : Hid (W1.grownBy W2 none) := hg_
    have A42 : Hid (∃ b, v42.ownBlock = some b ∧ W1.heap.size ≤ b) := hat_
    clear hN_ hB_ hg_ hat_
    refine hK.out _ _ (GZ.out _ H2.out) (fun hHeld => ?_)
    clear hK K
    try simp only [Act.put, List.setIfInBounds_toArray, List.set_cons_zero, List.set_cons_succ]
    have S42 : Hid (∀ q, v42.ownBlock = some q → Z.heap.size ≤ q ∧ q ≠ W0.heap.size) := fun q hq => ⟨Kd.N_base N42.out q hq, by
      obtain ⟨b, hb, hle⟩ := A42.out
      rw [hq] at hb
      have hb := Option.some.inj hb
      have := L9.out
      omega⟩
    have GL : Hid (W0.heap.size < W2.heap.size) := by have h1 := L9.out; have h2 := G0.out.size; exact Nat.lt_of_lt_of_le h1 h2
    refine wpAnyH_ready (rs := [2]) (by kernel_rfl) (by simp) ?_
    refine AllReadyH.cons rfl (fun K hK => ?_) AllReadyH.nil
    clear hHeld
    refine Kd.N_append_rows_step k71 (w0 := Z) Z.heap.size (by kernel_rfl) (.tmp 42) (.tmp 43) 29 71 (.agg #[(.string ⟨#[]⟩), (.int .i64 0), (.int .i64 0), (.string ⟨#[]⟩), (.slice none 0 0)]) 72 rfl Tryz.underlying29 info71 rfl (by decide) (by omega) v42 ([] : List S71) by_ Y by_.length cy (fun _ => True) (fun k => k < Z.heap.size) rfl rfl N42.out (FY.out _ H2.out) (fun k hk => ⟨trivial, fun he => by have := Kd.N_base N42.out k he.symm; omega⟩) (fun _ _ => trivial) H2.out H2.out.size (by simp only [List.length_nil]; omega) ?_
    intro v44 W3 hN_ hB_ hg_ hat_
    have N44 : Hid (Kd.N k71 71 W3 Z.heap.size (fun _ => True) v44 by_) := hN_
    have H3 : Hid (Below Z.heap.size Z W3) := hB_
    have G2 : Hid (W2.grownBy W3 v42.ownBlock) := hg_
    have A44 : Hid (v44.ownBlock = v42.ownBlock ∨ ∃ b, v44.ownBlock = some b ∧ W2.heap.size ≤ b) := hat_
    clear hN_ hB_ hg_ hat_
    refine hK.out _ _ (GZ.out _ H3.out) (fun hHeld => ?_)
    clear hK K
    try simp only [Act.put, List.setIfInBounds_toArray, List.set_cons_zero, List.set_cons_succ]
    refine wpAnyH_ready (rs := [8]) (by kernel_rfl) (by simp) ?_
    refine AllReadyH.cons rfl (fun K hK => ?_) AllReadyH.nil
    clear hHeld
    refine Kd.N_append_rows_step k71 (w0 := Z) Z.heap.size (by kernel_rfl) (.tmp 44) (.tmp 49) 29 71 (.agg #[(.string ⟨#[]⟩), (.int .i64 0), (.int .i64 0), (.string ⟨#[]⟩), (.slice none 0 0)]) 72 rfl Tryz.underlying29 info71 rfl (by decide) (by omega) v44 by_ [(⟨s, ⟨y0, y1, y2, y3⟩⟩ : S71)] A9 1 c9 (fun _ => True) (fun k => k < Z.heap.size ∨ k = W0.heap.size) rfl rfl N44.out (Kd.F_grown (Kd.F_grown F9.out G0.out (fun _ _ h => by cases h)) G2.out (fun k hk he => by have := S42.out k he.symm; omega)) (fun k hk => ⟨trivial, fun he => ?sep⟩) (fun _ _ => trivial) H3.out H3.out.size (by omega) ?_
    case sep =>
      have h44 := A44.out
      have hb42 : ∀ q, v42.ownBlock = some q → Z.heap.size ≤ q ∧ q ≠ W0.heap.size := S42.out
      have hg9 : W0.heap.size < W2.heap.size := GL.out
      rcases h44 with h44 | ⟨b, h44, hb⟩
      · have := hb42 k (by rw [← h44]; exact he.symm)
        omega
      · rw [h44] at he
        have he := Option.some.inj he
        have := H2.out.size
        omega
    intro v50 W4 hN_ hB_ hg_ hat_
    have H4 : Hid (Below Z.heap.size Z W4) := hB_
    obtain ⟨A0, c0, rfl, hc0_, hC0_⟩ := Kd.N_reads hN_
    have C50 : Hid _ := hC0_
    have L50 : Hid _ := hc0_
    clear hN_ hB_ hg_ hat_ hC0_ hc0_
    refine hK.out _ _ (GZ.out _ H4.out) (fun hHeld => ?_)
    clear hK K
    try simp only [Act.put, List.setIfInBounds_toArray, List.set_cons_zero, List.set_cons_succ]
    refine takeV 9 (some 10) (.slice A0 (by_ ++ [(⟨s, ⟨y0, y1, y2, y3⟩⟩ : S71)]).length c0) rfl rfl (by kernel_rfl) (by kernel_rfl) (by kernel_rfl) (fun _ _ _ h => h) (Or.inl ⟨by kernel_rfl, fun W hSw => by go_simp⟩) hHeld ?_
    try simp only [Act.put, List.setIfInBounds_toArray, List.set_cons_zero, List.set_cons_succ]
    refine takeV 10 (some 11) (.bool true) rfl rfl (by kernel_rfl) (by kernel_rfl) (by kernel_rfl) (fun _ _ _ h => h) (Or.inl ⟨by kernel_rfl, fun W hSw => by go_simp⟩) hHeld ?_
    try simp only [Act.put, List.setIfInBounds_toArray, List.set_cons_zero, List.set_cons_succ]
    refine wpAnyH_done (by kernel_rfl) ?_ _
    go_wp2_with fail
    go_ret2
    exact ⟨A0, c0, by (simp only [List.length_append, List.length_cons, List.length_nil]; rfl), L50.out, C50.out, below_after HZ.out (by first | exact H4.out | exact below_drew H4.out)⟩
end Go.Proofs.YtcjmplpfebpfpaaGreatDoor
