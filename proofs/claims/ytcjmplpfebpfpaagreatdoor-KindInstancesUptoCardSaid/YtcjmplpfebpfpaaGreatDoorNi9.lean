/- KindInstances, part 9: the print's words and functions that it leans on, cut to what is reached, and own texts. -/
import Derived.WideShapes
import Derived.Test.YtcjmplpfebpfpaaGreatDoorNi8
namespace Go.Proofs.YtcjmplpfebpfpaaGreatDoor
open Go.RowKit Go.Proofs Go.Proofs.YtcjmplpfebpfpaaGreatDoorW.PrintWords Go.Proofs.YtcjmplpfebpfpaaGreatDoorW.PrintLast Go.Proofs.YtcjmplpfebpfpaaGreatDoorW.PrintMore PKindInstances
set_option linter.unusedVariables false
set_option linter.unusedSimpArgs false

set_option maxRecDepth 100000 in
set_option maxHeartbeats 16000000 in
theorem match_open (vs : List ByteArray) (W0 w : World) (base sp vb tb : Nat) (mt : List (ByteArray × S24)) (mtv : List (ByteArray × Value)) (a1 : Int) (a2 : ByteArray) (la : List S24) (b1 : Int) (b2 : ByteArray) (lb : List S24) (A B : Option Addr) (c d : Nat)
    (hs : SolvAt base w sp vb tb (varsV vs) mtv) (ht : ToAt W0 mt mtv) (hw : Below W0.heap.size W0 w) (hb : W0.heap.size ≤ base) (ha1 : Kd.C k24 W0 A la.length la) (ha2 : la.length ≤ c) (ha3 : wids la < 9000000) (hb1 : Kd.C k24 W0 B lb.length lb) (hb2 : lb.length ≤ d) (hb3 : wids lb < 9000000)
    (hll : la.length = lb.length) (hq : ∀ x ∈ la, MatchOk vs x ∧ wid x < 9000000) (R : Bool × List (ByteArray × S24)) (hR : matchL vs (isFunW (headL la)) false 0 la lb mt = R) :
    Calls Tryz.prog 63 #[formV 3 a1 a2 A la.length c, formV 3 b1 b2 B lb.length d, .map (some vb), .map (some tb), .bool false] w (MaPost W0 w base sp vb tb vs R) := by
  have hu24 := Tryz.underlying24
  have h1 := wids_len la
  have h2 := wids_len lb
  obtain ⟨x1, x2, xb⟩ := boxes2 w (Obj.cells #[.int .i64 3, .int .i64 a1, .string a2, .slice A la.length c] 24) (Obj.cells #[.int .i64 3, .int .i64 b1, .string b2, .slice B lb.length d] 24)
  have htb : tb < w.heap.size := hs.tos.lt
  have hsb := hs.bt
  have HS : Hid _ := hs.below xb
  have HXG : Hid (w.grownBy _ (some tb)) := grown_of_below xb (some tb)
  have HXW : Hid _ := (hw.trans (xb.mono hw.size) : Below W0.heap.size W0 _)
  have HT : Hid _ := ht
  have HA : Hid _ := ha1
  have HBB : Hid _ := hb1
  have HQ : Hid _ := hq
  have en : ((la.length : Int) != (lb.length : Int)) = false := bne_eq_false_iff_eq.mpr (by omega)
  have hle : la.length ≤ lb.length := by omega
  clear hll
  have HD : Hid (∀ wq, Below w.heap.size w wq → _) := fun wq hwq => Head_three a1 a2 (A := A) (l := la) c wq (Kd.C_below ha1 (hw.trans (hwq.mono hw.size)))
  obtain ⟨fn, hfn⟩ : ∃ fn, fn = isFunW (headL la) := ⟨_, rfl⟩
  obtain ⟨hd, hhd⟩ : ∃ hd, hd = headL la := ⟨_, rfl⟩
  have hfn2 : (hd.toList == [102, 117, 110]) = fn := by rw [hfn, hhd]; rfl
  rw [← hfn] at hR
  rw [← hhd] at HD
  have XB : Hid _ := xb
  clear hs ht hw ha1 hb1 xb hq hfn hhd
  go_enter Tryz.func63, Tryz.ntmps63
  go_upto_region 1 with fail
  generalize (w.alloc (Obj.cells #[.int .i64 3, .int .i64 a1, .string a2, .slice A la.length c] 24)).alloc (Obj.cells #[.int .i64 3, .int .i64 b1, .string b2, .slice B lb.length d] 24) = X0 at *
  obtain ⟨p0, p1, p2, p3⟩ := cells4 x1
  obtain ⟨q0, q1, q2, q3⟩ := cells4 x2
  generalize hbB : w.heap.size + 1 = bB at *
  go_wp2_with fail
  refine Calls.mono (HD.out _ XB.out) ?_
  rintro e X ⟨rfl, BX⟩
  replace p0 := pw_cell_below BX p0
  replace p1 := pw_cell_below BX p1
  replace p2 := pw_cell_below BX p2
  replace p3 := pw_cell_below BX p3
  replace q0 := pw_cell_below BX q0
  replace q1 := pw_cell_below BX q1
  replace q2 := pw_cell_below BX q2
  replace q3 := pw_cell_below BX q3
  replace HS : Hid _ := HS.out.below BX
  replace HXG : Hid _ := HXG.out.trans (grown_of_below BX (some tb))
  replace HXW : Hid (Below W0.heap.size W0 X) := HXW.out.trans (BX.mono HXW.out.size)
  have start : Hid (MaRel W0 X base sp vb tb vs fn false la lb R la.length (.int .i64 ((0 : Nat) : Int)) X) := ⟨0, mt, mtv, rfl, rfl, ⟨rfl, rfl, rfl, Nat.le_refl _, fun _ _ _ => rfl⟩, HS.out, HT.out, hR⟩
  have HB3 : Hid _ := q3
  clear x1 x2 hR BX XB HD
  go_wp2_with fail
  try simp only [hfn2]
  go_loopg [73] la.length (fun k x73 wr => MaRel W0 X base sp vb tb vs fn false la lb R k x73 wr)
  case atStart => exact start.out
  case round =>
    clear start
    obtain ⟨i, mt2, mtv2, rfl, hki, hg, hS, hT, hV⟩ := hrel
    have hW := pw_below_grown HXW.out (some tb) HXW.out.size hg (fun k hk => by cases hk; omega)
    by_cases hlt : i < la.length
    · obtain ⟨g, rfl⟩ : ∃ g, gk = g + 1 := ⟨gk - 1, by omega⟩
      have e1 : decide (i < la.length) = true := decide_eq_true hlt
      obtain ⟨x, hx⟩ : ∃ x, la[i]? = some x := ⟨la[i]'(by omega), List.getElem?_eq_getElem _⟩
      obtain ⟨y, hy⟩ : ∃ y, lb[i]? = some y := ⟨lb[i]'(by omega), List.getElem?_eq_getElem _⟩
      obtain ⟨ad, A5, c5, rfl, g0, g1, g2, g3, g4, g5⟩ := row_at HA.out (by omega) hx
      obtain ⟨ae, B5, d5, rfl, k0, k1, k2, k3, k4, k5⟩ := row_at HBB.out (by omega) hy
      have haeb : (ae.add (i * 4)).block < W0.heap.size := World.block_lt_of_cell? _ _ k0
      have hneB : bB ≠ tb := by omega
      have hnet : (ae.add (i * 4)).block ≠ tb := by omega
      replace g0 := pw_cell_below hW g0
      replace g1 := pw_cell_below hW g1
      replace g2 := pw_cell_below hW g2
      replace g3 := pw_cell_below hW g3
      replace k0 := pw_cell_below hW k0
      replace k1 := pw_cell_below hW k1
      replace k2 := pw_cell_below hW k2
      replace k3 := pw_cell_below hW k3
      rw [drop_at3 hx, drop_at3 hy] at hV
      simp only [matchL] at hV
      obtain ⟨hMM, SX⟩ := HQ.out x (List.mem_of_getElem? hx)
      have SY : wid y < 9000000 := by have := wid_mem (List.mem_of_getElem? hy); omega
      have q3 := cell_grown hg HB3.out (fun h => hneB (Option.some.inj h))
      have MQ : Hid _ := hMM
      have G5 : Hid _ := g5
      have K5 : Hid _ := k5
      have HV : Hid _ := hV
      clear hx hy hMM g5 k5 hV
      obtain ⟨x0, x1, x2, x3⟩ := x
      obtain ⟨y0, y1, y2, y3⟩ := y
      go_upto_region 15 with fail
      have Bk := below_alloc (Below.refl wr.heap.size wr) (Obj.cells #[.int .i64 x0, .int .i64 x1, .string x2, .slice A5 x3.length c5] 24)
      have X3 := (MapKept.heap_alloc wr (Obj.cells #[.int .i64 x0, .int .i64 x1, .string x2, .slice A5 x3.length c5] 24)).1
      replace q3 := pw_cell_below Bk q3
      replace k0 := pw_cell_below Bk k0
      replace k1 := pw_cell_below Bk k1
      replace k2 := pw_cell_below Bk k2
      replace k3 := pw_cell_below Bk k3
      have hnk : wr.heap.size ≠ tb := by have := hS.tos.lt; omega
      replace hg := hg.trans (grown_of_below Bk (some tb))
      replace hS := hS.below Bk
      replace hW := hW.trans (Bk.mono hW.size)
      clear g0 g1 g2 g3 Bk
      generalize wr.alloc (Obj.cells #[.int .i64 x0, .int .i64 x1, .string x2, .slice A5 x3.length c5] 24) = wk at *
      generalize wr.heap.size = bk at *
      obtain ⟨p0, p1, p2, p3⟩ := cells4 X3
      have HF : Hid (∀ W : World, wk.grownBy W (some tb) → W.cell? ⟨bB, 3, none⟩ = some (.slice (some ae) lb.length d) ∧ (W.cell? ⟨bk, 0, none⟩ = some (.int .i64 x0) ∧ W.cell? ⟨bk, 1, none⟩ = some (.int .i64 x1) ∧ W.cell? ⟨bk, 2, none⟩ = some (.string x2) ∧ W.cell? ⟨bk, 3, none⟩ = some (.slice A5 x3.length c5)) ∧ W.cell? (ae.add (i * 4)) = some (.int .i64 y0) ∧ W.cell? ⟨(ae.add (i * 4)).block, (ae.add (i * 4)).off + 1, none⟩ = some (.int .i64 y1) ∧ W.cell? ⟨(ae.add (i * 4)).block, (ae.add (i * 4)).off + 2, none⟩ = some (.string y2) ∧ W.cell? ⟨(ae.add (i * 4)).block, (ae.add (i * 4)).off + 3, none⟩ = some (.slice B5 y3.length d5)) := fun W h => ⟨cell_grown h q3 (fun h => hneB (Option.some.inj h)), ⟨cell_grown h p0 (fun h => hnk (Option.some.inj h)), cell_grown h p1 (fun h => hnk (Option.some.inj h)), cell_grown h p2 (fun h => hnk (Option.some.inj h)), cell_grown h p3 (fun h => hnk (Option.some.inj h))⟩, cell_grown h k0 (fun h => hnet (Option.some.inj h)), cell_grown h k1 (fun h => hnet (Option.some.inj h)), cell_grown h k2 (fun h => hnet (Option.some.inj h)), cell_grown h k3 (fun h => hnet (Option.some.inj h))⟩
      have HG : Hid (X.grownBy wk (some tb)) := hg
      have HS2 : Hid _ := hS
      have HT2 : Hid _ := hT
      have HW2 : Hid _ := hW
      clear X3 hg hS hT hW k0 k1 k2 k3 q3
      have hV := HV.out
      clear HV
      by_cases hi : i = 0
      · have hi2 : ((i : Int) == 0) = true := beq_iff_eq.mpr (by omega)
        by_cases hk1 : x0 = 1
        · subst hk1
          rw [if_pos (by simp [hi])] at hV
          have HF2 : Hid (∀ W : World, wk.grownBy W (some tb) → W.cell? ⟨bB, 3, none⟩ = some (.slice (some ae) lb.length d) ∧ (W.cell? ⟨bk, 0, none⟩ = some (.int .i64 1) ∧ W.cell? ⟨bk, 1, none⟩ = some (.int .i64 x1) ∧ W.cell? ⟨bk, 2, none⟩ = some (.string x2) ∧ W.cell? ⟨bk, 3, none⟩ = some (.slice A5 x3.length c5)) ∧ W.cell? ae = some (.int .i64 y0) ∧ W.cell? ⟨ae.block, ae.off + 1, none⟩ = some (.int .i64 y1) ∧ W.cell? ⟨ae.block, ae.off + 2, none⟩ = some (.string y2) ∧ W.cell? ⟨ae.block, ae.off + 3, none⟩ = some (.slice B5 y3.length d5)) := by
            intro W h
            have e0 : ae.add (i * 4) = ae := by rw [hi]; exact add_none ae
            have := HF.out W h
            rw [e0] at this
            exact this
          have hlb0 : lb ≠ [] := by intro h; rw [h] at hle; simp at hle; rw [hle] at hlt; simp at hlt
          have hlb1 : decide (0 < lb.length) = true := decide_eq_true (by omega)
          have EQ : Hid (∀ wq, Below wk.heap.size wk wq → _) := fun wq hwq => Equal_any ⟨1, x1, x2, x3⟩ ⟨y0, y1, y2, y3⟩ A5 B5 c5 d5 wq (Kd.C_below G5.out (HW2.out.trans (hwq.mono HW2.out.size))) g4 (Kd.C_below K5.out (HW2.out.trans (hwq.mono HW2.out.size))) k4 SX SY
          obtain ⟨q1, hq1⟩ : ∃ q1, q1 = eqM ⟨1, x1, x2, x3⟩ ⟨y0, y1, y2, y3⟩ := ⟨_, rfl⟩
          rw [← hq1] at EQ hV
          clear hq1 MQ hi
          go_wp2_with fail
          clear p0 p1 p2 p3
          refine wp_region_held_drew (S := fun W => W.cell? ⟨bB, 3, none⟩ = some (.slice (some ae) lb.length d) ∧ (W.cell? ⟨bk, 0, none⟩ = some (.int .i64 1) ∧ W.cell? ⟨bk, 1, none⟩ = some (.int .i64 x1) ∧ W.cell? ⟨bk, 2, none⟩ = some (.string x2) ∧ W.cell? ⟨bk, 3, none⟩ = some (.slice A5 x3.length c5)) ∧ W.cell? ae = some (.int .i64 y0) ∧ W.cell? ⟨ae.block, ae.off + 1, none⟩ = some (.int .i64 y1) ∧ W.cell? ⟨ae.block, ae.off + 2, none⟩ = some (.string y2) ∧ W.cell? ⟨ae.block, ae.off + 3, none⟩ = some (.slice B5 y3.length d5)) (by kernel_rfl) (HF2.out _ (grown_of_below (below_drew (Below.refl _ _)) (some tb))) (fun hHeld => ?_)
          refine takeV 0 (some 89) (formV 1 x1 x2 A5 x3.length c5) rfl rfl (by kernel_rfl) (by kernel_rfl) (by kernel_rfl) (fun _ _ _ h => h) (Or.inl ⟨by kernel_rfl, fun W hSw => by obtain ⟨s9, ⟨t0, t1, t2, t3⟩, u0, u1, u2, u3⟩ := hSw; go_simp⟩) hHeld ?_
          try simp only [Act.put, List.setIfInBounds_toArray, List.set_cons_zero, List.set_cons_succ]
          refine takeV 1 (some 90) (.pointer (some ⟨bB, 3, none⟩)) rfl rfl (by kernel_rfl) (by kernel_rfl) (by kernel_rfl) (fun _ _ _ h => h) (Or.inl ⟨by kernel_rfl, fun W hSw => by obtain ⟨s9, ⟨t0, t1, t2, t3⟩, u0, u1, u2, u3⟩ := hSw; go_simp⟩) hHeld ?_
          try simp only [Act.put, List.setIfInBounds_toArray, List.set_cons_zero, List.set_cons_succ]
          refine takeV 2 (some 91) (.slice (some ae) lb.length d) rfl rfl (by kernel_rfl) (by kernel_rfl) (by kernel_rfl) (fun _ _ _ h => h) (Or.inl ⟨by kernel_rfl, fun W hSw => by obtain ⟨s9, ⟨t0, t1, t2, t3⟩, u0, u1, u2, u3⟩ := hSw; go_simp⟩) hHeld ?_
          try simp only [Act.put, List.setIfInBounds_toArray, List.set_cons_zero, List.set_cons_succ]
          refine takeV 3 (some 92) (.pointer (some ae)) rfl rfl (by kernel_rfl) (by kernel_rfl) (by kernel_rfl) (fun _ _ _ h => h) (Or.inl ⟨by kernel_rfl, fun W hSw => by obtain ⟨s9, ⟨t0, t1, t2, t3⟩, u0, u1, u2, u3⟩ := hSw; go_simp; first | done | (intro h9; exact absurd h9 hlb0) | (intro h9; exact absurd h9 (by omega))⟩) hHeld ?_
          try simp only [Act.put, List.setIfInBounds_toArray, List.set_cons_zero, List.set_cons_succ]
          refine takeV 4 (some 93) (formV y0 y1 y2 B5 y3.length d5) rfl rfl (by kernel_rfl) (by kernel_rfl) (by kernel_rfl) (fun _ _ _ h => h) (Or.inl ⟨by kernel_rfl, fun W hSw => by obtain ⟨s9, ⟨t0, t1, t2, t3⟩, u0, u1, u2, u3⟩ := hSw; go_simp⟩) hHeld ?_
          try simp only [Act.put, List.setIfInBounds_toArray, List.set_cons_zero, List.set_cons_succ]
          refine wpAnyH_ready (rs := [5]) (by kernel_rfl) (by simp) ?_
          refine AllReadyH.cons rfl (fun K hK => ?_) AllReadyH.nil
          clear hHeld
          go_simp
          go_at_call 96
          refine Calls.mono (EQ.out _ (below_drew (Below.refl _ _))) ?_
          rintro e w6 ⟨rfl, B6⟩
          have B7 := below_after (below_drew (Below.refl wk.heap.size wk)) B6
          have G6 : Hid (wk.grownBy w6 (some tb)) := grown_of_below B7 (some tb)
          have HSn := HF2.out _ G6.out
          have H8 : Hid _ := HS2.out.below B7
          clear B6 B7
          cases q1 with
          | true =>
            simp only [if_true] at hV
            have HV9 : Hid _ := hV
            clear hV
            go_wp2_with fail
            refine hK.out _ _ HSn (fun hHeld => ?_)
            clear hK K HSn
            try simp only [Act.put, List.setIfInBounds_toArray, List.set_cons_zero, List.set_cons_succ]
            refine takeV 6 (some 95) (.bool false) rfl rfl (by kernel_rfl) (by kernel_rfl) (by kernel_rfl) (fun _ _ _ h => h) (Or.inl ⟨by kernel_rfl, fun W hSw => by go_simp⟩) hHeld ?_
            try simp only [Act.put, List.setIfInBounds_toArray, List.set_cons_zero, List.set_cons_succ]
            refine wpAnyH_done (by kernel_rfl) ?_ _
            go_wp2_with fail
            go_roundg g
            case measure => omega
            case rel => exact ⟨i + 1, _, mtv2, by go_num, by omega, HG.out.trans G6.out, H8.out, HT2.out, HV9.out⟩
          | false =>
            simp only [Bool.false_eq_true, if_false] at hV
            subst hV
            go_wp2_with fail
            refine hK.out _ _ HSn (fun hHeld => ?_)
            clear hK K HSn
            try simp only [Act.put, List.setIfInBounds_toArray, List.set_cons_zero, List.set_cons_succ]
            refine takeV 6 (some 95) (.bool true) rfl rfl (by kernel_rfl) (by kernel_rfl) (by kernel_rfl) (fun _ _ _ h => h) (Or.inl ⟨by kernel_rfl, fun W hSw => by go_simp⟩) hHeld ?_
            try simp only [Act.put, List.setIfInBounds_toArray, List.set_cons_zero, List.set_cons_succ]
            refine wpAnyH_done (by kernel_rfl) ?_ _
            go_wp2_with fail
            go_ret
            exact ⟨rfl, HXG.out.trans (HG.out.trans G6.out), mtv2, H8.out, HT2.out⟩
        · have hk2 : (x0 == 1) = false := beq_eq_false_iff_ne.mpr hk1
          have hi3 : ((i : Int) == 1) = false := beq_eq_false_iff_ne.mpr (by omega)
          rw [if_neg (fun h => hk1 h.2.2), show (fn && decide (i = 1) && (x0 == 3)) = false from by rw [decide_eq_false (by omega)]; cases fn <;> rfl] at hV
          clear hk1 hi
          have MM : Hid (∀ wq, Below wk.heap.size wk wq → _) := fun wq hwq => MQ.out W0 wq base sp vb tb mt2 mtv2 ⟨y0, y1, y2, y3⟩ false A5 B5 c5 d5 (HS2.out.below hwq) HT2.out (HW2.out.trans (hwq.mono HW2.out.size)) hb G5.out g4 SX K5.out k4 SY
          obtain ⟨Q, hQ⟩ : ∃ Q, Q = matchM vs ⟨x0, x1, x2, x3⟩ ⟨y0, y1, y2, y3⟩ false mt2 := ⟨_, rfl⟩
          rw [← hQ] at MM hV
          clear hQ MQ
          obtain ⟨q1, mt3⟩ := Q
          simp only [] at hV
          go_wp2_with fail
          clear p0 p1 p2 p3
          cases fn with
          | false =>
            refine wp_region_held_drew (S := fun W => W.cell? ⟨bB, 3, none⟩ = some (.slice (some ae) lb.length d) ∧ (W.cell? ⟨bk, 0, none⟩ = some (.int .i64 x0) ∧ W.cell? ⟨bk, 1, none⟩ = some (.int .i64 x1) ∧ W.cell? ⟨bk, 2, none⟩ = some (.string x2) ∧ W.cell? ⟨bk, 3, none⟩ = some (.slice A5 x3.length c5)) ∧ W.cell? (ae.add (i * 4)) = some (.int .i64 y0) ∧ W.cell? ⟨(ae.add (i * 4)).block, (ae.add (i * 4)).off + 1, none⟩ = some (.int .i64 y1) ∧ W.cell? ⟨(ae.add (i * 4)).block, (ae.add (i * 4)).off + 2, none⟩ = some (.string y2) ∧ W.cell? ⟨(ae.add (i * 4)).block, (ae.add (i * 4)).off + 3, none⟩ = some (.slice B5 y3.length d5)) (by kernel_rfl) (HF.out _ (grown_of_below (below_drew (Below.refl _ _)) (some tb))) (fun hHeld => ?_)
            refine takeV 0 (some 96) (formV x0 x1 x2 A5 x3.length c5) rfl rfl (by kernel_rfl) (by kernel_rfl) (by kernel_rfl) (fun _ _ _ h => h) (Or.inl ⟨by kernel_rfl, fun W hSw => by obtain ⟨s9, ⟨t0, t1, t2, t3⟩, u0, u1, u2, u3⟩ := hSw; go_simp⟩) hHeld ?_
            try simp only [Act.put, List.setIfInBounds_toArray, List.set_cons_zero, List.set_cons_succ]
            refine takeV 1 (some 97) (.pointer (some ⟨bB, 3, none⟩)) rfl rfl (by kernel_rfl) (by kernel_rfl) (by kernel_rfl) (fun _ _ _ h => h) (Or.inl ⟨by kernel_rfl, fun W hSw => by obtain ⟨s9, ⟨t0, t1, t2, t3⟩, u0, u1, u2, u3⟩ := hSw; go_simp⟩) hHeld ?_
            try simp only [Act.put, List.setIfInBounds_toArray, List.set_cons_zero, List.set_cons_succ]
            refine takeV 2 (some 98) (.slice (some ae) lb.length d) rfl rfl (by kernel_rfl) (by kernel_rfl) (by kernel_rfl) (fun _ _ _ h => h) (Or.inl ⟨by kernel_rfl, fun W hSw => by obtain ⟨s9, ⟨t0, t1, t2, t3⟩, u0, u1, u2, u3⟩ := hSw; go_simp⟩) hHeld ?_
            try simp only [Act.put, List.setIfInBounds_toArray, List.set_cons_zero, List.set_cons_succ]
            refine takeV 3 (some 99) (.int .i64 (i : Int)) rfl rfl (by kernel_rfl) (by kernel_rfl) (by kernel_rfl) (fun _ _ _ h => h) (Or.inl ⟨by kernel_rfl, fun W hSw => by obtain ⟨s9, ⟨t0, t1, t2, t3⟩, u0, u1, u2, u3⟩ := hSw; go_simp⟩) hHeld ?_
            try simp only [Act.put, List.setIfInBounds_toArray, List.set_cons_zero, List.set_cons_succ]
            refine takeV 4 (some 100) (.pointer (some (ae.add (i * 4)))) rfl rfl (by kernel_rfl) (by kernel_rfl) (by kernel_rfl) (fun _ _ _ h => h) (Or.inl ⟨by kernel_rfl, fun W hSw => by obtain ⟨s9, ⟨t0, t1, t2, t3⟩, u0, u1, u2, u3⟩ := hSw; go_simp; first | done | (intro h9; exact absurd h9 (by omega))⟩) hHeld ?_
            try simp only [Act.put, List.setIfInBounds_toArray, List.set_cons_zero, List.set_cons_succ]
            refine takeV 5 (some 101) (formV y0 y1 y2 B5 y3.length d5) rfl rfl (by kernel_rfl) (by kernel_rfl) (by kernel_rfl) (fun _ _ _ h => h) (Or.inl ⟨by kernel_rfl, fun W hSw => by obtain ⟨s9, ⟨t0, t1, t2, t3⟩, u0, u1, u2, u3⟩ := hSw; go_simp⟩) hHeld ?_
            try simp only [Act.put, List.setIfInBounds_toArray, List.set_cons_zero, List.set_cons_succ]
            refine takeV 6 (some 102) (.map (some vb)) rfl rfl (by kernel_rfl) (by kernel_rfl) (by kernel_rfl) (fun _ _ _ h => h) (Or.inl ⟨by kernel_rfl, fun W hSw => by obtain ⟨s9, ⟨t0, t1, t2, t3⟩, u0, u1, u2, u3⟩ := hSw; go_simp⟩) hHeld ?_
            try simp only [Act.put, List.setIfInBounds_toArray, List.set_cons_zero, List.set_cons_succ]
            refine takeV 7 (some 103) (.map (some tb)) rfl rfl (by kernel_rfl) (by kernel_rfl) (by kernel_rfl) (fun _ _ _ h => h) (Or.inl ⟨by kernel_rfl, fun W hSw => by obtain ⟨s9, ⟨t0, t1, t2, t3⟩, u0, u1, u2, u3⟩ := hSw; go_simp⟩) hHeld ?_
            try simp only [Act.put, List.setIfInBounds_toArray, List.set_cons_zero, List.set_cons_succ]
            refine takeV 8 (some 104) (.bool false) rfl rfl (by kernel_rfl) (by kernel_rfl) (by kernel_rfl) (fun _ _ _ h => h) (Or.inl ⟨by kernel_rfl, fun W hSw => by obtain ⟨s9, ⟨t0, t1, t2, t3⟩, u0, u1, u2, u3⟩ := hSw; go_simp⟩) hHeld ?_
            try simp only [Act.put, List.setIfInBounds_toArray, List.set_cons_zero, List.set_cons_succ]
            refine takeV 9 (some 105) (.bool false) rfl rfl (by kernel_rfl) (by kernel_rfl) (by kernel_rfl) (fun _ _ _ h => h) (Or.inl ⟨by kernel_rfl, fun W hSw => by obtain ⟨s9, ⟨t0, t1, t2, t3⟩, u0, u1, u2, u3⟩ := hSw; go_simp⟩) hHeld ?_
            try simp only [Act.put, List.setIfInBounds_toArray, List.set_cons_zero, List.set_cons_succ]
            refine takeV 10 (some 106) undef rfl rfl (by kernel_rfl) (by kernel_rfl) (by kernel_rfl) (fun _ _ _ h => h) (Or.inr ⟨by kernel_rfl, rfl⟩) hHeld ?_
            try simp only [Act.put, List.setIfInBounds_toArray, List.set_cons_zero, List.set_cons_succ]
            refine takeV 11 (some 107) undef rfl rfl (by kernel_rfl) (by kernel_rfl) (by kernel_rfl) (fun _ _ _ h => h) (Or.inr ⟨by kernel_rfl, rfl⟩) hHeld ?_
            try simp only [Act.put, List.setIfInBounds_toArray, List.set_cons_zero, List.set_cons_succ]
            refine takeV 12 (some 108) (.bool false) rfl rfl (by kernel_rfl) (by kernel_rfl) (by kernel_rfl) (fun _ _ _ h => h) (Or.inl ⟨by kernel_rfl, fun W hSw => by obtain ⟨s9, ⟨t0, t1, t2, t3⟩, u0, u1, u2, u3⟩ := hSw; go_simp⟩) hHeld ?_
            try simp only [Act.put, List.setIfInBounds_toArray, List.set_cons_zero, List.set_cons_succ]
            refine takeV 13 (some 109) (.bool false) rfl rfl (by kernel_rfl) (by kernel_rfl) (by kernel_rfl) (fun _ _ _ h => h) (Or.inl ⟨by kernel_rfl, fun W hSw => by obtain ⟨s9, ⟨t0, t1, t2, t3⟩, u0, u1, u2, u3⟩ := hSw; go_simp⟩) hHeld ?_
            try simp only [Act.put, List.setIfInBounds_toArray, List.set_cons_zero, List.set_cons_succ]
            refine takeV 14 (some 110) undef rfl rfl (by kernel_rfl) (by kernel_rfl) (by kernel_rfl) (fun _ _ _ h => h) (Or.inr ⟨by kernel_rfl, rfl⟩) hHeld ?_
            try simp only [Act.put, List.setIfInBounds_toArray, List.set_cons_zero, List.set_cons_succ]
            refine takeV 15 (some 111) undef rfl rfl (by kernel_rfl) (by kernel_rfl) (by kernel_rfl) (fun _ _ _ h => h) (Or.inr ⟨by kernel_rfl, rfl⟩) hHeld ?_
            try simp only [Act.put, List.setIfInBounds_toArray, List.set_cons_zero, List.set_cons_succ]
            refine takeV 16 (some 112) undef rfl rfl (by kernel_rfl) (by kernel_rfl) (by kernel_rfl) (fun _ _ _ h => h) (Or.inr ⟨by kernel_rfl, rfl⟩) hHeld ?_
            try simp only [Act.put, List.setIfInBounds_toArray, List.set_cons_zero, List.set_cons_succ]
            refine takeV 17 (some 113) (.bool false) rfl rfl (by kernel_rfl) (by kernel_rfl) (by kernel_rfl) (fun _ _ _ h => h) (Or.inl ⟨by kernel_rfl, fun W hSw => by obtain ⟨s9, ⟨t0, t1, t2, t3⟩, u0, u1, u2, u3⟩ := hSw; go_simp⟩) hHeld ?_
            try simp only [Act.put, List.setIfInBounds_toArray, List.set_cons_zero, List.set_cons_succ]
            refine wpAnyH_ready (rs := [18]) (by kernel_rfl) (by simp) ?_
            refine AllReadyH.cons rfl (fun K hK => ?_) AllReadyH.nil
            clear hHeld
            go_simp
            go_at_call 63
            refine Calls.mono (MM.out _ (below_drew (Below.refl _ _))) ?_
            rintro e w6 ⟨rfl, h7, mtv3, h8, h9⟩
            have G6 : Hid (wk.grownBy w6 (some tb)) := (grown_of_below (below_drew (Below.refl wk.heap.size wk)) (some tb)).trans h7
            have HSn := HF.out _ G6.out
            have H8 : Hid _ := h8
            have H9 : Hid _ := h9
            clear h7 h8 h9
            cases q1 with
            | true =>
              simp only [if_true] at hV
              have HV9 : Hid _ := hV
              clear hV
              go_wp2_with fail
              refine hK.out _ _ HSn (fun hHeld => ?_)
              clear hK K HSn
              try simp only [Act.put, List.setIfInBounds_toArray, List.set_cons_zero, List.set_cons_succ]
              refine takeV 19 (some 115) (.bool false) rfl rfl (by kernel_rfl) (by kernel_rfl) (by kernel_rfl) (fun _ _ _ h => h) (Or.inl ⟨by kernel_rfl, fun W hSw => by go_simp⟩) hHeld ?_
              try simp only [Act.put, List.setIfInBounds_toArray, List.set_cons_zero, List.set_cons_succ]
              refine wpAnyH_done (by kernel_rfl) ?_ _
              go_wp2_with fail
              go_roundg g
              case measure => omega
              case rel => exact ⟨i + 1, _, mtv3, by go_num, by omega, HG.out.trans G6.out, H8.out, H9.out, HV9.out⟩
            | false =>
              simp only [Bool.false_eq_true, if_false] at hV
              subst hV
              go_wp2_with fail
              refine hK.out _ _ HSn (fun hHeld => ?_)
              clear hK K HSn
              try simp only [Act.put, List.setIfInBounds_toArray, List.set_cons_zero, List.set_cons_succ]
              refine takeV 19 (some 115) (.bool true) rfl rfl (by kernel_rfl) (by kernel_rfl) (by kernel_rfl) (fun _ _ _ h => h) (Or.inl ⟨by kernel_rfl, fun W hSw => by go_simp⟩) hHeld ?_
              try simp only [Act.put, List.setIfInBounds_toArray, List.set_cons_zero, List.set_cons_succ]
              refine wpAnyH_done (by kernel_rfl) ?_ _
              go_wp2_with fail
              go_ret
              exact ⟨rfl, HXG.out.trans (HG.out.trans G6.out), mtv3, H8.out, H9.out⟩
          | true =>
            refine wp_region_held_drew (S := fun W => W.cell? ⟨bB, 3, none⟩ = some (.slice (some ae) lb.length d) ∧ (W.cell? ⟨bk, 0, none⟩ = some (.int .i64 x0) ∧ W.cell? ⟨bk, 1, none⟩ = some (.int .i64 x1) ∧ W.cell? ⟨bk, 2, none⟩ = some (.string x2) ∧ W.cell? ⟨bk, 3, none⟩ = some (.slice A5 x3.length c5)) ∧ W.cell? (ae.add (i * 4)) = some (.int .i64 y0) ∧ W.cell? ⟨(ae.add (i * 4)).block, (ae.add (i * 4)).off + 1, none⟩ = some (.int .i64 y1) ∧ W.cell? ⟨(ae.add (i * 4)).block, (ae.add (i * 4)).off + 2, none⟩ = some (.string y2) ∧ W.cell? ⟨(ae.add (i * 4)).block, (ae.add (i * 4)).off + 3, none⟩ = some (.slice B5 y3.length d5)) (by kernel_rfl) (HF.out _ (grown_of_below (below_drew (Below.refl _ _)) (some tb))) (fun hHeld => ?_)
            refine takeV 0 (some 96) (formV x0 x1 x2 A5 x3.length c5) rfl rfl (by kernel_rfl) (by kernel_rfl) (by kernel_rfl) (fun _ _ _ h => h) (Or.inl ⟨by kernel_rfl, fun W hSw => by obtain ⟨s9, ⟨t0, t1, t2, t3⟩, u0, u1, u2, u3⟩ := hSw; go_simp⟩) hHeld ?_
            try simp only [Act.put, List.setIfInBounds_toArray, List.set_cons_zero, List.set_cons_succ]
            refine takeV 1 (some 97) (.pointer (some ⟨bB, 3, none⟩)) rfl rfl (by kernel_rfl) (by kernel_rfl) (by kernel_rfl) (fun _ _ _ h => h) (Or.inl ⟨by kernel_rfl, fun W hSw => by obtain ⟨s9, ⟨t0, t1, t2, t3⟩, u0, u1, u2, u3⟩ := hSw; go_simp⟩) hHeld ?_
            try simp only [Act.put, List.setIfInBounds_toArray, List.set_cons_zero, List.set_cons_succ]
            refine takeV 2 (some 98) (.slice (some ae) lb.length d) rfl rfl (by kernel_rfl) (by kernel_rfl) (by kernel_rfl) (fun _ _ _ h => h) (Or.inl ⟨by kernel_rfl, fun W hSw => by obtain ⟨s9, ⟨t0, t1, t2, t3⟩, u0, u1, u2, u3⟩ := hSw; go_simp⟩) hHeld ?_
            try simp only [Act.put, List.setIfInBounds_toArray, List.set_cons_zero, List.set_cons_succ]
            refine takeV 3 (some 99) (.int .i64 (i : Int)) rfl rfl (by kernel_rfl) (by kernel_rfl) (by kernel_rfl) (fun _ _ _ h => h) (Or.inl ⟨by kernel_rfl, fun W hSw => by obtain ⟨s9, ⟨t0, t1, t2, t3⟩, u0, u1, u2, u3⟩ := hSw; go_simp⟩) hHeld ?_
            try simp only [Act.put, List.setIfInBounds_toArray, List.set_cons_zero, List.set_cons_succ]
            refine takeV 4 (some 100) (.pointer (some (ae.add (i * 4)))) rfl rfl (by kernel_rfl) (by kernel_rfl) (by kernel_rfl) (fun _ _ _ h => h) (Or.inl ⟨by kernel_rfl, fun W hSw => by obtain ⟨s9, ⟨t0, t1, t2, t3⟩, u0, u1, u2, u3⟩ := hSw; go_simp; first | done | (intro h9; exact absurd h9 (by omega))⟩) hHeld ?_
            try simp only [Act.put, List.setIfInBounds_toArray, List.set_cons_zero, List.set_cons_succ]
            refine takeV 5 (some 101) (formV y0 y1 y2 B5 y3.length d5) rfl rfl (by kernel_rfl) (by kernel_rfl) (by kernel_rfl) (fun _ _ _ h => h) (Or.inl ⟨by kernel_rfl, fun W hSw => by obtain ⟨s9, ⟨t0, t1, t2, t3⟩, u0, u1, u2, u3⟩ := hSw; go_simp⟩) hHeld ?_
            try simp only [Act.put, List.setIfInBounds_toArray, List.set_cons_zero, List.set_cons_succ]
            refine takeV 6 (some 102) (.map (some vb)) rfl rfl (by kernel_rfl) (by kernel_rfl) (by kernel_rfl) (fun _ _ _ h => h) (Or.inl ⟨by kernel_rfl, fun W hSw => by obtain ⟨s9, ⟨t0, t1, t2, t3⟩, u0, u1, u2, u3⟩ := hSw; go_simp⟩) hHeld ?_
            try simp only [Act.put, List.setIfInBounds_toArray, List.set_cons_zero, List.set_cons_succ]
            refine takeV 7 (some 103) (.map (some tb)) rfl rfl (by kernel_rfl) (by kernel_rfl) (by kernel_rfl) (fun _ _ _ h => h) (Or.inl ⟨by kernel_rfl, fun W hSw => by obtain ⟨s9, ⟨t0, t1, t2, t3⟩, u0, u1, u2, u3⟩ := hSw; go_simp⟩) hHeld ?_
            try simp only [Act.put, List.setIfInBounds_toArray, List.set_cons_zero, List.set_cons_succ]
            refine takeV 8 (some 104) (.bool true) rfl rfl (by kernel_rfl) (by kernel_rfl) (by kernel_rfl) (fun _ _ _ h => h) (Or.inl ⟨by kernel_rfl, fun W hSw => by obtain ⟨s9, ⟨t0, t1, t2, t3⟩, u0, u1, u2, u3⟩ := hSw; go_simp⟩) hHeld ?_
            try simp only [Act.put, List.setIfInBounds_toArray, List.set_cons_zero, List.set_cons_succ]
            refine takeV 9 (some 105) (.bool true) rfl rfl (by kernel_rfl) (by kernel_rfl) (by kernel_rfl) (fun _ _ _ h => h) (Or.inl ⟨by kernel_rfl, fun W hSw => by obtain ⟨s9, ⟨t0, t1, t2, t3⟩, u0, u1, u2, u3⟩ := hSw; go_simp⟩) hHeld ?_
            try simp only [Act.put, List.setIfInBounds_toArray, List.set_cons_zero, List.set_cons_succ]
            refine takeV 10 (some 106) (.int .i64 (i : Int)) rfl rfl (by kernel_rfl) (by kernel_rfl) (by kernel_rfl) (fun _ _ _ h => h) (Or.inl ⟨by kernel_rfl, fun W hSw => by obtain ⟨s9, ⟨t0, t1, t2, t3⟩, u0, u1, u2, u3⟩ := hSw; go_simp⟩) hHeld ?_
            try simp only [Act.put, List.setIfInBounds_toArray, List.set_cons_zero, List.set_cons_succ]
            refine takeV 11 (some 107) (.bool false) rfl rfl (by kernel_rfl) (by kernel_rfl) (by kernel_rfl) (fun _ _ _ h => h) (Or.inl ⟨by kernel_rfl, fun W hSw => by obtain ⟨s9, ⟨t0, t1, t2, t3⟩, u0, u1, u2, u3⟩ := hSw; go_simp⟩) hHeld ?_
            try simp only [Act.put, List.setIfInBounds_toArray, List.set_cons_zero, List.set_cons_succ]
            refine takeV 12 (some 108) (.bool false) rfl rfl (by kernel_rfl) (by kernel_rfl) (by kernel_rfl) (fun _ _ _ h => h) (Or.inl ⟨by kernel_rfl, fun W hSw => by obtain ⟨s9, ⟨t0, t1, t2, t3⟩, u0, u1, u2, u3⟩ := hSw; go_simp⟩) hHeld ?_
            try simp only [Act.put, List.setIfInBounds_toArray, List.set_cons_zero, List.set_cons_succ]
            refine takeV 13 (some 109) (.bool false) rfl rfl (by kernel_rfl) (by kernel_rfl) (by kernel_rfl) (fun _ _ _ h => h) (Or.inl ⟨by kernel_rfl, fun W hSw => by obtain ⟨s9, ⟨t0, t1, t2, t3⟩, u0, u1, u2, u3⟩ := hSw; go_simp⟩) hHeld ?_
            try simp only [Act.put, List.setIfInBounds_toArray, List.set_cons_zero, List.set_cons_succ]
            refine takeV 14 (some 110) undef rfl rfl (by kernel_rfl) (by kernel_rfl) (by kernel_rfl) (fun _ _ _ h => h) (Or.inr ⟨by kernel_rfl, rfl⟩) hHeld ?_
            try simp only [Act.put, List.setIfInBounds_toArray, List.set_cons_zero, List.set_cons_succ]
            refine takeV 15 (some 111) undef rfl rfl (by kernel_rfl) (by kernel_rfl) (by kernel_rfl) (fun _ _ _ h => h) (Or.inr ⟨by kernel_rfl, rfl⟩) hHeld ?_
            try simp only [Act.put, List.setIfInBounds_toArray, List.set_cons_zero, List.set_cons_succ]
            refine takeV 16 (some 112) undef rfl rfl (by kernel_rfl) (by kernel_rfl) (by kernel_rfl) (fun _ _ _ h => h) (Or.inr ⟨by kernel_rfl, rfl⟩) hHeld ?_
            try simp only [Act.put, List.setIfInBounds_toArray, List.set_cons_zero, List.set_cons_succ]
            refine takeV 17 (some 113) (.bool false) rfl rfl (by kernel_rfl) (by kernel_rfl) (by kernel_rfl) (fun _ _ _ h => h) (Or.inl ⟨by kernel_rfl, fun W hSw => by obtain ⟨s9, ⟨t0, t1, t2, t3⟩, u0, u1, u2, u3⟩ := hSw; go_simp⟩) hHeld ?_
            try simp only [Act.put, List.setIfInBounds_toArray, List.set_cons_zero, List.set_cons_succ]
            refine wpAnyH_ready (rs := [18]) (by kernel_rfl) (by simp) ?_
            refine AllReadyH.cons rfl (fun K hK => ?_) AllReadyH.nil
            clear hHeld
            go_simp
            go_at_call 63
            refine Calls.mono (MM.out _ (below_drew (Below.refl _ _))) ?_
            rintro e w6 ⟨rfl, h7, mtv3, h8, h9⟩
            have G6 : Hid (wk.grownBy w6 (some tb)) := (grown_of_below (below_drew (Below.refl wk.heap.size wk)) (some tb)).trans h7
            have HSn := HF.out _ G6.out
            have H8 : Hid _ := h8
            have H9 : Hid _ := h9
            clear h7 h8 h9
            cases q1 with
            | true =>
              simp only [if_true] at hV
              have HV9 : Hid _ := hV
              clear hV
              go_wp2_with fail
              refine hK.out _ _ HSn (fun hHeld => ?_)
              clear hK K HSn
              try simp only [Act.put, List.setIfInBounds_toArray, List.set_cons_zero, List.set_cons_succ]
              refine takeV 19 (some 115) (.bool false) rfl rfl (by kernel_rfl) (by kernel_rfl) (by kernel_rfl) (fun _ _ _ h => h) (Or.inl ⟨by kernel_rfl, fun W hSw => by go_simp⟩) hHeld ?_
              try simp only [Act.put, List.setIfInBounds_toArray, List.set_cons_zero, List.set_cons_succ]
              refine wpAnyH_done (by kernel_rfl) ?_ _
              go_wp2_with fail
              go_roundg g
              case measure => omega
              case rel => exact ⟨i + 1, _, mtv3, by go_num, by omega, HG.out.trans G6.out, H8.out, H9.out, HV9.out⟩
            | false =>
              simp only [Bool.false_eq_true, if_false] at hV
              subst hV
              go_wp2_with fail
              refine hK.out _ _ HSn (fun hHeld => ?_)
              clear hK K HSn
              try simp only [Act.put, List.setIfInBounds_toArray, List.set_cons_zero, List.set_cons_succ]
              refine takeV 19 (some 115) (.bool true) rfl rfl (by kernel_rfl) (by kernel_rfl) (by kernel_rfl) (fun _ _ _ h => h) (Or.inl ⟨by kernel_rfl, fun W hSw => by go_simp⟩) hHeld ?_
              try simp only [Act.put, List.setIfInBounds_toArray, List.set_cons_zero, List.set_cons_succ]
              refine wpAnyH_done (by kernel_rfl) ?_ _
              go_wp2_with fail
              go_ret
              exact ⟨rfl, HXG.out.trans (HG.out.trans G6.out), mtv3, H8.out, H9.out⟩
      · have hi2 : ((i : Int) == 0) = false := beq_eq_false_iff_ne.mpr (by omega)
        rw [if_neg (fun h => hi h.1)] at hV
        cases fn with
        | false =>
          rw [show (false && decide (i = 1) && (x0 == 3)) = false from rfl] at hV
          have MM : Hid (∀ wq, Below wk.heap.size wk wq → _) := fun wq hwq => MQ.out W0 wq base sp vb tb mt2 mtv2 ⟨y0, y1, y2, y3⟩ false A5 B5 c5 d5 (HS2.out.below hwq) HT2.out (HW2.out.trans (hwq.mono HW2.out.size)) hb G5.out g4 SX K5.out k4 SY
          obtain ⟨Q, hQ⟩ : ∃ Q, Q = matchM vs ⟨x0, x1, x2, x3⟩ ⟨y0, y1, y2, y3⟩ false mt2 := ⟨_, rfl⟩
          rw [← hQ] at MM hV
          clear hQ MQ
          obtain ⟨q1, mt3⟩ := Q
          simp only [] at hV
          go_wp2_with fail
          clear p0 p1 p2 p3
          refine wp_region_held_drew (S := fun W => W.cell? ⟨bB, 3, none⟩ = some (.slice (some ae) lb.length d) ∧ (W.cell? ⟨bk, 0, none⟩ = some (.int .i64 x0) ∧ W.cell? ⟨bk, 1, none⟩ = some (.int .i64 x1) ∧ W.cell? ⟨bk, 2, none⟩ = some (.string x2) ∧ W.cell? ⟨bk, 3, none⟩ = some (.slice A5 x3.length c5)) ∧ W.cell? (ae.add (i * 4)) = some (.int .i64 y0) ∧ W.cell? ⟨(ae.add (i * 4)).block, (ae.add (i * 4)).off + 1, none⟩ = some (.int .i64 y1) ∧ W.cell? ⟨(ae.add (i * 4)).block, (ae.add (i * 4)).off + 2, none⟩ = some (.string y2) ∧ W.cell? ⟨(ae.add (i * 4)).block, (ae.add (i * 4)).off + 3, none⟩ = some (.slice B5 y3.length d5)) (by kernel_rfl) (HF.out _ (grown_of_below (below_drew (Below.refl _ _)) (some tb))) (fun hHeld => ?_)
          refine takeV 0 (some 96) (formV x0 x1 x2 A5 x3.length c5) rfl rfl (by kernel_rfl) (by kernel_rfl) (by kernel_rfl) (fun _ _ _ h => h) (Or.inl ⟨by kernel_rfl, fun W hSw => by obtain ⟨s9, ⟨t0, t1, t2, t3⟩, u0, u1, u2, u3⟩ := hSw; go_simp⟩) hHeld ?_
          try simp only [Act.put, List.setIfInBounds_toArray, List.set_cons_zero, List.set_cons_succ]
          refine takeV 1 (some 97) (.pointer (some ⟨bB, 3, none⟩)) rfl rfl (by kernel_rfl) (by kernel_rfl) (by kernel_rfl) (fun _ _ _ h => h) (Or.inl ⟨by kernel_rfl, fun W hSw => by obtain ⟨s9, ⟨t0, t1, t2, t3⟩, u0, u1, u2, u3⟩ := hSw; go_simp⟩) hHeld ?_
          try simp only [Act.put, List.setIfInBounds_toArray, List.set_cons_zero, List.set_cons_succ]
          refine takeV 2 (some 98) (.slice (some ae) lb.length d) rfl rfl (by kernel_rfl) (by kernel_rfl) (by kernel_rfl) (fun _ _ _ h => h) (Or.inl ⟨by kernel_rfl, fun W hSw => by obtain ⟨s9, ⟨t0, t1, t2, t3⟩, u0, u1, u2, u3⟩ := hSw; go_simp⟩) hHeld ?_
          try simp only [Act.put, List.setIfInBounds_toArray, List.set_cons_zero, List.set_cons_succ]
          refine takeV 3 (some 99) (.int .i64 (i : Int)) rfl rfl (by kernel_rfl) (by kernel_rfl) (by kernel_rfl) (fun _ _ _ h => h) (Or.inl ⟨by kernel_rfl, fun W hSw => by obtain ⟨s9, ⟨t0, t1, t2, t3⟩, u0, u1, u2, u3⟩ := hSw; go_simp⟩) hHeld ?_
          try simp only [Act.put, List.setIfInBounds_toArray, List.set_cons_zero, List.set_cons_succ]
          refine takeV 4 (some 100) (.pointer (some (ae.add (i * 4)))) rfl rfl (by kernel_rfl) (by kernel_rfl) (by kernel_rfl) (fun _ _ _ h => h) (Or.inl ⟨by kernel_rfl, fun W hSw => by obtain ⟨s9, ⟨t0, t1, t2, t3⟩, u0, u1, u2, u3⟩ := hSw; go_simp; first | done | (intro h9; exact absurd h9 (by omega))⟩) hHeld ?_
          try simp only [Act.put, List.setIfInBounds_toArray, List.set_cons_zero, List.set_cons_succ]
          refine takeV 5 (some 101) (formV y0 y1 y2 B5 y3.length d5) rfl rfl (by kernel_rfl) (by kernel_rfl) (by kernel_rfl) (fun _ _ _ h => h) (Or.inl ⟨by kernel_rfl, fun W hSw => by obtain ⟨s9, ⟨t0, t1, t2, t3⟩, u0, u1, u2, u3⟩ := hSw; go_simp⟩) hHeld ?_
          try simp only [Act.put, List.setIfInBounds_toArray, List.set_cons_zero, List.set_cons_succ]
          refine takeV 6 (some 102) (.map (some vb)) rfl rfl (by kernel_rfl) (by kernel_rfl) (by kernel_rfl) (fun _ _ _ h => h) (Or.inl ⟨by kernel_rfl, fun W hSw => by obtain ⟨s9, ⟨t0, t1, t2, t3⟩, u0, u1, u2, u3⟩ := hSw; go_simp⟩) hHeld ?_
          try simp only [Act.put, List.setIfInBounds_toArray, List.set_cons_zero, List.set_cons_succ]
          refine takeV 7 (some 103) (.map (some tb)) rfl rfl (by kernel_rfl) (by kernel_rfl) (by kernel_rfl) (fun _ _ _ h => h) (Or.inl ⟨by kernel_rfl, fun W hSw => by obtain ⟨s9, ⟨t0, t1, t2, t3⟩, u0, u1, u2, u3⟩ := hSw; go_simp⟩) hHeld ?_
          try simp only [Act.put, List.setIfInBounds_toArray, List.set_cons_zero, List.set_cons_succ]
          refine takeV 8 (some 104) (.bool false) rfl rfl (by kernel_rfl) (by kernel_rfl) (by kernel_rfl) (fun _ _ _ h => h) (Or.inl ⟨by kernel_rfl, fun W hSw => by obtain ⟨s9, ⟨t0, t1, t2, t3⟩, u0, u1, u2, u3⟩ := hSw; go_simp⟩) hHeld ?_
          try simp only [Act.put, List.setIfInBounds_toArray, List.set_cons_zero, List.set_cons_succ]
          refine takeV 9 (some 105) (.bool false) rfl rfl (by kernel_rfl) (by kernel_rfl) (by kernel_rfl) (fun _ _ _ h => h) (Or.inl ⟨by kernel_rfl, fun W hSw => by obtain ⟨s9, ⟨t0, t1, t2, t3⟩, u0, u1, u2, u3⟩ := hSw; go_simp⟩) hHeld ?_
          try simp only [Act.put, List.setIfInBounds_toArray, List.set_cons_zero, List.set_cons_succ]
          refine takeV 10 (some 106) undef rfl rfl (by kernel_rfl) (by kernel_rfl) (by kernel_rfl) (fun _ _ _ h => h) (Or.inr ⟨by kernel_rfl, rfl⟩) hHeld ?_
          try simp only [Act.put, List.setIfInBounds_toArray, List.set_cons_zero, List.set_cons_succ]
          refine takeV 11 (some 107) undef rfl rfl (by kernel_rfl) (by kernel_rfl) (by kernel_rfl) (fun _ _ _ h => h) (Or.inr ⟨by kernel_rfl, rfl⟩) hHeld ?_
          try simp only [Act.put, List.setIfInBounds_toArray, List.set_cons_zero, List.set_cons_succ]
          refine takeV 12 (some 108) (.bool false) rfl rfl (by kernel_rfl) (by kernel_rfl) (by kernel_rfl) (fun _ _ _ h => h) (Or.inl ⟨by kernel_rfl, fun W hSw => by obtain ⟨s9, ⟨t0, t1, t2, t3⟩, u0, u1, u2, u3⟩ := hSw; go_simp⟩) hHeld ?_
          try simp only [Act.put, List.setIfInBounds_toArray, List.set_cons_zero, List.set_cons_succ]
          refine takeV 13 (some 109) (.bool false) rfl rfl (by kernel_rfl) (by kernel_rfl) (by kernel_rfl) (fun _ _ _ h => h) (Or.inl ⟨by kernel_rfl, fun W hSw => by obtain ⟨s9, ⟨t0, t1, t2, t3⟩, u0, u1, u2, u3⟩ := hSw; go_simp⟩) hHeld ?_
          try simp only [Act.put, List.setIfInBounds_toArray, List.set_cons_zero, List.set_cons_succ]
          refine takeV 14 (some 110) undef rfl rfl (by kernel_rfl) (by kernel_rfl) (by kernel_rfl) (fun _ _ _ h => h) (Or.inr ⟨by kernel_rfl, rfl⟩) hHeld ?_
          try simp only [Act.put, List.setIfInBounds_toArray, List.set_cons_zero, List.set_cons_succ]
          refine takeV 15 (some 111) undef rfl rfl (by kernel_rfl) (by kernel_rfl) (by kernel_rfl) (fun _ _ _ h => h) (Or.inr ⟨by kernel_rfl, rfl⟩) hHeld ?_
          try simp only [Act.put, List.setIfInBounds_toArray, List.set_cons_zero, List.set_cons_succ]
          refine takeV 16 (some 112) undef rfl rfl (by kernel_rfl) (by kernel_rfl) (by kernel_rfl) (fun _ _ _ h => h) (Or.inr ⟨by kernel_rfl, rfl⟩) hHeld ?_
          try simp only [Act.put, List.setIfInBounds_toArray, List.set_cons_zero, List.set_cons_succ]
          refine takeV 17 (some 113) (.bool false) rfl rfl (by kernel_rfl) (by kernel_rfl) (by kernel_rfl) (fun _ _ _ h => h) (Or.inl ⟨by kernel_rfl, fun W hSw => by obtain ⟨s9, ⟨t0, t1, t2, t3⟩, u0, u1, u2, u3⟩ := hSw; go_simp⟩) hHeld ?_
          try simp only [Act.put, List.setIfInBounds_toArray, List.set_cons_zero, List.set_cons_succ]
          refine wpAnyH_ready (rs := [18]) (by kernel_rfl) (by simp) ?_
          refine AllReadyH.cons rfl (fun K hK => ?_) AllReadyH.nil
          clear hHeld
          go_simp
          go_at_call 63
          refine Calls.mono (MM.out _ (below_drew (Below.refl _ _))) ?_
          rintro e w6 ⟨rfl, h7, mtv3, h8, h9⟩
          have G6 : Hid (wk.grownBy w6 (some tb)) := (grown_of_below (below_drew (Below.refl wk.heap.size wk)) (some tb)).trans h7
          have HSn := HF.out _ G6.out
          have H8 : Hid _ := h8
          have H9 : Hid _ := h9
          clear h7 h8 h9
          cases q1 with
          | true =>
            simp only [if_true] at hV
            have HV9 : Hid _ := hV
            clear hV
            go_wp2_with fail
            refine hK.out _ _ HSn (fun hHeld => ?_)
            clear hK K HSn
            try simp only [Act.put, List.setIfInBounds_toArray, List.set_cons_zero, List.set_cons_succ]
            refine takeV 19 (some 115) (.bool false) rfl rfl (by kernel_rfl) (by kernel_rfl) (by kernel_rfl) (fun _ _ _ h => h) (Or.inl ⟨by kernel_rfl, fun W hSw => by go_simp⟩) hHeld ?_
            try simp only [Act.put, List.setIfInBounds_toArray, List.set_cons_zero, List.set_cons_succ]
            refine wpAnyH_done (by kernel_rfl) ?_ _
            go_wp2_with fail
            go_roundg g
            case measure => omega
            case rel => exact ⟨i + 1, _, mtv3, by go_num, by omega, HG.out.trans G6.out, H8.out, H9.out, HV9.out⟩
          | false =>
            simp only [Bool.false_eq_true, if_false] at hV
            subst hV
            go_wp2_with fail
            refine hK.out _ _ HSn (fun hHeld => ?_)
            clear hK K HSn
            try simp only [Act.put, List.setIfInBounds_toArray, List.set_cons_zero, List.set_cons_succ]
            refine takeV 19 (some 115) (.bool true) rfl rfl (by kernel_rfl) (by kernel_rfl) (by kernel_rfl) (fun _ _ _ h => h) (Or.inl ⟨by kernel_rfl, fun W hSw => by go_simp⟩) hHeld ?_
            try simp only [Act.put, List.setIfInBounds_toArray, List.set_cons_zero, List.set_cons_succ]
            refine wpAnyH_done (by kernel_rfl) ?_ _
            go_wp2_with fail
            go_ret
            exact ⟨rfl, HXG.out.trans (HG.out.trans G6.out), mtv3, H8.out, H9.out⟩
        | true =>
          by_cases hi1 : i = 1
          · have hi3 : ((i : Int) == 1) = true := beq_iff_eq.mpr (by omega)
            by_cases hk3 : x0 = 3
            · subst hk3
              rw [show (true && decide (i = 1) && ((3 : Int) == 3)) = true from by rw [decide_eq_true hi1]; rfl] at hV
              clear hi1
              have MM : Hid (∀ wq, Below wk.heap.size wk wq → _) := fun wq hwq => MQ.out W0 wq base sp vb tb mt2 mtv2 ⟨y0, y1, y2, y3⟩ true A5 B5 c5 d5 (HS2.out.below hwq) HT2.out (HW2.out.trans (hwq.mono HW2.out.size)) hb G5.out g4 SX K5.out k4 SY
              obtain ⟨Q, hQ⟩ : ∃ Q, Q = matchM vs ⟨3, x1, x2, x3⟩ ⟨y0, y1, y2, y3⟩ true mt2 := ⟨_, rfl⟩
              rw [← hQ] at MM hV
              clear hQ MQ
              obtain ⟨q1, mt3⟩ := Q
              simp only [] at hV
              go_wp2_with fail
              clear p0 p1 p2 p3
              refine wp_region_held_drew (S := fun W => W.cell? ⟨bB, 3, none⟩ = some (.slice (some ae) lb.length d) ∧ (W.cell? ⟨bk, 0, none⟩ = some (.int .i64 3) ∧ W.cell? ⟨bk, 1, none⟩ = some (.int .i64 x1) ∧ W.cell? ⟨bk, 2, none⟩ = some (.string x2) ∧ W.cell? ⟨bk, 3, none⟩ = some (.slice A5 x3.length c5)) ∧ W.cell? (ae.add (i * 4)) = some (.int .i64 y0) ∧ W.cell? ⟨(ae.add (i * 4)).block, (ae.add (i * 4)).off + 1, none⟩ = some (.int .i64 y1) ∧ W.cell? ⟨(ae.add (i * 4)).block, (ae.add (i * 4)).off + 2, none⟩ = some (.string y2) ∧ W.cell? ⟨(ae.add (i * 4)).block, (ae.add (i * 4)).off + 3, none⟩ = some (.slice B5 y3.length d5)) (by kernel_rfl) (HF.out _ (grown_of_below (below_drew (Below.refl _ _)) (some tb))) (fun hHeld => ?_)
              refine takeV 0 (some 96) (formV 3 x1 x2 A5 x3.length c5) rfl rfl (by kernel_rfl) (by kernel_rfl) (by kernel_rfl) (fun _ _ _ h => h) (Or.inl ⟨by kernel_rfl, fun W hSw => by obtain ⟨s9, ⟨t0, t1, t2, t3⟩, u0, u1, u2, u3⟩ := hSw; go_simp⟩) hHeld ?_
              try simp only [Act.put, List.setIfInBounds_toArray, List.set_cons_zero, List.set_cons_succ]
              refine takeV 1 (some 97) (.pointer (some ⟨bB, 3, none⟩)) rfl rfl (by kernel_rfl) (by kernel_rfl) (by kernel_rfl) (fun _ _ _ h => h) (Or.inl ⟨by kernel_rfl, fun W hSw => by obtain ⟨s9, ⟨t0, t1, t2, t3⟩, u0, u1, u2, u3⟩ := hSw; go_simp⟩) hHeld ?_
              try simp only [Act.put, List.setIfInBounds_toArray, List.set_cons_zero, List.set_cons_succ]
              refine takeV 2 (some 98) (.slice (some ae) lb.length d) rfl rfl (by kernel_rfl) (by kernel_rfl) (by kernel_rfl) (fun _ _ _ h => h) (Or.inl ⟨by kernel_rfl, fun W hSw => by obtain ⟨s9, ⟨t0, t1, t2, t3⟩, u0, u1, u2, u3⟩ := hSw; go_simp⟩) hHeld ?_
              try simp only [Act.put, List.setIfInBounds_toArray, List.set_cons_zero, List.set_cons_succ]
              refine takeV 3 (some 99) (.int .i64 (i : Int)) rfl rfl (by kernel_rfl) (by kernel_rfl) (by kernel_rfl) (fun _ _ _ h => h) (Or.inl ⟨by kernel_rfl, fun W hSw => by obtain ⟨s9, ⟨t0, t1, t2, t3⟩, u0, u1, u2, u3⟩ := hSw; go_simp⟩) hHeld ?_
              try simp only [Act.put, List.setIfInBounds_toArray, List.set_cons_zero, List.set_cons_succ]
              refine takeV 4 (some 100) (.pointer (some (ae.add (i * 4)))) rfl rfl (by kernel_rfl) (by kernel_rfl) (by kernel_rfl) (fun _ _ _ h => h) (Or.inl ⟨by kernel_rfl, fun W hSw => by obtain ⟨s9, ⟨t0, t1, t2, t3⟩, u0, u1, u2, u3⟩ := hSw; go_simp; first | done | (intro h9; exact absurd h9 (by omega))⟩) hHeld ?_
              try simp only [Act.put, List.setIfInBounds_toArray, List.set_cons_zero, List.set_cons_succ]
              refine takeV 5 (some 101) (formV y0 y1 y2 B5 y3.length d5) rfl rfl (by kernel_rfl) (by kernel_rfl) (by kernel_rfl) (fun _ _ _ h => h) (Or.inl ⟨by kernel_rfl, fun W hSw => by obtain ⟨s9, ⟨t0, t1, t2, t3⟩, u0, u1, u2, u3⟩ := hSw; go_simp⟩) hHeld ?_
              try simp only [Act.put, List.setIfInBounds_toArray, List.set_cons_zero, List.set_cons_succ]
              refine takeV 6 (some 102) (.map (some vb)) rfl rfl (by kernel_rfl) (by kernel_rfl) (by kernel_rfl) (fun _ _ _ h => h) (Or.inl ⟨by kernel_rfl, fun W hSw => by obtain ⟨s9, ⟨t0, t1, t2, t3⟩, u0, u1, u2, u3⟩ := hSw; go_simp⟩) hHeld ?_
              try simp only [Act.put, List.setIfInBounds_toArray, List.set_cons_zero, List.set_cons_succ]
              refine takeV 7 (some 103) (.map (some tb)) rfl rfl (by kernel_rfl) (by kernel_rfl) (by kernel_rfl) (fun _ _ _ h => h) (Or.inl ⟨by kernel_rfl, fun W hSw => by obtain ⟨s9, ⟨t0, t1, t2, t3⟩, u0, u1, u2, u3⟩ := hSw; go_simp⟩) hHeld ?_
              try simp only [Act.put, List.setIfInBounds_toArray, List.set_cons_zero, List.set_cons_succ]
              refine takeV 8 (some 104) (.bool true) rfl rfl (by kernel_rfl) (by kernel_rfl) (by kernel_rfl) (fun _ _ _ h => h) (Or.inl ⟨by kernel_rfl, fun W hSw => by obtain ⟨s9, ⟨t0, t1, t2, t3⟩, u0, u1, u2, u3⟩ := hSw; go_simp⟩) hHeld ?_
              try simp only [Act.put, List.setIfInBounds_toArray, List.set_cons_zero, List.set_cons_succ]
              refine takeV 9 (some 105) (.bool true) rfl rfl (by kernel_rfl) (by kernel_rfl) (by kernel_rfl) (fun _ _ _ h => h) (Or.inl ⟨by kernel_rfl, fun W hSw => by obtain ⟨s9, ⟨t0, t1, t2, t3⟩, u0, u1, u2, u3⟩ := hSw; go_simp⟩) hHeld ?_
              try simp only [Act.put, List.setIfInBounds_toArray, List.set_cons_zero, List.set_cons_succ]
              refine takeV 10 (some 106) (.int .i64 (i : Int)) rfl rfl (by kernel_rfl) (by kernel_rfl) (by kernel_rfl) (fun _ _ _ h => h) (Or.inl ⟨by kernel_rfl, fun W hSw => by obtain ⟨s9, ⟨t0, t1, t2, t3⟩, u0, u1, u2, u3⟩ := hSw; go_simp⟩) hHeld ?_
              try simp only [Act.put, List.setIfInBounds_toArray, List.set_cons_zero, List.set_cons_succ]
              refine takeV 11 (some 107) (.bool true) rfl rfl (by kernel_rfl) (by kernel_rfl) (by kernel_rfl) (fun _ _ _ h => h) (Or.inl ⟨by kernel_rfl, fun W hSw => by obtain ⟨s9, ⟨t0, t1, t2, t3⟩, u0, u1, u2, u3⟩ := hSw; go_simp⟩) hHeld ?_
              try simp only [Act.put, List.setIfInBounds_toArray, List.set_cons_zero, List.set_cons_succ]
              refine takeV 12 (some 108) (.bool true) rfl rfl (by kernel_rfl) (by kernel_rfl) (by kernel_rfl) (fun _ _ _ h => h) (Or.inl ⟨by kernel_rfl, fun W hSw => by obtain ⟨s9, ⟨t0, t1, t2, t3⟩, u0, u1, u2, u3⟩ := hSw; go_simp⟩) hHeld ?_
              try simp only [Act.put, List.setIfInBounds_toArray, List.set_cons_zero, List.set_cons_succ]
              refine takeV 13 (some 109) (.bool true) rfl rfl (by kernel_rfl) (by kernel_rfl) (by kernel_rfl) (fun _ _ _ h => h) (Or.inl ⟨by kernel_rfl, fun W hSw => by obtain ⟨s9, ⟨t0, t1, t2, t3⟩, u0, u1, u2, u3⟩ := hSw; go_simp⟩) hHeld ?_
              try simp only [Act.put, List.setIfInBounds_toArray, List.set_cons_zero, List.set_cons_succ]
              refine takeV 14 (some 110) (.pointer (some ⟨bk, 0, none⟩)) rfl rfl (by kernel_rfl) (by kernel_rfl) (by kernel_rfl) (fun _ _ _ h => h) (Or.inl ⟨by kernel_rfl, fun W hSw => by obtain ⟨s9, ⟨t0, t1, t2, t3⟩, u0, u1, u2, u3⟩ := hSw; go_simp⟩) hHeld ?_
              try simp only [Act.put, List.setIfInBounds_toArray, List.set_cons_zero, List.set_cons_succ]
              refine takeV 15 (some 111) (.int .i64 3) rfl rfl (by kernel_rfl) (by kernel_rfl) (by kernel_rfl) (fun _ _ _ h => h) (Or.inl ⟨by kernel_rfl, fun W hSw => by obtain ⟨s9, ⟨t0, t1, t2, t3⟩, u0, u1, u2, u3⟩ := hSw; go_simp⟩) hHeld ?_
              try simp only [Act.put, List.setIfInBounds_toArray, List.set_cons_zero, List.set_cons_succ]
              refine takeV 16 (some 112) (.bool true) rfl rfl (by kernel_rfl) (by kernel_rfl) (by kernel_rfl) (fun _ _ _ h => h) (Or.inl ⟨by kernel_rfl, fun W hSw => by obtain ⟨s9, ⟨t0, t1, t2, t3⟩, u0, u1, u2, u3⟩ := hSw; go_simp⟩) hHeld ?_
              try simp only [Act.put, List.setIfInBounds_toArray, List.set_cons_zero, List.set_cons_succ]
              refine takeV 17 (some 113) (.bool true) rfl rfl (by kernel_rfl) (by kernel_rfl) (by kernel_rfl) (fun _ _ _ h => h) (Or.inl ⟨by kernel_rfl, fun W hSw => by obtain ⟨s9, ⟨t0, t1, t2, t3⟩, u0, u1, u2, u3⟩ := hSw; go_simp⟩) hHeld ?_
              try simp only [Act.put, List.setIfInBounds_toArray, List.set_cons_zero, List.set_cons_succ]
              refine wpAnyH_ready (rs := [18]) (by kernel_rfl) (by simp) ?_
              refine AllReadyH.cons rfl (fun K hK => ?_) AllReadyH.nil
              clear hHeld
              go_simp
              go_at_call 63
              refine Calls.mono (MM.out _ (below_drew (Below.refl _ _))) ?_
              rintro e w6 ⟨rfl, h7, mtv3, h8, h9⟩
              have G6 : Hid (wk.grownBy w6 (some tb)) := (grown_of_below (below_drew (Below.refl wk.heap.size wk)) (some tb)).trans h7
              have HSn := HF.out _ G6.out
              have H8 : Hid _ := h8
              have H9 : Hid _ := h9
              clear h7 h8 h9
              cases q1 with
              | true =>
                simp only [if_true] at hV
                have HV9 : Hid _ := hV
                clear hV
                go_wp2_with fail
                refine hK.out _ _ HSn (fun hHeld => ?_)
                clear hK K HSn
                try simp only [Act.put, List.setIfInBounds_toArray, List.set_cons_zero, List.set_cons_succ]
                refine takeV 19 (some 115) (.bool false) rfl rfl (by kernel_rfl) (by kernel_rfl) (by kernel_rfl) (fun _ _ _ h => h) (Or.inl ⟨by kernel_rfl, fun W hSw => by go_simp⟩) hHeld ?_
                try simp only [Act.put, List.setIfInBounds_toArray, List.set_cons_zero, List.set_cons_succ]
                refine wpAnyH_done (by kernel_rfl) ?_ _
                go_wp2_with fail
                go_roundg g
                case measure => omega
                case rel => exact ⟨i + 1, _, mtv3, by go_num, by omega, HG.out.trans G6.out, H8.out, H9.out, HV9.out⟩
              | false =>
                simp only [Bool.false_eq_true, if_false] at hV
                subst hV
                go_wp2_with fail
                refine hK.out _ _ HSn (fun hHeld => ?_)
                clear hK K HSn
                try simp only [Act.put, List.setIfInBounds_toArray, List.set_cons_zero, List.set_cons_succ]
                refine takeV 19 (some 115) (.bool true) rfl rfl (by kernel_rfl) (by kernel_rfl) (by kernel_rfl) (fun _ _ _ h => h) (Or.inl ⟨by kernel_rfl, fun W hSw => by go_simp⟩) hHeld ?_
                try simp only [Act.put, List.setIfInBounds_toArray, List.set_cons_zero, List.set_cons_succ]
                refine wpAnyH_done (by kernel_rfl) ?_ _
                go_wp2_with fail
                go_ret
                exact ⟨rfl, HXG.out.trans (HG.out.trans G6.out), mtv3, H8.out, H9.out⟩
            · have hk4 : (x0 == 3) = false := beq_eq_false_iff_ne.mpr hk3
              rw [hk4, show (true && decide (i = 1) && false) = false from by simp] at hV
              clear hi1
              have MM : Hid (∀ wq, Below wk.heap.size wk wq → _) := fun wq hwq => MQ.out W0 wq base sp vb tb mt2 mtv2 ⟨y0, y1, y2, y3⟩ false A5 B5 c5 d5 (HS2.out.below hwq) HT2.out (HW2.out.trans (hwq.mono HW2.out.size)) hb G5.out g4 SX K5.out k4 SY
              obtain ⟨Q, hQ⟩ : ∃ Q, Q = matchM vs ⟨x0, x1, x2, x3⟩ ⟨y0, y1, y2, y3⟩ false mt2 := ⟨_, rfl⟩
              rw [← hQ] at MM hV
              clear hQ MQ
              obtain ⟨q1, mt3⟩ := Q
              simp only [] at hV
              go_wp2_with fail
              clear p0 p1 p2 p3
              refine wp_region_held_drew (S := fun W => W.cell? ⟨bB, 3, none⟩ = some (.slice (some ae) lb.length d) ∧ (W.cell? ⟨bk, 0, none⟩ = some (.int .i64 x0) ∧ W.cell? ⟨bk, 1, none⟩ = some (.int .i64 x1) ∧ W.cell? ⟨bk, 2, none⟩ = some (.string x2) ∧ W.cell? ⟨bk, 3, none⟩ = some (.slice A5 x3.length c5)) ∧ W.cell? (ae.add (i * 4)) = some (.int .i64 y0) ∧ W.cell? ⟨(ae.add (i * 4)).block, (ae.add (i * 4)).off + 1, none⟩ = some (.int .i64 y1) ∧ W.cell? ⟨(ae.add (i * 4)).block, (ae.add (i * 4)).off + 2, none⟩ = some (.string y2) ∧ W.cell? ⟨(ae.add (i * 4)).block, (ae.add (i * 4)).off + 3, none⟩ = some (.slice B5 y3.length d5)) (by kernel_rfl) (HF.out _ (grown_of_below (below_drew (Below.refl _ _)) (some tb))) (fun hHeld => ?_)
              refine takeV 0 (some 96) (formV x0 x1 x2 A5 x3.length c5) rfl rfl (by kernel_rfl) (by kernel_rfl) (by kernel_rfl) (fun _ _ _ h => h) (Or.inl ⟨by kernel_rfl, fun W hSw => by obtain ⟨s9, ⟨t0, t1, t2, t3⟩, u0, u1, u2, u3⟩ := hSw; go_simp⟩) hHeld ?_
              try simp only [Act.put, List.setIfInBounds_toArray, List.set_cons_zero, List.set_cons_succ]
              refine takeV 1 (some 97) (.pointer (some ⟨bB, 3, none⟩)) rfl rfl (by kernel_rfl) (by kernel_rfl) (by kernel_rfl) (fun _ _ _ h => h) (Or.inl ⟨by kernel_rfl, fun W hSw => by obtain ⟨s9, ⟨t0, t1, t2, t3⟩, u0, u1, u2, u3⟩ := hSw; go_simp⟩) hHeld ?_
              try simp only [Act.put, List.setIfInBounds_toArray, List.set_cons_zero, List.set_cons_succ]
              refine takeV 2 (some 98) (.slice (some ae) lb.length d) rfl rfl (by kernel_rfl) (by kernel_rfl) (by kernel_rfl) (fun _ _ _ h => h) (Or.inl ⟨by kernel_rfl, fun W hSw => by obtain ⟨s9, ⟨t0, t1, t2, t3⟩, u0, u1, u2, u3⟩ := hSw; go_simp⟩) hHeld ?_
              try simp only [Act.put, List.setIfInBounds_toArray, List.set_cons_zero, List.set_cons_succ]
              refine takeV 3 (some 99) (.int .i64 (i : Int)) rfl rfl (by kernel_rfl) (by kernel_rfl) (by kernel_rfl) (fun _ _ _ h => h) (Or.inl ⟨by kernel_rfl, fun W hSw => by obtain ⟨s9, ⟨t0, t1, t2, t3⟩, u0, u1, u2, u3⟩ := hSw; go_simp⟩) hHeld ?_
              try simp only [Act.put, List.setIfInBounds_toArray, List.set_cons_zero, List.set_cons_succ]
              refine takeV 4 (some 100) (.pointer (some (ae.add (i * 4)))) rfl rfl (by kernel_rfl) (by kernel_rfl) (by kernel_rfl) (fun _ _ _ h => h) (Or.inl ⟨by kernel_rfl, fun W hSw => by obtain ⟨s9, ⟨t0, t1, t2, t3⟩, u0, u1, u2, u3⟩ := hSw; go_simp; first | done | (intro h9; exact absurd h9 (by omega))⟩) hHeld ?_
              try simp only [Act.put, List.setIfInBounds_toArray, List.set_cons_zero, List.set_cons_succ]
              refine takeV 5 (some 101) (formV y0 y1 y2 B5 y3.length d5) rfl rfl (by kernel_rfl) (by kernel_rfl) (by kernel_rfl) (fun _ _ _ h => h) (Or.inl ⟨by kernel_rfl, fun W hSw => by obtain ⟨s9, ⟨t0, t1, t2, t3⟩, u0, u1, u2, u3⟩ := hSw; go_simp⟩) hHeld ?_
              try simp only [Act.put, List.setIfInBounds_toArray, List.set_cons_zero, List.set_cons_succ]
              refine takeV 6 (some 102) (.map (some vb)) rfl rfl (by kernel_rfl) (by kernel_rfl) (by kernel_rfl) (fun _ _ _ h => h) (Or.inl ⟨by kernel_rfl, fun W hSw => by obtain ⟨s9, ⟨t0, t1, t2, t3⟩, u0, u1, u2, u3⟩ := hSw; go_simp⟩) hHeld ?_
              try simp only [Act.put, List.setIfInBounds_toArray, List.set_cons_zero, List.set_cons_succ]
              refine takeV 7 (some 103) (.map (some tb)) rfl rfl (by kernel_rfl) (by kernel_rfl) (by kernel_rfl) (fun _ _ _ h => h) (Or.inl ⟨by kernel_rfl, fun W hSw => by obtain ⟨s9, ⟨t0, t1, t2, t3⟩, u0, u1, u2, u3⟩ := hSw; go_simp⟩) hHeld ?_
              try simp only [Act.put, List.setIfInBounds_toArray, List.set_cons_zero, List.set_cons_succ]
              refine takeV 8 (some 104) (.bool true) rfl rfl (by kernel_rfl) (by kernel_rfl) (by kernel_rfl) (fun _ _ _ h => h) (Or.inl ⟨by kernel_rfl, fun W hSw => by obtain ⟨s9, ⟨t0, t1, t2, t3⟩, u0, u1, u2, u3⟩ := hSw; go_simp⟩) hHeld ?_
              try simp only [Act.put, List.setIfInBounds_toArray, List.set_cons_zero, List.set_cons_succ]
              refine takeV 9 (some 105) (.bool true) rfl rfl (by kernel_rfl) (by kernel_rfl) (by kernel_rfl) (fun _ _ _ h => h) (Or.inl ⟨by kernel_rfl, fun W hSw => by obtain ⟨s9, ⟨t0, t1, t2, t3⟩, u0, u1, u2, u3⟩ := hSw; go_simp⟩) hHeld ?_
              try simp only [Act.put, List.setIfInBounds_toArray, List.set_cons_zero, List.set_cons_succ]
              refine takeV 10 (some 106) (.int .i64 (i : Int)) rfl rfl (by kernel_rfl) (by kernel_rfl) (by kernel_rfl) (fun _ _ _ h => h) (Or.inl ⟨by kernel_rfl, fun W hSw => by obtain ⟨s9, ⟨t0, t1, t2, t3⟩, u0, u1, u2, u3⟩ := hSw; go_simp⟩) hHeld ?_
              try simp only [Act.put, List.setIfInBounds_toArray, List.set_cons_zero, List.set_cons_succ]
              refine takeV 11 (some 107) (.bool true) rfl rfl (by kernel_rfl) (by kernel_rfl) (by kernel_rfl) (fun _ _ _ h => h) (Or.inl ⟨by kernel_rfl, fun W hSw => by obtain ⟨s9, ⟨t0, t1, t2, t3⟩, u0, u1, u2, u3⟩ := hSw; go_simp⟩) hHeld ?_
              try simp only [Act.put, List.setIfInBounds_toArray, List.set_cons_zero, List.set_cons_succ]
              refine takeV 12 (some 108) (.bool true) rfl rfl (by kernel_rfl) (by kernel_rfl) (by kernel_rfl) (fun _ _ _ h => h) (Or.inl ⟨by kernel_rfl, fun W hSw => by obtain ⟨s9, ⟨t0, t1, t2, t3⟩, u0, u1, u2, u3⟩ := hSw; go_simp⟩) hHeld ?_
              try simp only [Act.put, List.setIfInBounds_toArray, List.set_cons_zero, List.set_cons_succ]
              refine takeV 13 (some 109) (.bool true) rfl rfl (by kernel_rfl) (by kernel_rfl) (by kernel_rfl) (fun _ _ _ h => h) (Or.inl ⟨by kernel_rfl, fun W hSw => by obtain ⟨s9, ⟨t0, t1, t2, t3⟩, u0, u1, u2, u3⟩ := hSw; go_simp⟩) hHeld ?_
              try simp only [Act.put, List.setIfInBounds_toArray, List.set_cons_zero, List.set_cons_succ]
              refine takeV 14 (some 110) (.pointer (some ⟨bk, 0, none⟩)) rfl rfl (by kernel_rfl) (by kernel_rfl) (by kernel_rfl) (fun _ _ _ h => h) (Or.inl ⟨by kernel_rfl, fun W hSw => by obtain ⟨s9, ⟨t0, t1, t2, t3⟩, u0, u1, u2, u3⟩ := hSw; go_simp⟩) hHeld ?_
              try simp only [Act.put, List.setIfInBounds_toArray, List.set_cons_zero, List.set_cons_succ]
              refine takeV 15 (some 111) (.int .i64 x0) rfl rfl (by kernel_rfl) (by kernel_rfl) (by kernel_rfl) (fun _ _ _ h => h) (Or.inl ⟨by kernel_rfl, fun W hSw => by obtain ⟨s9, ⟨t0, t1, t2, t3⟩, u0, u1, u2, u3⟩ := hSw; go_simp⟩) hHeld ?_
              try simp only [Act.put, List.setIfInBounds_toArray, List.set_cons_zero, List.set_cons_succ]
              refine takeV 16 (some 112) (.bool false) rfl rfl (by kernel_rfl) (by kernel_rfl) (by kernel_rfl) (fun _ _ _ h => h) (Or.inl ⟨by kernel_rfl, fun W hSw => by obtain ⟨s9, ⟨t0, t1, t2, t3⟩, u0, u1, u2, u3⟩ := hSw; go_simp⟩) hHeld ?_
              try simp only [Act.put, List.setIfInBounds_toArray, List.set_cons_zero, List.set_cons_succ]
              refine takeV 17 (some 113) (.bool false) rfl rfl (by kernel_rfl) (by kernel_rfl) (by kernel_rfl) (fun _ _ _ h => h) (Or.inl ⟨by kernel_rfl, fun W hSw => by obtain ⟨s9, ⟨t0, t1, t2, t3⟩, u0, u1, u2, u3⟩ := hSw; go_simp⟩) hHeld ?_
              try simp only [Act.put, List.setIfInBounds_toArray, List.set_cons_zero, List.set_cons_succ]
              refine wpAnyH_ready (rs := [18]) (by kernel_rfl) (by simp) ?_
              refine AllReadyH.cons rfl (fun K hK => ?_) AllReadyH.nil
              clear hHeld
              go_simp
              go_at_call 63
              refine Calls.mono (MM.out _ (below_drew (Below.refl _ _))) ?_
              rintro e w6 ⟨rfl, h7, mtv3, h8, h9⟩
              have G6 : Hid (wk.grownBy w6 (some tb)) := (grown_of_below (below_drew (Below.refl wk.heap.size wk)) (some tb)).trans h7
              have HSn := HF.out _ G6.out
              have H8 : Hid _ := h8
              have H9 : Hid _ := h9
              clear h7 h8 h9
              cases q1 with
              | true =>
                simp only [if_true] at hV
                have HV9 : Hid _ := hV
                clear hV
                go_wp2_with fail
                refine hK.out _ _ HSn (fun hHeld => ?_)
                clear hK K HSn
                try simp only [Act.put, List.setIfInBounds_toArray, List.set_cons_zero, List.set_cons_succ]
                refine takeV 19 (some 115) (.bool false) rfl rfl (by kernel_rfl) (by kernel_rfl) (by kernel_rfl) (fun _ _ _ h => h) (Or.inl ⟨by kernel_rfl, fun W hSw => by go_simp⟩) hHeld ?_
                try simp only [Act.put, List.setIfInBounds_toArray, List.set_cons_zero, List.set_cons_succ]
                refine wpAnyH_done (by kernel_rfl) ?_ _
                go_wp2_with fail
                go_roundg g
                case measure => omega
                case rel => exact ⟨i + 1, _, mtv3, by go_num, by omega, HG.out.trans G6.out, H8.out, H9.out, HV9.out⟩
              | false =>
                simp only [Bool.false_eq_true, if_false] at hV
                subst hV
                go_wp2_with fail
                refine hK.out _ _ HSn (fun hHeld => ?_)
                clear hK K HSn
                try simp only [Act.put, List.setIfInBounds_toArray, List.set_cons_zero, List.set_cons_succ]
                refine takeV 19 (some 115) (.bool true) rfl rfl (by kernel_rfl) (by kernel_rfl) (by kernel_rfl) (fun _ _ _ h => h) (Or.inl ⟨by kernel_rfl, fun W hSw => by go_simp⟩) hHeld ?_
                try simp only [Act.put, List.setIfInBounds_toArray, List.set_cons_zero, List.set_cons_succ]
                refine wpAnyH_done (by kernel_rfl) ?_ _
                go_wp2_with fail
                go_ret
                exact ⟨rfl, HXG.out.trans (HG.out.trans G6.out), mtv3, H8.out, H9.out⟩
          · have hi3 : ((i : Int) == 1) = false := beq_eq_false_iff_ne.mpr (by omega)
            rw [show (true && decide (i = 1) && (x0 == 3)) = false from by rw [decide_eq_false hi1]; rfl] at hV
            have MM : Hid (∀ wq, Below wk.heap.size wk wq → _) := fun wq hwq => MQ.out W0 wq base sp vb tb mt2 mtv2 ⟨y0, y1, y2, y3⟩ false A5 B5 c5 d5 (HS2.out.below hwq) HT2.out (HW2.out.trans (hwq.mono HW2.out.size)) hb G5.out g4 SX K5.out k4 SY
            obtain ⟨Q, hQ⟩ : ∃ Q, Q = matchM vs ⟨x0, x1, x2, x3⟩ ⟨y0, y1, y2, y3⟩ false mt2 := ⟨_, rfl⟩
            rw [← hQ] at MM hV
            clear hQ MQ
            obtain ⟨q1, mt3⟩ := Q
            simp only [] at hV
            go_wp2_with fail
            clear p0 p1 p2 p3
            refine wp_region_held_drew (S := fun W => W.cell? ⟨bB, 3, none⟩ = some (.slice (some ae) lb.length d) ∧ (W.cell? ⟨bk, 0, none⟩ = some (.int .i64 x0) ∧ W.cell? ⟨bk, 1, none⟩ = some (.int .i64 x1) ∧ W.cell? ⟨bk, 2, none⟩ = some (.string x2) ∧ W.cell? ⟨bk, 3, none⟩ = some (.slice A5 x3.length c5)) ∧ W.cell? (ae.add (i * 4)) = some (.int .i64 y0) ∧ W.cell? ⟨(ae.add (i * 4)).block, (ae.add (i * 4)).off + 1, none⟩ = some (.int .i64 y1) ∧ W.cell? ⟨(ae.add (i * 4)).block, (ae.add (i * 4)).off + 2, none⟩ = some (.string y2) ∧ W.cell? ⟨(ae.add (i * 4)).block, (ae.add (i * 4)).off + 3, none⟩ = some (.slice B5 y3.length d5)) (by kernel_rfl) (HF.out _ (grown_of_below (below_drew (Below.refl _ _)) (some tb))) (fun hHeld => ?_)
            refine takeV 0 (some 96) (formV x0 x1 x2 A5 x3.length c5) rfl rfl (by kernel_rfl) (by kernel_rfl) (by kernel_rfl) (fun _ _ _ h => h) (Or.inl ⟨by kernel_rfl, fun W hSw => by obtain ⟨s9, ⟨t0, t1, t2, t3⟩, u0, u1, u2, u3⟩ := hSw; go_simp⟩) hHeld ?_
            try simp only [Act.put, List.setIfInBounds_toArray, List.set_cons_zero, List.set_cons_succ]
            refine takeV 1 (some 97) (.pointer (some ⟨bB, 3, none⟩)) rfl rfl (by kernel_rfl) (by kernel_rfl) (by kernel_rfl) (fun _ _ _ h => h) (Or.inl ⟨by kernel_rfl, fun W hSw => by obtain ⟨s9, ⟨t0, t1, t2, t3⟩, u0, u1, u2, u3⟩ := hSw; go_simp⟩) hHeld ?_
            try simp only [Act.put, List.setIfInBounds_toArray, List.set_cons_zero, List.set_cons_succ]
            refine takeV 2 (some 98) (.slice (some ae) lb.length d) rfl rfl (by kernel_rfl) (by kernel_rfl) (by kernel_rfl) (fun _ _ _ h => h) (Or.inl ⟨by kernel_rfl, fun W hSw => by obtain ⟨s9, ⟨t0, t1, t2, t3⟩, u0, u1, u2, u3⟩ := hSw; go_simp⟩) hHeld ?_
            try simp only [Act.put, List.setIfInBounds_toArray, List.set_cons_zero, List.set_cons_succ]
            refine takeV 3 (some 99) (.int .i64 (i : Int)) rfl rfl (by kernel_rfl) (by kernel_rfl) (by kernel_rfl) (fun _ _ _ h => h) (Or.inl ⟨by kernel_rfl, fun W hSw => by obtain ⟨s9, ⟨t0, t1, t2, t3⟩, u0, u1, u2, u3⟩ := hSw; go_simp⟩) hHeld ?_
            try simp only [Act.put, List.setIfInBounds_toArray, List.set_cons_zero, List.set_cons_succ]
            refine takeV 4 (some 100) (.pointer (some (ae.add (i * 4)))) rfl rfl (by kernel_rfl) (by kernel_rfl) (by kernel_rfl) (fun _ _ _ h => h) (Or.inl ⟨by kernel_rfl, fun W hSw => by obtain ⟨s9, ⟨t0, t1, t2, t3⟩, u0, u1, u2, u3⟩ := hSw; go_simp; first | done | (intro h9; exact absurd h9 (by omega))⟩) hHeld ?_
            try simp only [Act.put, List.setIfInBounds_toArray, List.set_cons_zero, List.set_cons_succ]
            refine takeV 5 (some 101) (formV y0 y1 y2 B5 y3.length d5) rfl rfl (by kernel_rfl) (by kernel_rfl) (by kernel_rfl) (fun _ _ _ h => h) (Or.inl ⟨by kernel_rfl, fun W hSw => by obtain ⟨s9, ⟨t0, t1, t2, t3⟩, u0, u1, u2, u3⟩ := hSw; go_simp⟩) hHeld ?_
            try simp only [Act.put, List.setIfInBounds_toArray, List.set_cons_zero, List.set_cons_succ]
            refine takeV 6 (some 102) (.map (some vb)) rfl rfl (by kernel_rfl) (by kernel_rfl) (by kernel_rfl) (fun _ _ _ h => h) (Or.inl ⟨by kernel_rfl, fun W hSw => by obtain ⟨s9, ⟨t0, t1, t2, t3⟩, u0, u1, u2, u3⟩ := hSw; go_simp⟩) hHeld ?_
            try simp only [Act.put, List.setIfInBounds_toArray, List.set_cons_zero, List.set_cons_succ]
            refine takeV 7 (some 103) (.map (some tb)) rfl rfl (by kernel_rfl) (by kernel_rfl) (by kernel_rfl) (fun _ _ _ h => h) (Or.inl ⟨by kernel_rfl, fun W hSw => by obtain ⟨s9, ⟨t0, t1, t2, t3⟩, u0, u1, u2, u3⟩ := hSw; go_simp⟩) hHeld ?_
            try simp only [Act.put, List.setIfInBounds_toArray, List.set_cons_zero, List.set_cons_succ]
            refine takeV 8 (some 104) (.bool true) rfl rfl (by kernel_rfl) (by kernel_rfl) (by kernel_rfl) (fun _ _ _ h => h) (Or.inl ⟨by kernel_rfl, fun W hSw => by obtain ⟨s9, ⟨t0, t1, t2, t3⟩, u0, u1, u2, u3⟩ := hSw; go_simp⟩) hHeld ?_
            try simp only [Act.put, List.setIfInBounds_toArray, List.set_cons_zero, List.set_cons_succ]
            refine takeV 9 (some 105) (.bool true) rfl rfl (by kernel_rfl) (by kernel_rfl) (by kernel_rfl) (fun _ _ _ h => h) (Or.inl ⟨by kernel_rfl, fun W hSw => by obtain ⟨s9, ⟨t0, t1, t2, t3⟩, u0, u1, u2, u3⟩ := hSw; go_simp⟩) hHeld ?_
            try simp only [Act.put, List.setIfInBounds_toArray, List.set_cons_zero, List.set_cons_succ]
            refine takeV 10 (some 106) (.int .i64 (i : Int)) rfl rfl (by kernel_rfl) (by kernel_rfl) (by kernel_rfl) (fun _ _ _ h => h) (Or.inl ⟨by kernel_rfl, fun W hSw => by obtain ⟨s9, ⟨t0, t1, t2, t3⟩, u0, u1, u2, u3⟩ := hSw; go_simp⟩) hHeld ?_
            try simp only [Act.put, List.setIfInBounds_toArray, List.set_cons_zero, List.set_cons_succ]
            refine takeV 11 (some 107) (.bool false) rfl rfl (by kernel_rfl) (by kernel_rfl) (by kernel_rfl) (fun _ _ _ h => h) (Or.inl ⟨by kernel_rfl, fun W hSw => by obtain ⟨s9, ⟨t0, t1, t2, t3⟩, u0, u1, u2, u3⟩ := hSw; go_simp⟩) hHeld ?_
            try simp only [Act.put, List.setIfInBounds_toArray, List.set_cons_zero, List.set_cons_succ]
            refine takeV 12 (some 108) (.bool false) rfl rfl (by kernel_rfl) (by kernel_rfl) (by kernel_rfl) (fun _ _ _ h => h) (Or.inl ⟨by kernel_rfl, fun W hSw => by obtain ⟨s9, ⟨t0, t1, t2, t3⟩, u0, u1, u2, u3⟩ := hSw; go_simp⟩) hHeld ?_
            try simp only [Act.put, List.setIfInBounds_toArray, List.set_cons_zero, List.set_cons_succ]
            refine takeV 13 (some 109) (.bool false) rfl rfl (by kernel_rfl) (by kernel_rfl) (by kernel_rfl) (fun _ _ _ h => h) (Or.inl ⟨by kernel_rfl, fun W hSw => by obtain ⟨s9, ⟨t0, t1, t2, t3⟩, u0, u1, u2, u3⟩ := hSw; go_simp⟩) hHeld ?_
            try simp only [Act.put, List.setIfInBounds_toArray, List.set_cons_zero, List.set_cons_succ]
            refine takeV 14 (some 110) undef rfl rfl (by kernel_rfl) (by kernel_rfl) (by kernel_rfl) (fun _ _ _ h => h) (Or.inr ⟨by kernel_rfl, rfl⟩) hHeld ?_
            try simp only [Act.put, List.setIfInBounds_toArray, List.set_cons_zero, List.set_cons_succ]
            refine takeV 15 (some 111) undef rfl rfl (by kernel_rfl) (by kernel_rfl) (by kernel_rfl) (fun _ _ _ h => h) (Or.inr ⟨by kernel_rfl, rfl⟩) hHeld ?_
            try simp only [Act.put, List.setIfInBounds_toArray, List.set_cons_zero, List.set_cons_succ]
            refine takeV 16 (some 112) undef rfl rfl (by kernel_rfl) (by kernel_rfl) (by kernel_rfl) (fun _ _ _ h => h) (Or.inr ⟨by kernel_rfl, rfl⟩) hHeld ?_
            try simp only [Act.put, List.setIfInBounds_toArray, List.set_cons_zero, List.set_cons_succ]
            refine takeV 17 (some 113) (.bool false) rfl rfl (by kernel_rfl) (by kernel_rfl) (by kernel_rfl) (fun _ _ _ h => h) (Or.inl ⟨by kernel_rfl, fun W hSw => by obtain ⟨s9, ⟨t0, t1, t2, t3⟩, u0, u1, u2, u3⟩ := hSw; go_simp⟩) hHeld ?_
            try simp only [Act.put, List.setIfInBounds_toArray, List.set_cons_zero, List.set_cons_succ]
            refine wpAnyH_ready (rs := [18]) (by kernel_rfl) (by simp) ?_
            refine AllReadyH.cons rfl (fun K hK => ?_) AllReadyH.nil
            clear hHeld
            go_simp
            go_at_call 63
            refine Calls.mono (MM.out _ (below_drew (Below.refl _ _))) ?_
            rintro e w6 ⟨rfl, h7, mtv3, h8, h9⟩
            have G6 : Hid (wk.grownBy w6 (some tb)) := (grown_of_below (below_drew (Below.refl wk.heap.size wk)) (some tb)).trans h7
            have HSn := HF.out _ G6.out
            have H8 : Hid _ := h8
            have H9 : Hid _ := h9
            clear h7 h8 h9
            cases q1 with
            | true =>
              simp only [if_true] at hV
              have HV9 : Hid _ := hV
              clear hV
              go_wp2_with fail
              refine hK.out _ _ HSn (fun hHeld => ?_)
              clear hK K HSn
              try simp only [Act.put, List.setIfInBounds_toArray, List.set_cons_zero, List.set_cons_succ]
              refine takeV 19 (some 115) (.bool false) rfl rfl (by kernel_rfl) (by kernel_rfl) (by kernel_rfl) (fun _ _ _ h => h) (Or.inl ⟨by kernel_rfl, fun W hSw => by go_simp⟩) hHeld ?_
              try simp only [Act.put, List.setIfInBounds_toArray, List.set_cons_zero, List.set_cons_succ]
              refine wpAnyH_done (by kernel_rfl) ?_ _
              go_wp2_with fail
              go_roundg g
              case measure => omega
              case rel => exact ⟨i + 1, _, mtv3, by go_num, by omega, HG.out.trans G6.out, H8.out, H9.out, HV9.out⟩
            | false =>
              simp only [Bool.false_eq_true, if_false] at hV
              subst hV
              go_wp2_with fail
              refine hK.out _ _ HSn (fun hHeld => ?_)
              clear hK K HSn
              try simp only [Act.put, List.setIfInBounds_toArray, List.set_cons_zero, List.set_cons_succ]
              refine takeV 19 (some 115) (.bool true) rfl rfl (by kernel_rfl) (by kernel_rfl) (by kernel_rfl) (fun _ _ _ h => h) (Or.inl ⟨by kernel_rfl, fun W hSw => by go_simp⟩) hHeld ?_
              try simp only [Act.put, List.setIfInBounds_toArray, List.set_cons_zero, List.set_cons_succ]
              refine wpAnyH_done (by kernel_rfl) ?_ _
              go_wp2_with fail
              go_ret
              exact ⟨rfl, HXG.out.trans (HG.out.trans G6.out), mtv3, H8.out, H9.out⟩
    · have e1 : decide (i < la.length) = false := decide_eq_false hlt
      have hge2 : la.length ≤ i := by omega
      have e3 : la.drop i = [] := List.drop_eq_nil_of_le (by omega)
      rw [e3] at hV
      simp only [matchL] at hV
      subst hV
      have G9 : Hid _ := HXG.out.trans hg
      have S9 : Hid _ := hS
      have T9 : Hid _ := hT
      clear hg hS hT hW e3
      go_wp2_with fail
      go_ret
      exact ⟨rfl, G9.out, mtv2, S9.out, T9.out⟩
end Go.Proofs.YtcjmplpfebpfpaaGreatDoor

namespace Go.Proofs.YtcjmplpfebpfpaaGreatDoor
open Go.RowKit Go.Proofs Go.Proofs.YtcjmplpfebpfpaaGreatDoorW.PrintWords Go.Proofs.YtcjmplpfebpfpaaGreatDoorW.PrintLast Go.Proofs.YtcjmplpfebpfpaaGreatDoorW.PrintMore PKindInstances
set_option linter.unusedVariables false
set_option linter.unusedSimpArgs false

set_option maxRecDepth 100000 in
set_option maxHeartbeats 4000000 in
/-- Lists of different lengths. -/
theorem match_len (vs : List ByteArray) (W0 w : World) (base sp vb tb : Nat) (mt : List (ByteArray × S24)) (mtv : List (ByteArray × Value)) (a1 : Int) (a2 : ByteArray) (la : List S24) (b1 : Int) (b2 : ByteArray) (lb : List S24) (bare : Bool) (A B : Option Addr) (c d : Nat)
    (hs : SolvAt base w sp vb tb (varsV vs) mtv) (ht : ToAt W0 mt mtv) (hw : Below W0.heap.size W0 w) (hb : W0.heap.size ≤ base) (ha1 : Kd.C k24 W0 A la.length la) (ha2 : la.length ≤ c) (ha3 : wids la < 9000000) (hb1 : Kd.C k24 W0 B lb.length lb) (hb2 : lb.length ≤ d) (hb3 : wids lb < 9000000)
    (hll : la.length ≠ lb.length) :
    Calls Tryz.prog 63 #[formV 3 a1 a2 A la.length c, formV 3 b1 b2 B lb.length d, .map (some vb), .map (some tb), .bool bare] w (MaPost W0 w base sp vb tb vs (false, mt)) := by
  have hu24 := Tryz.underlying24
  obtain ⟨x1, x2, xb⟩ := boxes2 w (Obj.cells #[.int .i64 3, .int .i64 a1, .string a2, .slice A la.length c] 24) (Obj.cells #[.int .i64 3, .int .i64 b1, .string b2, .slice B lb.length d] 24)
  have HS : Hid _ := hs.below xb
  have HG : Hid (w.grownBy _ (some tb)) := grown_of_below xb (some tb)
  have HT : Hid _ := ht
  have en : ((la.length : Int) != (lb.length : Int)) = true := bne_iff_ne.mpr (by omega)
  clear hs ht hw ha1 ha3 hb1 hb3 xb hll
  cases bare with
  | true =>
    go_enter Tryz.func63, Tryz.ntmps63
    go_upto_region 1 with fail
    generalize (w.alloc (Obj.cells #[.int .i64 3, .int .i64 a1, .string a2, .slice A la.length c] 24)).alloc (Obj.cells #[.int .i64 3, .int .i64 b1, .string b2, .slice B lb.length d] 24) = X at *
    obtain ⟨p0, p1, p2, p3⟩ := cells4 x1
    obtain ⟨q0, q1, q2, q3⟩ := cells4 x2
    go_wp2_with fail
    go_ret
    exact ⟨rfl, HG.out, mtv, HS.out, HT.out⟩
  | false =>
    go_enter Tryz.func63, Tryz.ntmps63
    go_upto_region 1 with fail
    generalize (w.alloc (Obj.cells #[.int .i64 3, .int .i64 a1, .string a2, .slice A la.length c] 24)).alloc (Obj.cells #[.int .i64 3, .int .i64 b1, .string b2, .slice B lb.length d] 24) = X at *
    obtain ⟨p0, p1, p2, p3⟩ := cells4 x1
    obtain ⟨q0, q1, q2, q3⟩ := cells4 x2
    go_wp2_with fail
    go_ret
    exact ⟨rfl, HG.out, mtv, HS.out, HT.out⟩

mutual
/-- match, whatever the forms. -/
theorem match_ok (vs : List ByteArray) : ∀ x : S24, MatchOk vs x
  | ⟨a, n, s, l⟩ => by
    have hl := match_oks vs l
    intro W0 w base sp vb tb mt mtv y bare A B c d hs ht hw hb ha1 ha2 ha3 hb1 hb2 hb3
    obtain ⟨b0, b1, b2, lb⟩ := y
    have k1 := wid_kids ⟨a, n, s, l⟩
    have k2 := wid_kids ⟨b0, b1, b2, lb⟩
    simp only [] at k1 k2
    simp only [matchM]
    by_cases hv : bare = false ∧ a = 1 ∧ s ∈ vs
    · rw [if_pos hv]
      obtain ⟨rfl, rfl, hv⟩ := hv
      exact match_var vs W0 w base sp vb tb mt mtv n s l b0 b1 b2 lb A B c d hs ht hw hb ha1 ha2 (by omega) hb1 hb2 hb3 hv
    · rw [if_neg hv]
      by_cases h3 : a ≠ 3 ∨ b0 ≠ 3
      · rw [if_pos h3]
        exact match_eq vs W0 w base sp vb tb mt mtv a n s l b0 b1 b2 lb bare A B c d hs ht hw hb ha1 ha2 ha3 hb1 hb2 hb3 hv h3
      · rw [if_neg h3]
        have h3a : a = 3 := Classical.byContradiction fun h => h3 (.inl h)
        have h3b : b0 = 3 := Classical.byContradiction fun h => h3 (.inr h)
        subst h3a
        subst h3b
        by_cases hll : l.length ≠ lb.length
        · rw [if_pos hll]
          exact match_len vs W0 w base sp vb tb mt mtv n s l b1 b2 lb bare A B c d hs ht hw hb ha1 ha2 (by omega) hb1 hb2 (by omega) hll
        · rw [if_neg hll]
          have hll2 : l.length = lb.length := Classical.not_not.1 hll
          have hq : ∀ x ∈ l, MatchOk vs x ∧ wid x < 9000000 := fun x hx => ⟨hl x hx, by have := wid_mem hx; omega⟩
          cases bare with
          | true => exact match_bare vs W0 w base sp vb tb mt mtv n s l b1 b2 lb A B c d hs ht hw hb ha1 ha2 (by omega) hb1 hb2 (by omega) hll2 hq _ rfl
          | false => exact match_open vs W0 w base sp vb tb mt mtv n s l b1 b2 lb A B c d hs ht hw hb ha1 ha2 (by omega) hb1 hb2 (by omega) hll2 hq _ rfl
theorem match_oks (vs : List ByteArray) : ∀ (l : List S24), ∀ x ∈ l, MatchOk vs x
  | [], x, h => absurd h (List.not_mem_nil)
  | y :: l, x, h => by
    rcases List.mem_cons.1 h with h | h
    · rw [h]; exact match_ok vs y
    · exact match_oks vs l x h
end

end Go.Proofs.YtcjmplpfebpfpaaGreatDoor

namespace Go.Proofs.YtcjmplpfebpfpaaGreatDoor
open Go.RowKit Go.Proofs Go.Proofs.YtcjmplpfebpfpaaGreatDoorW.PrintWords Go.Proofs.YtcjmplpfebpfpaaGreatDoorW.PrintLast Go.Proofs.YtcjmplpfebpfpaaGreatDoorW.PrintMore PKindInstances
set_option linter.unusedVariables false
set_option linter.unusedSimpArgs false

theorem wrap_up {i : Nat} (h : i < 9000000000000) : wrap64 ((i : Int) + 1) = ((i + 1 : Nat) : Int) := by unfold wrap64; omega
theorem drop_at5 {α : Type} {l : List α} {i : Nat} {x : α} (hx : l[i]? = some x) : l.drop i = x :: l.drop (i + 1) := by
  obtain ⟨h, e⟩ := List.getElem?_eq_some_iff.1 hx
  rw [List.drop_eq_getElem_cons h, e]
theorem rdOf_at {α : Type} {z : α} {l : List α} {i : Nat} {x : α} (hx : l[i]? = some x) : rdOf z l (i : Int) = x := by simp [rdOf, List.getD, hx]

theorem bytes_toList' (l : List UInt8) : (ByteArray.mk l.toArray).toList = l := by rw [ByteArray.toList_eq]
theorem has_l0 (l : List ByteArray) (a : ByteArray) (hl : l.length < 9000000000000) (d : Nat) : ∀ (k i : Nat), d + i = l.length → d < k → plinthref03_Has.l0 k l a (i : Int) = some (decide (a ∈ l.drop i)) := by
  induction d with
  | zero =>
    intro k i h hk
    obtain ⟨k, rfl⟩ : ∃ m, k = m + 1 := ⟨k - 1, by omega⟩
    have e : l.drop i = [] := List.drop_eq_nil_of_le (by omega)
    simp only [plinthref03_Has.l0]
    rw [if_neg (by omega), e]
    simp
  | succ d ih =>
    intro k i h hk
    obtain ⟨k, rfl⟩ : ∃ m, k = m + 1 := ⟨k - 1, by omega⟩
    have hlt : i < l.length := by omega
    obtain ⟨x, hx⟩ : ∃ x, l[i]? = some x := ⟨l[i], by simp [hlt]⟩
    simp only [plinthref03_Has.l0]
    rw [if_pos (by omega), if_pos (by omega), rdOf_at hx, drop_at5 hx]
    by_cases e : x.toList = a.toList
    · rw [if_pos e, bytes_inj e]
      simp
    · rw [if_neg e, wrap_up (by omega), ih k (i + 1) (by omega) (by omega)]
      have : a ≠ x := fun h => e (by rw [h])
      simp [this]
theorem has_ev (l : List ByteArray) (a : ByteArray) (hl : l.length < 9000000000000) : Ev (fun k => plinthref03_Has.f k l a) (decide (a ∈ l)) := by
  refine ⟨l.length + 1, fun k hk => ?_⟩
  have := has_l0 l a hl l.length k 0 (by omega) (by omega)
  simpa [plinthref03_Has.f] using this

theorem reserved_ev (s : ByteArray) : Ev (fun k => plinthref03_Reserved.f k s) (resM s) := by
  have h := has_ev ([(⟨#[105, 110, 116]⟩ : ByteArray), (⟨#[98, 111, 111, 108]⟩ : ByteArray), (⟨#[98, 105, 116, 115]⟩ : ByteArray), (⟨#[115, 101, 113]⟩ : ByteArray), (⟨#[115, 101, 116]⟩ : ByteArray), (⟨#[98, 97, 103]⟩ : ByteArray), (⟨#[109, 97, 112]⟩ : ByteArray), (⟨#[105, 109, 97, 112]⟩ : ByteArray), (⟨#[102, 117, 110]⟩ : ByteArray), (⟨#[109, 97, 121, 98, 101]⟩ : ByteArray)]) s (by simp)
  have e1 : (s.toList == [105, 110, 116]) = decide (s = ⟨#[105, 110, 116]⟩) := by
    by_cases h : s = ⟨#[105, 110, 116]⟩
    · rw [h, bytes_toList']; rfl
    · rw [decide_eq_false h]; exact beq_eq_false_iff_ne.mpr fun e => h (bytes_inj (e.trans (bytes_toList' _).symm))
  have e2 : (s.toList == [98, 111, 111, 108]) = decide (s = ⟨#[98, 111, 111, 108]⟩) := by
    by_cases h : s = ⟨#[98, 111, 111, 108]⟩
    · rw [h, bytes_toList']; rfl
    · rw [decide_eq_false h]; exact beq_eq_false_iff_ne.mpr fun e => h (bytes_inj (e.trans (bytes_toList' _).symm))
  have e3 : resM s = decide (s ∈ [(⟨#[105, 110, 116]⟩ : ByteArray), (⟨#[98, 111, 111, 108]⟩ : ByteArray), (⟨#[98, 105, 116, 115]⟩ : ByteArray), (⟨#[115, 101, 113]⟩ : ByteArray), (⟨#[115, 101, 116]⟩ : ByteArray), (⟨#[98, 97, 103]⟩ : ByteArray), (⟨#[109, 97, 112]⟩ : ByteArray), (⟨#[105, 109, 97, 112]⟩ : ByteArray), (⟨#[102, 117, 110]⟩ : ByteArray), (⟨#[109, 97, 121, 98, 101]⟩ : ByteArray)]) := by
    unfold resM
    rw [e1, e2]
    simp only [headsM, look, List.mem_cons, List.not_mem_nil, or_false]
    repeat' split
    all_goals simp_all
  rw [e3]
  exact Ev.bind h (Ev.now _)

/-- A text put into an ascending row, once. -/
def putL : List ByteArray → ByteArray → List ByteArray
  | [], s => [s]
  | x :: l, s => if Op.bytesLess x.toList s.toList = true then x :: putL l s else if x.toList = s.toList then x :: l else s :: x :: l

theorem put_l0 (l : List ByteArray) (a : ByteArray) (hl : l.length < 9000000000) (d : Nat) : ∀ (k i : Nat), d + i = l.length → d < k → plinthref03_put.l0 k l a (i : Int) = some (l.take i ++ putL (l.drop i) a) := by
  induction d with
  | zero =>
    intro k i h hk
    obtain ⟨k, rfl⟩ : ∃ m, k = m + 1 := ⟨k - 1, by omega⟩
    have e : l.drop i = [] := List.drop_eq_nil_of_le (by omega)
    have hi : i = l.length := by omega
    subst hi
    simp only [plinthref03_put.l0]
    rw [if_neg (by omega), e]
    simp [putL]
    omega
  | succ d ih =>
    intro k i h hk
    obtain ⟨k, rfl⟩ : ∃ m, k = m + 1 := ⟨k - 1, by omega⟩
    have hlt : i < l.length := by omega
    obtain ⟨x, hx⟩ : ∃ x, l[i]? = some x := ⟨l[i], by simp [hlt]⟩
    have et : l.take (i + 1) = l.take i ++ [x] := by rw [List.take_add_one, hx]; rfl
    simp only [plinthref03_put.l0]
    rw [if_pos (by omega), if_pos (by omega), rdOf_at hx, drop_at5 hx]
    by_cases e : Op.bytesLess x.toList a.toList = true
    · rw [if_pos e, wrap_up (by omega), ih k (i + 1) (by omega) (by omega), et]
      simp [putL, e]
    · rw [if_neg e]
      by_cases e2 : x.toList = a.toList
      · rw [if_pos e2]
        simp only [putL]
        rw [if_neg e, if_pos e2, ← drop_at5 hx, List.take_append_drop]
      · rw [if_neg e2]
        simp only [putL]
        rw [if_neg e, if_neg e2, ← drop_at5 hx]
        simp
        omega
theorem put_ev (l : List ByteArray) (a : ByteArray) (hl : l.length < 9000000000) : Ev (fun k => plinthref03_put.f k l a) (putL l a) := by
  refine ⟨l.length + 1, fun k hk => ?_⟩
  have := put_l0 l a hl l.length k 0 (by omega) (by omega)
  simpa [plinthref03_put.f] using this

theorem putL_len : ∀ (l : List ByteArray) (a : ByteArray), (putL l a).length ≤ l.length + 1
  | [], a => by simp [putL]
  | x :: l, a => by
    have := putL_len l a
    simp only [putL]
    split
    · simp only [List.length_cons]; omega
    · split <;> simp
end Go.Proofs.YtcjmplpfebpfpaaGreatDoor

namespace Go.Proofs.YtcjmplpfebpfpaaGreatDoor
open Go.RowKit Go.Proofs Go.Proofs.YtcjmplpfebpfpaaGreatDoorW.PrintWords Go.Proofs.YtcjmplpfebpfpaaGreatDoorW.PrintLast Go.Proofs.YtcjmplpfebpfpaaGreatDoorW.PrintMore PKindInstances
set_option linter.unusedVariables false
set_option linter.unusedSimpArgs false

theorem less_lt : ∀ (x y : List UInt8), Op.bytesLess x y = decide (x < y)
  | [], [] => by simp [Op.bytesLess]
  | _ :: _, [] => by simp [Op.bytesLess]
  | [], _ :: _ => by simp [Op.bytesLess]
  | p :: x, q :: y => by
    have ih := less_lt x y
    unfold Op.bytesLess
    rw [ih, Bool.eq_iff_iff]
    simp [List.cons_lt_cons_iff]

abbrev lessB (a b : ByteArray) : Bool := Op.bytesLess a.toList b.toList
theorem lessB_trans {a b c : ByteArray} (h : lessB a b = true) (h2 : lessB b c = true) : lessB a c = true := by
  simp only [lessB, less_lt, decide_eq_true_eq] at *
  exact List.lt_trans h h2
theorem lessB_irrefl (a : ByteArray) : lessB a a = false := by
  simp only [lessB, less_lt, decide_eq_false_iff_not]
  exact List.lt_irrefl _
theorem lessB_asymm {a b : ByteArray} (h : lessB a b = true) : lessB b a = false := by
  cases h2 : lessB b a with
  | false => rfl
  | true => have := lessB_trans h h2; rw [lessB_irrefl] at this; cases this
theorem lessB_total {a b : ByteArray} (h : lessB a b = false) (h2 : a.toList ≠ b.toList) : lessB b a = true := by
  simp only [lessB, less_lt, decide_eq_false_iff_not, decide_eq_true_eq] at *
  exact (List.le_iff_lt_or_eq.1 (List.not_lt.1 h)).resolve_right (fun e => h2 e.symm)

/-- Ascending, each once. -/
def Asc (l : List ByteArray) : Prop := l.Pairwise fun a b => lessB a b = true
theorem Asc.nodup {l : List ByteArray} (h : Asc l) : l.Nodup := h.imp (fun {a b} h e => by rw [e, lessB_irrefl] at h; cases h)
theorem Asc.same {l m : List ByteArray} (hl : Asc l) (hm : Asc m) (h : ∀ x, x ∈ l ↔ x ∈ m) : l = m := by
  have hp : l.Perm m := (List.perm_ext_iff_of_nodup hl.nodup hm.nodup).2 h
  refine List.Perm.eq_of_pairwise (le := fun a b => lessB a b = true) (fun a b _ _ h1 h2 => ?_) hl hm hp
  rw [lessB_asymm h1] at h2
  cases h2

theorem mem_putL : ∀ (l : List ByteArray) (s t : ByteArray), t ∈ putL l s ↔ t = s ∨ t ∈ l
  | [], s, t => by simp [putL]
  | x :: l, s, t => by
    have ih := mem_putL l s t
    simp only [putL]
    split
    · simp only [List.mem_cons, ih]
      constructor
      · rintro (h | h | h)
        · exact .inr (.inl h)
        · exact .inl h
        · exact .inr (.inr h)
      · rintro (h | h | h)
        · exact .inr (.inl h)
        · exact .inl h
        · exact .inr (.inr h)
    · split
      · rename_i e
        have := bytes_inj e
        subst this
        simp only [List.mem_cons]
        constructor
        · exact .inr
        · rintro (h | h)
          · exact .inl h
          · exact h
      · simp only [List.mem_cons]
theorem asc_putL : ∀ (l : List ByteArray) (s : ByteArray), Asc l → Asc (putL l s)
  | [], s, _ => by simp [putL, Asc]
  | x :: l, s, h => by
    have h1 := List.pairwise_cons.1 h
    have ih := asc_putL l s h1.2
    simp only [putL]
    split
    · rename_i e
      refine List.pairwise_cons.2 ⟨fun y hy => ?_, ih⟩
      rcases (mem_putL l s y).1 hy with rfl | hy
      · exact e
      · exact h1.1 y hy
    · rename_i e
      split
      · exact h
      · rename_i e2
        have e3 := lessB_total (a := x) (b := s) (by simpa [lessB] using e) e2
        refine List.pairwise_cons.2 ⟨fun y hy => ?_, h⟩
        rcases List.mem_cons.1 hy with rfl | hy
        · exact e3
        · exact lessB_trans e3 (h1.1 y hy)
theorem putAll_asc : ∀ (m l : List ByteArray), Asc l → Asc (m.foldl putL l) ∧ ∀ t, t ∈ m.foldl putL l ↔ t ∈ l ∨ t ∈ m
  | [], l, h => ⟨h, fun t => by simp⟩
  | s :: m, l, h => by
    obtain ⟨h1, h2⟩ := putAll_asc m (putL l s) (asc_putL l s h)
    refine ⟨h1, fun t => ?_⟩
    simp only [List.foldl_cons, h2, mem_putL, List.mem_cons]
    constructor
    · rintro ((h | h) | h)
      · exact .inr (.inl h)
      · exact .inl h
      · exact .inr (.inr h)
    · rintro (h | h | h)
      · exact .inl (.inr h)
      · exact .inl (.inl h)
      · exact .inr h
theorem backB_toList (t : List UInt8) : (backB t).toList = t := by rw [ByteArray.toList_eq]; rfl
theorem sorted_asc {l : List (List UInt8)} (h : l.Nodup) : Asc ((l.mergeSort leB).map backB) := by
  have tr : ∀ a b c : List UInt8, leB a b = true → leB b c = true → leB a c = true := fun a b c h1 h2 => by simp only [leB, decide_eq_true_eq] at *; exact List.le_trans h1 h2
  have tot : ∀ a b : List UInt8, (leB a b || leB b a) = true := fun a b => by simp only [leB, Bool.or_eq_true, decide_eq_true_eq]; exact List.le_total a b
  have hp := List.pairwise_mergeSort tr tot l
  have hn : (l.mergeSort leB).Nodup := ((List.mergeSort_perm l leB).nodup_iff).2 h
  refine List.pairwise_map.2 ((hp.and hn).imp fun {a b} hab => ?_)
  simp only [lessB, less_lt, backB_toList, decide_eq_true_eq]
  have h1 := hab.1
  simp only [leB, decide_eq_true_eq] at h1
  exact (List.le_iff_lt_or_eq.1 h1).resolve_right hab.2

end Go.Proofs.YtcjmplpfebpfpaaGreatDoor

namespace Go.Proofs.YtcjmplpfebpfpaaGreatDoor
open Go.RowKit Go.Proofs Go.Proofs.YtcjmplpfebpfpaaGreatDoorW.PrintWords Go.Proofs.YtcjmplpfebpfpaaGreatDoorW.PrintLast Go.Proofs.YtcjmplpfebpfpaaGreatDoorW.PrintMore PKindInstances
set_option linter.unusedVariables false
set_option linter.unusedSimpArgs false

def signM (a b : Bool) : Int := if a then -1 else if b then 1 else 0
theorem sign_any (a b : Bool) (w : World) : Calls Tryz.prog 83 #[.bool a, .bool b] w fun e w' => e = .returned (.int .i64 (signM a b)) ∧ w = w' := by
  cases a with
  | true =>
    go_enter Tryz.func83, Tryz.ntmps83
    go_wp2
    go_ret
    exact ⟨rfl, rfl⟩
  | false =>
    cases b with
    | true =>
      go_enter Tryz.func83, Tryz.ntmps83
      go_wp2
      go_ret
      exact ⟨rfl, rfl⟩
    | false =>
      go_enter Tryz.func83, Tryz.ntmps83
      go_wp2
      go_ret
      exact ⟨rfl, rfl⟩
theorem signM_int (x y : Int) : signM (decide (x < y)) (decide (y < x)) = Lib.compareInt x y := by
  unfold signM Lib.compareInt
  by_cases h1 : x < y
  · simp [h1]
  · simp [h1]
theorem signM_str (a b : ByteArray) : signM (Op.bytesLess a.toList b.toList) (!Op.bytesLess a.toList b.toList && !(a.toList == b.toList)) = cmpStr a b := by
  unfold signM cmpStr
  cases Op.bytesLess a.toList b.toList <;> cases (a.toList == b.toList) <;> rfl

def RCmpOk (x : S24) : Prop :=
  ∀ (y : S24) (A B : Option Addr) (c d : Nat) (w : World), Kd.C k24 w A x.f3.length x.f3 → x.f3.length ≤ c → Kd.C k24 w B y.f3.length y.f3 → y.f3.length ≤ d → wid x < 9000000 → wid y < 9000000 →
    Calls Tryz.prog 40 #[formV x.f0 x.f1 x.f2 A x.f3.length c, formV y.f0 y.f1 y.f2 B y.f3.length d] w fun e w' => e = .returned (.int .i64 (cmpM x y)) ∧ Below w.heap.size w w'

/-- What holds of the loop. -/
def RcRel (W0 : World) (l m : List S24) (R : Int) (k : Nat) (x5 : Value) (wr : World) : Prop :=
  ∃ (i : Nat), x5 = .int .i64 (i : Int) ∧ k + i = l.length ∧ i ≤ m.length ∧ Below W0.heap.size W0 wr ∧ cmpL (l.drop i) (m.drop i) = R

set_option maxRecDepth 100000 in
set_option maxHeartbeats 8000000 in
theorem rcompare_list (n : Int) (s : ByteArray) (l : List S24) (y1 : Int) (y2 : ByteArray) (m : List S24) (A B : Option Addr) (c d : Nat) (w : World) (hr : Kd.C k24 w A l.length l) (hc : l.length ≤ c) (hs : Kd.C k24 w B m.length m) (hd : m.length ≤ d)
    (hn : wids l < 9000000) (hm : wids m < 9000000) (hq : ∀ x ∈ l, RCmpOk x) :
    Calls Tryz.prog 40 #[formV 3 n s A l.length c, formV 3 y1 y2 B m.length d] w fun e w' => e = .returned (.int .i64 (cmpL l m)) ∧ Below w.heap.size w w' := by
  have hu24 := Tryz.underlying24
  have h1 := wids_len l
  have h2 := wids_len m
  obtain ⟨R, hR⟩ : ∃ R, R = cmpL l m := ⟨_, rfl⟩
  rw [← hR]
  obtain ⟨x1, x2, xb⟩ := boxes2 w (Obj.cells #[.int .i64 3, .int .i64 n, .string s, .slice A l.length c] 24) (Obj.cells #[.int .i64 3, .int .i64 y1, .string y2, .slice B m.length d] 24)
  have XB : Hid _ := xb
  have HA : Hid _ := Kd.C_below hr xb
  have HB : Hid _ := Kd.C_below hs xb
  have HQ : Hid _ := hq
  clear xb hr hs hq
  go_enter Tryz.func40, Tryz.ntmps40
  go_upto_region 1 with fail
  generalize (w.alloc (Obj.cells #[.int .i64 3, .int .i64 n, .string s, .slice A l.length c] 24)).alloc (Obj.cells #[.int .i64 3, .int .i64 y1, .string y2, .slice B m.length d] 24) = X at *
  obtain ⟨p0, p1, p2, p3⟩ := cells4 x1
  obtain ⟨q0, q1, q2, q3⟩ := cells4 x2
  have start : Hid (RcRel X l m R l.length (.int .i64 ((0 : Nat) : Int)) X) := ⟨0, rfl, rfl, Nat.zero_le _, Below.refl _ _, hR.symm⟩
  generalize hbA : w.heap.size = bA at *
  generalize hbB : bA + 1 = bB at *
  clear x1 x2 hR
  go_wp2_with fail
  go_loopg [5] l.length (fun k x5 wr => RcRel X l m R k x5 wr)
  case atStart => exact start.out
  case round =>
    clear start
    obtain ⟨i, rfl, hki, him, hB0, hV⟩ := hrel
    replace p3 := pw_cell_below hB0 p3
    replace q3 := pw_cell_below hB0 q3
    by_cases hlt : i < l.length
    · by_cases hlm : i < m.length
      · obtain ⟨g, rfl⟩ : ∃ g, gk = g + 1 := ⟨gk - 1, by omega⟩
        have e1 : decide (i < l.length) = true := decide_eq_true hlt
        have e2 : decide (i < m.length) = true := decide_eq_true hlm
        obtain ⟨x, hx⟩ : ∃ x, l[i]? = some x := ⟨l[i]'(by omega), List.getElem?_eq_getElem _⟩
        obtain ⟨y, hy⟩ : ∃ y, m[i]? = some y := ⟨m[i]'(by omega), List.getElem?_eq_getElem _⟩
        obtain ⟨ad, A5, c5, rfl, g0, g1, g2, g3, g4, g5⟩ := row_at (Kd.C_below HA.out hB0) (by omega) hx
        obtain ⟨ae, B5, d5, rfl, k0, k1, k2, k3, k4, k5⟩ := row_at (Kd.C_below HB.out hB0) (by omega) hy
        rw [drop_at3 hx, drop_at3 hy] at hV
        simp only [cmpL] at hV
        have MQ : Hid (∀ wq, Below wr.heap.size wr wq → _) := fun wq hwq => HQ.out x (List.mem_of_getElem? hx) y A5 B5 c5 d5 wq (Kd.C_below g5 hwq) g4 (Kd.C_below k5 hwq) k4 (by have := wid_mem (List.mem_of_getElem? hx); omega) (by have := wid_mem (List.mem_of_getElem? hy); omega)
        clear hx hy g5 k5
        obtain ⟨x0, x1, x2, x3⟩ := x
        obtain ⟨y0, y1', y2', y3⟩ := y
        have HF : Hid (∀ W : World, Below wr.heap.size wr W → W.cell? ⟨bA, 3, none⟩ = some (.slice (some ad) l.length c) ∧ W.cell? ⟨bB, 3, none⟩ = some (.slice (some ae) m.length d) ∧ (W.cell? (ad.add (i * 4)) = some (.int .i64 x0) ∧ W.cell? ⟨(ad.add (i * 4)).block, (ad.add (i * 4)).off + 1, none⟩ = some (.int .i64 x1) ∧ W.cell? ⟨(ad.add (i * 4)).block, (ad.add (i * 4)).off + 2, none⟩ = some (.string x2) ∧ W.cell? ⟨(ad.add (i * 4)).block, (ad.add (i * 4)).off + 3, none⟩ = some (.slice A5 x3.length c5)) ∧ (W.cell? (ae.add (i * 4)) = some (.int .i64 y0) ∧ W.cell? ⟨(ae.add (i * 4)).block, (ae.add (i * 4)).off + 1, none⟩ = some (.int .i64 y1') ∧ W.cell? ⟨(ae.add (i * 4)).block, (ae.add (i * 4)).off + 2, none⟩ = some (.string y2') ∧ W.cell? ⟨(ae.add (i * 4)).block, (ae.add (i * 4)).off + 3, none⟩ = some (.slice B5 y3.length d5))) := fun W h => ⟨pw_cell_below h p3, pw_cell_below h q3, ⟨pw_cell_below h g0, pw_cell_below h g1, pw_cell_below h g2, pw_cell_below h g3⟩, pw_cell_below h k0, pw_cell_below h k1, pw_cell_below h k2, pw_cell_below h k3⟩
        obtain ⟨q, hq⟩ : ∃ q, q = cmpM ⟨x0, x1, x2, x3⟩ ⟨y0, y1', y2', y3⟩ := ⟨_, rfl⟩
        rw [← hq] at MQ hV
        have HBL : Hid _ := hB0
        have HV : Hid _ := hV
        clear hq hB0 hV
        go_wp2_with fail
        clear p0 p1 p2 p3 q0 q1 q2 q3 g0 g1 g2 g3 k0 k1 k2 k3
        refine wp_region_held_drew (S := fun W => W.cell? ⟨bA, 3, none⟩ = some (.slice (some ad) l.length c) ∧ W.cell? ⟨bB, 3, none⟩ = some (.slice (some ae) m.length d) ∧ (W.cell? (ad.add (i * 4)) = some (.int .i64 x0) ∧ W.cell? ⟨(ad.add (i * 4)).block, (ad.add (i * 4)).off + 1, none⟩ = some (.int .i64 x1) ∧ W.cell? ⟨(ad.add (i * 4)).block, (ad.add (i * 4)).off + 2, none⟩ = some (.string x2) ∧ W.cell? ⟨(ad.add (i * 4)).block, (ad.add (i * 4)).off + 3, none⟩ = some (.slice A5 x3.length c5)) ∧ (W.cell? (ae.add (i * 4)) = some (.int .i64 y0) ∧ W.cell? ⟨(ae.add (i * 4)).block, (ae.add (i * 4)).off + 1, none⟩ = some (.int .i64 y1') ∧ W.cell? ⟨(ae.add (i * 4)).block, (ae.add (i * 4)).off + 2, none⟩ = some (.string y2') ∧ W.cell? ⟨(ae.add (i * 4)).block, (ae.add (i * 4)).off + 3, none⟩ = some (.slice B5 y3.length d5))) (by kernel_rfl) (HF.out _ (below_drew (Below.refl _ _))) (fun hHeld => ?_)
        refine takeV 0 (some 68) (.pointer (some ⟨bA, 3, none⟩)) rfl rfl (by kernel_rfl) (by kernel_rfl) (by kernel_rfl) (fun _ _ _ h => h) (Or.inl ⟨by kernel_rfl, fun W hSw => by obtain ⟨s1, s2, ⟨t0, t1, t2, t3⟩, u0, u1, u2, u3⟩ := hSw; go_simp⟩) hHeld ?_
        try simp only [Act.put, List.setIfInBounds_toArray, List.set_cons_zero, List.set_cons_succ]
        refine takeV 1 (some 69) (.slice (some ad) l.length c) rfl rfl (by kernel_rfl) (by kernel_rfl) (by kernel_rfl) (fun _ _ _ h => h) (Or.inl ⟨by kernel_rfl, fun W hSw => by obtain ⟨s1, s2, ⟨t0, t1, t2, t3⟩, u0, u1, u2, u3⟩ := hSw; go_simp⟩) hHeld ?_
        try simp only [Act.put, List.setIfInBounds_toArray, List.set_cons_zero, List.set_cons_succ]
        refine takeV 2 (some 70) (.int .i64 (i : Int)) rfl rfl (by kernel_rfl) (by kernel_rfl) (by kernel_rfl) (fun _ _ _ h => h) (Or.inl ⟨by kernel_rfl, fun W hSw => by obtain ⟨s1, s2, ⟨t0, t1, t2, t3⟩, u0, u1, u2, u3⟩ := hSw; go_simp⟩) hHeld ?_
        try simp only [Act.put, List.setIfInBounds_toArray, List.set_cons_zero, List.set_cons_succ]
        refine takeV 3 (some 71) (.pointer (some (ad.add (i * 4)))) rfl rfl (by kernel_rfl) (by kernel_rfl) (by kernel_rfl) (fun _ _ _ h => h) (Or.inl ⟨by kernel_rfl, fun W hSw => by obtain ⟨s1, s2, ⟨t0, t1, t2, t3⟩, u0, u1, u2, u3⟩ := hSw; go_simp; first | done | (intro h9; exact absurd h9 (by omega))⟩) hHeld ?_
        try simp only [Act.put, List.setIfInBounds_toArray, List.set_cons_zero, List.set_cons_succ]
        refine takeV 4 (some 72) (formV x0 x1 x2 A5 x3.length c5) rfl rfl (by kernel_rfl) (by kernel_rfl) (by kernel_rfl) (fun _ _ _ h => h) (Or.inl ⟨by kernel_rfl, fun W hSw => by obtain ⟨s1, s2, ⟨t0, t1, t2, t3⟩, u0, u1, u2, u3⟩ := hSw; go_simp⟩) hHeld ?_
        try simp only [Act.put, List.setIfInBounds_toArray, List.set_cons_zero, List.set_cons_succ]
        refine takeV 5 (some 73) (.pointer (some ⟨bB, 3, none⟩)) rfl rfl (by kernel_rfl) (by kernel_rfl) (by kernel_rfl) (fun _ _ _ h => h) (Or.inl ⟨by kernel_rfl, fun W hSw => by obtain ⟨s1, s2, ⟨t0, t1, t2, t3⟩, u0, u1, u2, u3⟩ := hSw; go_simp⟩) hHeld ?_
        try simp only [Act.put, List.setIfInBounds_toArray, List.set_cons_zero, List.set_cons_succ]
        refine takeV 6 (some 74) (.slice (some ae) m.length d) rfl rfl (by kernel_rfl) (by kernel_rfl) (by kernel_rfl) (fun _ _ _ h => h) (Or.inl ⟨by kernel_rfl, fun W hSw => by obtain ⟨s1, s2, ⟨t0, t1, t2, t3⟩, u0, u1, u2, u3⟩ := hSw; go_simp⟩) hHeld ?_
        try simp only [Act.put, List.setIfInBounds_toArray, List.set_cons_zero, List.set_cons_succ]
        refine takeV 7 (some 75) (.int .i64 (i : Int)) rfl rfl (by kernel_rfl) (by kernel_rfl) (by kernel_rfl) (fun _ _ _ h => h) (Or.inl ⟨by kernel_rfl, fun W hSw => by obtain ⟨s1, s2, ⟨t0, t1, t2, t3⟩, u0, u1, u2, u3⟩ := hSw; go_simp⟩) hHeld ?_
        try simp only [Act.put, List.setIfInBounds_toArray, List.set_cons_zero, List.set_cons_succ]
        refine takeV 8 (some 76) (.pointer (some (ae.add (i * 4)))) rfl rfl (by kernel_rfl) (by kernel_rfl) (by kernel_rfl) (fun _ _ _ h => h) (Or.inl ⟨by kernel_rfl, fun W hSw => by obtain ⟨s1, s2, ⟨t0, t1, t2, t3⟩, u0, u1, u2, u3⟩ := hSw; go_simp; first | done | (intro h9; exact absurd h9 (by omega))⟩) hHeld ?_
        try simp only [Act.put, List.setIfInBounds_toArray, List.set_cons_zero, List.set_cons_succ]
        refine takeV 9 (some 77) (formV y0 y1' y2' B5 y3.length d5) rfl rfl (by kernel_rfl) (by kernel_rfl) (by kernel_rfl) (fun _ _ _ h => h) (Or.inl ⟨by kernel_rfl, fun W hSw => by obtain ⟨s1, s2, ⟨t0, t1, t2, t3⟩, u0, u1, u2, u3⟩ := hSw; go_simp⟩) hHeld ?_
        try simp only [Act.put, List.setIfInBounds_toArray, List.set_cons_zero, List.set_cons_succ]
        refine wpAnyH_ready (rs := [10]) (by kernel_rfl) (by simp) ?_
        refine AllReadyH.cons rfl (fun K hK => ?_) AllReadyH.nil
        clear hHeld
        go_simp
        go_at_call 40
        refine Calls.mono (MQ.out _ (below_drew (Below.refl _ _))) ?_
        rintro e w6 ⟨rfl, B6'⟩
        have B6 : Hid _ := below_after (below_drew (Below.refl wr.heap.size wr)) B6'
        have HSn := HF.out _ B6.out
        clear B6'
        go_wp2_with fail
        refine hK.out _ _ HSn (fun hHeld => ?_)
        clear hK K
        try simp only [Act.put, List.setIfInBounds_toArray, List.set_cons_zero, List.set_cons_succ]
        refine takeV 11 (some 6) (.int .i64 q) rfl rfl (by kernel_rfl) (by kernel_rfl) (by kernel_rfl) (fun _ _ _ h => h) (Or.inl ⟨by kernel_rfl, fun W hSw => by go_simp⟩) hHeld ?_
        try simp only [Act.put, List.setIfInBounds_toArray, List.set_cons_zero, List.set_cons_succ]
        refine wpAnyH_done (by kernel_rfl) ?_ _
        have hV := HV.out
        clear HV hHeld HSn
        by_cases hz : q = 0
        · subst hz
          simp only [ne_eq, not_true_eq_false, if_false] at hV
          have HV9 : Hid _ := hV
          clear hV
          go_wp2_with fail
          go_roundg g
          case measure => omega
          case rel => exact ⟨i + 1, by go_num, by omega, by omega, below_after HBL.out B6.out, HV9.out⟩
        · have qn : (q != 0) = true := bne_iff_ne.mpr hz
          rw [if_pos hz] at hV
          subst hV
          clear hz
          go_wp2_with fail
          go_ret
          exact ⟨rfl, by subst hbA; exact below_after XB.out (below_after HBL.out B6.out)⟩
      · have e1 : decide (i < l.length) = true := decide_eq_true hlt
        have e2 : decide (i < m.length) = false := decide_eq_false hlm
        obtain ⟨x, hx⟩ : ∃ x, l[i]? = some x := ⟨l[i]'(by omega), List.getElem?_eq_getElem _⟩
        have e3 : m.drop i = [] := List.drop_eq_nil_of_le (by omega)
        rw [e3, drop_at3 hx] at hV
        simp only [cmpL] at hV
        subst hV
        have f1 : decide (l.length < m.length) = false := decide_eq_false (by omega)
        have f2 : decide (m.length < l.length) = true := decide_eq_true (by omega)
        have BW : Hid _ := hB0
        have hge : m.length ≤ i := by omega
        clear hB0 e3 hx
        go_wp2_with fail
        refine (sign_any _ _ _).mono ?_
        rintro e w6 ⟨rfl, rfl⟩
        go_wp2_with fail
        go_ret
        exact ⟨rfl, by subst hbA; exact below_after XB.out BW.out⟩
    · have e1 : decide (i < l.length) = false := decide_eq_false hlt
      have e3 : l.drop i = [] := List.drop_eq_nil_of_le (by omega)
      rw [e3] at hV
      have e4 : (m.drop i).length = m.length - i := List.length_drop
      have hV2 : signM (decide (l.length < m.length)) (decide (m.length < l.length)) = R := by
        rw [← hV]
        simp only [cmpL]
        by_cases h : l.length < m.length
        · rw [if_pos (by omega), decide_eq_true h]; rfl
        · rw [if_neg (by omega), decide_eq_false h, decide_eq_false (by omega)]; rfl
      have BW : Hid _ := hB0
      have hge : l.length ≤ i := by omega
      clear hB0 e3 hV e4
      obtain ⟨f1, hf1⟩ : ∃ f, f = decide (l.length < m.length) := ⟨_, rfl⟩
      obtain ⟨f2, hf2⟩ : ∃ f, f = decide (m.length < l.length) := ⟨_, rfl⟩
      rw [← hf1, ← hf2] at hV2
      replace hf1 := hf1.symm
      replace hf2 := hf2.symm
      go_wp2_with fail
      refine (sign_any _ _ _).mono ?_
      rintro e w6 ⟨rfl, rfl⟩
      go_wp2_with fail
      go_ret
      exact ⟨rfl, by subst hbA; exact below_after XB.out BW.out⟩

set_option maxRecDepth 100000 in
set_option maxHeartbeats 4000000 in
theorem rcompare_flat (a n : Int) (s : ByteArray) (l : List S24) (y0 y1 : Int) (y2 : ByteArray) (y3 : List S24) (A B : Option Addr) (c d : Nat) (w : World) (h3 : ¬ (a = 3 ∧ y0 = 3)) :
    Calls Tryz.prog 40 #[formV a n s A l.length c, formV y0 y1 y2 B y3.length d] w fun e w' => e = .returned (.int .i64 (cmpM ⟨a, n, s, l⟩ ⟨y0, y1, y2, y3⟩)) ∧ Below w.heap.size w w' := by
  have hu24 := Tryz.underlying24
  obtain ⟨x1, x2, xb⟩ := boxes2 w (Obj.cells #[.int .i64 a, .int .i64 n, .string s, .slice A l.length c] 24) (Obj.cells #[.int .i64 y0, .int .i64 y1, .string y2, .slice B y3.length d] 24)
  have XB : Hid _ := xb
  clear xb
  by_cases h0 : a = y0
  · subst h0
    have b0 : (a != a) = false := by simp
    have b33 : a ≠ 3 := fun h => h3 ⟨h, h⟩
    by_cases h1 : a = 0
    · have e1 : cmpM ⟨a, n, s, l⟩ ⟨a, y1, y2, y3⟩ = signM (decide (n < y1)) (decide (y1 < n)) := by simp [cmpM, h1, signM_int]
      rw [e1]
      subst h1
      clear e1
      go_enter Tryz.func40, Tryz.ntmps40
      go_upto_region 1 with fail
      generalize (w.alloc (Obj.cells #[.int .i64 0, .int .i64 n, .string s, .slice A l.length c] 24)).alloc (Obj.cells #[.int .i64 0, .int .i64 y1, .string y2, .slice B y3.length d] 24) = X at *
      obtain ⟨p0, p1, p2, p3⟩ := cells4 x1
      obtain ⟨q0, q1, q2, q3⟩ := cells4 x2
      go_wp2_with fail
      refine (sign_any _ _ _).mono ?_
      rintro e w6 ⟨rfl, rfl⟩
      go_wp2_with fail
      go_ret
      exact ⟨rfl, XB.out⟩
    · have b1 : (a == 0) = false := beq_eq_false_iff_ne.mpr h1
      by_cases h2 : a = 1
      · have e1 : cmpM ⟨a, n, s, l⟩ ⟨a, y1, y2, y3⟩ = signM (Op.bytesLess s.toList y2.toList) (!Op.bytesLess s.toList y2.toList && !(s.toList == y2.toList)) := by simp [cmpM, h2, signM_str]
        rw [e1]
        subst h2
        clear e1
        go_enter Tryz.func40, Tryz.ntmps40
        go_upto_region 1 with fail
        generalize (w.alloc (Obj.cells #[.int .i64 1, .int .i64 n, .string s, .slice A l.length c] 24)).alloc (Obj.cells #[.int .i64 1, .int .i64 y1, .string y2, .slice B y3.length d] 24) = X at *
        obtain ⟨p0, p1, p2, p3⟩ := cells4 x1
        obtain ⟨q0, q1, q2, q3⟩ := cells4 x2
        go_wp2_with fail
        refine (sign_any _ _ _).mono ?_
        rintro e w6 ⟨rfl, rfl⟩
        go_wp2_with fail
        go_ret
        exact ⟨rfl, XB.out⟩
      · have b2 : (a == 1) = false := beq_eq_false_iff_ne.mpr h2
        by_cases h4 : a = 2
        · have e1 : cmpM ⟨a, n, s, l⟩ ⟨a, y1, y2, y3⟩ = signM (Op.bytesLess s.toList y2.toList) (!Op.bytesLess s.toList y2.toList && !(s.toList == y2.toList)) := by simp [cmpM, h4, signM_str]
          rw [e1]
          subst h4
          clear e1
          go_enter Tryz.func40, Tryz.ntmps40
          go_upto_region 1 with fail
          generalize (w.alloc (Obj.cells #[.int .i64 2, .int .i64 n, .string s, .slice A l.length c] 24)).alloc (Obj.cells #[.int .i64 2, .int .i64 y1, .string y2, .slice B y3.length d] 24) = X at *
          obtain ⟨p0, p1, p2, p3⟩ := cells4 x1
          obtain ⟨q0, q1, q2, q3⟩ := cells4 x2
          go_wp2_with fail
          refine (sign_any _ _ _).mono ?_
          rintro e w6 ⟨rfl, rfl⟩
          go_wp2_with fail
          go_ret
          exact ⟨rfl, XB.out⟩
        · have b3 : (a == 2) = false := beq_eq_false_iff_ne.mpr h4
          have b4 : (a == 3) = false := beq_eq_false_iff_ne.mpr b33
          have e1 : cmpM ⟨a, n, s, l⟩ ⟨a, y1, y2, y3⟩ = 0 := by simp [cmpM, h1, h2, h4, b33]
          rw [e1]
          clear e1 h1 h2 h4 b33 h3
          go_enter Tryz.func40, Tryz.ntmps40
          go_upto_region 1 with fail
          generalize (w.alloc (Obj.cells #[.int .i64 a, .int .i64 n, .string s, .slice A l.length c] 24)).alloc (Obj.cells #[.int .i64 a, .int .i64 y1, .string y2, .slice B y3.length d] 24) = X at *
          obtain ⟨p0, p1, p2, p3⟩ := cells4 x1
          obtain ⟨q0, q1, q2, q3⟩ := cells4 x2
          go_wp2_with fail
          go_ret
          exact ⟨rfl, XB.out⟩
  · have b0 : (a != y0) = true := bne_iff_ne.mpr h0
    have e1 : cmpM ⟨a, n, s, l⟩ ⟨y0, y1, y2, y3⟩ = signM (decide (a < y0)) (decide (y0 < a)) := by simp [cmpM, h0, signM_int]
    rw [e1]
    clear e1 h0 h3
    go_enter Tryz.func40, Tryz.ntmps40
    go_upto_region 1 with fail
    generalize (w.alloc (Obj.cells #[.int .i64 a, .int .i64 n, .string s, .slice A l.length c] 24)).alloc (Obj.cells #[.int .i64 y0, .int .i64 y1, .string y2, .slice B y3.length d] 24) = X at *
    obtain ⟨p0, p1, p2, p3⟩ := cells4 x1
    obtain ⟨q0, q1, q2, q3⟩ := cells4 x2
    go_wp2_with fail
    refine (sign_any _ _ _).mono ?_
    rintro e w6 ⟨rfl, rfl⟩
    go_wp2_with fail
    go_ret
    exact ⟨rfl, XB.out⟩

mutual
theorem rcmp_ok : ∀ x : S24, RCmpOk x
  | ⟨a, n, s, l⟩ => by
    have hl := rcmp_oks l
    intro y A B c d w hr hc hs hd hx hy
    obtain ⟨y0, y1, y2, y3⟩ := y
    have k1 := wid_kids ⟨a, n, s, l⟩
    have k2 := wid_kids ⟨y0, y1, y2, y3⟩
    simp only [] at k1 k2
    by_cases h3 : a = 3 ∧ y0 = 3
    · obtain ⟨rfl, rfl⟩ := h3
      have e1 : cmpM ⟨3, n, s, l⟩ ⟨3, y1, y2, y3⟩ = cmpL l y3 := by simp [cmpM]
      rw [e1]
      exact rcompare_list n s l y1 y2 y3 A B c d w hr hc hs hd (by omega) (by omega) hl
    · exact rcompare_flat a n s l y0 y1 y2 y3 A B c d w h3
theorem rcmp_oks : ∀ (l : List S24), ∀ x ∈ l, RCmpOk x
  | [], x, h => absurd h (List.not_mem_nil)
  | y :: l, x, h => by
    rcases List.mem_cons.1 h with h | h
    · rw [h]; exact rcmp_ok y
    · exact rcmp_oks l x h
end

set_option maxRecDepth 100000 in
theorem REqual_any (x y : S24) (A B : Option Addr) (c d : Nat) (w : World) (hr : Kd.C k24 w A x.f3.length x.f3) (hc : x.f3.length ≤ c) (hs : Kd.C k24 w B y.f3.length y.f3) (hd : y.f3.length ≤ d) (hx : wid x < 9000000) (hy : wid y < 9000000) :
    Calls Tryz.prog 11 #[formV x.f0 x.f1 x.f2 A x.f3.length c, formV y.f0 y.f1 y.f2 B y.f3.length d] w fun e w' => e = .returned (.bool (eqM x y)) ∧ Below w.heap.size w w' := by
  have hu24 := Tryz.underlying24
  have HC := fun w1 h1 h2 => rcmp_ok x y A B c d w1 h1 hc h2 hd hx hy
  obtain ⟨a, n, s, l⟩ := x
  obtain ⟨y0, y1, y2, y3⟩ := y
  have HC : Hid _ := HC ((w.alloc (Obj.cells #[.int .i64 a, .int .i64 n, .string s, .slice A l.length c] 24)).alloc (Obj.cells #[.int .i64 y0, .int .i64 y1, .string y2, .slice B y3.length d] 24)) (Kd.C_alloc (Kd.C_alloc hr _) _) (Kd.C_alloc (Kd.C_alloc hs _) _)
  obtain ⟨q, hq⟩ : ∃ q, q = cmpM ⟨a, n, s, l⟩ ⟨y0, y1, y2, y3⟩ := ⟨_, rfl⟩
  unfold eqM
  rw [← hq] at HC ⊢
  clear hr hs hq hx hy
  go_enter Tryz.func11, Tryz.ntmps11
  go_wp2_with fail
  refine Calls.mono HC.out ?_
  rintro e w2 ⟨rfl, B2⟩
  have B3 : Below w.heap.size w w2 := below_after (by (repeat (first | assumption | exact Below.refl _ _ | apply below_alloc | apply pw_below_drewN | apply below_drew1))) B2
  clear B2
  go_wp2_with fail
  go_ret
  exact ⟨rfl, B3⟩

end Go.Proofs.YtcjmplpfebpfpaaGreatDoor
