/- The law ClauseSolve, walked. -/
import Derived.Test.YtdllaphnkbnpoaaXg
import Derived.BigQuiet
namespace Go.Proofs.Ytdllaphnkbnpoaa
open Go.RowKit Go.Proofs

theorem lit_wide {D : List (List Int)} (h : Lits D) : ∀ e ∈ D, ∀ x ∈ e, -9223372036854775808 ≤ x ∧ x ≤ 9223372036854775807 := fun e he x hx => by
  have := h e he x hx; omega

theorem sat_ok {σ' : S} {D : List (List Int)} (hr : refM D = 0) (hl : Lits D) (h : SatBy (fun v => σ'.isTrue v) D) : satisfiesM D (truesOf σ' D) = (true, 0) := by
  unfold satisfiesM
  rw [if_neg (by simp [hr]), if_neg (by rw [lit_big (trues_lits hl)]; simp), if_neg (by rw [trues_twice]; simp), trues_holds h]

set_option maxRecDepth 100000 in
set_option maxHeartbeats 4000000 in
theorem solveLaw_any {w : World} {A : Option Addr} {D : List (List Int)} {c : Nat} (hA : LiesR w.heap.size w A D) (hc0 : A = none → c = 0) (hn : D.length ≤ 9223372036854775807) (hm : ∀ e ∈ D, e.length ≤ 9223372036854775807) (hw : ∀ e ∈ D, ∀ x ∈ e, -9223372036854775808 ≤ x ∧ x ≤ 9223372036854775807) :
    Calls Try.prog 3 #[.slice A D.length c] w fun e w' => e = .returned (.bool true) ∧ Below w.heap.size w w' := by
  have LI := light_any (c := c) hA hn
  have RC := refCheck_any (c := c) hA hn hm hw
  by_cases hl : lightM D = true
  · rw [hl] at LI
    by_cases hr : refM D = 0
    · rw [hr] at RC
      have lit := lit_of_ref hr
      have hsmall : D.length ≤ 60 ∧ ∀ e ∈ D, e.length ≤ 12 := by
        unfold lightM at hl
        rw [Bool.and_eq_true] at hl
        exact ⟨of_decide_eq_true hl.1, fun e he => of_decide_eq_true (List.all_eq_true.1 hl.2 e he)⟩
      have hall : (absAll D).length ≤ 60000 := by
        have h1 := absAll_len D 12 hsmall.2
        have h2 := Nat.mul_le_mul_right 12 hsmall.1
        omega
      have RV : Hid (∀ W : World, Below w.heap.size w W → Calls Try.prog 11 #[.slice A D.length c] W fun e w' => ∃ v', e = .returned (.slice (ad v') (refVars D).length (cp v')) ∧ Below W.heap.size W w' ∧ Holds W.heap.size w' (locs (.row v' 3 (ints (refVars D))))) := fun W B =>
        refVars_any (cc := c) (Nat.le_refl _) ((hA.below B).mono B.size) (by omega) (fun i hi => by have := hsmall.2 _ (row_ne D [] hi); omega) hall (fun e he x hx => by have := lit e he x hx; omega)
      have RV0 := RV.out w (Below.refl _ _)
      have LH : Hid _ := hA
      by_cases hv : 12 < (refVars D).length
      · have g1 : (12 : Int) < ((refVars D).length : Int) := by omega
        clear hA hw hm hl hr lit hsmall hall RV hc0
        go_enter Try.func3, Try.ntmps3
        go_wp2_with fail
        refine LI.mono ?_
        rintro e w' ⟨rfl, rfl⟩
        go_wp2_with fail
        refine RC.mono ?_
        rintro e w'' ⟨rfl, rfl⟩
        clear LI RC
        go_wp2_with fail
        refine RV0.mono ?_
        rintro e w1 ⟨v', rfl, B1, H1⟩
        have BH : Hid _ := B1
        clear RV0 B1 H1
        go_wp2_with fail
        refine (sane_any _).mono ?_
        rintro e w2 ⟨rfl, B2⟩
        have BE : Hid _ := BH.out.trans (B2.mono BH.out.size)
        clear B2
        go_wp2_with fail
        go_ret
        exact ⟨rfl, BE.out⟩
      · have g1 : ((refVars D).length : Int) ≤ 12 := by omega
        have LG := legal_of hl hr (by omega)
        obtain ⟨σ', r, hF, hst, SOL⟩ := solve_legal LG
        have SH : Hid _ := SOL
        have ST : Hid _ := hst
        have HF : Hid _ := hF
        have SAT : Hid (∀ W : World, Below w.heap.size w W → Calls Try.prog 14 #[.slice A D.length c] W fun e w' => e = .returned (.bool (satOf D [])) ∧ Below W.heap.size W w') := fun W B =>
          Sat_any (by omega) (fun e he => by have := hsmall.2 e he; omega) lit hall ((hA.below B).mono B.size)
        have SF : Hid (∀ (W : World) (A2 : Option Addr) (c2 : Nat), Below w.heap.size w W → Lies W.heap.size W A2 (truesOf σ' D) → Calls Try.prog 15 #[.slice A D.length c, .slice A2 (truesOf σ' D).length c2] W fun e w' => e = .returned (.tuple #[.bool (satisfiesM D (truesOf σ' D)).1, .int .i64 (satisfiesM D (truesOf σ' D)).2]) ∧ Below W.heap.size W w') := fun W A2 c2 B L =>
          satisfies_any ((hA.below B).mono B.size) L hn hm hw (by rw [trues_len]; omega) (fun x hx => by have := trues_lits (σ' := σ') lit x hx; omega)
        have RF : Hid (∀ (W : World) (A2 : Option Addr) (c2 : Nat), r = 0 → Below w.heap.size w W → LiesR W.heap.size W A2 σ'.log → Calls Try.prog 16 #[.slice A D.length c, .slice A2 σ'.log.length c2] W fun e w' => e = .returned (.tuple #[.bool true, .int .i64 0]) ∧ Below W.heap.size W w') := fun W A2 c2 hr0 B L => by
          rcases hF with ⟨_, h1, h2, h3, h4⟩ | ⟨h, _⟩
          · have hll : Lits σ'.log := fun e he x hx => by
              have := (h3 e he).1 x hx
              refine ⟨this.1, ?_⟩
              obtain ⟨y, hy, hyx⟩ := List.mem_map.1 this.2
              obtain ⟨e', he', z, hz, rfl⟩ := refVars_mem.1 hy
              have := lit e' he' z hz
              omega
            have := refutes_any (c := c) (c2 := c2) (Nat.le_refl W.heap.size) ((hA.below B).mono B.size) L hc0 hn hm hw (by omega) (fun e he => by have := (h3 e he).2; omega) (lit_wide hll)
            rwa [refutes_ok hr hll (by omega) h1 h2] at this
          · omega
        have LG2 : Hid _ := LG
        have HR : Hid _ := hr
        have HLIT : Hid (Lits D) := lit
        clear hA hw hm hl hr lit hsmall hall LG SOL hst hF hv hc0
        go_enter Try.func3, Try.ntmps3
        go_wp2_with fail
        refine LI.mono ?_
        rintro e w' ⟨rfl, rfl⟩
        go_wp2_with fail
        refine RC.mono ?_
        rintro e w'' ⟨rfl, rfl⟩
        clear LI RC
        go_wp2_with fail
        refine RV0.mono ?_
        rintro e w1 ⟨v', rfl, B1, H1⟩
        have BH : Hid _ := B1
        clear RV0 B1 H1
        go_wp2_with fail
        refine (SH.out _ _ A c 100000 (LiesR.mono (LiesR.below LH.out BH.out) BH.out.size) (Nat.le_refl _) (by omega) (by omega)).mono ?_
        rintro e w2 ⟨B2, alt⟩
        have BH2 : Hid _ := BH.out.trans (B2.mono BH.out.size)
        clear SH
        rcases alt with ⟨h1, _⟩ | ⟨_, alt⟩
        · have := ST.out; omega
        · rcases alt with ⟨rfl, p, μ, fu, rfl, HX, GX⟩ | ⟨rfl, L, v, rfl, HX, hL⟩
          · generalize hstm : max 1 σ'.steps = st at *
            have hst6 : (st : Int) ≤ 100000 := by have := ST.out; omega
            have hst1 : (1 : Int) ≤ (st : Int) := by omega
            have q1 : decide ((st : Int) < 1) = false := decide_eq_false (by omega)
            have q2 : decide ((100000 : Int) < (st : Int)) = false := decide_eq_false (by omega)
            have LL1 : Hid _ := log_lies HX GX
            have E0 : Hid _ := fin_none HF.out
            generalize ad μ.log = A1 at *
            generalize cp μ.log = c1 at *
            clear hstm HX GX SF
            obtain ⟨ob, hob⟩ : ∃ ob, ob = Obj.cells #[.bool false, .slice none 0 0, .slice A1 σ'.log.length c1, .int .i64 (st : Int)] 30 := ⟨_, rfl⟩
            have S3 := size_alloc w2 ob
            have A3 := alloc_at w2 ob
            have BA : Hid (Below w2.heap.size w2 (w2.alloc ob)) := (Below.refl _ _).alloc (Nat.le_refl _) _
            obtain ⟨w3, hw3⟩ : ∃ w3, w3 = w2.alloc ob := ⟨_, rfl⟩
            rw [← hw3] at S3 A3 BA
            have K5 : Hid (∀ W, Below w3.heap.size w3 W → Holds w2.heap.size W (one w2.heap.size [.bool false, .slice none 0 0, .slice A1 σ'.log.length c1, .int .i64 (st : Int)] 30)) := fun W hW => one_holds (by rw [hW.block w2.heap.size (by omega), A3, hob])
            have W3 : Hid _ := hw3
            have hsz2 : w''.heap.size ≤ w2.heap.size := BH2.out.size
            have B03 : Hid (Below w''.heap.size w'' w3) := BH2.out.trans (BA.out.mono hsz2)
            have K5b := K5.out w3 (Below.refl _ _)
            have a0 := K5b.cell (k := .st) rfl 0 rfl
            have a3 := K5b.cell (k := .st) rfl 3 rfl
            have SATC := SAT.out
            rw [E0.out] at SATC
            have SATH : Hid _ := SATC
            subst hob
            clear hw3 A3 K5b SAT SATC E0
            go_wp2_with fail
            rw [← W3.out]
            go_region_held3 (fun W => W.cell? ⟨w2.heap.size, 0, none⟩ = some (.bool false) ∧ W.cell? ⟨w2.heap.size, 3, none⟩ = some (.int .i64 (st : Int)))
              (first | go_keep | exact eB)
              (first | (go_at_call 14; refine (SATH.out _ B03.out.drew).mono ?_; rintro e w5 ⟨rfl, B5⟩; have B35 : Hid (Below w3.heap.size w3 w5) := (Below.refl _ w3).drew.trans B5; have B05 : Hid (Below w''.heap.size w'' w5) := B03.out.trans (B35.out.mono B03.out.size); have K5w := K5.out w5 B35.out; have eB := And.intro (K5w.cell (k := .st) rfl 0 rfl) (K5w.cell (k := .st) rfl 3 rfl); have K5h : Hid _ := K5w; clear B5 K5w))
            have b0 := K5h.out.cell (k := .st) rfl 0 rfl
            have b2 := K5h.out.cell (k := .st) rfl 2 rfl
            have h35 := B35.out.size
            have RFC := RF.out w5 A1 c1 (by first | rfl | trivial) B05.out (LiesR.mono (LiesR.below LL1.out (BA.out.trans (B35.out.mono BA.out.size))) (by omega))
            clear a0 a3
            go_wp2_with fail
            refine RFC.mono ?_
            rintro e w6 ⟨rfl, B6⟩
            have B36 : Hid (Below w3.heap.size w3 w6) := B35.out.trans (B6.mono h35)
            have K6 := K5.out w6 B36.out
            have d1 := K6.cell (k := .st) rfl 1 rfl
            have B06 : Hid (Below w''.heap.size w'' w6) := B03.out.trans (B36.out.mono B03.out.size)
            clear RFC B6 K6 b0 b2
            go_wp2_with fail
            refine (sane_any _).mono ?_
            rintro e w7 ⟨rfl, B7⟩
            have BF : Hid _ := B06.out.trans (B7.mono B06.out.size)
            clear B7
            go_wp2_with fail
            go_ret
            exact ⟨rfl, BF.out⟩
          · generalize hstm : max 1 σ'.steps = st at *
            have hst6 : (st : Int) ≤ 100000 := by have := ST.out; omega
            have hst1 : (1 : Int) ≤ (st : Int) := by omega
            have q1 : decide ((st : Int) < 1) = false := decide_eq_false (by omega)
            have q2 : decide ((100000 : Int) < (st : Int)) = false := decide_eq_false (by omega)
            obtain ⟨hsb, hs1⟩ := fin_some HF.out
            have E0 : Hid _ := hs1
            have SO : Hid _ := sat_ok HR.out HLIT.out hsb
            have TL : Hid (Lies w2.heap.size w2 (ad v) (truesOf σ' D)) := row_lies HX hL
            have hnT : (truesOf σ' D).length = (refVars D).length := trues_len
            have SFC := SF.out
            rw [SO.out] at SFC
            rw [hnT] at SFC ⊢
            have SFH : Hid _ := SFC
            generalize ad v = A1 at *
            generalize cp v = c1 at *
            clear hstm HX RF hsb hs1 SF SFC SO hL
            obtain ⟨ob, hob⟩ : ∃ ob, ob = Obj.cells #[.bool true, .slice A1 (refVars D).length c1, .slice none 0 0, .int .i64 (st : Int)] 30 := ⟨_, rfl⟩
            have S3 := size_alloc w2 ob
            have A3 := alloc_at w2 ob
            have BA : Hid (Below w2.heap.size w2 (w2.alloc ob)) := (Below.refl _ _).alloc (Nat.le_refl _) _
            obtain ⟨w3, hw3⟩ : ∃ w3, w3 = w2.alloc ob := ⟨_, rfl⟩
            rw [← hw3] at S3 A3 BA
            have K5 : Hid (∀ W, Below w3.heap.size w3 W → Holds w2.heap.size W (one w2.heap.size [.bool true, .slice A1 (refVars D).length c1, .slice none 0 0, .int .i64 (st : Int)] 30)) := fun W hW => one_holds (by rw [hW.block w2.heap.size (by omega), A3, hob])
            have W3 : Hid _ := hw3
            have hsz2 : w''.heap.size ≤ w2.heap.size := BH2.out.size
            have B03 : Hid (Below w''.heap.size w'' w3) := BH2.out.trans (BA.out.mono hsz2)
            have K5b := K5.out w3 (Below.refl _ _)
            have a0 := K5b.cell (k := .st) rfl 0 rfl
            have a3 := K5b.cell (k := .st) rfl 3 rfl
            have SATC := SAT.out
            rw [E0.out] at SATC
            have SATH : Hid _ := SATC
            have NT : Hid _ := hnT
            subst hob
            clear hw3 A3 K5b SAT SATC E0 hnT
            go_wp2_with fail
            rw [← W3.out]
            go_region_held3 (fun W => W.cell? ⟨w2.heap.size, 0, none⟩ = some (.bool true) ∧ W.cell? ⟨w2.heap.size, 3, none⟩ = some (.int .i64 (st : Int)))
              (first | go_keep | exact eB)
              (first | (go_at_call 14; refine (SATH.out _ B03.out.drew).mono ?_; rintro e w5 ⟨rfl, B5⟩; have B35 : Hid (Below w3.heap.size w3 w5) := (Below.refl _ w3).drew.trans B5; have B05 : Hid (Below w''.heap.size w'' w5) := B03.out.trans (B35.out.mono B03.out.size); have K5w := K5.out w5 B35.out; have eB := And.intro (K5w.cell (k := .st) rfl 0 rfl) (K5w.cell (k := .st) rfl 3 rfl); have K5h : Hid _ := K5w; clear B5 K5w))
            have b0 := K5h.out.cell (k := .st) rfl 0 rfl
            have b1 := K5h.out.cell (k := .st) rfl 1 rfl
            have h35 := B35.out.size
            have SFC := SFH.out w5 A1 c1 B05.out (Lies.mono (Lies.below TL.out (BA.out.trans (B35.out.mono BA.out.size))) (by omega))
            clear a0 a3
            go_wp2_with fail
            refine SFC.mono ?_
            rintro e w6 ⟨rfl, B6⟩
            have B36 : Hid (Below w3.heap.size w3 w6) := B35.out.trans (B6.mono h35)
            have B06 : Hid (Below w''.heap.size w'' w6) := B03.out.trans (B36.out.mono B03.out.size)
            have RV6 := RV.out w6 B06.out
            clear SFC B6 b0 b1
            go_wp2_with fail
            refine RV6.mono ?_
            rintro e w7 ⟨v7, rfl, B7, H7⟩
            have h36 := B36.out.size
            have B37 : Hid (Below w3.heap.size w3 w7) := B36.out.trans (B7.mono h36)
            have B07 : Hid (Below w''.heap.size w'' w7) := B03.out.trans (B37.out.mono B03.out.size)
            have K7 := K5.out w7 B37.out
            have d1 := K7.cell (k := .st) rfl 1 rfl
            have d2 := K7.cell (k := .st) rfl 2 rfl
            have LV : Hid (Lies w7.heap.size w7 (ad v7) (refVars D)) := row_lies H7 (k := .loc 0) rfl
            have TL7 : Hid (Lies w7.heap.size w7 A1 (truesOf σ' D)) := Lies.mono (Lies.below TL.out (BA.out.trans (B37.out.mono BA.out.size))) (by have := B37.out.size; omega)
            have K7h : Hid _ := K7
            have VL : Hid (∀ x ∈ refVars D, x ≠ 0 ∧ x.natAbs ≤ 200) := fun x hx => by
              obtain ⟨e, he, y, hy, rfl⟩ := refVars_mem.1 hx
              have := HLIT.out e he y hy
              omega
            generalize ad v7 = A7 at *
            generalize cp v7 = c7 at *
            have start : Hid (CntRelB w7 (refVars D).length (fun _ => True) (refVars D).length (.int .i64 ((0 : Nat) : Int)) w7) := ⟨0, rfl, by omega, Below.refl _ _, fun _ _ => trivial⟩
            clear RV6 B7 K7 H7
            go_wp2_with fail
            go_loopg [8] (refVars D).length (fun k x8 wr => CntRelB w7 (refVars D).length (fun _ => True) k x8 wr)
            case atStart => exact start.out
            case round =>
              clear start d1 d2
              obtain ⟨i, rfl, hki, B8, _⟩ := hrel
              have h37 := B37.out.size
              have K8 := K5.out wr (B37.out.trans (B8.mono h37))
              have d1 := K8.cell (k := .st) rfl 1 rfl
              have B08 : Hid _ := B07.out.trans (B8.mono B07.out.size)
              have B8h : Hid _ := B8
              by_cases hlt : i < (refVars D).length
              · obtain ⟨b1, o1, rfl, hb1, hcl1⟩ := lies_at (Lies.below LV.out B8) hlt
                obtain ⟨b2, o2, rfl, hb2, hcl2⟩ := lies_at (Lies.below TL7.out B8) (i := i) (by rw [NT.out]; exact hlt)
                have e1 := hcl1 i hlt
                have e2 := hcl2 i (by rw [NT.out]; exact hlt)
                have hx := VL.out _ (row_ne (refVars D) 0 hlt)
                have TA := trues_at (σ' := σ') (D := D) hlt
                clear hcl1 hcl2 K8 B8
                generalize (refVars D).getD i 0 = x at *
                generalize (truesOf σ' D).getD i 0 = y at *
                have hx1 : -60000 ≤ x := by omega
                have hx2 : x ≤ 60000 := by omega
                have hwx : IntKind.i64.wrap (-x) = -x := IntWalk.i64_in _ (by omega)
                rcases TA with rfl | rfl
                · have g1 : (y != y) = false := by simp
                  clear hx
                  go_wp2_with fail
                  go_quiet (fail)
                  go_wp2_with fail
                  go_roundg (gk - 1)
                  case measure => omega
                  case rel => exact ⟨i + 1, by go_num, by omega, below_drewN_ B8h.out _, fun _ _ => trivial⟩
                · have g1 : (-x != x) = true := by simp; omega
                  have g2 : (-x != -x) = false := by simp
                  clear hx
                  go_wp2_with fail
                  go_quiet (fail)
                  go_wp2_with fail
                  go_roundg (gk - 1)
                  case measure => omega
                  case rel => exact ⟨i + 1, by go_num, by omega, below_drewN_ B8h.out _, fun _ _ => trivial⟩
              · have hge : decide (i < (refVars D).length) = false := decide_eq_false (by omega)
                have hge2 : (refVars D).length ≤ i := by omega
                clear hlt K8 B8
                go_wp2_with fail
                refine (sane_any _).mono ?_
                rintro e w9 ⟨rfl, B9⟩
                have BF : Hid _ := B08.out.trans (B9.mono B08.out.size)
                clear B9
                go_wp2_with fail
                go_ret
                exact ⟨rfl, BF.out⟩
    · have g1 : (refM D != 0) = true := by simp [hr]
      clear hA hw hm hl hr hc0
      generalize refM D = r at *
      go_enter Try.func3, Try.ntmps3
      go_wp2_with fail
      refine LI.mono ?_
      rintro e w' ⟨rfl, rfl⟩
      go_wp2_with fail
      refine RC.mono ?_
      rintro e w'' ⟨rfl, rfl⟩
      clear LI RC
      go_wp2_with fail
      refine (sane_any _).mono ?_
      rintro e w2 ⟨rfl, B2⟩
      have BE : Hid _ := B2
      clear B2
      go_wp2_with fail
      go_ret
      exact ⟨rfl, BE.out⟩
  · rw [Bool.eq_false_iff.2 hl] at LI
    clear hA hw hm hl RC hc0
    go_enter Try.func3, Try.ntmps3
    go_wp2_with fail
    refine LI.mono ?_
    rintro e w' ⟨rfl, rfl⟩
    clear LI
    go_wp2_with fail
    refine (sane_any _).mono ?_
    rintro e w2 ⟨rfl, B2⟩
    have BE : Hid _ := B2
    clear B2
    go_wp2_with fail
    go_ret
    exact ⟨rfl, BE.out⟩
end Go.Proofs.Ytdllaphnkbnpoaa
