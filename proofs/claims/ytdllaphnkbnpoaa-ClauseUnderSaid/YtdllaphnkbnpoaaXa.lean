/- The law ClauseFuel, walked. -/
import Derived.Test.YtdllaphnkbnpoaaWz
import Derived.Test.YtdllaphnkbnpoaaWy
namespace Go.Proofs.Ytdllaphnkbnpoaa
open Go.RowKit Go.Proofs

theorem log_small {base p fuel : Nat} {w : World} {σ : S} {μ : Vals} {loc : Nat → Res} (H : Holds base w (full p fuel σ μ loc)) (G : Good σ μ) : ∀ i, i < σ.log.length → (σ.log.getD i []).length ≤ 9223372036854775807 := by
  intro i hi
  have hv := G.vlogs
  obtain ⟨v, hvi⟩ : ∃ v, μ.vlogs[i]? = some v := ⟨_, List.getElem?_eq_getElem (by omega)⟩
  have hri : full p fuel σ μ loc (.log i) = .row v 3 (ints (σ.log.getD i [])) := by
    show rowAt μ.vlogs 3 σ.log i = _
    unfold rowAt
    rw [hvi, List.getElem?_eq_getElem hi]
    simp [hi]
  have h1 := H.cap hri
  have h2 := H.capMax hri
  rw [ints_length] at h1
  simp only [maxLen] at h2
  omega

theorem ins_sub {out : List Int} {x y : Int} (h : y ∈ insM out x) : y ∈ out ∨ y = x := by
  unfold insM at h
  split at h
  · exact .inl h
  · rcases List.mem_append.1 h with h | h
    · rcases List.mem_append.1 h with h | h
      · exact .inl (List.mem_of_mem_take h)
      · rw [List.mem_singleton] at h; exact .inr h
    · exact .inl (List.mem_of_mem_drop h)
theorem ins_sup {out : List Int} {x y : Int} (h : y ∈ out ∨ y = x) : y ∈ insM out x := by
  unfold insM
  split
  · rename_i c
    rcases h with h | h
    · exact h
    · rw [h, ← c.2]; exact row_ne out 0 c.1
  · rcases h with h | h
    · have := List.take_append_drop (posM x out) out
      rw [← this] at h
      rcases List.mem_append.1 h with h | h
      · simp [h]
      · simp [h]
    · simp [h]
theorem sorted_mem : ∀ (l out : List Int) (y : Int), y ∈ l.foldl insM out ↔ y ∈ out ∨ y ∈ l
  | [], out, y => by simp
  | x :: l, out, y => by
    rw [List.foldl_cons, sorted_mem l (insM out x) y]
    constructor
    · rintro (h | h)
      · rcases ins_sub h with h | h
        · exact .inl h
        · right; simp [h]
      · right; simp [h]
    · rintro (h | h)
      · exact .inl (ins_sup (.inl h))
      · rcases List.mem_cons.1 h with h | h
        · exact .inl (ins_sup (.inr h))
        · exact .inr h
theorem refVars_mem {D : List (List Int)} {y : Int} : y ∈ refVars D ↔ ∃ e ∈ D, ∃ x ∈ e, y = (x.natAbs : Int) := by
  unfold refVars sortedM
  rw [sorted_mem]
  constructor
  · rintro (h | h)
    · simp at h
    · obtain ⟨e, he, hx⟩ := List.mem_flatMap.1 h
      obtain ⟨x, hx2, rfl⟩ := List.mem_map.1 hx
      exact ⟨e, he, x, hx2, rfl⟩
  · rintro ⟨e, he, x, hx, rfl⟩
    exact .inr (List.mem_flatMap.2 ⟨e, he, List.mem_map.2 ⟨x, hx, rfl⟩⟩)

theorem lit_of_ref {D : List (List Int)} (h : refM D = 0) : ∀ e ∈ D, ∀ x ∈ e, x ≠ 0 ∧ x.natAbs ≤ 200 := by
  have h2 : (D.all fun c => c.all isLit) = true := by
    unfold refM at h
    split at h
    · omega
    · split at h
      · omega
      · split at h
        · omega
        · rename_i q; simpa using q
  intro e he x hx
  have := List.all_eq_true.1 (List.all_eq_true.1 h2 e he) x hx
  unfold isLit at this
  have := of_decide_eq_true this
  omega

theorem legal_of {D : List (List Int)} (hl : lightM D = true) (hr : refM D = 0) (hv : (refVars D).length ≤ 12) : Legal D ((refVars D).map Int.natAbs) := by
  unfold lightM at hl
  rw [Bool.and_eq_true] at hl
  have l1 := of_decide_eq_true hl.1
  have l2 := List.all_eq_true.1 hl.2
  have lit := lit_of_ref hr
  refine ⟨l1, fun e he => by have := of_decide_eq_true (l2 e he); omega, fun e he x hx => ?_, by simpa using hv, ?_⟩
  · have := lit e he x hx
    exact ⟨this.1, this.2, List.mem_map.2 ⟨(x.natAbs : Int), refVars_mem.2 ⟨e, he, x, hx, rfl⟩, by omega⟩⟩
  · intro h
    obtain ⟨y, hy, h0⟩ := List.mem_map.1 h
    obtain ⟨e, he, x, hx, rfl⟩ := refVars_mem.1 hy
    have := (lit e he x hx).1
    omega

set_option maxRecDepth 100000 in
set_option maxHeartbeats 4000000 in
theorem fuel_any {w : World} {A : Option Addr} {D : List (List Int)} {c : Nat} {fuel : Int} (hA : LiesR w.heap.size w A D) (hn : D.length ≤ 9223372036854775807) (hm : ∀ e ∈ D, e.length ≤ 9223372036854775807) (hw : ∀ e ∈ D, ∀ x ∈ e, -9223372036854775808 ≤ x ∧ x ≤ 9223372036854775807) :
    Calls Try.prog 4 #[.slice A D.length c, .int .i64 fuel] w fun e w' => e = .returned (.bool true) ∧ Below w.heap.size w w' := by
  have LI := light_any (c := c) hA hn
  have RC := refCheck_any (c := c) hA hn hm hw
  by_cases hl : lightM D = true
  · rw [hl] at LI
    by_cases hr : refM D = 0
    · rw [hr] at RC
      have lit := lit_of_ref hr
      have hsmall : D.length ≤ 60 ∧ ∀ e ∈ D, e.length ≤ 12 := by
        unfold lightM at hl
        rw [Bool.and_eq_true] at hl
        exact ⟨of_decide_eq_true hl.1, fun e he => of_decide_eq_true (List.all_eq_true.1 hl.2 e he)⟩
      have hall : (absAll D).length ≤ 60000 := by
        have h1 := absAll_len D 12 hsmall.2
        have h2 := Nat.mul_le_mul_right 12 hsmall.1
        omega
      have RV := refVars_any (cc := c) (Nat.le_refl _) hA (by omega) (fun i hi => by have := hsmall.2 _ (row_ne D [] hi); omega) hall (fun e he x hx => by have := lit e he x hx; omega)
      have LH : Hid _ := hA
      by_cases hv : 12 < (refVars D).length
      · have g1 : (12 : Int) < ((refVars D).length : Int) := by omega
        clear hA hw hm hl hr lit hsmall hall
        go_enter Try.func4, Try.ntmps4
        go_wp2_with fail
        refine LI.mono ?_
        rintro e w' ⟨rfl, rfl⟩
        go_wp2_with fail
        refine RC.mono ?_
        rintro e w'' ⟨rfl, rfl⟩
        clear LI RC
        go_wp2_with fail
        refine RV.mono ?_
        rintro e w1 ⟨v', rfl, B1, H1⟩
        have BH : Hid _ := B1
        clear RV B1 H1
        go_wp2_with fail
        refine (sane_any _).mono ?_
        rintro e w2 ⟨rfl, B2⟩
        have BE : Hid _ := BH.out.trans (B2.mono BH.out.size)
        clear B2
        go_wp2_with fail
        go_ret
        exact ⟨rfl, BE.out⟩
      · have g1 : ((refVars D).length : Int) ≤ 12 := by omega
        have LG := legal_of hl hr (by omega)
        obtain ⟨σ', r, hF, hst, SOL⟩ := solve_legal LG
        have SH : Hid _ := SOL
        have ST : Hid _ := hst
        have HF : Hid _ := hF
        have CK : Hid _ := check_ok LG
        have LG2 : Hid _ := LG
        clear hA hw hm hl hr lit hsmall hall LG SOL hst hF hv
        go_enter Try.func4, Try.ntmps4
        go_wp2_with fail
        refine LI.mono ?_
        rintro e w' ⟨rfl, rfl⟩
        go_wp2_with fail
        refine RC.mono ?_
        rintro e w'' ⟨rfl, rfl⟩
        clear LI RC
        go_wp2_with fail
        refine RV.mono ?_
        rintro e w1 ⟨v', rfl, B1, H1⟩
        have BH : Hid _ := B1
        clear RV B1 H1
        go_wp2_with fail
        refine (SH.out _ _ A c 1000000 (LiesR.mono (LiesR.below LH.out BH.out) BH.out.size) (Nat.le_refl _) (by omega) (by omega)).mono ?_
        rintro e w2 ⟨B2, alt⟩
        have BH2 : Hid _ := BH.out.trans (B2.mono BH.out.size)
        rcases alt with ⟨h1, _⟩ | ⟨_, alt⟩
        · have := ST.out; omega
        · --ALT
          rcases alt with ⟨rfl, p, μ, fu, rfl, HX, GX⟩ | ⟨rfl, L, v, rfl, HX, hL⟩
          · generalize hstm : max 1 σ'.steps = st at *
            have HS : Hid _ := hstm
            have hst6 : (st : Int) ≤ 60000 := by have := ST.out; omega
            have hlog : σ'.log.length ≤ 2048 := by rcases HF.out with ⟨_, _, _, _, h⟩ | ⟨h, _⟩ <;> omega
            have SM : Hid _ := log_small HX GX
            have LL1 : Hid _ := log_lies HX GX
            generalize ad μ.log = A1 at *
            generalize cp μ.log = c1 at *
            clear hstm HX GX
            obtain ⟨ob, hob⟩ : ∃ ob, ob = Obj.cells #[.bool false, .slice none 0 0, .slice A1 σ'.log.length c1, .int .i64 (st : Int)] 30 := ⟨_, rfl⟩
            have hnT : (truesOf σ' D).length ≤ 60000 := by unfold truesOf; rw [List.length_map]; exact Nat.le_trans (varsOf_len D) LG2.out.all
            have S3 := size_alloc w2 ob
            have A3 := alloc_at w2 ob
            have BA : Hid (Below w2.heap.size w2 (w2.alloc ob)) := (Below.refl _ _).alloc (Nat.le_refl _) _
            obtain ⟨w3, hw3⟩ : ∃ w3, w3 = w2.alloc ob := ⟨_, rfl⟩
            rw [← hw3] at S3 A3 BA
            have K5 : Hid (∀ W, Below w3.heap.size w3 W → Holds w2.heap.size W (one w2.heap.size [.bool false, .slice none 0 0, .slice A1 σ'.log.length c1, .int .i64 (st : Int)] 30)) := fun W hW => one_holds (by rw [hW.block w2.heap.size (by omega), A3, hob])
            have W3 : Hid _ := hw3
            have hsz2 : w''.heap.size ≤ w2.heap.size := BH2.out.size
            have B03 : Hid (Below w''.heap.size w'' w3) := BH2.out.trans (BA.out.mono hsz2)
            have L3 : Hid _ := LiesR.mono (LiesR.below LH.out B03.out) B03.out.size
            subst hob
            clear hw3 A3
            by_cases hinv : fuel < 1 ∨ 1000000 < fuel
            · have hask : askedM D fuel = 1 := by unfold askedM; rw [CK.out, if_neg (by simp), if_pos hinv]
              have SR := solve_refuses (c := c) (fuel := fuel) L3.out (Nat.le_refl _) hn (fun j hj => by have := LG2.out.row _ (row_ne D [] hj); omega) (by rw [hask]; decide)
              rw [hask] at SR
              unfold zeroAnswer at SR
              have fin : ∀ W, Below w''.heap.size w'' W → Calls Try.prog 12 #[] W fun e w' => e = .returned (.bool true) ∧ Below w''.heap.size w'' w' := fun W hW => (sane_any W).mono (by rintro e w' ⟨rfl, B⟩; exact ⟨rfl, hW.trans (B.mono hW.size)⟩)
              by_cases h1 : fuel < 1
              · go_wp2_with fail
                rw [← W3.out]
                refine SR.mono ?_
                rintro e w4 ⟨rfl, B4⟩
                have BE : Hid _ := (B03.out.trans (B4.mono B03.out.size)).alloc (by have := B03.out.size; have := B4.size; omega) (.cells #[.bool false, .slice none 0 0, .slice none 0 0, .int .i64 0] 30)
                clear SR B4
                go_wp2_with fail
                refine (fin _ BE.out).mono ?_
                rintro e w5 ⟨rfl, B5⟩
                have BF : Hid _ := B5
                clear fin B5 BE
                go_wp2_with fail
                go_ret
                exact ⟨rfl, BF.out⟩
              · have h2 : 1000000 < fuel := by omega
                have h1' : 1 ≤ fuel := by omega
                go_wp2_with fail
                rw [← W3.out]
                refine SR.mono ?_
                rintro e w4 ⟨rfl, B4⟩
                have BE : Hid _ := (B03.out.trans (B4.mono B03.out.size)).alloc (by have := B03.out.size; have := B4.size; omega) (.cells #[.bool false, .slice none 0 0, .slice none 0 0, .int .i64 0] 30)
                clear SR B4
                go_wp2_with fail
                refine (fin _ BE.out).mono ?_
                rintro e w5 ⟨rfl, B5⟩
                have BF : Hid _ := B5
                clear fin B5 BE
                go_wp2_with fail
                go_ret
                exact ⟨rfl, BF.out⟩
            · have h1' : 1 ≤ fuel := by omega
              have h2' : fuel ≤ 1000000 := by omega
              obtain ⟨f, rfl⟩ := Int.eq_ofNat_of_zero_le (show 0 ≤ fuel by omega)
              have S2 := SH.out w3 _ A c f L3.out (Nat.le_refl _) (by omega) (by omega)
              clear hinv
              go_wp2_with fail
              rw [← W3.out]
              refine S2.mono ?_
              rintro e w4 ⟨B4, alt⟩
              have K5w := K5.out w4 B4
              have BH4 : Hid _ := B03.out.trans (B4.mono B03.out.size)
              clear S2
              rcases alt with ⟨hlt, rfl⟩ | ⟨hle, alt⟩
              · have hlt2 : (f : Int) < (st : Int) := by omega
                have k53 := cell_alloc_keep w4 (.cells #[.bool false, .slice none 0 0, .slice none 0 0, .int .i64 0] 30) _ _ (K5w.cell (k := .st) rfl 3 rfl)
                have BE : Hid _ := BH4.out.alloc BH4.out.size (.cells #[.bool false, .slice none 0 0, .slice none 0 0, .int .i64 0] 30)
                unfold zeroAnswer
                clear B4 K5w
                go_wp2_with fail
                refine (sane_any _).mono ?_
                rintro e w5 ⟨rfl, B5⟩
                have BF : Hid _ := BE.out.trans (B5.mono BE.out.size)
                clear B5 BE
                go_wp2_with fail
                go_ret
                exact ⟨rfl, BF.out⟩
              · have hle2 : (st : Int) ≤ (f : Int) := by omega
                rcases alt with ⟨_, p2, μ2, fu2, rfl, HX2, GX2⟩ | ⟨hbad, _⟩
                rotate_left
                · exact absurd hbad (by decide)
                · rw [HS.out]
                  have LL2 : Hid _ := log_lies HX2 GX2
                  generalize ad μ2.log = A2 at *
                  generalize cp μ2.log = c2 at *
                  clear HX2 GX2
                  obtain ⟨o9, ho9⟩ : ∃ o9, o9 = Obj.cells #[.bool false, .slice none 0 0, .slice A2 σ'.log.length c2, .int .i64 (st : Int)] 30 := ⟨_, rfl⟩
                  have S5 := size_alloc w4 o9
                  have A5 := alloc_at w4 o9
                  have BB5 : Hid (Below w4.heap.size w4 (w4.alloc o9)) := (Below.refl _ _).alloc (Nat.le_refl _) _
                  obtain ⟨w5, hw5⟩ : ∃ w5, w5 = w4.alloc o9 := ⟨_, rfl⟩
                  rw [← hw5] at S5 A5 BB5
                  have h34 := B4.size
                  have B35 : Hid (Below w3.heap.size w3 w5) := B4.trans (BB5.out.mono h34)
                  have K5b := K5.out w5 B35.out
                  have K9 := one_holds (w := w5) (g := w4.heap.size) (cs := [.bool false, .slice none 0 0, .slice A2 σ'.log.length c2, .int .i64 (st : Int)]) (t := 30) (by rw [A5, ho9])
                  have W5 : Hid _ := hw5
                  have B05 : Hid (Below w''.heap.size w'' w5) := B03.out.trans (B35.out.mono B03.out.size)
                  have h45 : w4.heap.size ≤ w5.heap.size := by omega
                  have NU := numbers_any (w := w5) (A := none) (B := none) (xs := []) (ys := []) (c := 0) (d := 0) (.inl rfl) (.inl rfl) (by decide) (by decide)
                  rw [show numbersM [] [] = true from rfl] at NU
                  simp only [List.length_nil] at NU
                  have a0 := K5b.cell (k := .st) rfl 0 rfl
                  have a1 := K5b.cell (k := .st) rfl 1 rfl
                  have a2 := K5b.cell (k := .st) rfl 2 rfl
                  have a3 := K5b.cell (k := .st) rfl 3 rfl
                  have c0 := K9.cell (k := .st) rfl 0 rfl
                  have c1 := K9.cell (k := .st) rfl 1 rfl
                  have c2 := K9.cell (k := .st) rfl 2 rfl
                  have c3 := K9.cell (k := .st) rfl 3 rfl
                  have K5h : Hid _ := K5b
                  have K9h : Hid _ := K9
                  subst ho9
                  clear hw5 A5 K5b K9 B4 K5w
                  rw [W5.out] at a0 a1 a2 a3 c0 c1 c2 c3
                  go_wp2_with fail
                  rw [← W5.out]
                  refine NU.mono ?_
                  rintro e w6 ⟨rfl, B6⟩
                  have K5c := K5.out w6 (B35.out.trans (B6.mono (by omega)))
                  have K9c := K9h.out.other (w' := w6) (fun b _ hb => B6.block b hb)
                  have B06 : Hid _ := B05.out.trans (B6.mono B05.out.size)
                  have d2 := K5c.cell (k := .st) rfl 2 rfl
                  have e2 := K9c.cell (k := .st) rfl 2 rfl
                  have B6h : Hid _ := B6
                  clear NU a0 a1 a2 a3 c0 c1 c2 c3 K5c K9c B6
                  go_wp2_with fail
                  have LA5 : Hid _ := LiesR.mono (LiesR.below LL1.out (BA.out.trans ((B35.out.trans (B6h.out.mono (by omega))).mono (by omega)))) (base' := w6.heap.size) (by have := B6h.out.size; omega)
                  have LB5 : Hid _ := LiesR.mono (LiesR.below LL2.out (BB5.out.trans (B6h.out.mono h45))) (base' := w6.heap.size) (by have := B6h.out.size; omega)
                  have start : Hid (CntRelB w6 σ'.log.length (fun _ => True) σ'.log.length (.int .i64 ((0 : Nat) : Int)) w6) := ⟨0, rfl, by omega, Below.refl _ _, fun _ _ => trivial⟩
                  go_loopg [10] σ'.log.length (fun k x10 wr => CntRelB w6 σ'.log.length (fun _ => True) k x10 wr)
                  case atStart => exact start.out
                  case round =>
                    clear start
                    obtain ⟨i, rfl, hki, B7, _⟩ := hrel
                    have K5d := K5.out wr (B35.out.trans ((B6h.out.trans (B7.mono (B' := w5.heap.size) B6h.out.size)).mono (by omega)))
                    have K9d := K9h.out.other (w' := wr) (fun b _ hb => ((B6h.out.trans (B7.mono (B' := w5.heap.size) B6h.out.size))).block b hb)
                    have d2' := K5d.cell (k := .st) rfl 2 rfl
                    have e2' := K9d.cell (k := .st) rfl 2 rfl
                    have B07 : Hid _ := B06.out.trans (B7.mono B06.out.size)
                    by_cases hlt : i < σ'.log.length
                    · obtain ⟨b1, o1, rfl, hb1, hc1⟩ := liesR_at (LiesR.below LA5.out B7) hlt
                      obtain ⟨b2, o2, rfl, hb2, hc2⟩ := liesR_at (LiesR.below LB5.out B7) hlt
                      obtain ⟨A3, c3, f1, _, hl1⟩ := hc1 i hlt
                      obtain ⟨A4, c4, f2, _, hl2⟩ := hc2 i hlt
                      have hsm := SM.out i hlt
                      have NU := numbers_any (w := wr.drew) (c := c3) (d := c4) (Lies.mono (Lies.below hl1 (below_drewN_ (Below.refl _ wr) 1)) B7.size) (Lies.mono (Lies.below hl2 (below_drewN_ (Below.refl _ wr) 1)) B7.size) hsm hsm
                      rw [show numbersM (σ'.log.getD i []) (σ'.log.getD i []) = true from decide_eq_true rfl] at NU
                      clear hc1 hc2 hl1 hl2 K5d K9d
                      generalize (σ'.log.getD i []).length = n at *
                      have B7h : Hid _ := B7
                      clear B7
                      go_wp2_with fail
                      go_region_law (go_simp; go_at_call 17; refine NU.mono ?_; rintro e w8 ⟨rfl, B8⟩; have B8h : Hid _ := (below_drewN_ B7h.out 1).trans (B8.mono B7h.out.size); clear B8)
                      all_goals
                        go_wp2_with fail
                        go_roundg (gk - 1)
                        case measure => omega
                        case rel => exact ⟨i + 1, by go_num, by omega, B8h.out, fun _ _ => trivial⟩
                    · have hge : decide (i < σ'.log.length) = false := decide_eq_false (by omega)
                      have hge2 : σ'.log.length ≤ i := by omega
                      clear hlt B7 K5d K9d
                      go_wp2_with fail
                      refine (sane_any _).mono ?_
                      rintro e w8 ⟨rfl, B8⟩
                      have BF : Hid _ := B07.out.trans (B8.mono B07.out.size)
                      clear B8
                      go_wp2_with fail
                      go_ret
                      exact ⟨rfl, BF.out⟩
          · generalize hstm : max 1 σ'.steps = st at *
            have HS : Hid _ := hstm
            have hst6 : (st : Int) ≤ 60000 := by have := ST.out; omega
            clear hstm
            obtain ⟨ob, hob⟩ : ∃ ob, ob = Obj.cells #[.bool true, .slice (ad v) (truesOf σ' D).length (cp v), .slice none 0 0, .int .i64 (st : Int)] 30 := ⟨_, rfl⟩
            have hnT : (truesOf σ' D).length ≤ 60000 := by unfold truesOf; rw [List.length_map]; exact Nat.le_trans (varsOf_len D) LG2.out.all
            have S3 := size_alloc w2 ob
            have A3 := alloc_at w2 ob
            have BA : Hid (Below w2.heap.size w2 (w2.alloc ob)) := (Below.refl _ _).alloc (Nat.le_refl _) _
            obtain ⟨w3, hw3⟩ : ∃ w3, w3 = w2.alloc ob := ⟨_, rfl⟩
            rw [← hw3] at S3 A3 BA
            have K5 : Hid (∀ W, Below w3.heap.size w3 W → Holds w2.heap.size W (one w2.heap.size [.bool true, .slice (ad v) (truesOf σ' D).length (cp v), .slice none 0 0, .int .i64 (st : Int)] 30)) := fun W hW => one_holds (by rw [hW.block w2.heap.size (by omega), A3, hob])
            have W3 : Hid _ := hw3
            have hsz2 : w''.heap.size ≤ w2.heap.size := BH2.out.size
            have B03 : Hid (Below w''.heap.size w'' w3) := BH2.out.trans (BA.out.mono hsz2)
            have L3 : Hid _ := LiesR.mono (LiesR.below LH.out B03.out) B03.out.size
            subst hob
            clear hw3 A3
            by_cases hinv : fuel < 1 ∨ 1000000 < fuel
            · have hask : askedM D fuel = 1 := by unfold askedM; rw [CK.out, if_neg (by simp), if_pos hinv]
              have SR := solve_refuses (c := c) (fuel := fuel) L3.out (Nat.le_refl _) hn (fun j hj => by have := LG2.out.row _ (row_ne D [] hj); omega) (by rw [hask]; decide)
              rw [hask] at SR
              unfold zeroAnswer at SR
              have fin : ∀ W, Below w''.heap.size w'' W → Calls Try.prog 12 #[] W fun e w' => e = .returned (.bool true) ∧ Below w''.heap.size w'' w' := fun W hW => (sane_any W).mono (by rintro e w' ⟨rfl, B⟩; exact ⟨rfl, hW.trans (B.mono hW.size)⟩)
              by_cases h1 : fuel < 1
              · go_wp2_with fail
                rw [← W3.out]
                refine SR.mono ?_
                rintro e w4 ⟨rfl, B4⟩
                have BE : Hid _ := (B03.out.trans (B4.mono B03.out.size)).alloc (by have := B03.out.size; have := B4.size; omega) (.cells #[.bool false, .slice none 0 0, .slice none 0 0, .int .i64 0] 30)
                clear SR B4
                go_wp2_with fail
                refine (fin _ BE.out).mono ?_
                rintro e w5 ⟨rfl, B5⟩
                have BF : Hid _ := B5
                clear fin B5 BE
                go_wp2_with fail
                go_ret
                exact ⟨rfl, BF.out⟩
              · have h2 : 1000000 < fuel := by omega
                have h1' : 1 ≤ fuel := by omega
                go_wp2_with fail
                rw [← W3.out]
                refine SR.mono ?_
                rintro e w4 ⟨rfl, B4⟩
                have BE : Hid _ := (B03.out.trans (B4.mono B03.out.size)).alloc (by have := B03.out.size; have := B4.size; omega) (.cells #[.bool false, .slice none 0 0, .slice none 0 0, .int .i64 0] 30)
                clear SR B4
                go_wp2_with fail
                refine (fin _ BE.out).mono ?_
                rintro e w5 ⟨rfl, B5⟩
                have BF : Hid _ := B5
                clear fin B5 BE
                go_wp2_with fail
                go_ret
                exact ⟨rfl, BF.out⟩
            · have h1' : 1 ≤ fuel := by omega
              have h2' : fuel ≤ 1000000 := by omega
              obtain ⟨f, rfl⟩ := Int.eq_ofNat_of_zero_le (show 0 ≤ fuel by omega)
              have S2 := SH.out w3 _ A c f L3.out (Nat.le_refl _) (by omega) (by omega)
              clear hinv
              go_wp2_with fail
              rw [← W3.out]
              refine S2.mono ?_
              rintro e w4 ⟨B4, alt⟩
              have K5w := K5.out w4 B4
              have BH4 : Hid _ := B03.out.trans (B4.mono B03.out.size)
              clear S2
              rcases alt with ⟨hlt, rfl⟩ | ⟨hle, alt⟩
              · have hlt2 : (f : Int) < (st : Int) := by omega
                have k53 := cell_alloc_keep w4 (.cells #[.bool false, .slice none 0 0, .slice none 0 0, .int .i64 0] 30) _ _ (K5w.cell (k := .st) rfl 3 rfl)
                have BE : Hid _ := BH4.out.alloc BH4.out.size (.cells #[.bool false, .slice none 0 0, .slice none 0 0, .int .i64 0] 30)
                unfold zeroAnswer
                clear B4 K5w
                go_wp2_with fail
                refine (sane_any _).mono ?_
                rintro e w5 ⟨rfl, B5⟩
                have BF : Hid _ := BE.out.trans (B5.mono BE.out.size)
                clear B5 BE
                go_wp2_with fail
                go_ret
                exact ⟨rfl, BF.out⟩
              · have hle2 : (st : Int) ≤ (f : Int) := by omega
                rcases alt with ⟨hbad, _⟩ | ⟨_, L2, v2, rfl, HX2, hL2⟩
                · exact absurd hbad (by decide)
                · rw [HS.out]
                  
                  obtain ⟨o9, ho9⟩ : ∃ o9, o9 = Obj.cells #[.bool true, .slice (ad v2) (truesOf σ' D).length (cp v2), .slice none 0 0, .int .i64 (st : Int)] 30 := ⟨_, rfl⟩
                  have S5 := size_alloc w4 o9
                  have A5 := alloc_at w4 o9
                  have BB5 : Hid (Below w4.heap.size w4 (w4.alloc o9)) := (Below.refl _ _).alloc (Nat.le_refl _) _
                  obtain ⟨w5, hw5⟩ : ∃ w5, w5 = w4.alloc o9 := ⟨_, rfl⟩
                  rw [← hw5] at S5 A5 BB5
                  have h34 := B4.size
                  have B35 : Hid (Below w3.heap.size w3 w5) := B4.trans (BB5.out.mono h34)
                  have K5b := K5.out w5 B35.out
                  have K9 := one_holds (w := w5) (g := w4.heap.size) (cs := [.bool true, .slice (ad v2) (truesOf σ' D).length (cp v2), .slice none 0 0, .int .i64 (st : Int)]) (t := 30) (by rw [A5, ho9])
                  have W5 : Hid _ := hw5
                  have B05 : Hid (Below w''.heap.size w'' w5) := B03.out.trans (B35.out.mono B03.out.size)
                  have h45 : w4.heap.size ≤ w5.heap.size := by omega
                  have NU := numbers_any (c := cp v) (d := cp v2) (Lies.mono (Lies.below (row_lies HX hL) (BA.out.trans (B35.out.mono (by omega)))) (by omega)) (Lies.mono (Lies.below (row_lies HX2 hL2) BB5.out) h45) (by have := hnT; omega) (by have := hnT; omega)
                  rw [show numbersM (truesOf σ' D) (truesOf σ' D) = true from decide_eq_true rfl] at NU
                  have a0 := K5b.cell (k := .st) rfl 0 rfl
                  have a1 := K5b.cell (k := .st) rfl 1 rfl
                  have a2 := K5b.cell (k := .st) rfl 2 rfl
                  have a3 := K5b.cell (k := .st) rfl 3 rfl
                  have c0 := K9.cell (k := .st) rfl 0 rfl
                  have c1 := K9.cell (k := .st) rfl 1 rfl
                  have c2 := K9.cell (k := .st) rfl 2 rfl
                  have c3 := K9.cell (k := .st) rfl 3 rfl
                  have K5h : Hid _ := K5b
                  have K9h : Hid _ := K9
                  subst ho9
                  clear hw5 A5 K5b K9 B4 K5w
                  rw [W5.out] at a0 a1 a2 a3 c0 c1 c2 c3
                  go_wp2_with fail
                  rw [← W5.out]
                  refine NU.mono ?_
                  rintro e w6 ⟨rfl, B6⟩
                  have K5c := K5.out w6 (B35.out.trans (B6.mono (by omega)))
                  have K9c := K9h.out.other (w' := w6) (fun b _ hb => B6.block b hb)
                  have B06 : Hid _ := B05.out.trans (B6.mono B05.out.size)
                  have d2 := K5c.cell (k := .st) rfl 2 rfl
                  have e2 := K9c.cell (k := .st) rfl 2 rfl
                  have B6h : Hid _ := B6
                  clear NU a0 a1 a2 a3 c0 c1 c2 c3 K5c K9c B6
                  go_wp2_with fail
                  go_loopg [10] 0 (fun k x10 wr => x10 = .int .i64 0 ∧ wr = w6)
                  case atStart => exact ⟨rfl, rfl⟩
                  case round =>
                    obtain ⟨rfl, rfl⟩ := hrel
                    go_wp2_with fail
                    refine (sane_any _).mono ?_
                    rintro e w7 ⟨rfl, B7⟩
                    have BF : Hid _ := B06.out.trans (B7.mono B06.out.size)
                    clear B7
                    go_wp2_with fail
                    go_ret
                    exact ⟨rfl, BF.out⟩
    · have g1 : (refM D != 0) = true := by simp [hr]
      clear hA hw hm hl
      generalize refM D = r at *
      go_enter Try.func4, Try.ntmps4
      go_wp2_with fail
      refine LI.mono ?_
      rintro e w' ⟨rfl, rfl⟩
      go_wp2_with fail
      refine RC.mono ?_
      rintro e w'' ⟨rfl, rfl⟩
      clear LI RC
      go_wp2_with fail
      refine (sane_any _).mono ?_
      rintro e w2 ⟨rfl, B2⟩
      have BE : Hid _ := B2
      clear B2
      go_wp2_with fail
      go_ret
      exact ⟨rfl, BE.out⟩
  · have hlf : lightM D = false := by simpa using hl
    rw [hlf] at LI
    clear hA hw hm hl RC hlf
    go_enter Try.func4, Try.ntmps4
    go_wp2_with fail
    refine LI.mono ?_
    rintro e w' ⟨rfl, rfl⟩
    clear LI
    go_wp2_with fail
    refine (sane_any _).mono ?_
    rintro e w2 ⟨rfl, B2⟩
    have BE : Hid _ := B2
    clear B2
    go_wp2_with fail
    go_ret
    exact ⟨rfl, BE.out⟩
end Go.Proofs.Ytdllaphnkbnpoaa
