/- ClauseTidy, walked. -/
import Derived.Test.YtdllaphnkbnpoaaGreatTv
import Derived.Test.YtdllaphnkbnpoaaGreatTi
import Derived.Test.YtdllaphnkbnpoaaGreatTj
import Derived.Test.YtdllaphnkbnpoaaGreatTm
import Derived.Test.YtdllaphnkbnpoaaGreatWz
namespace Go.Proofs.YtdllaphnkbnpoaaGreat
open Go.RowKit Go.Proofs

theorem szAll_len : ∀ (D : List (List Int)) (m : Nat), (∀ e ∈ D, e.length ≤ m) → (szAll D).length ≤ D.length * m
  | [], m, _ => by simp [szAll]
  | e :: D, m, h => by
    have h1 := szAll_len D m (fun x hx => h x (by simp [hx]))
    have h2 := h e (by simp)
    have e1 : szAll (e :: D) = szL e ++ szAll D := rfl
    rw [e1, List.length_append, List.length_cons, Nat.succ_mul]
    have e2 : (szL e).length = e.length := by simp [szL]
    omega
theorem light_facts {D : List (List Int)} (h : lightM D = true) : D.length ≤ 60 ∧ ∀ e ∈ D, e.length ≤ 12 := by
  unfold lightM at h
  rw [Bool.and_eq_true] at h
  refine ⟨of_decide_eq_true h.1, fun e he => ?_⟩
  have := List.all_eq_true.1 h.2 e he
  simpa using this
theorem cover_len : ∀ (rows out : List (List Int)), (rows.foldl coverStep out).length ≤ out.length + rows.length
  | [], out => by simp
  | r :: rows, out => by
    rw [List.foldl_cons]
    have h1 := cover_len rows (coverStep out r)
    have h2 : (coverStep out r).length ≤ out.length + 1 := by
      unfold coverStep
      split
      · omega
      · simp
    simp only [List.length_cons]
    omega
theorem tidyA_small (D : List (List Int)) : (tidyA D).1.length ≤ 600 ∧ ∀ i, i < (tidyA D).1.length → ((tidyA D).1.getD i []).length ≤ 9223372036854775807 := by
  unfold tidyA
  by_cases hr : refM D = 0
  · rw [if_neg (by simp [hr])]
    have d6 : D.length ≤ 600 := by
      unfold refM at hr
      split at hr
      · omega
      · omega
    have dr : ∀ e ∈ D, e.length ≤ 30 := by
      unfold refM at hr
      split at hr
      · omega
      · split at hr
        · omega
        · rename_i q
          have q : (D.all fun c => decide (c.length ≤ 30)) = true := by simpa using q
          intro e he
          have := List.all_eq_true.1 q e he
          simpa using this
    refine ⟨?_, fun i hi => ?_⟩
    · show (tidyM D).length ≤ 600
      have h1 := cover_len (sortR (tidyRows D)) []
      have h2 := (sortR_perm (tidyRows D)).length_eq
      have h3 := tidyRows_len D
      have h4 : (tidyM D).length ≤ 0 + (sortR (tidyRows D)).length := h1
      omega
    · have hx : (tidyM D).getD i [] ∈ tidyM D := row_ne _ [] hi
      obtain ⟨c, hc, e⟩ := tidy_mem hx
      show ((tidyM D).getD i []).length ≤ _
      rw [e]
      have := sortedM_len c
      have := dr c hc
      omega
  · rw [if_pos hr]
    exact ⟨by simp, fun i hi => by simp at hi⟩
theorem resolveM_small {a b : List Int} {on : Int} : (resolveM a b on).1.length ≤ 9223372036854775807 := by
  unfold resolveM
  split
  · simp
  · rename_i h
    split
    · have h1 := sortedM_len ((a ++ b).filter fun x => !decide (x.natAbs = on.natAbs))
      have h2 := List.length_filter_le (fun x => !decide (x.natAbs = on.natAbs)) (a ++ b)
      rw [List.length_append] at h2
      show (sortedM _).length ≤ _
      omega
    · simp

set_option maxRecDepth 100000 in
set_option maxHeartbeats 8000000 in
theorem tidyLaw_any {w : World} {A Aa Ab : Option Addr} {D : List (List Int)} {a b : List Int} {c ca cb : Nat} {on : Int} (h : LiesR w.heap.size w A D) (ha : Lies w.heap.size w Aa a) (hb : Lies w.heap.size w Ab b)
    (hn : D.length ≤ 9223372036854775807) (hm : ∀ e ∈ D, e.length ≤ 9223372036854775807) (hw : ∀ e ∈ D, ∀ x ∈ e, -9223372036854775808 ≤ x ∧ x ≤ 9223372036854775807)
    (hna : a.length ≤ 9223372036854775807) (hnb : b.length ≤ 9223372036854775807) (hca : a.length ≤ ca) (hcb : b.length ≤ cb) (hwa : ∀ x ∈ a, -9223372036854775808 ≤ x ∧ x ≤ 9223372036854775807) (hwb : ∀ x ∈ b, -9223372036854775808 ≤ x ∧ x ≤ 9223372036854775807) (ho : -9223372036854775808 ≤ on ∧ on ≤ 9223372036854775807) :
    Calls Tryz.prog 3 #[.slice A D.length c, .slice Aa a.length ca, .slice Ab b.length cb, .int .i64 on] w fun e w' => e = .returned (.bool true) ∧ Below w.heap.size w w' := by
  have L1 := light_any (c := c) h hn
  cases hl : lightM D with
  | true =>
    rw [hl] at L1
    obtain ⟨d60, d12⟩ := light_facts hl
    have dal : (szAll D).length ≤ 60000 := by
      have h1 := szAll_len D 12 d12
      have h2 : D.length * 12 ≤ 60 * 12 := Nat.mul_le_mul_right _ d60
      omega
    have KV : Hid (∀ W, Below w.heap.size w W → Calls Tryz.prog 5 #[.slice A D.length c] W fun e w' => ∃ v', e = .returned (.slice (ad v') (szVars D).length (cp v')) ∧ Below W.heap.size W w') := fun W hW =>
      (szVars_any (base := W.heap.size) (w := W) (Nat.le_refl _) (cc := c) ((h.below hW).mono hW.size) (by omega) (fun i hi => by have := d12 _ (row_ne D [] hi); omega) dal hw).mono (fun e w' ⟨v', h1, h2, _⟩ => ⟨v', h1, h2⟩)
    have K1 : Hid (∀ W, Below w.heap.size w W → Calls Tryz.prog 7 #[.slice Aa a.length ca, .slice Ab b.length cb, .int .i64 on] W (ResR (resolveM a b on) W)) := fun W B => pResolve_any ((ha.below B).mono B.size) ((hb.below B).mono B.size) hna hnb
    have K2 : Hid (∀ W, Below w.heap.size w W → Calls Tryz.prog 8 #[.slice Aa a.length ca, .slice Ab b.length cb, .int .i64 on] W (ResR (resolveM a b on) W)) := fun W B => rResolve_any ((ha.below B).mono B.size) ((hb.below B).mono B.size) hna hnb hca hcb hwa hwb ho
    have K3 : Hid (∀ W, Below w.heap.size w W → Calls Tryz.prog 9 #[.slice A D.length c] W (ResRR (tidyA D) W)) := fun W B => pTidy_any ((h.below B).mono B.size) hn hm
    have K4 : Hid (∀ W, Below w.heap.size w W → Calls Tryz.prog 10 #[.slice A D.length c] W (ResRR (tidyA D) W)) := fun W B => rTidy_any ((h.below B).mono B.size) hn hm hw
    have K5 : Hid (∀ W, Below w.heap.size w W → Calls Tryz.prog 11 #[.slice A D.length c] W (ResN (countM D) W)) := fun W B => pCount_any ((h.below B).mono B.size) hn hm
    have K6 : Hid (∀ W, Below w.heap.size w W → Calls Tryz.prog 12 #[.slice A D.length c] W (ResN (countM D) W)) := fun W B => rCount_any ((h.below B).mono B.size) hn hm hw
    have hr1 : (resolveM a b on).1.length ≤ 9223372036854775807 := resolveM_small
    obtain ⟨ht1, hsm⟩ := tidyA_small D
    have SM : Hid _ := hsm
    clear hsm h ha hb hm hw hwa hwb hl d12 dal ho
    generalize resolveM a b on = R at *
    obtain ⟨r1, r2⟩ := R
    generalize tidyA D = T at *
    obtain ⟨t1, t2⟩ := T
    generalize countM D = N at *
    obtain ⟨n1, n2⟩ := N
    generalize (szVars D).length = nv at *
    by_cases hv1 : nv ≤ 10
    · have g1 : (nv : Int) ≤ 10 := by omega
      have g2 : decide ((10 : Int) < (nv : Int)) = false := decide_eq_false (by omega)
      clear hv1
      go_enter Tryz.func3, Tryz.ntmps3
      go_wp2_with fail
      refine L1.mono ?_
      rintro e w0 ⟨rfl, rfl⟩
      clear L1
      have kv := KV.out w0 (Below.refl _ _)
      go_wp2_with fail
      refine kv.mono ?_
      rintro e w1 ⟨v', rfl, B1⟩
      have B1h : Hid (Below w0.heap.size w0 w1) := B1
      clear kv KV B1
      have k1 := K1.out w1 B1h.out
      go_wp2_with fail
      refine k1.mono ?_
      unfold ResR
      rintro e w2 ⟨B2, A3, c3, rfl, L3⟩
      have B2h : Hid (Below w0.heap.size w0 w2) := B1h.out.trans (B2.mono B1h.out.size)
      have L3h : Hid (Lies w2.heap.size w2 A3 r1) := L3
      have k2 := K2.out w2 B2h.out
      clear k1 B2 L3 K1 K2
      go_wp2_with fail
      refine k2.mono ?_
      unfold ResR
      rintro e w3 ⟨B3, A4, c4, rfl, L4⟩
      have B23 : Hid (Below w2.heap.size w2 w3) := B3
      have B3h : Hid (Below w0.heap.size w0 w3) := B2h.out.trans (B3.mono B2h.out.size)
      have L4h : Hid (Lies w3.heap.size w3 A4 r1) := L4
      have k3 := K3.out w3 B3h.out
      clear k2 B3 L4 K3
      go_wp2_with fail
      refine k3.mono ?_
      unfold ResRR
      rintro e w4 ⟨B4, A5, c5, rfl, L5⟩
      have B34 : Hid (Below w3.heap.size w3 w4) := B4
      have B4h : Hid (Below w0.heap.size w0 w4) := B3h.out.trans (B4.mono B3h.out.size)
      have L5h : Hid (LiesR w4.heap.size w4 A5 t1) := L5
      have k4 := K4.out w4 B4h.out
      clear k3 B4 L5 K4
      go_wp2_with fail
      refine k4.mono ?_
      unfold ResRR
      rintro e w5 ⟨B5, A6, c6, rfl, L6⟩
      have B45 : Hid (Below w4.heap.size w4 w5) := B5
      have B5h : Hid (Below w0.heap.size w0 w5) := B4h.out.trans (B5.mono B4h.out.size)
      have L6h : Hid (LiesR w5.heap.size w5 A6 t1) := L6
      have k5 := K5.out w5 B5h.out
      clear k4 B5 L6 K5
      go_wp2_with fail
      refine k5.mono ?_
      unfold ResN
      rintro e w6 ⟨rfl, B6⟩
      have B56 : Hid (Below w5.heap.size w5 w6) := B6
      have B6h : Hid (Below w0.heap.size w0 w6) := B5h.out.trans (B6.mono B5h.out.size)
      have k6 := K6.out w6 B6h.out
      clear k5 B6 K6
      go_wp2_with fail
      refine k6.mono ?_
      unfold ResN
      rintro e w7 ⟨rfl, B7⟩
      have B57 : Hid (Below w5.heap.size w5 w7) := B56.out.trans (B7.mono B56.out.size)
      have B47 : Hid (Below w4.heap.size w4 w7) := B45.out.trans (B57.out.mono B45.out.size)
      have B37 : Hid (Below w3.heap.size w3 w7) := B34.out.trans (B47.out.mono B34.out.size)
      have B27 : Hid (Below w2.heap.size w2 w7) := B23.out.trans (B37.out.mono B23.out.size)
      have B7h : Hid (Below w0.heap.size w0 w7) := B5h.out.trans (B57.out.mono B5h.out.size)
      have nu := numbers_any (w := w7) (c := c3) (d := c4) (Lies.mono (Lies.below L3h.out B27.out) B27.out.size) (Lies.mono (Lies.below L4h.out B37.out) B37.out.size) hr1 hr1
      rw [show numbersM r1 r1 = true from decide_eq_true rfl] at nu
      clear k6 B7
      go_wp2_with fail
      refine nu.mono ?_
      rintro e w8 ⟨rfl, B8⟩
      have B48 : Hid (Below w4.heap.size w4 w8) := B47.out.trans (B8.mono B47.out.size)
      have B58 : Hid (Below w5.heap.size w5 w8) := B57.out.trans (B8.mono B57.out.size)
      have B8h : Hid (Below w0.heap.size w0 w8) := B7h.out.trans (B8.mono B7h.out.size)
      have LA5 : Hid (LiesR w8.heap.size w8 A5 t1) := (LiesR.below L5h.out B48.out).mono B48.out.size
      have LB5 : Hid (LiesR w8.heap.size w8 A6 t1) := (LiesR.below L6h.out B58.out).mono B58.out.size
      have start : Hid (CntRelB w8 t1.length (fun _ => True) t1.length (.int .i64 ((0 : Nat) : Int)) w8) := ⟨0, rfl, by omega, Below.refl _ _, fun _ _ => trivial⟩
      clear nu B8
      go_wp2_with fail
      go_loopg [21] t1.length (fun k x21 wr => CntRelB w8 t1.length (fun _ => True) k x21 wr)
      case atStart => exact start.out
      case round =>
        clear start
        obtain ⟨i, rfl, hki, B9, _⟩ := hrel
        have B09 : Hid (Below w0.heap.size w0 wr) := B8h.out.trans (B9.mono B8h.out.size)
        by_cases hlt : i < t1.length
        · obtain ⟨b1, o1, rfl, hb1, hc1⟩ := liesR_at (LiesR.below LA5.out B9) hlt
          obtain ⟨b2, o2, rfl, hb2, hc2⟩ := liesR_at (LiesR.below LB5.out B9) hlt
          obtain ⟨A7, c7, f1, _, hl1⟩ := hc1 i hlt
          obtain ⟨A8, c8, f2, _, hl2⟩ := hc2 i hlt
          have hsm := SM.out i hlt
          have NU := numbers_any (w := wr.drew) (c := c7) (d := c8) (Lies.mono (Lies.below hl1 (below_drewN_ (Below.refl _ wr) 1)) B9.size) (Lies.mono (Lies.below hl2 (below_drewN_ (Below.refl _ wr) 1)) B9.size) hsm hsm
          rw [show numbersM (t1.getD i []) (t1.getD i []) = true from decide_eq_true rfl] at NU
          clear hc1 hc2 hl1 hl2
          generalize (t1.getD i []).length = n at *
          have B9h : Hid _ := B9
          clear B9
          go_wp2_with fail
          go_region_law (go_simp; go_at_call 13; refine NU.mono ?_; rintro e w9 ⟨rfl, BX⟩; have BXh : Hid _ := (below_drewN_ B9h.out 1).trans (BX.mono B9h.out.size); clear BX)
          all_goals
            go_wp2_with fail
            go_roundg (gk - 1)
            case measure => omega
            case rel => exact ⟨i + 1, by go_num, by omega, BXh.out, fun _ _ => trivial⟩
        · have hge : decide (i < t1.length) = false := decide_eq_false (by omega)
          have hge2 : t1.length ≤ i := by omega
          clear hlt B9
          go_wp2_with fail
          refine (sane_any _).mono ?_
          rintro e w9 ⟨rfl, BX⟩
          have BF : Hid _ := B09.out.trans (BX.mono B09.out.size)
          clear BX
          go_wp2_with fail
          go_ret
          exact ⟨rfl, BF.out⟩
    · have g1 : (10 : Int) < (nv : Int) := by omega
      by_cases hv2 : nv ≤ 16
      · have g2 : (nv : Int) ≤ 16 := by omega
        clear hv1 hv2 K1 K2 K3 K4 K5 K6
        go_enter Tryz.func3, Tryz.ntmps3
        go_wp2_with fail
        refine L1.mono ?_
        rintro e w0 ⟨rfl, rfl⟩
        clear L1
        have kv := KV.out w0 (Below.refl _ _)
        go_wp2_with fail
        refine kv.mono ?_
        rintro e w1 ⟨v', rfl, B1⟩
        have B1h : Hid (Below w0.heap.size w0 w1) := B1
        have kv2 := KV.out w1 B1
        clear kv KV B1
        go_wp2_with fail
        refine kv2.mono ?_
        rintro e w2 ⟨v', rfl, B2⟩
        have B1h : Hid (Below w0.heap.size w0 w2) := B1h.out.trans (B2.mono B1h.out.size)
        clear kv2 B2
        go_wp2_with fail
        refine (sane_any _).mono ?_
        rintro e w2 ⟨rfl, BX⟩
        have BE : Hid _ := B1h.out.trans (BX.mono B1h.out.size)
        clear BX
        go_wp2_with fail
        go_ret
        exact ⟨rfl, BE.out⟩
      · have g2 : decide ((nv : Int) ≤ 16) = false := decide_eq_false (by omega)
        have g3 : (16 : Int) < (nv : Int) := by omega
        clear hv1 hv2
        go_enter Tryz.func3, Tryz.ntmps3
        go_wp2_with fail
        refine L1.mono ?_
        rintro e w0 ⟨rfl, rfl⟩
        clear L1
        have kv := KV.out w0 (Below.refl _ _)
        go_wp2_with fail
        refine kv.mono ?_
        rintro e wa ⟨v', rfl, B1⟩
        have B1h : Hid (Below w0.heap.size w0 wa) := B1
        have kv2 := KV.out wa B1
        clear kv KV B1
        go_wp2_with fail
        refine kv2.mono ?_
        rintro e w1 ⟨v', rfl, B2⟩
        have B1h : Hid (Below w0.heap.size w0 w1) := B1h.out.trans (B2.mono B1h.out.size)
        clear kv2 B2
        have k1 := K1.out w1 B1h.out
        go_wp2_with fail
        refine k1.mono ?_
        unfold ResR
        rintro e w2 ⟨B2, A3, c3, rfl, L3⟩
        have B2h : Hid (Below w0.heap.size w0 w2) := B1h.out.trans (B2.mono B1h.out.size)
        have L3h : Hid (Lies w2.heap.size w2 A3 r1) := L3
        have k2 := K2.out w2 B2h.out
        clear k1 B2 L3 K1 K2
        go_wp2_with fail
        refine k2.mono ?_
        unfold ResR
        rintro e w3 ⟨B3, A4, c4, rfl, L4⟩
        have B23 : Hid (Below w2.heap.size w2 w3) := B3
        have B3h : Hid (Below w0.heap.size w0 w3) := B2h.out.trans (B3.mono B2h.out.size)
        have L4h : Hid (Lies w3.heap.size w3 A4 r1) := L4
        have k3 := K3.out w3 B3h.out
        clear k2 B3 L4 K3
        go_wp2_with fail
        refine k3.mono ?_
        unfold ResRR
        rintro e w4 ⟨B4, A5, c5, rfl, L5⟩
        have B34 : Hid (Below w3.heap.size w3 w4) := B4
        have B4h : Hid (Below w0.heap.size w0 w4) := B3h.out.trans (B4.mono B3h.out.size)
        have L5h : Hid (LiesR w4.heap.size w4 A5 t1) := L5
        have k4 := K4.out w4 B4h.out
        clear k3 B4 L5 K4
        go_wp2_with fail
        refine k4.mono ?_
        unfold ResRR
        rintro e w5 ⟨B5, A6, c6, rfl, L6⟩
        have B45 : Hid (Below w4.heap.size w4 w5) := B5
        have B5h : Hid (Below w0.heap.size w0 w5) := B4h.out.trans (B5.mono B4h.out.size)
        have L6h : Hid (LiesR w5.heap.size w5 A6 t1) := L6
        have k5 := K5.out w5 B5h.out
        clear k4 B5 L6 K5
        go_wp2_with fail
        refine k5.mono ?_
        unfold ResN
        rintro e w6 ⟨rfl, B6⟩
        have B56 : Hid (Below w5.heap.size w5 w6) := B6
        have B6h : Hid (Below w0.heap.size w0 w6) := B5h.out.trans (B6.mono B5h.out.size)
        have k6 := K6.out w6 B6h.out
        clear k5 B6 K6
        go_wp2_with fail
        refine k6.mono ?_
        unfold ResN
        rintro e w7 ⟨rfl, B7⟩
        have B57 : Hid (Below w5.heap.size w5 w7) := B56.out.trans (B7.mono B56.out.size)
        have B47 : Hid (Below w4.heap.size w4 w7) := B45.out.trans (B57.out.mono B45.out.size)
        have B37 : Hid (Below w3.heap.size w3 w7) := B34.out.trans (B47.out.mono B34.out.size)
        have B27 : Hid (Below w2.heap.size w2 w7) := B23.out.trans (B37.out.mono B23.out.size)
        have B7h : Hid (Below w0.heap.size w0 w7) := B5h.out.trans (B57.out.mono B5h.out.size)
        have nu := numbers_any (w := w7) (c := c3) (d := c4) (Lies.mono (Lies.below L3h.out B27.out) B27.out.size) (Lies.mono (Lies.below L4h.out B37.out) B37.out.size) hr1 hr1
        rw [show numbersM r1 r1 = true from decide_eq_true rfl] at nu
        clear k6 B7
        go_wp2_with fail
        refine nu.mono ?_
        rintro e w8 ⟨rfl, B8⟩
        have B48 : Hid (Below w4.heap.size w4 w8) := B47.out.trans (B8.mono B47.out.size)
        have B58 : Hid (Below w5.heap.size w5 w8) := B57.out.trans (B8.mono B57.out.size)
        have B8h : Hid (Below w0.heap.size w0 w8) := B7h.out.trans (B8.mono B7h.out.size)
        have LA5 : Hid (LiesR w8.heap.size w8 A5 t1) := (LiesR.below L5h.out B48.out).mono B48.out.size
        have LB5 : Hid (LiesR w8.heap.size w8 A6 t1) := (LiesR.below L6h.out B58.out).mono B58.out.size
        have start : Hid (CntRelB w8 t1.length (fun _ => True) t1.length (.int .i64 ((0 : Nat) : Int)) w8) := ⟨0, rfl, by omega, Below.refl _ _, fun _ _ => trivial⟩
        clear nu B8
        go_wp2_with fail
        go_loopg [21] t1.length (fun k x21 wr => CntRelB w8 t1.length (fun _ => True) k x21 wr)
        case atStart => exact start.out
        case round =>
          clear start
          obtain ⟨i, rfl, hki, B9, _⟩ := hrel
          have B09 : Hid (Below w0.heap.size w0 wr) := B8h.out.trans (B9.mono B8h.out.size)
          by_cases hlt : i < t1.length
          · obtain ⟨b1, o1, rfl, hb1, hc1⟩ := liesR_at (LiesR.below LA5.out B9) hlt
            obtain ⟨b2, o2, rfl, hb2, hc2⟩ := liesR_at (LiesR.below LB5.out B9) hlt
            obtain ⟨A7, c7, f1, _, hl1⟩ := hc1 i hlt
            obtain ⟨A8, c8, f2, _, hl2⟩ := hc2 i hlt
            have hsm := SM.out i hlt
            have NU := numbers_any (w := wr.drew) (c := c7) (d := c8) (Lies.mono (Lies.below hl1 (below_drewN_ (Below.refl _ wr) 1)) B9.size) (Lies.mono (Lies.below hl2 (below_drewN_ (Below.refl _ wr) 1)) B9.size) hsm hsm
            rw [show numbersM (t1.getD i []) (t1.getD i []) = true from decide_eq_true rfl] at NU
            clear hc1 hc2 hl1 hl2
            generalize (t1.getD i []).length = n at *
            have B9h : Hid _ := B9
            clear B9
            go_wp2_with fail
            go_region_law (go_simp; go_at_call 13; refine NU.mono ?_; rintro e w9 ⟨rfl, BX⟩; have BXh : Hid _ := (below_drewN_ B9h.out 1).trans (BX.mono B9h.out.size); clear BX)
            all_goals
              go_wp2_with fail
              go_roundg (gk - 1)
              case measure => omega
              case rel => exact ⟨i + 1, by go_num, by omega, BXh.out, fun _ _ => trivial⟩
          · have hge : decide (i < t1.length) = false := decide_eq_false (by omega)
            have hge2 : t1.length ≤ i := by omega
            clear hlt B9
            go_wp2_with fail
            refine (sane_any _).mono ?_
            rintro e w9 ⟨rfl, BX⟩
            have BF : Hid _ := B09.out.trans (BX.mono B09.out.size)
            clear BX
            go_wp2_with fail
            go_ret
            exact ⟨rfl, BF.out⟩
  | false =>
    rw [hl] at L1
    clear h ha hb hm hw hwa hwb hl
    go_enter Tryz.func3, Tryz.ntmps3
    go_wp2_with fail
    refine L1.mono ?_
    rintro e w1 ⟨rfl, rfl⟩
    have B1h : Hid (Below w1.heap.size w1 w1) := Below.refl _ _
    clear L1
    go_wp2_with fail
    refine (sane_any _).mono ?_
    rintro e w2 ⟨rfl, BX⟩
    have BE : Hid _ := B1h.out.trans (BX.mono B1h.out.size)
    clear BX
    go_wp2_with fail
    go_ret
    exact ⟨rfl, BE.out⟩
end Go.Proofs.YtdllaphnkbnpoaaGreat
