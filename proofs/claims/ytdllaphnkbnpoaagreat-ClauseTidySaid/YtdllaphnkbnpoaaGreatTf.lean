/- Walks for ClauseTidy: Resolve of package clause. -/
import Derived.Test.YtdllaphnkbnpoaaGreatTe
namespace Go.Proofs.YtdllaphnkbnpoaaGreat
open Go.RowKit Go.Proofs

/-- A list and an error. -/
def ResR (R : List Int × Int) (w : World) (e : Ending) (w' : World) : Prop :=
  Below w.heap.size w w' ∧ ∃ A c, e = .returned (.tuple #[.slice A R.1.length c, .int .i64 R.2]) ∧ Lies w'.heap.size w' A R.1

theorem lit_bd {xs : List Int} (h : xs.all isLit = true) : ∀ x ∈ xs, -60000 ≤ x ∧ x ≤ 60000 := fun x hx => by
  have := List.all_eq_true.1 h x hx
  unfold isLit at this
  have := of_decide_eq_true this
  omega
theorem isLit_bd {x : Int} (h : isLit x = true) : -60000 ≤ x ∧ x ≤ 60000 := by
  unfold isLit at h
  have := of_decide_eq_true h
  omega

set_option maxRecDepth 100000 in
set_option maxHeartbeats 4000000 in
theorem pResolve_any {w : World} {A A2 : Option Addr} {a b : List Int} {c c2 : Nat} {on : Int} (h : Lies w.heap.size w A a) (h2 : Lies w.heap.size w A2 b) (hn : a.length ≤ 9223372036854775807) (hn2 : b.length ≤ 9223372036854775807) :
    Calls Tryz.prog 7 #[.slice A a.length c, .slice A2 b.length c2, .int .i64 on] w (ResR (resolveM a b on) w) := by
  unfold resolveM
  obtain ⟨w1, hw1⟩ : ∃ w1, w1 = w.alloc (.cells #[.int .i64 on] 3) := ⟨_, rfl⟩
  have s1 : w1.heap.size = w.heap.size + 1 := by rw [hw1, size_alloc]
  have B1 : Hid (Below w.heap.size w w1) := by rw [hw1]; exact (Below.refl _ _).alloc (Nat.le_refl _) _
  have k1 : w1.cell? ⟨w.heap.size, 0, none⟩ = some (.int .i64 on) := by rw [hw1]; exact cell_new _ _ _ _ rfl
  have HW : Hid _ := hw1
  by_cases hl1 : 30 < a.length
  · rw [if_pos (.inl hl1)]
    have g1 : (30 : Int) < (a.length : Int) := by omega
    clear h h2 hw1 k1 hl1
    go_enter Tryz.func7, Tryz.ntmps7
    go_wp2_with fail
    go_ret2
    unfold ResR
    exact ⟨by rw [← HW.out]; exact B1.out, none, 0, rfl, .inl rfl⟩
  · by_cases hl2 : 30 < b.length
    · rw [if_pos (.inr hl2)]
      have g0 : decide ((30 : Int) < (a.length : Int)) = false := decide_eq_false (by omega)
      have g00 : (a.length : Int) ≤ 30 := by omega
      have g1 : (30 : Int) < (b.length : Int) := by omega
      clear h h2 hw1 k1 hl2 hl1
      go_enter Tryz.func7, Tryz.ntmps7
      go_wp2_with fail
      go_ret2
      unfold ResR
      exact ⟨by rw [← HW.out]; exact B1.out, none, 0, rfl, .inl rfl⟩
    · rw [if_neg (by omega)]
      have g0 : decide ((30 : Int) < (a.length : Int)) = false := decide_eq_false (by omega)
      have g00 : (a.length : Int) ≤ 30 := by omega
      have g1 : decide ((30 : Int) < (b.length : Int)) = false := decide_eq_false (by omega)
      have g11 : (b.length : Int) ≤ 30 := by omega
      have l1 : a.length ≤ 30 := by omega
      have l2 : b.length ≤ 30 := by omega
      have KK : Hid (∀ W, Below w1.heap.size w1 W → W.cell? ⟨w.heap.size, 0, none⟩ = some (.int .i64 on)) := fun W hW => cell_keep (by omega) hW k1
      have LA : Hid (∀ W, Below w1.heap.size w1 W → Lies W.heap.size W A a) := fun W hW => (h.below (B1.out.trans (hW.mono B1.out.size))).mono (Nat.le_trans B1.out.size hW.size)
      have LB : Hid (∀ W, Below w1.heap.size w1 W → Lies W.heap.size W A2 b) := fun W hW => (h2.below (B1.out.trans (hW.mono B1.out.size))).mono (Nat.le_trans B1.out.size hW.size)
      have C1 : Calls Tryz.prog 17 #[.slice A a.length c] w1 fun e w' => e = .returned (.bool (a.all isLit)) ∧ Below w1.heap.size w1 w' := areLiterals_any (LA.out w1 (Below.refl _ _)) (Nat.le_refl _) hn
      have C2 : Hid (∀ W, Below w1.heap.size w1 W → Calls Tryz.prog 17 #[.slice A2 b.length c2] W fun e w' => e = .returned (.bool (b.all isLit)) ∧ Below W.heap.size W w') := fun W hW => areLiterals_any (LB.out W hW) (Nat.le_refl _) hn2
      have C3 : Hid (∀ W, Calls Tryz.prog 18 #[.int .i64 on] W fun e w' => e = .returned (.bool (isLit on)) ∧ W = w') := fun W => isLiteral_any on W
      have C4 : Hid (∀ W, Below w1.heap.size w1 W → Calls Tryz.prog 19 #[.slice A a.length c, .int .i64 on] W fun e w' => e = .returned (.bool (a.contains on)) ∧ w' = W) := fun W hW => containsI_any (LA.out W hW) hn on
      have C5 : Hid (∀ W, Below w1.heap.size w1 W → Calls Tryz.prog 19 #[.slice A2 b.length c2, .int .i64 (-on)] W fun e w' => e = .returned (.bool (b.contains (-on))) ∧ w' = W) := fun W hW => containsI_any (LB.out W hW) hn2 (-on)
      have SZ : Hid (w1.heap.size = w.heap.size + 1) := s1
      clear h h2 hw1 k1 hl1 hl2 s1 hn hn2
      cases q1 : a.all isLit with
      | false =>
        rw [q1] at C1
        rw [if_neg (by simp)]
        clear q1 C2 C3 C4 C5 KK LA LB
        go_enter Tryz.func7, Tryz.ntmps7
        go_wp2_with (rw [← HW.out]; refine C1.mono ?_; rintro e w2 ⟨rfl, B2⟩)
        have BF : Hid _ := B1.out.trans (B2.mono B1.out.size)
        clear C1 B2
        go_wp2_with fail
        go_ret2
        unfold ResR
        exact ⟨BF.out, none, 0, rfl, .inl rfl⟩
      | true =>
        rw [q1] at C1
        have Q1 : Hid _ := q1
        clear q1
        cases q2 : b.all isLit with
        | false =>
          have c2 := C2.out
          rw [q2] at c2
          have C2' : Hid _ := c2
          rw [if_neg (by simp)]
          clear q2 c2 C2 C3 C4 C5 KK LA LB
          go_enter Tryz.func7, Tryz.ntmps7
          go_wp2_with (rw [← HW.out]; refine C1.mono ?_; rintro e w2 ⟨rfl, B2⟩)
          have cc := C2'.out w2 B2
          have B2h : Hid _ := B2
          clear C1 B2
          go_wp2_with fail
          refine cc.mono ?_
          rintro e w3 ⟨rfl, B3⟩
          have BF : Hid _ := B1.out.trans ((B2h.out.trans (B3.mono B2h.out.size)).mono B1.out.size)
          clear cc B3
          go_wp2_with fail
          go_ret2
          unfold ResR
          exact ⟨BF.out, none, 0, rfl, .inl rfl⟩
        | true =>
          have c2 := C2.out
          rw [q2] at c2
          have C2' : Hid _ := c2
          have Q2 : Hid _ := q2
          clear q2 c2 C2
          cases q3 : isLit on with
          | false =>
            have c3 := C3.out
            rw [q3] at c3
            have C3' : Hid _ := c3
            rw [if_neg (by simp)]
            clear q3 c3 C3 C4 C5 LA LB
            go_enter Tryz.func7, Tryz.ntmps7
            go_wp2_with (rw [← HW.out]; refine C1.mono ?_; rintro e w2 ⟨rfl, B2⟩)
            have cc := C2'.out w2 B2
            have B2h : Hid _ := B2
            clear C1 B2
            go_wp2_with fail
            refine cc.mono ?_
            rintro e w3 ⟨rfl, B3⟩
            have B3h : Hid (Below w1.heap.size w1 w3) := B2h.out.trans (B3.mono B2h.out.size)
            have kk := KK.out w3 B3h.out
            have cc3 := C3'.out w3
            clear cc B3
            go_wp2_with fail
            refine cc3.mono ?_
            rintro e w4 ⟨rfl, rfl⟩
            clear cc3
            go_wp2_with fail
            go_ret2
            unfold ResR
            exact ⟨B1.out.trans (B3h.out.mono B1.out.size), none, 0, rfl, .inl rfl⟩
          | true =>
            have c3 := C3.out
            rw [q3] at c3
            have C3' : Hid _ := c3
            have hob := isLit_bd q3
            clear q3 c3 C3
            cases q4 : a.contains on with
            | false =>
              have c4 := C4.out
              rw [q4] at c4
              have C4' : Hid _ := c4
              rw [if_neg (by simp)]
              clear q4 c4 C4 C5 LA LB hob
              go_enter Tryz.func7, Tryz.ntmps7
              go_wp2_with (rw [← HW.out]; refine C1.mono ?_; rintro e w2 ⟨rfl, B2⟩)
              have cc := C2'.out w2 B2
              have B2h : Hid _ := B2
              clear C1 B2
              go_wp2_with fail
              refine cc.mono ?_
              rintro e w3 ⟨rfl, B3⟩
              have B3h : Hid (Below w1.heap.size w1 w3) := B2h.out.trans (B3.mono B2h.out.size)
              have kk := KK.out w3 B3h.out
              have cc3 := C3'.out w3
              have cc4 := C4'.out w3 B3h.out
              clear cc B3
              go_wp2_with fail
              refine cc3.mono ?_
              rintro e w4 ⟨rfl, rfl⟩
              clear cc3
              go_wp2_with fail
              refine cc4.mono ?_
              rintro e w4 ⟨rfl, rfl⟩
              clear cc4
              go_wp2_with fail
              go_ret2
              unfold ResR
              exact ⟨B1.out.trans (B3h.out.mono B1.out.size), none, 0, rfl, .inl rfl⟩
            | true =>
              have c4 := C4.out
              rw [q4] at c4
              have C4' : Hid _ := c4
              have PA : Hid (0 < a.length) := by
                cases a with
                | nil => simp at q4
                | cons x l => exact Nat.succ_pos _
              clear q4 c4 C4
              cases q5 : b.contains (-on) with
              | false =>
                have c5 := C5.out
                rw [q5] at c5
                have C5' : Hid _ := c5
                rw [if_neg (by simp)]
                clear q5 c5 C5 LA LB
                obtain ⟨ho0, ho1⟩ := hob
                go_enter Tryz.func7, Tryz.ntmps7
                go_wp2_with (rw [← HW.out]; refine C1.mono ?_; rintro e w2 ⟨rfl, B2⟩)
                have cc := C2'.out w2 B2
                have B2h : Hid _ := B2
                clear C1 B2
                go_wp2_with fail
                refine cc.mono ?_
                rintro e w3 ⟨rfl, B3⟩
                have B3h : Hid (Below w1.heap.size w1 w3) := B2h.out.trans (B3.mono B2h.out.size)
                have kk := KK.out w3 B3h.out
                have cc3 := C3'.out w3
                have cc4 := C4'.out w3 B3h.out
                have cc5 := C5'.out w3 B3h.out
                clear cc B3
                go_wp2_with fail
                refine cc3.mono ?_
                rintro e w4 ⟨rfl, rfl⟩
                clear cc3
                go_wp2_with fail
                refine cc4.mono ?_
                rintro e w4 ⟨rfl, rfl⟩
                clear cc4
                go_wp2_with fail
                refine cc5.mono ?_
                rintro e w4 ⟨rfl, rfl⟩
                clear cc5
                go_wp2_with fail
                go_ret2
                unfold ResR
                exact ⟨B1.out.trans (B3h.out.mono B1.out.size), none, 0, rfl, .inl rfl⟩
              | true =>
                have c5 := C5.out
                rw [q5] at c5
                have C5' : Hid _ := c5
                have PB : Hid (0 < b.length) := by
                  cases b with
                  | nil => simp at q5
                  | cons x l => exact Nat.succ_pos _
                rw [if_pos (by decide)]
                clear q5 c5 C5
                have HO : Hid _ := hob
                have DB : Hid (∀ x ∈ a ++ b, -60000 ≤ x ∧ x ≤ 60000) := fun x hx => by
                  rcases List.mem_append.1 hx with z | z
                  · exact lit_bd Q1.out x z
                  · exact lit_bd Q2.out x z
                obtain ⟨ho0, ho1⟩ := hob
                go_enter Tryz.func7, Tryz.ntmps7
                go_wp2_with (rw [← HW.out]; refine C1.mono ?_; rintro e w2 ⟨rfl, B2⟩)
                have cc := C2'.out w2 B2
                have B2h : Hid _ := B2
                clear C1 B2
                go_wp2_with fail
                refine cc.mono ?_
                rintro e w3 ⟨rfl, B3⟩
                have B3h : Hid (Below w1.heap.size w1 w3) := B2h.out.trans (B3.mono B2h.out.size)
                have kk := KK.out w3 B3h.out
                have cc3 := C3'.out w3
                have cc4 := C4'.out w3 B3h.out
                have cc5 := C5'.out w3 B3h.out
                have CC : Hid (∀ W, W = w3.alloc (.cells #[.slice A a.length c, .slice A2 b.length c2] 23) → Calls Tryz.prog 21 #[.slice (some ⟨w3.heap.size, 0, none⟩) 2 2] W fun e w' => ∃ v, e = .returned (.slice (ad v) (a ++ b).length (cp v)) ∧ Holds W.heap.size w' (locs (.row v 3 (ints (a ++ b)))) ∧ Below W.heap.size W w') := fun W hW => by
                  have BW : Below w3.heap.size w3 W := by rw [hW]; exact (Below.refl _ _).alloc (Nat.le_refl _) _
                  have sW : W.heap.size = w3.heap.size + 1 := by rw [hW, size_alloc]
                  refine concat_any (c := c) (c2 := c2) (by omega) ?_ ?_ ((Lies.below (LA.out w3 B3h.out) BW).mono BW.size) ((Lies.below (LB.out w3 B3h.out) BW).mono BW.size) PA.out PB.out l1 l2
                  · rw [hW]; simp
                  · rw [hW]; simp
                clear cc B3
                go_wp2_with fail
                refine cc3.mono ?_
                rintro e w4 ⟨rfl, rfl⟩
                clear cc3
                go_wp2_with fail
                refine cc4.mono ?_
                rintro e w4 ⟨rfl, rfl⟩
                clear cc4
                go_wp2_with fail
                refine cc5.mono ?_
                rintro e w4 ⟨rfl, rfl⟩
                clear cc5
                go_wp2_with fail
                refine (CC.out _ rfl).mono ?_
                rintro e w5 ⟨v, rfl, H5, B5⟩
                have hs3 : w4.heap.size ≤ (w4.alloc (.cells #[.slice A a.length c, .slice A2 b.length c2] 23)).heap.size := by rw [size_alloc]; omega
                have B35 : Below w4.heap.size w4 w5 := ((Below.refl _ _).alloc (Nat.le_refl _) _).trans (B5.mono hs3)
                have B5h : Hid (Below w1.heap.size w1 w5) := B3h.out.trans (B35.mono B3h.out.size)
                have k5 := KK.out w5 B5h.out
                have DF := deleteF_own (B := w.heap.size) H5 (by simp; have := PA.out; omega) (by simp; omega) DB.out (by have := SZ.out; have := B3h.out.size; omega) B5.size k5 HO.out
                have hs5 : Hid (w1.heap.size ≤ (w4.alloc (.cells #[.slice A a.length c, .slice A2 b.length c2] 23)).heap.size) := Nat.le_trans B3h.out.size hs3
                clear CC H5 B5 B35 kk k5 hs3
                rw [List.length_append] at DF
                go_wp2_with fail
                refine DF.mono ?_
                rintro e w6 ⟨v6, rfl, B6, H6⟩
                have B6h : Hid (Below w1.heap.size w1 w6) := B5h.out.trans (B6.mono hs5.out)
                have TD := tidied_any (c := cp v6) (row_lies H6 (k := .loc 0) rfl) (by have := List.length_filter_le (fun x => !decide (x.natAbs = on.natAbs)) (a ++ b); unfold dropM; rw [List.length_append] at this; omega) (fun x hx => DB.out x (List.mem_filter.1 hx).1)
                clear DF B6 H6
                go_wp2_with fail
                refine TD.mono ?_
                rintro e w7 ⟨v7, rfl, H7, B7⟩
                have BF : Hid _ := B1.out.trans ((B6h.out.trans (B7.mono B6h.out.size)).mono B1.out.size)
                have L7 : Hid _ := row_lies H7 (k := .loc 0) rfl
                clear TD H7 B7
                go_wp2_with fail
                go_ret2
                unfold ResR
                exact ⟨BF.out, ad v7, cp v7, rfl, L7.out⟩
end Go.Proofs.YtdllaphnkbnpoaaGreat
