/- Walks for ClauseTidy: Resolve of the reference. -/
import Derived.Test.YtdllaphnkbnpoaaGreatTf
import Derived.Test.YtdllaphnkbnpoaaGreatTh
namespace Go.Proofs.YtdllaphnkbnpoaaGreat
open Go.RowKit Go.Proofs

theorem refM_two (a b : List Int) : refM [a, b] = if 30 < a.length ∨ 30 < b.length then 2 else if (a.all isLit && b.all isLit) = true then 0 else 1 := by
  unfold refM
  have e0 : ¬ 600 < [a, b].length := by simp
  rw [if_neg e0]
  by_cases hl : 30 < a.length ∨ 30 < b.length
  · have e1 : ([a, b].all fun c => decide (c.length ≤ 30)) = false := by
      cases q : ([a, b].all fun c => decide (c.length ≤ 30)) with
      | false => rfl
      | true =>
        rw [List.all_eq_true] at q
        have h1 := of_decide_eq_true (q a (by simp))
        have h2 := of_decide_eq_true (q b (by simp))
        omega
    rw [if_pos e1, if_pos hl]
  · have e1 : ([a, b].all fun c => decide (c.length ≤ 30)) = true := by simp; omega
    rw [if_neg (by rw [e1]; simp), if_neg hl]
    have e2 : ([a, b].all fun c => c.all isLit) = (a.all isLit && b.all isLit) := by simp
    rw [e2]
    cases (a.all isLit && b.all isLit) <;> simp

def Rs1Rel (base : Nat) (w : World) (on : Int) (xs : List Int) (k : Nat) (x9 x11 : Value) (wr : World) : Prop :=
  ∃ (i : Nat) (acc : List Int) (v : Value), x11 = .int .i64 (i : Int) ∧ x9 = .slice (ad v) acc.length (cp v) ∧ k + i = xs.length ∧ acc.length ≤ i ∧ Holds base wr (locs (.row v 3 (ints acc))) ∧ Below base w wr ∧ acc ++ dropM on (xs.drop i) = dropM on xs

theorem dropM_cons (on x : Int) (xs : List Int) : dropM on (x :: xs) = if x.natAbs = on.natAbs then dropM on xs else x :: dropM on xs := by
  unfold dropM
  rw [List.filter_cons]
  by_cases h : x.natAbs = on.natAbs <;> simp [h]

set_option maxRecDepth 100000 in
set_option maxHeartbeats 4000000 in
theorem rResolve_any {w : World} {A A2 : Option Addr} {a b : List Int} {c c2 : Nat} {on : Int} (h : Lies w.heap.size w A a) (h2 : Lies w.heap.size w A2 b) (hn : a.length ≤ 9223372036854775807) (hn2 : b.length ≤ 9223372036854775807) (hc : a.length ≤ c) (hc2 : b.length ≤ c2)
    (hwa : ∀ x ∈ a, -9223372036854775808 ≤ x ∧ x ≤ 9223372036854775807) (hwb : ∀ x ∈ b, -9223372036854775808 ≤ x ∧ x ≤ 9223372036854775807) (ho : -9223372036854775808 ≤ on ∧ on ≤ 9223372036854775807) :
    Calls Tryz.prog 8 #[.slice A a.length c, .slice A2 b.length c2, .int .i64 on] w (ResR (resolveM a b on) w) := by
  obtain ⟨w1, hw1⟩ : ∃ w1, w1 = w.alloc (.cells #[.slice A a.length c, .slice A2 b.length c2] 23) := ⟨_, rfl⟩
  have s1 : w1.heap.size = w.heap.size + 1 := by rw [hw1, size_alloc]
  have B1 : Hid (Below w.heap.size w w1) := by rw [hw1]; exact (Below.refl _ _).alloc (Nat.le_refl _) _
  have HW : Hid _ := hw1
  have LR : LiesR w1.heap.size w1 (some ⟨w.heap.size, 0, none⟩) [a, b] := by
    refine .inr ⟨w.heap.size, 0, rfl, by omega, fun i hi => ?_⟩
    match i, hi with
    | 0, _ => exact ⟨A, c, by rw [hw1]; simp, hc, (h.below B1.out).mono B1.out.size⟩
    | 1, _ => exact ⟨A2, c2, by rw [hw1]; simp, hc2, (h2.below B1.out).mono B1.out.size⟩
  have CK := refCheck_any (c := 2) LR (by simp) (by simp; omega) (by simpa using ⟨hwa, hwb⟩)
  rw [show ([a, b] : List (List Int)).length = 2 from rfl, refM_two] at CK
  have LA : Hid (∀ W, Below w1.heap.size w1 W → Lies W.heap.size W A a) := fun W hW => (h.below (B1.out.trans (hW.mono B1.out.size))).mono (Nat.le_trans B1.out.size hW.size)
  have LB : Hid (∀ W, Below w1.heap.size w1 W → Lies W.heap.size W A2 b) := fun W hW => (h2.below (B1.out.trans (hW.mono B1.out.size))).mono (Nat.le_trans B1.out.size hW.size)
  have SZ : Hid (w1.heap.size = w.heap.size + 1) := s1
  unfold resolveM
  clear LR hw1 h h2 hwa hwb s1
  by_cases hl : 30 < a.length ∨ 30 < b.length
  · rw [if_pos hl]
    rw [if_pos hl] at CK
    clear hl LA LB
    go_enter Tryz.func8, Tryz.ntmps8
    go_wp2_with (rw [← HW.out]; refine CK.mono ?_; rintro e w2 ⟨rfl, rfl⟩)
    clear CK
    go_wp2_with fail
    go_ret2
    unfold ResR
    exact ⟨B1.out, none, 0, rfl, .inl rfl⟩
  · rw [if_neg hl]
    rw [if_neg hl] at CK
    have l1 : a.length ≤ 30 := by omega
    have l2 : b.length ≤ 30 := by omega
    clear hl
    cases q1 : (a.all isLit && b.all isLit) with
    | false =>
      rw [q1, if_neg (by simp)] at CK
      rw [if_neg (by simp)]
      clear q1 LA LB
      go_enter Tryz.func8, Tryz.ntmps8
      go_wp2_with (rw [← HW.out]; refine CK.mono ?_; rintro e w2 ⟨rfl, rfl⟩)
      clear CK
      go_wp2_with fail
      go_ret2
      unfold ResR
      exact ⟨B1.out, none, 0, rfl, .inl rfl⟩
    | true =>
      rw [q1, if_pos rfl] at CK
      have q1' := q1
      rw [Bool.and_eq_true] at q1'
      have DB : Hid (∀ x ∈ a ++ b, -60000 ≤ x ∧ x ≤ 60000) := fun x hx => by
        rcases List.mem_append.1 hx with z | z
        · exact lit_bd q1'.1 x z
        · exact lit_bd q1'.2 x z
      clear q1 q1'
      have SB := size_big on w1 ho.1 ho.2
      have H4 : Calls Tryz.prog 26 #[.slice A a.length c, .int .i64 on] w1 fun e w' => e = .returned (.bool (a.contains on)) ∧ w' = w1 := has_any (LA.out w1 (Below.refl _ _)) hn
      by_cases hz : on = 0
      · subst hz
        rw [if_neg (by simp [isLit])]
        clear SB H4 LA LB
        go_enter Tryz.func8, Tryz.ntmps8
        go_wp2_with (rw [← HW.out]; refine CK.mono ?_; rintro e w2 ⟨rfl, rfl⟩)
        clear CK
        go_wp2_with fail
        go_ret2
        unfold ResR
        exact ⟨B1.out, none, 0, rfl, .inl rfl⟩
      · have g0 : (on == 0) = false := by simp [hz]
        by_cases hs : 200 < on.natAbs
        · rw [if_neg (by
            have : isLit on = false := by unfold isLit; exact decide_eq_false (by omega)
            simp [this])]
          rw [decide_eq_true hs] at SB
          clear H4 LA LB hs hz
          go_enter Tryz.func8, Tryz.ntmps8
          go_wp2_with (rw [← HW.out]; refine CK.mono ?_; rintro e w2 ⟨rfl, rfl⟩)
          clear CK
          go_wp2_with fail
          refine SB.mono ?_
          rintro e w3 ⟨⟨r, rfl, hr⟩, rfl⟩
          have hr2 : 200 < r := of_decide_eq_true hr
          clear SB hr
          go_wp2_with fail
          go_ret2
          unfold ResR
          exact ⟨B1.out, none, 0, rfl, .inl rfl⟩
        · rw [decide_eq_false hs] at SB
          have qo : isLit on = true := by unfold isLit; exact decide_eq_true (by omega)
          rw [qo]
          have ho0 : -60000 ≤ on := by omega
          have ho1 : on ≤ 60000 := by omega
          have H5 : Calls Tryz.prog 26 #[.slice A2 b.length c2, .int .i64 (-on)] w1 fun e w' => e = .returned (.bool (b.contains (-on))) ∧ w' = w1 := has_any (LB.out w1 (Below.refl _ _)) hn2
          clear hs hz qo ho
          cases q4 : a.contains on with
          | false =>
            rw [q4] at H4
            rw [if_neg (by simp)]
            clear H5 LA LB q4
            go_enter Tryz.func8, Tryz.ntmps8
            go_wp2_with (rw [← HW.out]; refine CK.mono ?_; rintro e w2 ⟨rfl, rfl⟩)
            clear CK
            go_wp2_with fail
            refine SB.mono ?_
            rintro e w3 ⟨⟨r, rfl, hr⟩, rfl⟩
            have hr2 : r ≤ 200 := by have := of_decide_eq_false hr; omega
            clear SB hr
            go_wp2_with fail
            refine H4.mono ?_
            rintro e w3 ⟨rfl, rfl⟩
            clear H4
            go_wp2_with fail
            go_ret2
            unfold ResR
            exact ⟨B1.out, none, 0, rfl, .inl rfl⟩
          | true =>
            rw [q4] at H4
            have PA : Hid (0 < a.length) := by
              cases a with
              | nil => simp at q4
              | cons x l => exact Nat.succ_pos _
            clear q4
            cases q5 : b.contains (-on) with
            | false =>
              rw [q5] at H5
              rw [if_neg (by simp)]
              clear LA LB q5
              go_enter Tryz.func8, Tryz.ntmps8
              go_wp2_with (rw [← HW.out]; refine CK.mono ?_; rintro e w2 ⟨rfl, rfl⟩)
              clear CK
              go_wp2_with fail
              refine SB.mono ?_
              rintro e w3 ⟨⟨r, rfl, hr⟩, rfl⟩
              have hr2 : r ≤ 200 := by have := of_decide_eq_false hr; omega
              clear SB hr
              go_wp2_with fail
              refine H4.mono ?_
              rintro e w3 ⟨rfl, rfl⟩
              clear H4
              go_wp2_with fail
              refine H5.mono ?_
              rintro e w3 ⟨rfl, rfl⟩
              clear H5
              go_wp2_with fail
              go_ret2
              unfold ResR
              exact ⟨B1.out, none, 0, rfl, .inl rfl⟩
            | true =>
              rw [q5] at H5
              rw [if_pos (by decide)]
              have PB : Hid (0 < b.length) := by
                cases b with
                | nil => simp at q5
                | cons x l => exact Nat.succ_pos _
              clear q5
              obtain ⟨p, o, hAe, hp, _⟩ := lies_at (LA.out w1 (Below.refl _ _)) (i := 0) PA.out
              obtain ⟨p2, o2, hAe2, hp2, _⟩ := lies_at (LB.out w1 (Below.refl _ _)) (i := 0) PB.out
              subst hAe hAe2
              have RA : Hid (∀ W, Below w1.heap.size w1 W → Reads W (some ⟨p, o, none⟩) (ints a)) := fun W B => by
                have := (LA.out W B).reads (m := a.length) (Nat.le_refl _) (fun h => by cases h)
                rwa [List.take_length] at this
              have RB : Hid (∀ W, Below w1.heap.size w1 W → Reads W (some ⟨p2, o2, none⟩) (ints b)) := fun W B => by
                have := (LB.out W B).reads (m := b.length) (Nat.le_refl _) (fun h => by cases h)
                rwa [List.take_length] at this
              have O1 : Hid (∀ u ∈ ints a, u.oneCell' = true) := ints_one _
              have O2 : Hid (∀ u ∈ ints b, u.oneCell' = true) := ints_one _
              have L0 : Hid _ := Holds.lit0 (Holds.nothing w1.heap.size w1) (.loc 0) (Nat.le_refl _) 3
              have BA : Hid (Below w1.heap.size w1 (w1.alloc (.cells #[] 3))) := (Below.refl _ _).alloc (Nat.le_refl _) _
              have hsz : w1.heap.size ≤ (w1.alloc (.cells #[] 3)).heap.size := by rw [size_alloc]; omega
              have RA1 : Hid _ := RA.out _ BA.out
              clear LA LB
              obtain ⟨xs, hxs⟩ : ∃ xs, xs = a ++ b := ⟨_, rfl⟩
              rw [← hxs]
              have DBx : Hid (∀ x ∈ xs, -60000 ≤ x ∧ x ≤ 60000) := fun x hx => DB.out x (by rw [← hxs]; exact hx)
              have HX : Hid _ := hxs
              clear hxs DB
              go_enter Tryz.func8, Tryz.ntmps8
              go_wp2_with (rw [← HW.out]; refine CK.mono ?_; rintro e w2 ⟨rfl, rfl⟩)
              clear CK
              go_wp2_with fail
              refine SB.mono ?_
              rintro e w3 ⟨⟨r, rfl, hr⟩, rfl⟩
              have hr2 : r ≤ 200 := by have := of_decide_eq_false hr; omega
              clear SB hr
              go_wp2_with fail
              refine H4.mono ?_
              rintro e w3 ⟨rfl, rfl⟩
              clear H4
              go_wp2_with fail
              refine H5.mono ?_
              rintro e w3 ⟨rfl, rfl⟩
              clear H5
              go_wp2_with (at_builtin; refine law_many L0.out (.loc 0) rfl (.tmp 39) (.tmp 40) 23 3 (.int .i64 0) 8 rfl Tryz.underlying23 info3 rfl (by decide) 0 (ints a) (upd_same _ _ _) rfl rfl (some ⟨p, o, none⟩) a.length c rfl (ints_length _) (fun h => by cases h) RA1.out O1.out hsz (by omega) ?_)
              intro A3 c3 w4 H6 B6
              rw [upd_upd_same] at H6
              have H6h : Hid _ := H6
              have B6h : Hid (Below w3.heap.size w3 w4) := BA.out.trans B6
              have hsz4 : w3.heap.size ≤ w4.heap.size := B6h.out.size
              have RB4 : Hid _ := RB.out _ B6h.out
              clear H6 B6
              go_wp2_with (at_builtin; refine law_many H6h.out (.loc 0) rfl (.tmp 41) (.tmp 42) 23 3 (.int .i64 0) 8 rfl Tryz.underlying23 info3 rfl (by decide) a.length (ints b) (upd_same _ _ _) (ints_length _) (by first | rfl | simp [Act.eval, ad, cp]) (some ⟨p2, o2, none⟩) b.length c2 rfl (ints_length _) (fun h => by cases h) RB4.out O2.out hsz4 (by omega) ?_)
              intro A4 c4 w5 H7 B7
              rw [upd_upd_same, ← ints_append] at H7
              have e1 : upd (fun _ => Res.non) (.loc 0) (.row (.slice A4 (a.length + b.length) c4) 3 (ints (a ++ b))) = locs (.row (.slice A4 (a.length + b.length) c4) 3 (ints (a ++ b))) := rfl
              rw [e1] at H7
              have hxl : a.length + b.length = xs.length := by rw [HX.out, List.length_append]
              have LX := row_lies H7 (k := .loc 0) rfl
              have B7h : Hid (Below w3.heap.size w3 w5) := B6h.out.trans B7
              have hx60 : xs.length ≤ 60 := by rw [← hxl]; omega
              rw [hxl]
              rw [← HX.out] at LX
              simp only [ad] at LX
              clear H7 B7 H6h e1 hxl RA RB RA1 RB4 O1 O2 L0 BA
              have LXh : Hid _ := LX
              have ZB : Hid (w3.heap.size ≤ w5.heap.size) := B7h.out.size
              obtain ⟨base, hbase⟩ : ∃ base, base = w5.heap.size := ⟨_, rfl⟩
              have start : Hid (Rs1Rel base w5 on xs xs.length (.slice none 0 0) (.int .i64 ((0 : Nat) : Int)) w5) := by
                have H0 : Holds base w5 (fun _ => Res.non) := Holds.nothing _ _
                have H1 := nil_put H0 (by omega) (.loc 0) 3
                exact ⟨0, [], .slice none 0 0, rfl, rfl, by omega, Nat.le_refl _, H1, by rw [hbase]; exact Below.refl _ _, by simp⟩
              rw [← hbase] at LXh
              have HB : Hid _ := hbase
              clear LX hbase
              go_wp2_with fail
              go_loopg [9, 11] xs.length (fun k x9 x11 wr => Rs1Rel base w5 on xs k x9 x11 wr)
              case atStart => exact start.out
              case round =>
                clear start
                obtain ⟨i, acc, v, rfl, rfl, hki, hai, H, B, hT⟩ := hrel
                have hbz : base ≤ wr.heap.size := by have := B.size; have := HB.out; omega
                by_cases hlt : i < xs.length
                · obtain ⟨b', o', rfl, hbb, hcell⟩ := lies_at (Lies.below LXh.out B) hlt
                  have ei := hcell i hlt
                  have hx := DBx.out (xs.getD i 0) (row_ne xs 0 hlt)
                  rw [drop_getD0 hlt, dropM_cons] at hT
                  generalize xs.getD i 0 = x at *
                  have SX : ∀ W : World, Calls Tryz.prog 14 #[.int .i64 x] W fun e w' => e = .returned (.int .i64 (x.natAbs : Int)) ∧ w' = W := fun W => (size_any x W hx.1 hx.2).mono (fun _ _ h => ⟨h.1, h.2.symm⟩)
                  have SO : ∀ W : World, Calls Tryz.prog 14 #[.int .i64 on] W fun e w' => e = .returned (.int .i64 (on.natAbs : Int)) ∧ w' = W := fun W => (size_any on W ho0 ho1).mono (fun _ _ h => ⟨h.1, h.2.symm⟩)
                  have HH : Hid _ := H
                  have BH : Hid _ := B
                  clear hcell H B hx
                  generalize hnx : x.natAbs = n1 at *
                  generalize hno : on.natAbs = n2 at *
                  by_cases e : n1 = n2
                  · rw [if_pos e] at hT
                    have HT : Hid _ := hT
                    subst e
                    clear hT hnx hno
                    go_wp2_with fail
                    refine (SX _).mono ?_
                    rintro e w6 ⟨rfl, rfl⟩
                    go_wp2_with fail
                    refine (SO _).mono ?_
                    rintro e w6 ⟨rfl, rfl⟩
                    clear SX SO
                    go_wp2_with fail
                    go_roundg (gk - 1)
                    case measure => omega
                    case rel => exact ⟨i + 1, acc, v, by go_num, rfl, by omega, by omega, HH.out, BH.out, HT.out⟩
                  · rw [if_neg e] at hT
                    have HT : Hid _ := hT
                    have g1 : ((n1 : Int) != (n2 : Int)) = true := by rw [bne_iff_ne]; omega
                    have LS : Hid _ := HH.out.alloc (.cells #[.int .i64 x] 3)
                    have BL : Hid _ := BH.out.alloc hbz (.cells #[.int .i64 x] 3)
                    have hbz2 : base ≤ (wr.alloc (.cells #[.int .i64 x] 3)).heap.size := by rw [size_alloc]; omega
                    clear hT hnx hno e
                    go_wp2_with fail
                    refine (SX _).mono ?_
                    rintro e w6 ⟨rfl, rfl⟩
                    go_wp2_with fail
                    refine (SO _).mono ?_
                    rintro e w6 ⟨rfl, rfl⟩
                    clear SX SO
                    go_wp2_with (at_builtin; refine law_pushAt LS.out (.loc 0) rfl (.tmp 58) (.tmp 63) 23 3 (.int .i64 0) 8 rfl Tryz.underlying23 info3 rfl (by decide) acc.length (.int .i64 x) rfl (ints_length _) rfl w6.heap.size rfl ?hy rfl ?hb ?hl ?_)
                    try (case hy => first | exact cell_new _ _ _ _ (by simp) | exact cell_new_drew _ _ _ _ (by simp))
                    case hb => exact hbz2
                    case hl => omega
                    intro A5 c5 w7 H8 B8 _
                    rw [ints_snoc, upd_locs] at H8
                    have H8h : Hid _ := H8
                    have B8h : Hid _ := BL.out.trans B8
                    clear H8 B8
                    go_wp2_with fail
                    go_roundg (gk - 1)
                    case measure => omega
                    case rel => exact ⟨i + 1, acc ++ [x], .slice A5 (acc.length + 1) c5, by go_num, by simp [ad, cp], by omega, by simp; omega, H8h.out, B8h.out, by rw [← HT.out]; simp⟩
                · have hnil : xs.drop i = [] := List.drop_eq_nil_of_le (by omega)
                  rw [hnil] at hT
                  have hge : decide (i < xs.length) = false := decide_eq_false (by omega)
                  have hge2 : xs.length ≤ i := by omega
                  have hT2 : acc = dropM on xs := by rw [← hT]; simp [dropM]
                  have SO := sorted_any (base := wr.heap.size) (Nat.le_refl _) (c := cp v) (row_lies H (k := .loc 0) rfl) (by omega) (by rw [hT2]; exact fun x hx => DBx.out x (List.mem_filter.1 hx).1)
                  have B9 : Hid (Below w3.heap.size w3 wr) := B7h.out.trans (B.mono (by have := ZB.out; have := HB.out; omega))
                  rw [hT2] at SO ⊢
                  clear hT hT2 H B hlt hnil
                  unfold dropM at SO ⊢
                  go_wp2_with fail
                  refine SO.mono ?_
                  rintro e w6 ⟨v6, rfl, B6, H6⟩
                  have BF : Hid (Below w.heap.size w w6) := B1.out.trans ((B9.out.trans (B6.mono B9.out.size)).mono B1.out.size)
                  have LF : Hid (Lies w6.heap.size w6 (ad v6) _) := row_lies H6 (k := .loc 0) rfl
                  clear SO B6 H6
                  go_wp2_with fail
                  go_ret2
                  unfold ResR
                  exact ⟨BF.out, ad v6, cp v6, rfl, LF.out⟩
end Go.Proofs.YtdllaphnkbnpoaaGreat
