/- Walks over the reference: propagate. Walks over the reference: Satisfies, logError, IsLog, Refutes. -/
import Derived.Test.YtdllaphnkbnpoaaXc
import Derived.Test.YtdllaphnkbnpoaaPk
namespace Go.Proofs.Ytdllaphnkbnpoaa
open Go.RowKit Go.Proofs

theorem push_once {now c : List Int} (h0 : ∀ x ∈ c, x ≠ 0 ∧ x.natAbs ≤ 200) (h : Once now) {t : Int × Nat × Bool} (ht : scanM now c 0 0 false = t) (q : ¬ (t.2.2 = true ∨ 1 < t.2.1)) (n0 : t.2.1 ≠ 0) : Once (now ++ [t.1]) := by
  have I := scan_all (now := now) (fun x hx => (h0 x hx).1)
  rw [ht] at I
  obtain ⟨o1, o2⟩ := I.open_ (by omega)
  exact once_snoc h (fun z => q (.inl (I.held.2 ⟨_, o1, z⟩))) o2 (h0 _ o1).2

/-- What propagate answers. -/
def PropRes (base : Nat) (w : World) (R : Option (List Int)) (e : Ending) (w' : World) : Prop :=
  Below base w w' ∧ ((R = none ∧ e = .returned (.tuple #[.slice none 0 0, .bool false])) ∨
    ∃ now v, R = some now ∧ e = .returned (.tuple #[.slice (ad v) now.length (cp v), .bool true]) ∧ Holds base w' (locs (.row v 3 (ints now))))

def AsRel (base : Nat) (w : World) (bs : List Int) (T : Option (List Int)) (k : Nat) (x6 x7 : Value) (wr : World) : Prop :=
  ∃ (i : Nat) (now : List Int) (v : Value), x7 = .int .i64 (i : Int) ∧ x6 = .slice (ad v) now.length (cp v) ∧ k + i = bs.length ∧ Holds base wr (locs (.row v 3 (ints now))) ∧ Below base w wr ∧ Once now ∧ assumeM (bs.drop i) now = T
def OutRel (base : Nat) (w : World) (D : List (List Int)) (R : Option (List Int)) (k : Nat) (x6 x8 : Value) (wr : World) : Prop :=
  ∃ (now : List Int) (v : Value) (ag : Bool), x8 = .bool ag ∧ x6 = .slice (ad v) now.length (cp v) ∧ Holds base wr (locs (.row v 3 (ints now))) ∧ Below base w wr ∧ Once now ∧ (ag = true → propM D k now = some R) ∧ (ag = false → R = some now)
def MidRel (base : Nat) (w : World) (D : List (List Int)) (T : Option (List Int × Bool)) (k : Nat) (x6 x8 x9 : Value) (wr : World) : Prop :=
  ∃ (i : Nat) (now : List Int) (v : Value) (ag : Bool), x8 = .bool ag ∧ x9 = .int .i64 (i : Int) ∧ x6 = .slice (ad v) now.length (cp v) ∧ k + i = D.length ∧ Holds base wr (locs (.row v 3 (ints now))) ∧ Below base w wr ∧ Once now ∧ passM (D.drop i) now ag = T
def InRel (w : World) (c now : List Int) (T : Int × Nat × Bool) (k : Nat) (x10 x11 x12 x13 : Value) (wr : World) : Prop :=
  ∃ (j : Nat) (o : Int) (n : Nat) (h : Bool), x10 = .int .i64 o ∧ x11 = .int .i64 (n : Int) ∧ x12 = .bool h ∧ x13 = .int .i64 (j : Int) ∧ k + j = c.length ∧ wr = w ∧ n ≤ j ∧ scanM now (c.drop j) o n h = T

set_option maxRecDepth 100000 in
set_option maxHeartbeats 4000000 in
theorem refProp_any {base : Nat} {w : World} (hbase : base ≤ w.heap.size) {A A2 : Option Addr} {D : List (List Int)} {bs : List Int} {cc c2 : Nat} {R : Option (List Int)} (hA : LiesR base w A D) (hA2 : Lies base w A2 bs)
    (hD : D.length ≤ 60000) (hc : ∀ e ∈ D, e.length ≤ 60000) (hbs : bs.length ≤ 60000) (hl : ∀ e ∈ D, ∀ x ∈ e, x ≠ 0 ∧ x.natAbs ≤ 200) (hl2 : ∀ x ∈ bs, x ≠ 0 ∧ x.natAbs ≤ 200) (hR : propagateM D bs = some R) :
    Calls Try.prog 44 #[.slice A D.length cc, .slice A2 bs.length c2] w (PropRes base w R) := by
  have H0 : Holds base w (fun _ => Res.non) := Holds.nothing _ _
  have H1 := nil_put H0 hbase (.loc 0) 3
  have e1 : upd (fun _ => Res.non) (.loc 0) (.row (.slice none 0 0) 3 []) = locs (.row (.slice none 0 0) 3 (ints [])) := rfl
  rw [e1] at H1
  have start : Hid (AsRel base w bs (assumeM bs []) bs.length (.slice none 0 0) (.int .i64 ((0 : Nat) : Int)) w) := ⟨0, [], .slice none 0 0, rfl, rfl, rfl, H1, Below.refl _ _, ⟨by simp, by simp⟩, by simp⟩
  have LA : Hid _ := hA
  have LA2 : Hid _ := hA2
  have LC : Hid _ := hc
  have LL : Hid _ := hl
  have LL2 : Hid _ := hl2
  unfold propagateM at hR
  generalize assumeM bs [] = TT at *
  have HR : Hid _ := hR
  clear H0 H1 e1 hA hA2 hc hl hl2 hR
  go_enter Try.func44, Try.ntmps44
  go_wp2_with fail
  go_loopg [6, 7] bs.length (fun k x6 x7 wr => AsRel base w bs TT k x6 x7 wr)
  case atStart => exact start.out
  case round =>
    clear start
    obtain ⟨i, now, v, rfl, rfl, hki, H, B, HO, hT⟩ := hrel
    have hbz : base ≤ wr.heap.size := Nat.le_trans hbase B.size
    by_cases hlt : i < bs.length
    · obtain ⟨b, o, rfl, hbb, hcell⟩ := lies_at (Lies.below LA2.out B) hlt
      have ei := hcell i hlt
      have hd : bs.drop i = bs.getD i 0 :: bs.drop (i + 1) := by
        rw [List.drop_eq_getElem_cons hlt]; simp [hlt]
      have hx := LL2.out (bs.getD i 0) (row_ne bs 0 hlt)
      rw [hd] at hT
      generalize bs.getD i 0 = x at *
      have hx1 : -60000 ≤ x := by omega
      have hx2 : x ≤ 60000 := by omega
      have hnl := once_len HO
      have LI : Lies wr.heap.size wr (ad v) now := row_lies H (k := .loc 0) rfl
      have S1 := has_any (c := cp v) (x := -x) LI (by omega)
      have S2 := has_any (c := cp v) (x := x) LI (by omega)
      unfold assumeM at hT
      have SN : Hid (now.contains (-x) = false → now.contains x = false → Once (now ++ [x])) := fun h1 h2 => once_snoc HO (by simpa using h2) (by simpa using h1) hx.2
      have OH : Hid _ := HO
      have HT : Hid _ := hT
      have HH : Hid _ := H
      have BH : Hid _ := B
      clear hd hcell LI HO hT H B hx
      generalize now.contains (-x) = p at *
      generalize now.contains x = q at *
      generalize hav : ad v = AV at *
      cases p with
      | true =>
        have RN : Hid (R = none) := by
          have h1 := HT.out
          have h2 := HR.out
          rw [if_pos rfl] at h1
          rw [← h1] at h2
          injection h2 with h2
          exact h2.symm
        go_wp2_with fail
        refine S1.mono ?_
        rintro e w' ⟨rfl, rfl⟩
        clear S1 S2
        go_wp2_with fail
        go_ret2
        exact ⟨BH.out, .inl ⟨RN.out, rfl⟩⟩
      | false =>
        cases q with
        | true =>
          go_wp2_with fail
          refine S1.mono ?_
          rintro e w' ⟨rfl, rfl⟩
          go_wp2_with fail
          refine S2.mono ?_
          rintro e w' ⟨rfl, rfl⟩
          clear S1 S2
          go_wp2_with fail
          go_roundg (gk - 1)
          case measure => omega
          case rel => exact ⟨i + 1, now, v, by go_num, by rw [← hav], by omega, HH.out, BH.out, OH.out, by have := HT.out; simpa using this⟩
        | false =>
          have SN2 : Hid _ := SN.out rfl rfl
          clear SN
          have LS : Hid _ := HH.out.alloc (.cells #[.int .i64 x] 3)
          have BL : Hid _ := BH.out.alloc hbz (.cells #[.int .i64 x] 3)
          go_wp2_with fail
          refine S1.mono ?_
          rintro e w' ⟨rfl, rfl⟩
          go_wp2_with fail
          refine S2.mono ?_
          rintro e w' ⟨rfl, rfl⟩
          clear S1 S2 HH BH
          subst hav
          go_wp2_with (at_builtin; refine law_pushAt LS.out (.loc 0) rfl (.tmp 35) (.tmp 40) 26 3 (.int .i64 0) 8 rfl Try.underlying26 info3 rfl (by decide) now.length (.int .i64 x) rfl (ints_length _) rfl w'.heap.size rfl ?hy rfl ?hb ?hl ?_)
          try (case hy => first | exact cell_new _ _ _ _ (by simp) | exact cell_new_drew _ _ _ _ (by simp))
          case hb => simp; omega
          case hl => omega
          intro A3 c3 w6 H6 B6 _
          rw [ints_snoc, upd_locs] at H6
          have H6H : Hid _ := H6
          have B6H : Hid _ := BL.out.trans B6
          clear H6 B6
          go_wp2_with fail
          go_roundg (gk - 1)
          case measure => omega
          case rel => exact ⟨i + 1, now ++ [x], .slice A3 (now.length + 1) c3, by go_num, by simp [ad, cp], by omega, H6H.out, B6H.out, SN2.out, by have := HT.out; simpa using this⟩
    · have hnil : bs.drop i = [] := List.drop_eq_nil_of_le (by omega)
      have hge : decide (i < bs.length) = false := decide_eq_false (by omega)
      have hge2 : bs.length ≤ i := by omega
      rw [hnil] at hT
      unfold assumeM at hT
      subst hT
      have HR2 := HR.out
      simp only at HR2
      have start2 : Hid (OutRel base w D R 300 (.slice (ad v) now.length (cp v)) (.bool true) wr) := ⟨now, v, true, rfl, rfl, H, B, HO, fun _ => HR2, fun h => (by cases h)⟩
      clear hlt hnil H B HO HR HR2
      go_wp2_with fail
      go_loopg [6, 8] 300 (fun k x6 x8 w' => OutRel base w D R k x6 x8 w')
      case atStart => exact start2.out
      case round =>
        clear start2
        obtain ⟨now, v, ag, rfl, rfl, H, B, HO, hT, hF⟩ := hrel
        cases ag with
        | false =>
          have hR := hF rfl
          have HH : Hid _ := H
          have BH : Hid _ := B
          have RH : Hid _ := hR
          clear H B HO hT hF hR
          go_wp2_with fail
          go_ret2
          exact ⟨BH.out, .inr ⟨now, v, RH.out, rfl, HH.out⟩⟩
        | true =>
          have hP := hT rfl
          cases gk with
          | zero => unfold propM at hP; cases hP
          | succ m =>
            unfold propM at hP
            have start3 : Hid (MidRel base w D (passM D now false) D.length (.slice (ad v) now.length (cp v)) (.bool false) (.int .i64 ((0 : Nat) : Int)) _) := ⟨0, now, v, false, rfl, rfl, rfl, rfl, H, B, HO, by simp⟩
            generalize passM D now false = T at *
            have HP : Hid _ := hP
            clear H B HO hT hF hP
            go_wp2_with fail
            go_loopg [6, 8, 9] D.length (fun k x6 x8 x9 w' => MidRel base w D T k x6 x8 x9 w')
            case atStart => exact start3.out
            case round =>
              clear start3
              obtain ⟨i, now, v, ag, rfl, rfl, rfl, hki, H, B, HO, hT⟩ := hrel
              by_cases hlt : i < D.length
              · obtain ⟨m2, rfl⟩ : ∃ m2, gk = m2 + 1 := ⟨gk - 1, by omega⟩
                obtain ⟨b, o, rfl, hbb, hcell⟩ := liesR_at (LiesR.below LA.out B) hlt
                obtain ⟨A', c', ei, hc', hli⟩ := hcell i hlt
                have hd : D.drop i = D.getD i [] :: D.drop (i + 1) := by
                  rw [List.drop_eq_getElem_cons hlt]; simp [hlt]
                have hcl := LC.out _ (row_ne D [] hlt)
                have hll := LL.out _ (row_ne D [] hlt)
                rw [hd] at hT
                unfold passM at hT
                generalize D.getD i [] = c at *
                have PO := fun t ht q n0 => push_once (now := now) (c := c) hll HO (t := t) ht q n0
                have hbz : base ≤ _ := Nat.le_trans hbase B.size
                have start4 : Hid (InRel wr c now (scanM now c 0 0 false) c.length (.int .i64 0) (.int .i64 ((0 : Nat) : Int)) (.bool false) (.int .i64 ((0 : Nat) : Int)) wr) := ⟨0, 0, 0, false, rfl, rfl, rfl, rfl, rfl, rfl, Nat.le_refl _, by simp⟩
                have LN : Hid _ := row_lies H (k := .loc 0) rfl
                have hnl := once_len HO
                generalize scanM now c 0 0 false = T4 at *
                have FIN1 : Hid (T4.2.2 = true ∨ 1 < T4.2.1 → passM (D.drop (i + 1)) now ag = T) := fun h => by rw [if_pos h] at hT; exact hT
                have FIN2 : Hid (¬ (T4.2.2 = true ∨ 1 < T4.2.1) → T4.2.1 = 0 → R = none) := fun h h0 => by
                  rw [if_neg h, if_pos h0] at hT
                  have hP := HP.out
                  rw [← hT] at hP
                  injection hP with hP
                  exact hP.symm
                have FIN3 : Hid (¬ (T4.2.2 = true ∨ 1 < T4.2.1) → T4.2.1 ≠ 0 → passM (D.drop (i + 1)) (now ++ [T4.1]) true = T ∧ Once (now ++ [T4.1])) := fun h h0 => ⟨by rw [if_neg h, if_neg h0] at hT; exact hT, PO T4 rfl h h0⟩
                have LI : Hid _ := hli
                have HH : Hid _ := H
                have BH : Hid _ := B
                have OH : Hid _ := HO
                have LH : Hid _ := hll
                clear H B HO hT hd hcell hli hll PO
                generalize hav : ad v = AV at *
                go_wp2_with fail
                go_loopg [10, 11, 12, 13] c.length (fun k x10 x11 x12 x13 w' => InRel wr c now T4 k x10 x11 x12 x13 w')
                case atStart => exact start4.out
                case round =>
                  clear start4
                  obtain ⟨j, op, n, h, rfl, rfl, rfl, rfl, hkj, rfl, hnj, hT⟩ := hrel
                  by_cases hlt2 : j < c.length
                  · obtain ⟨b2, o2, rfl, _, hc2⟩ := lies_at LI.out hlt2
                    have e2 := hc2 j hlt2
                    have hd2 : c.drop j = c.getD j 0 :: c.drop (j + 1) := by
                      rw [List.drop_eq_getElem_cons hlt2]; simp [hlt2]
                    have hx := LH.out _ (row_ne c 0 hlt2)
                    rw [hd2] at hT
                    unfold scanM at hT
                    generalize c.getD j 0 = x at *
                    have S1 := has_any (c := cp v) (x := x) LN.out (by omega)
                    have S2 := has_any (c := cp v) (x := -x) LN.out (by omega)
                    generalize now.contains x = p at *
                    generalize now.contains (-x) = q at *
                    have hx1 : -60000 ≤ x := by omega
                    have hx2 : x ≤ 60000 := by omega
                    have TA : Hid (q = true → scanM now (c.drop (j + 1)) op n (h || p) = T4) := fun e => by subst e; rw [if_neg (by simp)] at hT; exact hT
                    have TB : Hid (x = op → scanM now (c.drop (j + 1)) op n (h || p) = T4) := fun e => by rw [if_neg (by simp [e])] at hT; exact hT
                    have TC : Hid (q = false → x ≠ op → scanM now (c.drop (j + 1)) x (n + 1) (h || p) = T4) := fun e1 e2 => by rw [if_pos ⟨e1, e2⟩] at hT; exact hT
                    clear hT hd2 hc2 hx
                    cases q with
                    | true =>
                      have TT : Hid _ := TA.out rfl
                      clear TA TB TC
                      cases p with
                      | true =>
                        go_wp2_with fail
                        refine S1.mono ?_
                        rintro e w' ⟨rfl, rfl⟩
                        go_wp2_with fail
                        refine S2.mono ?_
                        rintro e w' ⟨rfl, rfl⟩
                        clear S1 S2
                        go_wp2_with fail
                        go_roundg (gk - 1)
                        case measure => omega
                        case rel => exact ⟨j + 1, op, n, true, rfl, rfl, rfl, by go_num, by omega, rfl, by omega, by have := TT.out; simpa using this⟩
                      | false =>
                        go_wp2_with fail
                        refine S1.mono ?_
                        rintro e w' ⟨rfl, rfl⟩
                        go_wp2_with fail
                        refine S2.mono ?_
                        rintro e w' ⟨rfl, rfl⟩
                        clear S1 S2
                        go_wp2_with fail
                        go_roundg (gk - 1)
                        case measure => omega
                        case rel => exact ⟨j + 1, op, n, h, rfl, rfl, rfl, by go_num, by omega, rfl, by omega, by have := TT.out; simpa using this⟩
                    | false =>
                      by_cases hxo : x = op
                      · have TT : Hid _ := TB.out hxo
                        have g1 : (x != op) = false := by simp [hxo]
                        clear TA TB TC hxo
                        cases p with
                        | true =>
                          go_wp2_with fail
                          refine S1.mono ?_
                          rintro e w' ⟨rfl, rfl⟩
                          go_wp2_with fail
                          refine S2.mono ?_
                          rintro e w' ⟨rfl, rfl⟩
                          clear S1 S2
                          go_wp2_with fail
                          go_roundg (gk - 1)
                          case measure => omega
                          case rel => exact ⟨j + 1, op, n, true, rfl, rfl, rfl, by go_num, by omega, rfl, by omega, by have := TT.out; simpa using this⟩
                        | false =>
                          go_wp2_with fail
                          refine S1.mono ?_
                          rintro e w' ⟨rfl, rfl⟩
                          go_wp2_with fail
                          refine S2.mono ?_
                          rintro e w' ⟨rfl, rfl⟩
                          clear S1 S2
                          go_wp2_with fail
                          go_roundg (gk - 1)
                          case measure => omega
                          case rel => exact ⟨j + 1, op, n, h, rfl, rfl, rfl, by go_num, by omega, rfl, by omega, by have := TT.out; simpa using this⟩
                      · have TT : Hid _ := TC.out rfl hxo
                        have g1 : (x != op) = true := by simp [hxo]
                        clear TA TB TC hxo
                        cases p with
                        | true =>
                          go_wp2_with fail
                          refine S1.mono ?_
                          rintro e w' ⟨rfl, rfl⟩
                          go_wp2_with fail
                          refine S2.mono ?_
                          rintro e w' ⟨rfl, rfl⟩
                          clear S1 S2
                          go_wp2_with fail
                          go_roundg (gk - 1)
                          case measure => omega
                          case rel => exact ⟨j + 1, x, n + 1, true, rfl, by go_num, rfl, by go_num, by omega, rfl, by omega, by have := TT.out; simpa using this⟩
                        | false =>
                          go_wp2_with fail
                          refine S1.mono ?_
                          rintro e w' ⟨rfl, rfl⟩
                          go_wp2_with fail
                          refine S2.mono ?_
                          rintro e w' ⟨rfl, rfl⟩
                          clear S1 S2
                          go_wp2_with fail
                          go_roundg (gk - 1)
                          case measure => omega
                          case rel => exact ⟨j + 1, x, n + 1, h, rfl, by go_num, rfl, by go_num, by omega, rfl, by omega, by have := TT.out; simpa using this⟩
                  · have hnil : c.drop j = [] := List.drop_eq_nil_of_le (by omega)
                    have hge : decide (j < c.length) = false := decide_eq_false (by omega)
                    have hge2 : c.length ≤ j := by omega
                    rw [hnil] at hT
                    unfold scanM at hT
                    subst hT
                    clear hnil hlt2
                    have F1 := FIN1.out
                    have F2 := FIN2.out
                    have F3 := FIN3.out
                    simp only at F1 F2 F3
                    clear FIN1 FIN2 FIN3
                    cases h with
                    | true =>
                      have TT : Hid _ := F1 (.inl rfl)
                      clear F1 F2 F3
                      go_wp2_with fail
                      go_roundg m2
                      case measure => omega
                      case rel => exact ⟨i + 1, now, v, ag, rfl, by go_num, by rw [← hav], by omega, HH.out, BH.out, OH.out, TT.out⟩
                    | false =>
                      by_cases hn1 : 1 < n
                      · have TT : Hid _ := F1 (.inr hn1)
                        have g1 : (1 : Int) < (n : Int) := by omega
                        clear F1 F2 F3
                        go_wp2_with fail
                        go_roundg m2
                        case measure => omega
                        case rel => exact ⟨i + 1, now, v, ag, rfl, by go_num, by rw [← hav], by omega, HH.out, BH.out, OH.out, TT.out⟩
                      · have g1 : decide ((1 : Int) < (n : Int)) = false := decide_eq_false (by omega)
                        by_cases hn0 : n = 0
                        · have RN : Hid _ := F2 (by simp; omega) hn0
                          subst hn0
                          clear F1 F2 F3
                          go_wp2_with fail
                          go_ret2
                          exact ⟨BH.out, .inl ⟨RN.out, rfl⟩⟩
                        · obtain ⟨TT0, ON0⟩ := F3 (by simp; omega) hn0
                          have TT : Hid _ := TT0
                          have ON : Hid _ := ON0
                          have g2 : ((n : Int) == 0) = false := by simp; omega
                          clear F1 F2 F3 TT0 ON0
                          have LS : Hid _ := HH.out.alloc (.cells #[.int .i64 op] 3)
                          have BL : Hid _ := BH.out.alloc hbz (.cells #[.int .i64 op] 3)
                          subst hav
                          go_wp2_with (at_builtin; refine law_pushAt LS.out (.loc 0) rfl (.tmp 88) (.tmp 90) 26 3 (.int .i64 0) 8 rfl Try.underlying26 info3 rfl (by decide) now.length (.int .i64 op) rfl (ints_length _) rfl wr.heap.size rfl ?hy rfl ?hb ?hl ?_)
                          try (case hy => first | exact cell_new _ _ _ _ (by simp) | exact cell_new_drew _ _ _ _ (by simp))
                          case hb => simp; omega
                          case hl => omega
                          intro A3 c3 w6 H6 B6 _
                          rw [ints_snoc, upd_locs] at H6
                          have H6H : Hid _ := H6
                          have B6H : Hid _ := BL.out.trans B6
                          clear H6 B6
                          go_wp2_with fail
                          go_roundg m2
                          case measure => omega
                          case rel => exact ⟨i + 1, now ++ [op], .slice A3 (now.length + 1) c3, true, rfl, by go_num, by simp [ad, cp], by omega, H6H.out, B6H.out, ON.out, TT.out⟩
              · have hnil : D.drop i = [] := List.drop_eq_nil_of_le (by omega)
                have hge : decide (i < D.length) = false := decide_eq_false (by omega)
                have hge2 : D.length ≤ i := by omega
                rw [hnil] at hT
                unfold passM at hT
                subst hT
                have hP := HP.out
                have HH : Hid _ := H
                have BH : Hid _ := B
                have OH : Hid _ := HO
                have RT : Hid (ag = true → propM D m now = some R) := fun h => by subst h; exact hP
                have RF : Hid (ag = false → R = some now) := fun h => by subst h; injection hP with hP; exact hP.symm
                clear hlt hnil H B HO HP hP
                go_wp2_with fail
                go_roundg m
                case measure => omega
                case rel => exact ⟨now, v, ag, rfl, rfl, HH.out, BH.out, OH.out, RT.out, RF.out⟩
end Go.Proofs.Ytdllaphnkbnpoaa
namespace Go.Proofs.Ytdllaphnkbnpoaa
open Go.RowKit Go.Proofs

def satisfiesM (D : List (List Int)) (l : List Int) : Bool × Int :=
  if refM D ≠ 0 then (false, refM D) else if l.all isLit = false then (false, 1) else if twiceM l = true then (false, 1) else (holdsM D l, 0)

theorem lit_small {l : List Int} (h : l.all isLit = true) : ∀ x ∈ l, x ≠ 0 ∧ x.natAbs ≤ 200 := by
  intro x hx
  have := List.all_eq_true.1 h x hx
  unfold isLit at this
  simp at this
  omega

set_option maxHeartbeats 2000000 in
theorem satisfies_any {w : World} {A A2 : Option Addr} {D : List (List Int)} {l : List Int} {c c2 : Nat} (h : LiesR w.heap.size w A D) (h2 : Lies w.heap.size w A2 l) (hn : D.length ≤ 9223372036854775807) (hm : ∀ e ∈ D, e.length ≤ 9223372036854775807) (hw : ∀ e ∈ D, ∀ x ∈ e, -9223372036854775808 ≤ x ∧ x ≤ 9223372036854775807)
    (hl : l.length ≤ 9223372036854775807) (hlw : ∀ x ∈ l, -9223372036854775808 ≤ x ∧ x ≤ 9223372036854775807) :
    Calls Try.prog 15 #[.slice A D.length c, .slice A2 l.length c2] w fun e w' => e = .returned (.tuple #[.bool (satisfiesM D l).1, .int .i64 (satisfiesM D l).2]) ∧ Below w.heap.size w w' := by
  have C := refCheck_any (c := c) h hn hm hw
  have LI := literals_any (c := c2) h2 hl hlw
  have h60 : refM D = 0 → D.length ≤ 60000 ∧ ∀ e ∈ D, e.length ≤ 60000 := by
    intro hr
    unfold refM at hr
    split at hr
    · omega
    · split at hr
      · omega
      · rename_i q1 q2
        refine ⟨by omega, fun e he => ?_⟩
        have : (D.all fun c => decide (c.length ≤ 30)) = true := by simpa using q2
        have := List.all_eq_true.1 this e he
        simp at this; omega
  have TW : l.all isLit = true → Calls Try.prog 36 #[.slice A2 l.length c2] w fun e w' => e = .returned (.bool (twiceM l)) ∧ Below w.heap.size w w' := fun q =>
    twice_any h2 hl (fun x hx => by have := lit_small q x hx; omega)
  have HO : refM D = 0 → ∀ w', Below w.heap.size w w' → Calls Try.prog 37 #[.slice A D.length c, .slice A2 l.length c2] w' fun e w'' => e = .returned (.bool (holdsM D l)) ∧ w'' = w' := fun q w' B =>
    holds_any (h.below B) (h2.below B) (h60 q).1 (h60 q).2 hl
  have BR : Hid (Below w.heap.size w w) := Below.refl _ _
  unfold satisfiesM
  have TWH : Hid _ := TW
  have HOH : Hid _ := HO
  clear h h2 hm hw hlw h60 TW HO
  by_cases hr : refM D = 0
  · rw [if_neg (by simp [hr])]
    have HO2 : Hid _ := HOH.out hr
    rw [hr] at C
    clear hr HOH
    cases hq : l.all isLit with
    | false =>
      rw [if_pos rfl]
      rw [hq] at LI
      clear hq TWH HO2
      go_enter Try.func15, Try.ntmps15
      go_wp2_with fail
      refine C.mono ?_
      rintro e w' ⟨rfl, rfl⟩
      go_wp2_with fail
      refine LI.mono ?_
      rintro e w' ⟨rfl, rfl⟩
      go_wp2_with fail
      go_ret2
      exact ⟨rfl, BR.out⟩
    | true =>
      rw [if_neg (by simp)]
      have TW := TWH.out hq
      rw [hq] at LI
      clear hq TWH
      cases ht : twiceM l with
      | true =>
        rw [if_pos rfl]
        rw [ht] at TW
        clear ht
        go_enter Try.func15, Try.ntmps15
        go_wp2_with fail
        refine C.mono ?_
        rintro e w' ⟨rfl, rfl⟩
        go_wp2_with fail
        refine LI.mono ?_
        rintro e w' ⟨rfl, rfl⟩
        go_wp2_with fail
        refine TW.mono ?_
        rintro e w2 ⟨rfl, B2⟩
        have B2H : Hid _ := B2
        clear B2 TW LI C
        go_wp2_with fail
        go_ret2
        exact ⟨rfl, B2H.out⟩
      | false =>
        rw [if_neg (by simp)]
        rw [ht] at TW
        clear ht
        generalize holdsM D l = res at *
        go_enter Try.func15, Try.ntmps15
        go_wp2_with fail
        refine C.mono ?_
        rintro e w' ⟨rfl, rfl⟩
        go_wp2_with fail
        refine LI.mono ?_
        rintro e w' ⟨rfl, rfl⟩
        go_wp2_with fail
        refine TW.mono ?_
        rintro e w2 ⟨rfl, B2⟩
        have HO3 := HO2.out w2 B2
        have B2H : Hid _ := B2
        clear B2 TW LI C HO2
        go_wp2_with fail
        refine HO3.mono ?_
        rintro e w3 ⟨rfl, rfl⟩
        go_wp2_with fail
        go_ret2
        exact ⟨rfl, B2H.out⟩
  · rw [if_pos hr]
    have hr2 : (refM D != 0) = true := by simp [hr]
    clear TWH HOH hr
    generalize refM D = r at *
    go_enter Try.func15, Try.ntmps15
    go_wp2_with fail
    refine C.mono ?_
    rintro e w' ⟨rfl, rfl⟩
    go_wp2_with fail
    go_ret2
    exact ⟨rfl, BR.out⟩

def logErrM (D log : List (List Int)) : Int :=
  if refM D = 2 then 2 else if 4000 < log.length then 2 else if refM D ≠ 0 then refM D else if (log.all fun c => c.all isLit) = false then 1 else 0

set_option maxHeartbeats 2000000 in
theorem logError_any {base : Nat} {w : World} {A A2 : Option Addr} {D log : List (List Int)} {c c2 : Nat} (h : LiesR base w A D) (h2 : LiesR base w A2 log) (hn : D.length ≤ 9223372036854775807) (hm : ∀ e ∈ D, e.length ≤ 9223372036854775807) (hw : ∀ e ∈ D, ∀ x ∈ e, -9223372036854775808 ≤ x ∧ x ≤ 9223372036854775807)
    (hn2 : log.length ≤ 9223372036854775807) (hm2 : ∀ e ∈ log, e.length ≤ 9223372036854775807) (hw2 : ∀ e ∈ log, ∀ x ∈ e, -9223372036854775808 ≤ x ∧ x ≤ 9223372036854775807) :
    Calls Try.prog 43 #[.slice A D.length c, .slice A2 log.length c2] w fun e w' => e = .returned (.int .i64 (logErrM D log)) ∧ w' = w := by
  have C := refCheck_any (c := c) h hn hm hw
  have LI : Hid _ := fun (e : List Int) (he : e ∈ log) (B : Option Addr) (c' : Nat) (hl : Lies base w B e) => literals_any (c := c') hl (hm2 e he) (hw2 e he)
  have HH : Hid _ := h2
  unfold logErrM
  clear h h2 hm hw hm2 hw2
  generalize refM D = r at *
  by_cases hr2 : r = 2
  · rw [if_pos hr2]
    subst hr2
    go_enter Try.func43, Try.ntmps43
    go_wp2_with fail
    refine C.mono ?_
    rintro e w' ⟨rfl, rfl⟩
    go_wp2_with fail
    go_ret
    exact ⟨rfl, rfl⟩
  · rw [if_neg hr2]
    have g1 : (r == 2) = false := by simp [hr2]
    clear hr2
    by_cases hb : 4000 < log.length
    · rw [if_pos hb]
      have g2 : (4000 : Int) < (log.length : Int) := by omega
      go_enter Try.func43, Try.ntmps43
      go_wp2_with fail
      refine C.mono ?_
      rintro e w' ⟨rfl, rfl⟩
      go_wp2_with fail
      go_ret
      exact ⟨rfl, rfl⟩
    · rw [if_neg hb]
      have g2 : decide ((4000 : Int) < (log.length : Int)) = false := decide_eq_false (by omega)
      by_cases hr0 : r = 0
      · subst hr0
        rw [if_neg (by simp)]
        generalize hgoal : (if (log.all fun c => c.all isLit) = false then (1 : Int) else 0) = res
        have RES : Hid _ := hgoal
        have start2 : Hid (CntRel w log.length (fun j => (log.getD j []).all isLit = true) log.length (.int .i64 ((0 : Nat) : Int)) w) := ⟨0, rfl, by omega, rfl, fun j hj => absurd hj (Nat.not_lt_zero _)⟩
        clear hgoal
        go_enter Try.func43, Try.ntmps43
        go_wp2_with fail
        refine C.mono ?_
        rintro e w' ⟨rfl, rfl⟩
        clear C
        go_wp2_with fail
        go_loopg [6] log.length (fun k x4 wq => CntRel w' log.length (fun j => (log.getD j []).all isLit = true) k x4 wq)
        case atStart => exact start2.out
        case round =>
          clear start2
          obtain ⟨j, rfl, hkj, rfl, hall⟩ := hrel
          by_cases hlt : j < log.length
          · obtain ⟨b, o, rfl, _, hc⟩ := liesR_at HH.out hlt
            obtain ⟨A', c', e1, _, hli⟩ := hc j hlt
            have hin := row_ne log [] hlt
            have LI2 := LI.out _ hin _ c' hli
            have NO : Hid ((log.getD j []).all isLit = false → (log.all fun c => c.all isLit) = false) := fun h => all_not log [] (fun c => c.all isLit) hlt h
            have YES : Hid ((log.getD j []).all isLit = true → ∀ q, q < j + 1 → (log.getD q []).all isLit = true) := fun h q hq => by
              rcases Nat.lt_or_ge q j with z | z
              · exact hall q z
              · have : q = j := by omega
                subst this; exact h
            clear hall hc hin hli
            generalize (log.getD j []).all isLit = p at *
            generalize (log.getD j []).length = n at *
            cases p with
            | true =>
              have Y2 : Hid _ := YES.out rfl
              clear YES NO
              go_wp2_with fail
              refine LI2.mono ?_
              rintro e w' ⟨rfl, rfl⟩
              clear LI2
              go_wp2_with fail
              go_roundg (gk - 1)
              case measure => omega
              case rel => exact ⟨j + 1, by go_num, by omega, rfl, Y2.out⟩
            | false =>
              have hF : Hid _ := NO.out rfl
              clear YES NO
              go_wp2_with fail
              refine LI2.mono ?_
              rintro e w' ⟨rfl, rfl⟩
              clear LI2
              go_wp2_with fail
              go_ret
              have hR := RES.out
              rw [if_pos hF.out] at hR
              exact ⟨by rw [← hR]; rfl, rfl⟩
          · have hge3 : decide (j < log.length) = false := decide_eq_false (by omega)
            have hge4 : log.length ≤ j := by omega
            have hT := (all_getD log [] (fun c => c.all isLit)).1 (fun q hq => hall q (by omega))
            have hR := RES.out
            rw [hT, if_neg (by simp)] at hR
            have R3 : Hid _ := hR
            clear hT hall hlt hR RES
            go_wp2_with fail
            go_ret
            exact ⟨by rw [← R3.out]; rfl, rfl⟩
      · rw [if_pos hr0]
        have g3 : (r != 0) = true := by simp [hr0]
        go_enter Try.func43, Try.ntmps43
        go_wp2_with fail
        refine C.mono ?_
        rintro e w' ⟨rfl, rfl⟩
        go_wp2_with fail
        go_ret
        exact ⟨rfl, rfl⟩
end Go.Proofs.Ytdllaphnkbnpoaa
