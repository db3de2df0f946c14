/- Walks over package clause: units. -/
import Derived.Test.YtdllaphnkbnpoaaXd
namespace Go.Proofs.Ytdllaphnkbnpoaa
open Go.RowKit Go.Proofs

/-- The map that has what is told. -/
def bm (now : List Int) : List (Int × Value) := now.map fun x => (x, .bool true)

theorem look_bm : ∀ (now : List Int) (x : Int), (look (bm now) x).getD (.bool false) = .bool (now.contains x)
  | [], x => rfl
  | y :: now, x => by
    show (look ((y, .bool true) :: bm now) x).getD (.bool false) = _
    unfold look
    by_cases h : x = y
    · rw [if_pos h, h]; simp
    · rw [if_neg h, look_bm now x]
      have : (y :: now).contains x = now.contains x := by
        rw [List.contains_cons]; simp [h]
      rw [this]

theorem put_bm : ∀ (now : List Int) (x : Int), putM (bm now) x (.bool true) = bm (if now.contains x = true then now else now ++ [x])
  | [], x => rfl
  | y :: now, x => by
    show putM ((y, .bool true) :: bm now) x (.bool true) = _
    unfold putM
    by_cases h : x = y
    · rw [if_pos h, h]; simp [bm]
    · rw [if_neg h, put_bm now x]
      have : (y :: now).contains x = now.contains x := by
        rw [List.contains_cons]; simp [h]
      rw [this]
      split <;> simp [bm]

theorem zero4 (w : World) : (zeroValue 4).run Try.prog w = .ok (.bool false) w := by kernel_rfl

theorem unit_look {w : World} {mb : Nat} {now : List Int} (h : MapAt w mb (kvs ikey (bm now))) (x : Int) :
    (Instr.lookup 62 (.map (some mb)) (.int .i64 x) false).run Try.prog w = .ok (.bool (now.contains x)) w := by
  have := run_lookup_at (P := Try.prog) keyI (T := 62) (kt := 3) (et := 4) Try.underlying62 Try.underlying3 (zero4 w) h x false
  rw [look_bm] at this
  exact this

theorem unit_put {base : Nat} {w : World} {mb : Nat} {now : List Int} (hb : base ≤ mb) (hw : base ≤ w.heap.size) (h : MapAt w mb (kvs ikey (bm now))) (x : Int) :
    ∃ w', (Instr.mapUpdate 62 (.map (some mb)) (.int .i64 x) (.bool true)).run Try.prog w = .ok () w' ∧ MapAt w' mb (kvs ikey (bm (if now.contains x = true then now else now ++ [x]))) ∧ Below base w w' := by
  obtain ⟨w', h1, h2, h3⟩ := run_update_at (P := Try.prog) keyI (T := 62) (kt := 3) (et := 4) Try.underlying62 Try.underlying3 h x (.bool true)
  rw [put_bm] at h2
  exact ⟨w', h1, h2, (Below.refl base w).grown h3 hw (fun b' hb' => by injection hb' with hb'; omega)⟩

theorem scan_held {now : List Int} : ∀ (xs : List Int) (o : Int) (n : Nat), (scanM now xs o n true).2.2 = true
  | [], _, _ => rfl
  | x :: xs, o, n => by
    unfold scanM
    split
    · exact scan_held xs _ _
    · exact scan_held xs _ _

/-- What units answers. -/
def UnitRes (base : Nat) (w : World) (R : Option (List Int)) (e : Ending) (w' : World) : Prop :=
  Below base w w' ∧ ((R = none ∧ ∃ v, e = .returned (.tuple #[v, .bool false])) ∨
    ∃ now mb, R = some now ∧ e = .returned (.tuple #[.map (some mb), .bool true]) ∧ MapAt w' mb (kvs ikey (bm now)) ∧ base ≤ mb)

def UA (base : Nat) (w : World) (bs : List Int) (mb : Nat) (T : Option (List Int)) (k : Nat) (x20 : Value) (wr : World) : Prop :=
  ∃ (i : Nat) (now : List Int), x20 = .int .i64 (i : Int) ∧ k + i = bs.length ∧ MapAt wr mb (kvs ikey (bm now)) ∧ Below base w wr ∧ Once now ∧ assumeM (bs.drop i) now = T
def UO (base : Nat) (w : World) (D : List (List Int)) (mb : Nat) (R : Option (List Int)) (k : Nat) (x9 : Value) (wr : World) : Prop :=
  ∃ (now : List Int) (ag : Bool), x9 = .bool ag ∧ MapAt wr mb (kvs ikey (bm now)) ∧ Below base w wr ∧ Once now ∧ (ag = true → propM D k now = some R) ∧ (ag = false → R = some now)
def UM (base : Nat) (w : World) (D : List (List Int)) (mb : Nat) (T : Option (List Int × Bool)) (k : Nat) (x9 x35 : Value) (wr : World) : Prop :=
  ∃ (i : Nat) (now : List Int) (ag : Bool), x9 = .bool ag ∧ x35 = .int .i64 (i : Int) ∧ k + i = D.length ∧ MapAt wr mb (kvs ikey (bm now)) ∧ Below base w wr ∧ Once now ∧ passM (D.drop i) now ag = T
def UI (w : World) (c now : List Int) (T : Int × Nat × Bool) (k : Nat) (x12 x13 x14 x41 : Value) (wr : World) : Prop :=
  ∃ (j : Nat) (o : Int) (n : Nat) (h : Bool), x12 = .int .i64 o ∧ x13 = .int .i64 (n : Int) ∧ x14 = .bool h ∧ x41 = .int .i64 (j : Int) ∧ k + j = c.length ∧ wr = w ∧ n ≤ j ∧ (h = true → T.2.2 = true) ∧ (h = false → scanM now (c.drop j) o n false = T)

set_option maxRecDepth 100000 in
set_option maxHeartbeats 4000000 in
theorem units_any {base : Nat} {w : World} (hbase : base ≤ w.heap.size) {A A2 : Option Addr} {D : List (List Int)} {bs : List Int} {cc c2 : Nat} {R : Option (List Int)} (hA : LiesR base w A D) (hA2 : Lies base w A2 bs)
    (hD : D.length ≤ 60000) (hc : ∀ e ∈ D, e.length ≤ 60000) (hbs : bs.length ≤ 60000) (hl : ∀ e ∈ D, ∀ x ∈ e, x ≠ 0 ∧ x.natAbs ≤ 200) (hl2 : ∀ x ∈ bs, x ≠ 0 ∧ x.natAbs ≤ 200) (hR : propagateM D bs = some R) :
    Calls Try.prog 51 #[.slice A D.length cc, .slice A2 bs.length c2] w (UnitRes base w R) := by
  have M0 : MapAt (w.alloc (.map #[] 0)) w.heap.size (kvs ikey (bm [])) := ⟨#[], 0, alloc_at _ _, rfl⟩
  have BA : Below base w (w.alloc (.map #[] 0)) := (Below.refl _ _).alloc hbase _
  have start : Hid (UA base w bs w.heap.size (assumeM bs []) bs.length (.int .i64 ((0 : Nat) : Int)) (w.alloc (.map #[] 0))) := ⟨0, [], rfl, rfl, M0, BA, ⟨by simp, by simp⟩, by simp⟩
  have LA : Hid _ := hA
  have LA2 : Hid _ := hA2
  have LC : Hid _ := hc
  have LL : Hid _ := hl
  have LL2 : Hid _ := hl2
  have HB : Hid _ := hbase
  unfold propagateM at hR
  generalize assumeM bs [] = TT at *
  have HR : Hid _ := hR
  clear M0 BA hA hA2 hc hl hl2 hR
  obtain ⟨mb, hmb⟩ : ∃ mb, mb = w.heap.size := ⟨_, rfl⟩
  rw [← hmb] at start
  have MB : Hid (base ≤ mb) := by rw [hmb]; exact hbase
  have MBE : Hid _ := hmb
  clear hmb hbase
  go_enter Try.func51, Try.ntmps51
  go_wp2_with fail
  simp only [run_makeMap]
  go_wp2_with fail
  rw [← MBE.out]
  clear MBE
  go_loopg [20] bs.length (fun k x20 wr => UA base w bs mb TT k x20 wr)
  case atStart => exact start.out
  case round =>
    clear start
    obtain ⟨i, now, rfl, hki, M, B, HO, hT⟩ := hrel
    have hbz : base ≤ wr.heap.size := Nat.le_trans HB.out B.size
    by_cases hlt : i < bs.length
    · obtain ⟨b, o, rfl, hbb, hcell⟩ := lies_at (Lies.below LA2.out B) hlt
      have ei := hcell i hlt
      have hd : bs.drop i = bs.getD i 0 :: bs.drop (i + 1) := by
        rw [List.drop_eq_getElem_cons hlt]; simp [hlt]
      have hx := LL2.out (bs.getD i 0) (row_ne bs 0 hlt)
      rw [hd] at hT
      generalize bs.getD i 0 = x at *
      have hx1 : -60000 ≤ x := by omega
      have hx2 : x ≤ 60000 := by omega
      have r1 := unit_look M (-x)
      obtain ⟨w9, hrun, M9, B9⟩ := unit_put MB.out hbz M x
      unfold assumeM at hT
      have SN : Hid (now.contains (-x) = false → Once (if now.contains x = true then now else now ++ [x])) := fun h1 => by
        split
        · exact HO
        · rename_i q; exact once_snoc HO (by simpa using q) (by simpa using h1) hx.2
      have HT : Hid _ := hT
      have M9H : Hid _ := M9
      have BH : Hid _ := B
      have B9H : Hid _ := B.trans B9
      clear hd hcell HO hT B hx M M9 B9
      cases hp : now.contains (-x) with
      | true =>
        rw [hp] at r1
        have RN : Hid (R = none) := by
          have h1 := HT.out
          have h2 := HR.out
          rw [if_pos hp] at h1
          rw [← h1] at h2
          injection h2 with h2
          exact h2.symm
        clear hp hrun
        go_wp2_with fail
        go_ret2
        exact ⟨BH.out, .inl ⟨RN.out, _, rfl⟩⟩
      | false =>
        rw [hp] at r1
        have HT2 : Hid _ := HT.out
        have SN2 : Hid _ := SN.out hp
        have HT3 := HT.out
        rw [if_neg (by rw [hp]; simp)] at HT3
        have HT4 : Hid _ := HT3
        clear hp HT HT2 HT3 SN
        generalize (if now.contains x = true then now else now ++ [x]) = now2 at *
        go_wp2_with fail
        go_roundg (gk - 1)
        case measure => omega
        case rel => exact ⟨i + 1, now2, by go_num, by omega, M9H.out, B9H.out, SN2.out, HT4.out⟩
    · have hnil : bs.drop i = [] := List.drop_eq_nil_of_le (by omega)
      have hge : decide (i < bs.length) = false := decide_eq_false (by omega)
      have hge2 : bs.length ≤ i := by omega
      rw [hnil] at hT
      unfold assumeM at hT
      subst hT
      have HR2 := HR.out
      simp only at HR2
      have start2 : Hid (UO base w D mb R 300 (.bool true) wr) := ⟨now, true, rfl, M, B, HO, fun _ => HR2, fun h => (by cases h)⟩
      clear hlt hnil M B HO HR HR2
      go_wp2_with fail
      go_loopg [9] 300 (fun k x9 w' => UO base w D mb R k x9 w')
      case atStart => exact start2.out
      case round =>
        clear start2
        obtain ⟨now, ag, rfl, M, B, HO, hT, hF⟩ := hrel
        cases ag with
        | false =>
          have MH : Hid _ := M
          have BH : Hid _ := B
          have RH : Hid _ := hF rfl
          clear M B HO hT hF
          go_wp2_with fail
          go_ret2
          exact ⟨BH.out, .inr ⟨now, mb, RH.out, rfl, MH.out, MB.out⟩⟩
        | true =>
          have hP := hT rfl
          cases gk with
          | zero => unfold propM at hP; cases hP
          | succ m =>
            unfold propM at hP
            have start3 : Hid (UM base w D mb (passM D now false) D.length (.bool false) (.int .i64 ((0 : Nat) : Int)) _) := ⟨0, now, false, rfl, rfl, rfl, M, B, HO, by simp⟩
            generalize passM D now false = T at *
            have HP : Hid _ := hP
            clear M B HO hT hF hP
            go_wp2_with fail
            go_loopg [9, 35] D.length (fun k x9 x35 w' => UM base w D mb T k x9 x35 w')
            case atStart => exact start3.out
            case round =>
              clear start3
              obtain ⟨i, now, ag, rfl, rfl, hki, M, B, HO, hT⟩ := hrel
              by_cases hlt : i < D.length
              · obtain ⟨m2, rfl⟩ : ∃ m2, gk = m2 + 1 := ⟨gk - 1, by omega⟩
                obtain ⟨b, o, rfl, hbb, hcell⟩ := liesR_at (LiesR.below LA.out B) hlt
                obtain ⟨A', c', ei, hc', hli⟩ := hcell i hlt
                have hd : D.drop i = D.getD i [] :: D.drop (i + 1) := by
                  rw [List.drop_eq_getElem_cons hlt]; simp [hlt]
                have hcl := LC.out _ (row_ne D [] hlt)
                have hll := LL.out _ (row_ne D [] hlt)
                rw [hd] at hT
                unfold passM at hT
                generalize D.getD i [] = c at *
                have PO := fun t ht q n0 => push_once (now := now) (c := c) hll HO (t := t) ht q n0
                have IS := scan_all (now := now) (c := c) (fun x hx => (hll x hx).1)
                have hbz : base ≤ _ := Nat.le_trans HB.out B.size
                have start4 : Hid (UI wr c now (scanM now c 0 0 false) c.length (.int .i64 0) (.int .i64 ((0 : Nat) : Int)) (.bool false) (.int .i64 ((0 : Nat) : Int)) wr) := ⟨0, 0, 0, false, rfl, rfl, rfl, rfl, rfl, rfl, Nat.le_refl _, fun h => (by cases h), fun _ => by simp⟩
                generalize scanM now c 0 0 false = T4 at *
                have FIN1 : Hid (T4.2.2 = true ∨ 1 < T4.2.1 → passM (D.drop (i + 1)) now ag = T) := fun h => by rw [if_pos h] at hT; exact hT
                have FIN2 : Hid (¬ (T4.2.2 = true ∨ 1 < T4.2.1) → T4.2.1 = 0 → R = none) := fun h h0 => by
                  rw [if_neg h, if_pos h0] at hT
                  have hP := HP.out
                  rw [← hT] at hP
                  injection hP with hP
                  exact hP.symm
                have FIN3 : Hid (¬ (T4.2.2 = true ∨ 1 < T4.2.1) → T4.2.1 ≠ 0 → passM (D.drop (i + 1)) (now ++ [T4.1]) true = T ∧ Once (now ++ [T4.1]) ∧ now.contains T4.1 = false) := fun h h0 =>
                  ⟨by rw [if_neg h, if_neg h0] at hT; exact hT, PO T4 rfl h h0, by
                    cases e : now.contains T4.1 with
                    | false => rfl
                    | true => exact absurd (.inl (IS.held.2 ⟨_, (IS.open_ (by omega)).1, by simpa using e⟩)) h⟩
                have LI : Hid _ := hli
                have MH : Hid _ := M
                have BH : Hid _ := B
                have OH : Hid _ := HO
                have LH : Hid _ := hll
                clear M B HO hT hd hcell hli hll PO IS
                go_wp2_with fail
                go_loopg [12, 13, 14, 41] c.length (fun k x12 x13 x14 x41 w' => UI wr c now T4 k x12 x13 x14 x41 w')
                case atStart => exact start4.out
                case round =>
                  clear start4
                  obtain ⟨j, op, n, h, rfl, rfl, rfl, rfl, hkj, rfl, hnj, hT, hF⟩ := hrel
                  by_cases hlt2 : j < c.length
                  · obtain ⟨b2, o2, rfl, _, hc2⟩ := lies_at LI.out hlt2
                    have e2 := hc2 j hlt2
                    have hd2 : c.drop j = c.getD j 0 :: c.drop (j + 1) := by
                      rw [List.drop_eq_getElem_cons hlt2]; simp [hlt2]
                    have hx := LH.out _ (row_ne c 0 hlt2)
                    rw [hd2] at hF
                    unfold scanM at hF
                    generalize c.getD j 0 = x at *
                    have r1 := unit_look MH.out x
                    have r2 := unit_look MH.out (-x)
                    have hx1 : -60000 ≤ x := by omega
                    have hx2 : x ≤ 60000 := by omega
                    clear hd2 hc2 hx
                    cases h with
                    | true =>
                      have XT : Hid _ := hT rfl
                      clear hT
                      cases hp : now.contains x with
                      | true =>
                        rw [hp] at r1
                        clear hp hF
                        go_wp2_with fail
                        go_roundg (gk - 1)
                        case measure => omega
                        case rel => exact ⟨j + 1, op, n, true, rfl, by go_num, rfl, by go_num, by omega, rfl, by omega, fun _ => XT.out, fun h => (by cases h)⟩
                      | false =>
                        rw [hp] at r1
                        cases hq : now.contains (-x) with
                        | true =>
                          rw [hq] at r2
                          clear hp hq hF
                          go_wp2_with fail
                          go_roundg (gk - 1)
                          case measure => omega
                          case rel => exact ⟨j + 1, op, n, true, rfl, by go_num, rfl, by go_num, by omega, rfl, by omega, fun _ => XT.out, fun h => (by cases h)⟩
                        | false =>
                          rw [hq] at r2
                          by_cases hxo : x = op
                          · have g1 : (x != op) = false := by simp [hxo]
                            clear hp hq hxo hF
                            go_wp2_with fail
                            go_roundg (gk - 1)
                            case measure => omega
                            case rel => exact ⟨j + 1, op, n, true, rfl, by go_num, rfl, by go_num, by omega, rfl, by omega, fun _ => XT.out, fun h => (by cases h)⟩
                          · have g1 : (x != op) = true := by simp [hxo]
                            clear hp hq hxo hF
                            go_wp2_with fail
                            go_roundg (gk - 1)
                            case measure => omega
                            case rel => exact ⟨j + 1, x, n + 1, true, rfl, by go_num, rfl, by go_num, by omega, rfl, by omega, fun _ => XT.out, fun h => (by cases h)⟩
                    | false =>
                      clear hT
                      cases hp : now.contains x with
                      | true =>
                        rw [hp] at r1
                        have XT : Hid (T4.2.2 = true) := by
                          have hF := hF rfl
                          rw [hp] at hF
                          rw [← hF]
                          split
                          · exact scan_held _ _ _
                          · exact scan_held _ _ _
                        clear hp hF
                        go_wp2_with fail
                        go_roundg (gk - 1)
                        case measure => omega
                        case rel => exact ⟨j + 1, op, n, true, rfl, by go_num, rfl, by go_num, by omega, rfl, by omega, fun _ => XT.out, fun h => (by cases h)⟩
                      | false =>
                        rw [hp] at r1
                        have hF := hF rfl
                        rw [hp] at hF
                        cases hq : now.contains (-x) with
                        | true =>
                          rw [hq] at r2
                          rw [if_neg (by rw [hq]; simp)] at hF
                          have FH : Hid _ := hF
                          clear hp hq hF
                          go_wp2_with fail
                          go_roundg (gk - 1)
                          case measure => omega
                          case rel => exact ⟨j + 1, op, n, false, rfl, by go_num, rfl, by go_num, by omega, rfl, by omega, fun h => (by cases h), fun _ => by have := FH.out; simpa using this⟩
                        | false =>
                          rw [hq] at r2
                          by_cases hxo : x = op
                          · have g1 : (x != op) = false := by simp [hxo]
                            rw [if_neg (fun z => z.2 hxo)] at hF
                            have FH : Hid _ := hF
                            clear hp hq hxo hF
                            go_wp2_with fail
                            go_roundg (gk - 1)
                            case measure => omega
                            case rel => exact ⟨j + 1, op, n, false, rfl, by go_num, rfl, by go_num, by omega, rfl, by omega, fun h => (by cases h), fun _ => by have := FH.out; simpa using this⟩
                          · have g1 : (x != op) = true := by simp [hxo]
                            rw [if_pos ⟨hq, hxo⟩] at hF
                            have FH : Hid _ := hF
                            clear hp hq hxo hF
                            go_wp2_with fail
                            go_roundg (gk - 1)
                            case measure => omega
                            case rel => exact ⟨j + 1, x, n + 1, false, rfl, by go_num, rfl, by go_num, by omega, rfl, by omega, fun h => (by cases h), fun _ => by have := FH.out; simpa using this⟩
                  · have hnil : c.drop j = [] := List.drop_eq_nil_of_le (by omega)
                    have hge : decide (j < c.length) = false := decide_eq_false (by omega)
                    have hge2 : c.length ≤ j := by omega
                    rw [hnil] at hF
                    cases h with
                    | true =>
                      have TT : Hid _ := FIN1.out (.inl (hT rfl))
                      clear FIN1 FIN2 FIN3 hT hF hnil hlt2
                      go_wp2_with fail
                      go_roundg m2
                      case measure => omega
                      case rel => exact ⟨i + 1, now, ag, rfl, by go_num, by omega, MH.out, BH.out, OH.out, TT.out⟩
                    | false =>
                      have hF := hF rfl
                      unfold scanM at hF
                      subst hF
                      have F1 := FIN1.out
                      have F2 := FIN2.out
                      have F3 := FIN3.out
                      simp only at F1 F2 F3
                      clear FIN1 FIN2 FIN3 hT hnil hlt2
                      rcases Nat.lt_or_ge 1 n with hn2 | hn2
                      · have TT : Hid _ := F1 (.inr hn2)
                        have g1 : ((n : Int) == 0) = false := by simp; omega
                        have g2 : ((n : Int) == 1) = false := by simp; omega
                        clear F1 F2 F3 hn2
                        go_wp2_with fail
                        go_roundg m2
                        case measure => omega
                        case rel => exact ⟨i + 1, now, ag, rfl, by go_num, by omega, MH.out, BH.out, OH.out, TT.out⟩
                      · rcases Nat.eq_zero_or_pos n with hn0 | hn0
                        · subst hn0
                          have RN : Hid _ := F2 (by simp) rfl
                          clear F1 F2 F3 hn2
                          go_wp2_with fail
                          go_ret2
                          exact ⟨BH.out, .inl ⟨RN.out, _, rfl⟩⟩
                        · obtain rfl : n = 1 := by omega
                          obtain ⟨f1, f2, f3⟩ := F3 (by simp) (by omega)
                          obtain ⟨w9, hrun, M9, B9⟩ := unit_put MB.out hbz MH.out op
                          rw [if_neg (by rw [f3]; simp)] at M9
                          have M9H : Hid _ := M9
                          have B9H : Hid _ := BH.out.trans B9
                          have TT : Hid _ := f1
                          have O9 : Hid _ := f2
                          clear F1 F2 F3 hn2 f1 f2 f3 M9 B9
                          go_wp2_with fail
                          go_roundg m2
                          case measure => omega
                          case rel => exact ⟨i + 1, now ++ [op], true, rfl, by go_num, by omega, M9H.out, B9H.out, O9.out, TT.out⟩
              · have hnil : D.drop i = [] := List.drop_eq_nil_of_le (by omega)
                have hge : decide (i < D.length) = false := decide_eq_false (by omega)
                have hge2 : D.length ≤ i := by omega
                rw [hnil] at hT
                unfold passM at hT
                subst hT
                have HP2 := HP.out
                have MH : Hid _ := M
                have BH : Hid _ := B
                have OH : Hid _ := HO
                cases ag with
                | true =>
                  have P3 : Hid (propM D m now = some R) := HP2
                  clear hlt hnil M B HO HP HP2
                  go_wp2_with fail
                  go_roundg m
                  case measure => omega
                  case rel => exact ⟨now, true, rfl, MH.out, BH.out, OH.out, fun _ => P3.out, fun h => by cases h⟩
                | false =>
                  have P3 : Hid (R = some now) := by injection HP2 with h; exact h.symm
                  clear hlt hnil M B HO HP HP2
                  go_wp2_with fail
                  go_roundg m
                  case measure => omega
                  case rel => exact ⟨now, false, rfl, MH.out, BH.out, OH.out, fun h => (by cases h), fun _ => P3.out⟩
end Go.Proofs.Ytdllaphnkbnpoaa
