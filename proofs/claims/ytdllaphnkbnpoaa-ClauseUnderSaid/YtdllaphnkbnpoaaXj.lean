/- Walks over package clause: units. Walks over package clause: follows, a clone of rows, the index of a log's first clause that does not come, whether a log refutes. -/
import Derived.Test.YtdllaphnkbnpoaaXe
import Derived.Test.YtdllaphnkbnpoaaXf
import Derived.Test.YtdllaphnkbnpoaaXa
namespace Go.Proofs.Ytdllaphnkbnpoaa
open Go.RowKit Go.Proofs

/-- The map that has what is told. -/
def bm (now : List Int) : List (Int × Value) := now.map fun x => (x, .bool true)

theorem look_bm : ∀ (now : List Int) (x : Int), (look (bm now) x).getD (.bool false) = .bool (now.contains x)
  | [], x => rfl
  | y :: now, x => by
    show (look ((y, .bool true) :: bm now) x).getD (.bool false) = _
    unfold look
    by_cases h : x = y
    · rw [if_pos h, h]; simp
    · rw [if_neg h, look_bm now x]
      have : (y :: now).contains x = now.contains x := by
        rw [List.contains_cons]; simp [h]
      rw [this]

theorem put_bm : ∀ (now : List Int) (x : Int), putM (bm now) x (.bool true) = bm (if now.contains x = true then now else now ++ [x])
  | [], x => rfl
  | y :: now, x => by
    show putM ((y, .bool true) :: bm now) x (.bool true) = _
    unfold putM
    by_cases h : x = y
    · rw [if_pos h, h]; simp [bm]
    · rw [if_neg h, put_bm now x]
      have : (y :: now).contains x = now.contains x := by
        rw [List.contains_cons]; simp [h]
      rw [this]
      split <;> simp [bm]

theorem zero4 (w : World) : (zeroValue 4).run Try.prog w = .ok (.bool false) w := by kernel_rfl

theorem unit_look {w : World} {mb : Nat} {now : List Int} (h : MapAt w mb (kvs ikey (bm now))) (x : Int) :
    (Instr.lookup 62 (.map (some mb)) (.int .i64 x) false).run Try.prog w = .ok (.bool (now.contains x)) w := by
  have := run_lookup_at (P := Try.prog) keyI (T := 62) (kt := 3) (et := 4) Try.underlying62 Try.underlying3 (zero4 w) h x false
  rw [look_bm] at this
  exact this

theorem unit_put {base : Nat} {w : World} {mb : Nat} {now : List Int} (hb : base ≤ mb) (hw : base ≤ w.heap.size) (h : MapAt w mb (kvs ikey (bm now))) (x : Int) :
    ∃ w', (Instr.mapUpdate 62 (.map (some mb)) (.int .i64 x) (.bool true)).run Try.prog w = .ok () w' ∧ MapAt w' mb (kvs ikey (bm (if now.contains x = true then now else now ++ [x]))) ∧ Below base w w' := by
  obtain ⟨w', h1, h2, h3⟩ := run_update_at (P := Try.prog) keyI (T := 62) (kt := 3) (et := 4) Try.underlying62 Try.underlying3 h x (.bool true)
  rw [put_bm] at h2
  exact ⟨w', h1, h2, (Below.refl base w).grown h3 hw (fun b' hb' => by injection hb' with hb'; omega)⟩

theorem scan_held {now : List Int} : ∀ (xs : List Int) (o : Int) (n : Nat), (scanM now xs o n true).2.2 = true
  | [], _, _ => rfl
  | x :: xs, o, n => by
    unfold scanM
    split
    · exact scan_held xs _ _
    · exact scan_held xs _ _

/-- What units answers. -/
def UnitRes (base : Nat) (w : World) (R : Option (List Int)) (e : Ending) (w' : World) : Prop :=
  Below base w w' ∧ ((R = none ∧ ∃ v, e = .returned (.tuple #[v, .bool false])) ∨
    ∃ now mb, R = some now ∧ e = .returned (.tuple #[.map (some mb), .bool true]) ∧ MapAt w' mb (kvs ikey (bm now)) ∧ base ≤ mb)

def UA (base : Nat) (w : World) (bs : List Int) (mb : Nat) (T : Option (List Int)) (k : Nat) (x20 : Value) (wr : World) : Prop :=
  ∃ (i : Nat) (now : List Int), x20 = .int .i64 (i : Int) ∧ k + i = bs.length ∧ MapAt wr mb (kvs ikey (bm now)) ∧ Below base w wr ∧ Once now ∧ assumeM (bs.drop i) now = T
def UO (base : Nat) (w : World) (D : List (List Int)) (mb : Nat) (R : Option (List Int)) (k : Nat) (x9 : Value) (wr : World) : Prop :=
  ∃ (now : List Int) (ag : Bool), x9 = .bool ag ∧ MapAt wr mb (kvs ikey (bm now)) ∧ Below base w wr ∧ Once now ∧ (ag = true → propM D k now = some R) ∧ (ag = false → R = some now)
def UM (base : Nat) (w : World) (D : List (List Int)) (mb : Nat) (T : Option (List Int × Bool)) (k : Nat) (x9 x35 : Value) (wr : World) : Prop :=
  ∃ (i : Nat) (now : List Int) (ag : Bool), x9 = .bool ag ∧ x35 = .int .i64 (i : Int) ∧ k + i = D.length ∧ MapAt wr mb (kvs ikey (bm now)) ∧ Below base w wr ∧ Once now ∧ passM (D.drop i) now ag = T
def UI (w : World) (c now : List Int) (T : Int × Nat × Bool) (k : Nat) (x12 x13 x14 x41 : Value) (wr : World) : Prop :=
  ∃ (j : Nat) (o : Int) (n : Nat) (h : Bool), x12 = .int .i64 o ∧ x13 = .int .i64 (n : Int) ∧ x14 = .bool h ∧ x41 = .int .i64 (j : Int) ∧ k + j = c.length ∧ wr = w ∧ n ≤ j ∧ (h = true → T.2.2 = true) ∧ (h = false → scanM now (c.drop j) o n false = T)

set_option maxRecDepth 100000 in
set_option maxHeartbeats 4000000 in
theorem units_any {base : Nat} {w : World} (hbase : base ≤ w.heap.size) {A A2 : Option Addr} {D : List (List Int)} {bs : List Int} {cc c2 : Nat} {R : Option (List Int)} (hA : LiesR base w A D) (hA2 : Lies base w A2 bs)
    (hD : D.length ≤ 60000) (hc : ∀ e ∈ D, e.length ≤ 60000) (hbs : bs.length ≤ 60000) (hl : ∀ e ∈ D, ∀ x ∈ e, x ≠ 0 ∧ x.natAbs ≤ 200) (hl2 : ∀ x ∈ bs, x ≠ 0 ∧ x.natAbs ≤ 200) (hR : propagateM D bs = some R) :
    Calls Try.prog 51 #[.slice A D.length cc, .slice A2 bs.length c2] w (UnitRes base w R) := by
  have M0 : MapAt (w.alloc (.map #[] 0)) w.heap.size (kvs ikey (bm [])) := ⟨#[], 0, alloc_at _ _, rfl⟩
  have BA : Below base w (w.alloc (.map #[] 0)) := (Below.refl _ _).alloc hbase _
  have start : Hid (UA base w bs w.heap.size (assumeM bs []) bs.length (.int .i64 ((0 : Nat) : Int)) (w.alloc (.map #[] 0))) := ⟨0, [], rfl, rfl, M0, BA, ⟨by simp, by simp⟩, by simp⟩
  have LA : Hid _ := hA
  have LA2 : Hid _ := hA2
  have LC : Hid _ := hc
  have LL : Hid _ := hl
  have LL2 : Hid _ := hl2
  have HB : Hid _ := hbase
  unfold propagateM at hR
  generalize assumeM bs [] = TT at *
  have HR : Hid _ := hR
  clear M0 BA hA hA2 hc hl hl2 hR
  obtain ⟨mb, hmb⟩ : ∃ mb, mb = w.heap.size := ⟨_, rfl⟩
  rw [← hmb] at start
  have MB : Hid (base ≤ mb) := by rw [hmb]; exact hbase
  have MBE : Hid _ := hmb
  clear hmb hbase
  go_enter Try.func51, Try.ntmps51
  go_wp2_with fail
  simp only [run_makeMap]
  go_wp2_with fail
  rw [← MBE.out]
  clear MBE
  go_loopg [20] bs.length (fun k x20 wr => UA base w bs mb TT k x20 wr)
  case atStart => exact start.out
  case round =>
    clear start
    obtain ⟨i, now, rfl, hki, M, B, HO, hT⟩ := hrel
    have hbz : base ≤ wr.heap.size := Nat.le_trans HB.out B.size
    by_cases hlt : i < bs.length
    · obtain ⟨b, o, rfl, hbb, hcell⟩ := lies_at (Lies.below LA2.out B) hlt
      have ei := hcell i hlt
      have hd : bs.drop i = bs.getD i 0 :: bs.drop (i + 1) := by
        rw [List.drop_eq_getElem_cons hlt]; simp [hlt]
      have hx := LL2.out (bs.getD i 0) (row_ne bs 0 hlt)
      rw [hd] at hT
      generalize bs.getD i 0 = x at *
      have hx1 : -60000 ≤ x := by omega
      have hx2 : x ≤ 60000 := by omega
      have r1 := unit_look M (-x)
      obtain ⟨w9, hrun, M9, B9⟩ := unit_put MB.out hbz M x
      unfold assumeM at hT
      have SN : Hid (now.contains (-x) = false → Once (if now.contains x = true then now else now ++ [x])) := fun h1 => by
        split
        · exact HO
        · rename_i q; exact once_snoc HO (by simpa using q) (by simpa using h1) hx.2
      have HT : Hid _ := hT
      have M9H : Hid _ := M9
      have BH : Hid _ := B
      have B9H : Hid _ := B.trans B9
      clear hd hcell HO hT B hx M M9 B9
      cases hp : now.contains (-x) with
      | true =>
        rw [hp] at r1
        have RN : Hid (R = none) := by
          have h1 := HT.out
          have h2 := HR.out
          rw [if_pos hp] at h1
          rw [← h1] at h2
          injection h2 with h2
          exact h2.symm
        clear hp hrun
        go_wp2_with fail
        go_ret2
        exact ⟨BH.out, .inl ⟨RN.out, _, rfl⟩⟩
      | false =>
        rw [hp] at r1
        have HT2 : Hid _ := HT.out
        have SN2 : Hid _ := SN.out hp
        have HT3 := HT.out
        rw [if_neg (by rw [hp]; simp)] at HT3
        have HT4 : Hid _ := HT3
        clear hp HT HT2 HT3 SN
        generalize (if now.contains x = true then now else now ++ [x]) = now2 at *
        go_wp2_with fail
        go_roundg (gk - 1)
        case measure => omega
        case rel => exact ⟨i + 1, now2, by go_num, by omega, M9H.out, B9H.out, SN2.out, HT4.out⟩
    · have hnil : bs.drop i = [] := List.drop_eq_nil_of_le (by omega)
      have hge : decide (i < bs.length) = false := decide_eq_false (by omega)
      have hge2 : bs.length ≤ i := by omega
      rw [hnil] at hT
      unfold assumeM at hT
      subst hT
      have HR2 := HR.out
      simp only at HR2
      have start2 : Hid (UO base w D mb R 300 (.bool true) wr) := ⟨now, true, rfl, M, B, HO, fun _ => HR2, fun h => (by cases h)⟩
      clear hlt hnil M B HO HR HR2
      go_wp2_with fail
      go_loopg [9] 300 (fun k x9 w' => UO base w D mb R k x9 w')
      case atStart => exact start2.out
      case round =>
        clear start2
        obtain ⟨now, ag, rfl, M, B, HO, hT, hF⟩ := hrel
        cases ag with
        | false =>
          have MH : Hid _ := M
          have BH : Hid _ := B
          have RH : Hid _ := hF rfl
          clear M B HO hT hF
          go_wp2_with fail
          go_ret2
          exact ⟨BH.out, .inr ⟨now, mb, RH.out, rfl, MH.out, MB.out⟩⟩
        | true =>
          have hP := hT rfl
          cases gk with
          | zero => unfold propM at hP; cases hP
          | succ m =>
            unfold propM at hP
            have start3 : Hid (UM base w D mb (passM D now false) D.length (.bool false) (.int .i64 ((0 : Nat) : Int)) _) := ⟨0, now, false, rfl, rfl, rfl, M, B, HO, by simp⟩
            generalize passM D now false = T at *
            have HP : Hid _ := hP
            clear M B HO hT hF hP
            go_wp2_with fail
            go_loopg [9, 35] D.length (fun k x9 x35 w' => UM base w D mb T k x9 x35 w')
            case atStart => exact start3.out
            case round =>
              clear start3
              obtain ⟨i, now, ag, rfl, rfl, hki, M, B, HO, hT⟩ := hrel
              by_cases hlt : i < D.length
              · obtain ⟨m2, rfl⟩ : ∃ m2, gk = m2 + 1 := ⟨gk - 1, by omega⟩
                obtain ⟨b, o, rfl, hbb, hcell⟩ := liesR_at (LiesR.below LA.out B) hlt
                obtain ⟨A', c', ei, hc', hli⟩ := hcell i hlt
                have hd : D.drop i = D.getD i [] :: D.drop (i + 1) := by
                  rw [List.drop_eq_getElem_cons hlt]; simp [hlt]
                have hcl := LC.out _ (row_ne D [] hlt)
                have hll := LL.out _ (row_ne D [] hlt)
                rw [hd] at hT
                unfold passM at hT
                generalize D.getD i [] = c at *
                have PO := fun t ht q n0 => push_once (now := now) (c := c) hll HO (t := t) ht q n0
                have IS := scan_all (now := now) (c := c) (fun x hx => (hll x hx).1)
                have hbz : base ≤ _ := Nat.le_trans HB.out B.size
                have start4 : Hid (UI wr c now (scanM now c 0 0 false) c.length (.int .i64 0) (.int .i64 ((0 : Nat) : Int)) (.bool false) (.int .i64 ((0 : Nat) : Int)) wr) := ⟨0, 0, 0, false, rfl, rfl, rfl, rfl, rfl, rfl, Nat.le_refl _, fun h => (by cases h), fun _ => by simp⟩
                generalize scanM now c 0 0 false = T4 at *
                have FIN1 : Hid (T4.2.2 = true ∨ 1 < T4.2.1 → passM (D.drop (i + 1)) now ag = T) := fun h => by rw [if_pos h] at hT; exact hT
                have FIN2 : Hid (¬ (T4.2.2 = true ∨ 1 < T4.2.1) → T4.2.1 = 0 → R = none) := fun h h0 => by
                  rw [if_neg h, if_pos h0] at hT
                  have hP := HP.out
                  rw [← hT] at hP
                  injection hP with hP
                  exact hP.symm
                have FIN3 : Hid (¬ (T4.2.2 = true ∨ 1 < T4.2.1) → T4.2.1 ≠ 0 → passM (D.drop (i + 1)) (now ++ [T4.1]) true = T ∧ Once (now ++ [T4.1]) ∧ now.contains T4.1 = false) := fun h h0 =>
                  ⟨by rw [if_neg h, if_neg h0] at hT; exact hT, PO T4 rfl h h0, by
                    cases e : now.contains T4.1 with
                    | false => rfl
                    | true => exact absurd (.inl (IS.held.2 ⟨_, (IS.open_ (by omega)).1, by simpa using e⟩)) h⟩
                have LI : Hid _ := hli
                have MH : Hid _ := M
                have BH : Hid _ := B
                have OH : Hid _ := HO
                have LH : Hid _ := hll
                clear M B HO hT hd hcell hli hll PO IS
                go_wp2_with fail
                go_loopg [12, 13, 14, 41] c.length (fun k x12 x13 x14 x41 w' => UI wr c now T4 k x12 x13 x14 x41 w')
                case atStart => exact start4.out
                case round =>
                  clear start4
                  obtain ⟨j, op, n, h, rfl, rfl, rfl, rfl, hkj, rfl, hnj, hT, hF⟩ := hrel
                  by_cases hlt2 : j < c.length
                  · obtain ⟨b2, o2, rfl, _, hc2⟩ := lies_at LI.out hlt2
                    have e2 := hc2 j hlt2
                    have hd2 : c.drop j = c.getD j 0 :: c.drop (j + 1) := by
                      rw [List.drop_eq_getElem_cons hlt2]; simp [hlt2]
                    have hx := LH.out _ (row_ne c 0 hlt2)
                    rw [hd2] at hF
                    unfold scanM at hF
                    generalize c.getD j 0 = x at *
                    have r1 := unit_look MH.out x
                    have r2 := unit_look MH.out (-x)
                    have hx1 : -60000 ≤ x := by omega
                    have hx2 : x ≤ 60000 := by omega
                    clear hd2 hc2 hx
                    cases h with
                    | true =>
                      have XT : Hid _ := hT rfl
                      clear hT
                      cases hp : now.contains x with
                      | true =>
                        rw [hp] at r1
                        clear hp hF
                        go_wp2_with fail
                        go_roundg (gk - 1)
                        case measure => omega
                        case rel => exact ⟨j + 1, op, n, true, rfl, by go_num, rfl, by go_num, by omega, rfl, by omega, fun _ => XT.out, fun h => (by cases h)⟩
                      | false =>
                        rw [hp] at r1
                        cases hq : now.contains (-x) with
                        | true =>
                          rw [hq] at r2
                          clear hp hq hF
                          go_wp2_with fail
                          go_roundg (gk - 1)
                          case measure => omega
                          case rel => exact ⟨j + 1, op, n, true, rfl, by go_num, rfl, by go_num, by omega, rfl, by omega, fun _ => XT.out, fun h => (by cases h)⟩
                        | false =>
                          rw [hq] at r2
                          by_cases hxo : x = op
                          · have g1 : (x != op) = false := by simp [hxo]
                            clear hp hq hxo hF
                            go_wp2_with fail
                            go_roundg (gk - 1)
                            case measure => omega
                            case rel => exact ⟨j + 1, op, n, true, rfl, by go_num, rfl, by go_num, by omega, rfl, by omega, fun _ => XT.out, fun h => (by cases h)⟩
                          · have g1 : (x != op) = true := by simp [hxo]
                            clear hp hq hxo hF
                            go_wp2_with fail
                            go_roundg (gk - 1)
                            case measure => omega
                            case rel => exact ⟨j + 1, x, n + 1, true, rfl, by go_num, rfl, by go_num, by omega, rfl, by omega, fun _ => XT.out, fun h => (by cases h)⟩
                    | false =>
                      clear hT
                      cases hp : now.contains x with
                      | true =>
                        rw [hp] at r1
                        have XT : Hid (T4.2.2 = true) := by
                          have hF := hF rfl
                          rw [hp] at hF
                          rw [← hF]
                          split
                          · exact scan_held _ _ _
                          · exact scan_held _ _ _
                        clear hp hF
                        go_wp2_with fail
                        go_roundg (gk - 1)
                        case measure => omega
                        case rel => exact ⟨j + 1, op, n, true, rfl, by go_num, rfl, by go_num, by omega, rfl, by omega, fun _ => XT.out, fun h => (by cases h)⟩
                      | false =>
                        rw [hp] at r1
                        have hF := hF rfl
                        rw [hp] at hF
                        cases hq : now.contains (-x) with
                        | true =>
                          rw [hq] at r2
                          rw [if_neg (by rw [hq]; simp)] at hF
                          have FH : Hid _ := hF
                          clear hp hq hF
                          go_wp2_with fail
                          go_roundg (gk - 1)
                          case measure => omega
                          case rel => exact ⟨j + 1, op, n, false, rfl, by go_num, rfl, by go_num, by omega, rfl, by omega, fun h => (by cases h), fun _ => by have := FH.out; simpa using this⟩
                        | false =>
                          rw [hq] at r2
                          by_cases hxo : x = op
                          · have g1 : (x != op) = false := by simp [hxo]
                            rw [if_neg (fun z => z.2 hxo)] at hF
                            have FH : Hid _ := hF
                            clear hp hq hxo hF
                            go_wp2_with fail
                            go_roundg (gk - 1)
                            case measure => omega
                            case rel => exact ⟨j + 1, op, n, false, rfl, by go_num, rfl, by go_num, by omega, rfl, by omega, fun h => (by cases h), fun _ => by have := FH.out; simpa using this⟩
                          · have g1 : (x != op) = true := by simp [hxo]
                            rw [if_pos ⟨hq, hxo⟩] at hF
                            have FH : Hid _ := hF
                            clear hp hq hxo hF
                            go_wp2_with fail
                            go_roundg (gk - 1)
                            case measure => omega
                            case rel => exact ⟨j + 1, x, n + 1, false, rfl, by go_num, rfl, by go_num, by omega, rfl, by omega, fun h => (by cases h), fun _ => by have := FH.out; simpa using this⟩
                  · have hnil : c.drop j = [] := List.drop_eq_nil_of_le (by omega)
                    have hge : decide (j < c.length) = false := decide_eq_false (by omega)
                    have hge2 : c.length ≤ j := by omega
                    rw [hnil] at hF
                    cases h with
                    | true =>
                      have TT : Hid _ := FIN1.out (.inl (hT rfl))
                      clear FIN1 FIN2 FIN3 hT hF hnil hlt2
                      go_wp2_with fail
                      go_roundg m2
                      case measure => omega
                      case rel => exact ⟨i + 1, now, ag, rfl, by go_num, by omega, MH.out, BH.out, OH.out, TT.out⟩
                    | false =>
                      have hF := hF rfl
                      unfold scanM at hF
                      subst hF
                      have F1 := FIN1.out
                      have F2 := FIN2.out
                      have F3 := FIN3.out
                      simp only at F1 F2 F3
                      clear FIN1 FIN2 FIN3 hT hnil hlt2
                      rcases Nat.lt_or_ge 1 n with hn2 | hn2
                      · have TT : Hid _ := F1 (.inr hn2)
                        have g1 : ((n : Int) == 0) = false := by simp; omega
                        have g2 : ((n : Int) == 1) = false := by simp; omega
                        clear F1 F2 F3 hn2
                        go_wp2_with fail
                        go_roundg m2
                        case measure => omega
                        case rel => exact ⟨i + 1, now, ag, rfl, by go_num, by omega, MH.out, BH.out, OH.out, TT.out⟩
                      · rcases Nat.eq_zero_or_pos n with hn0 | hn0
                        · subst hn0
                          have RN : Hid _ := F2 (by simp) rfl
                          clear F1 F2 F3 hn2
                          go_wp2_with fail
                          go_ret2
                          exact ⟨BH.out, .inl ⟨RN.out, _, rfl⟩⟩
                        · obtain rfl : n = 1 := by omega
                          obtain ⟨f1, f2, f3⟩ := F3 (by simp) (by omega)
                          obtain ⟨w9, hrun, M9, B9⟩ := unit_put MB.out hbz MH.out op
                          rw [if_neg (by rw [f3]; simp)] at M9
                          have M9H : Hid _ := M9
                          have B9H : Hid _ := BH.out.trans B9
                          have TT : Hid _ := f1
                          have O9 : Hid _ := f2
                          clear F1 F2 F3 hn2 f1 f2 f3 M9 B9
                          go_wp2_with fail
                          go_roundg m2
                          case measure => omega
                          case rel => exact ⟨i + 1, now ++ [op], true, rfl, by go_num, by omega, M9H.out, B9H.out, O9.out, TT.out⟩
              · have hnil : D.drop i = [] := List.drop_eq_nil_of_le (by omega)
                have hge : decide (i < D.length) = false := decide_eq_false (by omega)
                have hge2 : D.length ≤ i := by omega
                rw [hnil] at hT
                unfold passM at hT
                subst hT
                have HP2 := HP.out
                have MH : Hid _ := M
                have BH : Hid _ := B
                have OH : Hid _ := HO
                cases ag with
                | true =>
                  have P3 : Hid (propM D m now = some R) := HP2
                  clear hlt hnil M B HO HP HP2
                  go_wp2_with fail
                  go_roundg m
                  case measure => omega
                  case rel => exact ⟨now, true, rfl, MH.out, BH.out, OH.out, fun _ => P3.out, fun h => by cases h⟩
                | false =>
                  have P3 : Hid (R = some now) := by injection HP2 with h; exact h.symm
                  clear hlt hnil M B HO HP HP2
                  go_wp2_with fail
                  go_roundg m
                  case measure => omega
                  case rel => exact ⟨now, false, rfl, MH.out, BH.out, OH.out, fun h => (by cases h), fun _ => P3.out⟩
end Go.Proofs.Ytdllaphnkbnpoaa
namespace Go.Proofs.Ytdllaphnkbnpoaa
open Go.RowKit Go.Proofs

set_option maxRecDepth 100000 in
set_option maxHeartbeats 2000000 in
theorem follows_any {w : World} {A A2 : Option Addr} {D : List (List Int)} {xs : List Int} {cc c2 : Nat} (hA : LiesR w.heap.size w A D) (hA2 : Lies w.heap.size w A2 xs)
    (hD : D.length ≤ 60000) (hc : ∀ e ∈ D, e.length ≤ 60000) (hn : xs.length ≤ 60000) (hl : Lits D) (hl2 : ∀ x ∈ xs, x ≠ 0 ∧ x.natAbs ≤ 200) :
    Calls Try.prog 42 #[.slice A D.length cc, .slice A2 xs.length c2] w fun e w' => e = .returned (.bool (propagateT D (negL xs)).isNone) ∧ Below w.heap.size w w' := by
  have H0 : Holds w.heap.size w (fun _ => Res.non) := Holds.nothing _ _
  have H1 := nil_put H0 (Nat.le_refl _) (.loc 0) 3
  have e1 : upd (fun _ => Res.non) (.loc 0) (.row (.slice none 0 0) 3 []) = locs (.row (.slice none 0 0) 3 (ints [])) := rfl
  rw [e1] at H1
  have start : Hid (OppRel w.heap.size w xs xs.length (.slice none 0 0) (.int .i64 ((0 : Nat) : Int)) w) := ⟨0, [], .slice none 0 0, rfl, rfl, rfl, H1, Below.refl _ _, by simp⟩
  have LA : Hid _ := hA2
  have LL : Hid _ := hl2
  have UN : Hid (∀ (W : World) (v : Value) (c9 : Nat), Below w.heap.size w W → Holds w.heap.size W (locs (.row v 3 (ints (negL xs)))) → Calls Try.prog 51 #[.slice A D.length cc, .slice (ad v) (negL xs).length c9] W (UnitRes W.heap.size W (propagateT D (negL xs)))) := fun W v c9 B H => by
    have hlen : (negL xs).length = xs.length := by simp [negL]
    exact units_any (Nat.le_refl _) ((hA.below B).mono B.size) (row_lies H (k := .loc 0) rfl) hD hc (by omega) hl (neg_lits hl2) (propagateT_eq hl (neg_lits hl2))
  generalize propagateT D (negL xs) = R at *
  clear H0 H1 e1 hA hA2 hl2 hc hl
  go_enter Try.func42, Try.ntmps42
  go_wp2_with fail
  go_loopg [5, 12] xs.length (fun k x5 x12 wr => OppRel w.heap.size w xs k x5 x12 wr)
  case atStart => exact start.out
  case round =>
    clear start
    obtain ⟨i, acc, v, rfl, rfl, hki, H, B, hT⟩ := hrel
    by_cases hlt : i < xs.length
    · obtain ⟨b, o, rfl, hbb, hcell⟩ := lies_at (Lies.below LA.out B) hlt
      have ei := hcell i hlt
      have hd : xs.drop i = xs.getD i 0 :: xs.drop (i + 1) := by
        rw [List.drop_eq_getElem_cons hlt]; simp [hlt]
      have hx := LL.out (xs.getD i 0) (row_ne xs 0 hlt)
      rw [hd] at hT
      generalize xs.getD i 0 = x at *
      have hx1 : -60000 ≤ x := by omega
      have hx2 : x ≤ 60000 := by omega
      have hT2 : (acc ++ [-x]) ++ negL (xs.drop (i + 1)) = negL xs := by rw [← hT]; simp [negL]
      have hl2 : acc.length + 1 ≤ 60000 := by
        have := congrArg List.length hT2
        simp only [List.length_append, List.length_singleton] at this
        have e : (negL xs).length = xs.length := by simp [negL]
        omega
      have XH : Hid _ := hT2
      have hbz : w.heap.size ≤ wr.heap.size := B.size
      have LS : Hid _ := H.alloc (.cells #[.int .i64 (-x)] 3)
      have BL : Hid _ := B.alloc hbz (.cells #[.int .i64 (-x)] 3)
      clear hT hT2 hd hcell H B hx
      go_wp2_with (at_builtin; refine law_pushAt LS.out (.loc 0) rfl (.tmp 16) (.tmp 19) 26 3 (.int .i64 0) 8 rfl Try.underlying26 info3 rfl (by decide) acc.length (.int .i64 (-x)) rfl (ints_length _) rfl wr.heap.size rfl ?hy rfl ?hb ?hl ?_)
      try (case hy => first | exact cell_new _ _ _ _ (by simp) | exact cell_new_drew _ _ _ _ (by simp))
      case hb => simp; omega
      case hl => omega
      intro A3 c3 w6 H6 B6 _
      rw [ints_snoc, upd_locs] at H6
      have H6H : Hid _ := H6
      have B6H : Hid _ := BL.out.trans B6
      clear H6 B6
      go_wp2_with fail
      go_roundg (gk - 1)
      case measure => omega
      case rel => exact ⟨i + 1, acc ++ [-x], .slice A3 (acc.length + 1) c3, by go_num, by simp [ad, cp], by omega, H6H.out, B6H.out, XH.out⟩
    · have hnil : xs.drop i = [] := List.drop_eq_nil_of_le (by omega)
      have hge : decide (i < xs.length) = false := decide_eq_false (by omega)
      have hge2 : xs.length ≤ i := by omega
      rw [hnil] at hT
      have hT5 : acc = negL xs := by rw [← hT]; simp [negL]
      subst hT5
      have UC := UN.out wr v (cp v) B H
      have BE : Hid _ := B
      clear hlt hnil hT H B LA LL UN
      go_wp2_with fail
      refine UC.mono ?_
      clear UC
      rintro e w2 ⟨B2, ⟨rfl, v2, rfl⟩ | ⟨now, mb, rfl, rfl, _⟩⟩
      · have BF : Hid _ := BE.out.trans (B2.mono BE.out.size)
        clear B2
        go_wp2_with fail
        go_ret
        exact ⟨rfl, BF.out⟩
      · have BF : Hid _ := BE.out.trans (B2.mono BE.out.size)
        clear B2
        go_wp2_with fail
        go_ret
        exact ⟨rfl, BF.out⟩

set_option maxRecDepth 100000 in
set_option maxHeartbeats 2000000 in
/-- A clone of rows. -/
theorem cloneR_any {w : World} {A : Option Addr} {D : List (List Int)} {c : Nat} (hA : LiesR w.heap.size w A D) (hD : D.length ≤ 60000) :
    Calls Try.prog 41 #[.slice A D.length c] w fun e w' => ∃ v cs, e = .returned (.slice (ad v) D.length (cp v)) ∧ Holds w.heap.size w' (locs (.row v 26 cs)) ∧ Cells w.heap.size w' cs D ∧ Below w.heap.size w w' := by
  have nil : A = none → Calls Try.prog 41 #[.slice A D.length c] w fun e w' => ∃ v cs, e = .returned (.slice (ad v) D.length (cp v)) ∧ Holds w.heap.size w' (locs (.row v 26 cs)) ∧ Cells w.heap.size w' cs D ∧ Below w.heap.size w w' := by
    intro h
    subst h
    have hD0 : D = [] := by
      rcases hA with h | ⟨b, o, h, _⟩
      · exact h
      · cases h
    subst hD0
    refine (Try.slices_Clone_nil_f41 0 c w).mono ?_
    rintro e w' ⟨rfl, rfl⟩
    exact ⟨.slice none 0 0, [], rfl, nil_put (Holds.nothing _ _) (Nat.le_refl _) (.loc 0) 26, ⟨rfl, fun i hi => absurd hi (Nat.not_lt_zero _)⟩, Below.refl _ _⟩
  cases A with
  | none => exact nil rfl
  | some a =>
    clear nil
    obtain ⟨cs, hcs, hrd⟩ := cells_of hA
    have HL : Hid _ := (Holds.lit0 (Holds.nothing w.heap.size w) (.loc 0) (Nat.le_refl _) 26)
    have RD : Hid (Reads (w.alloc (.cells #[] 26)) (some a) cs) := hrd.keep (fun a v hv => cell_alloc_keep w _ a v hv)
    have hcl : cs.length = D.length := hcs.1
    have ONE : Hid _ := hcs.one
    have BA : Hid _ := (Below.refl w.heap.size w).alloc (Nat.le_refl _) (.cells #[] 26)
    have CS : Hid _ := hcs
    have hsz : w.heap.size ≤ (w.alloc (.cells #[] 26)).heap.size := by rw [size_alloc]; omega
    have q22 : (binOp .eql 22 (.slice (some a) D.length c) (.slice none 0 0)).run Try.prog w = .ok (.bool false) w := Go.Lib.run_eql_slice_nil w _ _ (some a) D.length c 0 0 Try.underlying22
    clear hA hcs hrd
    go_enter Try.func41, Try.ntmps41
    go_wp2_with (at_builtin; refine law_many HL.out (.loc 0) rfl (.tmp 5) (.tmp 6) 22 26 (.slice none 0 0) 24 rfl Try.underlying22 info26 rfl (by decide) 0 cs rfl rfl rfl (some a) D.length c rfl hcl (fun h => by cases h) RD.out ONE.out hsz (by omega) ?_)
    intro A3 c3 w6 H6 B6
    have e1 : upd (upd (fun _ => Res.non) (.loc 0) (.row (.slice (some ⟨w.heap.size, 0, none⟩) 0 0) 26 [])) (.loc 0) (.row (.slice A3 D.length c3) 26 cs) = locs (.row (.slice A3 D.length c3) 26 cs) := by
      funext k; unfold upd locs; split <;> rfl
    rw [e1] at H6
    have HH : Hid _ := H6
    have BH : Hid _ := BA.out.trans B6
    clear e1 H6 B6
    go_wp2_with fail
    go_ret
    exact ⟨.slice A3 D.length c3, cs, rfl, HH.out, Cells.below CS.out BH.out, BH.out⟩

theorem log_err {D log : List (List Int)} (h : log.length ≤ 4000) : logErrM D log = if checkM 600 D ≠ 0 then checkM 600 D else checkM 4000 log := by
  have e : checkM 4000 log = if (log.all fun c => c.all isLit) = false then 1 else 0 := by
    unfold checkM
    have e1 : (decide (4000 < log.length) || log.any fun c => decide (30 < c.length) && decide ((4000 : Nat) = 600)) = false := by
      rw [decide_eq_false (by omega), Bool.false_or, List.any_eq_false]
      intro c _
      simp
    have e2 : (log.any fun c => !c.all isLit) = !(log.all fun c => c.all isLit) := by
      rw [List.all_eq_not_any_not, Bool.not_not]
    rw [e1, e2, if_neg (by simp)]
    cases (log.all fun c => c.all isLit) <;> rfl
  rw [e, ← refM_eq]
  unfold logErrM
  by_cases h2 : refM D = 2
  · rw [if_pos h2, if_pos (by omega), h2]
  · rw [if_neg h2, if_neg (by omega)]

set_option maxRecDepth 100000 in
set_option maxHeartbeats 4000000 in
theorem pIsLog_any {w : World} {A A2 : Option Addr} {D log : List (List Int)} {c c2 : Nat} (h : LiesR w.heap.size w A D) (h2 : LiesR w.heap.size w A2 log) (hn : D.length ≤ 9223372036854775807) (hm : ∀ e ∈ D, e.length ≤ 9223372036854775807)
    (hn2 : log.length ≤ 4000) (hm2 : ∀ e ∈ log, e.length ≤ 60000) :
    Calls Try.prog 20 #[.slice A D.length c, .slice A2 log.length c2] w fun e w' => e = .returned (.tuple #[.int .i64 (isLogR D log).1, .int .i64 (isLogR D log).2]) ∧ Below w.heap.size w w' := by
  have C1 := Check_any (c := c) h (Nat.le_refl _) hn (fun j hj => hm _ (row_ne D [] hj))
  have C2 : Hid (∀ W, Below w.heap.size w W → Calls Try.prog 40 #[.slice A2 log.length c2, .int .i64 4000] W fun e w' => e = .returned (.int .i64 (checkM 4000 log)) ∧ Below W.heap.size W w') := fun W B =>
    check_any (c := c2) (most := 4000) ((h2.below B).mono B.size) (Nat.le_refl _) (by omega) (fun j hj => by have := hm2 _ (row_ne log [] hj); omega)
  have LE := log_err (D := D) hn2
  by_cases hr : checkM 600 D = 0
  · rw [hr] at C1
    rw [if_neg (by simp [hr])] at LE
    by_cases hr2 : checkM 4000 log = 0
    · rw [hr2] at LE
      have CC2 := C2.out
      rw [hr2] at CC2
      have C3 : Hid _ := CC2
      unfold isLogR
      rw [if_neg (by simp [LE])]
      obtain ⟨r0, l4, ll⟩ := logErr_zero LE
      obtain ⟨d6, dr, dl⟩ := refM_zero r0
      generalize hTT : isLogM D log = T
      have TH : Hid _ := hTT
      have CL : Hid (∀ W, Below w.heap.size w W → Calls Try.prog 41 #[.slice A D.length c] W fun e w' => ∃ v cs, e = .returned (.slice (ad v) D.length (cp v)) ∧ Holds W.heap.size w' (locs (.row v 26 cs)) ∧ Cells W.heap.size w' cs D ∧ Below W.heap.size W w') := fun W B =>
        cloneR_any ((h.below B).mono B.size) (by omega)
      have LD : Hid _ := dl
      have DR : Hid (∀ e ∈ D, e.length ≤ 60000) := fun e he => by have := dr e he; omega
      have LL : Hid _ := ll
      have L2 : Hid _ := h2
      have LM : Hid _ := hm2
      clear h h2 hm hm2 hr hr2 LE r0 ll dr dl C2 CC2 hTT
      go_enter Try.func20, Try.ntmps20
      go_wp2_with fail
      refine C1.mono ?_
      rintro e w1 ⟨rfl, B1⟩
      have C4 := C3.out w1 B1
      have B1h : Hid _ := B1
      clear C1 C3 B1
      go_wp2_with fail
      refine C4.mono ?_
      rintro e w2 ⟨rfl, B2⟩
      have B2h : Hid (Below w.heap.size w w2) := B1h.out.trans (B2.mono B1h.out.size)
      have C5 := CL.out w2 B2h.out
      clear C4 B2 CL
      go_wp2_with fail
      refine C5.mono ?_
      rintro e w3 ⟨v, cs, rfl, H3, CS3, B3⟩
      have L23 : Hid (LiesR w2.heap.size w2 A2 log) := LiesR.mono (LiesR.below L2.out B2h.out) B2h.out.size
      have start : Hid (IlRel w2.heap.size w2 D log T log.length (.slice (ad v) D.length (cp v)) (.int .i64 ((0 : Nat) : Int)) w3) := ⟨0, D, v, cs, rfl, rfl, rfl, H3, CS3, B3, LD.out, DR.out, rfl, by simpa using TH.out⟩
      clear C5 H3 CS3 B3 L2
      go_wp2_with fail
      go_loopg [8, 25] log.length (fun k x8 x25 wr => IlRel w2.heap.size w2 D log T k x8 x25 wr)
      case atStart => exact start.out
      case round =>
        clear start
        obtain ⟨i, E, v, cs, rfl, rfl, hki, H, CC, B, hE, hE6, hEl, hT⟩ := hrel
        by_cases hlt : i < log.length
        · have hL2 := LiesR.below L23.out B
          obtain ⟨b, o, rfl, hbb, hcell⟩ := liesR_at hL2 hlt
          obtain ⟨A', c', ei, hc', hli⟩ := hcell i hlt
          have hd : log.drop i = log.getD i [] :: log.drop (i + 1) := by
            rw [List.drop_eq_getElem_cons hlt]; simp [hlt]
          have hlm := LM.out _ (row_ne log [] hlt)
          have hll := LL.out _ (row_ne log [] hlt)
          rw [hd] at hT
          unfold isLogM at hT
          generalize log.getD i [] = el at *
          have hbz : w2.heap.size ≤ wr.heap.size := B.size
          have hE9 : E.length ≤ 60000 := by omega
          have FC := follows_any (cc := cp v) (c2 := c') (cells_liesR H CC hbz) (hli.mono hbz) hE9 hE6 hlm hE hll
          have NX : Hid (∀ w3 : World, Below wr.heap.size wr w3 → Holds w2.heap.size w3 (locs (.row v 26 cs)) ∧ Cells w2.heap.size w3 (cs ++ [.slice A' el.length c']) (E ++ [el]) ∧ Below w2.heap.size w2 w3) := fun w3 B3 =>
            ⟨H.other (fun b _ hb => B3.block b hb), (CC.snoc hc' hli).below (B3.mono hbz), B.trans (B3.mono hbz)⟩
          have hE2 : Hid (Lits (E ++ [el])) := fun e he => by
            rcases List.mem_append.1 he with z | z
            · exact hE e z
            · rw [List.mem_singleton] at z; rw [z]; exact hll
          have hE62 : Hid (∀ e ∈ E ++ [el], e.length ≤ 60000) := fun e he => by
            rcases List.mem_append.1 he with z | z
            · exact hE6 e z
            · rw [List.mem_singleton] at z; rw [z]; exact hlm
          have hcsl : cs.length = E.length := CC.1
          have EL : Hid _ := hEl
          clear H CC B hE hE6 hd hcell hL2 hli hlm hll hEl hc'
          generalize propagateT E (negL el) = R at *
          cases R with
          | none =>
            have hT2 : Hid (isLogM (E ++ [el]) (log.drop (i + 1)) + (i + 1) = T) := by
              rw [← hT]
              show _ = isLogM (E ++ [el]) (log.drop (i + 1)) + 1 + i
              omega
            clear hT
            go_wp2_with fail
            refine FC.mono ?_
            rintro e w3 ⟨rfl, B3⟩
            obtain ⟨n1, n2, n3⟩ := NX.out w3 B3
            have hb3 : w2.heap.size ≤ w3.heap.size := Nat.le_trans hbz B3.size
            have LS : Hid _ := n1.alloc (.cells #[.slice A' el.length c'] 26)
            have BL : Hid _ := n3.alloc hb3 (.cells #[.slice A' el.length c'] 26)
            have CN : Hid (∀ W : World, Below w2.heap.size w3 W → Cells w2.heap.size W (cs ++ [.slice A' el.length c']) (E ++ [el])) := fun W hW => n2.below hW
            have BA2 : Hid _ := (Below.refl w2.heap.size w3).alloc hb3 (.cells #[.slice A' el.length c'] 26)
            clear FC n1 n2 n3 B3 NX
            go_wp2_with (at_builtin; refine law_pushAt LS.out (.loc 0) rfl (.tmp 35) (.tmp 37) 22 26 (.slice none 0 0) 24 rfl Try.underlying22 info26 rfl (by decide) E.length (.slice A' el.length c') rfl hcsl rfl w3.heap.size rfl ?hy rfl ?hb ?hl ?_)
            try (case hy => first | exact cell_new _ _ _ _ (by simp) | exact cell_new_drew _ _ _ _ (by simp))
            case hb => simp; omega
            case hl => omega
            intro A4 c4 w6 H6 B6 _
            rw [upd_locs] at H6
            have H6H : Hid _ := H6
            have C6 : Hid (Cells w2.heap.size w6 (cs ++ [.slice A' el.length c']) (E ++ [el])) := CN.out w6 (BA2.out.trans B6)
            have B6H : Hid _ := BL.out.trans B6
            clear H6 B6 CN BA2 BL LS
            go_wp2_with fail
            go_roundg (gk - 1)
            case measure => omega
            case rel => exact ⟨i + 1, E ++ [el], .slice A4 (E.length + 1) c4, cs ++ [.slice A' el.length c'], by go_num, by simp [ad, cp], by omega, H6H.out, C6.out, B6H.out, hE2.out, hE62.out, by have := EL.out; simp; omega, hT2.out⟩
          | some now =>
            have hT2 : T = i := by
              rw [← hT]
              show 0 + i = i
              omega
            subst hT2
            clear hT hE2 hE62
            go_wp2_with fail
            refine FC.mono ?_
            rintro e w3 ⟨rfl, B3⟩
            have B5 : Hid (Below w.heap.size w w3) := B2h.out.trans (((NX.out w3 B3).2.2).mono B2h.out.size)
            clear FC B3 NX
            go_wp2_with fail
            go_ret2
            exact ⟨rfl, B5.out⟩
        · have hnil : log.drop i = [] := List.drop_eq_nil_of_le (by omega)
          have hge : decide (i < log.length) = false := decide_eq_false (by omega)
          have hge2 : log.length ≤ i := by omega
          rw [hnil] at hT
          have hT2 : T = log.length := by rw [← hT]; unfold isLogM; omega
          subst hT2
          have BH : Hid (Below w.heap.size w wr) := B2h.out.trans (B.mono B2h.out.size)
          clear hlt hnil hT H CC B hE hEl
          go_wp2_with fail
          go_ret2
          exact ⟨rfl, BH.out⟩
    · unfold isLogR
      rw [if_pos (by rw [LE]; exact hr2), LE]
      have CC2 := C2.out
      generalize checkM 4000 log = r at *
      have g1 : (r != 0) = true := by simp [hr2]
      have C3 : Hid _ := CC2
      clear h h2 hm hm2 hr hr2 LE C2 CC2
      go_enter Try.func20, Try.ntmps20
      go_wp2_with fail
      refine C1.mono ?_
      rintro e w1 ⟨rfl, B1⟩
      have C4 := C3.out w1 B1
      have B1h : Hid _ := B1
      clear C1 C3 B1
      go_wp2_with fail
      refine C4.mono ?_
      rintro e w2 ⟨rfl, B2⟩
      have B2h : Hid (Below w.heap.size w w2) := B1h.out.trans (B2.mono B1h.out.size)
      clear C4 B2
      go_wp2_with fail
      go_ret2
      exact ⟨rfl, B2h.out⟩
  · unfold isLogR
    rw [if_pos hr] at LE
    rw [if_pos (by rw [LE]; exact hr), LE]
    generalize checkM 600 D = r at *
    have g1 : (r != 0) = true := by simp [hr]
    clear h h2 hm hm2 hr LE C2
    go_enter Try.func20, Try.ntmps20
    go_wp2_with fail
    refine C1.mono ?_
    rintro e w1 ⟨rfl, B1⟩
    have B1h : Hid _ := B1
    clear C1 B1
    go_wp2_with fail
    go_ret2
    exact ⟨rfl, B1h.out⟩

set_option maxRecDepth 100000 in
set_option maxHeartbeats 2000000 in
theorem pRefutes_any {w : World} {A A2 : Option Addr} {D log : List (List Int)} {c c2 : Nat} (h : LiesR w.heap.size w A D) (h2 : LiesR w.heap.size w A2 log) (hn : D.length ≤ 9223372036854775807) (hm : ∀ e ∈ D, e.length ≤ 9223372036854775807)
    (hn2 : log.length ≤ 4000) (hm2 : ∀ e ∈ log, e.length ≤ 60000) :
    Calls Try.prog 22 #[.slice A D.length c, .slice A2 log.length c2] w fun e w' => e = .returned (.tuple #[.bool (refutesR D log).1, .int .i64 (refutesR D log).2]) ∧ Below w.heap.size w w' := by
  have C := pIsLog_any (c := c) (c2 := c2) h h2 hn hm hn2 hm2
  have hle := isLogM_le log D
  unfold isLogR at C
  unfold refutesR refutesM
  have L2 : Hid _ := h2
  clear h h2 hm hm2
  by_cases he : logErrM D log = 0
  · rw [if_neg (by simp [he])] at C
    rw [if_neg (by simp [he])]
    clear he
    generalize isLogM D log = n at *
    simp only at C
    by_cases h1 : n = log.length
    · rw [decide_eq_true h1, Bool.true_and]
      by_cases hp : 0 < n
      · rw [decide_eq_true hp, Bool.true_and]
        obtain ⟨m, rfl⟩ : ∃ m, n = m + 1 := ⟨n - 1, by omega⟩
        rw [Nat.add_sub_cancel]
        have hlt : m < log.length := by omega
        have g2 : (0 : Int) < ((m + 1 : Nat) : Int) := by omega
        have g3 : (((m + 1 : Nat) : Int) == (log.length : Int)) = true := by simp; omega
        have g4 : ((m + 1 : Nat) : Int) - 1 = (m : Int) := by omega
        generalize hk : (log.getD m []).length = k at *
        have HK : Hid _ := hk
        have HN : Hid _ := h1
        clear hk h1 hp
        generalize hz : ((m + 1 : Nat) : Int) = z at *
        by_cases hk0 : k = 0
        · subst hk0
          go_enter Try.func22, Try.ntmps22
          go_wp2_with fail
          refine C.mono ?_
          rintro e w' ⟨rfl, B⟩
          obtain ⟨b, o, rfl, hbb, hcell⟩ := liesR_at (LiesR.below L2.out B) hlt
          obtain ⟨A', c', ei, hc', hli⟩ := hcell m hlt
          rw [HK.out] at ei
          have BH : Hid _ := B
          clear B hcell hli hc' C
          go_wp2_with fail
          go_ret2
          exact ⟨rfl, BH.out⟩
        · have g5 : ((k : Int) == 0) = false := by simp; omega
          rw [decide_eq_false hk0]
          go_enter Try.func22, Try.ntmps22
          go_wp2_with fail
          refine C.mono ?_
          rintro e w' ⟨rfl, B⟩
          obtain ⟨b, o, rfl, hbb, hcell⟩ := liesR_at (LiesR.below L2.out B) hlt
          obtain ⟨A', c', ei, hc', hli⟩ := hcell m hlt
          rw [HK.out] at ei
          have BH : Hid _ := B
          clear B hcell hli hc' C
          go_wp2_with fail
          go_ret2
          exact ⟨rfl, BH.out⟩
      · rw [decide_eq_false hp, Bool.false_and]
        obtain rfl : n = 0 := by omega
        have g3 : ((0 : Int) == (log.length : Int)) = true := by simp; omega
        clear h1 hp
        go_enter Try.func22, Try.ntmps22
        go_wp2_with fail
        refine C.mono ?_
        rintro e w' ⟨rfl, B⟩
        have BH : Hid _ := B
        clear B C
        go_wp2_with fail
        go_ret2
        exact ⟨rfl, BH.out⟩
    · rw [decide_eq_false h1, Bool.false_and, Bool.false_and]
      have g3 : ((n : Int) == (log.length : Int)) = false := by simp; omega
      clear h1
      go_enter Try.func22, Try.ntmps22
      go_wp2_with fail
      refine C.mono ?_
      rintro e w' ⟨rfl, B⟩
      have BH : Hid _ := B
      clear B C
      go_wp2_with fail
      go_ret2
      exact ⟨rfl, BH.out⟩
  · rw [if_pos he] at C
    rw [if_pos he]
    have g1 : (logErrM D log != 0) = true := by simp [he]
    clear he
    generalize logErrM D log = r at *
    go_enter Try.func22, Try.ntmps22
    go_wp2_with fail
    refine C.mono ?_
    rintro e w' ⟨rfl, B⟩
    have BH : Hid _ := B
    clear B C
    go_wp2_with fail
    go_ret2
    exact ⟨rfl, BH.out⟩

set_option maxRecDepth 100000 in
set_option maxHeartbeats 4000000 in
theorem logsLaw_any {w : World} {A A2 : Option Addr} {D log : List (List Int)} {c c2 : Nat} (h : LiesR w.heap.size w A D) (h2 : LiesR w.heap.size w A2 log) (hc0 : A = none → c = 0) (hn : D.length ≤ 9223372036854775807) (hm : ∀ e ∈ D, e.length ≤ 9223372036854775807) (hw : ∀ e ∈ D, ∀ x ∈ e, -9223372036854775808 ≤ x ∧ x ≤ 9223372036854775807)
    (hn2 : log.length ≤ 9223372036854775807) (hw2 : ∀ e ∈ log, ∀ x ∈ e, -9223372036854775808 ≤ x ∧ x ≤ 9223372036854775807) :
    Calls Try.prog 6 #[.slice A D.length c, .slice A2 log.length c2] w fun e w' => e = .returned (.bool true) ∧ Below w.heap.size w w' := by
  have L1 := light_any (c := c) h hn
  have L2 := light_any (c := c2) h2 hn2
  cases hl : lightM D with
  | false =>
    rw [hl] at L1
    clear h h2 hc0 hm hw hw2 L2 hl
    go_enter Try.func6, Try.ntmps6
    go_wp2_with fail
    refine L1.mono ?_
    rintro e w' ⟨rfl, rfl⟩
    clear L1
    go_wp2_with fail
    refine (sane_any _).mono ?_
    rintro e w2 ⟨rfl, B2⟩
    have BE : Hid _ := B2
    clear B2
    go_wp2_with fail
    go_ret
    exact ⟨rfl, BE.out⟩
  | true =>
    rw [hl] at L1
    cases hl2 : lightM log with
    | false =>
      rw [hl2] at L2
      clear h h2 hc0 hm hw hw2 hl hl2
      go_enter Try.func6, Try.ntmps6
      go_wp2_with fail
      refine L1.mono ?_
      rintro e w' ⟨rfl, rfl⟩
      clear L1
      go_wp2_with fail
      refine L2.mono ?_
      rintro e w'' ⟨rfl, rfl⟩
      clear L2
      go_wp2_with fail
      refine (sane_any _).mono ?_
      rintro e w2 ⟨rfl, B2⟩
      have BE : Hid _ := B2
      clear B2
      go_wp2_with fail
      go_ret
      exact ⟨rfl, BE.out⟩
    | true =>
      rw [hl2] at L2
      have hs2 : log.length ≤ 60 ∧ ∀ e ∈ log, e.length ≤ 12 := by
        unfold lightM at hl2
        rw [Bool.and_eq_true] at hl2
        exact ⟨of_decide_eq_true hl2.1, fun e he => of_decide_eq_true (List.all_eq_true.1 hl2.2 e he)⟩
      have hm2 : ∀ e ∈ log, e.length ≤ 60000 := fun e he => by have := hs2.2 e he; omega
      have K1 : Hid (∀ W, Below w.heap.size w W → Calls Try.prog 20 #[.slice A D.length c, .slice A2 log.length c2] W fun e w' => e = .returned (.tuple #[.int .i64 (isLogR D log).1, .int .i64 (isLogR D log).2]) ∧ Below W.heap.size W w') := fun W B => pIsLog_any ((h.below B).mono B.size) ((h2.below B).mono B.size) hn hm (by omega) hm2
      have K2 : Hid (∀ W, Below w.heap.size w W → Calls Try.prog 21 #[.slice A D.length c, .slice A2 log.length c2] W fun e w' => e = .returned (.tuple #[.int .i64 (isLogR D log).1, .int .i64 (isLogR D log).2]) ∧ Below W.heap.size W w') := fun W B => isLog_any (Nat.le_refl _) ((h.below B).mono B.size) ((h2.below B).mono B.size) hc0 hn hm hw hn2 hm2 hw2
      have K3 : Hid (∀ W, Below w.heap.size w W → Calls Try.prog 22 #[.slice A D.length c, .slice A2 log.length c2] W fun e w' => e = .returned (.tuple #[.bool (refutesR D log).1, .int .i64 (refutesR D log).2]) ∧ Below W.heap.size W w') := fun W B => pRefutes_any ((h.below B).mono B.size) ((h2.below B).mono B.size) hn hm (by omega) hm2
      have K4 : Hid (∀ W, Below w.heap.size w W → Calls Try.prog 16 #[.slice A D.length c, .slice A2 log.length c2] W fun e w' => e = .returned (.tuple #[.bool (refutesR D log).1, .int .i64 (refutesR D log).2]) ∧ Below W.heap.size W w') := fun W B => refutes_any (Nat.le_refl _) ((h.below B).mono B.size) ((h2.below B).mono B.size) hc0 hn hm hw hn2 hm2 hw2
      generalize isLogR D log = p at *
      generalize refutesR D log = q at *
      obtain ⟨p1, p2⟩ := p
      obtain ⟨q1, q2⟩ := q
      simp only at K1 K2 K3 K4
      have k1 := K1.out w (Below.refl _ _)
      clear h h2 hc0 hm hw hw2 hl hl2 hs2 hm2 K1
      go_enter Try.func6, Try.ntmps6
      go_wp2_with fail
      refine L1.mono ?_
      rintro e w' ⟨rfl, rfl⟩
      clear L1
      go_wp2_with fail
      refine L2.mono ?_
      rintro e w'' ⟨rfl, rfl⟩
      clear L2
      go_wp2_with fail
      refine k1.mono ?_
      rintro e w1 ⟨rfl, B1⟩
      have k2 := K2.out w1 B1
      have B1h : Hid _ := B1
      clear k1 B1 K2
      go_wp2_with fail
      refine k2.mono ?_
      rintro e w2 ⟨rfl, B2⟩
      have B2h : Hid _ := B1h.out.trans (B2.mono B1h.out.size)
      have k3 := K3.out w2 B2h.out
      clear k2 B2 K3
      go_wp2_with fail
      refine k3.mono ?_
      rintro e w3 ⟨rfl, B3⟩
      have B3h : Hid _ := B2h.out.trans (B3.mono B2h.out.size)
      have k4 := K4.out w3 B3h.out
      clear k3 B3 K4
      go_wp2_with fail
      refine k4.mono ?_
      rintro e w4 ⟨rfl, B4⟩
      have B4h : Hid _ := B3h.out.trans (B4.mono B3h.out.size)
      clear k4 B4
      go_wp2_with fail
      refine (sane_any _).mono ?_
      rintro e w5 ⟨rfl, B5⟩
      have BE : Hid _ := B4h.out.trans (B5.mono B4h.out.size)
      clear B5
      go_wp2_with fail
      go_ret
      exact ⟨rfl, BE.out⟩
end Go.Proofs.Ytdllaphnkbnpoaa
