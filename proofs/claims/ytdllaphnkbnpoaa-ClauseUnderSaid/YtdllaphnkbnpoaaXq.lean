/- Walks over package clause: units once more, with what a range over its map asks; Units. Walks over package clause: the entries of a map in whatever order, sorted. -/
import Derived.Test.YtdllaphnkbnpoaaXj
import Derived.Test.YtdllaphnkbnpoaaPl
import Derived.Maps.RangeWalk
import Derived.OwnWalk
namespace Go.Proofs.Ytdllaphnkbnpoaa
open Go.RowKit Go.Proofs Go.MapKept

/-- The map of what is told, each entry with a stamp of its own. -/
def MapW (w : World) (b : Nat) (now : List Int) : Prop :=
  ∃ es c, w.heap[b]? = some (.map es c) ∧ es.toList.map (fun e => (e.key, e.val)) = kvs ikey (bm now) ∧ (es.toList.map (·.born)).Nodup ∧ ∀ n ∈ es.toList.map (·.born), n < c

theorem MapW.at_ {w : World} {b : Nat} {now : List Int} (h : MapW w b now) : MapAt w b (kvs ikey (bm now)) := by
  obtain ⟨es, c, h1, h2, _⟩ := h
  exact ⟨es, c, h1, h2⟩

theorem modify_born (f : MapEntry → MapEntry) (hf : ∀ e, (f e).born = e.born) (l : List MapEntry) (j : Nat) : (l.modify j f).map (·.born) = l.map (·.born) := by
  apply List.ext_getElem?
  intro i
  rw [List.getElem?_map, List.getElem?_map, List.getElem?_modify]
  cases l[i]? with
  | none => rfl
  | some e =>
    by_cases h : j = i
    · subst h; simp [hf]
    · simp [h]

set_option maxRecDepth 100000 in
theorem unit_putW {base : Nat} {w : World} {b : Nat} {now : List Int} (hb0 : base ≤ b) (hw0 : base ≤ w.heap.size) (h : MapW w b now) (x : Int) :
    ∃ w', (Instr.mapUpdate 62 (.map (some b)) (.int .i64 x) (.bool true)).run Try.prog w = .ok () w' ∧ MapW w' b (if now.contains x = true then now else now ++ [x]) ∧ Below base w w' := by
  obtain ⟨es, c, hb, he, hn, hc9⟩ := h
  have hT := Try.underlying62
  have hk := Try.underlying3
  have hc : ∀ e, (Instr.checkKey e 10000 3 (ikey x)).run Try.prog w = .ok () w := fun e => run_checkKey hk (keyI.is x) e 9999
  have hlt : b < w.heap.size := (Array.getElem?_eq_some_iff.1 hb).1
  have hgrow : ∀ o : Obj, w.grownBy { w with heap := w.heap.setIfInBounds b o } (some b) := fun o =>
    ⟨rfl, rfl, rfl, by simp, fun i hi hne => by
      show (w.heap.setIfInBounds b o)[i]? = _
      rw [Array.getElem?_setIfInBounds_ne (fun e => hne (by rw [e]))]⟩
  have hset : ∀ o : Obj, (w.heap.setIfInBounds b o)[b]? = some o := fun o => by simp [hlt]
  have hbel : ∀ o : Obj, Below base w { w with heap := w.heap.setIfInBounds b o } := fun o => (Below.refl base w).grown (hgrow o) hw0 (fun b' hb' => by injection hb' with hb'; omega)
  rcases findNow_at keyI x (bm now) es.toList 0 he with ⟨h1, h2⟩ | ⟨j, v, e, h1, h2, h3, h4, h5⟩
  · have hnx : now.contains x = false := by
      have := look_bm now x
      rw [h1] at this
      injection this with this
      exact this.symm
    rw [hnx, if_neg (by simp)]
    refine ⟨{ w with heap := w.heap.setIfInBounds b (.map (es.push { key := ikey x, val := .bool true, born := c }) (c + 1)) }, ?_, ⟨_, _, hset _, ?_, ?_, ?_⟩, hbel _⟩
    · have : (Instr.mapUpdate 62 (.map (some b)) (ikey x) (.bool true)).run Try.prog w = .ok () { w with heap := w.heap.setIfInBounds b (.map (es.push { key := ikey x, val := .bool true, born := c }) (c + 1)) } := by
        simp [Instr.mapUpdate, run_underlying hT, MapKept.run_getObj_map hb, hc, run_findKey hk h2, MapKept.run_setObj_map _ hb, Result.andThen]
      exact this
    · have : kvs ikey (bm (now ++ [x])) = kvs ikey (bm now) ++ [(ikey x, .bool true)] := by simp [kvs, bm]
      rw [this, ← he]
      simp
    · rw [Array.toList_push, List.map_append, List.nodup_append]
      refine ⟨hn, by simp, ?_⟩
      intro p hp q hq e
      have := hc9 p hp
      simp at hq
      omega
    · intro n hn'
      rw [Array.toList_push, List.map_append] at hn'
      rcases List.mem_append.1 hn' with z | z
      · have := hc9 n z; omega
      · simp at z; omega
  · have hj : es[j]? = some e := by simpa using h3
    have hmm : ((es.modify j fun y => { y with key := ikey x, val := .bool true }).toList.map (·.born)) = es.toList.map (·.born) := by
      rw [Array.toList_modify]
      exact modify_born (fun y => { y with key := ikey x, val := .bool true }) (fun _ => rfl) _ _
    refine ⟨{ w with heap := w.heap.setIfInBounds b (.map (es.modify j fun y => { y with key := ikey x, val := .bool true }) c) }, ?_, ⟨_, _, hset _, ?_, by rw [hmm]; exact hn, by rw [hmm]; exact hc9⟩, hbel _⟩
    · have : (Instr.mapUpdate 62 (.map (some b)) (ikey x) (.bool true)).run Try.prog w = .ok () { w with heap := w.heap.setIfInBounds b (.map (es.modify j fun y => { y with key := ikey x, val := .bool true }) c) } := by
        simp [Instr.mapUpdate, run_underlying hT, MapKept.run_getObj_map hb, hc, run_findKey hk h2, MapKept.run_setObj_map _ hb, Result.andThen, hj, h4, run_keyThatStays (keyI.is x)]
      exact this
    · have := h5 (.bool true)
      rw [put_bm] at this
      rw [← this]
      simp

/-- What units answers. -/
def UnitRes2 (base : Nat) (w : World) (R : Option (List Int)) (e : Ending) (w' : World) : Prop :=
  Below base w w' ∧ ((R = none ∧ ∃ v, e = .returned (.tuple #[v, .bool false])) ∨
    ∃ now mb, R = some now ∧ e = .returned (.tuple #[.map (some mb), .bool true]) ∧ MapW w' mb now ∧ base ≤ mb)

def UA2 (base : Nat) (w : World) (bs : List Int) (mb : Nat) (T : Option (List Int)) (k : Nat) (x20 : Value) (wr : World) : Prop :=
  ∃ (i : Nat) (now : List Int), x20 = .int .i64 (i : Int) ∧ k + i = bs.length ∧ MapW wr mb now ∧ Below base w wr ∧ Once now ∧ assumeM (bs.drop i) now = T
def UO2 (base : Nat) (w : World) (D : List (List Int)) (mb : Nat) (R : Option (List Int)) (k : Nat) (x9 : Value) (wr : World) : Prop :=
  ∃ (now : List Int) (ag : Bool), x9 = .bool ag ∧ MapW wr mb now ∧ Below base w wr ∧ Once now ∧ (ag = true → propM D k now = some R) ∧ (ag = false → R = some now)
def UM2 (base : Nat) (w : World) (D : List (List Int)) (mb : Nat) (T : Option (List Int × Bool)) (k : Nat) (x9 x35 : Value) (wr : World) : Prop :=
  ∃ (i : Nat) (now : List Int) (ag : Bool), x9 = .bool ag ∧ x35 = .int .i64 (i : Int) ∧ k + i = D.length ∧ MapW wr mb now ∧ Below base w wr ∧ Once now ∧ passM (D.drop i) now ag = T
def UI2 (w : World) (c now : List Int) (T : Int × Nat × Bool) (k : Nat) (x12 x13 x14 x41 : Value) (wr : World) : Prop :=
  ∃ (j : Nat) (o : Int) (n : Nat) (h : Bool), x12 = .int .i64 o ∧ x13 = .int .i64 (n : Int) ∧ x14 = .bool h ∧ x41 = .int .i64 (j : Int) ∧ k + j = c.length ∧ wr = w ∧ n ≤ j ∧ (h = true → T.2.2 = true) ∧ (h = false → scanM now (c.drop j) o n false = T)

set_option maxRecDepth 100000 in
set_option maxHeartbeats 4000000 in
theorem units2_any {base : Nat} {w : World} (hbase : base ≤ w.heap.size) {A A2 : Option Addr} {D : List (List Int)} {bs : List Int} {cc c2 : Nat} {R : Option (List Int)} (hA : LiesR base w A D) (hA2 : Lies base w A2 bs)
    (hD : D.length ≤ 60000) (hc : ∀ e ∈ D, e.length ≤ 60000) (hbs : bs.length ≤ 60000) (hl : ∀ e ∈ D, ∀ x ∈ e, x ≠ 0 ∧ x.natAbs ≤ 200) (hl2 : ∀ x ∈ bs, x ≠ 0 ∧ x.natAbs ≤ 200) (hR : propagateM D bs = some R) :
    Calls Try.prog 51 #[.slice A D.length cc, .slice A2 bs.length c2] w (UnitRes2 base w R) := by
  have M0 : MapW (w.alloc (.map #[] 0)) w.heap.size [] := ⟨#[], 0, alloc_at _ _, rfl, by simp, by simp⟩
  have BA : Below base w (w.alloc (.map #[] 0)) := (Below.refl _ _).alloc hbase _
  have start : Hid (UA2 base w bs w.heap.size (assumeM bs []) bs.length (.int .i64 ((0 : Nat) : Int)) (w.alloc (.map #[] 0))) := ⟨0, [], rfl, rfl, M0, BA, ⟨by simp, by simp⟩, by simp⟩
  have LA : Hid _ := hA
  have LA2 : Hid _ := hA2
  have LC : Hid _ := hc
  have LL : Hid _ := hl
  have LL2 : Hid _ := hl2
  have HB : Hid _ := hbase
  unfold propagateM at hR
  generalize assumeM bs [] = TT at *
  have HR : Hid _ := hR
  clear M0 BA hA hA2 hc hl hl2 hR
  obtain ⟨mb, hmb⟩ : ∃ mb, mb = w.heap.size := ⟨_, rfl⟩
  rw [← hmb] at start
  have MB : Hid (base ≤ mb) := by rw [hmb]; exact hbase
  have MBE : Hid _ := hmb
  clear hmb hbase
  go_enter Try.func51, Try.ntmps51
  go_wp2_with fail
  simp only [run_makeMap]
  go_wp2_with fail
  rw [← MBE.out]
  clear MBE
  go_loopg [20] bs.length (fun k x20 wr => UA2 base w bs mb TT k x20 wr)
  case atStart => exact start.out
  case round =>
    clear start
    obtain ⟨i, now, rfl, hki, M, B, HO, hT⟩ := hrel
    have hbz : base ≤ wr.heap.size := Nat.le_trans HB.out B.size
    by_cases hlt : i < bs.length
    · obtain ⟨b, o, rfl, hbb, hcell⟩ := lies_at (Lies.below LA2.out B) hlt
      have ei := hcell i hlt
      have hd : bs.drop i = bs.getD i 0 :: bs.drop (i + 1) := by
        rw [List.drop_eq_getElem_cons hlt]; simp [hlt]
      have hx := LL2.out (bs.getD i 0) (row_ne bs 0 hlt)
      rw [hd] at hT
      generalize bs.getD i 0 = x at *
      have hx1 : -60000 ≤ x := by omega
      have hx2 : x ≤ 60000 := by omega
      have r1 := unit_look (MapW.at_ M) (-x)
      obtain ⟨w9, hrun, M9, B9⟩ := unit_putW MB.out hbz M x
      unfold assumeM at hT
      have SN : Hid (now.contains (-x) = false → Once (if now.contains x = true then now else now ++ [x])) := fun h1 => by
        split
        · exact HO
        · rename_i q; exact once_snoc HO (by simpa using q) (by simpa using h1) hx.2
      have HT : Hid _ := hT
      have M9H : Hid _ := M9
      have BH : Hid _ := B
      have B9H : Hid _ := B.trans B9
      clear hd hcell HO hT B hx M M9 B9
      cases hp : now.contains (-x) with
      | true =>
        rw [hp] at r1
        have RN : Hid (R = none) := by
          have h1 := HT.out
          have h2 := HR.out
          rw [if_pos hp] at h1
          rw [← h1] at h2
          injection h2 with h2
          exact h2.symm
        clear hp hrun
        go_wp2_with fail
        go_ret2
        exact ⟨BH.out, .inl ⟨RN.out, _, rfl⟩⟩
      | false =>
        rw [hp] at r1
        have HT2 : Hid _ := HT.out
        have SN2 : Hid _ := SN.out hp
        have HT3 := HT.out
        rw [if_neg (by rw [hp]; simp)] at HT3
        have HT4 : Hid _ := HT3
        clear hp HT HT2 HT3 SN
        generalize (if now.contains x = true then now else now ++ [x]) = now2 at *
        go_wp2_with fail
        go_roundg (gk - 1)
        case measure => omega
        case rel => exact ⟨i + 1, now2, by go_num, by omega, M9H.out, B9H.out, SN2.out, HT4.out⟩
    · have hnil : bs.drop i = [] := List.drop_eq_nil_of_le (by omega)
      have hge : decide (i < bs.length) = false := decide_eq_false (by omega)
      have hge2 : bs.length ≤ i := by omega
      rw [hnil] at hT
      unfold assumeM at hT
      subst hT
      have HR2 := HR.out
      simp only at HR2
      have start2 : Hid (UO2 base w D mb R 300 (.bool true) wr) := ⟨now, true, rfl, M, B, HO, fun _ => HR2, fun h => (by cases h)⟩
      clear hlt hnil M B HO HR HR2
      go_wp2_with fail
      go_loopg [9] 300 (fun k x9 w' => UO2 base w D mb R k x9 w')
      case atStart => exact start2.out
      case round =>
        clear start2
        obtain ⟨now, ag, rfl, M, B, HO, hT, hF⟩ := hrel
        cases ag with
        | false =>
          have MH : Hid _ := M
          have BH : Hid _ := B
          have RH : Hid _ := hF rfl
          clear M B HO hT hF
          go_wp2_with fail
          go_ret2
          exact ⟨BH.out, .inr ⟨now, mb, RH.out, rfl, MH.out, MB.out⟩⟩
        | true =>
          have hP := hT rfl
          cases gk with
          | zero => unfold propM at hP; cases hP
          | succ m =>
            unfold propM at hP
            have start3 : Hid (UM2 base w D mb (passM D now false) D.length (.bool false) (.int .i64 ((0 : Nat) : Int)) _) := ⟨0, now, false, rfl, rfl, rfl, M, B, HO, by simp⟩
            generalize passM D now false = T at *
            have HP : Hid _ := hP
            clear M B HO hT hF hP
            go_wp2_with fail
            go_loopg [9, 35] D.length (fun k x9 x35 w' => UM2 base w D mb T k x9 x35 w')
            case atStart => exact start3.out
            case round =>
              clear start3
              obtain ⟨i, now, ag, rfl, rfl, hki, M, B, HO, hT⟩ := hrel
              by_cases hlt : i < D.length
              · obtain ⟨m2, rfl⟩ : ∃ m2, gk = m2 + 1 := ⟨gk - 1, by omega⟩
                obtain ⟨b, o, rfl, hbb, hcell⟩ := liesR_at (LiesR.below LA.out B) hlt
                obtain ⟨A', c', ei, hc', hli⟩ := hcell i hlt
                have hd : D.drop i = D.getD i [] :: D.drop (i + 1) := by
                  rw [List.drop_eq_getElem_cons hlt]; simp [hlt]
                have hcl := LC.out _ (row_ne D [] hlt)
                have hll := LL.out _ (row_ne D [] hlt)
                rw [hd] at hT
                unfold passM at hT
                generalize D.getD i [] = c at *
                have PO := fun t ht q n0 => push_once (now := now) (c := c) hll HO (t := t) ht q n0
                have IS := scan_all (now := now) (c := c) (fun x hx => (hll x hx).1)
                have hbz : base ≤ _ := Nat.le_trans HB.out B.size
                have start4 : Hid (UI2 wr c now (scanM now c 0 0 false) c.length (.int .i64 0) (.int .i64 ((0 : Nat) : Int)) (.bool false) (.int .i64 ((0 : Nat) : Int)) wr) := ⟨0, 0, 0, false, rfl, rfl, rfl, rfl, rfl, rfl, Nat.le_refl _, fun h => (by cases h), fun _ => by simp⟩
                generalize scanM now c 0 0 false = T4 at *
                have FIN1 : Hid (T4.2.2 = true ∨ 1 < T4.2.1 → passM (D.drop (i + 1)) now ag = T) := fun h => by rw [if_pos h] at hT; exact hT
                have FIN2 : Hid (¬ (T4.2.2 = true ∨ 1 < T4.2.1) → T4.2.1 = 0 → R = none) := fun h h0 => by
                  rw [if_neg h, if_pos h0] at hT
                  have hP := HP.out
                  rw [← hT] at hP
                  injection hP with hP
                  exact hP.symm
                have FIN3 : Hid (¬ (T4.2.2 = true ∨ 1 < T4.2.1) → T4.2.1 ≠ 0 → passM (D.drop (i + 1)) (now ++ [T4.1]) true = T ∧ Once (now ++ [T4.1]) ∧ now.contains T4.1 = false) := fun h h0 =>
                  ⟨by rw [if_neg h, if_neg h0] at hT; exact hT, PO T4 rfl h h0, by
                    cases e : now.contains T4.1 with
                    | false => rfl
                    | true => exact absurd (.inl (IS.held.2 ⟨_, (IS.open_ (by omega)).1, by simpa using e⟩)) h⟩
                have LI : Hid _ := hli
                have MH : Hid _ := M
                have BH : Hid _ := B
                have OH : Hid _ := HO
                have LH : Hid _ := hll
                clear M B HO hT hd hcell hli hll PO IS
                go_wp2_with fail
                go_loopg [12, 13, 14, 41] c.length (fun k x12 x13 x14 x41 w' => UI2 wr c now T4 k x12 x13 x14 x41 w')
                case atStart => exact start4.out
                case round =>
                  clear start4
                  obtain ⟨j, op, n, h, rfl, rfl, rfl, rfl, hkj, rfl, hnj, hT, hF⟩ := hrel
                  by_cases hlt2 : j < c.length
                  · obtain ⟨b2, o2, rfl, _, hc2⟩ := lies_at LI.out hlt2
                    have e2 := hc2 j hlt2
                    have hd2 : c.drop j = c.getD j 0 :: c.drop (j + 1) := by
                      rw [List.drop_eq_getElem_cons hlt2]; simp [hlt2]
                    have hx := LH.out _ (row_ne c 0 hlt2)
                    rw [hd2] at hF
                    unfold scanM at hF
                    generalize c.getD j 0 = x at *
                    have r1 := unit_look (MapW.at_ MH.out) x
                    have r2 := unit_look (MapW.at_ MH.out) (-x)
                    have hx1 : -60000 ≤ x := by omega
                    have hx2 : x ≤ 60000 := by omega
                    clear hd2 hc2 hx
                    cases h with
                    | true =>
                      have XT : Hid _ := hT rfl
                      clear hT
                      cases hp : now.contains x with
                      | true =>
                        rw [hp] at r1
                        clear hp hF
                        go_wp2_with fail
                        go_roundg (gk - 1)
                        case measure => omega
                        case rel => exact ⟨j + 1, op, n, true, rfl, by go_num, rfl, by go_num, by omega, rfl, by omega, fun _ => XT.out, fun h => (by cases h)⟩
                      | false =>
                        rw [hp] at r1
                        cases hq : now.contains (-x) with
                        | true =>
                          rw [hq] at r2
                          clear hp hq hF
                          go_wp2_with fail
                          go_roundg (gk - 1)
                          case measure => omega
                          case rel => exact ⟨j + 1, op, n, true, rfl, by go_num, rfl, by go_num, by omega, rfl, by omega, fun _ => XT.out, fun h => (by cases h)⟩
                        | false =>
                          rw [hq] at r2
                          by_cases hxo : x = op
                          · have g1 : (x != op) = false := by simp [hxo]
                            clear hp hq hxo hF
                            go_wp2_with fail
                            go_roundg (gk - 1)
                            case measure => omega
                            case rel => exact ⟨j + 1, op, n, true, rfl, by go_num, rfl, by go_num, by omega, rfl, by omega, fun _ => XT.out, fun h => (by cases h)⟩
                          · have g1 : (x != op) = true := by simp [hxo]
                            clear hp hq hxo hF
                            go_wp2_with fail
                            go_roundg (gk - 1)
                            case measure => omega
                            case rel => exact ⟨j + 1, x, n + 1, true, rfl, by go_num, rfl, by go_num, by omega, rfl, by omega, fun _ => XT.out, fun h => (by cases h)⟩
                    | false =>
                      clear hT
                      cases hp : now.contains x with
                      | true =>
                        rw [hp] at r1
                        have XT : Hid (T4.2.2 = true) := by
                          have hF := hF rfl
                          rw [hp] at hF
                          rw [← hF]
                          split
                          · exact scan_held _ _ _
                          · exact scan_held _ _ _
                        clear hp hF
                        go_wp2_with fail
                        go_roundg (gk - 1)
                        case measure => omega
                        case rel => exact ⟨j + 1, op, n, true, rfl, by go_num, rfl, by go_num, by omega, rfl, by omega, fun _ => XT.out, fun h => (by cases h)⟩
                      | false =>
                        rw [hp] at r1
                        have hF := hF rfl
                        rw [hp] at hF
                        cases hq : now.contains (-x) with
                        | true =>
                          rw [hq] at r2
                          rw [if_neg (by rw [hq]; simp)] at hF
                          have FH : Hid _ := hF
                          clear hp hq hF
                          go_wp2_with fail
                          go_roundg (gk - 1)
                          case measure => omega
                          case rel => exact ⟨j + 1, op, n, false, rfl, by go_num, rfl, by go_num, by omega, rfl, by omega, fun h => (by cases h), fun _ => by have := FH.out; simpa using this⟩
                        | false =>
                          rw [hq] at r2
                          by_cases hxo : x = op
                          · have g1 : (x != op) = false := by simp [hxo]
                            rw [if_neg (fun z => z.2 hxo)] at hF
                            have FH : Hid _ := hF
                            clear hp hq hxo hF
                            go_wp2_with fail
                            go_roundg (gk - 1)
                            case measure => omega
                            case rel => exact ⟨j + 1, op, n, false, rfl, by go_num, rfl, by go_num, by omega, rfl, by omega, fun h => (by cases h), fun _ => by have := FH.out; simpa using this⟩
                          · have g1 : (x != op) = true := by simp [hxo]
                            rw [if_pos ⟨hq, hxo⟩] at hF
                            have FH : Hid _ := hF
                            clear hp hq hxo hF
                            go_wp2_with fail
                            go_roundg (gk - 1)
                            case measure => omega
                            case rel => exact ⟨j + 1, x, n + 1, false, rfl, by go_num, rfl, by go_num, by omega, rfl, by omega, fun h => (by cases h), fun _ => by have := FH.out; simpa using this⟩
                  · have hnil : c.drop j = [] := List.drop_eq_nil_of_le (by omega)
                    have hge : decide (j < c.length) = false := decide_eq_false (by omega)
                    have hge2 : c.length ≤ j := by omega
                    rw [hnil] at hF
                    cases h with
                    | true =>
                      have TT : Hid _ := FIN1.out (.inl (hT rfl))
                      clear FIN1 FIN2 FIN3 hT hF hnil hlt2
                      go_wp2_with fail
                      go_roundg m2
                      case measure => omega
                      case rel => exact ⟨i + 1, now, ag, rfl, by go_num, by omega, MH.out, BH.out, OH.out, TT.out⟩
                    | false =>
                      have hF := hF rfl
                      unfold scanM at hF
                      subst hF
                      have F1 := FIN1.out
                      have F2 := FIN2.out
                      have F3 := FIN3.out
                      simp only at F1 F2 F3
                      clear FIN1 FIN2 FIN3 hT hnil hlt2
                      rcases Nat.lt_or_ge 1 n with hn2 | hn2
                      · have TT : Hid _ := F1 (.inr hn2)
                        have g1 : ((n : Int) == 0) = false := by simp; omega
                        have g2 : ((n : Int) == 1) = false := by simp; omega
                        clear F1 F2 F3 hn2
                        go_wp2_with fail
                        go_roundg m2
                        case measure => omega
                        case rel => exact ⟨i + 1, now, ag, rfl, by go_num, by omega, MH.out, BH.out, OH.out, TT.out⟩
                      · rcases Nat.eq_zero_or_pos n with hn0 | hn0
                        · subst hn0
                          have RN : Hid _ := F2 (by simp) rfl
                          clear F1 F2 F3 hn2
                          go_wp2_with fail
                          go_ret2
                          exact ⟨BH.out, .inl ⟨RN.out, _, rfl⟩⟩
                        · obtain rfl : n = 1 := by omega
                          obtain ⟨f1, f2, f3⟩ := F3 (by simp) (by omega)
                          obtain ⟨w9, hrun, M9, B9⟩ := unit_putW MB.out hbz MH.out op
                          rw [if_neg (by rw [f3]; simp)] at M9
                          have M9H : Hid _ := M9
                          have B9H : Hid _ := BH.out.trans B9
                          have TT : Hid _ := f1
                          have O9 : Hid _ := f2
                          clear F1 F2 F3 hn2 f1 f2 f3 M9 B9
                          go_wp2_with fail
                          go_roundg m2
                          case measure => omega
                          case rel => exact ⟨i + 1, now ++ [op], true, rfl, by go_num, by omega, M9H.out, B9H.out, O9.out, TT.out⟩
              · have hnil : D.drop i = [] := List.drop_eq_nil_of_le (by omega)
                have hge : decide (i < D.length) = false := decide_eq_false (by omega)
                have hge2 : D.length ≤ i := by omega
                rw [hnil] at hT
                unfold passM at hT
                subst hT
                have HP2 := HP.out
                have MH : Hid _ := M
                have BH : Hid _ := B
                have OH : Hid _ := HO
                cases ag with
                | true =>
                  have P3 : Hid (propM D m now = some R) := HP2
                  clear hlt hnil M B HO HP HP2
                  go_wp2_with fail
                  go_roundg m
                  case measure => omega
                  case rel => exact ⟨now, true, rfl, MH.out, BH.out, OH.out, fun _ => P3.out, fun h => by cases h⟩
                | false =>
                  have P3 : Hid (R = some now) := by injection HP2 with h; exact h.symm
                  clear hlt hnil M B HO HP HP2
                  go_wp2_with fail
                  go_roundg m
                  case measure => omega
                  case rel => exact ⟨now, false, rfl, MH.out, BH.out, OH.out, fun h => (by cases h), fun _ => P3.out⟩
end Go.Proofs.Ytdllaphnkbnpoaa
namespace Go.Proofs.Ytdllaphnkbnpoaa
open Go.RowKit Go.Proofs
open Go.ChangeMaps (setBlock)

section
variable {P : Program} {ops : Array Oper} {rest : List Oper} {o : Oper} {a : Act} {Q : Exit → Act → World → Prop}
theorem law_range (hg : o.guard = none) (m : Operand) (t k e : TypeId) (hop : o.op = Op.range t m) (ht : P.underlying t = some (.map k e)) {w : World} {b : Nat} {es : Array MapEntry} {c : Nat}
    (hm : a.eval m = .map (some b)) (hb : w.heap[b]? = some (.map es c))
    (h : wpList P ops Q rest (a.put o.dst (.pointer (some ⟨w.heap.size, 0, none⟩))) (w.alloc (.mapIter (some b) c #[] c))) : wpList P ops Q (o :: rest) a w := by
  refine wpList_plain hg fun K' hK' => ?_
  have hrun := run_range_map (P := P) w t k e b es c ht hb
  unfold Oper.wp
  simp [execOp, hop, hm, hrun, Result.andThen]
  exact hK' _ _ h
theorem law_next (hg : o.guard = none) (it : Operand) (hop : o.op = Op.next it false) {w : World} {r b since c0 : Nat} {seen : Array Nat} {es : Array MapEntry} {c : Nat}
    (hit : a.eval it = .pointer (some ⟨r, 0, none⟩)) (hr : w.heap[r]? = some (.mapIter (some b) since seen c0)) (hb : w.heap[b]? = some (.map es c)) (hold : ∀ x ∈ es.toList, x.born < since) (hsc : since ≤ c0)
    (hDone : (leftOf es seen).size = 0 → wpList P ops Q rest (a.put o.dst (.tuple #[.bool false])) w)
    (hMore : ∀ (e : MapEntry) (w1 : World), e ∈ (leftOf es seen).toList → (w1 = w ∨ w1 = w.drew) → wpList P ops Q rest (a.put o.dst (.tuple #[.bool true, e.key, e.val])) (setBlock w1 r (.mapIter (some b) since (seen.push e.born) c))) :
    wpList P ops Q (o :: rest) a w := by
  refine wpList_plain hg fun K' hK' => ?_
  unfold Oper.wp
  rcases run_next_at (P := P) w o.type r b since c0 seen es c hr hb hold hsc with ⟨h0, hrun⟩ | ⟨e, he, w1, hal, hrun⟩
  · simp [execOp, hop, hit, hrun, Result.andThen]
    exact hK' _ _ (hDone h0)
  · simp [execOp, hop, hit, hrun, Result.andThen]
    exact hK' _ _ (hMore e w1 he hal)
end

def keyOfE (e : MapEntry) : Int := match e.key with
  | .int _ x => x
  | _ => 0

theorem bm_entries {es : List MapEntry} {now : List Int} (h : es.map (fun e => (e.key, e.val)) = kvs ikey (bm now)) : (∀ e ∈ es, e.key = .int .i64 (keyOfE e) ∧ e.val = .bool true) ∧ es.map keyOfE = now := by
  induction es generalizing now with
  | nil => cases now with
    | nil => exact ⟨by simp, rfl⟩
    | cons x now => simp [kvs, bm] at h
  | cons e es ih => cases now with
    | nil => simp [kvs, bm] at h
    | cons x now =>
      simp only [List.map_cons, kvs, bm, List.cons.injEq, Prod.mk.injEq] at h
      obtain ⟨⟨h1, h2⟩, h3⟩ := h
      obtain ⟨i1, i2⟩ := ih (now := now) (by simpa [kvs, bm] using h3)
      have hk : keyOfE e = x := by unfold keyOfE; rw [h1]; rfl
      refine ⟨fun e' he' => ?_, by rw [List.map_cons, hk, i2]⟩
      rcases List.mem_cons.1 he' with rfl | he'
      · exact ⟨by rw [hk, h1]; rfl, h2⟩
      · exact i1 e' he'

theorem left_push {L : List MapEntry} (hn : (L.map (·.born)).Nodup) {e : MapEntry} (he : e ∈ L) : L.Perm (e :: L.filter fun x => !(x.born == e.born)) := by
  induction L with
  | nil => cases he
  | cons x L ih =>
    rw [List.map_cons, List.nodup_cons] at hn
    by_cases hx : x.born = e.born
    · have hxe : x = e := by
        rcases List.mem_cons.1 he with h | h
        · exact h.symm
        · exact absurd (List.mem_map.2 ⟨e, h, hx.symm⟩) hn.1
      subst hxe
      rw [List.filter_cons_of_neg (by simp)]
      have : L.filter (fun y => !(y.born == x.born)) = L := by
        rw [List.filter_eq_self]
        intro y hy
        have : y.born ≠ x.born := fun q => hn.1 (List.mem_map.2 ⟨y, hy, q⟩)
        simpa using this
      rw [this]
    · rw [List.filter_cons_of_pos (by simpa using hx)]
      have he2 : e ∈ L := by
        rcases List.mem_cons.1 he with h | h
        · exact absurd (by rw [h]) hx
        · exact h
      exact ((ih hn.2 he2).cons x).trans (List.Perm.swap e x _)

theorem leftOf_push {es : Array MapEntry} {seen : Array Nat} {n : Nat} : (leftOf es (seen.push n)).toList = (leftOf es seen).toList.filter fun x => !(x.born == n) := by
  unfold leftOf
  rw [Array.toList_filter, Array.toList_filter, List.filter_filter]
  refine List.filter_congr (fun x _ => ?_)
  have : (seen.push n).contains x.born = (seen.contains x.born || (x.born == n)) := by
    rw [Bool.eq_iff_iff]
    simp [Array.contains_iff_mem, Array.mem_push]
  rw [this]
  cases seen.contains x.born <;> cases (x.born == n) <;> rfl

theorem left_nodup {es : Array MapEntry} (hn : (es.toList.map (·.born)).Nodup) (seen : Array Nat) : ((leftOf es seen).toList.map (·.born)).Nodup := by
  unfold leftOf
  rw [Array.toList_filter]
  exact hn.sublist (List.Sublist.map _ List.filter_sublist)

def UrRel (base : Nat) (w w2 : World) (mb r : Nat) (es : Array MapEntry) (c : Nat) (now : List Int) (k : Nat) (x4 : Value) (wr : World) : Prop :=
  ∃ (seen : Array Nat) (c0 : Nat) (made : List Int) (v : Value), x4 = .slice (ad v) made.length (cp v) ∧ wr.heap[mb]? = some (.map es c) ∧ wr.heap[r]? = some (.mapIter (some mb) c seen c0) ∧ c ≤ c0 ∧ (leftOf es seen).size = k ∧
    Holds w2.heap.size wr (locs (.row v 3 (ints made))) ∧ Below base w wr ∧ w2.heap.size ≤ wr.heap.size ∧ (made ++ (leftOf es seen).toList.map keyOfE).Perm now

/-- What Units answers. -/
def unitsM (D : List (List Int)) (l : List Int) : List Int × Bool × Int :=
  if refM D ≠ 0 then ([], false, refM D) else if l.all isLit = false then ([], false, 1) else match propagateT D l with
    | none => ([], true, 0)
    | some now => (sortedM now, false, 0)
def UnitsRes (D : List (List Int)) (l : List Int) (w : World) (e : Ending) (w' : World) : Prop :=
  Below w.heap.size w w' ∧ ∃ A' c', e = .returned (.tuple #[.slice A' (unitsM D l).1.length c', .bool (unitsM D l).2.1, .int .i64 (unitsM D l).2.2]) ∧ Lies w'.heap.size w' A' (unitsM D l).1

/-- What the sort by variables does. -/
def SortBy : Prop := ∀ {base : Nat} {w : World} {v : Value} {xs : List Int}, Holds base w (locs (.row v 3 (ints xs))) → base ≤ w.heap.size → (∀ x ∈ xs, x.natAbs ≤ 200) → (xs.map Int.natAbs).Nodup →
    Calls Try.prog 48 #[.slice (ad v) xs.length (cp v), .func (.func 49) #[] #[]] w fun e w' => e = .returned (.tuple #[]) ∧ Below base w w' ∧ ∃ c', ad v = ad v ∧ c' = cp v ∧ Holds base w' (locs (.row (.slice (ad v) (sortedM xs).length c') 3 (ints (sortedM xs)))) ∧ (sortedM xs).length = xs.length ∧ (∀ ys, ys.Perm xs → sortedM ys = sortedM xs)

set_option maxRecDepth 100000 in
set_option maxHeartbeats 4000000 in
theorem pUnits_any (SB : SortBy) {w : World} {A A2 : Option Addr} {D : List (List Int)} {l : List Int} {c c2 : Nat} (h : LiesR w.heap.size w A D) (h2 : Lies w.heap.size w A2 l) (hn : D.length ≤ 9223372036854775807) (hm : ∀ e ∈ D, e.length ≤ 9223372036854775807) (hl : l.length ≤ 60000) :
    Calls Try.prog 26 #[.slice A D.length c, .slice A2 l.length c2] w (UnitsRes D l w) := by
  have C1 := Check_any (c := c) h (Nat.le_refl _) hn (fun j hj => hm _ (row_ne D [] hj))
  rw [← refM_eq] at C1
  have C2 : Hid (∀ W, Below w.heap.size w W → Calls Try.prog 46 #[.slice A2 l.length c2] W fun e w' => e = .returned (.bool (l.all isLit)) ∧ Below W.heap.size W w') := fun W B =>
    areLiterals_any ((h2.below B).mono B.size) (Nat.le_refl _) (by omega)
  unfold UnitsRes unitsM
  by_cases hr : refM D = 0
  · rw [hr] at C1
    rw [if_neg (by simp [hr])]
    cases hq : l.all isLit with
    | false =>
      rw [if_pos rfl]
      have CC := C2.out
      rw [hq] at CC
      have C3 : Hid _ := CC
      clear h h2 hm hr hq C2 CC
      go_enter Try.func26, Try.ntmps26
      go_wp2_with fail
      refine C1.mono ?_
      rintro e w1 ⟨rfl, B1⟩
      have c3 := C3.out w1 B1
      have B1h : Hid _ := B1
      clear C1 C3 B1
      go_wp2_with fail
      refine c3.mono ?_
      rintro e w2 ⟨rfl, B2⟩
      have B2h : Hid _ := B1h.out.trans (B2.mono B1h.out.size)
      clear c3 B2
      go_wp2_with fail
      go_ret3
      exact ⟨B2h.out, none, 0, rfl, .inl rfl⟩
    | true =>
      rw [if_neg (by simp)]
      obtain ⟨d6, dr, dl⟩ := refM_zero hr
      have ll := lit_small hq
      have CC := C2.out
      rw [hq] at CC
      have C3 : Hid _ := CC
      have U : Hid (∀ W, Below w.heap.size w W → Calls Try.prog 51 #[.slice A D.length c, .slice A2 l.length c2] W (UnitRes2 W.heap.size W (propagateT D l))) := fun W B =>
        units2_any (Nat.le_refl _) ((h.below B).mono B.size) ((h2.below B).mono B.size) (by omega) (fun e he => by have := dr e he; omega) hl dl ll (propagateT_eq dl ll)
      have ON : Hid (∀ now, propagateT D l = some now → Once now) := fun now hp => (prop_facts dl ll hp).2.2.1
      generalize propagateT D l = R at *
      clear h h2 hm hr hq C2 CC d6 dr dl ll
      cases R with
      | none =>
        go_enter Try.func26, Try.ntmps26
        go_wp2_with fail
        refine C1.mono ?_
        rintro e w1 ⟨rfl, B1⟩
        have c3 := C3.out w1 B1
        have B1h : Hid _ := B1
        clear C1 C3 B1
        go_wp2_with fail
        refine c3.mono ?_
        rintro e w2 ⟨rfl, B2⟩
        have B2h : Hid (Below w.heap.size w w2) := B1h.out.trans (B2.mono B1h.out.size)
        have u := U.out w2 B2h.out
        clear c3 B2 U
        go_wp2_with fail
        refine u.mono ?_
        rintro e w3 ⟨B3, ⟨_, v3, rfl⟩ | ⟨now, mb, hh, _⟩⟩
        · have B3h : Hid (Below w.heap.size w w3) := B2h.out.trans (B3.mono B2h.out.size)
          clear u B3
          go_wp2_with fail
          go_ret3
          exact ⟨B3h.out, none, 0, rfl, .inl rfl⟩
        · cases hh
      | some now =>
        have HO := ON.out now rfl
        have hnl := once_len HO
        go_enter Try.func26, Try.ntmps26
        go_wp2_with fail
        refine C1.mono ?_
        rintro e w1 ⟨rfl, B1⟩
        have c3 := C3.out w1 B1
        have B1h : Hid _ := B1
        clear C1 C3 B1
        go_wp2_with fail
        refine c3.mono ?_
        rintro e w2 ⟨rfl, B2⟩
        have B2h : Hid (Below w.heap.size w w2) := B1h.out.trans (B2.mono B1h.out.size)
        have u := U.out w2 B2h.out
        clear c3 B2 U
        go_wp2_with fail
        refine u.mono ?_
        rintro e w3 ⟨B3, ⟨hh, _⟩ | ⟨now', mb, hh, rfl, M, hmb⟩⟩
        · cases hh
        · injection hh with hh
          subst hh
          have B3h : Hid (Below w.heap.size w w3) := B2h.out.trans (B3.mono B2h.out.size)
          obtain ⟨es, cl, hes, hkv, hnb, hcb⟩ := M
          obtain ⟨hev, hkeys⟩ := bm_entries hkv
          have hmb3 : mb < w3.heap.size := (Array.getElem?_eq_some_iff.1 hes).1
          have hwmb : w.heap.size ≤ mb := Nat.le_trans B2h.out.size hmb
          have hold : Hid (∀ x ∈ es.toList, x.born < cl) := fun x hx => hcb _ (List.mem_map.2 ⟨x, hx, rfl⟩)
          have hw3 : w.heap.size ≤ w3.heap.size := B3h.out.size
          have s5 := size_alloc w3 (.mapIter (some mb) cl #[] cl)
          have r5 := alloc_at w3 (.mapIter (some mb) cl #[] cl)
          have m5 : (w3.alloc (.mapIter (some mb) cl #[] cl)).heap[mb]? = some (.map es cl) := by rw [heap_alloc_old _ _ hmb3]; exact hes
          have B5 : Below w.heap.size w (w3.alloc (.mapIter (some mb) cl #[] cl)) := B3h.out.alloc hw3 _
          have hl0 : (leftOf es #[]).toList = es.toList := by unfold leftOf; simp
          have hls : (leftOf es #[]).size = now.length := by rw [← Array.length_toList, hl0, ← hkeys, List.length_map]
          have start : Hid (UrRel w.heap.size w (w3.alloc (.mapIter (some mb) cl #[] cl)) mb w3.heap.size es cl now now.length (.slice none 0 0) (w3.alloc (.mapIter (some mb) cl #[] cl))) :=
            ⟨#[], cl, [], .slice none 0 0, rfl, m5, r5, Nat.le_refl _, hls, nil_put (Holds.nothing _ _) (Nat.le_refl _) (.loc 0) 3, B5, Nat.le_refl _, by rw [List.nil_append, hl0, hkeys]⟩
          have EV : Hid _ := hev
          have NB : Hid _ := hnb
          have HES : Hid _ := hes
          have HW : Hid _ := hw3
          have HMB : Hid (mb < w3.heap.size) := hmb3
          have HWM : Hid (w.heap.size ≤ mb) := hwmb
          have S5 : Hid ((w3.alloc (.mapIter (some mb) cl #[] cl)).heap.size = w3.heap.size + 1) := s5
          clear u B3 hkv hnb hcb hev hkeys hes s5 r5 m5 B5 hl0 hls hmb hwmb
          go_wp2_with (at_range; refine law_range rfl (.tmp 28) 62 3 4 rfl Try.underlying62 rfl HES.out ?_)
          obtain ⟨r, hr⟩ : ∃ r, r = w3.heap.size := ⟨_, rfl⟩
          rw [← hr] at start HW HMB S5 ⊢
          clear hr
          generalize w3.alloc (.mapIter (some mb) cl #[] cl) = w5 at *
          go_frame
          go_wp2_with fail
          go_loopg [4] now.length (fun k x4 wr => UrRel w.heap.size w w5 mb r es cl now k x4 wr)
          case atStart => exact start.out
          case round =>
            clear start
            obtain ⟨seen, c0, made, v, rfl, hm1, hr1, hc0, hk, H, B, hsz, hperm⟩ := hrel
            have M1 : Hid _ := hm1
            have R1 : Hid _ := hr1
            have C0 : Hid _ := hc0
            have HH : Hid _ := H
            have BH : Hid _ := B
            have SZ : Hid _ := hsz
            have PM : Hid _ := hperm
            have LK : Hid _ := hk
            have hml : made.length ≤ 201 := by
              have := hperm.length_eq
              rw [List.length_append] at this
              omega
            clear hm1 hr1 hc0 H B hsz hperm hk
            go_wp2_with (at_next; refine law_next rfl (.tmp 29) rfl rfl R1.out M1.out hold.out C0.out ?_ ?_)
            · intro h0
              have h0' : leftOf es seen = #[] := by first | exact h0 | exact Array.eq_empty_of_size_eq_zero h0
              have hPM := PM.out
              rw [h0'] at hPM
              have hPM2 : made.Perm now := by simpa using hPM
              have SRT := SB HH.out SZ.out (fun x hx => HO.2 x (hPM2.mem_iff.1 hx)) ((hPM2.map Int.natAbs).nodup_iff.2 HO.1)
              have hk0 : gk = 0 := by have := LK.out; rw [h0'] at this; simpa using this.symm
              have PM2 : Hid _ := hPM2
              clear h0 h0' hPM hPM2 PM R1 M1 LK
              go_wp2_with fail
              refine SRT.mono ?_
              rintro e w9 ⟨rfl, B9, c9, _, rfl, H9, hl9, hu9⟩
              have e9 : sortedM now = sortedM made := hu9 now PM2.out.symm
              have L9 : Hid (Lies w9.heap.size w9 (ad v) (sortedM now)) := by rw [e9]; exact row_lies (v := .slice (ad v) (sortedM made).length (cp v)) H9 (k := .loc 0) rfl
              have hl10 : Hid ((sortedM now).length = made.length) := by rw [e9]; exact hl9
              have BF : Hid (Below w.heap.size w w9) := BH.out.trans (B9.mono (by have := S5.out; have := HW.out; omega))
              clear SRT B9 H9 hl9 hu9 e9
              go_wp2_with fail
              go_ret3
              exact ⟨BF.out, ad v, cp v, by rw [hl10.out]; rfl, L9.out⟩
            · intro e w1 he hal
              have he2 : e ∈ (leftOf es seen).toList := by first | exact he | simpa using he
              have hee : e ∈ es.toList := by
                have h9 := he2
                unfold leftOf at h9
                rw [Array.toList_filter] at h9
                exact (List.mem_filter.1 h9).1
              obtain ⟨hek, hev⟩ := EV.out e hee
              have hrw : r < wr.heap.size := by have := S5.out; have := SZ.out; omega
              have hmr : mb ≠ r := by have := HMB.out; omega
              have hh1 : w1.heap = wr.heap := by rcases hal with h | h <;> rw [h] <;> rfl
              have hb1 : Below w.heap.size wr w1 := by
                rcases hal with h | h
                · rw [h]; exact Below.refl _ _
                · rw [h]; exact (Below.refl _ _).drew
              have hw6 : (setBlock w1 r (.mapIter (some mb) cl (seen.push e.born) cl)).heap = wr.heap.setIfInBounds r (.mapIter (some mb) cl (seen.push e.born) cl) := by
                show w1.heap.setIfInBounds r _ = _
                rw [hh1]
              have h6r : (setBlock w1 r (.mapIter (some mb) cl (seen.push e.born) cl)).heap[r]? = some (.mapIter (some mb) cl (seen.push e.born) cl) := by rw [hw6]; simp [hrw]
              have h6o : ∀ b, b ≠ r → (setBlock w1 r (.mapIter (some mb) cl (seen.push e.born) cl)).heap[b]? = wr.heap[b]? := fun b hb => by
                rw [hw6, Array.getElem?_setIfInBounds_ne (fun q => hb q.symm)]
              have h6s : (setBlock w1 r (.mapIter (some mb) cl (seen.push e.born) cl)).heap.size = wr.heap.size := by rw [hw6]; simp
              have B6 : Below w.heap.size wr (setBlock w1 r (.mapIter (some mb) cl (seen.push e.born) cl)) :=
                ⟨hb1.os, hb1.tape, hb1.output, by rw [h6s]; exact Nat.le_refl _, fun b hb => h6o b (by have := HW.out; omega)⟩
              have H6 : Holds w5.heap.size (setBlock w1 r (.mapIter (some mb) cl (seen.push e.born) cl)) (locs (.row v 3 (ints made))) := HH.out.other (fun b hb _ => h6o b (by have := S5.out; omega))
              have hen := run_entry_at (P := Try.prog) _ r mb cl seen es cl e h6r (by rw [h6o mb hmr]; exact M1.out) hee NB.out
              rw [hek, hev] at hen
              have PL := left_push (left_nodup NB.out seen) he2
              rw [← leftOf_push] at PL
              have PM3 : Hid (((made ++ [keyOfE e]) ++ (leftOf es (seen.push e.born)).toList.map keyOfE).Perm now) := by
                refine List.Perm.trans ?_ PM.out
                rw [List.append_assoc]
                refine List.Perm.append_left made ?_
                exact (PL.map keyOfE).symm
              have LK3 : Hid ((leftOf es (seen.push e.born)).size + 1 = gk) := by
                have h1 := PL.length_eq
                have h2 := LK.out
                rw [List.length_cons, Array.length_toList, Array.length_toList] at h1
                show _ + 1 = _
                omega
              have M3 : Hid _ := (h6o mb hmr).trans M1.out
              have R3 : Hid _ := h6r
              have B3x : Hid _ := BH.out.trans B6
              have SZ3 : Hid (w5.heap.size ≤ (setBlock w1 r (.mapIter (some mb) cl (seen.push e.born) cl)).heap.size) := by rw [h6s]; exact SZ.out
              have LS : Hid _ := H6.alloc (.cells #[.int .i64 (keyOfE e)] 3)
              have HBZ : Hid (w.heap.size ≤ (setBlock w1 r (.mapIter (some mb) cl (seen.push e.born) cl)).heap.size) := by rw [h6s]; have := HW.out; show _ ≤ _; omega
              rw [hek, hev]
              generalize keyOfE e = x at *
              generalize setBlock w1 r (.mapIter (some mb) cl (seen.push e.born) cl) = w6 at *
              obtain ⟨m, rfl⟩ : ∃ m, gk = m + 1 := ⟨gk - 1, by have := LK3.out; omega⟩
              clear he hal he2 hee hek hev hh1 hb1 hw6 h6r h6o h6s B6 H6 PL M1 R1 C0 HH PM LK
              go_wp2_with (at_builtin; refine law_pushAt LS.out (.loc 0) rfl (.tmp 36) (.tmp 38) 26 3 (.int .i64 0) 8 rfl Try.underlying26 info3 rfl (by decide) made.length (.int .i64 x) rfl (ints_length _) rfl w6.heap.size rfl ?hy rfl ?hb ?hl ?_)
              try (case hy => first | exact cell_new _ _ _ _ (by simp) | exact cell_new_drew _ _ _ _ (by simp))
              try (case hb => have := SZ3.out; rw [size_alloc]; omega)
              case hl => omega
              intro A3 c3 w7 H7 B7 _
              rw [ints_snoc, upd_locs] at H7
              have G7 : Below w5.heap.size w6 w7 := ((Below.refl w5.heap.size w6).alloc SZ3.out _).trans B7
              have H7h : Hid _ := H7
              have M7 : Hid _ := (G7.block mb (by have := S5.out; have := HMB.out; omega)).trans M3.out
              have R7 : Hid _ := (G7.block r (by have := S5.out; omega)).trans R3.out
              have B7h : Hid _ := B3x.out.trans (G7.mono (by have := S5.out; have := HW.out; omega))
              have SZ7 : Hid (w5.heap.size ≤ w7.heap.size) := Nat.le_trans SZ3.out G7.size
              clear H7 B7 G7
              go_wp2_with fail
              go_roundg m
              case measure => omega
              case rel => exact ⟨seen.push e.born, cl, made ++ [x], .slice A3 (made.length + 1) c3, by simp [ad, cp], M7.out, R7.out, Nat.le_refl _, by have := LK3.out; omega, H7h.out, B7h.out, SZ7.out, PM3.out⟩
  · rw [if_pos hr]
    have g1 : (refM D != 0) = true := by simp [hr]
    clear h h2 hm hr C2
    generalize refM D = r at *
    go_enter Try.func26, Try.ntmps26
    go_wp2_with fail
    refine C1.mono ?_
    rintro e w1 ⟨rfl, B1⟩
    have B1h : Hid _ := B1
    clear C1 B1
    go_wp2_with fail
    go_ret3
    exact ⟨B1h.out, none, 0, rfl, .inl rfl⟩

set_option maxRecDepth 100000 in
set_option maxHeartbeats 4000000 in
theorem rUnits_any {w : World} {A A2 : Option Addr} {D : List (List Int)} {l : List Int} {c c2 : Nat} (h : LiesR w.heap.size w A D) (h2 : Lies w.heap.size w A2 l) (hn : D.length ≤ 9223372036854775807) (hm : ∀ e ∈ D, e.length ≤ 9223372036854775807) (hw : ∀ e ∈ D, ∀ x ∈ e, -9223372036854775808 ≤ x ∧ x ≤ 9223372036854775807) (hl : l.length ≤ 60000) (hlw : ∀ x ∈ l, -9223372036854775808 ≤ x ∧ x ≤ 9223372036854775807) :
    Calls Try.prog 27 #[.slice A D.length c, .slice A2 l.length c2] w (UnitsRes D l w) := by
  have C1 := refCheck_any (c := c) h hn hm hw
  have C2 := literals_any (c := c2) h2 (by omega) hlw
  unfold UnitsRes unitsM
  by_cases hr : refM D = 0
  · rw [hr] at C1
    rw [if_neg (by simp [hr])]
    cases hq : l.all isLit with
    | false =>
      rw [if_pos rfl]
      rw [hq] at C2
      clear h h2 hm hr hq hw hlw
      go_enter Try.func27, Try.ntmps27
      go_wp2_with fail
      refine C1.mono ?_
      rintro e w1 ⟨rfl, rfl⟩
      clear C1
      go_wp2_with fail
      refine C2.mono ?_
      rintro e w2 ⟨rfl, rfl⟩
      clear C2
      go_wp2_with fail
      go_ret3
      exact ⟨Below.refl _ _, none, 0, rfl, .inl rfl⟩
    | true =>
      rw [if_neg (by simp)]
      obtain ⟨d6, dr, dl⟩ := refM_zero hr
      have ll := lit_small hq
      rw [hq] at C2
      have U := refProp_any (c2 := c2) (cc := c) (Nat.le_refl _) h h2 (by omega) (fun e he => by have := dr e he; omega) hl dl ll (propagateT_eq dl ll)
      have ON : Hid (∀ now, propagateT D l = some now → Once now) := fun now hp => (prop_facts dl ll hp).2.2.1
      generalize propagateT D l = R at *
      clear h h2 hm hr hq d6 dr dl ll hw hlw
      cases R with
      | none =>
        go_enter Try.func27, Try.ntmps27
        go_wp2_with fail
        refine C1.mono ?_
        rintro e w1 ⟨rfl, rfl⟩
        clear C1
        go_wp2_with fail
        refine C2.mono ?_
        rintro e w2 ⟨rfl, rfl⟩
        clear C2
        go_wp2_with fail
        refine U.mono ?_
        rintro e w3 ⟨B3, ⟨_, rfl⟩ | ⟨now, v, hh, _⟩⟩
        · have B3h : Hid _ := B3
          clear U B3
          go_wp2_with fail
          go_ret3
          exact ⟨B3h.out, none, 0, rfl, .inl rfl⟩
        · cases hh
      | some now =>
        have HO := ON.out now rfl
        have hnl := once_len HO
        go_enter Try.func27, Try.ntmps27
        go_wp2_with fail
        refine C1.mono ?_
        rintro e w1 ⟨rfl, rfl⟩
        clear C1
        go_wp2_with fail
        refine C2.mono ?_
        rintro e w2 ⟨rfl, rfl⟩
        clear C2
        go_wp2_with fail
        refine U.mono ?_
        rintro e w3 ⟨B3, ⟨hh, _⟩ | ⟨now', v, hh, rfl, H3⟩⟩
        · cases hh
        · injection hh with hh
          subst hh
          have SC := sorted_any (c := cp v) (Nat.le_refl w3.heap.size) (row_lies H3 (k := .loc 0) rfl) (by omega) (fun x hx => by have := HO.2 x hx; omega)
          have B3h : Hid _ := B3
          clear U B3 H3
          go_wp2_with fail
          refine SC.mono ?_
          rintro e w4 ⟨v4, rfl, B4, H4⟩
          have B4h : Hid _ := B3h.out.trans (B4.mono B3h.out.size)
          have L4 : Hid (Lies w4.heap.size w4 (ad v4) (sortedM now)) := row_lies H4 (k := .loc 0) rfl
          clear SC B4 H4
          go_wp2_with fail
          go_ret3
          exact ⟨B4h.out, ad v4, cp v4, rfl, L4.out⟩
  · rw [if_pos hr]
    have g1 : (refM D != 0) = true := by simp [hr]
    clear h h2 hm hr C2 hw hlw
    generalize refM D = r at *
    go_enter Try.func27, Try.ntmps27
    go_wp2_with fail
    refine C1.mono ?_
    rintro e w1 ⟨rfl, rfl⟩
    clear C1
    go_wp2_with fail
    go_ret3
    exact ⟨Below.refl _ _, none, 0, rfl, .inl rfl⟩
end Go.Proofs.Ytdllaphnkbnpoaa
