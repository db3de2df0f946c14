/- Part 8 of what the law's row leans on (Ng): the print's words and functions, cut to what is reached, and own texts. -/
import Derived.Deep.DeepMust
import Derived.Test.YtcjmplpfebpfpaaGreatDoorNg7
namespace Go.Proofs.YtcjmplpfebpfpaaGreatDoor
open Go.RowKit Go.Proofs Go.Proofs.YtcjmplpfebpfpaaGreatDoorW.PrintWords Go.Proofs.YtcjmplpfebpfpaaGreatDoorW.PrintLast Go.Proofs.YtcjmplpfebpfpaaGreatDoorW.PrintMore PKindInstances
set_option linter.unusedVariables false
set_option linter.unusedSimpArgs false

theorem appL_at (fd : ByteArray → Option S24) (fn bare : Bool) : ∀ (l : List S24) (i j : Nat) {x : S24}, l[j]? = some x →
    (appL fd fn bare i l)[j]? = some (if i + j = 0 ∧ bare = false ∧ x.f0 = 1 then x else appM fd x (fn && decide (i + j = 1) && (x.f0 == 3)))
  | [], i, j, x, h => by simp at h
  | k :: l, i, 0, x, h => by
    obtain rfl : k = x := by simpa using h
    simp only [appL, List.getElem?_cons_zero, Nat.add_zero]
  | k :: l, i, j + 1, x, h => by
    simp only [appL, List.getElem?_cons_succ]
    rw [appL_at fd fn bare l (i + 1) j (by simpa using h)]
    rw [show i + 1 + j = i + (j + 1) from by omega]
/-- The row in the midst of the loop. -/
def cutL (done l : List S24) (i : Nat) : List S24 := done.take i ++ l.drop i
theorem cutL_len {done l : List S24} {i : Nat} (h : done.length = l.length) : (cutL done l i).length = l.length := by
  unfold cutL
  rw [List.length_append, List.length_take, List.length_drop]
  omega
theorem cutL_at {done l : List S24} {i : Nat} {x : S24} (h : done.length = l.length) (hx : l[i]? = some x) : (cutL done l i)[i]? = some x := by
  have hi := (List.getElem?_eq_some_iff.1 hx).1
  unfold cutL
  rw [List.getElem?_append_right (by rw [List.length_take]; omega), List.length_take, List.getElem?_drop, show i + (i - min i done.length) = i from by omega, hx]
theorem cutL_set {done l : List S24} {i : Nat} {x : S24} (h : done.length = l.length) (hx : done[i]? = some x) : (cutL done l i).set i x = cutL done l (i + 1) := by
  have hi := (List.getElem?_eq_some_iff.1 hx).1
  unfold cutL
  rw [List.set_append_right _ _ (by rw [List.length_take]; omega), List.length_take, show i - min i done.length = 0 from by omega]
  rw [List.drop_eq_getElem_cons (by omega : i < l.length), List.set_cons_zero, List.take_add_one, hx, List.append_assoc]
  rfl
theorem cutL_keep {done l : List S24} {i : Nat} {x : S24} (h : done.length = l.length) (hx : done[i]? = some x) (hl : l[i]? = some x) : cutL done l (i + 1) = cutL done l i := by
  have e := cutL_set h hx
  have hi := (List.getElem?_eq_some_iff.1 hx).1
  rw [← e]
  refine List.ext_getElem? fun j => ?_
  by_cases hj : j = i
  · subst hj
    rw [List.getElem?_set_self (by rw [cutL_len h]; omega), cutL_at h hl]
  · rw [List.getElem?_set_ne (by omega)]
theorem cutL_zero (done l : List S24) : cutL done l 0 = l := by simp [cutL]
theorem cutL_all {done l : List S24} {i : Nat} (h : done.length = l.length) (hi : l.length ≤ i) : cutL done l i = done := by
  unfold cutL
  rw [List.take_of_length_le (by omega), List.drop_eq_nil_of_le hi, List.append_nil]
/-- An element of a row of one's own. -/
theorem own_at {w : World} {base g n cap : Nat} {ok : Nat → Prop} {l : List S24} (h : Kd.N k24 24 w base ok (.slice (some ⟨g, 0, none⟩) n cap) l) {i : Nat} (hi : i < n) {x : S24} (hx : l[i]? = some x) :
    ∃ A c, (w.cell? ⟨g, i * 4, none⟩ = some (.int .i64 x.f0) ∧ w.cell? ⟨g, i * 4 + 1, none⟩ = some (.int .i64 x.f1) ∧ w.cell? ⟨g, i * 4 + 2, none⟩ = some (.string x.f2) ∧ w.cell? ⟨g, i * 4 + 3, none⟩ = some (.slice A x.f3.length c)) ∧
      x.f3.length ≤ c ∧ Kd.F k24 w (fun k => ok k ∧ k ≠ g) A x.f3.length x.f3 := by
  obtain ⟨c, hcl, hK, hcc, hfr⟩ := Kd.N_elem h z24 (i : Int) (by omega) (by omega)
  rw [Int.toNat_natCast] at hK hcc
  rw [List.getD_eq_getElem?_getD, hx, Option.getD_some] at hK
  obtain ⟨A3, c3, rfl, h1, h2⟩ := k24_openF hK
  exact ⟨A3, c3, ⟨hcc 0 _ rfl, hcc 1 _ rfl, hcc 2 _ rfl, hcc 3 _ rfl⟩, h1, h2⟩

theorem cells_old {w : World} {gb : Nat} {i : Nat} {v0 v1 v2 v3 : Value} (h : w.cell? ⟨gb, i * 4, none⟩ = some v0 ∧ w.cell? ⟨gb, i * 4 + 1, none⟩ = some v1 ∧ w.cell? ⟨gb, i * 4 + 2, none⟩ = some v2 ∧ w.cell? ⟨gb, i * 4 + 3, none⟩ = some v3) :
    ∀ (j : Nat) (u : Value), [v0, v1, v2, v3][j]? = some u → w.cell? ⟨gb, ((i : Int)).toNat * k24.sz + j, none⟩ = some u := by
  intro j u hu
  have e : ((i : Int)).toNat * k24.sz = i * 4 := by rw [Int.toNat_natCast]; rfl
  rw [e]
  match j, hu with
  | 0, hu => obtain rfl := Option.some.inj hu; exact h.1
  | 1, hu => obtain rfl := Option.some.inj hu; exact h.2.1
  | 2, hu => obtain rfl := Option.some.inj hu; exact h.2.2.1
  | 3, hu => obtain rfl := Option.some.inj hu; exact h.2.2.2
  | j + 4, hu => simp at hu
theorem cells_one {a b : Int} {s : ByteArray} {A : Option Addr} {n c : Nat} : ∀ q ∈ [Value.int .i64 a, .int .i64 b, .string s, .slice A n c], q.oneCell' = true := by
  intro q hq
  simp only [List.mem_cons, List.not_mem_nil, or_false] at hq
  rcases hq with rfl | rfl | rfl | rfl <;> rfl
theorem place_i (i : Nat) : i * 4 = ((i : Int)).toNat * k24.sz + 0 := by rw [Int.toNat_natCast]; rfl
theorem size24 (a b c d : Value) : (Tryz.prog.info? 24).map (fun x => x.size) = some [a, b, c, d].length := by
  have h := info24
  rw [Option.map_eq_some_iff] at h ⊢
  obtain ⟨i, h1, h2⟩ := h
  simp only [Prod.mk.injEq] at h2
  exact ⟨i, h1, h2.2.1⟩
theorem far5 {w : World} {a b k : Nat} {v v0 v1 v2 v3 : Value} (h1 : k ≠ a) (h2 : k ≠ b) : (((((w.setCell ⟨a, 3, none⟩ v).setCell ⟨b, 0, none⟩ v0).setCell ⟨b, 1, none⟩ v1).setCell ⟨b, 2, none⟩ v2).setCell ⟨b, 3, none⟩ v3).heap[k]? = w.heap[k]? := by
  rw [Below.heap_setCell _ _ _ k h2, Below.heap_setCell _ _ _ k h2, Below.heap_setCell _ _ _ k h2, Below.heap_setCell _ _ _ k h2, Below.heap_setCell _ _ _ k h1]
/-- What holds of the loop. -/
def ApRel (X WC : World) (okR : Nat → Prop) (AV : Option Addr) (cV : Nat) (done l : List S24) (k : Nat) (x46 : Value) (wr : World) : Prop :=
  ∃ (i : Nat), x46 = .int .i64 (i : Int) ∧ k + i = l.length ∧ Below WC.heap.size WC wr ∧ Kd.N k24 24 wr WC.heap.size okR (.slice AV l.length cV) (cutL done l i)

set_option maxRecDepth 100000 in
set_option maxHeartbeats 16000000 in
/-- A list. -/
theorem app_list (n : Int) (s : ByteArray) (l : List S24) (by_ : List S51) (w : World) (ok : Nat → Prop) (A AB : Option Addr) (c cb : Nat) (bare : Bool) (hr : Kd.F k24 w ok A l.length l) (hc : l.length ≤ c) (hw : wids l < 9000000)
    (hby : Kd.F k51 w ok AB by_.length by_) (hbc : by_.length ≤ cb) (hbn : by_.length < 9000000) (hq : ∀ x ∈ l, AppOk by_ x ∧ wid x < 9000000) :
    Calls Tryz.prog 39 #[formV 3 n s A l.length c, .slice AB by_.length cb, .bool bare] w (AppPost w ok ⟨3, n, s, appL (findK by_) (!bare && isFunW (headL l)) bare 0 l⟩) := by
  have hu24 := Tryz.underlying24
  have hu51 := Tryz.underlying51
  have hu22 := Tryz.underlying22
  have hll := wids_len l
  have hn0 : l.length < 9000000 := by omega
  obtain ⟨x1, x2, xb⟩ := twoB w (Obj.cells #[.int .i64 3, .int .i64 n, .string s, .slice A l.length c] 24) (Obj.cells #[.int .i64 0, .int .i64 0, .string ⟨#[]⟩, .slice none 0 0] 24)
  have XB : Hid _ := xb
  have X2 : Hid _ := x2
  have X1 : Hid _ := x1
  obtain ⟨fn, hfn⟩ : ∃ fn, fn = (!bare && isFunW (headL l)) := ⟨_, rfl⟩
  rw [← hfn]
  obtain ⟨done, hdone⟩ : ∃ done, done = appL (findK by_) fn bare 0 l := ⟨_, rfl⟩
  rw [← hdone]
  have hdl : Hid (done.length = l.length) := by rw [hdone]; exact appL_len _ _ _ _ _
  have hda : Hid (∀ (j : Nat) (x : S24), l[j]? = some x → done[j]? = some (if j = 0 ∧ bare = false ∧ x.f0 = 1 then x else appM (findK by_) x (fn && decide (j = 1) && (x.f0 == 3)))) := fun j x h => by
    have := appL_at (findK by_) fn bare l 0 j h
    rw [Nat.zero_add] at this
    rw [hdone]
    exact this
  have HR : Hid (Kd.F k24 w (fun k => ok k ∧ k < w.heap.size) A l.length l) := Kd.F_bound hr
  have HBY : Hid (Kd.F k51 w (fun k => ok k ∧ k < w.heap.size) AB by_.length by_) := Kd.F_bound hby
  have HQ : Hid _ := hq
  have HHD : Hid (∀ W, Below w.heap.size w W → _) := fun W h => Head_three n s c W (Kd.C_below (Kd.F_now hr) h)
  have CL : Hid (∀ W, Below w.heap.size w W → _) := fun W h => Clone_any l A c W (fun k => ok k ∧ k < w.heap.size) (Kd.F_below HR.out h) hc hn0
  clear hr xb x1 x2 hby hq hdone hll hw
  cases bare with
  | true =>
    simp only [Bool.not_true, Bool.false_and] at hfn
    subst hfn
    go_enter Tryz.func39, Tryz.ntmps39
    go_upto_region 1 with fail
    generalize (w.alloc (Obj.cells #[.int .i64 3, .int .i64 n, .string s, .slice A l.length c] 24)).alloc (Obj.cells #[.int .i64 0, .int .i64 0, .string ⟨#[]⟩, .slice none 0 0] 24) = X at *
    obtain ⟨p0, p1, p2, p3⟩ := cells4 X1.out
    obtain ⟨q0, q1, q2, q3⟩ := cells4 X2.out
    have HW4 : Hid (Below X.heap.size X X) := Below.refl _ _
    go_wp2_with fail
    refine Calls.mono (CL.out _ (below_after XB.out HW4.out)) ?_
    rintro e w5 ⟨v, rfl, hN, B5⟩
    obtain ⟨AV, cV, rfl⟩ := Kd.N_slice hN
    have HW5 : Hid (Below X.heap.size X w5) := below_after HW4.out B5
    have x1 := blk_below X1.out HW5.out
    have x2 := blk_below X2.out HW5.out
    clear p0 p1 p2 p3 q0 q1 q2 q3
    obtain ⟨p0, p1, p2, p3⟩ := cells4 x1
    obtain ⟨q0, q1, q2, q3⟩ := cells4 x2
    have hwX : X.heap.size ≤ X.heap.size := HW4.out.size
    have hX0 : w.heap.size + 1 < X.heap.size := blk_lt X2.out
    have start : Hid (ApRel X X (fun k => ok k ∧ k < w.heap.size ∨ X.heap.size ≤ k) AV cV done l l.length (.int .i64 ((0 : Nat) : Int)) w5) := ⟨0, rfl, rfl, B5, by
      rw [cutL_zero]
      exact Kd.N_mono hN (fun k hk => by rcases hk with hk | hk; exact .inl hk.1; exact .inr (by omega))⟩
    clear x1 x2 hN B5
    go_wp2_with fail
    go_loopg [46] l.length (fun k x46 wr => ApRel X X (fun k => ok k ∧ k < w.heap.size ∨ X.heap.size ≤ k) AV cV done l k x46 wr)
    case atStart => exact start.out
    case round =>
      clear start p0 p1 p2 p3 q0 q1 q2 q3
      obtain ⟨i, rfl, hki, hB, hN⟩ := hrel
      have HBr : Hid (Below X.heap.size X wr) := hB
      have x1 := blk_below X1.out (below_after HW4.out hB)
      have x2 := blk_below X2.out (below_after HW4.out hB)
      have hsz : X.heap.size ≤ wr.heap.size := hB.size
      obtain ⟨p0, p1, p2, p3⟩ := cells4 x1
      obtain ⟨q0, q1, q2, q3⟩ := cells4 x2
      clear hB
      by_cases hlt : i < l.length
      · obtain ⟨gk, rfl⟩ : ∃ g, gk = g + 1 := ⟨gk - 1, by omega⟩
        have e1 : decide (i < l.length) = true := decide_eq_true hlt
        obtain ⟨x, hx⟩ : ∃ x, l[i]? = some x := ⟨l[i]'hlt, List.getElem?_eq_getElem _⟩
        have hd := hda.out i x hx
        obtain ⟨gb, cap, e9, hgb, hgl, _⟩ := Kd.N_form hN (by rw [cutL_len hdl.out]; omega)
        obtain rfl : AV = some ⟨gb, 0, none⟩ := by injection e9
        clear e9
        obtain ⟨A5, c5, ⟨g0, g1, g2, g3⟩, g4, g5⟩ := own_at hN hlt (cutL_at hdl.out hx)
        have HX : Hid _ := hx
        have HD : Hid _ := hd
        have HN : Hid _ := hN
        have G5 : Hid _ := g5
        clear hx hd hN g5
        obtain ⟨y0, y1, y2, y3⟩ := x
        simp only [] at g0 g1 g2 g3 g4
        have z1 : Hid _ := x1
        have z2 : Hid _ := x2
        clear x1 x2
        go_upto_region 13 with fail
        have V4 := (MapKept.heap_alloc wr (Obj.cells #[.int .i64 y0, .int .i64 y1, .string y2, .slice A5 y3.length c5] 24)).1
        have HV : Hid (Below wr.heap.size wr (wr.alloc (Obj.cells #[.int .i64 y0, .int .i64 y1, .string y2, .slice A5 y3.length c5] 24))) := below_alloc (Below.refl _ _) _
        generalize wr.alloc (Obj.cells #[.int .i64 y0, .int .i64 y1, .string y2, .slice A5 y3.length c5] 24) = V at *
        generalize hbk : wr.heap.size = bk at *
        have hV9 : Below wr.heap.size wr V := by subst hbk; exact HV.out
        clear HV
        have N2 : Hid _ := Kd.N_below HN.out hV9
        have HBV : Hid (Below X.heap.size X V) := below_after HBr.out hV9
        have G6 : Hid _ := Kd.F_below G5.out hV9
        replace g0 := pw_cell_below hV9 g0
        replace g1 := pw_cell_below hV9 g1
        replace g2 := pw_cell_below hV9 g2
        replace g3 := pw_cell_below hV9 g3
        have hgV : gb < V.heap.size := Nat.lt_of_lt_of_le (by omega) hV9.size
        clear hV9 HN G5 p0 p1 p2 p3 q0 q1 q2 q3
        obtain ⟨r0, r1, r2, r3⟩ := cells4 V4
        have HG : Hid _ := And.intro g0 (And.intro g1 (And.intro g2 g3))
        obtain ⟨YY, hYY⟩ : ∃ YY, YY = appM (findK by_) ⟨y0, y1, y2, y3⟩ (false && decide (i = 1) && (y0 == 3)) := ⟨_, rfl⟩
        have HD2 : Hid (¬ (i = 0 ∧ true = false ∧ y0 = 1) → done[i]? = some YY) := fun h => by rw [HD.out]; first | rw [if_neg h, hYY] | (rw [if_neg (by simpa using h), hYY])
        have hwV : X.heap.size ≤ V.heap.size := Nat.le_trans hwX HBV.out.size
        have APP : Hid (∀ b, (false && decide (i = 1) && (y0 == 3)) = b → Calls Tryz.prog 39 #[formV y0 y1 y2 A5 y3.length c5, .slice AB by_.length cb, .bool b] V (AppPost V (fun k => (ok k ∧ k < w.heap.size ∨ X.heap.size ≤ k) ∧ k ≠ gb) YY)) := fun b hb => by
          have h9 := HQ.out _ (List.mem_of_getElem? HX.out)
          rw [hYY, hb]
          refine h9.1 V _ A5 AB c5 cb b G6.out g4 h9.2 ?_ hbc hbn
          exact Kd.F_mono (Kd.F_below HBY.out (below_after XB.out (below_after HW4.out HBV.out))) (fun k hk => ⟨.inl hk, fun e => by have := hk.2; omega⟩)
        clear hYY g0 g1 g2 g3 V4 G6
        have hnk : ¬ (i = 0 ∧ true = false ∧ y0 = 1) := fun h => by cases h.2.1
        have hbq : (false && decide (i = 1) && (y0 == 3)) = false := rfl
        rcases Nat.eq_zero_or_pos i with h0 | h0
        · have t0 : decide (0 < i) = false := decide_eq_false (by omega)
          have HH0 : Hid _ := h0
          clear h0
          go_wp2_with fail
          refine Calls.mono (APP.out _ hbq) ?_
          rintro e w6 ⟨A7, c7, rfl, hc7, hF7, B7⟩
          have HF7 : Hid _ := hF7
          have HN6 : Hid _ := Kd.N_below N2.out B7
          have HB6 : Hid (Below X.heap.size X w6) := below_after HBV.out B7
          obtain ⟨g0, g1, g2, g3⟩ := HG.out
          have HG6 : Hid _ := And.intro (pw_cell_below B7 g0) (And.intro (pw_cell_below B7 g1) (And.intro (pw_cell_below B7 g2) (pw_cell_below B7 g3)))
          clear g0 g1 g2 g3 hF7 B7 r0 r1 r2 r3
          go_wp2_with ((with_reducible refine gate_store (t := 24) (p := 76) rfl ?_); go_must (refine Kd.N_store k24 (w0 := X) X.heap.size rfl rfl 24 (.tmp 76) (.tmp 75) rfl 24 (i : Int) 0 (cutL done l i) YY (formV YY.f0 YY.f1 YY.f2 A7 YY.f3.length c7) [.int .i64 YY.f0, .int .i64 YY.f1, .string YY.f2, .slice A7 YY.f3.length c7] [.int .i64 y0, .int .i64 y1, .string y2, .slice A5 y3.length c5] (fun k => ok k ∧ k < w.heap.size ∨ X.heap.size ≤ k) (fun k => (ok k ∧ k < w.heap.size ∨ X.heap.size ≤ k) ∧ k ≠ gb) rfl ?_ rfl rfl ?_ ?_ HN6.out (by omega) (by omega) rfl ?_ (by show (4 : Nat) ≤ 4; omega) ?_ (fun k hk => hk) HB6.out ?_))
          · exact place_i i
          · exact size24 _ _ _ _
          · exact cells_one
          · exact cells_old HG6.out
          · refine k24_mkF w6 _ YY hc7 ?_
            refine Kd.F_mono HF7.out (fun k hk => ?_)
            rcases hk with hk | hk
            · exact hk
            · exact ⟨.inr (by omega), by omega⟩
          · intro w7 hN7 hB7 hg7
            rw [Int.toNat_natCast, cutL_set hdl.out (HD2.out hnk)] at hN7
            have HN7 : Hid _ := hN7
            have HB7 : Hid _ := hB7
            clear hN7 hB7 hg7
            go_wp2_with fail
            go_roundg gk
            case measure => omega
            case rel => exact ⟨i + 1, by first | go_num | (rw [HH0.out]; first | rfl | go_num), by omega, HB7.out, HN7.out⟩
        · have t0 : decide (0 < i) = true := decide_eq_true h0
          go_wp2_with fail
          refine Calls.mono (APP.out _ hbq) ?_
          rintro e w6 ⟨A7, c7, rfl, hc7, hF7, B7⟩
          have HF7 : Hid _ := hF7
          have HN6 : Hid _ := Kd.N_below N2.out B7
          have HB6 : Hid (Below X.heap.size X w6) := below_after HBV.out B7
          obtain ⟨g0, g1, g2, g3⟩ := HG.out
          have HG6 : Hid _ := And.intro (pw_cell_below B7 g0) (And.intro (pw_cell_below B7 g1) (And.intro (pw_cell_below B7 g2) (pw_cell_below B7 g3)))
          clear g0 g1 g2 g3 hF7 B7 r0 r1 r2 r3
          go_wp2_with ((with_reducible refine gate_store (t := 24) (p := 76) rfl ?_); go_must (refine Kd.N_store k24 (w0 := X) X.heap.size rfl rfl 24 (.tmp 76) (.tmp 75) rfl 24 (i : Int) 0 (cutL done l i) YY (formV YY.f0 YY.f1 YY.f2 A7 YY.f3.length c7) [.int .i64 YY.f0, .int .i64 YY.f1, .string YY.f2, .slice A7 YY.f3.length c7] [.int .i64 y0, .int .i64 y1, .string y2, .slice A5 y3.length c5] (fun k => ok k ∧ k < w.heap.size ∨ X.heap.size ≤ k) (fun k => (ok k ∧ k < w.heap.size ∨ X.heap.size ≤ k) ∧ k ≠ gb) rfl ?_ rfl rfl ?_ ?_ HN6.out (by omega) (by omega) rfl ?_ (by show (4 : Nat) ≤ 4; omega) ?_ (fun k hk => hk) HB6.out ?_))
          · exact place_i i
          · exact size24 _ _ _ _
          · exact cells_one
          · exact cells_old HG6.out
          · refine k24_mkF w6 _ YY hc7 ?_
            refine Kd.F_mono HF7.out (fun k hk => ?_)
            rcases hk with hk | hk
            · exact hk
            · exact ⟨.inr (by omega), by omega⟩
          · intro w7 hN7 hB7 hg7
            rw [Int.toNat_natCast, cutL_set hdl.out (HD2.out hnk)] at hN7
            have HN7 : Hid _ := hN7
            have HB7 : Hid _ := hB7
            clear hN7 hB7 hg7
            go_wp2_with fail
            go_roundg gk
            case measure => omega
            case rel => exact ⟨i + 1, by first | go_num | (rw [HH0.out]; first | rfl | go_num), by omega, HB7.out, HN7.out⟩

      · have e1 : decide (i < l.length) = false := decide_eq_false hlt
        rw [cutL_all hdl.out (by omega)] at hN
        have HN : Hid _ := hN
        have Z1 : Hid _ := x1
        have Z2 : Hid _ := x2
        have f13 := frozen4 (i := 3) x1
        have f0 := frozen4 (i := 0) x2
        have f1 := frozen4 (i := 1) x2
        have f2 := frozen4 (i := 2) x2
        have f3 := frozen4 (i := 3) x2
        have hge : l.length ≤ i := by omega
        clear hN x1 x2
        go_wp2_with fail
        have hRd := (Kd.N_reads' HN.out).2.1
        have hdl9 := hdl.out
        have BE : Below w.heap.size w (((((wr.setCell ⟨w.heap.size, 3, none⟩ (.slice AV l.length cV)).setCell ⟨w.heap.size + 1, 0, none⟩ (.int .i64 3)).setCell ⟨w.heap.size + 1, 1, none⟩ (.int .i64 n)).setCell ⟨w.heap.size + 1, 2, none⟩ (.string s)).setCell ⟨w.heap.size + 1, 3, none⟩ (.slice AV l.length cV)) :=
          below4 (Below.setCell (below_after XB.out (below_after HW4.out HBr.out)) (Nat.le_refl _) _) (by omega)
        refine bodyPost_ret (results_cell_row rfl _ _ (w.heap.size + 1) 24 #[.int .i64 3, .int .i64 n, .string s, .slice AV l.length cV] (0, 0) _ rfl (set4 ((heap_setCell_other wr ⟨w.heap.size, 3, none⟩ (w.heap.size + 1) _ (by simp)).trans Z2.out)) Tryz.underlying24 rfl (by kernel_rfl)) rfl ⟨AV, cV, ?_, ?_, ?_, BE⟩
        · simp only [hdl9]
        · simp only [hdl9]; exact hRd
        · have FN := Kd.N_F HN.out
          simp only [hdl9]
          refine Kd.F_mono (Kd.F_step FN (fun k hk hlt => far5 (a := w.heap.size) (b := w.heap.size + 1) ?_ ?_)) (fun k hk => ?_)
          · rcases hk with hk | hk
            · omega
            · omega
          · rcases hk with hk | hk
            · omega
            · omega
          · rcases hk with hk | hk
            · exact .inl hk.1
            · exact .inr (by omega)
  | false =>
    simp only [Bool.not_false, Bool.true_and] at hfn
    have hfw : ((headL l).toList == [102, 117, 110]) = fn := hfn.symm
    have HFN : Hid _ := hfn
    clear hfn
    go_enter Tryz.func39, Tryz.ntmps39
    go_upto_region 1 with fail
    generalize (w.alloc (Obj.cells #[.int .i64 3, .int .i64 n, .string s, .slice A l.length c] 24)).alloc (Obj.cells #[.int .i64 0, .int .i64 0, .string ⟨#[]⟩, .slice none 0 0] 24) = X at *
    obtain ⟨p0, p1, p2, p3⟩ := cells4 X1.out
    obtain ⟨q0, q1, q2, q3⟩ := cells4 X2.out
    go_wp2_with fail
    refine Calls.mono (HHD.out _ XB.out) ?_
    rintro e w4 ⟨rfl, B4⟩
    have HW4 : Hid (Below X.heap.size X w4) := B4
    replace p0 := pw_cell_below B4 p0
    replace p1 := pw_cell_below B4 p1
    replace p2 := pw_cell_below B4 p2
    replace p3 := pw_cell_below B4 p3
    clear B4
    go_wp2_with fail
    refine Calls.mono (CL.out _ (below_after XB.out HW4.out)) ?_
    rintro e w5 ⟨v, rfl, hN, B5⟩
    obtain ⟨AV, cV, rfl⟩ := Kd.N_slice hN
    have HW5 : Hid (Below X.heap.size X w5) := below_after HW4.out B5
    have x1 := blk_below X1.out HW5.out
    have x2 := blk_below X2.out HW5.out
    clear p0 p1 p2 p3 q0 q1 q2 q3
    obtain ⟨p0, p1, p2, p3⟩ := cells4 x1
    obtain ⟨q0, q1, q2, q3⟩ := cells4 x2
    have hwX : X.heap.size ≤ w4.heap.size := HW4.out.size
    have hX0 : w.heap.size + 1 < X.heap.size := blk_lt X2.out
    have start : Hid (ApRel X w4 (fun k => ok k ∧ k < w.heap.size ∨ X.heap.size ≤ k) AV cV done l l.length (.int .i64 ((0 : Nat) : Int)) w5) := ⟨0, rfl, rfl, B5, by
      rw [cutL_zero]
      exact Kd.N_mono hN (fun k hk => by rcases hk with hk | hk; exact .inl hk.1; exact .inr (by omega))⟩
    clear x1 x2 hN B5
    go_wp2_with fail
    go_loopg [46] l.length (fun k x46 wr => ApRel X w4 (fun k => ok k ∧ k < w.heap.size ∨ X.heap.size ≤ k) AV cV done l k x46 wr)
    case atStart => exact start.out
    case round =>
      clear start p0 p1 p2 p3 q0 q1 q2 q3
      obtain ⟨i, rfl, hki, hB, hN⟩ := hrel
      have HBr : Hid (Below w4.heap.size w4 wr) := hB
      have x1 := blk_below X1.out (below_after HW4.out hB)
      have x2 := blk_below X2.out (below_after HW4.out hB)
      have hsz : w4.heap.size ≤ wr.heap.size := hB.size
      obtain ⟨p0, p1, p2, p3⟩ := cells4 x1
      obtain ⟨q0, q1, q2, q3⟩ := cells4 x2
      clear hB
      by_cases hlt : i < l.length
      · obtain ⟨gk, rfl⟩ : ∃ g, gk = g + 1 := ⟨gk - 1, by omega⟩
        have e1 : decide (i < l.length) = true := decide_eq_true hlt
        obtain ⟨x, hx⟩ : ∃ x, l[i]? = some x := ⟨l[i]'hlt, List.getElem?_eq_getElem _⟩
        have hd := hda.out i x hx
        obtain ⟨gb, cap, e9, hgb, hgl, _⟩ := Kd.N_form hN (by rw [cutL_len hdl.out]; omega)
        obtain rfl : AV = some ⟨gb, 0, none⟩ := by injection e9
        clear e9
        obtain ⟨A5, c5, ⟨g0, g1, g2, g3⟩, g4, g5⟩ := own_at hN hlt (cutL_at hdl.out hx)
        have HX : Hid _ := hx
        have HD : Hid _ := hd
        have HN : Hid _ := hN
        have G5 : Hid _ := g5
        clear hx hd hN g5
        obtain ⟨y0, y1, y2, y3⟩ := x
        simp only [] at g0 g1 g2 g3 g4
        have z1 : Hid _ := x1
        have z2 : Hid _ := x2
        clear x1 x2
        go_upto_region 13 with fail
        have V4 := (MapKept.heap_alloc wr (Obj.cells #[.int .i64 y0, .int .i64 y1, .string y2, .slice A5 y3.length c5] 24)).1
        have HV : Hid (Below wr.heap.size wr (wr.alloc (Obj.cells #[.int .i64 y0, .int .i64 y1, .string y2, .slice A5 y3.length c5] 24))) := below_alloc (Below.refl _ _) _
        generalize wr.alloc (Obj.cells #[.int .i64 y0, .int .i64 y1, .string y2, .slice A5 y3.length c5] 24) = V at *
        generalize hbk : wr.heap.size = bk at *
        have hV9 : Below wr.heap.size wr V := by subst hbk; exact HV.out
        clear HV
        have N2 : Hid _ := Kd.N_below HN.out hV9
        have HBV : Hid (Below w4.heap.size w4 V) := below_after HBr.out hV9
        have G6 : Hid _ := Kd.F_below G5.out hV9
        replace g0 := pw_cell_below hV9 g0
        replace g1 := pw_cell_below hV9 g1
        replace g2 := pw_cell_below hV9 g2
        replace g3 := pw_cell_below hV9 g3
        have hgV : gb < V.heap.size := Nat.lt_of_lt_of_le (by omega) hV9.size
        clear hV9 HN G5 p0 p1 p2 p3 q0 q1 q2 q3
        obtain ⟨r0, r1, r2, r3⟩ := cells4 V4
        have HG : Hid _ := And.intro g0 (And.intro g1 (And.intro g2 g3))
        obtain ⟨YY, hYY⟩ : ∃ YY, YY = appM (findK by_) ⟨y0, y1, y2, y3⟩ (fn && decide (i = 1) && (y0 == 3)) := ⟨_, rfl⟩
        have HD2 : Hid (¬ (i = 0 ∧ false = false ∧ y0 = 1) → done[i]? = some YY) := fun h => by rw [HD.out]; first | rw [if_neg h, hYY] | (rw [if_neg (by simpa using h), hYY])
        have hwV : X.heap.size ≤ V.heap.size := Nat.le_trans hwX HBV.out.size
        have APP : Hid (∀ b, (fn && decide (i = 1) && (y0 == 3)) = b → Calls Tryz.prog 39 #[formV y0 y1 y2 A5 y3.length c5, .slice AB by_.length cb, .bool b] V (AppPost V (fun k => (ok k ∧ k < w.heap.size ∨ X.heap.size ≤ k) ∧ k ≠ gb) YY)) := fun b hb => by
          have h9 := HQ.out _ (List.mem_of_getElem? HX.out)
          rw [hYY, hb]
          refine h9.1 V _ A5 AB c5 cb b G6.out g4 h9.2 ?_ hbc hbn
          exact Kd.F_mono (Kd.F_below HBY.out (below_after XB.out (below_after HW4.out HBV.out))) (fun k hk => ⟨.inl hk, fun e => by have := hk.2; omega⟩)
        clear hYY g0 g1 g2 g3 V4 G6
        rcases Nat.eq_zero_or_pos i with h0 | h0
        · have t0 : decide (0 < i) = false := decide_eq_false (by omega)
          have t1 : decide (i = 1) = false := decide_eq_false (by omega)
          have t2 : ((i : Int) == 1) = false := beq_eq_false_iff_ne.mpr (by omega)
          by_cases hk : y0 = 1
          · have k1 : (y0 != 1) = false := bne_eq_false_iff_eq.mpr hk
            have HK1 : Hid _ := hk
            have HH0 : Hid _ := h0
            clear h0 hk
            go_wp2_with fail
            have HN9 : Hid _ := N2.out
            go_roundg gk
            case measure => omega
            case rel => exact ⟨i + 1, by rw [HH0.out]; first | rfl | go_num, by omega, HBV.out, by rw [cutL_keep hdl.out (HD.out.trans (by rw [if_pos (by simp [HH0.out, HK1.out])])) HX.out]; exact N2.out⟩
          · have k1 : (y0 != 1) = true := bne_iff_ne.mpr hk
            have hnk : ¬ (i = 0 ∧ false = false ∧ y0 = 1) := fun h => hk h.2.2
            have HH0 : Hid _ := h0
            have hbq : (fn && decide (i = 1) && (y0 == 3)) = false := by rw [t1, Bool.and_false, Bool.false_and]
            clear h0 hk
            cases fn with
            | false =>
              go_wp2_with fail
              refine Calls.mono (APP.out _ hbq) ?_
              rintro e w6 ⟨A7, c7, rfl, hc7, hF7, B7⟩
              have HF7 : Hid _ := hF7
              have HN6 : Hid _ := Kd.N_below N2.out B7
              have HB6 : Hid (Below w4.heap.size w4 w6) := below_after HBV.out B7
              obtain ⟨g0, g1, g2, g3⟩ := HG.out
              have HG6 : Hid _ := And.intro (pw_cell_below B7 g0) (And.intro (pw_cell_below B7 g1) (And.intro (pw_cell_below B7 g2) (pw_cell_below B7 g3)))
              clear g0 g1 g2 g3 hF7 B7 r0 r1 r2 r3
              go_wp2_with ((with_reducible refine gate_store (t := 24) (p := 76) rfl ?_); go_must (refine Kd.N_store k24 (w0 := w4) w4.heap.size rfl rfl 24 (.tmp 76) (.tmp 75) rfl 24 (i : Int) 0 (cutL done l i) YY (formV YY.f0 YY.f1 YY.f2 A7 YY.f3.length c7) [.int .i64 YY.f0, .int .i64 YY.f1, .string YY.f2, .slice A7 YY.f3.length c7] [.int .i64 y0, .int .i64 y1, .string y2, .slice A5 y3.length c5] (fun k => ok k ∧ k < w.heap.size ∨ X.heap.size ≤ k) (fun k => (ok k ∧ k < w.heap.size ∨ X.heap.size ≤ k) ∧ k ≠ gb) rfl ?_ rfl rfl ?_ ?_ HN6.out (by omega) (by omega) rfl ?_ (by show (4 : Nat) ≤ 4; omega) ?_ (fun k hk => hk) HB6.out ?_))
              · exact place_i i
              · exact size24 _ _ _ _
              · exact cells_one
              · exact cells_old HG6.out
              · refine k24_mkF w6 _ YY hc7 ?_
                refine Kd.F_mono HF7.out (fun k hk => ?_)
                rcases hk with hk | hk
                · exact hk
                · exact ⟨.inr (by omega), by omega⟩
              · intro w7 hN7 hB7 hg7
                rw [Int.toNat_natCast, cutL_set hdl.out (HD2.out hnk)] at hN7
                have HN7 : Hid _ := hN7
                have HB7 : Hid _ := hB7
                clear hN7 hB7 hg7
                go_wp2_with fail
                go_roundg gk
                case measure => omega
                case rel => exact ⟨i + 1, by first | go_num | (rw [HH0.out]; first | rfl | go_num), by omega, HB7.out, HN7.out⟩
            | true =>
              go_wp2_with fail
              refine Calls.mono (APP.out _ hbq) ?_
              rintro e w6 ⟨A7, c7, rfl, hc7, hF7, B7⟩
              have HF7 : Hid _ := hF7
              have HN6 : Hid _ := Kd.N_below N2.out B7
              have HB6 : Hid (Below w4.heap.size w4 w6) := below_after HBV.out B7
              obtain ⟨g0, g1, g2, g3⟩ := HG.out
              have HG6 : Hid _ := And.intro (pw_cell_below B7 g0) (And.intro (pw_cell_below B7 g1) (And.intro (pw_cell_below B7 g2) (pw_cell_below B7 g3)))
              clear g0 g1 g2 g3 hF7 B7 r0 r1 r2 r3
              go_wp2_with ((with_reducible refine gate_store (t := 24) (p := 76) rfl ?_); go_must (refine Kd.N_store k24 (w0 := w4) w4.heap.size rfl rfl 24 (.tmp 76) (.tmp 75) rfl 24 (i : Int) 0 (cutL done l i) YY (formV YY.f0 YY.f1 YY.f2 A7 YY.f3.length c7) [.int .i64 YY.f0, .int .i64 YY.f1, .string YY.f2, .slice A7 YY.f3.length c7] [.int .i64 y0, .int .i64 y1, .string y2, .slice A5 y3.length c5] (fun k => ok k ∧ k < w.heap.size ∨ X.heap.size ≤ k) (fun k => (ok k ∧ k < w.heap.size ∨ X.heap.size ≤ k) ∧ k ≠ gb) rfl ?_ rfl rfl ?_ ?_ HN6.out (by omega) (by omega) rfl ?_ (by show (4 : Nat) ≤ 4; omega) ?_ (fun k hk => hk) HB6.out ?_))
              · exact place_i i
              · exact size24 _ _ _ _
              · exact cells_one
              · exact cells_old HG6.out
              · refine k24_mkF w6 _ YY hc7 ?_
                refine Kd.F_mono HF7.out (fun k hk => ?_)
                rcases hk with hk | hk
                · exact hk
                · exact ⟨.inr (by omega), by omega⟩
              · intro w7 hN7 hB7 hg7
                rw [Int.toNat_natCast, cutL_set hdl.out (HD2.out hnk)] at hN7
                have HN7 : Hid _ := hN7
                have HB7 : Hid _ := hB7
                clear hN7 hB7 hg7
                go_wp2_with fail
                go_roundg gk
                case measure => omega
                case rel => exact ⟨i + 1, by first | go_num | (rw [HH0.out]; first | rfl | go_num), by omega, HB7.out, HN7.out⟩
        · have t0 : decide (0 < i) = true := decide_eq_true h0
          have hnk : ¬ (i = 0 ∧ false = false ∧ y0 = 1) := fun h => by omega
          cases fn with
          | false =>
            have hbq : (false && decide (i = 1) && (y0 == 3)) = false := rfl
            go_wp2_with fail
            refine Calls.mono (APP.out _ hbq) ?_
            rintro e w6 ⟨A7, c7, rfl, hc7, hF7, B7⟩
            have HF7 : Hid _ := hF7
            have HN6 : Hid _ := Kd.N_below N2.out B7
            have HB6 : Hid (Below w4.heap.size w4 w6) := below_after HBV.out B7
            obtain ⟨g0, g1, g2, g3⟩ := HG.out
            have HG6 : Hid _ := And.intro (pw_cell_below B7 g0) (And.intro (pw_cell_below B7 g1) (And.intro (pw_cell_below B7 g2) (pw_cell_below B7 g3)))
            clear g0 g1 g2 g3 hF7 B7 r0 r1 r2 r3
            go_wp2_with ((with_reducible refine gate_store (t := 24) (p := 76) rfl ?_); go_must (refine Kd.N_store k24 (w0 := w4) w4.heap.size rfl rfl 24 (.tmp 76) (.tmp 75) rfl 24 (i : Int) 0 (cutL done l i) YY (formV YY.f0 YY.f1 YY.f2 A7 YY.f3.length c7) [.int .i64 YY.f0, .int .i64 YY.f1, .string YY.f2, .slice A7 YY.f3.length c7] [.int .i64 y0, .int .i64 y1, .string y2, .slice A5 y3.length c5] (fun k => ok k ∧ k < w.heap.size ∨ X.heap.size ≤ k) (fun k => (ok k ∧ k < w.heap.size ∨ X.heap.size ≤ k) ∧ k ≠ gb) rfl ?_ rfl rfl ?_ ?_ HN6.out (by omega) (by omega) rfl ?_ (by show (4 : Nat) ≤ 4; omega) ?_ (fun k hk => hk) HB6.out ?_))
            · exact place_i i
            · exact size24 _ _ _ _
            · exact cells_one
            · exact cells_old HG6.out
            · refine k24_mkF w6 _ YY hc7 ?_
              refine Kd.F_mono HF7.out (fun k hk => ?_)
              rcases hk with hk | hk
              · exact hk
              · exact ⟨.inr (by omega), by omega⟩
            · intro w7 hN7 hB7 hg7
              rw [Int.toNat_natCast, cutL_set hdl.out (HD2.out hnk)] at hN7
              have HN7 : Hid _ := hN7
              have HB7 : Hid _ := hB7
              clear hN7 hB7 hg7
              go_wp2_with fail
              go_roundg gk
              case measure => omega
              case rel => exact ⟨i + 1, by first | go_num | (rw [HH0.out]; first | rfl | go_num), by omega, HB7.out, HN7.out⟩
          | true =>
            by_cases h1 : i = 1
            · have t2 : ((i : Int) == 1) = true := beq_iff_eq.mpr (by omega)
              by_cases h3 : y0 = 3
              · have k3 : (y0 == 3) = true := beq_iff_eq.mpr h3
                have hbq : (true && decide (i = 1) && (y0 == 3)) = true := by rw [k3, decide_eq_true h1]; rfl
                have HH1 : Hid _ := h1
                have HH3 : Hid _ := h3
                clear h1 h3
                go_wp2_with fail
                refine Calls.mono (APP.out _ hbq) ?_
                rintro e w6 ⟨A7, c7, rfl, hc7, hF7, B7⟩
                have HF7 : Hid _ := hF7
                have HN6 : Hid _ := Kd.N_below N2.out B7
                have HB6 : Hid (Below w4.heap.size w4 w6) := below_after HBV.out B7
                obtain ⟨g0, g1, g2, g3⟩ := HG.out
                have HG6 : Hid _ := And.intro (pw_cell_below B7 g0) (And.intro (pw_cell_below B7 g1) (And.intro (pw_cell_below B7 g2) (pw_cell_below B7 g3)))
                clear g0 g1 g2 g3 hF7 B7 r0 r1 r2 r3
                go_wp2_with ((with_reducible refine gate_store (t := 24) (p := 76) rfl ?_); go_must (refine Kd.N_store k24 (w0 := w4) w4.heap.size rfl rfl 24 (.tmp 76) (.tmp 75) rfl 24 (i : Int) 0 (cutL done l i) YY (formV YY.f0 YY.f1 YY.f2 A7 YY.f3.length c7) [.int .i64 YY.f0, .int .i64 YY.f1, .string YY.f2, .slice A7 YY.f3.length c7] [.int .i64 y0, .int .i64 y1, .string y2, .slice A5 y3.length c5] (fun k => ok k ∧ k < w.heap.size ∨ X.heap.size ≤ k) (fun k => (ok k ∧ k < w.heap.size ∨ X.heap.size ≤ k) ∧ k ≠ gb) rfl ?_ rfl rfl ?_ ?_ HN6.out (by omega) (by omega) rfl ?_ (by show (4 : Nat) ≤ 4; omega) ?_ (fun k hk => hk) HB6.out ?_))
                · exact place_i i
                · exact size24 _ _ _ _
                · exact cells_one
                · exact cells_old HG6.out
                · refine k24_mkF w6 _ YY hc7 ?_
                  refine Kd.F_mono HF7.out (fun k hk => ?_)
                  rcases hk with hk | hk
                  · exact hk
                  · exact ⟨.inr (by omega), by omega⟩
                · intro w7 hN7 hB7 hg7
                  rw [Int.toNat_natCast, cutL_set hdl.out (HD2.out hnk)] at hN7
                  have HN7 : Hid _ := hN7
                  have HB7 : Hid _ := hB7
                  clear hN7 hB7 hg7
                  go_wp2_with fail
                  go_roundg gk
                  case measure => omega
                  case rel => exact ⟨i + 1, by first | go_num | (rw [HH0.out]; first | rfl | go_num), by omega, HB7.out, HN7.out⟩
              · have k3 : (y0 == 3) = false := beq_eq_false_iff_ne.mpr h3
                have hbq : (true && decide (i = 1) && (y0 == 3)) = false := by rw [k3, Bool.and_false]
                have HH1 : Hid _ := h1
                clear h1
                go_wp2_with fail
                refine Calls.mono (APP.out _ hbq) ?_
                rintro e w6 ⟨A7, c7, rfl, hc7, hF7, B7⟩
                have HF7 : Hid _ := hF7
                have HN6 : Hid _ := Kd.N_below N2.out B7
                have HB6 : Hid (Below w4.heap.size w4 w6) := below_after HBV.out B7
                obtain ⟨g0, g1, g2, g3⟩ := HG.out
                have HG6 : Hid _ := And.intro (pw_cell_below B7 g0) (And.intro (pw_cell_below B7 g1) (And.intro (pw_cell_below B7 g2) (pw_cell_below B7 g3)))
                clear g0 g1 g2 g3 hF7 B7 r0 r1 r2 r3
                go_wp2_with ((with_reducible refine gate_store (t := 24) (p := 76) rfl ?_); go_must (refine Kd.N_store k24 (w0 := w4) w4.heap.size rfl rfl 24 (.tmp 76) (.tmp 75) rfl 24 (i : Int) 0 (cutL done l i) YY (formV YY.f0 YY.f1 YY.f2 A7 YY.f3.length c7) [.int .i64 YY.f0, .int .i64 YY.f1, .string YY.f2, .slice A7 YY.f3.length c7] [.int .i64 y0, .int .i64 y1, .string y2, .slice A5 y3.length c5] (fun k => ok k ∧ k < w.heap.size ∨ X.heap.size ≤ k) (fun k => (ok k ∧ k < w.heap.size ∨ X.heap.size ≤ k) ∧ k ≠ gb) rfl ?_ rfl rfl ?_ ?_ HN6.out (by omega) (by omega) rfl ?_ (by show (4 : Nat) ≤ 4; omega) ?_ (fun k hk => hk) HB6.out ?_))
                · exact place_i i
                · exact size24 _ _ _ _
                · exact cells_one
                · exact cells_old HG6.out
                · refine k24_mkF w6 _ YY hc7 ?_
                  refine Kd.F_mono HF7.out (fun k hk => ?_)
                  rcases hk with hk | hk
                  · exact hk
                  · exact ⟨.inr (by omega), by omega⟩
                · intro w7 hN7 hB7 hg7
                  rw [Int.toNat_natCast, cutL_set hdl.out (HD2.out hnk)] at hN7
                  have HN7 : Hid _ := hN7
                  have HB7 : Hid _ := hB7
                  clear hN7 hB7 hg7
                  go_wp2_with fail
                  go_roundg gk
                  case measure => omega
                  case rel => exact ⟨i + 1, by first | go_num | (rw [HH0.out]; first | rfl | go_num), by omega, HB7.out, HN7.out⟩
            · have t2 : ((i : Int) == 1) = false := beq_eq_false_iff_ne.mpr (by omega)
              have hbq : (true && decide (i = 1) && (y0 == 3)) = false := by rw [decide_eq_false h1]; rfl
              go_wp2_with fail
              refine Calls.mono (APP.out _ hbq) ?_
              rintro e w6 ⟨A7, c7, rfl, hc7, hF7, B7⟩
              have HF7 : Hid _ := hF7
              have HN6 : Hid _ := Kd.N_below N2.out B7
              have HB6 : Hid (Below w4.heap.size w4 w6) := below_after HBV.out B7
              obtain ⟨g0, g1, g2, g3⟩ := HG.out
              have HG6 : Hid _ := And.intro (pw_cell_below B7 g0) (And.intro (pw_cell_below B7 g1) (And.intro (pw_cell_below B7 g2) (pw_cell_below B7 g3)))
              clear g0 g1 g2 g3 hF7 B7 r0 r1 r2 r3
              go_wp2_with ((with_reducible refine gate_store (t := 24) (p := 76) rfl ?_); go_must (refine Kd.N_store k24 (w0 := w4) w4.heap.size rfl rfl 24 (.tmp 76) (.tmp 75) rfl 24 (i : Int) 0 (cutL done l i) YY (formV YY.f0 YY.f1 YY.f2 A7 YY.f3.length c7) [.int .i64 YY.f0, .int .i64 YY.f1, .string YY.f2, .slice A7 YY.f3.length c7] [.int .i64 y0, .int .i64 y1, .string y2, .slice A5 y3.length c5] (fun k => ok k ∧ k < w.heap.size ∨ X.heap.size ≤ k) (fun k => (ok k ∧ k < w.heap.size ∨ X.heap.size ≤ k) ∧ k ≠ gb) rfl ?_ rfl rfl ?_ ?_ HN6.out (by omega) (by omega) rfl ?_ (by show (4 : Nat) ≤ 4; omega) ?_ (fun k hk => hk) HB6.out ?_))
              · exact place_i i
              · exact size24 _ _ _ _
              · exact cells_one
              · exact cells_old HG6.out
              · refine k24_mkF w6 _ YY hc7 ?_
                refine Kd.F_mono HF7.out (fun k hk => ?_)
                rcases hk with hk | hk
                · exact hk
                · exact ⟨.inr (by omega), by omega⟩
              · intro w7 hN7 hB7 hg7
                rw [Int.toNat_natCast, cutL_set hdl.out (HD2.out hnk)] at hN7
                have HN7 : Hid _ := hN7
                have HB7 : Hid _ := hB7
                clear hN7 hB7 hg7
                go_wp2_with fail
                go_roundg gk
                case measure => omega
                case rel => exact ⟨i + 1, by first | go_num | (rw [HH0.out]; first | rfl | go_num), by omega, HB7.out, HN7.out⟩

      · have e1 : decide (i < l.length) = false := decide_eq_false hlt
        rw [cutL_all hdl.out (by omega)] at hN
        have HN : Hid _ := hN
        have Z1 : Hid _ := x1
        have Z2 : Hid _ := x2
        have f13 := frozen4 (i := 3) x1
        have f0 := frozen4 (i := 0) x2
        have f1 := frozen4 (i := 1) x2
        have f2 := frozen4 (i := 2) x2
        have f3 := frozen4 (i := 3) x2
        have hge : l.length ≤ i := by omega
        clear hN x1 x2
        go_wp2_with fail
        have hRd := (Kd.N_reads' HN.out).2.1
        have hdl9 := hdl.out
        have BE : Below w.heap.size w (((((wr.setCell ⟨w.heap.size, 3, none⟩ (.slice AV l.length cV)).setCell ⟨w.heap.size + 1, 0, none⟩ (.int .i64 3)).setCell ⟨w.heap.size + 1, 1, none⟩ (.int .i64 n)).setCell ⟨w.heap.size + 1, 2, none⟩ (.string s)).setCell ⟨w.heap.size + 1, 3, none⟩ (.slice AV l.length cV)) :=
          below4 (Below.setCell (below_after XB.out (below_after HW4.out HBr.out)) (Nat.le_refl _) _) (by omega)
        refine bodyPost_ret (results_cell_row rfl _ _ (w.heap.size + 1) 24 #[.int .i64 3, .int .i64 n, .string s, .slice AV l.length cV] (0, 0) _ rfl (set4 ((heap_setCell_other wr ⟨w.heap.size, 3, none⟩ (w.heap.size + 1) _ (by simp)).trans Z2.out)) Tryz.underlying24 rfl (by kernel_rfl)) rfl ⟨AV, cV, ?_, ?_, ?_, BE⟩
        · simp only [hdl9]
        · simp only [hdl9]; exact hRd
        · have FN := Kd.N_F HN.out
          simp only [hdl9]
          refine Kd.F_mono (Kd.F_step FN (fun k hk hlt => far5 (a := w.heap.size) (b := w.heap.size + 1) ?_ ?_)) (fun k hk => ?_)
          · rcases hk with hk | hk
            · omega
            · omega
          · rcases hk with hk | hk
            · omega
            · omega
          · rcases hk with hk | hk
            · exact .inl hk.1
            · exact .inr (by omega)

end Go.Proofs.YtcjmplpfebpfpaaGreatDoor

namespace Go.Proofs.YtcjmplpfebpfpaaGreatDoor
open Go.RowKit Go.Proofs Go.Proofs.YtcjmplpfebpfpaaGreatDoorW.PrintWords Go.Proofs.YtcjmplpfebpfpaaGreatDoorW.PrintLast Go.Proofs.YtcjmplpfebpfpaaGreatDoorW.PrintMore PKindInstances
set_option linter.unusedVariables false
set_option linter.unusedSimpArgs false

theorem wid_in' {l : List S24} {x : S24} (h : x ∈ l) : wid x ≤ wids l := by
  induction l with
  | nil => exact absurd h List.not_mem_nil
  | cons y l ih =>
    simp only [wids]
    rcases List.mem_cons.1 h with rfl | h
    · omega
    · have := ih h; omega
mutual
theorem app_ok (by_ : List S51) : ∀ x : S24, AppOk by_ x
  | ⟨a, n, s, l⟩ => by
    have hl := apps_ok by_ l
    intro w ok A AB c cb bare hr hc hw hby hbc hbn
    have hk := wid_kids ⟨a, n, s, l⟩
    simp only [] at hk hc hr
    by_cases h3 : a = 3
    · subst h3
      have e : appM (findK by_) ⟨3, n, s, l⟩ bare = ⟨3, n, s, appL (findK by_) (!bare && isFunW (headL l)) bare 0 l⟩ := by simp [appM]
      rw [e]
      exact app_list n s l by_ w ok A AB c cb bare hr hc (by omega) hby hbc hbn (fun x hx => ⟨hl x hx, by have := wid_in' hx; omega⟩)
    · by_cases h1 : a = 1
      · subst h1
        cases bare with
        | true =>
          have e : appM (findK by_) ⟨1, n, s, l⟩ true = ⟨1, n, s, l⟩ := by simp [appM]
          rw [e]
          exact app_leaf 1 n s l w ok A AB c by_.length cb true hr hc (.inr rfl) h3
        | false =>
          rw [app_word _ _ rfl]
          cases hf : findK by_ s with
          | none => exact app_keep n s l by_ w ok A AB c cb hr hc hby hbc hbn hf
          | some y => exact app_found n s l by_ w ok A AB c cb hr hc hby hbc hbn y hf
      · have e : appM (findK by_) ⟨a, n, s, l⟩ bare = ⟨a, n, s, l⟩ := by simp [appM, h1, h3]
        rw [e]
        exact app_leaf a n s l w ok A AB c by_.length cb bare hr hc (.inl h1) h3
theorem apps_ok (by_ : List S51) : ∀ (l : List S24), ∀ x ∈ l, AppOk by_ x
  | [], x, h => absurd h (List.not_mem_nil)
  | y :: l, x, h => by
    rcases List.mem_cons.1 h with h | h
    · rw [h]; exact app_ok by_ y
    · exact apps_ok by_ l x h
end

theorem far4 {w : World} {b k : Nat} {v0 v1 v2 v3 : Value} (h2 : k ≠ b) : ((((w.setCell ⟨b, 0, none⟩ v0).setCell ⟨b, 1, none⟩ v1).setCell ⟨b, 2, none⟩ v2).setCell ⟨b, 3, none⟩ v3).heap[k]? = w.heap[k]? := by
  rw [Below.heap_setCell _ _ _ k h2, Below.heap_setCell _ _ _ k h2, Below.heap_setCell _ _ _ k h2, Below.heap_setCell _ _ _ k h2]
set_option maxRecDepth 100000 in
theorem Apply_any (x : S24) (by_ : List S51) (w : World) (ok : Nat → Prop) (A AB : Option Addr) (c cb : Nat) (hr : Kd.F k24 w ok A x.f3.length x.f3) (hc : x.f3.length ≤ c) (hw : wid x < 9000000) (hby : Kd.F k51 w ok AB by_.length by_) (hbc : by_.length ≤ cb) (hbn : by_.length < 9000000) :
    Calls Tryz.prog 10 #[formV x.f0 x.f1 x.f2 A x.f3.length c, .slice AB by_.length cb] w (AppPost w ok (appM (findK by_) x false)) := by
  have hu24 := Tryz.underlying24
  obtain ⟨YY, hY⟩ : ∃ YY, YY = appM (findK by_) x false := ⟨_, rfl⟩
  have HA : Hid (∀ W, Below w.heap.size w W → Calls Tryz.prog 39 #[formV x.f0 x.f1 x.f2 A x.f3.length c, .slice AB by_.length cb, .bool false] W (AppPost W (fun k => ok k ∧ k < w.heap.size) YY)) := fun W h => by
    rw [hY]
    exact app_ok by_ x W _ A AB c cb false (Kd.F_below (Kd.F_bound hr) h) hc hw (Kd.F_below (Kd.F_bound hby) h) hbc hbn
  rw [← hY]
  clear hr hby hw hY
  obtain ⟨x0, x1, x2, x3⟩ := x
  obtain ⟨y1, y2, yb⟩ := twoB w (Obj.cells #[.int .i64 x0, .int .i64 x1, .string x2, .slice A x3.length c] 24) (Obj.cells #[.int .i64 0, .int .i64 0, .string ⟨#[]⟩, .slice none 0 0] 24)
  have XB : Hid _ := yb
  have X2 : Hid _ := y2
  clear yb y2
  go_enter Tryz.func10, Tryz.ntmps10
  go_upto_region 1 with fail
  generalize (w.alloc (Obj.cells #[.int .i64 x0, .int .i64 x1, .string x2, .slice A x3.length c] 24)).alloc (Obj.cells #[.int .i64 0, .int .i64 0, .string ⟨#[]⟩, .slice none 0 0] 24) = X at *
  obtain ⟨p0, p1, p2, p3⟩ := cells4 y1
  clear y1
  go_wp2_with fail
  refine Calls.mono (HA.out _ XB.out) ?_
  rintro e w5 ⟨A5, c5, rfl, hc5, hF5, B5⟩
  have y2 := blk_below X2.out B5
  obtain ⟨q0, q1, q2, q3⟩ := cells4 y2
  have f0 := frozen4 (i := 0) y2
  have f1 := frozen4 (i := 1) y2
  have f2 := frozen4 (i := 2) y2
  have f3 := frozen4 (i := 3) y2
  have Z2 : Hid _ := y2
  have HF5 : Hid _ := hF5
  have HB5 : Hid _ := B5
  clear y2 hF5 B5 p0 p1 p2 p3
  go_wp2_with fail
  have hXs := blk_lt X2.out
  have BE : Below w.heap.size w _ := below4 (a0 := .int .i64 YY.f0) (a1 := .int .i64 YY.f1) (a2 := .string YY.f2) (a3 := .slice A5 YY.f3.length c5) (b := w.heap.size + 1) (below_after XB.out HB5.out) (by omega)
  refine bodyPost_ret (results_cell_row rfl _ _ (w.heap.size + 1) 24 #[.int .i64 YY.f0, .int .i64 YY.f1, .string YY.f2, .slice A5 YY.f3.length c5] (0, 0) _ rfl (set4 Z2.out) Tryz.underlying24 rfl (by kernel_rfl)) rfl ⟨A5, c5, rfl, hc5, ?_, BE⟩
  refine Kd.F_mono (Kd.F_step HF5.out (fun k hk hlt => far4 (b := w.heap.size + 1) ?_)) (fun k hk => ?_)
  · rcases hk with hk | hk <;> omega
  · rcases hk with hk | hk
    · exact .inl hk.1
    · exact .inr (by omega)
end Go.Proofs.YtcjmplpfebpfpaaGreatDoor

namespace Go.Proofs.YtcjmplpfebpfpaaGreatDoor
open Go.RowKit Go.Proofs Go.Proofs.YtcjmplpfebpfpaaGreatDoorW.PrintWords Go.Proofs.YtcjmplpfebpfpaaGreatDoorW.PrintLast Go.Proofs.YtcjmplpfebpfpaaGreatDoorW.PrintMore PKindInstances
set_option linter.unusedVariables false
set_option linter.unusedSimpArgs false

theorem eq_list {a n m : Int} {s t : ByteArray} {l k : List S24} (ha : a = 3) (h : cmpL l k = 0) : eqM ⟨a, n, s, l⟩ ⟨a, m, t, k⟩ = true := by
  subst ha
  simp [eqM, cmpM, h]

/-- Words that do not occur as names. -/
def Nov (vs : List ByteArray) (x : S24) : Prop := ∀ v ∈ vs, v ∉ nm x
theorem Nov.word {vs : List ByteArray} (hr : ∀ v ∈ vs, resM v = false) {x : S24} (h : Nov vs x) (h1 : x.f0 = 1) : x.f2 ∉ vs := by
  intro hm
  obtain ⟨a, n, s, l⟩ := x
  obtain rfl : a = 1 := h1
  exact h s hm (by simp [nm, hr s hm])
theorem nms_mem {v : ByteArray} {x : S24} : ∀ {l : List S24}, x ∈ l → v ∈ nm x → v ∈ nms l
  | [], h, _ => absurd h List.not_mem_nil
  | y :: l, h, hv => by
    simp only [nms, List.mem_append]
    rcases List.mem_cons.1 h with rfl | h
    · exact .inl hv
    · exact .inr (nms_mem h hv)
theorem Nov.kid {vs : List ByteArray} {x k : S24} (h : Nov vs x) (h3 : x.f0 = 3) (hk : k ∈ x.f3) : Nov vs k := by
  intro v hv hm
  obtain ⟨a, n, s, l⟩ := x
  obtain rfl : a = 3 := h3
  exact h v hv (by simp only [nm]; simp; exact nms_mem hk hm)
mutual
def dpt : S24 → Nat
  | ⟨_, _, _, l⟩ => dpts l + 1
def dpts : List S24 → Nat
  | [] => 0
  | x :: l => max (dpt x) (dpts l)
end
theorem dpt_kid {k : S24} : ∀ {l : List S24}, k ∈ l → dpt k ≤ dpts l
  | [], h => absurd h List.not_mem_nil
  | y :: l, h => by
    simp only [dpts]
    rcases List.mem_cons.1 h with rfl | h
    · omega
    · have := dpt_kid h; omega
theorem dpt_eq (x : S24) : dpt x = dpts x.f3 + 1 := by cases x; rfl
theorem known_nov {vs : List ByteArray} (hr : ∀ v ∈ vs, resM v = false) {x : S24} (h : Nov vs x) (mt : List (ByteArray × S24)) (n : Nat) : knownM vs mt (n + 1) x = some x := by
  simp only [knownM]
  rw [if_neg]
  rintro ⟨h1, h2⟩
  exact h.word hr h1 h2
theorem var_nov {vs : List ByteArray} (hr : ∀ v ∈ vs, resM v = false) {x : S24} (h : Nov vs x) (b : Bool) : isVar vs x b = false := by
  unfold isVar
  by_cases h1 : x.f0 = 1
  · have := h.word hr h1
    simp [this]
  · have : (x.f0 == 1) = false := by simpa using h1
    simp [this]
theorem listsL_self (f : List (ByteArray × S24) → S24 → S24 → Bool → Option URes) (fn bare : Bool) (mt : List (ByteArray × S24)) : ∀ (l : List S24) (i : Nat), (∀ k ∈ l, ∀ b, f mt k k b = some (.ok mt)) → listsL f fn bare i mt l l = some (.ok mt)
  | [], i, _ => by simp [listsL]
  | k :: l, i, h => by
    simp only [listsL]
    have ih := listsL_self f fn bare mt l (i + 1) (fun k hk => h k (List.mem_cons_of_mem _ hk))
    rw [h k List.mem_cons_self, eq_self]
    simp only [if_true]
    rw [ih, ite_self]
/-- What has no variables is itself. -/
theorem unify_self {vs : List ByteArray} (hr : ∀ v ∈ vs, resM v = false) (mt : List (ByteArray × S24)) : ∀ (n : Nat) (x : S24) (b : Bool), Nov vs x → dpt x < n → unifyM vs n mt x x b = some (.ok mt)
  | 0, x, b, _, h => by omega
  | n + 1, x, b, hx, h => by
    obtain ⟨n, rfl⟩ : ∃ m, n = m + 1 := ⟨n - 1, by have := dpt_eq x; omega⟩
    have h1 : (if b then some x else knownM vs mt (n + 1) x) = some x := by
      rw [known_nov hr hx]; cases b <;> rfl
    simp only [unifyM]
    rw [h1]
    simp only [var_nov hr hx]
    rw [if_neg (by simp), if_neg (by simp), if_neg (by simp)]
    by_cases h3 : x.f0 = 3
    · rw [if_neg (by simp [h3])]
      unfold listsM
      rw [listsL_self]
      · simp
      · intro k hk b2
        exact unify_self hr mt (n + 1) k b2 (hx.kid h3 hk) (by have := dpt_kid hk; have := dpt_eq x; omega)
    · rw [if_pos (by simp [h3]), eq_self]
      rfl
theorem withinL_nov (f : S24 → Bool → Option Bool) (fn : Bool) : ∀ (l : List S24) (first : Bool), (∀ k ∈ l, ∀ b, f k b = some false) → withinL f fn first l = some false
  | [], _, _ => rfl
  | k :: l, first, h => by
    simp only [withinL]
    rw [h k List.mem_cons_self]
    exact withinL_nov f fn l false (fun k hk => h k (List.mem_cons_of_mem _ hk))
theorem types_mem {a : Int} {l : List S24} {b : Bool} {k : S24} (h : k ∈ typesL a l b) : a = 3 ∧ k ∈ l := by
  unfold typesL at h
  split at h
  · rename_i h3
    refine ⟨h3, ?_⟩
    cases l with
    | nil => exact h
    | cons y l =>
      simp only [] at h
      split at h
      · exact List.mem_cons_of_mem _ h
      · exact h
  · exact absurd h List.not_mem_nil
theorem within_nov {vs : List ByteArray} (hr : ∀ v ∈ vs, resM v = false) (mt : List (ByteArray × S24)) (name : ByteArray) (hn : name ∈ vs) : ∀ (n : Nat) (x : S24) (b : Bool), Nov vs x → dpt x < n → withinM vs mt n name x b = some false
  | 0, x, b, _, h => by omega
  | n + 1, x, b, hx, h => by
    obtain ⟨n, rfl⟩ : ∃ m, n = m + 1 := ⟨n - 1, by have := dpt_eq x; omega⟩
    have h1 : (if b then some x else knownM vs mt (n + 1) x) = some x := by
      rw [known_nov hr hx]; cases b <;> rfl
    simp only [withinM]
    rw [h1]
    simp only []
    by_cases hw : x.f0 = 1
    · rw [if_pos hw]
      have h2 := hx.word hr hw
      have : (x.f2.toList == name.toList) = false := by
        rw [beq_eq_false_iff_ne]
        intro e
        exact h2 (by rw [bytes_inj e]; exact hn)
      rw [this, Bool.and_false]
    · rw [if_neg hw]
      refine withinL_nov _ _ _ _ fun k hk b2 => ?_
      obtain ⟨h3, hk⟩ := types_mem hk
      exact within_nov hr mt name hn (n + 1) k b2 (hx.kid h3 hk) (by have := dpt_kid hk; have := dpt_eq x; omega)

/-- What is known of the variables is what stands for them. -/
def Inv (vs : List ByteArray) (fd : ByteArray → Option S24) (mt : List (ByteArray × S24)) : Prop := (∀ v z, lookT mt v = some z → v ∈ vs ∧ fd v = some z ∧ Nov vs z) ∧ (mt.map (·.1)).Nodup
theorem keys_put : ∀ (mt : List (ByteArray × S24)) (k : ByteArray) (x : S24), (putT mt k x).map (·.1) = if k ∈ mt.map (·.1) then mt.map (·.1) else mt.map (·.1) ++ [k]
  | [], k, x => by simp [putT]
  | (a, y) :: m, k, x => by
    simp only [putT]
    by_cases h : k = a
    · subst h; simp
    · rw [if_neg h, List.map_cons, keys_put m k x]
      by_cases h2 : k ∈ m.map (·.1)
      · rw [if_pos h2, if_pos (by simp only [List.map_cons]; exact List.mem_cons_of_mem _ h2)]; rfl
      · rw [if_neg h2, if_neg (by simp only [List.map_cons, List.mem_cons, not_or]; exact ⟨h, h2⟩)]; rfl
theorem nodup_put {mt : List (ByteArray × S24)} (h : (mt.map (·.1)).Nodup) (k : ByteArray) (x : S24) : ((putT mt k x).map (·.1)).Nodup := by
  rw [keys_put]
  split
  · exact h
  · rename_i hk
    rw [List.nodup_append]
    exact ⟨h, by simp, fun a ha b hb e => hk (by obtain rfl := List.mem_singleton.1 hb; rw [← e]; exact ha)⟩
def Grows (mt mt' : List (ByteArray × S24)) : Prop := ∀ v z, lookT mt v = some z → lookT mt' v = some z
/-- A substitution that does to variables what is known. -/
def Fits (vs : List ByteArray) (mt : List (ByteArray × S24)) (g : ByteArray → Option S24) : Prop := (∀ v z, lookT mt v = some z → g v = some z) ∧ ∀ w, w ∉ vs → g w = none
def Cov (vs : List ByteArray) (fd : ByteArray → Option S24) : Prop := ∀ w z, fd w = some z → w ∈ vs
/-- What unify comes to. -/
def Got (vs : List ByteArray) (fd : ByteArray → Option S24) (mt : List (ByteArray × S24)) (P : (ByteArray → Option S24) → Prop) : URes → Prop
  | .ok mt' => Inv vs fd mt' ∧ Grows mt mt' ∧ ∀ g, Fits vs mt' g → P g
  | .stop e => e = 8 ∧ ¬ Cov vs fd
theorem look_put : ∀ (mt : List (ByteArray × S24)) (k : ByteArray) (x : S24) (v : ByteArray), lookT (putT mt k x) v = if v = k then some x else lookT mt v
  | [], k, x, v => by simp [putT, lookT]
  | (a, y) :: m, k, x, v => by
    simp only [putT]
    by_cases h : k = a
    · rw [if_pos h]
      simp only [lookT]
      subst h
      split <;> rfl
    · rw [if_neg h]
      simp only [lookT]
      rw [look_put m k x v]
      by_cases h2 : v = a
      · rw [if_pos h2, if_neg (fun e => h (e.symm.trans h2)), if_pos h2]
      · rw [if_neg h2, if_neg h2]

theorem uni_word {vs : List ByteArray} (hr : ∀ v ∈ vs, resM v = false) (fd : ByteArray → Option S24) (x : S24) (h1 : x.f0 = 1) (n : Nat) (mt : List (ByteArray × S24)) (hi : Inv vs fd mt) (hn : Nov vs (appM fd x false)) (hd : dpt (appM fd x false) + 3 ≤ n) :
    ∃ R, unifyM vs n mt x (appM fd x false) false = some R ∧ Got vs fd mt (fun g => eqM (appM g x false) (appM fd x false) = true) R := by
  rw [app_word fd x h1] at hn hd ⊢
  obtain ⟨n, rfl⟩ : ∃ m, n = m + 1 + 1 + 1 := ⟨n - 3, by omega⟩
  by_cases hv : x.f2 ∈ vs
  · cases hf : fd x.f2 with
    | none =>
      rw [hf, Option.getD_none] at hn
      exact absurd hv (hn.word hr h1)
    | some y =>
      simp only [hf, Option.getD_some] at hn hd ⊢
      cases hl : lookT mt x.f2 with
      | some z =>
        obtain ⟨_, hz, _⟩ := hi.1 _ _ hl
        obtain rfl : y = z := Option.some.inj (hf.symm.trans hz)
        have hk : knownM vs mt (n + 1 + 1) x = some y := by
          simp only [knownM]
          rw [if_pos ⟨h1, hv⟩, hl]
          exact known_nov hr hn mt n
        have hs := unify_self hr mt (n + 1 + 1 + 1) y false hn (by omega)
        have e : unifyM vs (n + 1 + 1 + 1) mt x y false = unifyM vs (n + 1 + 1 + 1) mt y y false := by
          conv => lhs; unfold unifyM
          conv => rhs; unfold unifyM
          simp only [hk, known_nov hr hn mt (n + 1), Bool.false_eq_true, if_false]
        refine ⟨.ok mt, e.trans hs, hi, fun _ _ h => h, fun g hg => ?_⟩
        simp only []
        rw [app_word g x h1, hg.1 _ _ hl, Option.getD_some, eq_self]
      | none =>
        have hk : knownM vs mt (n + 1 + 1) x = some x := by
          simp only [knownM]
          rw [if_pos ⟨h1, hv⟩, hl]
        refine ⟨.ok (putT mt x.f2 y), ?_, ?_, ?_, ?_⟩
        · have hvx : isVar vs x false = true := by simp [isVar, h1, hv]
          conv => lhs; unfold unifyM
          simp only [Bool.false_eq_true, if_false, hk, known_nov hr hn mt (n + 1), hvx, var_nov hr hn]
          simp only [Bool.true_and, Bool.false_and, Bool.and_false, Bool.false_eq_true, if_false, if_true, bindM]
          rw [within_nov hr mt x.f2 hv (n + 1 + 1) y false hn (by omega)]
        · refine ⟨fun v z hz => ?_, nodup_put hi.2 _ _⟩
          rw [look_put] at hz
          split at hz
          · rename_i e
            subst e
            obtain rfl := Option.some.inj hz
            exact ⟨hv, hf, hn⟩
          · exact hi.1 v z hz
        · intro v z hz
          rw [look_put]
          rw [if_neg (fun e => by rw [e, hl] at hz; cases hz)]
          exact hz
        · intro g hg
          have : g x.f2 = some y := hg.1 _ _ (by rw [look_put, if_pos rfl])
          rw [app_word g x h1, this, Option.getD_some, eq_self]
  · have hk : knownM vs mt (n + 1 + 1) x = some x := by
      simp only [knownM]
      rw [if_neg (fun h => hv h.2)]
    have hvx : isVar vs x false = false := by simp [isVar, hv]
    have e : unifyM vs (n + 1 + 1 + 1) mt x ((fd x.f2).getD x) false = if eqM x ((fd x.f2).getD x) then some (.ok mt) else some (.stop 8) := by
      conv => lhs; unfold unifyM
      simp only [Bool.false_eq_true, if_false, hk, known_nov hr hn mt (n + 1), hvx, var_nov hr hn]
      simp only [Bool.true_and, Bool.false_and, Bool.and_false, Bool.false_eq_true, if_false, if_true, bindM]
      rw [if_pos (by simp [h1])]
    rw [e]
    cases he : eqM x ((fd x.f2).getD x) with
    | true =>
      refine ⟨_, rfl, hi, fun _ _ h => h, fun g hg => ?_⟩
      simp only []
      rw [app_word g x h1, hg.2 _ hv]
      exact he
    | false =>
      refine ⟨_, rfl, rfl, fun hc => ?_⟩
      cases hf : fd x.f2 with
      | none => rw [hf, Option.getD_none, eq_self] at he; cases he
      | some y => exact hv (hc _ _ hf)

theorem Got.imp {vs : List ByteArray} {fd : ByteArray → Option S24} {mt : List (ByteArray × S24)} {P Q : (ByteArray → Option S24) → Prop} {R : URes} (h : Got vs fd mt P R) (hi : ∀ g, P g → Q g) : Got vs fd mt Q R := by
  cases R with
  | ok mt' => exact ⟨h.1, h.2.1, fun g hg => hi g (h.2.2 g hg)⟩
  | stop e => exact h
theorem Fits.of {vs : List ByteArray} {mt mt' : List (ByteArray × S24)} {g : ByteArray → Option S24} (h : Fits vs mt' g) (hg : Grows mt mt') : Fits vs mt g := ⟨fun v z hz => h.1 v z (hg v z hz), h.2⟩

mutual
/-- A form, unified with what it becomes. -/
theorem uni_form {vs : List ByteArray} (hr : ∀ v ∈ vs, resM v = false) (fd : ByteArray → Option S24) : ∀ (x : S24) (b : Bool) (n : Nat) (mt : List (ByteArray × S24)), (b = true → x.f0 = 3) → lstM x = true → Inv vs fd mt → Nov vs (appM fd x b) → dpt (appM fd x b) + 3 ≤ n →
    ∃ R, unifyM vs n mt x (appM fd x b) b = some R ∧ Got vs fd mt (fun g => eqM (appM g x b) (appM fd x b) = true) R
  | ⟨a, m, s, l⟩, b, n, mt, hb, hl, hi, hn, hd => by
    by_cases h1 : a = 1
    · subst h1
      have hb0 : b = false := by cases b; rfl; exact absurd (hb rfl) (show ¬ (1 : Int) = 3 by decide)
      subst hb0
      exact uni_word hr fd ⟨1, m, s, l⟩ rfl n mt hi hn hd
    · obtain ⟨n, rfl⟩ : ∃ m, n = m + 1 + 1 + 1 := ⟨n - 3, by omega⟩
      by_cases h3 : a = 3
      · subst h3
        have e1 : appM fd ⟨3, m, s, l⟩ b = ⟨3, m, s, appL fd (!b && isFunW (headL l)) b 0 l⟩ := by simp [appM]
        rw [e1] at hn hd ⊢
        have hdl : dpts (appL fd (!b && isFunW (headL l)) b 0 l) + 4 ≤ n + 1 + 1 + 1 := by simp only [dpt] at hd; omega
        have hk : ∀ y : List S24, knownM vs mt (n + 1 + 1) ⟨3, m, s, y⟩ = some ⟨3, m, s, y⟩ := fun y => by simp [knownM]
        have hv : ∀ y : List S24, isVar vs ⟨3, m, s, y⟩ b = false := fun y => by simp [isVar]
        have hfn : (!b && isFunW (headOf 3 l) && isFunW (headOf 3 (appL fd (!b && isFunW (headL l)) b 0 l))) = (!b && isFunW (headL l)) := by
          cases b with
          | true => rfl
          | false => simp [headOf, app_head]
        have hkid : (!b && isFunW (headL l)) = true → ∀ (j : Nat) (k : S24), l[j]? = some k → 0 + j = 1 → k.f0 = 3 := by
          intro h
          simp only [Bool.and_eq_true] at h
          exact fun_kid hl rfl h.2
        have hll : lstL l = true := by simp only [lstM, Bool.and_eq_true] at hl; exact hl.2
        obtain ⟨R, hR, hG⟩ := uni_list hr fd l (!b && isFunW (headL l)) b 0 (n + 1 + 1) mt hkid hll hi (fun k hk v hv2 hm => hn v hv2 (by simp only [nm]; simp; exact nms_mem hk hm)) (by omega)
        have e : unifyM vs (n + 1 + 1 + 1) mt ⟨3, m, s, l⟩ ⟨3, m, s, appL fd (!b && isFunW (headL l)) b 0 l⟩ b = some R := by
          conv => lhs; unfold unifyM
          simp only [hk, ite_self, hv]
          rw [if_neg (by simp), if_neg (by simp), if_neg (by simp), if_neg (by simp)]
          unfold listsM
          simp only [hfn, hR]
          cases R with
          | ok mt' => simp only [appL_len, if_true]
          | stop e => rfl
        refine ⟨R, e, hG.imp fun g hg => ?_⟩
        have e2 : appM g ⟨3, m, s, l⟩ b = ⟨3, m, s, appL g (!b && isFunW (headL l)) b 0 l⟩ := by simp [appM]
        rw [e2]
        exact eq_list rfl hg
      · have e1 : ∀ g, appM g ⟨a, m, s, l⟩ b = ⟨a, m, s, l⟩ := fun g => by simp [appM, h1, h3]
        have hk : knownM vs mt (n + 1 + 1) ⟨a, m, s, l⟩ = some ⟨a, m, s, l⟩ := by simp [knownM, h1]
        have hv : isVar vs ⟨a, m, s, l⟩ b = false := by simp [isVar, h1]
        refine ⟨.ok mt, ?_, hi, fun _ _ h => h, fun g hg => by simp only []; rw [e1, e1, eq_self]⟩
        rw [e1]
        conv => lhs; unfold unifyM
        simp only [hk, ite_self, hv]
        rw [if_neg (by simp), if_neg (by simp), if_neg (by simp), if_pos (by simp [h3]), eq_self]
        rfl
theorem uni_list {vs : List ByteArray} (hr : ∀ v ∈ vs, resM v = false) (fd : ByteArray → Option S24) : ∀ (l : List S24) (fn bare : Bool) (i n : Nat) (mt : List (ByteArray × S24)), (fn = true → ∀ (j : Nat) (k : S24), l[j]? = some k → i + j = 1 → k.f0 = 3) → lstL l = true → Inv vs fd mt →
    (∀ k ∈ appL fd fn bare i l, Nov vs k) → dpts (appL fd fn bare i l) + 3 ≤ n →
    ∃ R, listsL (unifyM vs n) fn bare i mt l (appL fd fn bare i l) = some R ∧ Got vs fd mt (fun g => cmpL (appL g fn bare i l) (appL fd fn bare i l) = 0) R
  | [], fn, bare, i, n, mt, hf, hl, hi, hn, hd => ⟨.ok mt, by simp [listsL, appL], hi, fun _ _ h => h, fun g hg => by simp [appL, cmpL]⟩
  | k :: l, fn, bare, i, n, mt, hf, hl, hi, hn, hd => by
    simp only [lstL, Bool.and_eq_true] at hl
    have hf2 : fn = true → ∀ (j : Nat) (k : S24), l[j]? = some k → i + 1 + j = 1 → k.f0 = 3 := fun h j k hk hj => hf h (j + 1) k (by simpa using hk) (by omega)
    by_cases h0 : i = 0 ∧ bare = false ∧ k.f0 = 1
    · simp only [appL, if_pos h0] at hn hd ⊢
      obtain ⟨R, hR, hG⟩ := uni_list hr fd l fn bare (i + 1) n mt hf2 hl.2 hi (fun k hk => hn k (List.mem_cons_of_mem _ hk)) (by simp only [dpts] at hd; omega)
      refine ⟨R, ?_, hG.imp fun g hg => ?_⟩
      · simp only [listsL]
        rw [if_pos ⟨h0.1, h0.2.1, .inl h0.2.2⟩, eq_self, if_pos rfl]
        exact hR
      · simp only [cmpL]
        rw [cmp_self, if_neg (by simp)]
        exact hg
    · simp only [appL, if_neg h0] at hn hd ⊢
      obtain ⟨c, hc⟩ : ∃ c, c = (fn && decide (i = 1) && (k.f0 == 3)) := ⟨_, rfl⟩
      have hc3 : c = true → k.f0 = 3 := by
        intro h
        rw [hc] at h
        simp only [Bool.and_eq_true, beq_iff_eq] at h
        exact h.2
      have hne : ¬ (i = 0 ∧ bare = false ∧ (k.f0 = 1 ∨ (appM fd k c).f0 = 1)) := by
        rintro ⟨h1, h2, h3 | h3⟩
        · exact h0 ⟨h1, h2, h3⟩
        · by_cases hk : k.f0 = 1
          · exact h0 ⟨h1, h2, hk⟩
          · rw [app_kind fd k c hk] at h3
            exact hk h3
      rw [← hc] at hn hd ⊢
      have hflag : (fn && decide (i = 1) && (k.f0 == 3) && ((appM fd k c).f0 == 3)) = c := by
        cases hfd : fn && decide (i = 1) with
        | false => rw [hc, hfd]; rfl
        | true =>
          simp only [Bool.and_eq_true, decide_eq_true_eq] at hfd
          have h3 := hf hfd.1 0 k rfl (by omega)
          have h4 := app_kind fd k c (by rw [h3]; decide)
          rw [h4, hc, hfd.1, hfd.2, h3]
          rfl
      obtain ⟨R1, hR1, hG1⟩ := uni_form hr fd k c n mt hc3 hl.1 hi (hn _ List.mem_cons_self) (by simp only [dpts] at hd; omega)
      cases R1 with
      | stop e =>
        refine ⟨.stop e, ?_, hG1⟩
        simp only [listsL]
        rw [if_neg hne, hflag, hR1]
      | ok mt1 =>
        obtain ⟨hi1, hg1, hp1⟩ := hG1
        obtain ⟨R, hR, hG⟩ := uni_list hr fd l fn bare (i + 1) n mt1 hf2 hl.2 hi1 (fun k hk => hn k (List.mem_cons_of_mem _ hk)) (by simp only [dpts] at hd; omega)
        refine ⟨R, ?_, ?_⟩
        · simp only [listsL]
          rw [if_neg hne, hflag, hR1]
          exact hR
        · cases R with
          | stop e => exact hG
          | ok mt2 =>
            refine ⟨hG.1, fun v z h => hG.2.1 v z (hg1 v z h), fun g hg => ?_⟩
            have h1 := hp1 g (hg.of hG.2.1)
            simp only [eqM, beq_iff_eq] at h1
            simp only [appL, if_neg h0, ← hc, cmpL]
            rw [h1, if_neg (by simp)]
            exact hG.2.2 g hg
end
end Go.Proofs.YtcjmplpfebpfpaaGreatDoor

namespace Go.Proofs.YtcjmplpfebpfpaaGreatDoor
open Go.RowKit Go.Proofs Go.Proofs.YtcjmplpfebpfpaaGreatDoorW.PrintWords Go.Proofs.YtcjmplpfebpfpaaGreatDoorW.PrintLast Go.Proofs.YtcjmplpfebpfpaaGreatDoorW.PrintMore PKindInstances
set_option linter.unusedVariables false
set_option linter.unusedSimpArgs false

theorem SolvAt.grown {base : Nat} {w w1 : World} {sp vb tb pb : Nat} {mv mt : List (ByteArray × Value)} (h : SolvAt base w sp vb tb mv mt) (hg : w.grownBy w1 (some pb)) (h1 : pb ≠ sp) (h2 : pb ≠ vb) (h3 : pb ≠ tb) : SolvAt base w1 sp vb tb mv mt :=
  ⟨(hg.block sp h.lt (by simpa using fun e => h1 e.symm)).trans h.blk, h.vars.kept hg (by simpa using fun e => h2 e.symm), h.tos.kept hg (by simpa using fun e => h3 e.symm), h.bs, h.bv, h.bt, h.ne⟩
/-- Where known stands. -/
def KpRel (w : World) (a n : Int) (s : ByteArray) (A : Option Addr) (m c : Nat) (k : Nat) (wr : World) : Prop :=
  wr.heap[w.heap.size]? = some (.cells #[.int .i64 a, .int .i64 n, .string s, .slice A m c] 24 (0, 0)) ∧ wr.heap[w.heap.size + 1]? = some (.cells #[.int .i64 0, .int .i64 0, .string ⟨#[]⟩, .slice none 0 0] 24 (0, 0)) ∧ Below w.heap.size w wr
set_option maxRecDepth 100000 in
set_option maxHeartbeats 4000000 in
/-- What is no variable is itself. -/
theorem known_plain (w : World) (base sp vb tb : Nat) (vs : List ByteArray) (mtv : List (ByteArray × Value)) (hs : SolvAt base w sp vb tb (varsV vs) mtv) (a n : Int) (s : ByteArray) (A : Option Addr) (m c : Nat) (hv : ¬ (a = 1 ∧ s ∈ vs)) :
    Calls Tryz.prog 94 #[.pointer (some ⟨sp, 0, none⟩), formV a n s A m c] w fun e w' => e = .returned (formV a n s A m c) ∧ Below w.heap.size w w' := by
  have hu24 := Tryz.underlying24
  have hu := Tryz.underlying100
  have hu72 := Tryz.underlying72
  have hu9 := Tryz.underlying9
  obtain ⟨h1, h2, xb⟩ := twoB w (Obj.cells #[.int .i64 a, .int .i64 n, .string s, .slice A m c] 24) (Obj.cells #[.int .i64 0, .int .i64 0, .string ⟨#[]⟩, .slice none 0 0] 24)
  have start : Hid (KpRel w a n s A m c 0 ((w.alloc (Obj.cells #[.int .i64 a, .int .i64 n, .string s, .slice A m c] 24)).alloc (Obj.cells #[.int .i64 0, .int .i64 0, .string ⟨#[]⟩, .slice none 0 0] 24))) := ⟨h1, h2, xb⟩
  have HS : Hid _ := hs
  clear hs h1 h2 xb
  go_enter Tryz.func94, Tryz.ntmps94
  go_wp2_with fail
  go_loopg [] 0 (fun k wr => KpRel w a n s A m c k wr)
  case atStart => exact start.out
  case round =>
    clear start
    obtain ⟨hb1, hb2, hB⟩ := hrel
    have hS := SolvAt.below HS.out hB
    obtain ⟨q0, q1, q2, q3⟩ := cells4 hb1
    obtain ⟨p0, p1, p2, p3⟩ := cells4 hb2
    have c0 := hS.c0
    have c1 := hS.c1
    have HH2 : Hid _ := hb2
    have BB : Hid _ := hB
    have f0 := frozen4 (i := 0) hb2
    have f1 := frozen4 (i := 1) hb2
    have f2 := frozen4 (i := 2) hb2
    have f3 := frozen4 (i := 3) hb2
    by_cases h0 : a = 1
    · subst h0
      have r1 := fun q => look_drewN hS s q
      have hm : decide (s ∈ vs) = false := decide_eq_false (fun e => hv ⟨rfl, e⟩)
      rw [hm] at r1
      clear hb1 hb2 hB hS hm hv
      go_wp2_with fail
      go_quiet (fail)
      go_wp2_with fail
      refine bodyPost_ret (results_cell_row rfl _ _ (w.heap.size + 1) 24 #[.int .i64 1, .int .i64 n, .string s, .slice A m c] (0, 0) _ rfl (set4 ((heap_drewN _ _ _).trans HH2.out)) Tryz.underlying24 rfl (by kernel_rfl)) rfl ⟨rfl, below4 (pw_below_drewN BB.out _) (by omega)⟩
    · have b0 : (a == 1) = false := beq_eq_false_iff_ne.mpr h0
      clear hb1 hb2 hB hS hv h0
      go_wp2_with fail
      go_quiet (fail)
      go_wp2_with fail
      refine bodyPost_ret (results_cell_row rfl _ _ (w.heap.size + 1) 24 #[.int .i64 a, .int .i64 n, .string s, .slice A m c] (0, 0) _ rfl (set4 ((heap_drewN _ _ _).trans HH2.out)) Tryz.underlying24 rfl (by kernel_rfl)) rfl ⟨rfl, below4 (pw_below_drewN BB.out _) (by omega)⟩

/-- What written answers of a form without variables: the same form, or that it is too great; the parts left are counted in a cell. -/
def WrPost (w : World) (ok : Nat → Prop) (pb : Nat) (x : S24) (e : Ending) (w' : World) : Prop :=
  ∃ (b : Bool) (p : Int) (A : Option Addr) (c : Nat), e = .returned (.tuple #[formV x.f0 x.f1 x.f2 A x.f3.length c, .bool b]) ∧ x.f3.length ≤ c ∧ Kd.F k24 w' (fun k => ok k ∨ w.heap.size ≤ k) A x.f3.length x.f3 ∧ w.grownBy w' (some pb) ∧ w'.heap[pb]? = some (.cells #[.int .i64 p] 3 (0, 0))
def WrOk (vs : List ByteArray) (x : S24) : Prop :=
  ∀ (w : World) (ok : Nat → Prop) (base sp vb tb pb : Nat) (mtv : List (ByteArray × Value)) (A : Option Addr) (c : Nat) (bare : Bool) (p : Int), SolvAt base w sp vb tb (varsV vs) mtv → pb ≠ sp → pb ≠ vb → pb ≠ tb → w.heap[pb]? = some (.cells #[.int .i64 p] 3 (0, 0)) →
    Kd.F k24 w ok A x.f3.length x.f3 → (∀ k, ok k → k ≠ pb) → x.f3.length ≤ c → wid x < 9000000 → Nov vs x →
    Calls Tryz.prog 98 #[.pointer (some ⟨sp, 0, none⟩), formV x.f0 x.f1 x.f2 A x.f3.length c, .bool bare, .pointer (some ⟨pb, 0, none⟩)] w (WrPost w ok pb x)

end Go.Proofs.YtcjmplpfebpfpaaGreatDoor

namespace Go.Proofs.YtcjmplpfebpfpaaGreatDoor
open Go.RowKit Go.Proofs Go.Proofs.YtcjmplpfebpfpaaGreatDoorW.PrintWords Go.Proofs.YtcjmplpfebpfpaaGreatDoorW.PrintLast Go.Proofs.YtcjmplpfebpfpaaGreatDoorW.PrintMore PKindInstances
set_option linter.unusedVariables false
set_option linter.unusedSimpArgs false

theorem size_setCell (w : World) (a : Addr) (v : Value) : (w.setCell a v).heap.size = w.heap.size := by simp [World.setCell]
theorem grown_set {w w1 : World} {row : Option Nat} {a : Addr} {v : Value} (h : w.grownBy w1 row) (ha : row = some a.block) : w.grownBy (w1.setCell a v) row :=
  ⟨h.os, h.tape, h.output, by rw [size_setCell]; exact h.size, fun k hk hne => (Below.heap_setCell _ _ _ _ (fun e => hne (by rw [ha, e]))).trans (h.block k hk hne)⟩
theorem grown_far {w w1 : World} {row : Option Nat} {a : Addr} {v : Value} (h : w.grownBy w1 row) (ha : w.heap.size ≤ a.block) : w.grownBy (w1.setCell a v) row :=
  ⟨h.os, h.tape, h.output, by rw [size_setCell]; exact h.size, fun k hk hne => (Below.heap_setCell _ _ _ _ (by omega)).trans (h.block k hk hne)⟩
theorem grown_far4 {w w1 : World} {row : Option Nat} {b : Nat} {v0 v1 v2 v3 : Value} (h : w.grownBy w1 row) (hb : w.heap.size ≤ b) : w.grownBy ((((w1.setCell ⟨b, 0, none⟩ v0).setCell ⟨b, 1, none⟩ v1).setCell ⟨b, 2, none⟩ v2).setCell ⟨b, 3, none⟩ v3) row :=
  grown_far (grown_far (grown_far (grown_far h hb) hb) hb) hb
set_option maxRecDepth 100000 in
set_option maxHeartbeats 8000000 in
/-- No list, or nothing left. -/
theorem wr_leaf (a : Int) (n : Int) (s : ByteArray) (l : List S24) (vs : List ByteArray) (w : World) (ok : Nat → Prop) (base sp vb tb pb : Nat) (mtv : List (ByteArray × Value)) (A : Option Addr) (c : Nat) (bare : Bool) (p : Int) (hs : SolvAt base w sp vb tb (varsV vs) mtv) (hps : pb ≠ sp) (hpv : pb ≠ vb) (hpt : pb ≠ tb)
    (hp : w.heap[pb]? = some (.cells #[.int .i64 p] 3 (0, 0))) (hr : Kd.F k24 w ok A l.length l) (hok : ∀ k, ok k → k ≠ pb) (hc : l.length ≤ c) (hv : ¬ (a = 1 ∧ s ∈ vs)) (q : Int) (hq : wrap64 (p - 1) = q) (h3 : q < 0 ∨ 0 ≤ q ∧ a ≠ 3) :
    Calls Tryz.prog 98 #[.pointer (some ⟨sp, 0, none⟩), formV a n s A l.length c, .bool bare, .pointer (some ⟨pb, 0, none⟩)] w (WrPost w ok pb ⟨a, n, s, l⟩) := by
  have hu24 := Tryz.underlying24
  have hu51 := Tryz.underlying51
  have hu22 := Tryz.underlying22
  obtain ⟨x1, x2, xb⟩ := twoB w (Obj.cells #[.int .i64 a, .int .i64 n, .string s, .slice A l.length c] 24) (Obj.cells #[.int .i64 0, .int .i64 0, .string ⟨#[]⟩, .slice none 0 0] 24)
  have XB : Hid _ := xb
  have X2 : Hid _ := x2
  have X1 : Hid _ := x1
  have HP : Hid _ := hp
  have HS : Hid _ := hs
  have HR : Hid (Kd.F k24 w (fun k => ok k ∧ k < w.heap.size) A l.length l) := Kd.F_bound hr
  have HOK : Hid _ := hok
  have hpw : pb < w.heap.size := blk_lt hp
  have hsw : sp < w.heap.size := hs.lt
  clear hr xb x1 x2 hp hs hok
  go_enter Tryz.func98, Tryz.ntmps98
  go_upto_region 1 with fail
  generalize (w.alloc (Obj.cells #[.int .i64 a, .int .i64 n, .string s, .slice A l.length c] 24)).alloc (Obj.cells #[.int .i64 0, .int .i64 0, .string ⟨#[]⟩, .slice none 0 0] 24) = X at *
  go_upto_if 17 with fail
  go_cut [] from 18 to 20 (fun wx => Below w.heap.size w wx ∧ wx.heap[w.heap.size]? = some (.cells #[.int .i64 a, .int .i64 n, .string s, .slice A l.length c] 24 (0, 0)) ∧ wx.heap[w.heap.size + 1]? = some (.cells #[.int .i64 0, .int .i64 0, .string ⟨#[]⟩, .slice none 0 0] 24 (0, 0)) ∧ X.heap.size ≤ wx.heap.size)
  case first =>
    obtain ⟨p0, p1, p2, p3⟩ := cells4 X1.out
    have KP : Hid _ := known_plain X base sp vb tb vs mtv (HS.out.below XB.out) a n s A l.length c hv
    cases bare with
    | true =>
      go_wp2_with fail
      go_meet
      case rel => exact ⟨XB.out, X1.out, X2.out, Nat.le_refl _⟩
    | false =>
      go_wp2_with fail
      refine Calls.mono KP.out ?_
      rintro e w4 ⟨rfl, B4⟩
      have y1 := blk_below X1.out B4
      have y2 := blk_below X2.out B4
      have HB4 : Hid _ := below_after XB.out B4
      have HZ4 : Hid _ := B4.size
      have f0 := frozen4 (i := 0) y1
      have f1 := frozen4 (i := 1) y1
      have f2 := frozen4 (i := 2) y1
      have f3 := frozen4 (i := 3) y1
      have Y1 : Hid _ := y1
      have Y2 : Hid _ := y2
      clear p0 p1 p2 p3
      obtain ⟨p0, p1, p2, p3⟩ := cells4 y1
      clear y1 y2 B4
      go_wp2_with fail
      go_meet
      case rel => exact ⟨below4 HB4.out (Nat.le_refl _), set4 Y1.out, (stay4 (by omega)).trans Y2.out, by simp only [size_setCell]; exact HZ4.out⟩
  case rest =>
    obtain ⟨hB, y1, y2, hXs⟩ := hcut
    have HBc : Hid _ := hB
    have P1 := blk_below HP.out hB
    have P0 : wc.cell? ⟨pb, 0, none⟩ = some (.int .i64 p) := by simp [World.cell?, P1]
    have F0 := frozen4 (i := 0) P1
    have PH : Hid _ := P1
    have Y1 : Hid _ := y1
    have Y2 : Hid _ := y2
    clear hB P1 y1 y2
    go_upto_region 4 with fail
    have Q1 : Hid ((wc.setCell ⟨pb, 0, none⟩ (.int .i64 q)).heap[pb]? = some (.cells #[.int .i64 q] 3 (0, 0))) := heap_setCell_same _ pb 0 #[.int .i64 p] 3 _ PH.out
    have Q2 : Hid ((wc.setCell ⟨pb, 0, none⟩ (.int .i64 q)).heap[w.heap.size]? = _) := (heap_setCell_other wc ⟨pb, 0, none⟩ w.heap.size _ (by simp; omega)).trans Y1.out
    have Q3 : Hid ((wc.setCell ⟨pb, 0, none⟩ (.int .i64 q)).heap[w.heap.size + 1]? = _) := (heap_setCell_other wc ⟨pb, 0, none⟩ (w.heap.size + 1) _ (by simp; omega)).trans Y2.out
    have QG : Hid (w.grownBy (wc.setCell ⟨pb, 0, none⟩ (.int .i64 q)) (some pb)) := grown_set (grown_of_below HBc.out (some pb)) rfl
    have QS : Hid (wc.heap.size ≤ (wc.setCell ⟨pb, 0, none⟩ (.int .i64 q)).heap.size) := by rw [size_setCell]; exact Nat.le_refl _
    clear P0 F0 PH Y1 Y2 HBc
    generalize wc.setCell ⟨pb, 0, none⟩ (.int .i64 q) = V at *
    have P0 : V.cell? ⟨pb, 0, none⟩ = some (.int .i64 q) := by simp [World.cell?, Q1.out]
    obtain ⟨p0, p1, p2, p3⟩ := cells4 Q2.out
    obtain ⟨q0, q1, q2, q3⟩ := cells4 Q3.out
    have f0 := frozen4 (i := 0) Q3.out
    have f1 := frozen4 (i := 1) Q3.out
    have f2 := frozen4 (i := 2) Q3.out
    have f3 := frozen4 (i := 3) Q3.out
    rcases h3 with h3 | ⟨h3, h4⟩
    · have d1 : decide (q < 0) = true := decide_eq_true h3
      go_wp2_with fail
      have GE : w.grownBy ((((V.setCell ⟨w.heap.size + 1, 0, none⟩ (.int .i64 a)).setCell ⟨w.heap.size + 1, 1, none⟩ (.int .i64 n)).setCell ⟨w.heap.size + 1, 2, none⟩ (.string s)).setCell ⟨w.heap.size + 1, 3, none⟩ (.slice A l.length c)) (some pb) := grown_far4 QG.out (by omega)
      refine bodyPost_ret (results_ct rfl _ _ (w.heap.size + 1) 24 #[.int .i64 a, .int .i64 n, .string s, .slice A l.length c] (0, 0) _ rfl (set4 Q3.out) Tryz.underlying24 rfl (by kernel_rfl)) rfl ⟨false, q, A, c, rfl, hc, ?_, GE, (stay4 (by omega)).trans Q1.out⟩
      exact Kd.F_mono (Kd.F_grown HR.out GE (fun k hk => by simpa using HOK.out k hk.1)) (fun k hk => .inl hk.1)
    · have d1 : decide (q < 0) = false := decide_eq_false (by omega)
      have d3 : (a != 3) = true := bne_iff_ne.mpr h4
      clear h4
      go_wp2_with fail
      have GE : w.grownBy ((((V.setCell ⟨w.heap.size + 1, 0, none⟩ (.int .i64 a)).setCell ⟨w.heap.size + 1, 1, none⟩ (.int .i64 n)).setCell ⟨w.heap.size + 1, 2, none⟩ (.string s)).setCell ⟨w.heap.size + 1, 3, none⟩ (.slice A l.length c)) (some pb) := grown_far4 QG.out (by omega)
      refine bodyPost_ret (results_ct rfl _ _ (w.heap.size + 1) 24 #[.int .i64 a, .int .i64 n, .string s, .slice A l.length c] (0, 0) _ rfl (set4 Q3.out) Tryz.underlying24 rfl (by kernel_rfl)) rfl ⟨true, q, A, c, rfl, hc, ?_, GE, (stay4 (by omega)).trans Q1.out⟩
      exact Kd.F_mono (Kd.F_grown HR.out GE (fun k hk => by simpa using HOK.out k hk.1)) (fun k hk => .inl hk.1)

end Go.Proofs.YtcjmplpfebpfpaaGreatDoor
