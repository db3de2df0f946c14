/- Part 9 of what the law's row leans on (Ng): the print's words and functions, cut to what is reached, and own texts. -/
import Derived.Deep.DeepMust
import Derived.Test.YtcjmplpfebpfpaaGreatDoorNg8
namespace Go.Proofs.YtcjmplpfebpfpaaGreatDoor
open Go.RowKit Go.Proofs Go.Proofs.YtcjmplpfebpfpaaGreatDoorW.PrintWords Go.Proofs.YtcjmplpfebpfpaaGreatDoorW.PrintLast Go.Proofs.YtcjmplpfebpfpaaGreatDoorW.PrintMore PKindInstances
set_option linter.unusedVariables false
set_option linter.unusedSimpArgs false

/-- What holds of the loop. -/
def WrRel (w X WC : World) (ok : Nat → Prop) (pb : Nat) (n : Int) (s : ByteArray) (A : Option Addr) (c : Nat) (AV : Option Addr) (cV : Nat) (l : List S24) (k : Nat) (x47 : Value) (wr : World) : Prop :=
  ∃ (i : Nat) (p : Int), x47 = .int .i64 (i : Int) ∧ k + i = l.length ∧ w.grownBy wr (some pb) ∧ wr.heap[pb]? = some (.cells #[.int .i64 p] 3 (0, 0)) ∧ wr.heap[w.heap.size]? = some (.cells #[.int .i64 3, .int .i64 n, .string s, .slice A l.length c] 24 (0, 0)) ∧
    wr.heap[w.heap.size + 1]? = some (.cells #[.int .i64 0, .int .i64 0, .string ⟨#[]⟩, .slice none 0 0] 24 (0, 0)) ∧ WC.heap.size ≤ wr.heap.size ∧ Kd.N k24 24 wr WC.heap.size (fun k => ok k ∧ k < w.heap.size ∨ X.heap.size ≤ k) (.slice AV l.length cV) l
theorem set_same {l : List S24} {i : Nat} {x : S24} (h : l[i]? = some x) : l.set i x = l := by
  refine List.ext_getElem? fun j => ?_
  by_cases hj : j = i
  · subst hj
    rw [List.getElem?_set_self (List.getElem?_eq_some_iff.1 h).1, h]
  · rw [List.getElem?_set_ne (by omega)]
theorem grown_below {w w1 w2 : World} {row : Option Nat} (h : w.grownBy w1 row) (hb : Below w1.heap.size w1 w2) : w.grownBy w2 row := h.trans (grown_of_below hb row)
theorem grown_row {w w1 w2 : World} {row : Option Nat} {g : Nat} (h : w.grownBy w1 row) (hb : w1.grownBy w2 (some g)) (hg : w.heap.size ≤ g) : w.grownBy w2 row :=
  ⟨by rw [hb.os]; exact h.os, by rw [hb.tape]; exact h.tape, by rw [hb.output]; exact h.output, Nat.le_trans h.size hb.size, fun k hk hne => (hb.block k (Nat.lt_of_lt_of_le hk h.size) (fun e => by injection e with e; omega)).trans (h.block k hk hne)⟩
set_option maxRecDepth 100000 in
set_option maxHeartbeats 32000000 in
/-- A list. -/
theorem wr_list (n : Int) (s : ByteArray) (l : List S24) (vs : List ByteArray) (w : World) (ok : Nat → Prop) (base sp vb tb pb : Nat) (mtv : List (ByteArray × Value)) (A : Option Addr) (c : Nat) (bare : Bool) (p : Int) (hs : SolvAt base w sp vb tb (varsV vs) mtv) (hps : pb ≠ sp) (hpv : pb ≠ vb) (hpt : pb ≠ tb)
    (hp : w.heap[pb]? = some (.cells #[.int .i64 p] 3 (0, 0))) (hr : Kd.F k24 w ok A l.length l) (hok : ∀ k, ok k → k ≠ pb) (hc : l.length ≤ c) (hw : wids l < 9000000) (hq : ∀ x ∈ l, WrOk vs x ∧ wid x < 9000000 ∧ Nov vs x) (q : Int) (hqq : wrap64 (p - 1) = q) (h3 : 0 ≤ q) :
    Calls Tryz.prog 98 #[.pointer (some ⟨sp, 0, none⟩), formV 3 n s A l.length c, .bool bare, .pointer (some ⟨pb, 0, none⟩)] w (WrPost w ok pb ⟨3, n, s, l⟩) := by
  have hv : ¬ ((3 : Int) = 1 ∧ s ∈ vs) := fun h => absurd h.1 (by decide)
  have HQ : Hid _ := hq
  clear hq
  have hu24 := Tryz.underlying24
  have hu51 := Tryz.underlying51
  have hu22 := Tryz.underlying22
  obtain ⟨x1, x2, xb⟩ := twoB w (Obj.cells #[.int .i64 3, .int .i64 n, .string s, .slice A l.length c] 24) (Obj.cells #[.int .i64 0, .int .i64 0, .string ⟨#[]⟩, .slice none 0 0] 24)
  have XB : Hid _ := xb
  have X2 : Hid _ := x2
  have X1 : Hid _ := x1
  have HP : Hid _ := hp
  have HS : Hid _ := hs
  have HR : Hid (Kd.F k24 w (fun k => ok k ∧ k < w.heap.size) A l.length l) := Kd.F_bound hr
  have HOK : Hid _ := hok
  have hpw : pb < w.heap.size := blk_lt hp
  have hsw : sp < w.heap.size := hs.lt
  clear hr xb x1 x2 hp hs hok
  go_enter Tryz.func98, Tryz.ntmps98
  go_upto_region 1 with fail
  generalize (w.alloc (Obj.cells #[.int .i64 3, .int .i64 n, .string s, .slice A l.length c] 24)).alloc (Obj.cells #[.int .i64 0, .int .i64 0, .string ⟨#[]⟩, .slice none 0 0] 24) = X at *
  go_upto_if 17 with fail
  go_cut [] from 18 to 20 (fun wx => Below w.heap.size w wx ∧ wx.heap[w.heap.size]? = some (.cells #[.int .i64 3, .int .i64 n, .string s, .slice A l.length c] 24 (0, 0)) ∧ wx.heap[w.heap.size + 1]? = some (.cells #[.int .i64 0, .int .i64 0, .string ⟨#[]⟩, .slice none 0 0] 24 (0, 0)) ∧ X.heap.size ≤ wx.heap.size)
  case first =>
    obtain ⟨p0, p1, p2, p3⟩ := cells4 X1.out
    have KP : Hid _ := known_plain X base sp vb tb vs mtv (HS.out.below XB.out) 3 n s A l.length c hv
    cases bare with
    | true =>
      go_wp2_with fail
      go_meet
      case rel => exact ⟨XB.out, X1.out, X2.out, Nat.le_refl _⟩
    | false =>
      go_wp2_with fail
      refine Calls.mono KP.out ?_
      rintro e w4 ⟨rfl, B4⟩
      have y1 := blk_below X1.out B4
      have y2 := blk_below X2.out B4
      have HB4 : Hid _ := below_after XB.out B4
      have HZ4 : Hid _ := B4.size
      have f0 := frozen4 (i := 0) y1
      have f1 := frozen4 (i := 1) y1
      have f2 := frozen4 (i := 2) y1
      have f3 := frozen4 (i := 3) y1
      have Y1 : Hid _ := y1
      have Y2 : Hid _ := y2
      clear p0 p1 p2 p3
      obtain ⟨p0, p1, p2, p3⟩ := cells4 y1
      clear y1 y2 B4
      go_wp2_with fail
      go_meet
      case rel => exact ⟨below4 HB4.out (Nat.le_refl _), set4 Y1.out, (stay4 (by omega)).trans Y2.out, by simp only [size_setCell]; exact HZ4.out⟩
  case rest =>
    obtain ⟨hB, y1, y2, hXs⟩ := hcut
    have HBc : Hid _ := hB
    have P1 := blk_below HP.out hB
    have P0 : wc.cell? ⟨pb, 0, none⟩ = some (.int .i64 p) := by simp [World.cell?, P1]
    have F0 := frozen4 (i := 0) P1
    have PH : Hid _ := P1
    have Y1 : Hid _ := y1
    have Y2 : Hid _ := y2
    clear hB P1 y1 y2
    have d1 : decide (q < 0) = false := decide_eq_false (by omega)
    go_upto_region 4 with fail
    have Q1 : Hid ((wc.setCell ⟨pb, 0, none⟩ (.int .i64 q)).heap[pb]? = some (.cells #[.int .i64 q] 3 (0, 0))) := heap_setCell_same _ pb 0 #[.int .i64 p] 3 _ PH.out
    have Q2 : Hid ((wc.setCell ⟨pb, 0, none⟩ (.int .i64 q)).heap[w.heap.size]? = _) := (heap_setCell_other wc ⟨pb, 0, none⟩ w.heap.size _ (by simp; omega)).trans Y1.out
    have Q3 : Hid ((wc.setCell ⟨pb, 0, none⟩ (.int .i64 q)).heap[w.heap.size + 1]? = _) := (heap_setCell_other wc ⟨pb, 0, none⟩ (w.heap.size + 1) _ (by simp; omega)).trans Y2.out
    have QG : Hid (w.grownBy (wc.setCell ⟨pb, 0, none⟩ (.int .i64 q)) (some pb)) := grown_set (grown_of_below HBc.out (some pb)) rfl
    have QS : Hid (wc.heap.size ≤ (wc.setCell ⟨pb, 0, none⟩ (.int .i64 q)).heap.size) := by rw [size_setCell]; exact Nat.le_refl _
    clear P0 F0 PH Y1 Y2 HBc
    generalize wc.setCell ⟨pb, 0, none⟩ (.int .i64 q) = V at *
    have P0 : V.cell? ⟨pb, 0, none⟩ = some (.int .i64 q) := by simp [World.cell?, Q1.out]
    obtain ⟨p0, p1, p2, p3⟩ := cells4 Q2.out
    obtain ⟨q0, q1, q2, q3⟩ := cells4 Q3.out
    have f0 := frozen4 (i := 0) Q3.out
    have f1 := frozen4 (i := 1) Q3.out
    have f2 := frozen4 (i := 2) Q3.out
    have f3 := frozen4 (i := 3) Q3.out
    have hn0 : l.length < 9000000 := by have := wids_len l; omega
    have hX0 : w.heap.size + 1 < X.heap.size := blk_lt X2.out
    have HXV : Hid (X.heap.size ≤ V.heap.size) := Nat.le_trans hXs QS.out
    have CL : Hid (∀ W, w.grownBy W (some pb) → _) := fun W h => Clone_any l A c W (fun k => ok k ∧ k < w.heap.size) (Kd.F_grown HR.out h (fun k hk => by simpa using HOK.out k hk.1)) hc hn0
    cases bare with
    | true =>
      have HXW : Hid (X.heap.size ≤ V.heap.size) := HXV.out
      have QCL : Hid (w.grownBy V (some pb)) := QG.out
      have QGW : Hid (w.grownBy V (some pb)) := QG.out
      have QW1 : Hid _ := Q1.out
      have QW2 : Hid _ := Q2.out
      have QW3 : Hid _ := Q3.out
      go_wp2_with fail
      refine Calls.mono (CL.out _ QCL.out) ?_
      rintro e w5 ⟨v, rfl, hN, B5⟩
      obtain ⟨AV, cV, rfl⟩ := Kd.N_slice hN
      have hVX : X.heap.size ≤ V.heap.size := HXW.out
      have start : Hid (WrRel w X V ok pb n s A c AV cV l l.length (.int .i64 ((0 : Nat) : Int)) w5) := ⟨0, q, rfl, rfl, grown_below QGW.out B5, blk_below QW1.out B5, blk_below QW2.out B5, blk_below QW3.out B5, B5.size,
        Kd.N_mono hN (fun k hk => by rcases hk with hk | hk; exact .inl hk.1; exact .inr (by omega))⟩
      have y1 := blk_below QW2.out B5
      obtain ⟨p0, p1, p2, p3⟩ := cells4 y1
      clear y1 hN B5
      go_wp2_with fail
      go_loopg [47] l.length (fun k x47 wr => WrRel w X V ok pb n s A c AV cV l k x47 wr)
      case atStart => exact start.out
      case round =>
        clear start p0 p1 p2 p3
        obtain ⟨i, pr, rfl, hki, hG, hP, y1, y2, hsz, hN⟩ := hrel
        obtain ⟨p0, p1, p2, p3⟩ := cells4 y1
        obtain ⟨q0, q1, q2, q3⟩ := cells4 y2
        by_cases hlt : i < l.length
        · obtain ⟨gk, rfl⟩ : ∃ g, gk = g + 1 := ⟨gk - 1, by omega⟩
          have e1 : decide (i < l.length) = true := decide_eq_true hlt
          obtain ⟨x, hx⟩ : ∃ x, l[i]? = some x := ⟨l[i]'hlt, List.getElem?_eq_getElem _⟩
          obtain ⟨gb, cap, e9, hgb, hgl, _⟩ := Kd.N_form hN (by omega)
          obtain rfl : AV = some ⟨gb, 0, none⟩ := by injection e9
          clear e9
          obtain ⟨A5, c5, ⟨g0, g1, g2, g3⟩, g4, g5⟩ := own_at hN hlt hx
          have HX : Hid _ := hx
          have HG : Hid _ := hG
          have HPr : Hid _ := hP
          have HY1 : Hid _ := y1
          have HY2 : Hid _ := y2
          have HN : Hid _ := hN
          have G5 : Hid _ := g5
          clear hx hN g5 hG hP y1 y2
          obtain ⟨y0, y1, y2, y3⟩ := x
          simp only [] at g0 g1 g2 g3 g4
          go_upto_region 13 with fail
          have V4 := (MapKept.heap_alloc wr (Obj.cells #[.int .i64 y0, .int .i64 y1, .string y2, .slice A5 y3.length c5] 24)).1
          have HV : Hid (Below wr.heap.size wr (wr.alloc (Obj.cells #[.int .i64 y0, .int .i64 y1, .string y2, .slice A5 y3.length c5] 24))) := below_alloc (Below.refl _ _) _
          generalize wr.alloc (Obj.cells #[.int .i64 y0, .int .i64 y1, .string y2, .slice A5 y3.length c5] 24) = V2 at *
          generalize hbk : wr.heap.size = bk at *
          have hV9 : Below wr.heap.size wr V2 := by subst hbk; exact HV.out
          clear HV
          have N2 : Hid _ := Kd.N_below HN.out hV9
          have HGV : Hid (w.grownBy V2 (some pb)) := grown_below HG.out hV9
          have HPV : Hid _ := blk_below HPr.out hV9
          have HYa : Hid _ := blk_below HY1.out hV9
          have HYb : Hid _ := blk_below HY2.out hV9
          have G6 : Hid _ := Kd.F_below G5.out hV9
          replace g0 := pw_cell_below hV9 g0
          replace g1 := pw_cell_below hV9 g1
          replace g2 := pw_cell_below hV9 g2
          replace g3 := pw_cell_below hV9 g3
          have hV2s : V.heap.size ≤ V2.heap.size := Nat.le_trans (by omega) hV9.size
          have hgV : gb < V2.heap.size := Nat.lt_of_lt_of_le (by omega) hV9.size
          clear hV9 HN G5 HG HPr HY1 HY2 p0 p1 p2 p3 q0 q1 q2 q3
          obtain ⟨r0, r1, r2, r3⟩ := cells4 V4
          have PP0 : V2.cell? ⟨pb, 0, none⟩ = some (.int .i64 pr) := by simp [World.cell?, HPV.out]
          have PF0 := frozen4 (i := 0) HPV.out
          have HGc : Hid _ := And.intro g0 (And.intro g1 (And.intro g2 g3))
          have APP : Hid (∀ b, Calls Tryz.prog 98 #[.pointer (some ⟨sp, 0, none⟩), formV y0 y1 y2 A5 y3.length c5, .bool b, .pointer (some ⟨pb, 0, none⟩)] V2 (WrPost V2 (fun k => (ok k ∧ k < w.heap.size ∨ X.heap.size ≤ k) ∧ k ≠ gb) pb ⟨y0, y1, y2, y3⟩)) := fun b => by
            have h9 := HQ.out _ (List.mem_of_getElem? HX.out)
            refine h9.1 V2 _ base sp vb tb pb mtv A5 c5 b pr (HS.out.grown HGV.out hps hpv hpt) hps hpv hpt HPV.out G6.out (fun k hk => ?_) g4 h9.2.1 h9.2.2
            rcases hk.1 with h | h
            · exact HOK.out k h.1
            · omega
          clear g0 g1 g2 g3 V4 G6
          rcases Nat.eq_zero_or_pos i with h0 | h0
          · have t0 : ((i : Int) == 0) = true := beq_iff_eq.mpr (by omega)
            have HH0 : Hid _ := h0
            clear h0
            go_wp2_with fail
            refine Calls.mono (APP.out _) ?_
            rintro e w6 ⟨b, p6, A7, c7, rfl, hc7, hF7, hG7, hP7⟩
            have N6 := Kd.N_grown N2.out hG7 (fun k hk => by
              rcases hk with h | h
              · simpa using HOK.out k h.1
              · simp; omega)
            have y6a := (hG7.block _ (blk_lt HYa.out) (by simp; omega)).trans HYa.out
            have y6b := (hG7.block _ (blk_lt HYb.out) (by simp; omega)).trans HYb.out
            have hS6 := hG7.size
            obtain ⟨g0, g1, g2, g3⟩ := HGc.out
            have hgp : some gb ≠ some pb := by simp; omega
            replace g0 := cell_grown hG7 g0 hgp
            replace g1 := cell_grown hG7 g1 hgp
            replace g2 := cell_grown hG7 g2 hgp
            replace g3 := cell_grown hG7 g3 hgp
            have HG6 : Hid (w.grownBy w6 (some pb)) := HGV.out.trans hG7
            have HN6 : Hid _ := N6
            have HF6 : Hid _ := hF7
            have HP6 : Hid _ := hP7
            have H6a : Hid _ := y6a
            have H6b : Hid _ := y6b
            have HG4 : Hid _ := And.intro g0 (And.intro g1 (And.intro g2 g3))
            clear g0 g1 g2 g3 hgp N6 hF7 hP7 y6a y6b hG7 r0 r1 r2 r3 PP0 PF0
            go_upto_region 16 with fail
            have V7 := (MapKept.heap_alloc w6 (Obj.cells #[.int .i64 y0, .int .i64 y1, .string y2, .slice A7 y3.length c7] 24)).1
            have HV7 : Hid (Below w6.heap.size w6 (w6.alloc (Obj.cells #[.int .i64 y0, .int .i64 y1, .string y2, .slice A7 y3.length c7] 24))) := below_alloc (Below.refl _ _) _
            generalize w6.alloc (Obj.cells #[.int .i64 y0, .int .i64 y1, .string y2, .slice A7 y3.length c7] 24) = w7 at *
            generalize hb7 : w6.heap.size = b7 at *
            have hV7 : Below w6.heap.size w6 w7 := by subst hb7; exact HV7.out
            have z1 := blk_below H6a.out hV7
            have z2 := blk_below H6b.out hV7
            obtain ⟨r0, r1, r2, r3⟩ := cells4 V7
            obtain ⟨p0, p1, p2, p3⟩ := cells4 z1
            obtain ⟨q0, q1, q2, q3⟩ := cells4 z2
            have HG7 : Hid (w.grownBy w7 (some pb)) := grown_below HG6.out hV7
            have HP7 : Hid _ := blk_below HP6.out hV7
            have HN7 : Hid _ := Kd.N_below HN6.out hV7
            have HF7 : Hid _ := Kd.F_below HF6.out hV7
            obtain ⟨g0, g1, g2, g3⟩ := HG4.out
            have HG5 : Hid _ := And.intro (pw_cell_below hV7 g0) (And.intro (pw_cell_below hV7 g1) (And.intro (pw_cell_below hV7 g2) (pw_cell_below hV7 g3)))
            have hS7 : V2.heap.size ≤ w7.heap.size := Nat.le_trans (by omega) hV7.size
            have Z1 : Hid _ := z1
            have Z2 : Hid _ := z2
            have f0 := frozen4 (i := 0) z2
            have f1 := frozen4 (i := 1) z2
            have f2 := frozen4 (i := 2) z2
            have f3 := frozen4 (i := 3) z2
            clear g0 g1 g2 g3 HV7 hV7 z1 z2 V7 HG6 HP6 HN6 HF6 H6a H6b HG4
            cases b with
            | false =>
              go_wp2_with fail
              have GE : w.grownBy ((((w7.setCell ⟨w.heap.size + 1, 0, none⟩ (.int .i64 3)).setCell ⟨w.heap.size + 1, 1, none⟩ (.int .i64 n)).setCell ⟨w.heap.size + 1, 2, none⟩ (.string s)).setCell ⟨w.heap.size + 1, 3, none⟩ (.slice A l.length c)) (some pb) := grown_far4 HG7.out (by omega)
              refine bodyPost_ret (results_ct rfl _ _ (w.heap.size + 1) 24 #[.int .i64 3, .int .i64 n, .string s, .slice A l.length c] (0, 0) _ rfl (set4 Z2.out) Tryz.underlying24 rfl (by kernel_rfl)) rfl ⟨false, p6, A, c, rfl, hc, ?_, GE, (stay4 (by omega)).trans HP7.out⟩
              exact Kd.F_mono (Kd.F_grown HR.out GE (fun k hk => by simpa using HOK.out k hk.1)) (fun k hk => .inl hk.1)
            | true =>
              go_wp2_with ((with_reducible refine gate_store (t := 24) (p := 91) rfl ?_); go_must (refine Kd.N_store k24 (w0 := w7) V.heap.size rfl rfl 24 (.tmp 91) (.tmp 90) rfl 24 (i : Int) 0 l ⟨y0, y1, y2, y3⟩ (formV y0 y1 y2 A7 y3.length c7) [.int .i64 y0, .int .i64 y1, .string y2, .slice A7 y3.length c7] [.int .i64 y0, .int .i64 y1, .string y2, .slice A5 y3.length c5] (fun k => ok k ∧ k < w.heap.size ∨ X.heap.size ≤ k) (fun k => (ok k ∧ k < w.heap.size ∨ X.heap.size ≤ k) ∧ k ≠ gb) rfl ?_ rfl rfl ?_ ?_ HN7.out (by omega) (by omega) rfl ?_ (by show (4 : Nat) ≤ 4; omega) ?_ (fun k hk => hk) (Below.refl _ _) ?_))
              · exact place_i i
              · exact size24 _ _ _ _
              · exact cells_one
              · exact cells_old HG5.out
              · refine k24_mkF w7 _ ⟨y0, y1, y2, y3⟩ hc7 ?_
                refine Kd.F_mono HF7.out (fun k hk => ?_)
                rcases hk with hk | hk
                · exact hk
                · exact ⟨.inr (by omega), by omega⟩
              · intro w8 hN8 hB8 hg8
                rw [Int.toNat_natCast, set_same HX.out] at hN8
                have HN8 : Hid _ := hN8
                have HG8 : Hid (w.grownBy w8 (some pb)) := grown_row HG7.out hg8 (by omega)
                have HP8 : Hid _ := (hg8.block _ (blk_lt HP7.out) (by simp; omega)).trans HP7.out
                have H8a : Hid _ := (hg8.block _ (blk_lt Z1.out) (by simp; omega)).trans Z1.out
                have H8b : Hid _ := (hg8.block _ (blk_lt Z2.out) (by simp; omega)).trans Z2.out
                have hS8 := hg8.size
                clear hN8 hB8 hg8
                go_wp2_with fail
                go_roundg gk
                case measure => omega
                case rel => exact ⟨i + 1, p6, by first | go_num | (rw [HH0.out]; first | rfl | go_num), by omega, HG8.out, HP8.out, H8a.out, H8b.out, by omega, HN8.out⟩
          · have t0 : ((i : Int) == 0) = false := beq_eq_false_iff_ne.mpr (by omega)
            go_wp2_with fail
            refine Calls.mono (APP.out _) ?_
            rintro e w6 ⟨b, p6, A7, c7, rfl, hc7, hF7, hG7, hP7⟩
            have N6 := Kd.N_grown N2.out hG7 (fun k hk => by
              rcases hk with h | h
              · simpa using HOK.out k h.1
              · simp; omega)
            have y6a := (hG7.block _ (blk_lt HYa.out) (by simp; omega)).trans HYa.out
            have y6b := (hG7.block _ (blk_lt HYb.out) (by simp; omega)).trans HYb.out
            have hS6 := hG7.size
            obtain ⟨g0, g1, g2, g3⟩ := HGc.out
            have hgp : some gb ≠ some pb := by simp; omega
            replace g0 := cell_grown hG7 g0 hgp
            replace g1 := cell_grown hG7 g1 hgp
            replace g2 := cell_grown hG7 g2 hgp
            replace g3 := cell_grown hG7 g3 hgp
            have HG6 : Hid (w.grownBy w6 (some pb)) := HGV.out.trans hG7
            have HN6 : Hid _ := N6
            have HF6 : Hid _ := hF7
            have HP6 : Hid _ := hP7
            have H6a : Hid _ := y6a
            have H6b : Hid _ := y6b
            have HG4 : Hid _ := And.intro g0 (And.intro g1 (And.intro g2 g3))
            clear g0 g1 g2 g3 hgp N6 hF7 hP7 y6a y6b hG7 r0 r1 r2 r3 PP0 PF0
            go_upto_region 16 with fail
            have V7 := (MapKept.heap_alloc w6 (Obj.cells #[.int .i64 y0, .int .i64 y1, .string y2, .slice A7 y3.length c7] 24)).1
            have HV7 : Hid (Below w6.heap.size w6 (w6.alloc (Obj.cells #[.int .i64 y0, .int .i64 y1, .string y2, .slice A7 y3.length c7] 24))) := below_alloc (Below.refl _ _) _
            generalize w6.alloc (Obj.cells #[.int .i64 y0, .int .i64 y1, .string y2, .slice A7 y3.length c7] 24) = w7 at *
            generalize hb7 : w6.heap.size = b7 at *
            have hV7 : Below w6.heap.size w6 w7 := by subst hb7; exact HV7.out
            have z1 := blk_below H6a.out hV7
            have z2 := blk_below H6b.out hV7
            obtain ⟨r0, r1, r2, r3⟩ := cells4 V7
            obtain ⟨p0, p1, p2, p3⟩ := cells4 z1
            obtain ⟨q0, q1, q2, q3⟩ := cells4 z2
            have HG7 : Hid (w.grownBy w7 (some pb)) := grown_below HG6.out hV7
            have HP7 : Hid _ := blk_below HP6.out hV7
            have HN7 : Hid _ := Kd.N_below HN6.out hV7
            have HF7 : Hid _ := Kd.F_below HF6.out hV7
            obtain ⟨g0, g1, g2, g3⟩ := HG4.out
            have HG5 : Hid _ := And.intro (pw_cell_below hV7 g0) (And.intro (pw_cell_below hV7 g1) (And.intro (pw_cell_below hV7 g2) (pw_cell_below hV7 g3)))
            have hS7 : V2.heap.size ≤ w7.heap.size := Nat.le_trans (by omega) hV7.size
            have Z1 : Hid _ := z1
            have Z2 : Hid _ := z2
            have f0 := frozen4 (i := 0) z2
            have f1 := frozen4 (i := 1) z2
            have f2 := frozen4 (i := 2) z2
            have f3 := frozen4 (i := 3) z2
            clear g0 g1 g2 g3 HV7 hV7 z1 z2 V7 HG6 HP6 HN6 HF6 H6a H6b HG4
            cases b with
            | false =>
              go_wp2_with fail
              have GE : w.grownBy ((((w7.setCell ⟨w.heap.size + 1, 0, none⟩ (.int .i64 3)).setCell ⟨w.heap.size + 1, 1, none⟩ (.int .i64 n)).setCell ⟨w.heap.size + 1, 2, none⟩ (.string s)).setCell ⟨w.heap.size + 1, 3, none⟩ (.slice A l.length c)) (some pb) := grown_far4 HG7.out (by omega)
              refine bodyPost_ret (results_ct rfl _ _ (w.heap.size + 1) 24 #[.int .i64 3, .int .i64 n, .string s, .slice A l.length c] (0, 0) _ rfl (set4 Z2.out) Tryz.underlying24 rfl (by kernel_rfl)) rfl ⟨false, p6, A, c, rfl, hc, ?_, GE, (stay4 (by omega)).trans HP7.out⟩
              exact Kd.F_mono (Kd.F_grown HR.out GE (fun k hk => by simpa using HOK.out k hk.1)) (fun k hk => .inl hk.1)
            | true =>
              go_wp2_with ((with_reducible refine gate_store (t := 24) (p := 91) rfl ?_); go_must (refine Kd.N_store k24 (w0 := w7) V.heap.size rfl rfl 24 (.tmp 91) (.tmp 90) rfl 24 (i : Int) 0 l ⟨y0, y1, y2, y3⟩ (formV y0 y1 y2 A7 y3.length c7) [.int .i64 y0, .int .i64 y1, .string y2, .slice A7 y3.length c7] [.int .i64 y0, .int .i64 y1, .string y2, .slice A5 y3.length c5] (fun k => ok k ∧ k < w.heap.size ∨ X.heap.size ≤ k) (fun k => (ok k ∧ k < w.heap.size ∨ X.heap.size ≤ k) ∧ k ≠ gb) rfl ?_ rfl rfl ?_ ?_ HN7.out (by omega) (by omega) rfl ?_ (by show (4 : Nat) ≤ 4; omega) ?_ (fun k hk => hk) (Below.refl _ _) ?_))
              · exact place_i i
              · exact size24 _ _ _ _
              · exact cells_one
              · exact cells_old HG5.out
              · refine k24_mkF w7 _ ⟨y0, y1, y2, y3⟩ hc7 ?_
                refine Kd.F_mono HF7.out (fun k hk => ?_)
                rcases hk with hk | hk
                · exact hk
                · exact ⟨.inr (by omega), by omega⟩
              · intro w8 hN8 hB8 hg8
                rw [Int.toNat_natCast, set_same HX.out] at hN8
                have HN8 : Hid _ := hN8
                have HG8 : Hid (w.grownBy w8 (some pb)) := grown_row HG7.out hg8 (by omega)
                have HP8 : Hid _ := (hg8.block _ (blk_lt HP7.out) (by simp; omega)).trans HP7.out
                have H8a : Hid _ := (hg8.block _ (blk_lt Z1.out) (by simp; omega)).trans Z1.out
                have H8b : Hid _ := (hg8.block _ (blk_lt Z2.out) (by simp; omega)).trans Z2.out
                have hS8 := hg8.size
                clear hN8 hB8 hg8
                go_wp2_with fail
                go_roundg gk
                case measure => omega
                case rel => exact ⟨i + 1, p6, by first | go_num | (rw [HH0.out]; first | rfl | go_num), by omega, HG8.out, HP8.out, H8a.out, H8b.out, by omega, HN8.out⟩

        · have e1 : decide (i < l.length) = false := decide_eq_false hlt
          have HN : Hid _ := hN
          have HG : Hid _ := hG
          have HPr : Hid _ := hP
          have Z1 : Hid _ := y1
          have Z2 : Hid _ := y2
          have f13 := frozen4 (i := 3) y1
          have f0 := frozen4 (i := 0) y2
          have f1 := frozen4 (i := 1) y2
          have f2 := frozen4 (i := 2) y2
          have f3 := frozen4 (i := 3) y2
          have hge : l.length ≤ i := by omega
          clear hN y1 y2 hP hG
          go_wp2_with fail
          have hRd := (Kd.N_reads' HN.out).2.1
          have GE : w.grownBy (((((wr.setCell ⟨w.heap.size, 3, none⟩ (.slice AV l.length cV)).setCell ⟨w.heap.size + 1, 0, none⟩ (.int .i64 3)).setCell ⟨w.heap.size + 1, 1, none⟩ (.int .i64 n)).setCell ⟨w.heap.size + 1, 2, none⟩ (.string s)).setCell ⟨w.heap.size + 1, 3, none⟩ (.slice AV l.length cV)) (some pb) :=
            grown_far4 (grown_far HG.out (Nat.le_refl _)) (by omega)
          refine bodyPost_ret (results_ct rfl _ _ (w.heap.size + 1) 24 #[.int .i64 3, .int .i64 n, .string s, .slice AV l.length cV] (0, 0) _ rfl (set4 ((heap_setCell_other wr ⟨w.heap.size, 3, none⟩ (w.heap.size + 1) _ (by simp)).trans Z2.out)) Tryz.underlying24 rfl (by kernel_rfl)) rfl ⟨true, pr, AV, cV, rfl, hRd, ?_, GE, ?_⟩
          · have FN := Kd.N_F HN.out
            refine Kd.F_mono (Kd.F_step FN (fun k hk hlt => far5 (a := w.heap.size) (b := w.heap.size + 1) ?_ ?_)) (fun k hk => ?_)
            · rcases hk with hk | hk
              · omega
              · omega
            · rcases hk with hk | hk
              · omega
              · omega
            · rcases hk with hk | hk
              · exact .inl hk.1
              · exact .inr (by omega)
          · exact (far5 (a := w.heap.size) (b := w.heap.size + 1) (by omega) (by omega)).trans HPr.out
    | false =>
      have HHD : Hid _ := Head_three n s c V (Kd.F_now (Kd.F_grown HR.out QG.out (fun k hk => by simpa using HOK.out k hk.1)))
      obtain ⟨fn, hfn⟩ : ∃ fn, fn = isFunW (headL l) := ⟨_, rfl⟩
      have hfw : ((headL l).toList == [102, 117, 110]) = fn := hfn.symm
      clear hfn
      go_wp2_with fail
      refine Calls.mono HHD.out ?_
      rintro e w4 ⟨rfl, B4⟩
      have QCL : Hid (w.grownBy w4 (some pb)) := grown_below QG.out B4
      have QGW : Hid (w.grownBy w4 (some pb)) := grown_below QG.out B4
      have HXW : Hid (X.heap.size ≤ w4.heap.size) := Nat.le_trans HXV.out B4.size
      have QW1 : Hid _ := blk_below Q1.out B4
      have QW2 : Hid _ := blk_below Q2.out B4
      have QW3 : Hid _ := blk_below Q3.out B4
      replace p0 := pw_cell_below B4 p0
      replace p1 := pw_cell_below B4 p1
      replace p2 := pw_cell_below B4 p2
      replace p3 := pw_cell_below B4 p3
      clear B4
      go_wp2_with fail
      refine Calls.mono (CL.out _ QCL.out) ?_
      rintro e w5 ⟨v, rfl, hN, B5⟩
      obtain ⟨AV, cV, rfl⟩ := Kd.N_slice hN
      have hVX : X.heap.size ≤ w4.heap.size := HXW.out
      have start : Hid (WrRel w X w4 ok pb n s A c AV cV l l.length (.int .i64 ((0 : Nat) : Int)) w5) := ⟨0, q, rfl, rfl, grown_below QGW.out B5, blk_below QW1.out B5, blk_below QW2.out B5, blk_below QW3.out B5, B5.size,
        Kd.N_mono hN (fun k hk => by rcases hk with hk | hk; exact .inl hk.1; exact .inr (by omega))⟩
      have y1 := blk_below QW2.out B5
      obtain ⟨p0, p1, p2, p3⟩ := cells4 y1
      clear y1 hN B5
      go_wp2_with fail
      go_loopg [47] l.length (fun k x47 wr => WrRel w X w4 ok pb n s A c AV cV l k x47 wr)
      case atStart => exact start.out
      case round =>
        clear start p0 p1 p2 p3
        obtain ⟨i, pr, rfl, hki, hG, hP, y1, y2, hsz, hN⟩ := hrel
        obtain ⟨p0, p1, p2, p3⟩ := cells4 y1
        obtain ⟨q0, q1, q2, q3⟩ := cells4 y2
        by_cases hlt : i < l.length
        · obtain ⟨gk, rfl⟩ : ∃ g, gk = g + 1 := ⟨gk - 1, by omega⟩
          have e1 : decide (i < l.length) = true := decide_eq_true hlt
          obtain ⟨x, hx⟩ : ∃ x, l[i]? = some x := ⟨l[i]'hlt, List.getElem?_eq_getElem _⟩
          obtain ⟨gb, cap, e9, hgb, hgl, _⟩ := Kd.N_form hN (by omega)
          obtain rfl : AV = some ⟨gb, 0, none⟩ := by injection e9
          clear e9
          obtain ⟨A5, c5, ⟨g0, g1, g2, g3⟩, g4, g5⟩ := own_at hN hlt hx
          have HX : Hid _ := hx
          have HG : Hid _ := hG
          have HPr : Hid _ := hP
          have HY1 : Hid _ := y1
          have HY2 : Hid _ := y2
          have HN : Hid _ := hN
          have G5 : Hid _ := g5
          clear hx hN g5 hG hP y1 y2
          obtain ⟨y0, y1, y2, y3⟩ := x
          simp only [] at g0 g1 g2 g3 g4
          go_upto_region 13 with fail
          have V4 := (MapKept.heap_alloc wr (Obj.cells #[.int .i64 y0, .int .i64 y1, .string y2, .slice A5 y3.length c5] 24)).1
          have HV : Hid (Below wr.heap.size wr (wr.alloc (Obj.cells #[.int .i64 y0, .int .i64 y1, .string y2, .slice A5 y3.length c5] 24))) := below_alloc (Below.refl _ _) _
          generalize wr.alloc (Obj.cells #[.int .i64 y0, .int .i64 y1, .string y2, .slice A5 y3.length c5] 24) = V2 at *
          generalize hbk : wr.heap.size = bk at *
          have hV9 : Below wr.heap.size wr V2 := by subst hbk; exact HV.out
          clear HV
          have N2 : Hid _ := Kd.N_below HN.out hV9
          have HGV : Hid (w.grownBy V2 (some pb)) := grown_below HG.out hV9
          have HPV : Hid _ := blk_below HPr.out hV9
          have HYa : Hid _ := blk_below HY1.out hV9
          have HYb : Hid _ := blk_below HY2.out hV9
          have G6 : Hid _ := Kd.F_below G5.out hV9
          replace g0 := pw_cell_below hV9 g0
          replace g1 := pw_cell_below hV9 g1
          replace g2 := pw_cell_below hV9 g2
          replace g3 := pw_cell_below hV9 g3
          have hV2s : w4.heap.size ≤ V2.heap.size := Nat.le_trans (by omega) hV9.size
          have hgV : gb < V2.heap.size := Nat.lt_of_lt_of_le (by omega) hV9.size
          clear hV9 HN G5 HG HPr HY1 HY2 p0 p1 p2 p3 q0 q1 q2 q3
          obtain ⟨r0, r1, r2, r3⟩ := cells4 V4
          have PP0 : V2.cell? ⟨pb, 0, none⟩ = some (.int .i64 pr) := by simp [World.cell?, HPV.out]
          have PF0 := frozen4 (i := 0) HPV.out
          have HGc : Hid _ := And.intro g0 (And.intro g1 (And.intro g2 g3))
          have APP : Hid (∀ b, Calls Tryz.prog 98 #[.pointer (some ⟨sp, 0, none⟩), formV y0 y1 y2 A5 y3.length c5, .bool b, .pointer (some ⟨pb, 0, none⟩)] V2 (WrPost V2 (fun k => (ok k ∧ k < w.heap.size ∨ X.heap.size ≤ k) ∧ k ≠ gb) pb ⟨y0, y1, y2, y3⟩)) := fun b => by
            have h9 := HQ.out _ (List.mem_of_getElem? HX.out)
            refine h9.1 V2 _ base sp vb tb pb mtv A5 c5 b pr (HS.out.grown HGV.out hps hpv hpt) hps hpv hpt HPV.out G6.out (fun k hk => ?_) g4 h9.2.1 h9.2.2
            rcases hk.1 with h | h
            · exact HOK.out k h.1
            · omega
          clear g0 g1 g2 g3 V4 G6
          rcases Nat.eq_zero_or_pos i with h0 | h0
          · have t0 : ((i : Int) == 0) = true := beq_iff_eq.mpr (by omega)
            have t2 : ((i : Int) == 1) = false := beq_eq_false_iff_ne.mpr (by omega)
            by_cases hk : y0 = 1
            · have k1 : (y0 == 1) = true := beq_iff_eq.mpr hk
              have HK1 : Hid _ := hk
              have HH0 : Hid _ := h0
              clear h0 hk
              go_wp2_with fail
              have GV9 : w.grownBy (V2.setCell ⟨pb, 0, none⟩ (.int .i64 (wrap64 (pr - 1)))) (some pb) := grown_set HGV.out rfl
              have GX9 : V2.grownBy (V2.setCell ⟨pb, 0, none⟩ (.int .i64 (wrap64 (pr - 1)))) (some pb) := ⟨rfl, rfl, rfl, by rw [size_setCell]; exact Nat.le_refl _, fun k hk hne => Below.heap_setCell _ _ _ _ (fun e => hne (by rw [e]))⟩
              go_roundg gk
              case measure => omega
              case rel => exact ⟨i + 1, wrap64 (pr - 1), by rw [HH0.out]; first | rfl | go_num, by omega, GV9, heap_setCell_same _ pb 0 #[.int .i64 pr] 3 _ HPV.out, (heap_setCell_other V2 ⟨pb, 0, none⟩ _ _ (by simp; omega)).trans HYa.out, (heap_setCell_other V2 ⟨pb, 0, none⟩ _ _ (by simp; omega)).trans HYb.out, by rw [size_setCell]; exact hV2s, Kd.N_grown N2.out GX9 (fun k hk => by
                rcases hk with h | h
                · simpa using HOK.out k h.1
                · simp; omega)⟩
            · have k1 : (y0 == 1) = false := beq_eq_false_iff_ne.mpr hk
              have HH0 : Hid _ := h0
              clear h0 hk
              cases fn with
              | false =>
                go_wp2_with fail
                refine Calls.mono (APP.out _) ?_
                rintro e w6 ⟨b, p6, A7, c7, rfl, hc7, hF7, hG7, hP7⟩
                have N6 := Kd.N_grown N2.out hG7 (fun k hk => by
                  rcases hk with h | h
                  · simpa using HOK.out k h.1
                  · simp; omega)
                have y6a := (hG7.block _ (blk_lt HYa.out) (by simp; omega)).trans HYa.out
                have y6b := (hG7.block _ (blk_lt HYb.out) (by simp; omega)).trans HYb.out
                have hS6 := hG7.size
                obtain ⟨g0, g1, g2, g3⟩ := HGc.out
                have hgp : some gb ≠ some pb := by simp; omega
                replace g0 := cell_grown hG7 g0 hgp
                replace g1 := cell_grown hG7 g1 hgp
                replace g2 := cell_grown hG7 g2 hgp
                replace g3 := cell_grown hG7 g3 hgp
                have HG6 : Hid (w.grownBy w6 (some pb)) := HGV.out.trans hG7
                have HN6 : Hid _ := N6
                have HF6 : Hid _ := hF7
                have HP6 : Hid _ := hP7
                have H6a : Hid _ := y6a
                have H6b : Hid _ := y6b
                have HG4 : Hid _ := And.intro g0 (And.intro g1 (And.intro g2 g3))
                clear g0 g1 g2 g3 hgp N6 hF7 hP7 y6a y6b hG7 r0 r1 r2 r3 PP0 PF0
                go_upto_region 16 with fail
                have V7 := (MapKept.heap_alloc w6 (Obj.cells #[.int .i64 y0, .int .i64 y1, .string y2, .slice A7 y3.length c7] 24)).1
                have HV7 : Hid (Below w6.heap.size w6 (w6.alloc (Obj.cells #[.int .i64 y0, .int .i64 y1, .string y2, .slice A7 y3.length c7] 24))) := below_alloc (Below.refl _ _) _
                generalize w6.alloc (Obj.cells #[.int .i64 y0, .int .i64 y1, .string y2, .slice A7 y3.length c7] 24) = w7 at *
                generalize hb7 : w6.heap.size = b7 at *
                have hV7 : Below w6.heap.size w6 w7 := by subst hb7; exact HV7.out
                have z1 := blk_below H6a.out hV7
                have z2 := blk_below H6b.out hV7
                obtain ⟨r0, r1, r2, r3⟩ := cells4 V7
                obtain ⟨p0, p1, p2, p3⟩ := cells4 z1
                obtain ⟨q0, q1, q2, q3⟩ := cells4 z2
                have HG7 : Hid (w.grownBy w7 (some pb)) := grown_below HG6.out hV7
                have HP7 : Hid _ := blk_below HP6.out hV7
                have HN7 : Hid _ := Kd.N_below HN6.out hV7
                have HF7 : Hid _ := Kd.F_below HF6.out hV7
                obtain ⟨g0, g1, g2, g3⟩ := HG4.out
                have HG5 : Hid _ := And.intro (pw_cell_below hV7 g0) (And.intro (pw_cell_below hV7 g1) (And.intro (pw_cell_below hV7 g2) (pw_cell_below hV7 g3)))
                have hS7 : V2.heap.size ≤ w7.heap.size := Nat.le_trans (by omega) hV7.size
                have Z1 : Hid _ := z1
                have Z2 : Hid _ := z2
                have f0 := frozen4 (i := 0) z2
                have f1 := frozen4 (i := 1) z2
                have f2 := frozen4 (i := 2) z2
                have f3 := frozen4 (i := 3) z2
                clear g0 g1 g2 g3 HV7 hV7 z1 z2 V7 HG6 HP6 HN6 HF6 H6a H6b HG4
                cases b with
                | false =>
                  go_wp2_with fail
                  have GE : w.grownBy ((((w7.setCell ⟨w.heap.size + 1, 0, none⟩ (.int .i64 3)).setCell ⟨w.heap.size + 1, 1, none⟩ (.int .i64 n)).setCell ⟨w.heap.size + 1, 2, none⟩ (.string s)).setCell ⟨w.heap.size + 1, 3, none⟩ (.slice A l.length c)) (some pb) := grown_far4 HG7.out (by omega)
                  refine bodyPost_ret (results_ct rfl _ _ (w.heap.size + 1) 24 #[.int .i64 3, .int .i64 n, .string s, .slice A l.length c] (0, 0) _ rfl (set4 Z2.out) Tryz.underlying24 rfl (by kernel_rfl)) rfl ⟨false, p6, A, c, rfl, hc, ?_, GE, (stay4 (by omega)).trans HP7.out⟩
                  exact Kd.F_mono (Kd.F_grown HR.out GE (fun k hk => by simpa using HOK.out k hk.1)) (fun k hk => .inl hk.1)
                | true =>
                  go_wp2_with ((with_reducible refine gate_store (t := 24) (p := 91) rfl ?_); go_must (refine Kd.N_store k24 (w0 := w7) w4.heap.size rfl rfl 24 (.tmp 91) (.tmp 90) rfl 24 (i : Int) 0 l ⟨y0, y1, y2, y3⟩ (formV y0 y1 y2 A7 y3.length c7) [.int .i64 y0, .int .i64 y1, .string y2, .slice A7 y3.length c7] [.int .i64 y0, .int .i64 y1, .string y2, .slice A5 y3.length c5] (fun k => ok k ∧ k < w.heap.size ∨ X.heap.size ≤ k) (fun k => (ok k ∧ k < w.heap.size ∨ X.heap.size ≤ k) ∧ k ≠ gb) rfl ?_ rfl rfl ?_ ?_ HN7.out (by omega) (by omega) rfl ?_ (by show (4 : Nat) ≤ 4; omega) ?_ (fun k hk => hk) (Below.refl _ _) ?_))
                  · exact place_i i
                  · exact size24 _ _ _ _
                  · exact cells_one
                  · exact cells_old HG5.out
                  · refine k24_mkF w7 _ ⟨y0, y1, y2, y3⟩ hc7 ?_
                    refine Kd.F_mono HF7.out (fun k hk => ?_)
                    rcases hk with hk | hk
                    · exact hk
                    · exact ⟨.inr (by omega), by omega⟩
                  · intro w8 hN8 hB8 hg8
                    rw [Int.toNat_natCast, set_same HX.out] at hN8
                    have HN8 : Hid _ := hN8
                    have HG8 : Hid (w.grownBy w8 (some pb)) := grown_row HG7.out hg8 (by omega)
                    have HP8 : Hid _ := (hg8.block _ (blk_lt HP7.out) (by simp; omega)).trans HP7.out
                    have H8a : Hid _ := (hg8.block _ (blk_lt Z1.out) (by simp; omega)).trans Z1.out
                    have H8b : Hid _ := (hg8.block _ (blk_lt Z2.out) (by simp; omega)).trans Z2.out
                    have hS8 := hg8.size
                    clear hN8 hB8 hg8
                    go_wp2_with fail
                    go_roundg gk
                    case measure => omega
                    case rel => exact ⟨i + 1, p6, by first | go_num | (rw [HH0.out]; first | rfl | go_num), by omega, HG8.out, HP8.out, H8a.out, H8b.out, by omega, HN8.out⟩
              | true =>
                go_wp2_with fail
                refine Calls.mono (APP.out _) ?_
                rintro e w6 ⟨b, p6, A7, c7, rfl, hc7, hF7, hG7, hP7⟩
                have N6 := Kd.N_grown N2.out hG7 (fun k hk => by
                  rcases hk with h | h
                  · simpa using HOK.out k h.1
                  · simp; omega)
                have y6a := (hG7.block _ (blk_lt HYa.out) (by simp; omega)).trans HYa.out
                have y6b := (hG7.block _ (blk_lt HYb.out) (by simp; omega)).trans HYb.out
                have hS6 := hG7.size
                obtain ⟨g0, g1, g2, g3⟩ := HGc.out
                have hgp : some gb ≠ some pb := by simp; omega
                replace g0 := cell_grown hG7 g0 hgp
                replace g1 := cell_grown hG7 g1 hgp
                replace g2 := cell_grown hG7 g2 hgp
                replace g3 := cell_grown hG7 g3 hgp
                have HG6 : Hid (w.grownBy w6 (some pb)) := HGV.out.trans hG7
                have HN6 : Hid _ := N6
                have HF6 : Hid _ := hF7
                have HP6 : Hid _ := hP7
                have H6a : Hid _ := y6a
                have H6b : Hid _ := y6b
                have HG4 : Hid _ := And.intro g0 (And.intro g1 (And.intro g2 g3))
                clear g0 g1 g2 g3 hgp N6 hF7 hP7 y6a y6b hG7 r0 r1 r2 r3 PP0 PF0
                go_upto_region 16 with fail
                have V7 := (MapKept.heap_alloc w6 (Obj.cells #[.int .i64 y0, .int .i64 y1, .string y2, .slice A7 y3.length c7] 24)).1
                have HV7 : Hid (Below w6.heap.size w6 (w6.alloc (Obj.cells #[.int .i64 y0, .int .i64 y1, .string y2, .slice A7 y3.length c7] 24))) := below_alloc (Below.refl _ _) _
                generalize w6.alloc (Obj.cells #[.int .i64 y0, .int .i64 y1, .string y2, .slice A7 y3.length c7] 24) = w7 at *
                generalize hb7 : w6.heap.size = b7 at *
                have hV7 : Below w6.heap.size w6 w7 := by subst hb7; exact HV7.out
                have z1 := blk_below H6a.out hV7
                have z2 := blk_below H6b.out hV7
                obtain ⟨r0, r1, r2, r3⟩ := cells4 V7
                obtain ⟨p0, p1, p2, p3⟩ := cells4 z1
                obtain ⟨q0, q1, q2, q3⟩ := cells4 z2
                have HG7 : Hid (w.grownBy w7 (some pb)) := grown_below HG6.out hV7
                have HP7 : Hid _ := blk_below HP6.out hV7
                have HN7 : Hid _ := Kd.N_below HN6.out hV7
                have HF7 : Hid _ := Kd.F_below HF6.out hV7
                obtain ⟨g0, g1, g2, g3⟩ := HG4.out
                have HG5 : Hid _ := And.intro (pw_cell_below hV7 g0) (And.intro (pw_cell_below hV7 g1) (And.intro (pw_cell_below hV7 g2) (pw_cell_below hV7 g3)))
                have hS7 : V2.heap.size ≤ w7.heap.size := Nat.le_trans (by omega) hV7.size
                have Z1 : Hid _ := z1
                have Z2 : Hid _ := z2
                have f0 := frozen4 (i := 0) z2
                have f1 := frozen4 (i := 1) z2
                have f2 := frozen4 (i := 2) z2
                have f3 := frozen4 (i := 3) z2
                clear g0 g1 g2 g3 HV7 hV7 z1 z2 V7 HG6 HP6 HN6 HF6 H6a H6b HG4
                cases b with
                | false =>
                  go_wp2_with fail
                  have GE : w.grownBy ((((w7.setCell ⟨w.heap.size + 1, 0, none⟩ (.int .i64 3)).setCell ⟨w.heap.size + 1, 1, none⟩ (.int .i64 n)).setCell ⟨w.heap.size + 1, 2, none⟩ (.string s)).setCell ⟨w.heap.size + 1, 3, none⟩ (.slice A l.length c)) (some pb) := grown_far4 HG7.out (by omega)
                  refine bodyPost_ret (results_ct rfl _ _ (w.heap.size + 1) 24 #[.int .i64 3, .int .i64 n, .string s, .slice A l.length c] (0, 0) _ rfl (set4 Z2.out) Tryz.underlying24 rfl (by kernel_rfl)) rfl ⟨false, p6, A, c, rfl, hc, ?_, GE, (stay4 (by omega)).trans HP7.out⟩
                  exact Kd.F_mono (Kd.F_grown HR.out GE (fun k hk => by simpa using HOK.out k hk.1)) (fun k hk => .inl hk.1)
                | true =>
                  go_wp2_with ((with_reducible refine gate_store (t := 24) (p := 91) rfl ?_); go_must (refine Kd.N_store k24 (w0 := w7) w4.heap.size rfl rfl 24 (.tmp 91) (.tmp 90) rfl 24 (i : Int) 0 l ⟨y0, y1, y2, y3⟩ (formV y0 y1 y2 A7 y3.length c7) [.int .i64 y0, .int .i64 y1, .string y2, .slice A7 y3.length c7] [.int .i64 y0, .int .i64 y1, .string y2, .slice A5 y3.length c5] (fun k => ok k ∧ k < w.heap.size ∨ X.heap.size ≤ k) (fun k => (ok k ∧ k < w.heap.size ∨ X.heap.size ≤ k) ∧ k ≠ gb) rfl ?_ rfl rfl ?_ ?_ HN7.out (by omega) (by omega) rfl ?_ (by show (4 : Nat) ≤ 4; omega) ?_ (fun k hk => hk) (Below.refl _ _) ?_))
                  · exact place_i i
                  · exact size24 _ _ _ _
                  · exact cells_one
                  · exact cells_old HG5.out
                  · refine k24_mkF w7 _ ⟨y0, y1, y2, y3⟩ hc7 ?_
                    refine Kd.F_mono HF7.out (fun k hk => ?_)
                    rcases hk with hk | hk
                    · exact hk
                    · exact ⟨.inr (by omega), by omega⟩
                  · intro w8 hN8 hB8 hg8
                    rw [Int.toNat_natCast, set_same HX.out] at hN8
                    have HN8 : Hid _ := hN8
                    have HG8 : Hid (w.grownBy w8 (some pb)) := grown_row HG7.out hg8 (by omega)
                    have HP8 : Hid _ := (hg8.block _ (blk_lt HP7.out) (by simp; omega)).trans HP7.out
                    have H8a : Hid _ := (hg8.block _ (blk_lt Z1.out) (by simp; omega)).trans Z1.out
                    have H8b : Hid _ := (hg8.block _ (blk_lt Z2.out) (by simp; omega)).trans Z2.out
                    have hS8 := hg8.size
                    clear hN8 hB8 hg8
                    go_wp2_with fail
                    go_roundg gk
                    case measure => omega
                    case rel => exact ⟨i + 1, p6, by first | go_num | (rw [HH0.out]; first | rfl | go_num), by omega, HG8.out, HP8.out, H8a.out, H8b.out, by omega, HN8.out⟩
          · have t0 : ((i : Int) == 0) = false := beq_eq_false_iff_ne.mpr (by omega)
            cases fn with
            | false =>
              go_wp2_with fail
              refine Calls.mono (APP.out _) ?_
              rintro e w6 ⟨b, p6, A7, c7, rfl, hc7, hF7, hG7, hP7⟩
              have N6 := Kd.N_grown N2.out hG7 (fun k hk => by
                rcases hk with h | h
                · simpa using HOK.out k h.1
                · simp; omega)
              have y6a := (hG7.block _ (blk_lt HYa.out) (by simp; omega)).trans HYa.out
              have y6b := (hG7.block _ (blk_lt HYb.out) (by simp; omega)).trans HYb.out
              have hS6 := hG7.size
              obtain ⟨g0, g1, g2, g3⟩ := HGc.out
              have hgp : some gb ≠ some pb := by simp; omega
              replace g0 := cell_grown hG7 g0 hgp
              replace g1 := cell_grown hG7 g1 hgp
              replace g2 := cell_grown hG7 g2 hgp
              replace g3 := cell_grown hG7 g3 hgp
              have HG6 : Hid (w.grownBy w6 (some pb)) := HGV.out.trans hG7
              have HN6 : Hid _ := N6
              have HF6 : Hid _ := hF7
              have HP6 : Hid _ := hP7
              have H6a : Hid _ := y6a
              have H6b : Hid _ := y6b
              have HG4 : Hid _ := And.intro g0 (And.intro g1 (And.intro g2 g3))
              clear g0 g1 g2 g3 hgp N6 hF7 hP7 y6a y6b hG7 r0 r1 r2 r3 PP0 PF0
              go_upto_region 16 with fail
              have V7 := (MapKept.heap_alloc w6 (Obj.cells #[.int .i64 y0, .int .i64 y1, .string y2, .slice A7 y3.length c7] 24)).1
              have HV7 : Hid (Below w6.heap.size w6 (w6.alloc (Obj.cells #[.int .i64 y0, .int .i64 y1, .string y2, .slice A7 y3.length c7] 24))) := below_alloc (Below.refl _ _) _
              generalize w6.alloc (Obj.cells #[.int .i64 y0, .int .i64 y1, .string y2, .slice A7 y3.length c7] 24) = w7 at *
              generalize hb7 : w6.heap.size = b7 at *
              have hV7 : Below w6.heap.size w6 w7 := by subst hb7; exact HV7.out
              have z1 := blk_below H6a.out hV7
              have z2 := blk_below H6b.out hV7
              obtain ⟨r0, r1, r2, r3⟩ := cells4 V7
              obtain ⟨p0, p1, p2, p3⟩ := cells4 z1
              obtain ⟨q0, q1, q2, q3⟩ := cells4 z2
              have HG7 : Hid (w.grownBy w7 (some pb)) := grown_below HG6.out hV7
              have HP7 : Hid _ := blk_below HP6.out hV7
              have HN7 : Hid _ := Kd.N_below HN6.out hV7
              have HF7 : Hid _ := Kd.F_below HF6.out hV7
              obtain ⟨g0, g1, g2, g3⟩ := HG4.out
              have HG5 : Hid _ := And.intro (pw_cell_below hV7 g0) (And.intro (pw_cell_below hV7 g1) (And.intro (pw_cell_below hV7 g2) (pw_cell_below hV7 g3)))
              have hS7 : V2.heap.size ≤ w7.heap.size := Nat.le_trans (by omega) hV7.size
              have Z1 : Hid _ := z1
              have Z2 : Hid _ := z2
              have f0 := frozen4 (i := 0) z2
              have f1 := frozen4 (i := 1) z2
              have f2 := frozen4 (i := 2) z2
              have f3 := frozen4 (i := 3) z2
              clear g0 g1 g2 g3 HV7 hV7 z1 z2 V7 HG6 HP6 HN6 HF6 H6a H6b HG4
              cases b with
              | false =>
                go_wp2_with fail
                have GE : w.grownBy ((((w7.setCell ⟨w.heap.size + 1, 0, none⟩ (.int .i64 3)).setCell ⟨w.heap.size + 1, 1, none⟩ (.int .i64 n)).setCell ⟨w.heap.size + 1, 2, none⟩ (.string s)).setCell ⟨w.heap.size + 1, 3, none⟩ (.slice A l.length c)) (some pb) := grown_far4 HG7.out (by omega)
                refine bodyPost_ret (results_ct rfl _ _ (w.heap.size + 1) 24 #[.int .i64 3, .int .i64 n, .string s, .slice A l.length c] (0, 0) _ rfl (set4 Z2.out) Tryz.underlying24 rfl (by kernel_rfl)) rfl ⟨false, p6, A, c, rfl, hc, ?_, GE, (stay4 (by omega)).trans HP7.out⟩
                exact Kd.F_mono (Kd.F_grown HR.out GE (fun k hk => by simpa using HOK.out k hk.1)) (fun k hk => .inl hk.1)
              | true =>
                go_wp2_with ((with_reducible refine gate_store (t := 24) (p := 91) rfl ?_); go_must (refine Kd.N_store k24 (w0 := w7) w4.heap.size rfl rfl 24 (.tmp 91) (.tmp 90) rfl 24 (i : Int) 0 l ⟨y0, y1, y2, y3⟩ (formV y0 y1 y2 A7 y3.length c7) [.int .i64 y0, .int .i64 y1, .string y2, .slice A7 y3.length c7] [.int .i64 y0, .int .i64 y1, .string y2, .slice A5 y3.length c5] (fun k => ok k ∧ k < w.heap.size ∨ X.heap.size ≤ k) (fun k => (ok k ∧ k < w.heap.size ∨ X.heap.size ≤ k) ∧ k ≠ gb) rfl ?_ rfl rfl ?_ ?_ HN7.out (by omega) (by omega) rfl ?_ (by show (4 : Nat) ≤ 4; omega) ?_ (fun k hk => hk) (Below.refl _ _) ?_))
                · exact place_i i
                · exact size24 _ _ _ _
                · exact cells_one
                · exact cells_old HG5.out
                · refine k24_mkF w7 _ ⟨y0, y1, y2, y3⟩ hc7 ?_
                  refine Kd.F_mono HF7.out (fun k hk => ?_)
                  rcases hk with hk | hk
                  · exact hk
                  · exact ⟨.inr (by omega), by omega⟩
                · intro w8 hN8 hB8 hg8
                  rw [Int.toNat_natCast, set_same HX.out] at hN8
                  have HN8 : Hid _ := hN8
                  have HG8 : Hid (w.grownBy w8 (some pb)) := grown_row HG7.out hg8 (by omega)
                  have HP8 : Hid _ := (hg8.block _ (blk_lt HP7.out) (by simp; omega)).trans HP7.out
                  have H8a : Hid _ := (hg8.block _ (blk_lt Z1.out) (by simp; omega)).trans Z1.out
                  have H8b : Hid _ := (hg8.block _ (blk_lt Z2.out) (by simp; omega)).trans Z2.out
                  have hS8 := hg8.size
                  clear hN8 hB8 hg8
                  go_wp2_with fail
                  go_roundg gk
                  case measure => omega
                  case rel => exact ⟨i + 1, p6, by first | go_num | (rw [HH0.out]; first | rfl | go_num), by omega, HG8.out, HP8.out, H8a.out, H8b.out, by omega, HN8.out⟩
            | true =>
              by_cases h1 : i = 1
              · have t2 : ((i : Int) == 1) = true := beq_iff_eq.mpr (by omega)
                by_cases h3 : y0 = 3
                · have k3 : (y0 == 3) = true := beq_iff_eq.mpr h3
                  have HH1 : Hid _ := h1
                  have HH3 : Hid _ := h3
                  clear h1 h3
                  go_wp2_with fail
                  refine Calls.mono (APP.out _) ?_
                  rintro e w6 ⟨b, p6, A7, c7, rfl, hc7, hF7, hG7, hP7⟩
                  have N6 := Kd.N_grown N2.out hG7 (fun k hk => by
                    rcases hk with h | h
                    · simpa using HOK.out k h.1
                    · simp; omega)
                  have y6a := (hG7.block _ (blk_lt HYa.out) (by simp; omega)).trans HYa.out
                  have y6b := (hG7.block _ (blk_lt HYb.out) (by simp; omega)).trans HYb.out
                  have hS6 := hG7.size
                  obtain ⟨g0, g1, g2, g3⟩ := HGc.out
                  have hgp : some gb ≠ some pb := by simp; omega
                  replace g0 := cell_grown hG7 g0 hgp
                  replace g1 := cell_grown hG7 g1 hgp
                  replace g2 := cell_grown hG7 g2 hgp
                  replace g3 := cell_grown hG7 g3 hgp
                  have HG6 : Hid (w.grownBy w6 (some pb)) := HGV.out.trans hG7
                  have HN6 : Hid _ := N6
                  have HF6 : Hid _ := hF7
                  have HP6 : Hid _ := hP7
                  have H6a : Hid _ := y6a
                  have H6b : Hid _ := y6b
                  have HG4 : Hid _ := And.intro g0 (And.intro g1 (And.intro g2 g3))
                  clear g0 g1 g2 g3 hgp N6 hF7 hP7 y6a y6b hG7 r0 r1 r2 r3 PP0 PF0
                  go_upto_region 16 with fail
                  have V7 := (MapKept.heap_alloc w6 (Obj.cells #[.int .i64 y0, .int .i64 y1, .string y2, .slice A7 y3.length c7] 24)).1
                  have HV7 : Hid (Below w6.heap.size w6 (w6.alloc (Obj.cells #[.int .i64 y0, .int .i64 y1, .string y2, .slice A7 y3.length c7] 24))) := below_alloc (Below.refl _ _) _
                  generalize w6.alloc (Obj.cells #[.int .i64 y0, .int .i64 y1, .string y2, .slice A7 y3.length c7] 24) = w7 at *
                  generalize hb7 : w6.heap.size = b7 at *
                  have hV7 : Below w6.heap.size w6 w7 := by subst hb7; exact HV7.out
                  have z1 := blk_below H6a.out hV7
                  have z2 := blk_below H6b.out hV7
                  obtain ⟨r0, r1, r2, r3⟩ := cells4 V7
                  obtain ⟨p0, p1, p2, p3⟩ := cells4 z1
                  obtain ⟨q0, q1, q2, q3⟩ := cells4 z2
                  have HG7 : Hid (w.grownBy w7 (some pb)) := grown_below HG6.out hV7
                  have HP7 : Hid _ := blk_below HP6.out hV7
                  have HN7 : Hid _ := Kd.N_below HN6.out hV7
                  have HF7 : Hid _ := Kd.F_below HF6.out hV7
                  obtain ⟨g0, g1, g2, g3⟩ := HG4.out
                  have HG5 : Hid _ := And.intro (pw_cell_below hV7 g0) (And.intro (pw_cell_below hV7 g1) (And.intro (pw_cell_below hV7 g2) (pw_cell_below hV7 g3)))
                  have hS7 : V2.heap.size ≤ w7.heap.size := Nat.le_trans (by omega) hV7.size
                  have Z1 : Hid _ := z1
                  have Z2 : Hid _ := z2
                  have f0 := frozen4 (i := 0) z2
                  have f1 := frozen4 (i := 1) z2
                  have f2 := frozen4 (i := 2) z2
                  have f3 := frozen4 (i := 3) z2
                  clear g0 g1 g2 g3 HV7 hV7 z1 z2 V7 HG6 HP6 HN6 HF6 H6a H6b HG4
                  cases b with
                  | false =>
                    go_wp2_with fail
                    have GE : w.grownBy ((((w7.setCell ⟨w.heap.size + 1, 0, none⟩ (.int .i64 3)).setCell ⟨w.heap.size + 1, 1, none⟩ (.int .i64 n)).setCell ⟨w.heap.size + 1, 2, none⟩ (.string s)).setCell ⟨w.heap.size + 1, 3, none⟩ (.slice A l.length c)) (some pb) := grown_far4 HG7.out (by omega)
                    refine bodyPost_ret (results_ct rfl _ _ (w.heap.size + 1) 24 #[.int .i64 3, .int .i64 n, .string s, .slice A l.length c] (0, 0) _ rfl (set4 Z2.out) Tryz.underlying24 rfl (by kernel_rfl)) rfl ⟨false, p6, A, c, rfl, hc, ?_, GE, (stay4 (by omega)).trans HP7.out⟩
                    exact Kd.F_mono (Kd.F_grown HR.out GE (fun k hk => by simpa using HOK.out k hk.1)) (fun k hk => .inl hk.1)
                  | true =>
                    go_wp2_with ((with_reducible refine gate_store (t := 24) (p := 91) rfl ?_); go_must (refine Kd.N_store k24 (w0 := w7) w4.heap.size rfl rfl 24 (.tmp 91) (.tmp 90) rfl 24 (i : Int) 0 l ⟨y0, y1, y2, y3⟩ (formV y0 y1 y2 A7 y3.length c7) [.int .i64 y0, .int .i64 y1, .string y2, .slice A7 y3.length c7] [.int .i64 y0, .int .i64 y1, .string y2, .slice A5 y3.length c5] (fun k => ok k ∧ k < w.heap.size ∨ X.heap.size ≤ k) (fun k => (ok k ∧ k < w.heap.size ∨ X.heap.size ≤ k) ∧ k ≠ gb) rfl ?_ rfl rfl ?_ ?_ HN7.out (by omega) (by omega) rfl ?_ (by show (4 : Nat) ≤ 4; omega) ?_ (fun k hk => hk) (Below.refl _ _) ?_))
                    · exact place_i i
                    · exact size24 _ _ _ _
                    · exact cells_one
                    · exact cells_old HG5.out
                    · refine k24_mkF w7 _ ⟨y0, y1, y2, y3⟩ hc7 ?_
                      refine Kd.F_mono HF7.out (fun k hk => ?_)
                      rcases hk with hk | hk
                      · exact hk
                      · exact ⟨.inr (by omega), by omega⟩
                    · intro w8 hN8 hB8 hg8
                      rw [Int.toNat_natCast, set_same HX.out] at hN8
                      have HN8 : Hid _ := hN8
                      have HG8 : Hid (w.grownBy w8 (some pb)) := grown_row HG7.out hg8 (by omega)
                      have HP8 : Hid _ := (hg8.block _ (blk_lt HP7.out) (by simp; omega)).trans HP7.out
                      have H8a : Hid _ := (hg8.block _ (blk_lt Z1.out) (by simp; omega)).trans Z1.out
                      have H8b : Hid _ := (hg8.block _ (blk_lt Z2.out) (by simp; omega)).trans Z2.out
                      have hS8 := hg8.size
                      clear hN8 hB8 hg8
                      go_wp2_with fail
                      go_roundg gk
                      case measure => omega
                      case rel => exact ⟨i + 1, p6, by first | go_num | (rw [HH0.out]; first | rfl | go_num), by omega, HG8.out, HP8.out, H8a.out, H8b.out, by omega, HN8.out⟩
                · have k3 : (y0 == 3) = false := beq_eq_false_iff_ne.mpr h3
                  have HH1 : Hid _ := h1
                  clear h1
                  go_wp2_with fail
                  refine Calls.mono (APP.out _) ?_
                  rintro e w6 ⟨b, p6, A7, c7, rfl, hc7, hF7, hG7, hP7⟩
                  have N6 := Kd.N_grown N2.out hG7 (fun k hk => by
                    rcases hk with h | h
                    · simpa using HOK.out k h.1
                    · simp; omega)
                  have y6a := (hG7.block _ (blk_lt HYa.out) (by simp; omega)).trans HYa.out
                  have y6b := (hG7.block _ (blk_lt HYb.out) (by simp; omega)).trans HYb.out
                  have hS6 := hG7.size
                  obtain ⟨g0, g1, g2, g3⟩ := HGc.out
                  have hgp : some gb ≠ some pb := by simp; omega
                  replace g0 := cell_grown hG7 g0 hgp
                  replace g1 := cell_grown hG7 g1 hgp
                  replace g2 := cell_grown hG7 g2 hgp
                  replace g3 := cell_grown hG7 g3 hgp
                  have HG6 : Hid (w.grownBy w6 (some pb)) := HGV.out.trans hG7
                  have HN6 : Hid _ := N6
                  have HF6 : Hid _ := hF7
                  have HP6 : Hid _ := hP7
                  have H6a : Hid _ := y6a
                  have H6b : Hid _ := y6b
                  have HG4 : Hid _ := And.intro g0 (And.intro g1 (And.intro g2 g3))
                  clear g0 g1 g2 g3 hgp N6 hF7 hP7 y6a y6b hG7 r0 r1 r2 r3 PP0 PF0
                  go_upto_region 16 with fail
                  have V7 := (MapKept.heap_alloc w6 (Obj.cells #[.int .i64 y0, .int .i64 y1, .string y2, .slice A7 y3.length c7] 24)).1
                  have HV7 : Hid (Below w6.heap.size w6 (w6.alloc (Obj.cells #[.int .i64 y0, .int .i64 y1, .string y2, .slice A7 y3.length c7] 24))) := below_alloc (Below.refl _ _) _
                  generalize w6.alloc (Obj.cells #[.int .i64 y0, .int .i64 y1, .string y2, .slice A7 y3.length c7] 24) = w7 at *
                  generalize hb7 : w6.heap.size = b7 at *
                  have hV7 : Below w6.heap.size w6 w7 := by subst hb7; exact HV7.out
                  have z1 := blk_below H6a.out hV7
                  have z2 := blk_below H6b.out hV7
                  obtain ⟨r0, r1, r2, r3⟩ := cells4 V7
                  obtain ⟨p0, p1, p2, p3⟩ := cells4 z1
                  obtain ⟨q0, q1, q2, q3⟩ := cells4 z2
                  have HG7 : Hid (w.grownBy w7 (some pb)) := grown_below HG6.out hV7
                  have HP7 : Hid _ := blk_below HP6.out hV7
                  have HN7 : Hid _ := Kd.N_below HN6.out hV7
                  have HF7 : Hid _ := Kd.F_below HF6.out hV7
                  obtain ⟨g0, g1, g2, g3⟩ := HG4.out
                  have HG5 : Hid _ := And.intro (pw_cell_below hV7 g0) (And.intro (pw_cell_below hV7 g1) (And.intro (pw_cell_below hV7 g2) (pw_cell_below hV7 g3)))
                  have hS7 : V2.heap.size ≤ w7.heap.size := Nat.le_trans (by omega) hV7.size
                  have Z1 : Hid _ := z1
                  have Z2 : Hid _ := z2
                  have f0 := frozen4 (i := 0) z2
                  have f1 := frozen4 (i := 1) z2
                  have f2 := frozen4 (i := 2) z2
                  have f3 := frozen4 (i := 3) z2
                  clear g0 g1 g2 g3 HV7 hV7 z1 z2 V7 HG6 HP6 HN6 HF6 H6a H6b HG4
                  cases b with
                  | false =>
                    go_wp2_with fail
                    have GE : w.grownBy ((((w7.setCell ⟨w.heap.size + 1, 0, none⟩ (.int .i64 3)).setCell ⟨w.heap.size + 1, 1, none⟩ (.int .i64 n)).setCell ⟨w.heap.size + 1, 2, none⟩ (.string s)).setCell ⟨w.heap.size + 1, 3, none⟩ (.slice A l.length c)) (some pb) := grown_far4 HG7.out (by omega)
                    refine bodyPost_ret (results_ct rfl _ _ (w.heap.size + 1) 24 #[.int .i64 3, .int .i64 n, .string s, .slice A l.length c] (0, 0) _ rfl (set4 Z2.out) Tryz.underlying24 rfl (by kernel_rfl)) rfl ⟨false, p6, A, c, rfl, hc, ?_, GE, (stay4 (by omega)).trans HP7.out⟩
                    exact Kd.F_mono (Kd.F_grown HR.out GE (fun k hk => by simpa using HOK.out k hk.1)) (fun k hk => .inl hk.1)
                  | true =>
                    go_wp2_with ((with_reducible refine gate_store (t := 24) (p := 91) rfl ?_); go_must (refine Kd.N_store k24 (w0 := w7) w4.heap.size rfl rfl 24 (.tmp 91) (.tmp 90) rfl 24 (i : Int) 0 l ⟨y0, y1, y2, y3⟩ (formV y0 y1 y2 A7 y3.length c7) [.int .i64 y0, .int .i64 y1, .string y2, .slice A7 y3.length c7] [.int .i64 y0, .int .i64 y1, .string y2, .slice A5 y3.length c5] (fun k => ok k ∧ k < w.heap.size ∨ X.heap.size ≤ k) (fun k => (ok k ∧ k < w.heap.size ∨ X.heap.size ≤ k) ∧ k ≠ gb) rfl ?_ rfl rfl ?_ ?_ HN7.out (by omega) (by omega) rfl ?_ (by show (4 : Nat) ≤ 4; omega) ?_ (fun k hk => hk) (Below.refl _ _) ?_))
                    · exact place_i i
                    · exact size24 _ _ _ _
                    · exact cells_one
                    · exact cells_old HG5.out
                    · refine k24_mkF w7 _ ⟨y0, y1, y2, y3⟩ hc7 ?_
                      refine Kd.F_mono HF7.out (fun k hk => ?_)
                      rcases hk with hk | hk
                      · exact hk
                      · exact ⟨.inr (by omega), by omega⟩
                    · intro w8 hN8 hB8 hg8
                      rw [Int.toNat_natCast, set_same HX.out] at hN8
                      have HN8 : Hid _ := hN8
                      have HG8 : Hid (w.grownBy w8 (some pb)) := grown_row HG7.out hg8 (by omega)
                      have HP8 : Hid _ := (hg8.block _ (blk_lt HP7.out) (by simp; omega)).trans HP7.out
                      have H8a : Hid _ := (hg8.block _ (blk_lt Z1.out) (by simp; omega)).trans Z1.out
                      have H8b : Hid _ := (hg8.block _ (blk_lt Z2.out) (by simp; omega)).trans Z2.out
                      have hS8 := hg8.size
                      clear hN8 hB8 hg8
                      go_wp2_with fail
                      go_roundg gk
                      case measure => omega
                      case rel => exact ⟨i + 1, p6, by first | go_num | (rw [HH0.out]; first | rfl | go_num), by omega, HG8.out, HP8.out, H8a.out, H8b.out, by omega, HN8.out⟩
              · have t2 : ((i : Int) == 1) = false := beq_eq_false_iff_ne.mpr (by omega)
                go_wp2_with fail
                refine Calls.mono (APP.out _) ?_
                rintro e w6 ⟨b, p6, A7, c7, rfl, hc7, hF7, hG7, hP7⟩
                have N6 := Kd.N_grown N2.out hG7 (fun k hk => by
                  rcases hk with h | h
                  · simpa using HOK.out k h.1
                  · simp; omega)
                have y6a := (hG7.block _ (blk_lt HYa.out) (by simp; omega)).trans HYa.out
                have y6b := (hG7.block _ (blk_lt HYb.out) (by simp; omega)).trans HYb.out
                have hS6 := hG7.size
                obtain ⟨g0, g1, g2, g3⟩ := HGc.out
                have hgp : some gb ≠ some pb := by simp; omega
                replace g0 := cell_grown hG7 g0 hgp
                replace g1 := cell_grown hG7 g1 hgp
                replace g2 := cell_grown hG7 g2 hgp
                replace g3 := cell_grown hG7 g3 hgp
                have HG6 : Hid (w.grownBy w6 (some pb)) := HGV.out.trans hG7
                have HN6 : Hid _ := N6
                have HF6 : Hid _ := hF7
                have HP6 : Hid _ := hP7
                have H6a : Hid _ := y6a
                have H6b : Hid _ := y6b
                have HG4 : Hid _ := And.intro g0 (And.intro g1 (And.intro g2 g3))
                clear g0 g1 g2 g3 hgp N6 hF7 hP7 y6a y6b hG7 r0 r1 r2 r3 PP0 PF0
                go_upto_region 16 with fail
                have V7 := (MapKept.heap_alloc w6 (Obj.cells #[.int .i64 y0, .int .i64 y1, .string y2, .slice A7 y3.length c7] 24)).1
                have HV7 : Hid (Below w6.heap.size w6 (w6.alloc (Obj.cells #[.int .i64 y0, .int .i64 y1, .string y2, .slice A7 y3.length c7] 24))) := below_alloc (Below.refl _ _) _
                generalize w6.alloc (Obj.cells #[.int .i64 y0, .int .i64 y1, .string y2, .slice A7 y3.length c7] 24) = w7 at *
                generalize hb7 : w6.heap.size = b7 at *
                have hV7 : Below w6.heap.size w6 w7 := by subst hb7; exact HV7.out
                have z1 := blk_below H6a.out hV7
                have z2 := blk_below H6b.out hV7
                obtain ⟨r0, r1, r2, r3⟩ := cells4 V7
                obtain ⟨p0, p1, p2, p3⟩ := cells4 z1
                obtain ⟨q0, q1, q2, q3⟩ := cells4 z2
                have HG7 : Hid (w.grownBy w7 (some pb)) := grown_below HG6.out hV7
                have HP7 : Hid _ := blk_below HP6.out hV7
                have HN7 : Hid _ := Kd.N_below HN6.out hV7
                have HF7 : Hid _ := Kd.F_below HF6.out hV7
                obtain ⟨g0, g1, g2, g3⟩ := HG4.out
                have HG5 : Hid _ := And.intro (pw_cell_below hV7 g0) (And.intro (pw_cell_below hV7 g1) (And.intro (pw_cell_below hV7 g2) (pw_cell_below hV7 g3)))
                have hS7 : V2.heap.size ≤ w7.heap.size := Nat.le_trans (by omega) hV7.size
                have Z1 : Hid _ := z1
                have Z2 : Hid _ := z2
                have f0 := frozen4 (i := 0) z2
                have f1 := frozen4 (i := 1) z2
                have f2 := frozen4 (i := 2) z2
                have f3 := frozen4 (i := 3) z2
                clear g0 g1 g2 g3 HV7 hV7 z1 z2 V7 HG6 HP6 HN6 HF6 H6a H6b HG4
                cases b with
                | false =>
                  go_wp2_with fail
                  have GE : w.grownBy ((((w7.setCell ⟨w.heap.size + 1, 0, none⟩ (.int .i64 3)).setCell ⟨w.heap.size + 1, 1, none⟩ (.int .i64 n)).setCell ⟨w.heap.size + 1, 2, none⟩ (.string s)).setCell ⟨w.heap.size + 1, 3, none⟩ (.slice A l.length c)) (some pb) := grown_far4 HG7.out (by omega)
                  refine bodyPost_ret (results_ct rfl _ _ (w.heap.size + 1) 24 #[.int .i64 3, .int .i64 n, .string s, .slice A l.length c] (0, 0) _ rfl (set4 Z2.out) Tryz.underlying24 rfl (by kernel_rfl)) rfl ⟨false, p6, A, c, rfl, hc, ?_, GE, (stay4 (by omega)).trans HP7.out⟩
                  exact Kd.F_mono (Kd.F_grown HR.out GE (fun k hk => by simpa using HOK.out k hk.1)) (fun k hk => .inl hk.1)
                | true =>
                  go_wp2_with ((with_reducible refine gate_store (t := 24) (p := 91) rfl ?_); go_must (refine Kd.N_store k24 (w0 := w7) w4.heap.size rfl rfl 24 (.tmp 91) (.tmp 90) rfl 24 (i : Int) 0 l ⟨y0, y1, y2, y3⟩ (formV y0 y1 y2 A7 y3.length c7) [.int .i64 y0, .int .i64 y1, .string y2, .slice A7 y3.length c7] [.int .i64 y0, .int .i64 y1, .string y2, .slice A5 y3.length c5] (fun k => ok k ∧ k < w.heap.size ∨ X.heap.size ≤ k) (fun k => (ok k ∧ k < w.heap.size ∨ X.heap.size ≤ k) ∧ k ≠ gb) rfl ?_ rfl rfl ?_ ?_ HN7.out (by omega) (by omega) rfl ?_ (by show (4 : Nat) ≤ 4; omega) ?_ (fun k hk => hk) (Below.refl _ _) ?_))
                  · exact place_i i
                  · exact size24 _ _ _ _
                  · exact cells_one
                  · exact cells_old HG5.out
                  · refine k24_mkF w7 _ ⟨y0, y1, y2, y3⟩ hc7 ?_
                    refine Kd.F_mono HF7.out (fun k hk => ?_)
                    rcases hk with hk | hk
                    · exact hk
                    · exact ⟨.inr (by omega), by omega⟩
                  · intro w8 hN8 hB8 hg8
                    rw [Int.toNat_natCast, set_same HX.out] at hN8
                    have HN8 : Hid _ := hN8
                    have HG8 : Hid (w.grownBy w8 (some pb)) := grown_row HG7.out hg8 (by omega)
                    have HP8 : Hid _ := (hg8.block _ (blk_lt HP7.out) (by simp; omega)).trans HP7.out
                    have H8a : Hid _ := (hg8.block _ (blk_lt Z1.out) (by simp; omega)).trans Z1.out
                    have H8b : Hid _ := (hg8.block _ (blk_lt Z2.out) (by simp; omega)).trans Z2.out
                    have hS8 := hg8.size
                    clear hN8 hB8 hg8
                    go_wp2_with fail
                    go_roundg gk
                    case measure => omega
                    case rel => exact ⟨i + 1, p6, by first | go_num | (rw [HH0.out]; first | rfl | go_num), by omega, HG8.out, HP8.out, H8a.out, H8b.out, by omega, HN8.out⟩

        · have e1 : decide (i < l.length) = false := decide_eq_false hlt
          have HN : Hid _ := hN
          have HG : Hid _ := hG
          have HPr : Hid _ := hP
          have Z1 : Hid _ := y1
          have Z2 : Hid _ := y2
          have f13 := frozen4 (i := 3) y1
          have f0 := frozen4 (i := 0) y2
          have f1 := frozen4 (i := 1) y2
          have f2 := frozen4 (i := 2) y2
          have f3 := frozen4 (i := 3) y2
          have hge : l.length ≤ i := by omega
          clear hN y1 y2 hP hG
          go_wp2_with fail
          have hRd := (Kd.N_reads' HN.out).2.1
          have GE : w.grownBy (((((wr.setCell ⟨w.heap.size, 3, none⟩ (.slice AV l.length cV)).setCell ⟨w.heap.size + 1, 0, none⟩ (.int .i64 3)).setCell ⟨w.heap.size + 1, 1, none⟩ (.int .i64 n)).setCell ⟨w.heap.size + 1, 2, none⟩ (.string s)).setCell ⟨w.heap.size + 1, 3, none⟩ (.slice AV l.length cV)) (some pb) :=
            grown_far4 (grown_far HG.out (Nat.le_refl _)) (by omega)
          refine bodyPost_ret (results_ct rfl _ _ (w.heap.size + 1) 24 #[.int .i64 3, .int .i64 n, .string s, .slice AV l.length cV] (0, 0) _ rfl (set4 ((heap_setCell_other wr ⟨w.heap.size, 3, none⟩ (w.heap.size + 1) _ (by simp)).trans Z2.out)) Tryz.underlying24 rfl (by kernel_rfl)) rfl ⟨true, pr, AV, cV, rfl, hRd, ?_, GE, ?_⟩
          · have FN := Kd.N_F HN.out
            refine Kd.F_mono (Kd.F_step FN (fun k hk hlt => far5 (a := w.heap.size) (b := w.heap.size + 1) ?_ ?_)) (fun k hk => ?_)
            · rcases hk with hk | hk
              · omega
              · omega
            · rcases hk with hk | hk
              · omega
              · omega
            · rcases hk with hk | hk
              · exact .inl hk.1
              · exact .inr (by omega)
          · exact (far5 (a := w.heap.size) (b := w.heap.size + 1) (by omega) (by omega)).trans HPr.out

end Go.Proofs.YtcjmplpfebpfpaaGreatDoor

namespace Go.Proofs.YtcjmplpfebpfpaaGreatDoor
open Go.RowKit Go.Proofs Go.Proofs.YtcjmplpfebpfpaaGreatDoorW.PrintWords Go.Proofs.YtcjmplpfebpfpaaGreatDoorW.PrintLast Go.Proofs.YtcjmplpfebpfpaaGreatDoorW.PrintMore PKindInstances
set_option linter.unusedVariables false
set_option linter.unusedSimpArgs false

mutual
theorem wr_ok (vs : List ByteArray) (hr0 : ∀ v ∈ vs, resM v = false) : ∀ x : S24, WrOk vs x
  | ⟨a, n, s, l⟩ => by
    have hl := wrs_ok vs hr0 l
    intro w ok base sp vb tb pb mtv A c bare p hs h1 h2 h3 hp hr hok hc hw hn
    have hk := wid_kids ⟨a, n, s, l⟩
    simp only [] at hk hc hr
    have hv : ¬ (a = 1 ∧ s ∈ vs) := fun h => hn.word hr0 h.1 h.2
    by_cases hq : wrap64 (p - 1) < 0
    · exact wr_leaf a n s l vs w ok base sp vb tb pb mtv A c bare p hs h1 h2 h3 hp hr hok hc hv _ rfl (.inl hq)
    · by_cases ha : a = 3
      · subst ha
        exact wr_list n s l vs w ok base sp vb tb pb mtv A c bare p hs h1 h2 h3 hp hr hok hc (by omega) (fun x hx => ⟨hl x hx, by have := wid_in' hx; omega, hn.kid rfl hx⟩) _ rfl (by omega)
      · exact wr_leaf a n s l vs w ok base sp vb tb pb mtv A c bare p hs h1 h2 h3 hp hr hok hc hv _ rfl (.inr ⟨by omega, ha⟩)
theorem wrs_ok (vs : List ByteArray) (hr0 : ∀ v ∈ vs, resM v = false) : ∀ (l : List S24), ∀ x ∈ l, WrOk vs x
  | [], x, h => absurd h (List.not_mem_nil)
  | y :: l, x, h => by
    rcases List.mem_cons.1 h with h | h
    · rw [h]; exact wr_ok vs hr0 y
    · exact wrs_ok vs hr0 l x h
end
theorem to_mem {mt : List (ByteArray × S24)} (h : (mt.map (·.1)).Nodup) : ∀ {p : ByteArray × S24}, p ∈ mt → lookT mt p.1 = some p.2 := by
  induction mt with
  | nil => intro p hp; exact absurd hp List.not_mem_nil
  | cons q m ih =>
    obtain ⟨a, x⟩ := q
    intro p hp
    simp only [List.map_cons, List.nodup_cons] at h
    simp only [lookT]
    rcases List.mem_cons.1 hp with rfl | hp
    · simp
    · have hm : p.1 ∈ m.map (·.1) := List.mem_map.2 ⟨p, hp, rfl⟩
      rw [if_neg (fun e => h.1 (by rw [← e]; exact hm))]
      exact ih h.2 hp
theorem nodup_le : ∀ {l m : List ByteArray}, l.Nodup → (∀ x ∈ l, x ∈ m) → l.length ≤ m.length
  | [], m, _, _ => Nat.zero_le _
  | x :: l, m, h, hs => by
    simp only [List.nodup_cons] at h
    have hx := hs x List.mem_cons_self
    have h1 := nodup_le (l := l) (m := m.erase x) h.2 (fun y hy => (List.mem_erase_of_ne (fun e => h.1 (by rw [← e]; exact hy))).2 (hs y (List.mem_cons_of_mem _ hy)))
    rw [List.length_erase_of_mem hx] at h1
    have := List.length_pos_of_mem hx
    simp only [List.length_cons]
    omega
theorem inv_keys {vs : List ByteArray} {fd : ByteArray → Option S24} {mt : List (ByteArray × S24)} (h : Inv vs fd mt) : (∀ p ∈ mt, p.1 ∈ vs) ∧ mt.length ≤ vs.length := by
  have h1 : ∀ p ∈ mt, p.1 ∈ vs := fun p hp => (h.1 _ _ (to_mem h.2 hp)).1
  refine ⟨h1, ?_⟩
  have h2 : (mt.map (·.1)).length ≤ vs.length := nodup_le h.2 (fun x hx => by obtain ⟨p, hp, rfl⟩ := List.mem_map.1 hx; exact h1 p hp)
  simpa using h2
/-- What result answers. -/
def ResPost (W0 W1 : World) (mt : List (ByteArray × S24)) (e : Ending) (w' : World) : Prop :=
  ∃ A n c E, e = .returned (.tuple #[.slice A n c, .int .i64 E]) ∧ (E = 2 ∨ (E = 0 ∧ ∃ T, Asc T ∧ (∀ s, s ∈ T ↔ ∃ p ∈ mt, p.1 = s) ∧ n = T.length ∧ n ≤ c ∧ Kd.F k51 w' (fun k => k < W0.heap.size ∨ W1.heap.size ≤ k) A n (kOut mt T))) ∧ Below W1.heap.size W1 w'
/-- What holds of the loop. -/
def RsRel (W0 WM : World) (m0 : Nat) (mt : List (ByteArray × S24)) (T : List ByteArray) (k : Nat) (x4 x17 : Value) (wr : World) : Prop :=
  ∃ (i : Nat), x17 = .int .i64 (i : Int) ∧ k + i = T.length ∧ Below WM.heap.size WM wr ∧ Kd.N k51 51 wr WM.heap.size (fun k => k < W0.heap.size ∨ m0 ≤ k) x4 (kOut mt (T.take i))

set_option maxRecDepth 100000 in
set_option maxHeartbeats 16000000 in
theorem result_any (vs : List ByteArray) (fd : ByteArray → Option S24) (hr0 : ∀ v ∈ vs, resM v = false) (hvz : ∀ v ∈ vs, v.size < 8000000) (hvn : vs.length < 9000000) (mt : List (ByteArray × S24)) (hi : Inv vs fd mt) (W0 W1 : World) (base sp vb tb : Nat) (mtv : List (ByteArray × Value))
    (hs : SolvAt base W1 sp vb tb (varsV vs) mtv) (ht : ToAt W0 mt mtv) (hw : Below W0.heap.size W0 W1) :
    Calls Tryz.prog 56 #[.pointer (some ⟨sp, 0, none⟩)] W1 (ResPost W0 W1 mt) := by
  have hu24 := Tryz.underlying24
  have hu72 := Tryz.underlying72
  have hu9 := Tryz.underlying9
  have cs0 := hs.c0
  have cs1 := hs.c1
  have hsw := hs.lt
  have hvw := hs.vars.lt
  have htw := hs.tos.lt
  obtain ⟨k1, k2⟩ := inv_keys hi
  have hkeys := toAt_keys ht
  have hmvl : mtv.length = mt.length := by have := congrArg List.length hkeys; simpa using this
  obtain ⟨D0, own, hnd, hmem, hsz⟩ := map_owns hs.tos (fun p hp => by
    have h1 : p.1 ∈ mt.map (·.1) := by rw [← hkeys]; exact List.mem_map.2 ⟨p, hp, rfl⟩
    obtain ⟨q, hq, e⟩ := List.mem_map.1 h1
    have h2 := hvz q.1 (k1 q hq)
    rw [e] at h2
    simp only [maxLen]
    omega) (by simp only [maxLen]; omega)
  have OWN : Hid _ := own
  have HND : Hid _ := hnd
  have HMEM : Hid _ := hmem
  have hsz2 : Maps.size D0 < 9000000 := by omega
  have HKEY : Hid _ := hkeys
  have HS : Hid _ := hs
  have HT : Hid _ := ht
  have HI : Hid _ := hi
  have HWW : Hid _ := hw
  have HR0 : Hid _ := hr0
  clear own hnd hmem hkeys hs ht hi hw hr0 hvz k1 hsz hmvl
  have hW01 := HWW.out.size
  go_enter Tryz.func56, Tryz.ntmps56
  go_wp2_with fail
  refine (callsIn_wide.1 (Tryz.maps_Keys_65 _ _)).mono ?_
  rintro e w' ⟨rfl, rfl⟩
  go_wp2_with fail
  refine (callsIn_wide.1 (Tryz.slices_Sorted_keys_64_65 _ _ _ _ W1 OWN.out (by simp only [maxLen]; omega) (by omega))).mono ?_
  rintro e wm ⟨v, ss, rfl, hperm, hrow, hnil, B3⟩
  have HBM : Hid (Below W1.heap.size W1 wm) := below_after (below_alloc (Below.refl _ _) _) B3
  obtain ⟨T, hT⟩ : ∃ T, T = (ss.mergeSort leB).map backB := ⟨_, rfl⟩
  have hTl : T.length = ss.length := by rw [hT]; simp
  have hss : ss.Nodup := (hperm.nodup_iff).2 HND.out
  have hasc : Asc T := by rw [hT]; exact sorted_asc hss
  have hTmem : ∀ s, s ∈ T ↔ ∃ p ∈ mt, p.1 = s := by
    intro s
    have back : ∀ t : List UInt8, backB t = s ↔ t = s.data.toList := by
      intro t
      constructor
      · intro h; rw [← h]; rfl
      · intro h; rw [h]; cases s; rfl
    rw [hT, List.mem_map]
    constructor
    · rintro ⟨t, ht, e⟩
      have h1 := (HMEM.out t).1 (hperm.mem_iff.1 ((List.mergeSort_perm ss leB).mem_iff.1 ht))
      obtain ⟨p, hp, e2⟩ := h1
      have h2 : p.1 ∈ mt.map (·.1) := by rw [← HKEY.out]; exact List.mem_map.2 ⟨p, hp, rfl⟩
      obtain ⟨q, hq, e3⟩ := List.mem_map.1 h2
      refine ⟨q, hq, ?_⟩
      rw [e3]
      rw [← e2] at e
      rw [← e]
      exact ((show backB p.1.data.toList = p.1 from by cases p.1; rfl)).symm
    · rintro ⟨p, hp, e⟩
      have h2 : p.1 ∈ mtv.map (·.1) := by rw [HKEY.out]; exact List.mem_map.2 ⟨p, hp, rfl⟩
      obtain ⟨q, hq, e3⟩ := List.mem_map.1 h2
      refine ⟨s.data.toList, (List.mergeSort_perm ss leB).mem_iff.2 (hperm.mem_iff.2 ((HMEM.out _).2 ⟨q, hq, ?_⟩)), (back _).2 rfl⟩
      rw [e3, e]
  have key : ∃ AT cT, v = .slice AT T.length cT ∧ T.length ≤ cT ∧ Kd.C Kd.string wm AT T.length T := by
    have h1 : ((ss.mergeSort (fun x y => decide (x ≤ y))).map encStr) = encs Value.string T := by
      rw [hT]; exact enc_back _
    rw [h1, ← hTl] at hrow
    obtain ⟨A2, c2, hv, h2, h3⟩ := Kd.R_reads (Kd.R_of_own (h1 := fun _ => rfl) (ok := fun _ => True) hrow (fun _ _ => trivial))
    exact ⟨A2, c2, hv, h2, h3⟩
  obtain ⟨AT, cT, rfl, hcT, hCT⟩ := key
  have hT9 : T.length < 9000000 := by
    have h1 := hperm.length_eq
    have h2 : (strKeys D0).length = Maps.size D0 := by
      obtain ⟨es, clock, _, _, _, hD⟩ := OWN.out
      rw [hD]; simp [strKeys, Maps.size]
    omega
  have HCT : Hid _ := hCT
  have HASC : Hid _ := hasc
  have HTM : Hid _ := hTmem
  have HSM : Hid _ := HS.out.below HBM.out
  have hM1 : W1.heap.size ≤ wm.heap.size := HBM.out.size
  clear hperm hrow hnil B3 hT hTl hss hasc hTmem hCT cs0 cs1
  go_wp2_with fail
  have start : Hid (RsRel W0 wm W1.heap.size mt T T.length (.slice none 0 0) (.int .i64 ((0 : Nat) : Int)) wm) := ⟨0, rfl, rfl, Below.refl _ _, Kd.N_nil _ _ _ _ _⟩
  go_loopg [4, 17] T.length (fun k x4 x17 wr => RsRel W0 wm W1.heap.size mt T k x4 x17 wr)
  case atStart => exact start.out
  case round =>
    clear start
    obtain ⟨i, rfl, hki, hB0, hN0⟩ := hrel
    by_cases hlt : i < T.length
    · obtain ⟨g, rfl⟩ : ∃ g, gk = g + 1 := ⟨gk - 1, by omega⟩
      have e1 : decide (i < T.length) = true := decide_eq_true hlt
      obtain ⟨nn, hnn⟩ : ∃ nn, T[i]? = some nn := ⟨T[i]'(by omega), List.getElem?_eq_getElem _⟩
      have htk : T.take (i + 1) = T.take i ++ [nn] := by rw [List.take_add_one, hnn]; rfl
      obtain ⟨ad, rfl, g0⟩ := text_at HCT.out hnn
      replace g0 := pw_cell_below hB0 g0
      obtain ⟨p, hp, hpe⟩ := (HTM.out nn).1 (List.mem_of_getElem? hnn)
      rcases look_to HT.out nn with ⟨e8, _⟩ | ⟨z, u1, e8, e9, e10⟩
      · exact absurd hpe (lookT_none e8 p hp)
      · obtain ⟨A5, c5, rfl, e4, e5, e6⟩ := e10
        have hnv := (HI.out.1 _ _ e8).2.2
        have htk2 : kOut mt (T.take i) ++ [⟨nn, z⟩] = kOut mt (T.take (i + 1)) := by rw [htk]; unfold kOut; rw [List.map_append, List.map_cons, List.map_nil, e8, Option.getD_some]
        have hkl : (kOut mt (T.take i)).length < 9000000 := by simp only [kOut, List.length_map, List.length_take]; omega
        have HTK : Hid _ := htk2
        have HN0 : Hid _ := hN0
        have HB9 : Hid (Below wm.heap.size wm wr) := hB0
        have E9 : Hid _ := e9
        have E4 : Hid _ := e4
        have HNV : Hid _ := hnv
        clear htk2 hN0 hB0 hnn htk hp hpe e8 e9 e4 hnv
        obtain ⟨z0, z1, z2, z3⟩ := z
        simp only [] at e5
        go_upto_region 6 with fail
        have hP1 : Hid ((wr.alloc (Obj.cells #[.int .i64 20000] 3)).heap[wr.heap.size]? = some (.cells #[.int .i64 20000] 3 (0, 0))) := (MapKept.heap_alloc wr _).1
        have hB1 : Hid (Below wr.heap.size wr (wr.alloc (Obj.cells #[.int .i64 20000] 3))) := below_alloc (Below.refl _ _) _
        generalize wr.alloc (Obj.cells #[.int .i64 20000] 3) = V at *
        generalize hpb : wr.heap.size = pb at *
        have hBV : Below wr.heap.size wr V := by subst hpb; exact hB1.out
        have HMV : Hid (Below wm.heap.size wm V) := below_after HB9.out hBV
        have HSV := HSM.out.below HMV.out
        have cs0 := HSV.c0
        have cs1 := HSV.c1
        have hz : (zeroValue 24).run Tryz.prog V = .ok (formV 0 0 ⟨#[]⟩ none 0 0) V := by go_simp
        have r2 := run_lookup_at keyText' hu72 hu9 hz HSV.tos nn false
        rw [if_neg (by simp), E9.out, Option.getD_some] at r2
        change (Instr.lookup 72 (.map (some tb)) (.string nn) false).run Tryz.prog V = _ at r2
        have hpM : wm.heap.size ≤ pb := by subst hpb; exact HB9.out.size
        have hH0 : Below W0.heap.size W0 V := below_after HWW.out (below_after HBM.out HMV.out)
        have WR : Hid _ := wr_ok vs HR0.out ⟨z0, z1, z2, z3⟩ V (fun k => k < W0.heap.size) base sp vb tb pb mtv A5 c5 false 20000 HSV (by omega) (by omega) (by omega) hP1.out (Kd.F_below (Kd.C_F k24_heap E4.out) hH0) (fun k hk => by omega) e5 e6 HNV.out
        have NV : Hid _ := Kd.N_below (Kd.N_bound HN0.out) hBV
        have L4 : Hid (∀ k, u4.ownBlock = some k → wm.heap.size ≤ k ∧ k < pb) := fun k hk => ⟨Kd.N_base HN0.out k hk, by have := Kd.N_lt HN0.out k hk; omega⟩
        have hVp : pb < V.heap.size := blk_lt hP1.out
        clear hBV HSV hz hH0 hB1 hP1
        go_wp2_with fail
        refine Calls.mono WR.out ?_
        rintro e w6 ⟨b, p6, A7, c7, rfl, hc7, hF7, hG7, hP7⟩
        have hB6 : Below wm.heap.size wm w6 := pw_below_grown HMV.out (some pb) HMV.out.size hG7 (fun k hk => by cases hk; omega)
        have N6 := Kd.N_mono (Kd.N_grown NV.out hG7 (fun k hk => by have h9 := hk.2; rw [hpb] at h9; simp; omega)) (fun k hk => hk.1)
        have hG6s := hG7.size
        have HF7 : Hid _ := hF7
        have HB6 : Hid (Below wm.heap.size wm w6) := hB6
        have HN6 : Hid _ := N6
        clear hF7 hB6 N6 hG7 hP7
        go_upto_region 7 with fail
        have V7 := (MapKept.heap_alloc w6 (Obj.cells #[.int .i64 z0, .int .i64 z1, .string z2, .slice A7 z3.length c7] 24)).1
        have HV7 : Hid (Below w6.heap.size w6 (w6.alloc (Obj.cells #[.int .i64 z0, .int .i64 z1, .string z2, .slice A7 z3.length c7] 24))) := below_alloc (Below.refl _ _) _
        generalize w6.alloc (Obj.cells #[.int .i64 z0, .int .i64 z1, .string z2, .slice A7 z3.length c7] 24) = w7 at *
        generalize hb7 : w6.heap.size = b7 at *
        have hV7 : Below w6.heap.size w6 w7 := by subst hb7; exact HV7.out
        have HB7 : Hid (Below wm.heap.size wm w7) := below_after HB6.out hV7
        have HN7 : Hid _ := Kd.N_below HN6.out hV7
        have HFx : Hid _ := Kd.F_below HF7.out hV7
        have VA : Hid _ := Valid_any ⟨z0, z1, z2, z3⟩ A7 c7 w7 (Kd.F_now HFx.out) hc7 (allC_all _) e6
        have H7 : Hid _ := V7
        have hs7 := hV7.size
        obtain ⟨r0, r1, r2', r3⟩ := cells4 V7
        clear V7 hV7 HV7 HN6 HF7 HB6 r2 cs0 cs1
        obtain ⟨vq, hvq⟩ : ∃ vq, vq = ValidM ⟨z0, z1, z2, z3⟩ := ⟨_, rfl⟩
        rw [← hvq] at VA
        clear hvq
        cases b with
        | false =>
          go_wp2_with fail
          go_ret2
          exact ⟨none, 0, 0, 2, rfl, .inl rfl, below_after HBM.out HB7.out⟩
        | true =>
          go_wp2_with fail
          refine Calls.mono VA.out ?_
          rintro e w8 ⟨rfl, B8⟩
          have HB8 : Hid (Below wm.heap.size wm w8) := below_after HB7.out B8
          cases vq with
          | false =>
            go_wp2_with fail
            go_ret2
            exact ⟨none, 0, 0, 2, rfl, .inl rfl, below_after HBM.out HB8.out⟩
          | true =>
            have HN8 : Hid _ := Kd.N_below HN7.out B8
            have FK8 : Hid _ := k51_mkF w8 _ ⟨nn, ⟨z0, z1, z2, z3⟩⟩ hc7 (Kd.F_below HFx.out B8)
            have y8 := blk_below H7.out B8
            have hs8 := B8.size
            clear r0 r1 r2' r3
            obtain ⟨r0, r1, r2, r3⟩ := cells4 y8
            clear y8 B8
            go_wp2_with ((refine Kd.N_append k51 (w0 := wm) wm.heap.size rfl (.tmp 39) (.tmp 43) 25 51 (.agg #[(.string ⟨#[]⟩), (.int .i64 0), (.int .i64 0), (.string ⟨#[]⟩), (.slice none 0 0)]) 72 rfl Tryz.underlying25 info51 rfl (by decide) (by omega) u4 (kOut mt (T.take i)) ⟨nn, ⟨z0, z1, z2, z3⟩⟩ [.string nn, .int .i64 z0, .int .i64 z1, .string z2, .slice A7 z3.length c7] (fun k => k < W0.heap.size ∨ W1.heap.size ≤ k) (fun k => k < W0.heap.size ∨ V.heap.size ≤ k) rfl rfl FK8.out ?_ ?_ HN8.out HB8.out HB8.out.size (by omega) ?_))
            · intro k hk
              have hVs : W1.heap.size ≤ V.heap.size := by omega
              refine ⟨by omega, fun he => ?_⟩
              have := L4.out k he.symm
              omega
            · intro k hk
              exact .inr (by omega)
            · intro v9 w9 hN9 hB10 hg9 hat9
              have HN9 : Hid _ := hN9
              have HB10 : Hid (Below wm.heap.size wm w9) := hB10
              clear hN9 hB10 hg9 hat9
              go_wp2_with fail
              go_roundg g
              case measure => omega
              case rel => exact ⟨i + 1, by go_num, by omega, HB10.out, by rw [← HTK.out]; exact HN9.out⟩
    · have e1 : decide (i < T.length) = false := decide_eq_false hlt
      have hge : T.length ≤ i := by omega
      rw [List.take_of_length_le hge] at hN0
      obtain ⟨A9, c9, rfl⟩ := Kd.N_slice hN0
      have h9 := (Kd.N_reads' hN0).2.1
      have hln : (kOut mt T).length = T.length := by simp [kOut]
      have HF9 : Hid _ := Kd.N_F hN0
      rw [hln] at h9 HF9
      have HB9 : Hid _ := hB0
      have HLN : Hid _ := hln
      clear hN0 hB0 hln
      go_wp2_with fail
      go_ret2
      exact ⟨A9, T.length, c9, 0, by first | rfl | (rw [← HLN.out]; rfl) | simp [kOut], .inr ⟨rfl, T, HASC.out, HTM.out, rfl, h9, HF9.out⟩, below_after HBM.out HB9.out⟩

end Go.Proofs.YtcjmplpfebpfpaaGreatDoor

namespace Go.Proofs.YtcjmplpfebpfpaaGreatDoor
open Go.RowKit Go.Proofs Go.Proofs.YtcjmplpfebpfpaaGreatDoorW.PrintWords Go.Proofs.YtcjmplpfebpfpaaGreatDoorW.PrintLast Go.Proofs.YtcjmplpfebpfpaaGreatDoorW.PrintMore PKindInstances
set_option linter.unusedVariables false
set_option linter.unusedSimpArgs false

/-- What unify finds, written out: the variables, ascending, with what stands for them. -/
def Found (vs : List ByteArray) (fd : ByteArray → Option S24) (x y : S24) (mt : List (ByteArray × S24)) (T : List ByteArray) : Prop :=
  Inv vs fd mt ∧ (∀ g, Fits vs mt g → eqM (appM g x false) y = true) ∧ Asc T ∧ (∀ s, s ∈ T ↔ ∃ p ∈ mt, p.1 = s) ∧ ∀ v ∈ vs, resM v = false
/-- What Unify answers. -/
def GenR (vs : List ByteArray) (fd : ByteArray → Option S24) (x y : S24) (v : Value) (E : Int) (w' : World) : Prop :=
  E = 1 ∨ E = 2 ∨ (E ≠ 0 ∧ ¬ Cov vs fd) ∨ (E = 0 ∧ ∃ mt T A c, Found vs fd x y mt T ∧ v = .slice A T.length c ∧ T.length ≤ c ∧ Kd.C k51 w' A T.length (kOut mt T))
/-- The same, as the deferred call finds it. -/
def GenF (w : World) (vs : List ByteArray) (fd : ByteArray → Option S24) (x y : S24) (v : Value) (E : Int) (w' : World) : Prop :=
  (∃ A n c, v = .slice A n c) ∧ (E = 2 ∨ (E = 0 ∧ ∃ mt T A c, Found vs fd x y mt T ∧ v = .slice A T.length c ∧ T.length ≤ c ∧ Kd.F k51 w' (fun k => k ≠ w.heap.size ∧ k ≠ w.heap.size + 1) A T.length (kOut mt T)))
theorem names_res : ∀ (l seen : List ByteArray), namesM seen l = true → ∀ v ∈ l, resM v = false
  | [], _, _, v, h => absurd h List.not_mem_nil
  | a :: l, seen, h, v, hv => by
    simp only [namesM] at h
    split at h
    · cases h
    · rename_i hn
      rcases List.mem_cons.1 hv with rfl | hv
      · simp only [isNameM, Bool.not_eq_true, Bool.or_eq_false_iff, Bool.not_eq_false', Bool.and_eq_true, Bool.not_eq_true'] at hn
        exact hn.2.1
      · exact names_res l _ h v hv
theorem UnifyAll_gen (vs : List ByteArray) (fd : ByteArray → Option S24) (x : S24) (w : World) (A B V : Option Addr) (c d cv : Nat) (hv : Kd.C Kd.string w V vs.length vs) (hcv : vs.length ≤ cv) (ha : Kd.C k24 w A [x].length [x]) (hc : 1 ≤ c)
    (hb : Kd.C k24 w B [appM fd x false].length [appM fd x false]) (hd : 1 ≤ d) (hn : vs.length < 9000000) (hvz : ∀ v ∈ vs, v.size < 8000000) (hx : wid x < 9000000) (hy : wid (appM fd x false) < 9000000) (hl : lstM x = true)
    (hnov : Nov vs (appM fd x false)) :
    Calls Tryz.prog 20 #[.slice A 1 c, .slice B 1 d, .slice V vs.length cv] w (TwoPost w (GenR vs fd x (appM fd x false))) := by
  have hq : ∀ v ∈ vs, LeafC ⟨1, 0, v, []⟩ ∧ v.size < 8000000 := fun v h => ⟨leafC_all _, hvz v h⟩
  have hla : [x].length < 9000000 ∧ ∀ z ∈ [x], allC z ∧ wid z < 9000000 := ⟨by simp, fun z hz => by obtain rfl := List.mem_singleton.1 hz; exact ⟨allC_all _, hx⟩⟩
  have hlb : [appM fd x false].length < 9000000 ∧ ∀ z ∈ [appM fd x false], allC z ∧ wid z < 9000000 := ⟨by simp, fun z hz => by obtain rfl := List.mem_singleton.1 hz; exact ⟨allC_all _, hy⟩⟩
  by_cases hg : (namesM [] vs && rowsM [[x], [appM fd x false]]) = true
  · have hr0 : ∀ v ∈ vs, resM v = false := by
      simp only [Bool.and_eq_true] at hg
      exact names_res vs [] hg.1
    obtain ⟨R, hR, hG⟩ := uni_form hr0 fd x false (dpt (appM fd x false) + 3) [] (fun h => by cases h) hl ⟨fun v z h => by simp [lookT] at h, by simp⟩ hnov (Nat.le_refl _)
    have hall : allM vs (dpt (appM fd x false) + 3) [] [x] [appM fd x false] = some R := by
      simp only [allM, hR]
      cases R <;> rfl
    refine (UnifyAll_good [x] [appM fd x false] vs A B V c d cv w hv hcv ha hc hb hd hn hq hla hlb hg _ R hall (GenF w vs fd x (appM fd x false)) ?_ ?_).mono ?_
    · intro v E w' W2 h hm
      obtain ⟨hv9, h⟩ := h
      rcases h with h | ⟨h, mt, T, A, c, hF, e, h2, h3⟩
      · exact ⟨hv9, .inl h⟩
      · exact ⟨hv9, .inr ⟨h, mt, T, A, c, hF, e, h2, Kd.F_step h3 (fun k hk hlt => hm k hlt hk.1 hk.2)⟩⟩
    · intro mt hR2 _ W1 sp vb tb mtv hB1 hs1 hS hT
      subst hR2
      obtain ⟨hi, _, hfit⟩ := hG
      refine (result_any vs fd hr0 hvz hn mt hi w W1 (w.heap.size + 3) sp vb tb mtv hS hT hB1).mono ?_
      rintro e w' ⟨A, n, c, E, rfl, hcase, hB⟩
      refine ⟨A, n, c, E, rfl, ?_, hB⟩
      rcases hcase with h | ⟨h, T, hT1, hT2, rfl, hnc, hF⟩
      · exact ⟨⟨_, _, _, rfl⟩, .inl h⟩
      · exact ⟨⟨_, _, _, rfl⟩, .inr ⟨h, mt, T, A, c, ⟨hi, hfit, hT1, hT2, hr0⟩, rfl, hnc, Kd.F_mono hF (fun k hk => by omega)⟩⟩
    · intro e w' h
      cases R with
      | stop n =>
        obtain ⟨rfl, hB⟩ := h
        exact ⟨none, 0, 0, n, rfl, .inr (.inr (.inl ⟨by rw [hG.1]; decide, hG.2⟩)), hB⟩
      | ok mt =>
        have h2 : ∃ v E, e = .returned (.tuple #[v, .int .i64 E]) ∧ GenF w vs fd x (appM fd x false) v E w' ∧ Below w.heap.size w w' := by simpa [UaPost] using h
        obtain ⟨v, E, rfl, hF, hB⟩ := h2
        obtain ⟨⟨A1, n1, c1, rfl⟩, hF⟩ := hF
        rcases hF with h3 | ⟨h3, mt2, T, A2, c2, hFo, h2, h4, h5⟩
        · exact ⟨A1, n1, c1, E, rfl, .inr (.inl h3), hB⟩
        · exact ⟨A1, n1, c1, E, rfl, .inr (.inr (.inr ⟨h3, mt2, T, A2, c2, hFo, h2, h4, Kd.F_now h5⟩)), hB⟩
  · refine (UnifyAll_bad [x] [appM fd x false] vs A B V c d cv w hv hcv ha hc hb hd hn hq hla hlb (by simpa using hg)).mono ?_
    rintro e w' ⟨rfl, hB⟩
    exact ⟨none, 0, 0, 1, rfl, .inl rfl, hB⟩
end Go.Proofs.YtcjmplpfebpfpaaGreatDoor

namespace Go.Proofs.YtcjmplpfebpfpaaGreatDoor
open Go.RowKit Go.Proofs Go.Proofs.YtcjmplpfebpfpaaGreatDoorW.PrintWords Go.Proofs.YtcjmplpfebpfpaaGreatDoorW.PrintLast Go.Proofs.YtcjmplpfebpfpaaGreatDoorW.PrintMore PKindInstances
set_option linter.unusedVariables false
set_option linter.unusedSimpArgs false

mutual
theorem app_wid (fd : ByteArray → Option S24) (N : Nat) (hf : ∀ s z, fd s = some z → wid z < N) : ∀ (x : S24) (b : Bool), wid x < N → wid (appM fd x b) < N
  | ⟨a, n, s, l⟩, b, h => by
    simp only [appM]
    have hk : wids l < N := by have := wid_kids ⟨a, n, s, l⟩; simp only [] at this; omega
    split
    · split
      · exact h
      · cases hz : fd s with
        | none => exact h
        | some z => exact hf s z hz
    · split
      · have := apps_wid fd N hf l (!b && isFunW (headL l)) b 0 hk
        simp only [wid] at h ⊢
        omega
      · exact h
theorem apps_wid (fd : ByteArray → Option S24) (N : Nat) (hf : ∀ s z, fd s = some z → wid z < N) : ∀ (l : List S24) (fn bare : Bool) (i : Nat), wids l < N → wids (appL fd fn bare i l) < N
  | [], fn, bare, i, h => by simpa [appL] using h
  | k :: l, fn, bare, i, h => by
    simp only [wids] at h
    simp only [appL, wids, appL_len]
    have h2 := apps_wid fd N hf l fn bare (i + 1) (by omega)
    have h1 : wid (if i = 0 ∧ bare = false ∧ k.f0 = 1 then k else appM fd k (fn && decide (i = 1) && (k.f0 == 3))) < N := by
      split
      · omega
      · exact app_wid fd N hf k _ (by omega)
    omega
end
mutual
theorem app_names (fd : ByteArray → Option S24) (U : List ByteArray) (hf : ∀ s z, fd s = some z → ∀ v ∈ nm z, v ∈ U) : ∀ (x : S24) (b : Bool), (∀ v ∈ nm x, v ∈ U) → ∀ v ∈ nm (appM fd x b), v ∈ U
  | ⟨a, n, s, l⟩, b, h => by
    by_cases h1 : a = 1
    · subst h1
      simp only [appM, if_true]
      cases b with
      | true => simpa using h
      | false =>
        cases hz : fd s with
        | none => simpa using h
        | some z => simpa using hf s z hz
    · by_cases h3 : a = 3
      · subst h3
        have e : appM fd ⟨3, n, s, l⟩ b = ⟨3, n, s, appL fd (!b && isFunW (headL l)) b 0 l⟩ := by simp [appM]
        rw [e]
        have h9 := apps_names fd U hf l (!b && isFunW (headL l)) b 0 (fun v hv => h v (by simpa [nm] using hv))
        intro v hv
        exact h9 v (by simpa [nm] using hv)
      · have e : appM fd ⟨a, n, s, l⟩ b = ⟨a, n, s, l⟩ := by simp [appM, h1, h3]
        rw [e]
        exact h
theorem apps_names (fd : ByteArray → Option S24) (U : List ByteArray) (hf : ∀ s z, fd s = some z → ∀ v ∈ nm z, v ∈ U) : ∀ (l : List S24) (fn bare : Bool) (i : Nat), (∀ v ∈ nms l, v ∈ U) → ∀ v ∈ nms (appL fd fn bare i l), v ∈ U
  | [], fn, bare, i, h => by simp [appL, nms]
  | k :: l, fn, bare, i, h => by
    intro v hv
    simp only [appL, nms, List.mem_append] at hv
    rcases hv with hv | hv
    · split at hv
      · exact h v (by simp only [nms, List.mem_append]; exact .inl hv)
      · exact app_names fd U hf k _ (fun v hv => h v (by simp only [nms, List.mem_append]; exact .inl hv)) v hv
    · exact apps_names fd U hf l fn bare (i + 1) (fun v hv => h v (by simp only [nms, List.mem_append]; exact .inr hv)) v hv
end
theorem lookK_mem {s : ByteArray} {z : S24} : ∀ {by_ : List S51}, lookK by_ s = some z → ∃ p ∈ by_, p.f0 = s ∧ p.f1 = z
  | [], h => by cases h
  | x :: l, h => by
    simp only [lookK] at h
    split at h
    · rename_i e
      obtain rfl := Option.some.inj h
      exact ⟨x, List.mem_cons_self, bytes_inj (by simpa using e), rfl⟩
    · obtain ⟨p, hp, e⟩ := lookK_mem h
      exact ⟨p, List.mem_cons_of_mem _ hp, e⟩
theorem findK_mem {by_ : List S51} {s : ByteArray} {z : S24} (h : findK by_ s = some z) : ∃ p ∈ by_, p.f0 = s ∧ p.f1 = z := by
  unfold findK at h
  split at h
  · cases h
  · exact lookK_mem h
theorem lookT_absent {v : ByteArray} : ∀ {mt : List (ByteArray × S24)}, (¬ ∃ p ∈ mt, p.1 = v) → lookT mt v = none
  | [], _ => rfl
  | (a, x) :: m, hn => by
    simp only [lookT]
    rw [if_neg (fun e => hn ⟨(a, x), List.mem_cons_self, e.symm⟩)]
    exact lookT_absent (fun ⟨p, hp, e⟩ => hn ⟨p, List.mem_cons_of_mem _ hp, e⟩)
/-- How many parts the pairs have. -/
def sizp : List S51 → Nat
  | [] => 0
  | x :: l => x.f0.size + siz x.f1 + 1 + sizp l
theorem sizp_mem : ∀ {l : List S51} {x : S51}, x ∈ l → siz x.f1 ≤ sizp l
  | [], x, h => absurd h List.not_mem_nil
  | y :: l, x, h => by
    simp only [sizp]
    rcases List.mem_cons.1 h with rfl | h
    · omega
    · have := sizp_mem h; omega
theorem sizp_len : ∀ l : List S51, l.length ≤ sizp l
  | [] => Nat.le_refl _
  | y :: l => by have := sizp_len l; simp only [sizp, List.length_cons]; omega
def namesP : List S51 → List ByteArray
  | [] => []
  | x :: l => nm x.f1 ++ namesP l
theorem namesP_len : ∀ l : List S51, (namesP l).length ≤ sizp l
  | [] => Nat.le_refl _
  | y :: l => by
    have h1 := namesP_len l
    have h2 := nm_len y.f1
    simp only [namesP, sizp, List.length_append]
    omega
theorem namesP_mem : ∀ {l : List S51} {p : S51} {v : ByteArray}, p ∈ l → v ∈ nm p.f1 → v ∈ namesP l
  | [], p, v, h, _ => absurd h List.not_mem_nil
  | y :: l, p, v, h, hv => by
    simp only [namesP, List.mem_append]
    rcases List.mem_cons.1 h with rfl | h
    · exact .inl hv
    · exact .inr (namesP_mem h hv)
/-- The names of a form with pairs put in are among so many. -/
theorem names_in (x : S24) (by_ : List S51) : ∀ v ∈ nm (appM (findK by_) x false), v ∈ nm x ++ namesP by_ :=
  app_names _ _ (fun s z h v hv => by
    obtain ⟨p, hp, _, e⟩ := findK_mem h
    rw [← e] at hv
    exact List.mem_append_right _ (namesP_mem hp hv)) x false (fun v hv => List.mem_append_left _ hv)

theorem lookK_out (mt : List (ByteArray × S24)) : ∀ (T : List ByteArray) (s : ByteArray), lookK (kOut mt T) s = if s ∈ T then some ((lookT mt s).getD z24) else none
  | [], s => rfl
  | t :: T, s => by
    have ih := lookK_out mt T s
    unfold kOut at ih ⊢
    simp only [List.map_cons, lookK]
    by_cases h : t = s
    · subst h
      simp
    · have hb : (t.toList == s.toList) = false := by
        rw [beq_eq_false_iff_ne]
        exact fun e => h (bytes_inj e)
      rw [hb, if_neg (by simp), ih]
      by_cases h2 : s ∈ T
      · rw [if_pos h2, if_pos (List.mem_cons_of_mem _ h2)]
      · rw [if_neg h2, if_neg (by simp only [List.mem_cons, not_or]; exact ⟨fun e => h e.symm, h2⟩)]
/-- What was found does to the variables what is known. -/
theorem found_fits {vs : List ByteArray} {fd : ByteArray → Option S24} {x y : S24} {mt : List (ByteArray × S24)} {T : List ByteArray} (h : Found vs fd x y mt T) : Fits vs mt (findK (kOut mt T)) := by
  obtain ⟨hi, _, _, hT, hr0⟩ := h
  obtain ⟨k1, _⟩ := inv_keys hi
  refine ⟨fun v z hz => ?_, fun w hw => ?_⟩
  · have hv := (hi.1 v z hz).1
    have hm : v ∈ T := by
      rw [hT]
      apply Classical.byContradiction
      intro hn
      have : lookT mt v = none := lookT_absent hn
      rw [this] at hz; cases hz
    unfold findK
    rw [hr0 v hv, if_neg (by simp), lookK_out, if_pos hm, hz, Option.getD_some]
  · unfold findK
    split
    · rfl
    · rw [lookK_out, if_neg]
      intro hm
      obtain ⟨p, hp, e⟩ := (hT w).1 hm
      exact hw (by rw [← e]; exact k1 p hp)
theorem out_wid {vs : List ByteArray} {fd : ByteArray → Option S24} {mt : List (ByteArray × S24)} {T : List ByteArray} {N : Nat} (hf : ∀ s z, fd s = some z → wid z < N) (h0 : 1 < N) (hi : Inv vs fd mt) : ∀ p ∈ kOut mt T, wid p.f1 < N := by
  intro p hp
  obtain ⟨s, hs, rfl⟩ := List.mem_map.1 hp
  simp only []
  cases hl : lookT mt s with
  | none => exact h0
  | some z => exact hf s z (hi.1 s z hl).2.1
theorem covered {vs : List ByteArray} {by_ : List S51} (h : ∀ p ∈ by_, p.f0 ∈ vs) : Cov vs (findK by_) := fun s z hz => by
  obtain ⟨p, hp, e, _⟩ := findK_mem hz
  rw [← e]
  exact h p hp
end Go.Proofs.YtcjmplpfebpfpaaGreatDoor

namespace Go.Proofs.YtcjmplpfebpfpaaGreatDoor
open Go.RowKit Go.Proofs Go.Proofs.YtcjmplpfebpfpaaGreatDoorW.PrintWords Go.Proofs.YtcjmplpfebpfpaaGreatDoorW.PrintLast Go.Proofs.YtcjmplpfebpfpaaGreatDoorW.PrintMore PKindInstances
set_option linter.unusedVariables false
set_option linter.unusedSimpArgs false

theorem Unify_gen (vs : List ByteArray) (fd : ByteArray → Option S24) (x : S24) (w : World) (A B V : Option Addr) (c d cv : Nat) (hv : Kd.C Kd.string w V vs.length vs) (hcv : vs.length ≤ cv) (ha : Kd.C k24 w A x.f3.length x.f3) (hc : x.f3.length ≤ c)
    (hb : Kd.C k24 w B (appM fd x false).f3.length (appM fd x false).f3) (hd : (appM fd x false).f3.length ≤ d) (hn : vs.length < 9000000) (hvz : ∀ v ∈ vs, v.size < 8000000) (hx : wid x < 9000000) (hy : wid (appM fd x false) < 9000000) (hl : lstM x = true)
    (hnov : Nov vs (appM fd x false)) :
    Calls Tryz.prog 22 #[formV x.f0 x.f1 x.f2 A x.f3.length c, formV (appM fd x false).f0 (appM fd x false).f1 (appM fd x false).f2 B (appM fd x false).f3.length d, .slice V vs.length cv] w (TwoPost w (GenR vs fd x (appM fd x false))) :=
  Unify_of x (appM fd x false) A B c d (.slice V vs.length cv) w _ ha hc hb hd (fun W p q hB h1 h2 => UnifyAll_gen vs fd x W _ _ V 1 1 cv (Kd.C_below hv hB) hcv h1 (Nat.le_refl _) h2 (Nat.le_refl _) hn hvz hx hy hl hnov)

/-- What holds of the loop. -/
def LpRel (W0 : World) (l : List S51) (k : Nat) (x3 : Value) (wr : World) : Prop :=
  ∃ (i : Nat), x3 = .int .i64 (i : Int) ∧ k + i = l.length ∧ Below W0.heap.size W0 wr
set_option maxRecDepth 100000 in
set_option maxHeartbeats 4000000 in
theorem listedPairs_any (l : List S51) (A : Option Addr) (c : Nat) (w : World) (hr : Kd.C k51 w A l.length l) (hn : l.length < 9000000) (hw : ∀ p ∈ l, wid p.f1 < 8000000) :
    Calls Tryz.prog 18 #[.slice A l.length c] w fun e w' => (∃ b, e = .returned (.bool b)) ∧ Below w.heap.size w w' := by
  have hu24 := Tryz.underlying24
  have hu51 := Tryz.underlying51
  have hu25 := Tryz.underlying25
  have start : Hid (LpRel w l l.length (.int .i64 ((0 : Nat) : Int)) w) := ⟨0, rfl, rfl, Below.refl _ _⟩
  have HR : Hid _ := Kd.C_F k51_heap hr
  have HW : Hid _ := hw
  clear hr hw
  go_enter Tryz.func18, Tryz.ntmps18
  go_wp2_with fail
  go_loopg [3] l.length (fun k x3 wr => LpRel w l k x3 wr)
  case atStart => exact start.out
  case round =>
    clear start
    obtain ⟨i, rfl, hki, Bl⟩ := hrel
    by_cases hlt : i < l.length
    · obtain ⟨g, rfl⟩ : ∃ g, gk = g + 1 := ⟨gk - 1, by omega⟩
      have e1 : decide (i < l.length) = true := decide_eq_true hlt
      obtain ⟨x, hx⟩ : ∃ x, l[i]? = some x := ⟨l[i]'hlt, List.getElem?_eq_getElem _⟩
      obtain ⟨ad, A3, c3, rfl, g0, g1, g2, g3, g4, g5, g6⟩ := row_at51 (Kd.F_below HR.out Bl) hlt hx
      have SZ := HW.out x (List.mem_of_getElem? hx)
      have BL : Hid _ := Bl
      have G6 : Hid _ := g6
      clear Bl hx g6
      obtain ⟨xn, ⟨x0, x1, x2, x3⟩⟩ := x
      simp only [] at g0 g1 g2 g3 g4 g5 G6 SZ
      have b1 : Below wr.heap.size wr (wr.alloc (Obj.cells #[.int .i64 x0, .int .i64 x1, .string x2, .slice A3 x3.length c3] 24)) := below_alloc (Below.refl _ _) _
      have OK : Hid _ := listed_told [(⟨x0, x1, x2, x3⟩ : S24)] (some ⟨wr.heap.size, 0, none⟩) 1 (wr.alloc (Obj.cells #[.int .i64 x0, .int .i64 x1, .string x2, .slice A3 x3.length c3] 24)) (one_row (MapKept.heap_alloc wr _).1 (Kd.C_below (Kd.F_now G6.out) b1) g5) (Nat.le_refl _) (by simp only [wids, List.length_nil]; omega)
      have BO : Hid _ := below_after BL.out b1
      clear b1
      go_wp2_with fail
      refine Calls.mono OK.out ?_
      rintro e w2 ⟨⟨b, rfl, _⟩, B2⟩
      have B3 : Hid _ := below_after BO.out B2
      clear B2
      cases b with
      | true =>
        go_wp2_with fail
        go_roundg g
        case measure => omega
        case rel => exact ⟨i + 1, by go_num, by omega, B3.out⟩
      | false =>
        go_wp2_with fail
        go_ret
        exact ⟨⟨_, rfl⟩, B3.out⟩
    · have e1 : decide (i < l.length) = false := decide_eq_false hlt
      have BL : Hid _ := Bl
      clear Bl
      go_wp2_with fail
      go_ret
      exact ⟨⟨_, rfl⟩, BL.out⟩
end Go.Proofs.YtcjmplpfebpfpaaGreatDoor
