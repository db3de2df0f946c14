/- Walks for ClauseTidy: Count of package clause. -/
import Derived.Test.YtdllaphnkbnpoaaGreatTk
namespace Go.Proofs.YtdllaphnkbnpoaaGreat
open Go.RowKit Go.Proofs

def cntL (v vb : Value) (vs : List Int) (bs : List Bool) (g : Nat) : Key → Res
  | .loc 0 => .row v 3 (ints vs)
  | .loc 1 => .row vb 4 (bools bs)
  | .loc 2 => .cells g [.slice (ad vb) 201 (cp vb)] 54
  | _ => .non
theorem Holds.box {base : Nat} {w : World} {L : Key → Res} (h : Holds base w L) (k : Key) (hbase : base ≤ w.heap.size) (u : Value) (t : TypeId) : Holds base (w.alloc (.cells #[u] t)) (upd L k (.cells w.heap.size [u] t)) := by
  refine h.put k _ (World.grownBy_alloc w _ none) (fun b hb => by cases hb) ?_ (fun b hb => ?_) hbase
  · show (w.alloc (.cells #[u] t)).heap[w.heap.size]? = _
    exact heap_alloc_new w _
  · right
    have : some w.heap.size = some b := hb
    cases this; exact Nat.le_refl _
theorem cntL_upd {v vb : Value} {vs : List Int} {bs bs' : List Bool} {g : Nat} : upd (cntL v vb vs bs g) (.loc 1) (.row vb 4 (bools bs')) = cntL v vb vs bs' g := by
  funext k
  unfold upd
  by_cases h : k = .loc 1
  · subst h; rw [if_pos rfl]; rfl
  · rw [if_neg h]
    unfold cntL
    split
    · rfl
    · exact absurd rfl h
    · rfl
    · rfl

def ResN (R : Int × Int) (w : World) (e : Ending) (w' : World) : Prop := e = .returned (.tuple #[.int .i64 R.1, .int .i64 R.2]) ∧ Below w.heap.size w w'

def Ct1Rel (base : Nat) (w : World) (D : List (List Int)) (v vb : Value) (vs : List Int) (g N : Nat) (k : Nat) (x6 x25 : Value) (wr : World) : Prop :=
  ∃ (b : Nat) (bs : List Bool), x25 = .int .i64 (b : Int) ∧ x6 = .int .i64 ((countN D vs b : Nat) : Int) ∧ k + b = N ∧ bs.length = 201 ∧ Holds base wr (cntL v vb vs bs g) ∧ Below base w wr
def Ct2Rel (base : Nat) (w : World) (v vb : Value) (vs : List Int) (g b : Nat) (k : Nat) (x30 : Value) (wr : World) : Prop :=
  ∃ (i : Nat) (bs : List Bool), x30 = .int .i64 (i : Int) ∧ k + i = vs.length ∧ bs.length = 201 ∧ Holds base wr (cntL v vb vs bs g) ∧ Below base w wr ∧ ∀ j, j < i → bs.getD (vs.getD j 0).toNat false = decide (b / 2 ^ j % 2 = 1)

set_option maxRecDepth 100000 in
set_option maxHeartbeats 4000000 in
theorem pCount_any {w : World} {A : Option Addr} {D : List (List Int)} {c : Nat} (h : LiesR w.heap.size w A D) (hn : D.length ≤ 9223372036854775807) (hm : ∀ e ∈ D, e.length ≤ 9223372036854775807) :
    Calls Tryz.prog 11 #[.slice A D.length c] w (ResN (countM D) w) := by
  have C1 := Check_any (c := c) h (Nat.le_refl _) hn (fun j hj => hm _ (row_ne D [] hj))
  rw [← refM_eq] at C1
  unfold countM
  by_cases hr : refM D = 0
  · rw [if_neg (by simp [hr])]
    rw [hr] at C1
    have d6 : D.length ≤ 600 := by
      unfold refM at hr
      split at hr
      · omega
      · omega
    have dr : ∀ e ∈ D, e.length ≤ 30 := by
      unfold refM at hr
      split at hr
      · omega
      · split at hr
        · omega
        · rename_i q
          have q : (D.all fun c => decide (c.length ≤ 30)) = true := by simpa using q
          intro e he
          have := List.all_eq_true.1 q e he
          simpa using this
    have dl : ∀ e ∈ D, ∀ x ∈ e, x ≠ 0 ∧ x.natAbs ≤ 200 := lit_of_ref hr
    have dal : (absAll D).length ≤ 60000 := by
      have h1 := absAll_len D 30 dr
      have h2 : D.length * 30 ≤ 600 * 30 := Nat.mul_le_mul_right _ d6
      omega
    have CV : Hid (∀ W, Below w.heap.size w W → Calls Tryz.prog 41 #[.slice A D.length c] W fun e w' => ∃ v', e = .returned v' ∧ Below W.heap.size W w' ∧ Holds W.heap.size w' (locs (.row v' 3 (ints (refVars D))))) := fun W hW => by
      have := variables_any (base := W.heap.size) (w := W) (Nat.le_refl _) (cc := c) ((h.below hW).mono hW.size) (by omega) (fun i hi => by have := dr _ (row_ne D [] hi); omega) dal (fun e he x hx => by have := dl e he x hx; omega)
      rwa [vars_same] at this
    have VS : Hid ((refVars D).Pairwise (· < ·)) := refVars_strict D
    have VP : Hid (∀ v ∈ refVars D, 0 < v ∧ v ≤ 200) := fun v hv => by
      obtain ⟨e, he, x, hx, rfl⟩ := refVars_mem.1 hv
      have := dl e he x hx
      omega
    have VM : Hid (∀ e ∈ D, ∀ x ∈ e, x ≠ 0 ∧ (x.natAbs : Int) ∈ refVars D) := fun e he x hx => ⟨(dl e he x hx).1, refVars_mem.2 ⟨e, he, x, hx, rfl⟩⟩
    have LA : Hid _ := h
    have DR : Hid _ := dr
    have DL : Hid _ := dl
    clear h hm hr dr dl dal
    generalize refVars D = vs at *
    by_cases hv : 16 < vs.length
    · rw [if_pos hv]
      have g1 : (16 : Int) < (vs.length : Int) := by omega
      clear hv VS VP VM LA DR DL
      go_enter Tryz.func11, Tryz.ntmps11
      go_wp2_with fail
      refine C1.mono ?_
      rintro e w1 ⟨rfl, B1⟩
      have cv := CV.out w1 B1
      have B1h : Hid _ := B1
      clear C1 B1 CV
      go_wp2_with fail
      refine cv.mono ?_
      rintro e w2 ⟨v', rfl, B2, H2⟩
      obtain ⟨Av, cw, rfl⟩ : ∃ A c, v' = .slice A vs.length c := by
        have := H2.slice (k := .loc 0) rfl
        rwa [ints_length] at this
      have BF : Hid _ := B1h.out.trans (B2.mono B1h.out.size)
      clear cv B2 H2
      go_wp2_with fail
      go_ret2
      exact ⟨rfl, BF.out⟩
    · rw [if_neg hv]
      have g1 : decide ((16 : Int) < (vs.length : Int)) = false := decide_eq_false (by omega)
      have g2 : (vs.length : Int) ≤ 16 := by omega
      obtain ⟨base, hbase⟩ : ∃ base, base = w.heap.size := ⟨_, rfl⟩
      rw [← hbase] at LA
      have HB : Hid _ := hbase
      clear hv
      obtain ⟨N, hN⟩ : ∃ N, N = 2 ^ vs.length := ⟨_, rfl⟩
      have hN6 : N ≤ 65536 := by
        rw [hN]
        exact Nat.le_trans (Nat.pow_le_pow_right (by omega) (show vs.length ≤ 16 by omega)) (by decide)
      have HPN : Hid (wrap64 ((2 : Int) ^ vs.length) = (N : Int)) := by
        have e1 : ((2 : Int) ^ vs.length) = (N : Int) := by rw [hN]; simp
        show wrap64 _ = _
        rw [e1]
        unfold wrap64; omega
      have HN : Hid _ := hN
      rw [← hN]
      clear hN
      go_enter Tryz.func11, Tryz.ntmps11
      go_wp2_with fail
      refine C1.mono ?_
      rintro e w1 ⟨rfl, B1⟩
      have cv := CV.out w1 B1
      rw [← hbase] at B1
      have B1h : Hid _ := B1
      have hbz1 : base ≤ w1.heap.size := by have := B1.size; omega
      clear C1 B1 CV hbase
      go_wp2_with fail
      refine cv.mono ?_
      rintro e w2 ⟨v', rfl, B2, H2⟩
      obtain ⟨Av, cw, hv'⟩ : ∃ A c, v' = .slice A vs.length c := by
        have := H2.slice (k := .loc 0) rfl
        rwa [ints_length] at this
      have H2b := H2.down hbz1
      have hbz2 : base ≤ w2.heap.size := Nat.le_trans hbz1 B2.size
      obtain ⟨w3, hmk, H3, B3⟩ := H2b.made (.loc 1) hbz2 (P := Tryz.prog) 54 4 (.bool false) 1 Tryz.underlying54 info4 rfl 201 (by omega) (by omega)
      have hmk2 : (Instr.makeSlice 54 (.int .i64 201) (.int .i64 201)).run Tryz.prog w2 = .ok (.slice (some ⟨w2.heap.size, 0, none⟩) 201 201) w3 := hmk
      have hbz3 : base ≤ w3.heap.size := by have := B3.size; have := B1h.out.size; have := B2.size; have := HB.out; omega
      have H4 := Holds.box H3 (.loc 2) hbz3 (.slice (some ⟨w2.heap.size, 0, none⟩) 201 201) 54
      rw [bools_made] at H4
      have H5 : Holds base (w3.alloc (.cells #[.slice (some ⟨w2.heap.size, 0, none⟩) 201 201] 54)) (cntL v' (.slice (some ⟨w2.heap.size, 0, none⟩) 201 201) vs (List.replicate 201 false) w3.heap.size) := holds_eq H4 (by
        funext k
        unfold upd locs cntL
        by_cases h2 : k = .loc 2
        · subst h2; simp [ad, cp]
        · by_cases h1 : k = .loc 1
          · subst h1; simp
          · by_cases h0 : k = .loc 0
            · subst h0; simp
            · simp only [h0, h1, h2, if_false])
      have AVH : Hid (0 < vs.length → Av = some ⟨gb v', 0, none⟩) := fun hp => by
        have := H2.ad_ (k := .loc 0) (t := 3) (xs := ints vs) rfl (by rw [ints_length]; exact hp)
        rw [hv'] at this ⊢
        exact this
      have B4 : Hid (Below base w (w3.alloc (.cells #[.slice (some ⟨w2.heap.size, 0, none⟩) 201 201] 54))) := ((B1h.out.trans (B2.mono hbz1)).trans B3).alloc hbz3 _
      have start : Hid (Ct1Rel base w D v' (.slice (some ⟨w2.heap.size, 0, none⟩) 201 201) vs w3.heap.size N N (.int .i64 ((0 : Nat) : Int)) (.int .i64 ((0 : Nat) : Int)) (w3.alloc (.cells #[.slice (some ⟨w2.heap.size, 0, none⟩) 201 201] 54))) := ⟨0, _, rfl, rfl, by omega, by simp, H5, B4.out⟩
      have HV : Hid _ := hv'
      rw [hv']
      clear cv H2 H2b hmk H3 H4 H5 B4 hv' B2
      go_wp2_with fail
      rw [HPN.out]
      obtain ⟨gB, hgB⟩ : ∃ gB, gB = w2.heap.size := ⟨_, rfl⟩
      obtain ⟨g, hg⟩ : ∃ g, g = w3.heap.size := ⟨_, rfl⟩
      rw [← hgB, ← hg] at start
      rw [← hgB, ← hg]
      generalize w3.alloc (.cells #[.slice (some ⟨gB, 0, none⟩) 201 201] 54) = w4 at *
      clear hgB hg hmk2 B3 HPN
      go_loopg [6, 25] N (fun k x6 x25 wr => Ct1Rel base w D v' (.slice (some ⟨gB, 0, none⟩) 201 201) vs g N k x6 x25 wr)
      case atStart => exact start.out
      case round =>
        clear start
        obtain ⟨b, bs, rfl, rfl, hkb, hbl, H, B⟩ := hrel
        have hbz : base ≤ wr.heap.size := by have := B.size; have := HB.out; omega
        have hcl := countN_le D vs b
        by_cases hlt : b < N
        · obtain ⟨m, rfl⟩ : ∃ m, gk = m + 1 := ⟨gk - 1, by omega⟩
          have start2 : Hid (Ct2Rel base w v' (.slice (some ⟨gB, 0, none⟩) 201 201) vs g b vs.length (.int .i64 ((0 : Nat) : Int)) wr) := ⟨0, bs, rfl, by omega, hbl, H, B, fun j hj => absurd hj (Nat.not_lt_zero _)⟩
          have CS : Hid (countN D vs (b + 1) = countN D vs b + (if holdsM D (assignL vs b) = true then 1 else 0)) := countN_succ D vs b
          clear H B hbl
          generalize countN D vs b = cn at *
          go_wp2_with fail
          go_loopg [30] vs.length (fun k x30 w' => Ct2Rel base w v' (.slice (some ⟨gB, 0, none⟩) 201 201) vs g b k x30 w')
          case atStart => exact start2.out
          case round =>
            clear start2
            obtain ⟨i, bs, rfl, hki, hbl, H, B, hS⟩ := hrel
            have hbz : base ≤ wr.heap.size := by have := B.size; have := HB.out; omega
            by_cases hlt2 : i < vs.length
            · obtain rfl : Av = some ⟨gb v', 0, none⟩ := AVH.out (by omega)
              have e1 := H.elem (k := .loc 0) (t := 3) (xs := ints vs) rfl (ints_at vs hlt2)
              have e2 : wr.cell? ⟨g, 0, none⟩ = some (.slice (some ⟨gB, 0, none⟩) 201 201) := H.cell (k := .loc 2) rfl 0 rfl
              have eat : at0 vs i = vs.getD i 0 := rfl
              rw [eat] at e1
              obtain ⟨hx0, hx1⟩ := VP.out _ (row_ne vs 0 hlt2)
              have hNS : ∀ j, j < i → (vs.getD j 0).toNat ≠ (vs.getD i 0).toNat := fun j hj => by
                have h1 := List.pairwise_iff_getElem.1 VS.out j i (by omega) hlt2 hj
                have h2 := VP.out _ (row_ne vs 0 (show j < vs.length by omega))
                have e5 : vs.getD j 0 = vs[j] := by simp [show j < vs.length by omega]
                have e6 : vs.getD i 0 = vs[i] := by simp [hlt2]
                omega
              have hS2 : ∀ q : Bool, q = decide (b / 2 ^ i % 2 = 1) → ∀ j, j < i + 1 → (bs.set (vs.getD i 0).toNat q).getD (vs.getD j 0).toNat false = decide (b / 2 ^ j % 2 = 1) := fun q hq j hj => by
                by_cases hji : j = i
                · subst hji
                  rw [List.getD_eq_getElem?_getD, List.getElem?_set_self (by omega)]
                  exact hq
                · rw [List.getD_eq_getElem?_getD, List.getElem?_set_ne (fun e => hNS j (by omega) e.symm), ← List.getD_eq_getElem?_getD]
                  exact hS j (by omega)
              have S2 : Hid _ := hS2
              generalize vs.getD i 0 = x at *
              obtain ⟨n, rfl⟩ : ∃ n : Nat, x = (n : Int) := ⟨x.toNat, by omega⟩
              have en : ((n : Int)).toNat = n := by omega
              have ef : wr.frozen? ⟨gB, n, none⟩ = false := H.free (k := .loc 1) (t := 4) (xs := bools bs) rfl (by rw [bools_length]; omega) n
              have ec : wr.cell? ⟨gB, n, none⟩ = some (.bool (bs.getD n false)) := H.elem (k := .loc 1) (t := 4) (xs := bools bs) rfl (bools_at bs (by omega))
              have hn201 : (n : Int) < 201 := by omega
              have HST : ∀ (q : Bool) (k : Nat), Hid (Holds base ((wr.drewN k).setCell ⟨gB, n, none⟩ (.bool q)) (cntL v' (.slice (some ⟨gB, 0, none⟩) 201 201) vs (bs.set n q) g)) := fun q k => by
                have := (H.drewN k).store (k := .loc 1) (t := 4) (xs := bools bs) rfl (i := n) (by rw [bools_length]; omega) (.bool q) hbz
                rw [bools_set, cntL_upd] at this
                exact this
              have BST : ∀ (q : Bool) (k : Nat), Hid (Below base w ((wr.drewN k).setCell ⟨gB, n, none⟩ (.bool q))) := fun q k => by
                have hb1 : base ≤ gB := H.base (.loc 1) gB rfl
                exact (below_drewN B k).setCell (p := ⟨gB, n, none⟩) hb1 _
              have hbit : bits BinOp.and IntKind.i64 ((b : Int) / 2 ^ i) 1 = ((b / 2 ^ i % 2 : Nat) : Int) := by
                have e1 : ((b : Int) / 2 ^ i) = ((b / 2 ^ i : Nat) : Int) := by simp
                have h9 : b / 2 ^ i ≤ b := Nat.div_le_self _ _
                have := bits_and_i64_nat (b / 2 ^ i) 1 (by omega) (by omega)
                rw [e1]
                rw [Nat.and_one_is_mod] at this
                exact this
              have hb64 : (i : Int) ≤ 64 := by omega
              clear hS H B hS2 hNS eat
              by_cases hq : b / 2 ^ i % 2 = 1
              · rw [hq] at hbit
                have SS : Hid (∀ j, j < i + 1 → (bs.set n true).getD (vs.getD j 0).toNat false = decide (b / 2 ^ j % 2 = 1)) := by
                  have := S2.out true (decide_eq_true hq).symm
                  rwa [en] at this
                clear hq S2
                go_wp2_with fail
                go_region
                go_wp2_with fail
                go_roundg (gk - 1)
                case measure => omega
                case rel => exact ⟨i + 1, bs.set n true, by go_num, by omega, by simp [hbl], (HST true _).out, (BST true _).out, SS.out⟩
              · have hq0 : b / 2 ^ i % 2 = 0 := by omega
                rw [hq0] at hbit
                have SS : Hid (∀ j, j < i + 1 → (bs.set n false).getD (vs.getD j 0).toNat false = decide (b / 2 ^ j % 2 = 1)) := by
                  have := S2.out false (decide_eq_false hq).symm
                  rwa [en] at this
                clear hq hq0 S2
                go_wp2_with fail
                go_region
                go_wp2_with fail
                go_roundg (gk - 1)
                case measure => omega
                case rel => exact ⟨i + 1, bs.set n false, by go_num, by omega, by simp [hbl], (HST false _).out, (BST false _).out, SS.out⟩
            · have hge : decide (i < vs.length) = false := decide_eq_false (by omega)
              have hge2 : vs.length ≤ i := by omega
              have SH := says_holds (D := D) (vs := vs) (bs := bs) (b := b) VS.out (fun v hv => (VP.out v hv).1) (fun j hj => hS j (by omega)) VM.out
              have e2 : wr.cell? ⟨g, 0, none⟩ = some (.slice (some ⟨gB, 0, none⟩) 201 201) := H.cell (k := .loc 2) rfl 0 rfl
              have hgl : g < wr.heap.size := (H.lt (.loc 2) rfl).2
              have CA := cntAll_any (B := g) (cc := c) H (k := .loc 1) rfl hbl e2 hgl ((LiesR.below LA.out B).mono hbz) (by omega) (fun e he => by have := DR.out e he; omega) DL.out
              have cs := CS.out
              rw [← SH] at cs
              have HH : Hid _ := H
              have BH : Hid _ := B
              have HBL : Hid _ := hbl
              clear hS H B SH hlt2 e2 hbl CS
              generalize (D.any fun c => !(c.any fun l => saysM bs l)) = r at *
              cases r with
              | true =>
                have CS1 : countN D vs (b + 1) = cn := by rw [cs]; simp
                have CS2 : Hid _ := CS1
                clear CS1
                clear cs
                go_wp2_with fail
                refine CA.mono ?_
                rintro e w6 ⟨rfl, B6⟩
                have HE : Hid _ := HH.out.other (fun b _ h2 => B6.block b h2)
                have BE : Hid _ := BH.out.trans (B6.mono hbz)
                clear CA B6
                go_wp2_with fail
                go_roundg m
                case measure => omega
                case rel => exact ⟨b + 1, bs, by go_num, by rw [CS2.out], by omega, HBL.out, HE.out, BE.out⟩
              | false =>
                have CS1 : countN D vs (b + 1) = cn + 1 := by rw [cs]; simp
                have CS2 : Hid _ := CS1
                clear CS1
                clear cs
                go_wp2_with fail
                refine CA.mono ?_
                rintro e w6 ⟨rfl, B6⟩
                have HE : Hid _ := HH.out.other (fun b _ h2 => B6.block b h2)
                have BE : Hid _ := BH.out.trans (B6.mono hbz)
                clear CA B6
                go_wp2_with fail
                go_roundg m
                case measure => omega
                case rel => exact ⟨b + 1, bs, by go_num, by rw [CS2.out]; go_num, by omega, HBL.out, HE.out, BE.out⟩
        · obtain rfl : b = N := by omega
          have hge : decide (b < b) = false := decide_eq_false (by omega)
          have BE : Hid _ := B
          clear H B hlt
          go_wp2_with fail
          go_ret2
          exact ⟨rfl, by have := BE.out; rwa [HB.out] at this⟩
  · rw [if_pos hr]
    have g1 : (refM D != 0) = true := by simp [hr]
    clear h hm hr
    generalize refM D = r at *
    go_enter Tryz.func11, Tryz.ntmps11
    go_wp2_with fail
    refine C1.mono ?_
    rintro e w1 ⟨rfl, B1⟩
    have B1h : Hid _ := B1
    clear C1 B1
    go_wp2_with fail
    go_ret2
    exact ⟨rfl, B1h.out⟩
end Go.Proofs.YtdllaphnkbnpoaaGreat
