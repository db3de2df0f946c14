/- The reference's walk to the clauses that are left, and the law ClauseCore. -/
import Derived.Test.YtdllaphnkbnpoaaXk
namespace Go.Proofs.Ytdllaphnkbnpoaa
open Go.RowKit Go.Proofs

theorem core_len (D : List (List Int)) : ∀ (k m : Nat) (left : List Int), (coreM D k m left).length ≤ left.length
  | 0, _, _ => Nat.le_refl _
  | k + 1, m, left => by
    unfold coreM
    split
    · exact core_len D k (m + 1) left
    · exact Nat.le_trans (core_len D k (m + 1) _) (List.length_filter_le _ _)

/-- Two things are owned. -/
def locs2 (r0 r1 : Res) : Key → Res := fun k => if k = .loc 0 then r0 else if k = .loc 1 then r1 else .non
theorem upd_locs2_0 (r0 r1 r : Res) : upd (locs2 r0 r1) (.loc 0) r = locs2 r r1 := by
  funext k; unfold upd locs2; split <;> rfl
theorem upd_locs2_1 (r0 r1 r : Res) : upd (locs2 r0 r1) (.loc 1) r = locs2 r0 r := by
  funext k; unfold upd locs2
  by_cases h : k = .loc 1
  · subst h; simp
  · simp [h]
theorem nil2 (w : World) (t0 t1 : TypeId) : Holds w.heap.size w (locs2 (.row (.slice none 0 0) t0 []) (.row (.slice none 0 0) t1 [])) := by
  have h := nil_put (nil_put (Holds.nothing w.heap.size w) (Nat.le_refl _) (.loc 0) t0) (Nat.le_refl _) (.loc 1) t1
  have e : upd (upd (fun _ => Res.non) (.loc 0) (.row (.slice none 0 0) t0 [])) (.loc 1) (.row (.slice none 0 0) t1 []) = locs2 (.row (.slice none 0 0) t0 []) (.row (.slice none 0 0) t1 []) := by
    funext k; unfold upd locs2
    by_cases h1 : k = .loc 1
    · subst h1; simp
    · simp [h1]
  rwa [e] at h

theorem cellsL_liesR {base : Nat} {w : World} {L : Key → Res} {k : Key} {v : Value} {cs : List Value} {E : List (List Int)} (H : Holds base w L) (hk : L k = .row v 26 cs) (h : Cells base w cs E) (hb : base ≤ w.heap.size) : LiesR w.heap.size w (ad v) E := by
  rcases Nat.eq_zero_or_pos E.length with h0 | hp
  · exact .inl (List.eq_nil_of_length_eq_zero h0)
  · right
    have hp' : 0 < cs.length := by rw [h.1]; exact hp
    refine ⟨gb v, 0, H.ad_ hk hp', (H.lt k (H.gb_ hk hp')).2, fun i hi => ?_⟩
    rw [Nat.zero_add]
    obtain ⟨A, c, h1, h2, h3⟩ := h.2 i hi
    exact ⟨A, c, H.elem hk h1, h2, h3.mono hb⟩

def QcRel (w : World) (D : List (List Int)) (T : List Int) (k : Nat) (x5 x7 : Value) (wr : World) : Prop :=
  ∃ (m : Nat) (pre : List Int) (A : Option Addr) (c : Nat), x5 = .slice A (pre ++ rngI m k).length c ∧ x7 = .int .i64 (m : Int) ∧ k + m = D.length ∧ pre.length ≤ m ∧ (∀ x ∈ pre, 0 ≤ x ∧ x < (m : Int)) ∧ Lies wr.heap.size wr A (pre ++ rngI m k) ∧ Below w.heap.size w wr ∧ coreM D k m (pre ++ rngI m k) = T
def QlRel (w : World) (D : List (List Int)) (left less : List Int) (m : Nat) (k : Nat) (x8 x9 x10 : Value) (wr : World) : Prop :=
  ∃ (j : Nat) (a : List Int) (cs : List Value) (v8 v9 : Value), x10 = .int .i64 (j : Int) ∧ x8 = .slice (ad v8) a.length (cp v8) ∧ x9 = .slice (ad v9) (pickR D a).length (cp v9) ∧ k + j = left.length ∧ Holds w.heap.size wr (locs2 (.row v8 3 (ints a)) (.row v9 26 cs)) ∧ Cells w.heap.size wr cs (pickR D a) ∧ Below w.heap.size w wr ∧ a ++ (left.drop j).filter (fun x => decide (x ≠ (m : Int))) = less ∧ a.length ≤ j

set_option maxRecDepth 100000 in
set_option maxHeartbeats 4000000 in
theorem rCore_any {D : List (List Int)} {occ : List Nat} (h : Legal D occ) (hr : refM D = 0) {w : World} {A : Option Addr} {c : Nat} (hA : LiesR w.heap.size w A D) :
    Calls Try.prog 19 #[.slice A D.length c] w (CoreRes D w) := by
  have hD := h.len
  have hD6 : D.length ≤ 60000 := by omega
  have C1 := refCheck_any (c := c) hA (by omega) (fun e he => by have := h.row e he; omega) (fun e he x hx => by have := h.lit e he x hx; omega)
  rw [hr] at C1
  have S1 := Sat_any (cc := c) hD6 (fun e he => by have := h.row e he; omega) (fun e he x hx => ⟨(h.lit e he x hx).1, (h.lit e he x hx).2.1⟩) h.all hA
  have SP : Hid (∀ (ls : List Int) (W : World) (A9 : Option Addr) (c9 : Nat), ls.length ≤ 60 → (∀ x ∈ ls, 0 ≤ x ∧ x < (D.length : Int)) → LiesR W.heap.size W A9 (pickR D ls) → Calls Try.prog 14 #[.slice A9 (pickR D ls).length c9] W fun e w' => e = .returned (.bool (satOf (pickR D ls) [])) ∧ Below W.heap.size W w') := fun ls W A9 c9 h1 h2 h3 => by
    have L := pick_legal h h1 h2
    exact Sat_any (by have := L.len; omega) (fun e he => by have := L.row e he; omega) (fun e he x hx => ⟨(L.lit e he x hx).1, (L.lit e he x hx).2.1⟩) L.all h3
  have LA : Hid _ := hA
  unfold CoreRes
  generalize hTT : coreM D D.length 0 (rngI 0 D.length) = T
  have TH : Hid _ := hTT
  clear hA h hTT hr
  cases hb : satOf D [] with
  | true =>
    rw [hb] at S1
    clear hb SP
    go_enter Try.func19, Try.ntmps19
    go_wp2_with fail
    refine C1.mono ?_
    rintro e w1 ⟨rfl, rfl⟩
    clear C1
    go_wp2_with fail
    refine S1.mono ?_
    rintro e w2 ⟨rfl, B2⟩
    have BE : Hid _ := B2
    clear S1 B2
    go_wp2_with fail
    go_ret2
    exact ⟨BE.out, .inl ⟨by first | rfl | trivial, rfl⟩⟩
  | false =>
    rw [hb] at S1
    clear hb
    go_enter Try.func19, Try.ntmps19
    go_wp2_with fail
    refine C1.mono ?_
    rintro e w1 ⟨rfl, rfl⟩
    clear C1
    go_wp2_with fail
    refine S1.mono ?_
    rintro e w3 ⟨rfl, B3⟩
    have BE : Hid _ := B3
    have start : Hid (RnRel w3.heap.size w3 D.length D.length (.slice none 0 0) (.int .i64 ((0 : Nat) : Int)) w3) :=
      ⟨0, [], .slice none 0 0, rfl, rfl, rfl, nil_put (Holds.nothing _ _) (Nat.le_refl _) (.loc 0) 3, Below.refl _ _, rfl⟩
    clear S1 B3
    go_wp2_with fail
    go_loopg [5, 6] D.length (fun k x5 x6 wr => RnRel w3.heap.size w3 D.length k x5 x6 wr)
    case atStart => exact start.out
    case round =>
      clear start
      obtain ⟨j, acc, v, rfl, rfl, hkj, H, B, hT⟩ := hrel
      by_cases hlt : j < D.length
      · obtain ⟨m, rfl⟩ : ∃ m, gk = m + 1 := ⟨gk - 1, by omega⟩
        have hT2 : Hid ((acc ++ [(j : Int)]) ++ rngI (j + 1) m = rngI 0 D.length) := by
          rw [← hT, List.append_assoc]; rfl
        have hal : acc.length + 1 ≤ 60000 := by
          have := congrArg List.length hT2.out
          rw [rng_len, List.length_append, List.length_append, rng_len] at this
          simp only [List.length_singleton] at this
          omega
        have hbz := B.size
        have LS : Hid _ := H.alloc (.cells #[.int .i64 (j : Int)] 3)
        have BL : Hid _ := B.alloc hbz (.cells #[.int .i64 (j : Int)] 3)
        clear hT H B
        go_wp2_with (at_builtin; refine law_pushAt LS.out (.loc 0) rfl (.tmp 24) (.tmp 26) 26 3 (.int .i64 0) 8 rfl Try.underlying26 info3 rfl (by decide) acc.length (.int .i64 (j : Int)) rfl (ints_length _) rfl wr.heap.size rfl ?hy rfl ?hb ?hl ?_)
        try (case hy => first | exact cell_new _ _ _ _ (by simp) | exact cell_new_drew _ _ _ _ (by simp))
        case hb => simp; omega
        case hl => omega
        intro A3 c3 w6 H6 B6 _
        rw [ints_snoc, upd_locs] at H6
        have H6H : Hid _ := H6
        have B6H : Hid _ := BL.out.trans B6
        clear H6 B6
        go_wp2_with fail
        go_roundg m
        case measure => omega
        case rel => exact ⟨j + 1, acc ++ [(j : Int)], .slice A3 (acc.length + 1) c3, by go_num, by simp [ad, cp], by omega, H6H.out, B6H.out, hT2.out⟩
      · obtain rfl : gk = 0 := by omega
        have hge : decide (j < D.length) = false := decide_eq_false (by omega)
        have hge2 : D.length ≤ j := by omega
        have hacc : acc = rngI 0 D.length := by rw [← hT]; simp [rngI]
        have BW : Hid (Below w1.heap.size w1 wr) := BE.out.trans (B.mono BE.out.size)
        have start2 : Hid (QcRel w1 D T D.length (.slice (ad v) acc.length (cp v)) (.int .i64 ((0 : Nat) : Int)) wr) := ⟨0, [], ad v, cp v, by rw [hacc]; rfl, rfl, rfl, Nat.le_refl _, by simp, by rw [← hacc]; exact row_lies H (k := .loc 0) rfl, BW.out, TH.out⟩
        clear hlt hT H B hacc
        go_wp2_with fail
        go_loopg [5, 7] D.length (fun k x5 x7 wr => QcRel w1 D T k x5 x7 wr)
        case atStart => exact start2.out
        case round =>
          clear start2
          obtain ⟨m, pre, A5, c5, rfl, rfl, hkm, hpm, hpre, HL, B, hT⟩ := hrel
          obtain ⟨u0, rfl⟩ : ∃ u0 : World, u0 = wr := ⟨_, rfl⟩
          cases gk with
          | zero =>
            have e1 : pre ++ rngI m 0 = pre := by simp [rngI]
            rw [e1] at hT HL ⊢
            have e2 : pre = T := hT
            subst e2
            obtain rfl : m = D.length := by omega
            have LF : Hid _ := HL
            have BF : Hid _ := B
            clear HL B hT hpre e1
            go_wp2_with fail
            go_ret2
            exact ⟨BF.out, .inr ⟨by first | rfl | trivial, _, _, rfl, LF.out⟩⟩
          | succ k =>
            unfold coreM at hT
            have FP := filter_pre (k := k) (fun x hx => (hpre x hx).2)
            rw [FP] at hT
            have hll : (pre ++ rngI m (k + 1)).length = pre.length + (k + 1) := by rw [List.length_append, rng_len]
            have hsl : (pre ++ rngI (m + 1) k).length = pre.length + k := by rw [List.length_append, rng_len]
            have PS : Hid ((pre ++ [(m : Int)]) ++ rngI (m + 1) k = pre ++ rngI m (k + 1)) := by rw [List.append_assoc]; rfl
            have PB : Hid (∀ x ∈ pre ++ [(m : Int)], 0 ≤ x ∧ x < ((m + 1 : Nat) : Int)) := fun x hx => by
              rcases List.mem_append.1 hx with z | z
              · have := hpre x z; omega
              · rw [List.mem_singleton] at z; omega
            have SB : Hid (∀ x ∈ pre ++ rngI (m + 1) k, 0 ≤ x ∧ x < (D.length : Int)) := fun x hx => by
              rcases List.mem_append.1 hx with z | z
              · have := hpre x z; omega
              · have := rng_mem _ _ _ z; omega
            have LB : Hid (∀ x ∈ pre ++ rngI m (k + 1), 0 ≤ x ∧ x < (D.length : Int)) := fun x hx => by
              rcases List.mem_append.1 hx with z | z
              · have := hpre x z; omega
              · have := rng_mem _ _ _ z; omega
            have PB0 : Hid (∀ x ∈ pre, 0 ≤ x ∧ x < ((m + 1 : Nat) : Int)) := fun x hx => by have := hpre x hx; omega
            generalize hleft : pre ++ rngI m (k + 1) = left at *
            generalize hless : pre ++ rngI (m + 1) k = less at *
            have HLS : Hid _ := hless
            have HLh : Hid _ := HL
            have Bh : Hid _ := B
            have HT : Hid _ := hT
            have hm9 : (m : Int) < (D.length : Int) := by omega
            have hp60 : pre.length ≤ 60 := by omega
            have hs60 : less.length ≤ 60 := by omega
            have hl60 : left.length ≤ 60 := by omega
            have start3 : Hid (QlRel u0 D left less m left.length (.slice none 0 0) (.slice none 0 0) (.int .i64 ((0 : Nat) : Int)) u0) :=
              ⟨0, [], [], .slice none 0 0, .slice none 0 0, rfl, rfl, rfl, by omega, nil2 u0 3 26, ⟨rfl, fun i hi => absurd hi (Nat.not_lt_zero _)⟩, Below.refl _ _, by simpa using FP, Nat.le_refl _⟩
            clear HL B hT hpre hleft hless hll hsl FP
            go_wp2_with fail
            go_loopg [8, 9, 10] left.length (fun kk x8 x9 x10 w' => QlRel u0 D left less m kk x8 x9 x10 w')
            case atStart => exact start3.out
            case round =>
              clear start3
              obtain ⟨j, a, cs, v8, v9, rfl, rfl, rfl, hkj, H, CC, B, hT, haj⟩ := hrel
              by_cases hlt : j < left.length
              · have BW := Bh.out.trans (B.mono Bh.out.size)
                obtain ⟨b1, o1, rfl, hb1, hc1⟩ := lies_at HLh.out hlt
                have e1 := hc1 j hlt
                have hxm := LB.out _ (row_ne left 0 hlt)
                have hd : left.drop j = left.getD j 0 :: left.drop (j + 1) := by
                  rw [List.drop_eq_getElem_cons hlt]; simp [hlt]
                rw [hd] at hT
                generalize left.getD j 0 = x at *
                obtain ⟨xn, rfl⟩ := Int.eq_ofNat_of_zero_le hxm.1
                have hxl : xn < D.length := by omega
                have ex1 : wr.cell? ⟨b1, o1 + j, none⟩ = some (.int .i64 (xn : Int)) := (World.cell?_of_block (a := ⟨b1, o1 + j, none⟩) (B.block b1 hb1)).trans e1
                by_cases hxe : xn = m
                · subst hxe
                  have g0 : ((xn : Int) != (xn : Int)) = false := by simp
                  rw [List.filter_cons_of_neg (by simp)] at hT
                  have TH2 : Hid _ := hT
                  have HH : Hid _ := H
                  have CH : Hid (Cells u0.heap.size wr cs (pickR D a)) := CC
                  have BH : Hid _ := B
                  clear hd hc1 hT H CC B BW e1
                  go_wp2_with fail
                  go_roundg (gk - 1)
                  case measure => omega
                  case rel => exact ⟨j + 1, a, cs, v8, v9, by go_num, rfl, rfl, by omega, HH.out, CH.out, BH.out, TH2.out, by omega⟩
                · have g0 : ((xn : Int) != (m : Int)) = true := by simp; omega
                  rw [List.filter_cons_of_pos (by simp; omega)] at hT
                  have hT2 : Hid ((a ++ [(xn : Int)]) ++ (left.drop (j + 1)).filter (fun x => decide (x ≠ (m : Int))) = less) := by
                    rw [← hT, List.append_assoc]; rfl
                  obtain ⟨b2, o2, rfl, hb2, hc2⟩ := liesR_at (LiesR.below LA.out BW) hxl
                  obtain ⟨A', c', e2, hc', hli⟩ := hc2 xn hxl
                  have hpk : pickR D (a ++ [(xn : Int)]) = pickR D a ++ [D.getD xn []] := by simp [pickR]
                  generalize D.getD xn [] = el at *
                  have hws : w1.heap.size ≤ u0.heap.size := Bh.out.size
                  have hbz := B.size
                  have NX : Hid (Cells u0.heap.size wr (cs ++ [.slice A' el.length c']) (pickR D a ++ [el])) := CC.snoc hc' (hli.mono hws)
                  have hcsl : cs.length = (pickR D a).length := CC.1
                  have hel : (pickR D a).length + 1 ≤ 60000 := by unfold pickR; rw [List.length_map]; omega
                  generalize pickR D a = E at *
                  have HPK : Hid _ := hpk
                  have LS : Hid _ := H.alloc (.cells #[.int .i64 (xn : Int)] 3)
                  have BL : Hid _ := B.alloc hbz (.cells #[.int .i64 (xn : Int)] 3)
                  have BLr : Hid _ := (Below.refl wr.heap.size wr).alloc (Nat.le_refl _) (.cells #[.int .i64 (xn : Int)] 3)
                  have hal : a.length + 1 ≤ 60000 := by omega
                  have X1 : Hid (∀ W, Below u0.heap.size u0 W → W.cell? ⟨b1, o1 + j, none⟩ = some (.int .i64 (xn : Int))) := fun W hW => (World.cell?_of_block (a := ⟨b1, o1 + j, none⟩) (hW.block b1 hb1)).trans e1
                  have X2 : Hid (∀ W, Below u0.heap.size wr W → W.cell? ⟨b2, o2 + xn, none⟩ = some (.slice A' el.length c')) := fun W hW => (World.cell?_of_block (a := ⟨b2, o2 + xn, none⟩) (hW.block b2 (by omega))).trans e2
                  clear hd hc1 hT H CC B BW e1 hc2 hli hxm hpk
                  go_wp2_with (at_builtin; refine law_pushAt LS.out (.loc 0) rfl (.tmp 46) (.tmp 51) 26 3 (.int .i64 0) 8 rfl Try.underlying26 info3 rfl (by decide) a.length (.int .i64 (xn : Int)) rfl (ints_length _) rfl wr.heap.size rfl ?hy rfl ?hb ?hl ?_)
                  try (case hy => first | exact cell_new _ _ _ _ (by simp) | exact cell_new_drew _ _ _ _ (by simp))
                  case hb => simp; omega
                  case hl => omega
                  intro A3 c3 w6 H6 B6 _
                  rw [ints_snoc, upd_locs2_0] at H6
                  have B6u : Hid (Below u0.heap.size u0 w6) := BL.out.trans B6
                  have B6r : Hid (Below u0.heap.size wr w6) := ((Below.refl u0.heap.size wr).alloc hbz _).trans B6
                  have ex2 := X1.out w6 B6u.out
                  have ex3 := X2.out w6 B6r.out
                  have hbz6 := B6u.out.size
                  have LS2 : Hid _ := H6.alloc (.cells #[.slice A' el.length c'] 26)
                  have BL2 : Hid _ := B6u.out.alloc hbz6 (.cells #[.slice A' el.length c'] 26)
                  clear H6 B6 ex1 e2 LS BL BLr
                  go_wp2_with (at_builtin; refine law_pushAt LS2.out (.loc 1) rfl (.tmp 53) (.tmp 61) 22 26 (.slice none 0 0) 24 rfl Try.underlying22 info26 rfl (by decide) E.length (.slice A' el.length c') rfl hcsl rfl w6.heap.size rfl ?hy rfl ?hb ?hl ?_)
                  try (case hy => first | exact cell_new _ _ _ _ (by simp) | exact cell_new_drew _ _ _ _ (by simp))
                  case hb => simp; omega
                  case hl => omega
                  intro A4 c4 w7 H7 B7 _
                  rw [upd_locs2_1] at H7
                  have H7h : Hid _ := H7
                  have B7h : Hid _ := BL2.out.trans B7
                  have C7 : Hid (Cells u0.heap.size w7 (cs ++ [.slice A' el.length c']) (E ++ [el])) := Cells.below NX.out (B6r.out.trans (((Below.refl u0.heap.size w6).alloc hbz6 _).trans B7))
                  clear H7 B7 ex2 ex3 LS2 BL2
                  go_wp2_with fail
                  go_roundg (gk - 1)
                  case measure => omega
                  case rel => exact ⟨j + 1, a ++ [(xn : Int)], cs ++ [.slice A' el.length c'], .slice A3 (a.length + 1) c3, .slice A4 (E.length + 1) c4, by go_num, by simp [ad, cp], by rw [HPK.out]; simp [ad, cp], by omega, H7h.out, by rw [HPK.out]; exact C7.out, B7h.out, hT2.out, by simp; omega⟩
              · have hge : decide (j < left.length) = false := decide_eq_false (by omega)
                have hge2 : left.length ≤ j := by omega
                have hnil : left.drop j = [] := List.drop_eq_nil_of_le hge2
                rw [hnil] at hT
                have hE : a = less := by rw [← hT]; simp
                subst hE
                have SC := SP.out a wr (ad v9) (cp v9) hs60 SB.out (cellsL_liesR H (k := .loc 1) rfl CC B.size)
                have LL8 : Hid (Lies wr.heap.size wr (ad v8) a) := row_lies H (k := .loc 0) rfl
                have B5h : Hid _ := B
                have hT9 := HT.out
                clear hT hnil hlt H CC B
                cases hsat : satOf (pickR D a) [] with
                | true =>
                  rw [hsat, if_pos rfl] at hT9
                  rw [hsat] at SC
                  have T9 : Hid _ := hT9
                  clear hsat hT9 HT
                  go_wp2_with fail
                  refine SC.mono ?_
                  rintro e w7 ⟨rfl, B7⟩
                  have B57 : Hid _ := B5h.out.trans (B7.mono B5h.out.size)
                  have BF : Hid _ := Bh.out.trans (B57.out.mono Bh.out.size)
                  have LG : Hid _ := Lies.mono (Lies.below HLh.out B57.out) B57.out.size
                  clear SC B7
                  go_wp2_with fail
                  go_roundg k
                  case measure => omega
                  case rel => exact ⟨m + 1, pre ++ [(m : Int)], A5, c5, by rw [PS.out], by go_num, by omega, by simp; omega, PB.out, by rw [PS.out]; exact LG.out, BF.out, by rw [PS.out]; exact T9.out⟩
                | false =>
                  rw [hsat, if_neg (by simp)] at hT9
                  rw [hsat] at SC
                  have T9 : Hid _ := hT9
                  clear hsat hT9 HT
                  go_wp2_with fail
                  refine SC.mono ?_
                  rintro e w7 ⟨rfl, B7⟩
                  have B57 : Hid _ := B5h.out.trans (B7.mono B5h.out.size)
                  have BF : Hid _ := Bh.out.trans (B57.out.mono Bh.out.size)
                  have LG : Hid _ := Lies.mono (Lies.below LL8.out B7) B7.size
                  clear SC B7
                  go_wp2_with fail
                  go_roundg k
                  case measure => omega
                  case rel => exact ⟨m + 1, pre, ad v8, cp v8, by rw [HLS.out], by go_num, by omega, by omega, PB0.out, by rw [HLS.out]; exact LG.out, BF.out, by rw [HLS.out]; exact T9.out⟩

set_option maxRecDepth 100000 in
set_option maxHeartbeats 4000000 in
theorem coreLaw_any {w : World} {A : Option Addr} {D : List (List Int)} {c : Nat} (hA : LiesR w.heap.size w A D) (hn : D.length ≤ 9223372036854775807) (hm : ∀ e ∈ D, e.length ≤ 9223372036854775807) (hw : ∀ e ∈ D, ∀ x ∈ e, -9223372036854775808 ≤ x ∧ x ≤ 9223372036854775807) :
    Calls Try.prog 5 #[.slice A D.length c] w fun e w' => e = .returned (.bool true) ∧ Below w.heap.size w w' := by
  have LI := light_any (c := c) hA hn
  have RC := refCheck_any (c := c) hA hn hm hw
  by_cases hl : lightM D = true
  · rw [hl] at LI
    by_cases h20 : D.length ≤ 20
    · have q20 : ((D.length : Nat) : Int) ≤ 20 := by omega
      by_cases hr : refM D = 0
      · rw [hr] at RC
        have lit := lit_of_ref hr
        have hsmall : D.length ≤ 60 ∧ ∀ e ∈ D, e.length ≤ 12 := by
          unfold lightM at hl
          rw [Bool.and_eq_true] at hl
          exact ⟨of_decide_eq_true hl.1, fun e he => of_decide_eq_true (List.all_eq_true.1 hl.2 e he)⟩
        have hall : (absAll D).length ≤ 60000 := by
          have h1 := absAll_len D 12 hsmall.2
          have h2 := Nat.mul_le_mul_right 12 hsmall.1
          omega
        have RV := refVars_any (cc := c) (Nat.le_refl _) hA (by omega) (fun i hi => by have := hsmall.2 _ (row_ne D [] hi); omega) hall (fun e he x hx => by have := lit e he x hx; omega)
        by_cases hv : 10 < (refVars D).length
        · have g1 : (10 : Int) < ((refVars D).length : Int) := by omega
          clear hA hw hm hl hr lit hsmall hall
          go_enter Try.func5, Try.ntmps5
          go_wp2_with fail
          refine LI.mono ?_
          rintro e w' ⟨rfl, rfl⟩
          clear LI
          go_wp2_with fail
          refine RC.mono ?_
          rintro e w'' ⟨rfl, rfl⟩
          clear RC
          go_wp2_with fail
          refine RV.mono ?_
          rintro e w1 ⟨v', rfl, B1, H1⟩
          have BH : Hid _ := B1
          clear RV B1 H1
          go_wp2_with fail
          refine (sane_any _).mono ?_
          rintro e w2 ⟨rfl, B2⟩
          have BE : Hid _ := BH.out.trans (B2.mono BH.out.size)
          clear B2
          go_wp2_with fail
          go_ret
          exact ⟨rfl, BE.out⟩
        · have g1 : ((refVars D).length : Int) ≤ 10 := by omega
          have LG := legal_of hl hr (by omega)
          have P1 : Hid (∀ W, Below w.heap.size w W → Calls Try.prog 18 #[.slice A D.length c, .int .i64 1000000] W (CoreRes D W)) := fun W B => pCore_any LG ((hA.below B).mono B.size)
          have P2 : Hid (∀ W, Below w.heap.size w W → Calls Try.prog 19 #[.slice A D.length c] W (CoreRes D W)) := fun W B => rCore_any LG hr ((hA.below B).mono B.size)
          clear hA hw hm hl hr lit hsmall hall hv LG
          unfold CoreRes at P1 P2
          have hTl : (coreM D D.length 0 (rngI 0 D.length)).length ≤ 9223372036854775807 := by
            have := core_len D D.length 0 (rngI 0 D.length)
            rw [rng_len] at this
            omega
          generalize coreM D D.length 0 (rngI 0 D.length) = T at *
          cases hs : satOf D [] with
          | true =>
            rw [hs] at P1 P2
            clear hs
            have N0 : Hid (∀ W : World, Calls Try.prog 17 #[.slice none 0 0, .slice none 0 0] W fun e w' => e = .returned (.bool true) ∧ Below W.heap.size W w') := fun W => by
              have := numbers_any (w := W) (A := none) (B := none) (xs := []) (ys := []) (c := 0) (d := 0) (.inl rfl) (.inl rfl) (by decide) (by decide)
              rwa [show numbersM [] [] = true from rfl] at this
            go_enter Try.func5, Try.ntmps5
            go_wp2_with fail
            refine LI.mono ?_
            rintro e w' ⟨rfl, rfl⟩
            clear LI
            go_wp2_with fail
            refine RC.mono ?_
            rintro e w'' ⟨rfl, rfl⟩
            clear RC
            go_wp2_with fail
            refine RV.mono ?_
            rintro e w1 ⟨v', rfl, B1, H1⟩
            have p1 := P1.out w1 B1
            have BH : Hid _ := B1
            clear RV B1 H1 P1
            go_wp2_with fail
            refine p1.mono ?_
            rintro e w3 ⟨B3, ⟨_, rfl⟩ | ⟨hh, _⟩⟩
            rotate_left
            · cases hh
            have B03 : Hid _ := BH.out.trans (B3.mono BH.out.size)
            have p2 := P2.out w3 B03.out
            clear p1 B3 P2
            go_wp2_with fail
            refine p2.mono ?_
            rintro e w4 ⟨B4, ⟨_, rfl⟩ | ⟨hh, _⟩⟩
            rotate_left
            · cases hh
            have B04 : Hid _ := B03.out.trans (B4.mono B03.out.size)
            have n0 := N0.out w4
            clear p2 B4 N0
            go_wp2_with fail
            refine n0.mono ?_
            rintro e w5 ⟨rfl, B5⟩
            have B05 : Hid _ := B04.out.trans (B5.mono B04.out.size)
            clear n0 B5
            go_wp2_with fail
            refine (sane_any _).mono ?_
            rintro e w2 ⟨rfl, B2⟩
            have BE : Hid _ := B05.out.trans (B2.mono B05.out.size)
            clear B2
            go_wp2_with fail
            go_ret
            exact ⟨rfl, BE.out⟩
          | false =>
            rw [hs] at P1 P2
            clear hs
            go_enter Try.func5, Try.ntmps5
            go_wp2_with fail
            refine LI.mono ?_
            rintro e w' ⟨rfl, rfl⟩
            clear LI
            go_wp2_with fail
            refine RC.mono ?_
            rintro e w'' ⟨rfl, rfl⟩
            clear RC
            go_wp2_with fail
            refine RV.mono ?_
            rintro e w1 ⟨v', rfl, B1, H1⟩
            have p1 := P1.out w1 B1
            have BH : Hid _ := B1
            clear RV B1 H1 P1
            go_wp2_with fail
            refine p1.mono ?_
            rintro e w3 ⟨B3, ⟨hh, _⟩ | ⟨_, A6, c6, rfl, L6⟩⟩
            · cases hh
            have B03 : Hid _ := BH.out.trans (B3.mono BH.out.size)
            have p2 := P2.out w3 B03.out
            have L6h : Hid _ := L6
            clear p1 B3 P2 L6
            go_wp2_with fail
            refine p2.mono ?_
            rintro e w4 ⟨B4, ⟨hh, _⟩ | ⟨_, A7, c7, rfl, L7⟩⟩
            · cases hh
            have B04 : Hid _ := B03.out.trans (B4.mono B03.out.size)
            have n0 := numbers_any (w := w4) (c := c6) (d := c7) (Lies.mono (Lies.below L6h.out B4) B4.size) L7 hTl hTl
            rw [show numbersM T T = true from decide_eq_true rfl] at n0
            clear p2 B4 L7
            go_wp2_with fail
            refine n0.mono ?_
            rintro e w5 ⟨rfl, B5⟩
            have B05 : Hid _ := B04.out.trans (B5.mono B04.out.size)
            clear n0 B5
            go_wp2_with fail
            refine (sane_any _).mono ?_
            rintro e w2 ⟨rfl, B2⟩
            have BE : Hid _ := B05.out.trans (B2.mono B05.out.size)
            clear B2
            go_wp2_with fail
            go_ret
            exact ⟨rfl, BE.out⟩
      · have g1 : (refM D != 0) = true := by simp [hr]
        clear hA hw hm hl hr
        generalize refM D = r at *
        go_enter Try.func5, Try.ntmps5
        go_wp2_with fail
        refine LI.mono ?_
        rintro e w' ⟨rfl, rfl⟩
        clear LI
        go_wp2_with fail
        refine RC.mono ?_
        rintro e w'' ⟨rfl, rfl⟩
        clear RC
        go_wp2_with fail
        refine (sane_any _).mono ?_
        rintro e w2 ⟨rfl, B2⟩
        have BE : Hid _ := B2
        clear B2
        go_wp2_with fail
        go_ret
        exact ⟨rfl, BE.out⟩
    · have q20 : (20 : Int) < ((D.length : Nat) : Int) := by omega
      clear hA hw hm hl RC h20
      go_enter Try.func5, Try.ntmps5
      go_wp2_with fail
      refine LI.mono ?_
      rintro e w' ⟨rfl, rfl⟩
      clear LI
      go_wp2_with fail
      refine (sane_any _).mono ?_
      rintro e w2 ⟨rfl, B2⟩
      have BE : Hid _ := B2
      clear B2
      go_wp2_with fail
      go_ret
      exact ⟨rfl, BE.out⟩
  · have hlf : lightM D = false := by simpa using hl
    rw [hlf] at LI
    clear hA hw hm hl RC hlf
    go_enter Try.func5, Try.ntmps5
    go_wp2_with fail
    refine LI.mono ?_
    rintro e w' ⟨rfl, rfl⟩
    clear LI
    go_wp2_with fail
    refine (sane_any _).mono ?_
    rintro e w2 ⟨rfl, B2⟩
    have BE : Hid _ := B2
    clear B2
    go_wp2_with fail
    go_ret
    exact ⟨rfl, BE.out⟩
end Go.Proofs.Ytdllaphnkbnpoaa
