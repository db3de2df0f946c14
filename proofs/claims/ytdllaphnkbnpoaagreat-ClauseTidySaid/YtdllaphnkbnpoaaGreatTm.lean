/- Walks for ClauseTidy: Count of the reference. -/
import Derived.Test.YtdllaphnkbnpoaaGreatTl
namespace Go.Proofs.YtdllaphnkbnpoaaGreat
open Go.RowKit Go.Proofs

def assignP (vs : List Int) (b n : Nat) : List Int := (List.range n).map fun i => if b / 2 ^ i % 2 = 1 then vs.getD i 0 else -vs.getD i 0
theorem assignP_succ (vs : List Int) (b n : Nat) : assignP vs b (n + 1) = assignP vs b n ++ [if b / 2 ^ n % 2 = 1 then vs.getD n 0 else -vs.getD n 0] := by
  unfold assignP
  rw [List.range_succ, List.map_append]; rfl
theorem assignP_len (vs : List Int) (b n : Nat) : (assignP vs b n).length = n := by simp [assignP]
theorem bit_and (b i : Nat) : b &&& 2 ^ i = if b / 2 ^ i % 2 = 1 then 2 ^ i else 0 := by
  apply Nat.eq_of_testBit_eq
  intro j
  rw [Nat.testBit_and, Nat.testBit_two_pow]
  by_cases hb : b / 2 ^ i % 2 = 1
  · rw [if_pos hb, Nat.testBit_two_pow]
    by_cases hij : i = j
    · subst hij; simp [Nat.testBit_eq_decide_div_mod_eq, hb]
    · simp [hij]
  · rw [if_neg hb]
    by_cases hij : i = j
    · subst hij; simp [Nat.testBit_eq_decide_div_mod_eq, hb]
    · simp [hij]

def Cr1Rel (base : Nat) (w : World) (D : List (List Int)) (vs : List Int) (N : Nat) (k : Nat) (x6 x7 : Value) (wr : World) : Prop :=
  ∃ b : Nat, x7 = .int .i64 (b : Int) ∧ x6 = .int .i64 ((countN D vs b : Nat) : Int) ∧ k + b = N ∧ Below base w wr
def Cr2Rel (base : Nat) (w : World) (vs : List Int) (b : Nat) (k : Nat) (x8 x9 : Value) (wr : World) : Prop :=
  ∃ (i : Nat) (acc : List Int) (v : Value), x9 = .int .i64 (i : Int) ∧ x8 = .slice (ad v) acc.length (cp v) ∧ k + i = vs.length ∧ acc = assignP vs b i ∧ Holds base wr (locs (.row v 3 (ints acc))) ∧ Below base w wr

set_option maxRecDepth 100000 in
set_option maxHeartbeats 4000000 in
theorem rCount_any {w : World} {A : Option Addr} {D : List (List Int)} {c : Nat} (h : LiesR w.heap.size w A D) (hn : D.length ≤ 9223372036854775807) (hm : ∀ e ∈ D, e.length ≤ 9223372036854775807) (hw : ∀ e ∈ D, ∀ x ∈ e, -9223372036854775808 ≤ x ∧ x ≤ 9223372036854775807) :
    Calls Tryz.prog 12 #[.slice A D.length c] w (ResN (countM D) w) := by
  have C1 := refCheck_any (c := c) h hn hm hw
  unfold countM
  by_cases hr : refM D = 0
  · rw [if_neg (by simp [hr])]
    rw [hr] at C1
    have d6 : D.length ≤ 600 := by
      unfold refM at hr
      split at hr
      · omega
      · omega
    have dr : ∀ e ∈ D, e.length ≤ 30 := by
      unfold refM at hr
      split at hr
      · omega
      · split at hr
        · omega
        · rename_i q
          have q : (D.all fun c => decide (c.length ≤ 30)) = true := by simpa using q
          intro e he
          have := List.all_eq_true.1 q e he
          simpa using this
    have dl : ∀ e ∈ D, ∀ x ∈ e, x ≠ 0 ∧ x.natAbs ≤ 200 := lit_of_ref hr
    have dal : (absAll D).length ≤ 60000 := by
      have h1 := absAll_len D 30 dr
      have h2 : D.length * 30 ≤ 600 * 30 := Nat.mul_le_mul_right _ d6
      omega
    have CV : Calls Tryz.prog 5 #[.slice A D.length c] w fun e w' => ∃ v', e = .returned (.slice (ad v') (refVars D).length (cp v')) ∧ Below w.heap.size w w' ∧ Holds w.heap.size w' (locs (.row v' 3 (ints (refVars D)))) :=
      refVars_any (Nat.le_refl _) h (by omega) (fun i hi => by have := dr _ (row_ne D [] hi); omega) dal (fun e he x hx => by have := dl e he x hx; omega)
    have VP : Hid (∀ v ∈ refVars D, 0 < v ∧ v ≤ 200) := fun v hv => by
      obtain ⟨e, he, x, hx, rfl⟩ := refVars_mem.1 hv
      have := dl e he x hx
      omega
    have LA : Hid _ := h
    have DR : Hid _ := dr
    clear h hm hw hr dr dl dal
    generalize refVars D = vs at *
    by_cases hv : 16 < vs.length
    · rw [if_pos hv]
      have g1 : (16 : Int) < (vs.length : Int) := by omega
      clear hv VP LA DR
      go_enter Tryz.func12, Tryz.ntmps12
      go_wp2_with fail
      refine C1.mono ?_
      rintro e w1 ⟨rfl, rfl⟩
      clear C1
      go_wp2_with fail
      refine CV.mono ?_
      rintro e w2 ⟨v', rfl, B2, H2⟩
      have BF : Hid _ := B2
      clear CV B2 H2
      go_wp2_with fail
      go_ret2
      exact ⟨rfl, BF.out⟩
    · rw [if_neg hv]
      have g1 : decide ((16 : Int) < (vs.length : Int)) = false := decide_eq_false (by omega)
      have g2 : (vs.length : Int) ≤ 16 := by omega
      obtain ⟨N, hN⟩ : ∃ N, N = 2 ^ vs.length := ⟨_, rfl⟩
      have hN6 : N ≤ 65536 := by
        rw [hN]
        exact Nat.le_trans (Nat.pow_le_pow_right (by omega) (show vs.length ≤ 16 by omega)) (by decide)
      have HPN : Hid (wrap64 ((2 : Int) ^ vs.length) = (N : Int)) := by
        have e1 : ((2 : Int) ^ vs.length) = (N : Int) := by rw [hN]; simp
        show wrap64 _ = _
        rw [e1]
        unfold wrap64; omega
      rw [← hN]
      clear hv hN
      go_enter Tryz.func12, Tryz.ntmps12
      go_wp2_with fail
      refine C1.mono ?_
      rintro e w1 ⟨rfl, rfl⟩
      clear C1
      go_wp2_with fail
      refine CV.mono ?_
      rintro e w2 ⟨v', rfl, B2, H2⟩
      have LV : Hid _ := row_lies H2 (k := .loc 0) rfl
      have LD : Hid _ := (LiesR.below LA.out B2).mono B2.size
      have B2h : Hid _ := B2
      clear CV B2 H2 LA
      generalize ad v' = Av at *
      generalize cp v' = cw at *
      obtain ⟨base, hbase⟩ : ∃ base, base = w2.heap.size := ⟨_, rfl⟩
      rw [← hbase] at LV LD
      have HB : Hid _ := hbase
      have start : Hid (Cr1Rel base w2 D vs N N (.int .i64 ((0 : Nat) : Int)) (.int .i64 ((0 : Nat) : Int)) w2) := ⟨0, rfl, rfl, by omega, by rw [hbase]; exact Below.refl _ _⟩
      clear hbase
      go_wp2_with fail
      go_loopg [6, 7] N (fun k x6 x7 wr => Cr1Rel base w2 D vs N k x6 x7 wr)
      case atStart => exact start.out
      case round =>
        clear start
        obtain ⟨b, rfl, rfl, hkb, B⟩ := hrel
        have hbz : base ≤ wr.heap.size := by have := B.size; have := HB.out; omega
        have hcl := countN_le D vs b
        have hpn := HPN.out
        by_cases hlt : b < N
        · obtain ⟨m, rfl⟩ : ∃ m, gk = m + 1 := ⟨gk - 1, by omega⟩
          have start2 : Hid (Cr2Rel base w2 vs b vs.length (.slice none 0 0) (.int .i64 ((0 : Nat) : Int)) wr) := ⟨0, [], .slice none 0 0, rfl, rfl, by omega, rfl, nil_put (Holds.nothing _ _) hbz (.loc 0) 3, B⟩
          have CS : Hid (countN D vs (b + 1) = countN D vs b + (if holdsM D (assignL vs b) = true then 1 else 0)) := countN_succ D vs b
          clear B
          generalize countN D vs b = cn at *
          go_wp2_with fail
          clear hpn
          go_loopg [8, 9] vs.length (fun k x8 x9 w' => Cr2Rel base w2 vs b k x8 x9 w')
          case atStart => exact start2.out
          case round =>
            clear start2
            obtain ⟨i, acc, v, rfl, rfl, hki, hacc, H, B⟩ := hrel
            have hbz : base ≤ wr.heap.size := by have := B.size; have := HB.out; omega
            have hal : acc.length = i := by rw [hacc]; exact assignP_len _ _ _
            by_cases hlt2 : i < vs.length
            · obtain ⟨p1, o1, rfl, hpp, hcell⟩ := lies_at (Lies.below LV.out B) hlt2
              have e1 := hcell i hlt2
              obtain ⟨hx0, hx1⟩ := VP.out _ (row_ne vs 0 hlt2)
              have hsucc := assignP_succ vs b i
              rw [← hacc] at hsucc
              generalize vs.getD i 0 = x at *
              obtain ⟨pw, hpw⟩ : ∃ pw, pw = 2 ^ i := ⟨_, rfl⟩
              have hp6 : pw ≤ 65536 := by
                rw [hpw]
                exact Nat.le_trans (Nat.pow_le_pow_right (by omega) (show i ≤ 16 by omega)) (by decide)
              have hp0 : 0 < pw := by rw [hpw]; exact Nat.pow_pos (by omega)
              have hpz : Hid (((pw : Int) != 0) = true) := by
                have : (pw : Int) ≠ 0 := by omega
                have h9 : ((pw : Int) != 0) = true := by rw [bne_iff_ne]; exact this
                exact h9
              have hb64 : (i : Int) ≤ 64 := by omega
              have hsh : wrap64 ((2 : Int) ^ i) = (pw : Int) := by
                have e1 : ((2 : Int) ^ i) = (pw : Int) := by rw [hpw]; simp
                rw [e1]
                unfold wrap64; omega
              have hba : b &&& pw = if b / 2 ^ i % 2 = 1 then pw else 0 := by rw [hpw]; exact bit_and b i
              clear hpw
              have hb2 : b < 9223372036854775808 := Nat.lt_of_le_of_lt (show b ≤ 65536 by omega) (by decide)
              have hp2 : pw < 9223372036854775808 := Nat.lt_of_le_of_lt hp6 (by decide)
              have hand := bits_and_i64_nat b pw hb2 hp2
              rw [hba] at hand
              clear hba hb2 hp2
              have HSH : Hid _ := hsh
              have HAND : Hid _ := hand
              have HAL : Hid _ := hal
              have hal6 : acc.length ≤ 16 := by omega
              clear hsh hand hal
              by_cases hq : b / 2 ^ i % 2 = 1
              · have hand := HAND.out
                rw [if_pos hq] at hand hsucc
                have HAND2 : Hid _ := hand
                clear hand HAND
                have SC : Hid _ := hsucc
                have LS : Hid _ := H.alloc (.cells #[.int .i64 x] 3)
                have BL : Hid _ := B.alloc hbz (.cells #[.int .i64 x] 3)
                have hbz2 : base ≤ (wr.alloc (.cells #[.int .i64 x] 3)).heap.size := by rw [size_alloc]; omega
                clear hsucc hq hcell H B hacc
                have hsh := HSH.out
                have hand := HAND2.out
                have g9 := hpz.out
                go_wp2_with (at_builtin; refine law_pushAt LS.out (.loc 0) rfl (.tmp 38) (.tmp 43) 23 3 (.int .i64 0) 8 rfl Tryz.underlying23 info3 rfl (by decide) acc.length (.int .i64 x) rfl (ints_length _) rfl wr.heap.size rfl ?hy rfl ?hb ?hl ?_)
                try (case hy => first | exact cell_new _ _ _ _ (by simp) | exact cell_new_drew _ _ _ _ (by simp))
                case hb => exact hbz2
                case hl => clear hsh hand; omega
                intro A5 c5 w7 H8 B8 _
                rw [ints_snoc, upd_locs] at H8
                have H8h : Hid _ := H8
                have B8h : Hid _ := BL.out.trans B8
                clear H8 B8 hsh hand
                go_wp2_with fail
                go_roundg (gk - 1)
                case measure => omega
                case rel => exact ⟨i + 1, acc ++ [x], .slice A5 (acc.length + 1) c5, by go_num, by simp [ad, cp], by omega, SC.out.symm, H8h.out, B8h.out⟩
              · have hand := HAND.out
                rw [if_neg hq] at hand hsucc
                have HAND2 : Hid _ := hand
                clear hand HAND
                have SC : Hid _ := hsucc
                have LS : Hid _ := H.alloc (.cells #[.int .i64 (-x)] 3)
                have BL : Hid _ := B.alloc hbz (.cells #[.int .i64 (-x)] 3)
                have hbz2 : base ≤ (wr.alloc (.cells #[.int .i64 (-x)] 3)).heap.size := by rw [size_alloc]; omega
                clear hsucc hq hcell H B hacc
                have hsh := HSH.out
                have hand := HAND2.out
                go_wp2_with (at_builtin; refine law_pushAt LS.out (.loc 0) rfl (.tmp 45) (.tmp 51) 23 3 (.int .i64 0) 8 rfl Tryz.underlying23 info3 rfl (by decide) acc.length (.int .i64 (-x)) rfl (ints_length _) rfl wr.heap.size rfl ?hy rfl ?hb ?hl ?_)
                try (case hy => first | exact cell_new _ _ _ _ (by simp) | exact cell_new_drew _ _ _ _ (by simp))
                case hb => exact hbz2
                case hl => clear hsh hand; omega
                intro A5 c5 w7 H8 B8 _
                rw [ints_snoc, upd_locs] at H8
                have H8h : Hid _ := H8
                have B8h : Hid _ := BL.out.trans B8
                clear H8 B8 hsh hand
                go_wp2_with fail
                go_roundg (gk - 1)
                case measure => omega
                case rel => exact ⟨i + 1, acc ++ [-x], .slice A5 (acc.length + 1) c5, by go_num, by simp [ad, cp], by omega, SC.out.symm, H8h.out, B8h.out⟩
            · have hge : decide (i < vs.length) = false := decide_eq_false (by omega)
              have hge2 : vs.length ≤ i := by omega
              have hacc2 : acc = assignL vs b := by
                have : i = vs.length := by omega
                rw [hacc, this]; rfl
              have HO := holds_any (w := wr) (base := wr.heap.size) (c := c) (c2 := cp v) ((LiesR.below LD.out B).mono hbz) (row_lies H (k := .loc 0) rfl) (by omega) (fun e he => by have := DR.out e he; omega) (by omega)
              rw [hacc2] at HO
              have cs := CS.out
              generalize assignL vs b = al at *
              have BH : Hid _ := B
              subst hacc2
              clear hacc hlt2 H B CS hal
              cases hh : holdsM D acc with
              | true =>
                rw [hh] at HO cs
                have CS1 : countN D vs (b + 1) = cn + 1 := by rw [cs]; simp
                have CS2 : Hid _ := CS1
                clear CS1 cs hh
                go_wp2_with fail
                refine HO.mono ?_
                rintro e w6 ⟨rfl, rfl⟩
                clear HO
                go_wp2_with fail
                go_roundg m
                case measure => omega
                case rel => exact ⟨b + 1, by go_num, by rw [CS2.out]; go_num, by omega, BH.out⟩
              | false =>
                rw [hh] at HO cs
                have CS1 : countN D vs (b + 1) = cn := by rw [cs]; simp
                have CS2 : Hid _ := CS1
                clear CS1 cs hh
                go_wp2_with fail
                refine HO.mono ?_
                rintro e w6 ⟨rfl, rfl⟩
                clear HO
                go_wp2_with fail
                go_roundg m
                case measure => omega
                case rel => exact ⟨b + 1, by go_num, by rw [CS2.out], by omega, BH.out⟩
        · obtain rfl : b = N := by omega
          have hge : decide (b < b) = false := decide_eq_false (by omega)
          have BE : Hid _ := B
          clear B hlt
          go_wp2_with fail
          go_ret2
          exact ⟨rfl, by have := BE.out; rw [HB.out] at this; exact B2h.out.trans (this.mono B2h.out.size)⟩
  · rw [if_pos hr]
    have g1 : (refM D != 0) = true := by simp [hr]
    clear h hm hw hr
    generalize refM D = r at *
    go_enter Tryz.func12, Tryz.ntmps12
    go_wp2_with fail
    refine C1.mono ?_
    rintro e w1 ⟨rfl, rfl⟩
    clear C1
    go_wp2_with fail
    go_ret2
    exact ⟨rfl, Below.refl _ _⟩
end Go.Proofs.YtdllaphnkbnpoaaGreat
