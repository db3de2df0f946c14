/- Walks over the reference at whatever numbers: Sorted, Vars. -/
import Derived.Test.YtdllaphnkbnpoaaGreatWy
namespace Go.Proofs.YtdllaphnkbnpoaaGreat
open Go.RowKit Go.Proofs

theorem size_wide (x : Int) (w : World) (h0 : -9223372036854775807 ≤ x) (h1 : x ≤ 9223372036854775807) :
    Calls Tryz.prog 14 #[.int .i64 x] w fun e w' => e = .returned (.int .i64 (x.natAbs : Int)) ∧ w = w' := by
  by_cases h : 0 ≤ x
  · go_enter Tryz.func14, Tryz.ntmps14
    go_wp2_with fail
    go_ret
    exact ⟨ret_int (by omega), rfl⟩
  · have h2 : x < 0 := by omega
    have h3 : -(x + 1) ≤ -x := by omega
    go_enter Tryz.func14, Tryz.ntmps14
    go_wp2_with fail
    go_ret
    exact ⟨ret_int (by omega), rfl⟩

theorem before_wide (a b : Int) (w : World) (a0 : -9223372036854775807 ≤ a) (a1 : a ≤ 9223372036854775807) (b0 : -9223372036854775807 ≤ b) (b1 : b ≤ 9223372036854775807) :
    Calls Tryz.prog 46 #[.int .i64 a, .int .i64 b] w fun e w' => e = .returned (.bool (if a.natAbs ≠ b.natAbs then decide (a.natAbs < b.natAbs) else decide (b < a))) ∧ w = w' := by
  have Sa := size_wide a w a0 a1
  have Sb := size_wide b w b0 b1
  by_cases h : a.natAbs = b.natAbs
  · rw [if_neg (by simp [h])]
    rw [← h] at Sb
    clear h
    generalize a.natAbs = n at *
    go_enter Tryz.func46, Tryz.ntmps46
    go_wp2_with fail
    refine Sa.mono ?_
    rintro e w' ⟨rfl, rfl⟩
    go_wp2_with fail
    refine Sb.mono ?_
    rintro e w' ⟨rfl, rfl⟩
    clear Sa Sb
    go_wp2_with fail
    go_ret
    exact ⟨rfl, rfl⟩
  · rw [if_pos h]
    generalize a.natAbs = n at *
    generalize b.natAbs = m at *
    have g1 : ((n : Int) != (m : Int)) = true := by simp; omega
    go_enter Tryz.func46, Tryz.ntmps46
    go_wp2_with fail
    refine Sa.mono ?_
    rintro e w' ⟨rfl, rfl⟩
    go_wp2_with fail
    refine Sb.mono ?_
    rintro e w' ⟨rfl, rfl⟩
    go_wp2_with fail
    refine Sa.mono ?_
    rintro e w' ⟨rfl, rfl⟩
    go_wp2_with fail
    refine Sb.mono ?_
    rintro e w' ⟨rfl, rfl⟩
    clear Sa Sb
    go_wp2_with fail
    go_ret
    exact ⟨rfl, rfl⟩

theorem before_wq {a b : Int} {r : Bool} (hr : bef a b = r) (w : World) (a0 : -9223372036854775807 ≤ a) (a1 : a ≤ 9223372036854775807) (b0 : -9223372036854775807 ≤ b) (b1 : b ≤ 9223372036854775807) :
    Calls Tryz.prog 46 #[.int .i64 a, .int .i64 b] w fun e w' => e = .returned (.bool r) ∧ w' = w := by
  refine (before_wide a b w a0 a1 b0 b1).mono ?_
  rintro e w' ⟨rfl, rfl⟩
  exact ⟨by rw [← hr]; rfl, rfl⟩

theorem ins_memW {out : List Int} {x : Int} (h0 : -9223372036854775807 ≤ x ∧ x ≤ 9223372036854775807) (h : ∀ y ∈ out, -9223372036854775807 ≤ y ∧ y ≤ 9223372036854775807) : ∀ y ∈ insM out x, -9223372036854775807 ≤ y ∧ y ≤ 9223372036854775807 := by
  intro y hy
  unfold insM at hy
  split at hy
  · exact h y hy
  · rcases List.mem_append.1 hy with hy | hy
    · rcases List.mem_append.1 hy with hy | hy
      · exact h y (List.mem_of_mem_take hy)
      · rw [List.mem_singleton] at hy; rw [hy]; exact h0
    · exact h y (List.mem_of_mem_drop hy)

def SortRelW (w : World) (base : Nat) (l : List Int) (k : Nat) (x3 x4 : Value) (wr : World) : Prop :=
  ∃ (i : Nat) (out : List Int) (v : Value), x4 = .int .i64 (i : Int) ∧ x3 = .slice (ad v) out.length (cp v) ∧ k + i = l.length ∧ Holds base wr (locs (.row v 3 (ints out))) ∧ Below base w wr ∧ (l.drop i).foldl insM out = sortedM l ∧ out.length ≤ i ∧ (∀ y ∈ out, -9223372036854775807 ≤ y ∧ y ≤ 9223372036854775807) ∧ (out.length = 0 → v = .slice none 0 0)
def AtRelW (w : World) (base : Nat) (x : Int) (out : List Int) (k : Nat) (x5 : Value) (wr : World) : Prop :=
  ∃ j : Nat, x5 = .int .i64 (j : Int) ∧ k + j = posM x out ∧ Below base w wr

set_option maxRecDepth 100000 in
set_option maxHeartbeats 4000000 in
theorem sorted_wide {base : Nat} {w : World} (hbase : base ≤ w.heap.size) {A : Option Addr} {l : List Int} {c : Nat} (hA : Lies base w A l) (hn : l.length ≤ 60000) (hl : ∀ x ∈ l, -9223372036854775807 ≤ x ∧ x ≤ 9223372036854775807) :
    Calls Tryz.prog 15 #[.slice A l.length c] w fun e w' => ∃ v', e = .returned (.slice (ad v') (sortedM l).length (cp v')) ∧ Below base w w' ∧ Holds base w' (locs (.row v' 3 (ints (sortedM l)))) := by
  have H0 : Holds base w (fun _ => Res.non) := Holds.nothing _ _
  have H1 := nil_put H0 hbase (.loc 0) 3
  have e1 : upd (fun _ => Res.non) (.loc 0) (.row (.slice none 0 0) 3 []) = locs (.row (.slice none 0 0) 3 (ints [])) := rfl
  rw [e1] at H1
  have start : Hid (SortRelW w base l l.length (.slice none 0 0) (.int .i64 ((0 : Nat) : Int)) w) := ⟨0, [], .slice none 0 0, rfl, rfl, rfl, H1, Below.refl _ _, rfl, Nat.le_refl _, by simp, fun _ => rfl⟩
  have LA : Hid _ := hA
  have LL : Hid _ := hl
  clear H0 H1 e1 hA hl
  go_enter Tryz.func15, Tryz.ntmps15
  go_wp2_with fail
  go_loopg [3, 4] l.length (fun k x3 x4 wr => SortRelW w base l k x3 x4 wr)
  case atStart => exact start.out
  case round =>
    clear start
    obtain ⟨i, out, v, rfl, rfl, hki, H, B, hT, hol, hob, hnv⟩ := hrel
    have NV : Hid _ := hnv
    clear hnv
    by_cases hlt : i < l.length
    · obtain ⟨m, rfl⟩ : ∃ m, gk = m + 1 := ⟨gk - 1, by omega⟩
      obtain ⟨b, o, rfl, hbb, hcell⟩ := lies_at (Lies.below LA.out B) hlt
      have ei := hcell i hlt
      have hd : l.drop i = l.getD i 0 :: l.drop (i + 1) := by
        rw [List.drop_eq_getElem_cons hlt]; simp [hlt]
      have hxb := LL.out _ (row_ne l 0 hlt)
      rw [hd, List.foldl_cons] at hT
      have LC : Hid _ := fun (W : World) (hW : Below base wr W) => (World.cell?_of_block (a := ⟨b, o + i, none⟩) (hW.block b hbb)).trans ei
      generalize l.getD i 0 = x at *
      obtain ⟨hx0, hx1⟩ := hxb
      generalize hav : ad v = AV at *
      have AVH : Hid (0 < out.length → AV = some ⟨gb v, 0, none⟩) := by
        intro hp
        rw [← hav]
        exact H.ad_ (k := .loc 0) (t := 3) (xs := ints out) rfl (by rw [ints_length]; exact hp)
      have AE : Hid _ := hav
      have start2 : Hid (AtRelW wr wr.heap.size x out (posM x out) (.int .i64 ((0 : Nat) : Int)) wr) := ⟨0, rfl, by omega, Below.refl _ _⟩
      have HH : Hid _ := H
      have OB : Hid _ := B
      obtain ⟨wsz, hwsz⟩ : ∃ z, z = wr.heap.size := ⟨_, rfl⟩
      rw [← hwsz] at start2
      have WSZ : Hid _ := hwsz
      clear hwsz
      have TT : Hid _ := hT
      have OL : Hid _ := hob
      have hol6 : out.length ≤ 60000 := by omega
      clear hd hcell hav H B hT hob ei
      go_wp2_with fail
      go_loopg [5] (posM x out) (fun k x5 w' => AtRelW wr wsz x out k x5 w')
      case atStart => exact start2.out
      case round =>
        clear start2
        obtain ⟨j, rfl, hkj, B2⟩ := hrel
        have hpl := posM_le x out
        have hbz : base ≤ wsz := by rw [WSZ.out]; exact Nat.le_trans hbase OB.out.size
        have ex := LC.out _ (B2.mono (B' := base) hbz)
        have H2 : Holds base wr (locs (.row v 3 (ints out))) := HH.out.other (fun b _ hb => B2.block b (by rw [WSZ.out]; exact hb))
        by_cases hlt2 : j < posM x out
        · have hjo : j < out.length := by omega
          obtain rfl : AV = some ⟨gb v, 0, none⟩ := AVH.out (by omega)
          have ey := H2.elem (k := .loc 0) rfl (ints_at out hjo)
          have hby := posM_bef x out j hlt2
          have hyb := OL.out _ (row_ne out 0 hjo)
          have eat : at0 out j = out.getD j 0 := rfl
          rw [eat] at ey
          generalize out.getD j 0 = y at *
          obtain ⟨hy0, hy1⟩ := hyb
          have hj2 : (j : Int) < (out.length : Int) := by omega
          have BQ := before_wq hby (a0 := hy0) (a1 := hy1) (b0 := hx0) (b1 := hx1)
          have BH : Hid _ := B2
          clear H2 hby B2
          go_wp2_with fail
          go_quiet ((go_at_call 46; exact Calls.quiet_of_same (BQ _)))
          go_wp2_with fail
          go_roundg (gk - 1)
          case measure => omega
          case rel => exact ⟨j + 1, by go_num, by omega, below_drewN_ BH.out _⟩
        · obtain rfl : j = posM x out := by omega
          have H2H : Hid _ := H2
          have BW : Hid _ := OB.out.trans (B2.mono (B' := base) hbz)
          have hbw : base ≤ wr.heap.size := Nat.le_trans hbase BW.out.size
          have hb1 : b < wr.heap.size := by omega
          by_cases hjo : posM x out < out.length
          · obtain rfl : AV = some ⟨gb v, 0, none⟩ := AVH.out (by omega)
            have ey := H2.elem (k := .loc 0) rfl (ints_at out hjo)
            have hby := posM_stop x out hjo
            have hyb := OL.out _ (row_ne out 0 hjo)
            have eat : at0 out (posM x out) = out.getD (posM x out) 0 := rfl
            rw [eat] at ey
            have INS : Hid (insM out x = if out.getD (posM x out) 0 = x then out else out.take (posM x out) ++ [x] ++ out.drop (posM x out)) := by
              show insM out x = _
              unfold insM
              by_cases hyx : out.getD (posM x out) 0 = x
              · rw [if_pos ⟨hjo, hyx⟩, if_pos hyx]
              · rw [if_neg (fun h => hyx h.2), if_neg hyx]
            generalize out.getD (posM x out) 0 = y at *
            obtain ⟨hy0, hy1⟩ := hyb
            have hj2 : ((posM x out : Nat) : Int) < (out.length : Int) := by omega
            have BQ := before_wq hby (a0 := hy0) (a1 := hy1) (b0 := hx0) (b1 := hx1)
            generalize hpq : posM x out = q at *
            have PQ : Hid _ := hpq
            clear H2 hby B2 hpq eat HH OB LC WSZ
            go_wp2_with fail
            go_quiet ((go_at_call 46; exact Calls.quiet_of_same (BQ _)))
            have H3 : Hid _ := H2H.out.drewN nq
            have B3 : Hid _ := below_drewN_ BW.out nq
            have ex3 : (wr.drewN nq).cell? ⟨b, o + i, none⟩ = some (.int .i64 x) := ex
            have ey3 : (wr.drewN nq).cell? ⟨gb v, q, none⟩ = some (.int .i64 y) := ey
            have hbw3 : base ≤ (wr.drewN nq).heap.size := hbw
            generalize wr.drewN nq = w3 at *
            clear H2H BW ex ey BQ
            by_cases hyx : y = x
            · have g2 : (y == x) = true := by simp [hyx]
              have I2 := INS.out
              rw [if_pos hyx] at I2
              have I3 : Hid _ := I2
              clear INS I2 hyx
              go_wp2_with fail
              go_quiet (fail)
              go_wp2_with fail
              go_roundg m
              case measure => omega
              case rel => exact ⟨i + 1, out, v, by go_num, by rw [AE.out], by omega, H3.out.drewN _, below_drewN_ B3.out _, by rw [← TT.out, I3.out], by omega, OL.out, NV.out⟩
            · have g2 : (y == x) = false := by simp [hyx]
              have I2 := INS.out
              rw [if_neg hyx] at I2
              have I3 : Hid _ := I2
              clear INS I2 hyx
              go_wp2_with fail
              go_quiet (fail)
              have H4 : Hid _ := H3.out.drewN nq
              have B4 : Hid _ := below_drewN_ B3.out nq
              have ex4 : (w3.drewN nq).cell? ⟨b, o + i, none⟩ = some (.int .i64 x) := ex3
              have hbw4 : base ≤ (w3.drewN nq).heap.size := hbw3
              generalize w3.drewN nq = w4 at *
              clear H3 B3 ex3 ey3
              have hcap : out.length ≤ cp v := by have := H4.out.cap (k := .loc 0) (t := 3) (xs := ints out) rfl; rwa [ints_length] at this
              have LQ : Hid (q ≤ out.length) := (by show _ ≤ _; omega)
              have hq1 : (0 : Int) ≤ (q : Int) := by omega
              have hq2 : (q : Int) ≤ (out.length : Int) := by omega
              have hq3 : (q : Int) ≤ (cp v : Int) := by omega
              have hq4 : q ≤ cp v := by omega
              have hq5 : ¬ cp v = q := by omega
              have HL0 : Hid _ := Holds.lit0 H4.out.drew (.loc 1) hbw4 3
              have RD : Hid (Reads (w4.drew.alloc (.cells #[] 3)) (some ⟨gb v, 0, none⟩) (ints (out.take q))) := reads_take (H4.out.drew.alloc (.cells #[] 3)) (k := .loc 0) rfl q
              have LT : Hid ((ints (out.take q)).length = q) := by show _ = _; rw [ints_length, List.length_take]; omega
              have BL0 : Hid _ := B4.out.drew.alloc hbw4 (.cells #[] 3)
              have ex5 := cell_alloc_keep w4.drew (.cells #[] 3) _ _ ex4
              have ex5b : (w4.alloc (.cells #[] 3)).drew.cell? ⟨b, o + i, none⟩ = some (.int .i64 x) := ex5
              have hbw5 : base ≤ (w4.drew.alloc (.cells #[] 3)).heap.size := by rw [size_alloc]; exact Nat.le_succ_of_le hbw4
              have HL0b : Hid _ := ((Holds.lit0 H4.out (.loc 1) hbw4 3).alloc (.cells #[.int .i64 x] 3)).drew
              have RDb : Hid (Reads ((w4.alloc (.cells #[] 3)).alloc (.cells #[.int .i64 x] 3)).drew (some ⟨gb v, 0, none⟩) (ints (out.take q))) := reads_take (((H4.out.alloc (.cells #[] 3)).alloc (.cells #[.int .i64 x] 3)).drew) (k := .loc 0) rfl q
              have BL0b : Hid _ := ((B4.out.alloc hbw4 (.cells #[] 3)).alloc (by rw [size_alloc]; exact Nat.le_succ_of_le hbw4) (.cells #[.int .i64 x] 3)).drew
              have hbw6 : base ≤ ((w4.alloc (.cells #[] 3)).alloc (.cells #[.int .i64 x] 3)).drew.heap.size := by
                show base ≤ ((w4.alloc (.cells #[] 3)).alloc (.cells #[.int .i64 x] 3)).heap.size
                rw [size_alloc, size_alloc]; omega
              have KXB : Hid (∀ w8 : World, ((w4.alloc (.cells #[] 3)).alloc (.cells #[.int .i64 x] 3)).drew.grownBy w8 (some w4.heap.size) → w8.cell? ⟨w4.heap.size + 1, 0, none⟩ = some (.int .i64 x)) := fun w8 G8 => by
                rw [World.cell?_of_block (a := ⟨w4.heap.size + 1, 0, none⟩) (G8.block (w4.heap.size + 1) (by show w4.heap.size + 1 < ((w4.alloc (.cells #[] 3)).alloc (.cells #[.int .i64 x] 3)).heap.size; rw [size_alloc, size_alloc]; omega) (by intro e; injection e with e; omega))]
                exact cell_new_drew _ _ _ _ (by rw [size_alloc])
              have HL0c : Hid (Holds base ((w4.alloc (.cells #[.int .i64 x] 3)).alloc (.cells #[] 3)).drew (upd (locs (.row v 3 (ints out))) (.loc 1) (.row (.slice (some ⟨w4.heap.size + 1, 0, none⟩) 0 0) 3 []))) := by
                have := (Holds.lit0 (H4.out.alloc (.cells #[.int .i64 x] 3)) (.loc 1) (by rw [size_alloc]; exact Nat.le_succ_of_le hbw4) 3).drew
                rw [size_alloc] at this
                exact this
              have RDc : Hid (Reads ((w4.alloc (.cells #[.int .i64 x] 3)).alloc (.cells #[] 3)).drew (some ⟨gb v, 0, none⟩) (ints (out.take q))) := reads_take (((H4.out.alloc (.cells #[.int .i64 x] 3)).alloc (.cells #[] 3)).drew) (k := .loc 0) rfl q
              have BL0c : Hid _ := ((B4.out.alloc hbw4 (.cells #[.int .i64 x] 3)).alloc (by rw [size_alloc]; exact Nat.le_succ_of_le hbw4) (.cells #[] 3)).drew
              have hbw7 : base ≤ ((w4.alloc (.cells #[.int .i64 x] 3)).alloc (.cells #[] 3)).drew.heap.size := by
                show base ≤ ((w4.alloc (.cells #[.int .i64 x] 3)).alloc (.cells #[] 3)).heap.size
                rw [size_alloc, size_alloc]; omega
              have KXC : Hid (∀ w8 : World, ((w4.alloc (.cells #[.int .i64 x] 3)).alloc (.cells #[] 3)).drew.grownBy w8 (some (w4.heap.size + 1)) → w8.cell? ⟨w4.heap.size, 0, none⟩ = some (.int .i64 x)) := fun w8 G8 => by
                rw [World.cell?_of_block (a := ⟨w4.heap.size, 0, none⟩) (G8.block w4.heap.size (by show w4.heap.size < ((w4.alloc (.cells #[.int .i64 x] 3)).alloc (.cells #[] 3)).heap.size; rw [size_alloc, size_alloc]; omega) (by intro e; injection e with e; omega))]
                exact cell_alloc_keep _ (.cells #[] 3) _ _ (cell_new w4 (.int .i64 x) 3 _ rfl)
              go_wp2_with fail
              go_region_law (first | (refine step_many2 HL0.out (.loc 1) (by rfl) _ _ 23 3 (.int .i64 0) 8 (by rfl) Tryz.underlying23 info3 rfl (by decide) 0 (ints (out.take q)) (upd_same _ _ _) (by rfl) (by rfl) (some ⟨gb v, 0, none⟩) q (cp v) (by rfl) LT.out (by simp) RD.out (ints_one _) hbw5 (by omega) ?_; intro A8 c8 w8 H8 B8; have e8 : w8.cell? ⟨b, o + i, none⟩ = some (.int .i64 x) := (World.cell?_of_block (a := ⟨b, o + i, none⟩) (B8.block b hbb)).trans ex5; have hz8 : base ≤ w8.heap.size := Nat.le_trans hbw5 B8.size; have LS8 : Hid _ := H8.alloc (.cells #[.int .i64 x] 3); have BL8 : Hid _ := (BL0.out.trans B8).alloc hz8 (.cells #[.int .i64 x] 3); clear H8 B8) | (refine step_pushAt LS8.out (.loc 1) (by rfl) _ _ 23 3 (.int .i64 0) 8 (by rfl) Tryz.underlying23 info3 rfl (by decide) q (.int .i64 x) (upd_same _ _ _) (by rw [List.length_append, LT.out]; exact Nat.zero_add q) (by rfl) w8.heap.size (by rfl) (cell_new _ _ _ _ rfl) (by rfl) (by rw [size_alloc]; exact Nat.le_succ_of_le hz8) (by omega) ?_; intro A9 c9 w9 H9 B9; have RD9 : Hid _ := reads_drop H9 (k := .loc 0) rfl q (a' := ⟨gb v, q, none⟩) (fun _ => rfl); have hz9 : base ≤ w9.heap.size := Nat.le_trans (by rw [size_alloc]; exact Nat.le_succ_of_le hz8) B9.size; have HH9 : Hid _ := H9; have BB9 : Hid _ := BL8.out.trans B9; clear H9 B9) | (refine step_many2 HH9.out (.loc 1) (by rfl) _ _ 23 3 (.int .i64 0) 8 (by rfl) Tryz.underlying23 info3 rfl (by decide) (q + 1) (ints (out.drop q)) (upd_same _ _ _) (by rw [List.length_append, List.length_append, LT.out, List.length_nil, Nat.zero_add]; rfl) (by rfl) (some ⟨gb v, q, none⟩) (out.length - q) _ (by rfl) (by rw [ints_length, List.length_drop]) (by simp) RD9.out (ints_one _) hz9 (by omega) ?_; intro A10 c10 w10 H10 B10; have HH10 : Hid _ := H10; have BB10 : Hid _ := BB9.out.trans B10; clear H10 B10) | (refine step_many3 HL0b.out (.loc 1) (by rfl) _ _ 23 3 (.int .i64 0) 8 (by rfl) Tryz.underlying23 info3 rfl (by decide) 0 (ints (out.take q)) (upd_same _ _ _) (by rfl) (by rfl) (some ⟨gb v, 0, none⟩) q (cp v) (by rfl) LT.out (by simp) RDb.out (ints_one _) hbw6 (by omega) ?_; intro A8 c8 w8 H8 B8 G8; have e8c : w8.cell? ⟨w4.heap.size + 1, 0, none⟩ = some (.int .i64 x) := KXB.out w8 G8; have hz8 : base ≤ w8.heap.size := Nat.le_trans hbw6 B8.size; have HH8 : Hid _ := H8; have BH8 : Hid _ := BL0b.out.trans B8; clear H8 B8 G8) | (refine step_pushAt HH8.out (.loc 1) (by rfl) _ _ 23 3 (.int .i64 0) 8 (by rfl) Tryz.underlying23 info3 rfl (by decide) q (.int .i64 x) (upd_same _ _ _) (by rw [List.length_append, LT.out]; exact Nat.zero_add q) (by rfl) (w4.heap.size + 1) (by rfl) e8c (by rfl) hz8 (by omega) ?_; intro A9 c9 w9 H9 B9; have RD9 : Hid _ := reads_drop H9 (k := .loc 0) rfl q (a' := ⟨gb v, q, none⟩) (fun _ => rfl); have hz9 : base ≤ w9.heap.size := Nat.le_trans hz8 B9.size; have HH9 : Hid _ := H9; have BB9 : Hid _ := BH8.out.trans B9; clear H9 B9) | (refine step_many3 HL0c.out (.loc 1) (by rfl) _ _ 23 3 (.int .i64 0) 8 (by rfl) Tryz.underlying23 info3 rfl (by decide) 0 (ints (out.take q)) (upd_same _ _ _) (by rfl) (by rfl) (some ⟨gb v, 0, none⟩) q (cp v) (by rfl) LT.out (by simp) RDc.out (ints_one _) hbw7 (by omega) ?_; intro A8 c8 w8 H8 B8 G8; have e8d : w8.cell? ⟨w4.heap.size, 0, none⟩ = some (.int .i64 x) := KXC.out w8 G8; have hz8 : base ≤ w8.heap.size := Nat.le_trans hbw7 B8.size; have HH8c : Hid _ := H8; have BH8c : Hid _ := BL0c.out.trans B8; clear H8 B8 G8) | (refine step_pushAt HH8c.out (.loc 1) (by rfl) _ _ 23 3 (.int .i64 0) 8 (by rfl) Tryz.underlying23 info3 rfl (by decide) q (.int .i64 x) (upd_same _ _ _) (by rw [List.length_append, LT.out]; exact Nat.zero_add q) (by rfl) w4.heap.size (by rfl) e8d (by rfl) hz8 (by omega) ?_; intro A9 c9 w9 H9 B9; have RD9 : Hid _ := reads_drop H9 (k := .loc 0) rfl q (a' := ⟨gb v, q, none⟩) (fun _ => rfl); have hz9 : base ≤ w9.heap.size := Nat.le_trans hz8 B9.size; have HH9 : Hid _ := H9; have BB9 : Hid _ := BH8c.out.trans B9; clear H9 B9) | (trace_state; fail))
              all_goals
                go_wp2_with fail
                go_roundg m
                case measure => omega
                case rel => exact ⟨i + 1, insM out x, .slice A10 (insM out x).length c10, by go_num, by rw [ins_len LQ.out I3.out]; rfl, by omega, (by have := sort_fin HH10.out; rw [ins_row I3.out] at this; rw [ins_len LQ.out I3.out]; exact this), BB10.out, TT.out, by rw [ins_len LQ.out I3.out]; omega, ins_memW ⟨hx0, hx1⟩ OL.out, fun h => by rw [ins_len LQ.out I3.out] at h; omega⟩
          · have hql : posM x out = out.length := by omega
            have I3 : Hid (insM out x = out.take (posM x out) ++ [x] ++ out.drop (posM x out)) := by
              show insM out x = _
              unfold insM
              rw [if_neg (fun h => hjo h.1)]
            rw [hql] at I3
            rw [hql]
            clear H2 HH OB LC WSZ hjo
            have hge : decide ((out.length : Int) < (out.length : Int)) = false := decide_eq_false (by omega)
            by_cases hz0 : 0 < out.length
            · obtain rfl : AV = some ⟨gb v, 0, none⟩ := AVH.out hz0
              go_wp2_with fail
              go_quiet (fail)
              have H3 : Hid _ := H2H.out.drewN nq
              have B3 : Hid _ := below_drewN_ BW.out nq
              have ex3 : (wr.drewN nq).cell? ⟨b, o + i, none⟩ = some (.int .i64 x) := ex
              have hbw3 : base ≤ (wr.drewN nq).heap.size := hbw
              generalize wr.drewN nq = w3 at *
              clear H2H BW ex
              go_wp2_with fail
              go_quiet (fail)
              have H4 : Hid _ := H3.out.drewN nq
              have B4 : Hid _ := below_drewN_ B3.out nq
              have ex4 : (w3.drewN nq).cell? ⟨b, o + i, none⟩ = some (.int .i64 x) := ex3
              have hbw4 : base ≤ (w3.drewN nq).heap.size := hbw3
              generalize w3.drewN nq = w4 at *
              clear H3 B3 ex3
              have hcq0 : Hid _ := (Classical.em (cp v = out.length))
              rcases hcq0.out with hcq | hcq
              · have hcap : out.length ≤ cp v := by have := H4.out.cap (k := .loc 0) (t := 3) (xs := ints out) rfl; rwa [ints_length] at this
                have LQ : Hid (out.length ≤ out.length) := (by show _ ≤ _; omega)
                have hq1 : (0 : Int) ≤ (out.length : Int) := by omega
                have hq2 : (out.length : Int) ≤ (out.length : Int) := by omega
                have hq3 : (out.length : Int) ≤ (cp v : Int) := by omega
                have hq4 : out.length ≤ cp v := by omega
                have hq5 : cp v = out.length := hcq
                have HL0 : Hid _ := Holds.lit0 H4.out.drew (.loc 1) hbw4 3
                have RD : Hid (Reads (w4.drew.alloc (.cells #[] 3)) (some ⟨gb v, 0, none⟩) (ints (out.take out.length))) := reads_take (H4.out.drew.alloc (.cells #[] 3)) (k := .loc 0) rfl out.length
                have LT : Hid ((ints (out.take out.length)).length = out.length) := by show _ = _; rw [ints_length, List.length_take]; omega
                have BL0 : Hid _ := B4.out.drew.alloc hbw4 (.cells #[] 3)
                have ex5 := cell_alloc_keep w4.drew (.cells #[] 3) _ _ ex4
                have ex5b : (w4.alloc (.cells #[] 3)).drew.cell? ⟨b, o + i, none⟩ = some (.int .i64 x) := ex5
                have hbw5 : base ≤ (w4.drew.alloc (.cells #[] 3)).heap.size := by rw [size_alloc]; exact Nat.le_succ_of_le hbw4
                have HL0b : Hid _ := ((Holds.lit0 H4.out (.loc 1) hbw4 3).alloc (.cells #[.int .i64 x] 3)).drew
                have RDb : Hid (Reads ((w4.alloc (.cells #[] 3)).alloc (.cells #[.int .i64 x] 3)).drew (some ⟨gb v, 0, none⟩) (ints (out.take out.length))) := reads_take (((H4.out.alloc (.cells #[] 3)).alloc (.cells #[.int .i64 x] 3)).drew) (k := .loc 0) rfl out.length
                have BL0b : Hid _ := ((B4.out.alloc hbw4 (.cells #[] 3)).alloc (by rw [size_alloc]; exact Nat.le_succ_of_le hbw4) (.cells #[.int .i64 x] 3)).drew
                have hbw6 : base ≤ ((w4.alloc (.cells #[] 3)).alloc (.cells #[.int .i64 x] 3)).drew.heap.size := by
                  show base ≤ ((w4.alloc (.cells #[] 3)).alloc (.cells #[.int .i64 x] 3)).heap.size
                  rw [size_alloc, size_alloc]; omega
                have KXB : Hid (∀ w8 : World, ((w4.alloc (.cells #[] 3)).alloc (.cells #[.int .i64 x] 3)).drew.grownBy w8 (some w4.heap.size) → w8.cell? ⟨w4.heap.size + 1, 0, none⟩ = some (.int .i64 x)) := fun w8 G8 => by
                  rw [World.cell?_of_block (a := ⟨w4.heap.size + 1, 0, none⟩) (G8.block (w4.heap.size + 1) (by show w4.heap.size + 1 < ((w4.alloc (.cells #[] 3)).alloc (.cells #[.int .i64 x] 3)).heap.size; rw [size_alloc, size_alloc]; omega) (by intro e; injection e with e; omega))]
                  exact cell_new_drew _ _ _ _ (by rw [size_alloc])
                have HL0c : Hid (Holds base ((w4.alloc (.cells #[.int .i64 x] 3)).alloc (.cells #[] 3)).drew (upd (locs (.row v 3 (ints out))) (.loc 1) (.row (.slice (some ⟨w4.heap.size + 1, 0, none⟩) 0 0) 3 []))) := by
                  have := (Holds.lit0 (H4.out.alloc (.cells #[.int .i64 x] 3)) (.loc 1) (by rw [size_alloc]; exact Nat.le_succ_of_le hbw4) 3).drew
                  rw [size_alloc] at this
                  exact this
                have RDc : Hid (Reads ((w4.alloc (.cells #[.int .i64 x] 3)).alloc (.cells #[] 3)).drew (some ⟨gb v, 0, none⟩) (ints (out.take out.length))) := reads_take (((H4.out.alloc (.cells #[.int .i64 x] 3)).alloc (.cells #[] 3)).drew) (k := .loc 0) rfl out.length
                have BL0c : Hid _ := ((B4.out.alloc hbw4 (.cells #[.int .i64 x] 3)).alloc (by rw [size_alloc]; exact Nat.le_succ_of_le hbw4) (.cells #[] 3)).drew
                have hbw7 : base ≤ ((w4.alloc (.cells #[.int .i64 x] 3)).alloc (.cells #[] 3)).drew.heap.size := by
                  show base ≤ ((w4.alloc (.cells #[.int .i64 x] 3)).alloc (.cells #[] 3)).heap.size
                  rw [size_alloc, size_alloc]; omega
                have KXC : Hid (∀ w8 : World, ((w4.alloc (.cells #[.int .i64 x] 3)).alloc (.cells #[] 3)).drew.grownBy w8 (some (w4.heap.size + 1)) → w8.cell? ⟨w4.heap.size, 0, none⟩ = some (.int .i64 x)) := fun w8 G8 => by
                  rw [World.cell?_of_block (a := ⟨w4.heap.size, 0, none⟩) (G8.block w4.heap.size (by show w4.heap.size < ((w4.alloc (.cells #[.int .i64 x] 3)).alloc (.cells #[] 3)).heap.size; rw [size_alloc, size_alloc]; omega) (by intro e; injection e with e; omega))]
                  exact cell_alloc_keep _ (.cells #[] 3) _ _ (cell_new w4 (.int .i64 x) 3 _ rfl)
                go_wp2_with fail
                go_region_law (first | (refine step_many2 HL0.out (.loc 1) (by rfl) _ _ 23 3 (.int .i64 0) 8 (by rfl) Tryz.underlying23 info3 rfl (by decide) 0 (ints (out.take out.length)) (upd_same _ _ _) (by rfl) (by rfl) (some ⟨gb v, 0, none⟩) out.length _ (by rfl) LT.out (by simp) RD.out (ints_one _) hbw5 (by omega) ?_; intro A8 c8 w8 H8 B8; have e8 : w8.cell? ⟨b, o + i, none⟩ = some (.int .i64 x) := (World.cell?_of_block (a := ⟨b, o + i, none⟩) (B8.block b hbb)).trans ex5; have hz8 : base ≤ w8.heap.size := Nat.le_trans hbw5 B8.size; have LS8 : Hid _ := H8.alloc (.cells #[.int .i64 x] 3); have BL8 : Hid _ := (BL0.out.trans B8).alloc hz8 (.cells #[.int .i64 x] 3); clear H8 B8) | (refine step_pushAt LS8.out (.loc 1) (by rfl) _ _ 23 3 (.int .i64 0) 8 (by rfl) Tryz.underlying23 info3 rfl (by decide) out.length (.int .i64 x) (upd_same _ _ _) (by rw [List.length_append, LT.out]; exact Nat.zero_add out.length) (by rfl) w8.heap.size (by rfl) (cell_new _ _ _ _ rfl) (by rfl) (by rw [size_alloc]; exact Nat.le_succ_of_le hz8) (by omega) ?_; intro A9 c9 w9 H9 B9; have RD9 : Hid _ := reads_drop H9 (k := .loc 0) rfl out.length (a' := ⟨gb v, 0, none⟩) (fun h => absurd h (Nat.lt_irrefl _)); have hz9 : base ≤ w9.heap.size := Nat.le_trans (by rw [size_alloc]; exact Nat.le_succ_of_le hz8) B9.size; have HH9 : Hid _ := H9; have BB9 : Hid _ := BL8.out.trans B9; clear H9 B9) | (refine step_many2 HH9.out (.loc 1) (by rfl) _ _ 23 3 (.int .i64 0) 8 (by rfl) Tryz.underlying23 info3 rfl (by decide) (out.length + 1) (ints (out.drop out.length)) (upd_same _ _ _) (by rw [List.length_append, List.length_append, LT.out, List.length_nil, Nat.zero_add]; rfl) (by rfl) (some ⟨gb v, 0, none⟩) 0 _ (by rfl) (by rw [ints_length, List.length_drop]; exact Nat.sub_self _) (by simp) RD9.out (ints_one _) hz9 (by omega) ?_; intro A10 c10 w10 H10 B10; have HH10 : Hid _ := H10; have BB10 : Hid _ := BB9.out.trans B10; clear H10 B10) | (refine step_many3 HL0b.out (.loc 1) (by rfl) _ _ 23 3 (.int .i64 0) 8 (by rfl) Tryz.underlying23 info3 rfl (by decide) 0 (ints (out.take out.length)) (upd_same _ _ _) (by rfl) (by rfl) (some ⟨gb v, 0, none⟩) out.length _ (by rfl) LT.out (by simp) RDb.out (ints_one _) hbw6 (by omega) ?_; intro A8 c8 w8 H8 B8 G8; have e8c : w8.cell? ⟨w4.heap.size + 1, 0, none⟩ = some (.int .i64 x) := KXB.out w8 G8; have hz8 : base ≤ w8.heap.size := Nat.le_trans hbw6 B8.size; have HH8 : Hid _ := H8; have BH8 : Hid _ := BL0b.out.trans B8; clear H8 B8 G8) | (refine step_pushAt HH8.out (.loc 1) (by rfl) _ _ 23 3 (.int .i64 0) 8 (by rfl) Tryz.underlying23 info3 rfl (by decide) out.length (.int .i64 x) (upd_same _ _ _) (by rw [List.length_append, LT.out]; exact Nat.zero_add out.length) (by rfl) (w4.heap.size + 1) (by rfl) e8c (by rfl) hz8 (by omega) ?_; intro A9 c9 w9 H9 B9; have RD9 : Hid _ := reads_drop H9 (k := .loc 0) rfl out.length (a' := ⟨gb v, 0, none⟩) (fun h => absurd h (Nat.lt_irrefl _)); have hz9 : base ≤ w9.heap.size := Nat.le_trans hz8 B9.size; have HH9 : Hid _ := H9; have BB9 : Hid _ := BH8.out.trans B9; clear H9 B9) | (refine step_many3 HL0c.out (.loc 1) (by rfl) _ _ 23 3 (.int .i64 0) 8 (by rfl) Tryz.underlying23 info3 rfl (by decide) 0 (ints (out.take out.length)) (upd_same _ _ _) (by rfl) (by rfl) (some ⟨gb v, 0, none⟩) out.length _ (by rfl) LT.out (by simp) RDc.out (ints_one _) hbw7 (by omega) ?_; intro A8 c8 w8 H8 B8 G8; have e8d : w8.cell? ⟨w4.heap.size, 0, none⟩ = some (.int .i64 x) := KXC.out w8 G8; have hz8 : base ≤ w8.heap.size := Nat.le_trans hbw7 B8.size; have HH8c : Hid _ := H8; have BH8c : Hid _ := BL0c.out.trans B8; clear H8 B8 G8) | (refine step_pushAt HH8c.out (.loc 1) (by rfl) _ _ 23 3 (.int .i64 0) 8 (by rfl) Tryz.underlying23 info3 rfl (by decide) out.length (.int .i64 x) (upd_same _ _ _) (by rw [List.length_append, LT.out]; exact Nat.zero_add out.length) (by rfl) w4.heap.size (by rfl) e8d (by rfl) hz8 (by omega) ?_; intro A9 c9 w9 H9 B9; have RD9 : Hid _ := reads_drop H9 (k := .loc 0) rfl out.length (a' := ⟨gb v, 0, none⟩) (fun h => absurd h (Nat.lt_irrefl _)); have hz9 : base ≤ w9.heap.size := Nat.le_trans hz8 B9.size; have HH9 : Hid _ := H9; have BB9 : Hid _ := BH8c.out.trans B9; clear H9 B9) | (trace_state; fail))
                all_goals
                  go_wp2_with fail
                  go_roundg m
                  case measure => omega
                  case rel => exact ⟨i + 1, insM out x, .slice A10 (insM out x).length c10, by go_num, by rw [ins_len LQ.out I3.out, Nat.sub_self]; rfl, by omega, (by have := sort_fin HH10.out; rw [ins_row I3.out] at this; rw [ins_len LQ.out I3.out, Nat.sub_self]; exact this), BB10.out, TT.out, by rw [ins_len LQ.out I3.out]; omega, ins_memW ⟨hx0, hx1⟩ OL.out, fun h => by rw [ins_len LQ.out I3.out] at h; omega⟩
              · have hcap : out.length ≤ cp v := by have := H4.out.cap (k := .loc 0) (t := 3) (xs := ints out) rfl; rwa [ints_length] at this
                have LQ : Hid (out.length ≤ out.length) := (by show _ ≤ _; omega)
                have hq1 : (0 : Int) ≤ (out.length : Int) := by omega
                have hq2 : (out.length : Int) ≤ (out.length : Int) := by omega
                have hq3 : (out.length : Int) ≤ (cp v : Int) := by omega
                have hq4 : out.length ≤ cp v := by omega
                have hq5 : ¬ cp v = out.length := hcq
                have HL0 : Hid _ := Holds.lit0 H4.out.drew (.loc 1) hbw4 3
                have RD : Hid (Reads (w4.drew.alloc (.cells #[] 3)) (some ⟨gb v, 0, none⟩) (ints (out.take out.length))) := reads_take (H4.out.drew.alloc (.cells #[] 3)) (k := .loc 0) rfl out.length
                have LT : Hid ((ints (out.take out.length)).length = out.length) := by show _ = _; rw [ints_length, List.length_take]; omega
                have BL0 : Hid _ := B4.out.drew.alloc hbw4 (.cells #[] 3)
                have ex5 := cell_alloc_keep w4.drew (.cells #[] 3) _ _ ex4
                have ex5b : (w4.alloc (.cells #[] 3)).drew.cell? ⟨b, o + i, none⟩ = some (.int .i64 x) := ex5
                have hbw5 : base ≤ (w4.drew.alloc (.cells #[] 3)).heap.size := by rw [size_alloc]; exact Nat.le_succ_of_le hbw4
                have HL0b : Hid _ := ((Holds.lit0 H4.out (.loc 1) hbw4 3).alloc (.cells #[.int .i64 x] 3)).drew
                have RDb : Hid (Reads ((w4.alloc (.cells #[] 3)).alloc (.cells #[.int .i64 x] 3)).drew (some ⟨gb v, 0, none⟩) (ints (out.take out.length))) := reads_take (((H4.out.alloc (.cells #[] 3)).alloc (.cells #[.int .i64 x] 3)).drew) (k := .loc 0) rfl out.length
                have BL0b : Hid _ := ((B4.out.alloc hbw4 (.cells #[] 3)).alloc (by rw [size_alloc]; exact Nat.le_succ_of_le hbw4) (.cells #[.int .i64 x] 3)).drew
                have hbw6 : base ≤ ((w4.alloc (.cells #[] 3)).alloc (.cells #[.int .i64 x] 3)).drew.heap.size := by
                  show base ≤ ((w4.alloc (.cells #[] 3)).alloc (.cells #[.int .i64 x] 3)).heap.size
                  rw [size_alloc, size_alloc]; omega
                have KXB : Hid (∀ w8 : World, ((w4.alloc (.cells #[] 3)).alloc (.cells #[.int .i64 x] 3)).drew.grownBy w8 (some w4.heap.size) → w8.cell? ⟨w4.heap.size + 1, 0, none⟩ = some (.int .i64 x)) := fun w8 G8 => by
                  rw [World.cell?_of_block (a := ⟨w4.heap.size + 1, 0, none⟩) (G8.block (w4.heap.size + 1) (by show w4.heap.size + 1 < ((w4.alloc (.cells #[] 3)).alloc (.cells #[.int .i64 x] 3)).heap.size; rw [size_alloc, size_alloc]; omega) (by intro e; injection e with e; omega))]
                  exact cell_new_drew _ _ _ _ (by rw [size_alloc])
                have HL0c : Hid (Holds base ((w4.alloc (.cells #[.int .i64 x] 3)).alloc (.cells #[] 3)).drew (upd (locs (.row v 3 (ints out))) (.loc 1) (.row (.slice (some ⟨w4.heap.size + 1, 0, none⟩) 0 0) 3 []))) := by
                  have := (Holds.lit0 (H4.out.alloc (.cells #[.int .i64 x] 3)) (.loc 1) (by rw [size_alloc]; exact Nat.le_succ_of_le hbw4) 3).drew
                  rw [size_alloc] at this
                  exact this
                have RDc : Hid (Reads ((w4.alloc (.cells #[.int .i64 x] 3)).alloc (.cells #[] 3)).drew (some ⟨gb v, 0, none⟩) (ints (out.take out.length))) := reads_take (((H4.out.alloc (.cells #[.int .i64 x] 3)).alloc (.cells #[] 3)).drew) (k := .loc 0) rfl out.length
                have BL0c : Hid _ := ((B4.out.alloc hbw4 (.cells #[.int .i64 x] 3)).alloc (by rw [size_alloc]; exact Nat.le_succ_of_le hbw4) (.cells #[] 3)).drew
                have hbw7 : base ≤ ((w4.alloc (.cells #[.int .i64 x] 3)).alloc (.cells #[] 3)).drew.heap.size := by
                  show base ≤ ((w4.alloc (.cells #[.int .i64 x] 3)).alloc (.cells #[] 3)).heap.size
                  rw [size_alloc, size_alloc]; omega
                have KXC : Hid (∀ w8 : World, ((w4.alloc (.cells #[.int .i64 x] 3)).alloc (.cells #[] 3)).drew.grownBy w8 (some (w4.heap.size + 1)) → w8.cell? ⟨w4.heap.size, 0, none⟩ = some (.int .i64 x)) := fun w8 G8 => by
                  rw [World.cell?_of_block (a := ⟨w4.heap.size, 0, none⟩) (G8.block w4.heap.size (by show w4.heap.size < ((w4.alloc (.cells #[.int .i64 x] 3)).alloc (.cells #[] 3)).heap.size; rw [size_alloc, size_alloc]; omega) (by intro e; injection e with e; omega))]
                  exact cell_alloc_keep _ (.cells #[] 3) _ _ (cell_new w4 (.int .i64 x) 3 _ rfl)
                go_wp2_with fail
                go_region_law (first | (refine step_many2 HL0.out (.loc 1) (by rfl) _ _ 23 3 (.int .i64 0) 8 (by rfl) Tryz.underlying23 info3 rfl (by decide) 0 (ints (out.take out.length)) (upd_same _ _ _) (by rfl) (by rfl) (some ⟨gb v, 0, none⟩) out.length _ (by rfl) LT.out (by simp) RD.out (ints_one _) hbw5 (by omega) ?_; intro A8 c8 w8 H8 B8; have e8 : w8.cell? ⟨b, o + i, none⟩ = some (.int .i64 x) := (World.cell?_of_block (a := ⟨b, o + i, none⟩) (B8.block b hbb)).trans ex5; have hz8 : base ≤ w8.heap.size := Nat.le_trans hbw5 B8.size; have LS8 : Hid _ := H8.alloc (.cells #[.int .i64 x] 3); have BL8 : Hid _ := (BL0.out.trans B8).alloc hz8 (.cells #[.int .i64 x] 3); clear H8 B8) | (refine step_pushAt LS8.out (.loc 1) (by rfl) _ _ 23 3 (.int .i64 0) 8 (by rfl) Tryz.underlying23 info3 rfl (by decide) out.length (.int .i64 x) (upd_same _ _ _) (by rw [List.length_append, LT.out]; exact Nat.zero_add out.length) (by rfl) w8.heap.size (by rfl) (cell_new _ _ _ _ rfl) (by rfl) (by rw [size_alloc]; exact Nat.le_succ_of_le hz8) (by omega) ?_; intro A9 c9 w9 H9 B9; have RD9 : Hid _ := reads_drop H9 (k := .loc 0) rfl out.length (a' := ⟨gb v, out.length, none⟩) (fun h => absurd h (Nat.lt_irrefl _)); have hz9 : base ≤ w9.heap.size := Nat.le_trans (by rw [size_alloc]; exact Nat.le_succ_of_le hz8) B9.size; have HH9 : Hid _ := H9; have BB9 : Hid _ := BL8.out.trans B9; clear H9 B9) | (refine step_many2 HH9.out (.loc 1) (by rfl) _ _ 23 3 (.int .i64 0) 8 (by rfl) Tryz.underlying23 info3 rfl (by decide) (out.length + 1) (ints (out.drop out.length)) (upd_same _ _ _) (by rw [List.length_append, List.length_append, LT.out, List.length_nil, Nat.zero_add]; rfl) (by rfl) (some ⟨gb v, out.length, none⟩) 0 _ (by rfl) (by rw [ints_length, List.length_drop]; exact Nat.sub_self _) (by simp) RD9.out (ints_one _) hz9 (by omega) ?_; intro A10 c10 w10 H10 B10; have HH10 : Hid _ := H10; have BB10 : Hid _ := BB9.out.trans B10; clear H10 B10) | (refine step_many3 HL0b.out (.loc 1) (by rfl) _ _ 23 3 (.int .i64 0) 8 (by rfl) Tryz.underlying23 info3 rfl (by decide) 0 (ints (out.take out.length)) (upd_same _ _ _) (by rfl) (by rfl) (some ⟨gb v, 0, none⟩) out.length _ (by rfl) LT.out (by simp) RDb.out (ints_one _) hbw6 (by omega) ?_; intro A8 c8 w8 H8 B8 G8; have e8c : w8.cell? ⟨w4.heap.size + 1, 0, none⟩ = some (.int .i64 x) := KXB.out w8 G8; have hz8 : base ≤ w8.heap.size := Nat.le_trans hbw6 B8.size; have HH8 : Hid _ := H8; have BH8 : Hid _ := BL0b.out.trans B8; clear H8 B8 G8) | (refine step_pushAt HH8.out (.loc 1) (by rfl) _ _ 23 3 (.int .i64 0) 8 (by rfl) Tryz.underlying23 info3 rfl (by decide) out.length (.int .i64 x) (upd_same _ _ _) (by rw [List.length_append, LT.out]; exact Nat.zero_add out.length) (by rfl) (w4.heap.size + 1) (by rfl) e8c (by rfl) hz8 (by omega) ?_; intro A9 c9 w9 H9 B9; have RD9 : Hid _ := reads_drop H9 (k := .loc 0) rfl out.length (a' := ⟨gb v, out.length, none⟩) (fun h => absurd h (Nat.lt_irrefl _)); have hz9 : base ≤ w9.heap.size := Nat.le_trans hz8 B9.size; have HH9 : Hid _ := H9; have BB9 : Hid _ := BH8.out.trans B9; clear H9 B9) | (refine step_many3 HL0c.out (.loc 1) (by rfl) _ _ 23 3 (.int .i64 0) 8 (by rfl) Tryz.underlying23 info3 rfl (by decide) 0 (ints (out.take out.length)) (upd_same _ _ _) (by rfl) (by rfl) (some ⟨gb v, 0, none⟩) out.length _ (by rfl) LT.out (by simp) RDc.out (ints_one _) hbw7 (by omega) ?_; intro A8 c8 w8 H8 B8 G8; have e8d : w8.cell? ⟨w4.heap.size, 0, none⟩ = some (.int .i64 x) := KXC.out w8 G8; have hz8 : base ≤ w8.heap.size := Nat.le_trans hbw7 B8.size; have HH8c : Hid _ := H8; have BH8c : Hid _ := BL0c.out.trans B8; clear H8 B8 G8) | (refine step_pushAt HH8c.out (.loc 1) (by rfl) _ _ 23 3 (.int .i64 0) 8 (by rfl) Tryz.underlying23 info3 rfl (by decide) out.length (.int .i64 x) (upd_same _ _ _) (by rw [List.length_append, LT.out]; exact Nat.zero_add out.length) (by rfl) w4.heap.size (by rfl) e8d (by rfl) hz8 (by omega) ?_; intro A9 c9 w9 H9 B9; have RD9 : Hid _ := reads_drop H9 (k := .loc 0) rfl out.length (a' := ⟨gb v, out.length, none⟩) (fun h => absurd h (Nat.lt_irrefl _)); have hz9 : base ≤ w9.heap.size := Nat.le_trans hz8 B9.size; have HH9 : Hid _ := H9; have BB9 : Hid _ := BH8c.out.trans B9; clear H9 B9) | (trace_state; fail))
                all_goals
                  go_wp2_with fail
                  go_roundg m
                  case measure => omega
                  case rel => exact ⟨i + 1, insM out x, .slice A10 (insM out x).length c10, by go_num, by rw [ins_len LQ.out I3.out, Nat.sub_self]; rfl, by omega, (by have := sort_fin HH10.out; rw [ins_row I3.out] at this; rw [ins_len LQ.out I3.out, Nat.sub_self]; exact this), BB10.out, TT.out, by rw [ins_len LQ.out I3.out]; omega, ins_memW ⟨hx0, hx1⟩ OL.out, fun h => by rw [ins_len LQ.out I3.out] at h; omega⟩
            · obtain rfl : out = [] := List.eq_nil_of_length_eq_zero (by omega)
              have hv := NV.out rfl
              subst hv
              obtain rfl : AV = none := AE.out.symm
              have RN : Hid (∀ W : World, Reads W none (ints [])) := fun W => ⟨fun _ => rfl, fun b h => by cases h⟩
              go_wp2_with fail
              go_quiet (fail)
              have H3 : Hid _ := H2H.out.drewN nq
              have B3 : Hid _ := below_drewN_ BW.out nq
              have ex3 : (wr.drewN nq).cell? ⟨b, o + i, none⟩ = some (.int .i64 x) := ex
              have hbw3 : base ≤ (wr.drewN nq).heap.size := hbw
              generalize wr.drewN nq = w3 at *
              clear H2H BW ex
              go_wp2_with fail
              go_quiet (fail)
              have H4 : Hid _ := H3.out.drewN nq
              have B4 : Hid _ := below_drewN_ B3.out nq
              have ex4 : (w3.drewN nq).cell? ⟨b, o + i, none⟩ = some (.int .i64 x) := ex3
              have hbw4 : base ≤ (w3.drewN nq).heap.size := hbw3
              generalize w3.drewN nq = w4 at *
              clear H3 B3 ex3
              have HL0 : Hid _ := Holds.lit0 H4.out.drew (.loc 1) hbw4 3
              have BL0 : Hid _ := B4.out.drew.alloc hbw4 (.cells #[] 3)
              have ex5 := cell_alloc_keep w4.drew (.cells #[] 3) _ _ ex4
              have ex5b : (w4.alloc (.cells #[] 3)).drew.cell? ⟨b, o + i, none⟩ = some (.int .i64 x) := ex5
              have hbw5 : base ≤ (w4.drew.alloc (.cells #[] 3)).heap.size := by rw [size_alloc]; exact Nat.le_succ_of_le hbw4
              have HL0b : Hid _ := ((Holds.lit0 H4.out (.loc 1) hbw4 3).alloc (.cells #[.int .i64 x] 3)).drew
              have BL0b : Hid _ := ((B4.out.alloc hbw4 (.cells #[] 3)).alloc (by rw [size_alloc]; exact Nat.le_succ_of_le hbw4) (.cells #[.int .i64 x] 3)).drew
              have hbw6 : base ≤ ((w4.alloc (.cells #[] 3)).alloc (.cells #[.int .i64 x] 3)).drew.heap.size := by
                show base ≤ ((w4.alloc (.cells #[] 3)).alloc (.cells #[.int .i64 x] 3)).heap.size
                rw [size_alloc, size_alloc]; omega
              have KXB : Hid (∀ w8 : World, ((w4.alloc (.cells #[] 3)).alloc (.cells #[.int .i64 x] 3)).drew.grownBy w8 (some w4.heap.size) → w8.cell? ⟨w4.heap.size + 1, 0, none⟩ = some (.int .i64 x)) := fun w8 G8 => by
                rw [World.cell?_of_block (a := ⟨w4.heap.size + 1, 0, none⟩) (G8.block (w4.heap.size + 1) (by show w4.heap.size + 1 < ((w4.alloc (.cells #[] 3)).alloc (.cells #[.int .i64 x] 3)).heap.size; rw [size_alloc, size_alloc]; omega) (by intro e; injection e with e; omega))]
                exact cell_new_drew _ _ _ _ (by rw [size_alloc])
              have HL0c : Hid (Holds base ((w4.alloc (.cells #[.int .i64 x] 3)).alloc (.cells #[] 3)).drew (upd (locs (.row (.slice none 0 0) 3 (ints []))) (.loc 1) (.row (.slice (some ⟨w4.heap.size + 1, 0, none⟩) 0 0) 3 []))) := by
                have := (Holds.lit0 (H4.out.alloc (.cells #[.int .i64 x] 3)) (.loc 1) (by rw [size_alloc]; exact Nat.le_succ_of_le hbw4) 3).drew
                rw [size_alloc] at this
                exact this
              have BL0c : Hid _ := ((B4.out.alloc hbw4 (.cells #[.int .i64 x] 3)).alloc (by rw [size_alloc]; exact Nat.le_succ_of_le hbw4) (.cells #[] 3)).drew
              have hbw7 : base ≤ ((w4.alloc (.cells #[.int .i64 x] 3)).alloc (.cells #[] 3)).drew.heap.size := by
                show base ≤ ((w4.alloc (.cells #[.int .i64 x] 3)).alloc (.cells #[] 3)).heap.size
                rw [size_alloc, size_alloc]; omega
              have KXC : Hid (∀ w8 : World, ((w4.alloc (.cells #[.int .i64 x] 3)).alloc (.cells #[] 3)).drew.grownBy w8 (some (w4.heap.size + 1)) → w8.cell? ⟨w4.heap.size, 0, none⟩ = some (.int .i64 x)) := fun w8 G8 => by
                rw [World.cell?_of_block (a := ⟨w4.heap.size, 0, none⟩) (G8.block w4.heap.size (by show w4.heap.size < ((w4.alloc (.cells #[.int .i64 x] 3)).alloc (.cells #[] 3)).heap.size; rw [size_alloc, size_alloc]; omega) (by intro e; injection e with e; omega))]
                exact cell_alloc_keep _ (.cells #[] 3) _ _ (cell_new w4 (.int .i64 x) 3 _ rfl)
              go_wp2_with fail
              go_region_law (first | (refine step_many2 HL0.out (.loc 1) (by rfl) _ _ 23 3 (.int .i64 0) 8 (by rfl) Tryz.underlying23 info3 rfl (by decide) 0 (ints []) (upd_same _ _ _) (by rfl) (by rfl) none 0 0 (by rfl) (by rfl) (fun _ => rfl) (RN.out _) (ints_one _) hbw5 (by omega) ?_; intro A8 c8 w8 H8 B8; have e8 : w8.cell? ⟨b, o + i, none⟩ = some (.int .i64 x) := (World.cell?_of_block (a := ⟨b, o + i, none⟩) (B8.block b hbb)).trans ex5; have hz8 : base ≤ w8.heap.size := Nat.le_trans hbw5 B8.size; have LS8 : Hid _ := H8.alloc (.cells #[.int .i64 x] 3); have BL8 : Hid _ := (BL0.out.trans B8).alloc hz8 (.cells #[.int .i64 x] 3); clear H8 B8) | (refine step_pushAt LS8.out (.loc 1) (by rfl) _ _ 23 3 (.int .i64 0) 8 (by rfl) Tryz.underlying23 info3 rfl (by decide) 0 (.int .i64 x) (upd_same _ _ _) (by rfl) (by rfl) w8.heap.size (by rfl) (cell_new _ _ _ _ rfl) (by rfl) (by rw [size_alloc]; exact Nat.le_succ_of_le hz8) (by omega) ?_; intro A9 c9 w9 H9 B9; have hz9 : base ≤ w9.heap.size := Nat.le_trans (by rw [size_alloc]; exact Nat.le_succ_of_le hz8) B9.size; have HH9 : Hid _ := H9; have BB9 : Hid _ := BL8.out.trans B9; clear H9 B9) | (refine step_many2 HH9.out (.loc 1) (by rfl) _ _ 23 3 (.int .i64 0) 8 (by rfl) Tryz.underlying23 info3 rfl (by decide) 1 (ints []) (upd_same _ _ _) (by rfl) (by rfl) none 0 0 (by rfl) (by rfl) (fun _ => rfl) (RN.out _) (ints_one _) hz9 (by omega) ?_; intro A10 c10 w10 H10 B10; have HH10 : Hid _ := H10; have BB10 : Hid _ := BB9.out.trans B10; clear H10 B10) | (refine step_many3 HL0b.out (.loc 1) (by rfl) _ _ 23 3 (.int .i64 0) 8 (by rfl) Tryz.underlying23 info3 rfl (by decide) 0 (ints []) (upd_same _ _ _) (by rfl) (by rfl) none 0 0 (by rfl) (by rfl) (fun _ => rfl) (RN.out _) (ints_one _) hbw6 (by omega) ?_; intro A8 c8 w8 H8 B8 G8; have e8c : w8.cell? ⟨w4.heap.size + 1, 0, none⟩ = some (.int .i64 x) := KXB.out w8 G8; have hz8 : base ≤ w8.heap.size := Nat.le_trans hbw6 B8.size; have HH8 : Hid _ := H8; have BH8 : Hid _ := BL0b.out.trans B8; clear H8 B8 G8) | (refine step_pushAt HH8.out (.loc 1) (by rfl) _ _ 23 3 (.int .i64 0) 8 (by rfl) Tryz.underlying23 info3 rfl (by decide) 0 (.int .i64 x) (upd_same _ _ _) (by rfl) (by rfl) (w4.heap.size + 1) (by rfl) e8c (by rfl) hz8 (by omega) ?_; intro A9 c9 w9 H9 B9; have hz9 : base ≤ w9.heap.size := Nat.le_trans hz8 B9.size; have HH9 : Hid _ := H9; have BB9 : Hid _ := BH8.out.trans B9; clear H9 B9) | (refine step_many3 HL0c.out (.loc 1) (by rfl) _ _ 23 3 (.int .i64 0) 8 (by rfl) Tryz.underlying23 info3 rfl (by decide) 0 (ints []) (upd_same _ _ _) (by rfl) (by rfl) none 0 0 (by rfl) (by rfl) (fun _ => rfl) (RN.out _) (ints_one _) hbw7 (by omega) ?_; intro A8 c8 w8 H8 B8 G8; have e8d : w8.cell? ⟨w4.heap.size, 0, none⟩ = some (.int .i64 x) := KXC.out w8 G8; have hz8 : base ≤ w8.heap.size := Nat.le_trans hbw7 B8.size; have HH8c : Hid _ := H8; have BH8c : Hid _ := BL0c.out.trans B8; clear H8 B8 G8) | (refine step_pushAt HH8c.out (.loc 1) (by rfl) _ _ 23 3 (.int .i64 0) 8 (by rfl) Tryz.underlying23 info3 rfl (by decide) 0 (.int .i64 x) (upd_same _ _ _) (by rfl) (by rfl) w4.heap.size (by rfl) e8d (by rfl) hz8 (by omega) ?_; intro A9 c9 w9 H9 B9; have hz9 : base ≤ w9.heap.size := Nat.le_trans hz8 B9.size; have HH9 : Hid _ := H9; have BB9 : Hid _ := BH8c.out.trans B9; clear H9 B9) | (trace_state; fail))
              all_goals
                go_wp2_with fail
                go_roundg m
                case measure => omega
                case rel => exact ⟨i + 1, insM [] x, .slice A10 1 c10, by go_num, rfl, by omega, sort_fin HH10.out, BB10.out, TT.out, by show 1 ≤ i + 1; omega, ins_memW ⟨hx0, hx1⟩ OL.out, fun h => by cases h⟩
    · have hnil : l.drop i = [] := List.drop_eq_nil_of_le (by omega)
      have hge : decide (i < l.length) = false := decide_eq_false (by omega)
      have hge2 : l.length ≤ i := by omega
      rw [hnil] at hT
      have hT5 : out = sortedM l := hT
      have HH : Hid _ := H
      have BH : Hid _ := B
      have TT : Hid _ := hT5
      clear hlt hnil hT H B hob hT5
      go_wp2_with fail
      go_ret
      exact ⟨v, by rw [← TT.out]; rfl, BH.out, by rw [← TT.out]; exact HH.out⟩

/-- The size of a number, the least one's too. -/
def szM (x : Int) : Int := if x = -9223372036854775808 then 9223372036854775807 else (x.natAbs : Int)
theorem szM_bd {x : Int} (h0 : -9223372036854775808 ≤ x) (h1 : x ≤ 9223372036854775807) : -9223372036854775807 ≤ szM x ∧ szM x ≤ 9223372036854775807 := by
  unfold szM; split <;> omega
theorem size_sz (x : Int) (w : World) (h0 : -9223372036854775808 ≤ x) (h1 : x ≤ 9223372036854775807) :
    Calls Tryz.prog 14 #[.int .i64 x] w fun e w' => e = .returned (.int .i64 (szM x)) ∧ w = w' := by
  by_cases h4 : x = -9223372036854775808
  · have e : szM x = 9223372036854775807 := by unfold szM; rw [if_pos h4]
    rw [e]
    subst h4
    go_enter Tryz.func14, Tryz.ntmps14
    go_wp2_with fail
    go_ret
    exact ⟨by show Ending.returned (Value.int .i64 (max (wrap64 9223372036854775808) 9223372036854775807)) = _; exact ret_int (by have h9 : wrap64 9223372036854775808 = -9223372036854775808 := (by unfold wrap64; omega); rw [h9]; omega), rfl⟩
  · have e : szM x = (x.natAbs : Int) := by unfold szM; rw [if_neg h4]
    rw [e]
    exact size_wide x w (by omega) h1

def szL (c : List Int) : List Int := c.map szM
def szAll (D : List (List Int)) : List Int := D.flatMap szL
def szVars (D : List (List Int)) : List Int := sortedM (szAll D)
def VarRelS (base : Nat) (w : World) (D : List (List Int)) (k : Nat) (x3 x10 : Value) (wr : World) : Prop :=
  ∃ (i : Nat) (acc : List Int) (v : Value), x10 = .int .i64 (i : Int) ∧ x3 = .slice (ad v) acc.length (cp v) ∧ k + i = D.length ∧ Holds base wr (locs (.row v 3 (ints acc))) ∧ Below base w wr ∧ acc ++ szAll (D.drop i) = szAll D
def VarRelS2 (base : Nat) (w : World) (c : List Int) (T : List Int) (k : Nat) (x3 x16 : Value) (wr : World) : Prop :=
  ∃ (i : Nat) (acc : List Int) (v : Value), x16 = .int .i64 (i : Int) ∧ x3 = .slice (ad v) acc.length (cp v) ∧ k + i = c.length ∧ Holds base wr (locs (.row v 3 (ints acc))) ∧ Below base w wr ∧ acc ++ szL (c.drop i) = T

set_option maxRecDepth 100000 in
set_option maxHeartbeats 2000000 in
theorem szVars_any {base : Nat} {w : World} (hbase : base ≤ w.heap.size) {A : Option Addr} {D : List (List Int)} {cc : Nat} (hA : LiesR base w A D) (hD : D.length ≤ 60000) (hc : ∀ i, i < D.length → (D.getD i []).length ≤ 60000) (hall : (szAll D).length ≤ 60000) (hl : ∀ e ∈ D, ∀ x ∈ e, -9223372036854775808 ≤ x ∧ x ≤ 9223372036854775807) :
    Calls Tryz.prog 5 #[.slice A D.length cc] w fun e w' => ∃ v', e = .returned (.slice (ad v') (szVars D).length (cp v')) ∧ Below base w w' ∧ Holds base w' (locs (.row v' 3 (ints (szVars D)))) := by
  have H0 : Holds base w (fun _ => Res.non) := Holds.nothing _ _
  have H1 := nil_put H0 hbase (.loc 0) 3
  have e1 : upd (fun _ => Res.non) (.loc 0) (.row (.slice none 0 0) 3 []) = locs (.row (.slice none 0 0) 3 (ints [])) := rfl
  rw [e1] at H1
  have start : Hid (VarRelS base w D D.length (.slice none 0 0) (.int .i64 ((0 : Nat) : Int)) w) := ⟨0, [], .slice none 0 0, rfl, rfl, rfl, H1, Below.refl _ _, by simp⟩
  have LA : Hid _ := hA
  have LC : Hid _ := hc
  have LL : Hid _ := hl
  clear H0 H1 e1 hA hc hl
  go_enter Tryz.func5, Tryz.ntmps5
  go_wp2_with fail
  go_loopg [3, 4] D.length (fun k x3 x4 wr => VarRelS base w D k x3 x4 wr)
  case atStart => exact start.out
  case round =>
    clear start
    obtain ⟨i, acc, v, rfl, rfl, hki, H, B, hT⟩ := hrel
    by_cases hlt : i < D.length
    · obtain ⟨m, rfl⟩ : ∃ m, gk = m + 1 := ⟨gk - 1, by omega⟩
      have hL := LiesR.below LA.out B
      obtain ⟨b, o, rfl, hbb, hcell⟩ := liesR_at hL hlt
      obtain ⟨A', c', ei, hc', hli⟩ := hcell i hlt
      have hd : D.drop i = D.getD i [] :: D.drop (i + 1) := by
        rw [List.drop_eq_getElem_cons hlt]; simp [hlt]
      have hcl := LC.out i hlt
      have hcm : ∀ x ∈ D.getD i [], -9223372036854775808 ≤ x ∧ x ≤ 9223372036854775807 := LL.out _ (row_ne D [] hlt)
      rw [hd] at hT
      have EI : Hid _ := fun (W : World) (hW : Below base wr W) => (World.cell?_of_block (a := ⟨b, o + i, none⟩) (hW.block b hbb)).trans ei
      generalize D.getD i [] = c at *
      have hT2 : acc ++ szL c ++ szAll (D.drop (i + 1)) = szAll D := by rw [← hT]; simp [szAll]
      have start2 : Hid (VarRelS2 base wr c (acc ++ szL c) c.length (.slice (ad v) acc.length (cp v)) (.int .i64 ((0 : Nat) : Int)) wr) := ⟨0, acc, v, rfl, rfl, rfl, H, Below.refl _ _, by simp⟩
      have OB : Hid _ := B
      have hlen : (acc ++ szL c).length ≤ 60000 := by
        have : ((acc ++ szL c) ++ szAll (D.drop (i + 1))).length ≤ 60000 := by rw [hT2]; exact hall
        simp only [List.length_append] at this ⊢; omega
      generalize hTT : acc ++ szL c = T at *
      clear hT hTT hd hcell hL
      have CM : Hid _ := hcm
      have LI : Hid _ := hli
      have HT2 : Hid _ := hT2
      clear hcm hli hT2 H B ei
      go_wp2_with fail
      go_loopg [3, 5] c.length (fun k x3 x5 w' => VarRelS2 base wr c T k x3 x5 w')
      case atStart => exact start2.out
      case round =>
        clear start2
        obtain ⟨j, acc2, v2, rfl, rfl, hkj, H2, B2, hT3⟩ := hrel
        have hbz : base ≤ wr.heap.size := Nat.le_trans (Nat.le_trans hbase OB.out.size) B2.size
        have ei2 := EI.out _ B2
        by_cases hlt2 : j < c.length
        · obtain ⟨b2, o2, rfl, hbb2, hcell2⟩ := lies_at (Lies.below LI.out B2) hlt2
          have e2 := hcell2 j hlt2
          have hd2 : c.drop j = c.getD j 0 :: c.drop (j + 1) := by
            rw [List.drop_eq_getElem_cons hlt2]; simp [hlt2]
          have hx := CM.out (c.getD j 0) (row_ne c 0 hlt2)
          rw [hd2] at hT3
          generalize c.getD j 0 = x at *
          have hT4 : (acc2 ++ [(szM x)]) ++ szL (c.drop (j + 1)) = T := by rw [← hT3]; simp [szL]
          have hl2 : acc2.length + 1 ≤ 60000 := by
            have := congrArg List.length hT4
            simp only [List.length_append, List.length_singleton] at this; omega
          have XH : Hid _ := hT4
          have LS : Hid _ := H2.alloc (.cells #[.int .i64 (szM x)] 3)
          have BL : Hid _ := B2.alloc hbz (.cells #[.int .i64 (szM x)] 3)
          clear hT3 hT4 hd2 hcell2 H2 B2
          obtain ⟨hx1, hx2⟩ := hx
          go_wp2_with (first | (go_at_call 14; refine (size_sz x _ hx1 hx2).mono ?_; rintro e w' ⟨rfl, rfl⟩) | (at_builtin; refine law_pushAt LS.out (.loc 0) rfl (.tmp 21) (.tmp 30) 23 3 (.int .i64 0) 8 rfl Tryz.underlying23 info3 rfl (by decide) acc2.length (.int .i64 (szM x)) rfl (ints_length _) rfl wr.heap.size rfl ?hy rfl ?hb ?hl ?_))
          try (case hy => first | exact cell_new _ _ _ _ (by simp) | exact cell_new_drew _ _ _ _ (by simp))
          case hb => simp; omega
          case hl => omega
          intro A3 c3 w6 H6 B6 _
          rw [ints_snoc, upd_locs] at H6
          have H6H : Hid _ := H6
          have B6H : Hid _ := BL.out.trans B6
          clear H6 B6
          go_wp2_with fail
          go_roundg (gk - 1)
          case measure => omega
          case rel => exact ⟨j + 1, acc2 ++ [(szM x)], .slice A3 (acc2.length + 1) c3, by go_num, by simp [ad, cp], by omega, H6H.out, B6H.out, XH.out⟩
        · have hge : decide (j < c.length) = false := decide_eq_false (by omega)
          have hge2 : c.length ≤ j := by omega
          have hnil : c.drop j = [] := List.drop_eq_nil_of_le hge2
          rw [hnil] at hT3
          have hT5 : acc2 = T := by rw [← hT3]; simp [szL]
          subst hT5
          have HH : Hid _ := H2
          have B9 : Hid _ := OB.out.trans B2
          clear hlt2 hnil hT3 H2 B2
          go_wp2_with fail
          go_roundg m
          case measure => omega
          case rel => exact ⟨i + 1, acc2, v2, by go_num, rfl, by omega, HH.out, B9.out, HT2.out⟩
    · have hnil : D.drop i = [] := List.drop_eq_nil_of_le (by omega)
      have hge : decide (i < D.length) = false := decide_eq_false (by omega)
      have hge2 : D.length ≤ i := by omega
      rw [hnil] at hT
      have hT5 : acc = szAll D := by rw [← hT]; simp [szAll]
      subst hT5
      have hbz : base ≤ wr.heap.size := Nat.le_trans hbase B.size
      have hal : ∀ x ∈ szAll D, -9223372036854775807 ≤ x ∧ x ≤ 9223372036854775807 := by
        intro x hx
        unfold szAll at hx
        obtain ⟨e, he, hx⟩ := List.mem_flatMap.1 hx
        obtain ⟨y, hy, rfl⟩ := List.mem_map.1 hx
        have := LL.out e he y hy
        exact szM_bd this.1 this.2
      have SO := sorted_wide (base := wr.heap.size) (Nat.le_refl _) (c := cp v) (row_lies H (k := .loc 0) rfl) hall hal
      have OB : Hid _ := B
      clear hlt hnil hT H B LA LC LL hal
      go_wp2_with fail
      refine SO.mono ?_
      rintro e w2 ⟨v', rfl, B2, H2⟩
      have HE : Hid _ := H2.down hbz
      have BE : Hid _ := OB.out.trans (B2.mono hbz)
      clear SO H2 B2
      go_wp2_with fail
      go_ret
      exact ⟨v', rfl, BE.out, HE.out⟩
end Go.Proofs.YtdllaphnkbnpoaaGreat
