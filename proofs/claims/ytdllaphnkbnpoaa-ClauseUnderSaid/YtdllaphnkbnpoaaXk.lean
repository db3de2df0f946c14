/- Which clauses are left: one answer for the program and the reference; the program's walk. -/
import Derived.Test.YtdllaphnkbnpoaaXg
namespace Go.Proofs.Ytdllaphnkbnpoaa
open Go.RowKit Go.Proofs

/-- Whole numbers one after another. -/
def rngI : Nat → Nat → List Int
  | _, 0 => []
  | m, k + 1 => (m : Int) :: rngI (m + 1) k
theorem rng_len : ∀ k m, (rngI m k).length = k
  | 0, _ => rfl
  | k + 1, m => by show (rngI (m + 1) k).length + 1 = _; rw [rng_len]
theorem rng_mem : ∀ k m (x : Int), x ∈ rngI m k → (m : Int) ≤ x ∧ x < (m : Int) + k
  | 0, _, _, h => by cases h
  | k + 1, m, x, h => by
    rcases List.mem_cons.1 h with rfl | h
    · omega
    · have := rng_mem k (m + 1) x h; omega

/-- The clauses of these numbers. -/
def pickR (D : List (List Int)) (ls : List Int) : List (List Int) := ls.map fun k => D.getD k.natAbs []

noncomputable def coreM (D : List (List Int)) : Nat → Nat → List Int → List Int
  | 0, _, left => left
  | k + 1, m, left =>
    if satOf (pickR D (left.filter fun x => decide (x ≠ (m : Int)))) [] = true then coreM D k (m + 1) left
    else coreM D k (m + 1) (left.filter fun x => decide (x ≠ (m : Int)))

theorem filter_pre {pre : List Int} {m k : Nat} (h : ∀ x ∈ pre, x < (m : Int)) : (pre ++ rngI m (k + 1)).filter (fun x => decide (x ≠ (m : Int))) = pre ++ rngI (m + 1) k := by
  rw [List.filter_append]
  congr 1
  · rw [List.filter_eq_self]
    intro x hx
    have := h x hx
    simp; omega
  · show (((m : Int) :: rngI (m + 1) k).filter fun x => decide (x ≠ (m : Int))) = _
    rw [List.filter_cons_of_neg (by simp), List.filter_eq_self]
    intro x hx
    have := rng_mem k (m + 1) x hx
    simp; omega
theorem erase_pre {pre : List Int} {m k : Nat} : (pre ++ rngI m (k + 1)).take pre.length ++ (pre ++ rngI m (k + 1)).drop (pre.length + 1) = pre ++ rngI (m + 1) k := by
  rw [List.take_left]
  congr 1
  show (pre ++ ((m : Int) :: rngI (m + 1) k)).drop (pre.length + 1) = _
  simp [List.drop_append]

theorem pick_legal {D : List (List Int)} {occ : List Nat} {ls : List Int} (h : Legal D occ) (hl : ls.length ≤ 60) (hb : ∀ x ∈ ls, 0 ≤ x ∧ x < (D.length : Int)) : Legal (pickR D ls) occ := by
  have hin : ∀ e ∈ pickR D ls, e ∈ D := fun e he => by
    obtain ⟨x, hx, rfl⟩ := List.mem_map.1 he
    have := hb x hx
    exact row_ne D [] (by omega)
  exact ⟨by unfold pickR; rw [List.length_map]; exact hl, fun e he => h.row e (hin e he), fun e he => h.lit e (hin e he), h.o12, h.oz⟩

/-- What a run of the solver tells. -/
def RunSat (D : List (List Int)) (w : World) (e : Ending) (w' : World) : Prop :=
  Below w.heap.size w w' ∧ ∃ (A1 : Option Addr) (n1 c1 : Nat) (A2 : Option Addr) (n2 c2 : Nat) (st : Int), e = .returned (.tuple #[.agg #[.bool (satOf D []), .slice A1 n1 c1, .slice A2 n2 c2, .int .i64 st], .int .i64 0])

theorem run_sat {D : List (List Int)} {occ : List Nat} (h : Legal D occ) {w : World} {A : Option Addr} {c : Nat} (hA : LiesR w.heap.size w A D) :
    Calls Try.prog 34 #[.slice A D.length c, .int .i64 1000000] w (RunSat D w) := by
  obtain ⟨σ, σ', r, a1, a2, a3, a4⟩ := solve_model h
  obtain ⟨τ, r', b1, b2, b3⟩ := a4 1000000
  obtain ⟨z1, z2⟩ := b2 (by omega)
  subst z1
  subst z2
  have hgd : ∀ i, i < D.length → D.getD i [] ∈ D := fun i hi => row_ne D [] hi
  have hr01 : r' = 0 ∨ r' = 1 := by rcases a2 with ⟨z, _⟩ | ⟨z, _⟩ <;> simp [z]
  have hph : r' = 1 → 0 < τ.phase.length := by rcases a2 with ⟨z, _⟩ | ⟨z, y, _⟩ <;> intro q <;> first | omega | exact y
  refine (run_any (cc := c) (m := 60002) hA (by have := h.len; omega) (fun i hi => by have := h.row _ (hgd i hi); omega) h.all (fun e he x hx => by have := h.lit e he x hx; omega) a1 b1 (by omega) (by omega) hph).mono ?_
  rintro e w' ⟨B, alt⟩
  refine ⟨B, ?_⟩
  rcases alt with ⟨hc, _⟩ | ⟨q1, _, p, μ, he, _⟩ | ⟨q1, _, L, v, he, _⟩
  · omega
  · subst q1
    rw [fin_none a2]
    exact ⟨_, _, _, _, _, _, _, he⟩
  · subst q1
    rw [(fin_some a2).2]
    exact ⟨_, _, _, _, _, _, _, he⟩

/-- A clone of whole numbers, and one taken out of it. -/
theorem cloneI_any {w : World} {A : Option Addr} {xs : List Int} {c : Nat} (h : Lies w.heap.size w A xs) (hp : 0 < xs.length) (h6 : xs.length ≤ 60000) :
    Calls Try.prog 39 #[.slice A xs.length c] w fun e w' => ∃ v, e = .returned (.slice (ad v) xs.length (cp v)) ∧ Holds w.heap.size w' (locs (.row v 3 (ints xs))) ∧ Below w.heap.size w w' := by
  obtain ⟨b, o, rfl, hb, hc⟩ := lies_at h hp
  refine (Try.slices_Clone_int b o xs.length c xs w (Nat.le_refl _) (by omega) hc).mono ?_
  rintro e w' ⟨v', rfl, ho, _, B⟩
  have H := (Holds.nothing w.heap.size w).laid (.loc 0) ho (by simp) B (Nat.le_refl _)
  rw [List.take_length] at H
  have e1 : upd (fun _ => Res.non) (.loc 0) (.row v' 3 (xs.map (Value.int .i64))) = locs (.row v' 3 (ints xs)) := rfl
  rw [e1] at H
  have hs := H.sl (k := .loc 0) rfl
  rw [ints_length] at hs
  exact ⟨v', by rw [← hs], H, B⟩

theorem delete_own {base : Nat} {w : World} {v : Value} {xs : List Int} {i : Nat} (H : Holds base w (locs (.row v 3 (ints xs)))) (hi : i < xs.length) (h6 : xs.length ≤ 60000) :
    Calls Try.prog 38 #[.slice (ad v) xs.length (cp v), .int .i64 (i : Int), .int .i64 ((i : Int) + 1)] w fun e w' => ∃ v', e = .returned (.slice (ad v') (xs.take i ++ xs.drop (i + 1)).length (cp v')) ∧ Below base w w' ∧ Holds base w' (locs (.row v' 3 (ints (xs.take i ++ xs.drop (i + 1))))) := by
  have hcm := H.capMax (k := .loc 0) rfl
  obtain ⟨g, cap, hv, hbk, hg, hc, ho, hh⟩ := row_facts H (by omega)
  rw [hv] at hcm ⊢
  have hcap : cap ≤ 9223372036854775807 := by simpa only [maxLen, cp] using hcm
  refine (Try.slices_Delete_int g 0 cap i (i + 1) xs w hh hc hcap (by omega) (by omega)).mono ?_
  rintro e w' ⟨rfl, q, rfl⟩
  rw [hv] at ho
  have hl : (xs.take i ++ xs.drop (i + 1)).length = xs.length - 1 := by simp; omega
  have o2 := Go.Lib.ownsRow_putRow (enc := Value.int .i64) (q := q) (k := xs.length - 1) (ys := xs.take i ++ xs.drop (i + 1) ++ List.replicate (i + 1 - i) 0) ho (by simp; omega) (by omega)
  rw [List.take_left' hl] at o2
  have e1 : xs.length - (i + 1 - i) = xs.length - 1 := by omega
  rw [e1]
  exact ⟨_, by rw [hl]; rfl, Go.Lib.below_putRow (Below.refl base w) hbk, holds_locs hbk o2 hl.symm⟩

def CoreRes (D : List (List Int)) (w : World) (e : Ending) (w' : World) : Prop :=
  Below w.heap.size w w' ∧ ((satOf D [] = true ∧ e = .returned (.tuple #[.slice none 0 0, .int .i64 1])) ∨
    (satOf D [] = false ∧ ∃ A' c', e = .returned (.tuple #[.slice A' (coreM D D.length 0 (rngI 0 D.length)).length c', .int .i64 0]) ∧ Lies w'.heap.size w' A' (coreM D D.length 0 (rngI 0 D.length))))

def RnRel (base : Nat) (w : World) (n : Nat) (k : Nat) (x9 x37 : Value) (wr : World) : Prop :=
  ∃ (j : Nat) (acc : List Int) (v : Value), x37 = .int .i64 (j : Int) ∧ x9 = .slice (ad v) acc.length (cp v) ∧ k + j = n ∧ Holds base wr (locs (.row v 3 (ints acc))) ∧ Below base w wr ∧ acc ++ rngI j k = rngI 0 n
def PcRel (w : World) (D : List (List Int)) (T : List Int) (k : Nat) (x9 x11 : Value) (wr : World) : Prop :=
  ∃ (m : Nat) (pre : List Int) (A : Option Addr) (c : Nat), x9 = .slice A (pre ++ rngI m k).length c ∧ x11 = .int .i64 (pre.length : Int) ∧ k + m = D.length ∧ pre.length ≤ m ∧ (∀ x ∈ pre, 0 ≤ x ∧ x < (m : Int)) ∧ Lies wr.heap.size wr A (pre ++ rngI m k) ∧ Below w.heap.size w wr ∧ coreM D k m (pre ++ rngI m k) = T
def LcRel (w : World) (D : List (List Int)) (less : List Int) (k : Nat) (x13 x57 : Value) (wr : World) : Prop :=
  ∃ (j : Nat) (E : List (List Int)) (cs : List Value) (v : Value), x57 = .int .i64 (j : Int) ∧ x13 = .slice (ad v) E.length (cp v) ∧ k + j = less.length ∧ Holds w.heap.size wr (locs (.row v 26 cs)) ∧ Cells w.heap.size wr cs E ∧ Below w.heap.size w wr ∧ E ++ pickR D (less.drop j) = pickR D less

set_option maxRecDepth 100000 in
set_option maxHeartbeats 4000000 in
theorem pCore_any {D : List (List Int)} {occ : List Nat} (h : Legal D occ) {w : World} {A : Option Addr} {c : Nat} (hA : LiesR w.heap.size w A D) :
    Calls Try.prog 18 #[.slice A D.length c, .int .i64 1000000] w (CoreRes D w) := by
  have hD := h.len
  have hD6 : D.length ≤ 60000 := by omega
  have hask : askedM D 1000000 = 0 := by
    unfold askedM
    rw [check_ok h, if_neg (by simp), if_neg (by omega)]
  have C1 := asked_any (c := c) (fuel := 1000000) hA (Nat.le_refl _) (by omega) (fun j hj => by have := h.row _ (row_ne D [] hj); omega)
  rw [hask] at C1
  have RS : Hid (∀ W, Below w.heap.size w W → Calls Try.prog 34 #[.slice A D.length c, .int .i64 1000000] W (RunSat D W)) := fun W B => run_sat h ((hA.below B).mono B.size)
  have RP : Hid (∀ (ls : List Int) (W : World) (A9 : Option Addr) (c9 : Nat), ls.length ≤ 60 → (∀ x ∈ ls, 0 ≤ x ∧ x < (D.length : Int)) → LiesR W.heap.size W A9 (pickR D ls) → Calls Try.prog 34 #[.slice A9 (pickR D ls).length c9, .int .i64 1000000] W (RunSat (pickR D ls) W)) := fun ls W A9 c9 h1 h2 h3 => run_sat (pick_legal h h1 h2) h3
  have LA : Hid _ := hA
  unfold CoreRes
  generalize hTT : coreM D D.length 0 (rngI 0 D.length) = T
  have TH : Hid _ := hTT
  clear hA h hask hTT
  cases hb : satOf D [] with
  | true =>
    go_enter Try.func18, Try.ntmps18
    go_wp2_with fail
    refine C1.mono ?_
    rintro e w1 ⟨rfl, B1⟩
    have R1 := RS.out w1 B1
    have B1h : Hid _ := B1
    clear C1 B1 RS RP
    go_wp2_with fail
    refine R1.mono ?_
    rintro e w2 ⟨B2, A1, n1, c1, A2, n2, c2, st, rfl⟩
    rw [hb]
    have BE : Hid (Below w.heap.size w (w2.alloc (.cells #[.bool true, .slice A1 n1 c1, .slice A2 n2 c2, .int .i64 st] 30))) := (B1h.out.trans (B2.mono B1h.out.size)).alloc (by have := B1h.out.size; have := B2.size; omega) _
    clear R1 B2 hb
    go_wp2_with fail
    go_ret2
    exact ⟨BE.out, .inl ⟨by first | rfl | trivial, rfl⟩⟩
  | false =>
    go_enter Try.func18, Try.ntmps18
    go_wp2_with fail
    refine C1.mono ?_
    rintro e w1 ⟨rfl, B1⟩
    have R1 := RS.out w1 B1
    have B1h : Hid _ := B1
    clear C1 B1 RS
    go_wp2_with fail
    refine R1.mono ?_
    rintro e w2 ⟨B2, A1, n1, c1, A2, n2, c2, st, rfl⟩
    rw [hb]
    have BE : Hid (Below w.heap.size w (w2.alloc (.cells #[.bool false, .slice A1 n1 c1, .slice A2 n2 c2, .int .i64 st] 30))) := (B1h.out.trans (B2.mono B1h.out.size)).alloc (by have := B1h.out.size; have := B2.size; omega) _
    have start : Hid (RnRel (w2.alloc (.cells #[.bool false, .slice A1 n1 c1, .slice A2 n2 c2, .int .i64 st] 30)).heap.size (w2.alloc (.cells #[.bool false, .slice A1 n1 c1, .slice A2 n2 c2, .int .i64 st] 30)) D.length D.length (.slice none 0 0) (.int .i64 ((0 : Nat) : Int)) (w2.alloc (.cells #[.bool false, .slice A1 n1 c1, .slice A2 n2 c2, .int .i64 st] 30))) :=
      ⟨0, [], .slice none 0 0, rfl, rfl, rfl, nil_put (Holds.nothing _ _) (Nat.le_refl _) (.loc 0) 3, Below.refl _ _, rfl⟩
    clear R1 B2 hb
    go_wp2_with fail
    generalize w2.alloc (.cells #[.bool false, .slice A1 n1 c1, .slice A2 n2 c2, .int .i64 st] 30) = w3 at *
    go_loopg [9, 37] D.length (fun k x9 x37 wr => RnRel w3.heap.size w3 D.length k x9 x37 wr)
    case atStart => exact start.out
    case round =>
      clear start
      obtain ⟨j, acc, v, rfl, rfl, hkj, H, B, hT⟩ := hrel
      by_cases hlt : j < D.length
      · obtain ⟨m, rfl⟩ : ∃ m, gk = m + 1 := ⟨gk - 1, by omega⟩
        have hT2 : Hid ((acc ++ [(j : Int)]) ++ rngI (j + 1) m = rngI 0 D.length) := by
          rw [← hT, List.append_assoc]; rfl
        have hal : acc.length + 1 ≤ 60000 := by
          have := congrArg List.length hT2.out
          rw [rng_len, List.length_append, List.length_append, rng_len] at this
          simp only [List.length_singleton] at this
          omega
        have hbz := B.size
        have LS : Hid _ := H.alloc (.cells #[.int .i64 (j : Int)] 3)
        have BL : Hid _ := B.alloc hbz (.cells #[.int .i64 (j : Int)] 3)
        clear hT H B
        go_wp2_with (at_builtin; refine law_pushAt LS.out (.loc 0) rfl (.tmp 40) (.tmp 42) 26 3 (.int .i64 0) 8 rfl Try.underlying26 info3 rfl (by decide) acc.length (.int .i64 (j : Int)) rfl (ints_length _) rfl wr.heap.size rfl ?hy rfl ?hb ?hl ?_)
        try (case hy => first | exact cell_new _ _ _ _ (by simp) | exact cell_new_drew _ _ _ _ (by simp))
        case hb => simp; omega
        case hl => omega
        intro A3 c3 w6 H6 B6 _
        rw [ints_snoc, upd_locs] at H6
        have H6H : Hid _ := H6
        have B6H : Hid _ := BL.out.trans B6
        clear H6 B6
        go_wp2_with fail
        go_roundg m
        case measure => omega
        case rel => exact ⟨j + 1, acc ++ [(j : Int)], .slice A3 (acc.length + 1) c3, by go_num, by simp [ad, cp], by omega, H6H.out, B6H.out, hT2.out⟩
      · obtain rfl : gk = 0 := by omega
        have hge : decide (j < D.length) = false := decide_eq_false (by omega)
        have hge2 : D.length ≤ j := by omega
        have hacc : acc = rngI 0 D.length := by rw [← hT]; simp [rngI]
        have BW : Hid (Below w.heap.size w wr) := BE.out.trans (B.mono BE.out.size)
        have start2 : Hid (PcRel w D T D.length (.slice (ad v) acc.length (cp v)) (.int .i64 ((0 : Nat) : Int)) wr) := ⟨0, [], ad v, cp v, by rw [hacc]; rfl, rfl, rfl, Nat.le_refl _, by simp, by rw [← hacc]; exact row_lies H (k := .loc 0) rfl, BW.out, TH.out⟩
        clear hlt hT H B hacc
        go_wp2_with fail
        go_loopg [9, 11] D.length (fun k x9 x11 wr => PcRel w D T k x9 x11 wr)
        case atStart => exact start2.out
        case round =>
          clear start2
          obtain ⟨m, pre, A5, c5, rfl, rfl, hkm, hpm, hpre, HL, B, hT⟩ := hrel
          cases gk with
          | zero =>
            have e1 : pre ++ rngI m 0 = pre := by simp [rngI]
            rw [e1] at hT HL ⊢
            have e2 : pre = T := hT
            subst e2
            have LF : Hid _ := HL
            have BF : Hid _ := B
            have hpl : pre.length ≤ 60000 := by omega
            clear HL B hT hpre e1
            go_wp2_with fail
            go_ret2
            exact ⟨BF.out, .inr ⟨by first | rfl | trivial, _, _, rfl, LF.out⟩⟩
          | succ k =>
            unfold coreM at hT
            rw [filter_pre (fun x hx => (hpre x hx).2)] at hT
            have ER := erase_pre (pre := pre) (m := m) (k := k)
            have hll : (pre ++ rngI m (k + 1)).length = pre.length + (k + 1) := by rw [List.length_append, rng_len]
            have hsl : (pre ++ rngI (m + 1) k).length = pre.length + k := by rw [List.length_append, rng_len]
            have PS : Hid ((pre ++ [(m : Int)]) ++ rngI (m + 1) k = pre ++ rngI m (k + 1)) := by rw [List.append_assoc]; rfl
            have PB : Hid (∀ x ∈ pre ++ [(m : Int)], 0 ≤ x ∧ x < ((m + 1 : Nat) : Int)) := fun x hx => by
              rcases List.mem_append.1 hx with z | z
              · have := hpre x z; omega
              · rw [List.mem_singleton] at z; omega
            have SB : Hid (∀ x ∈ pre ++ rngI (m + 1) k, 0 ≤ x ∧ x < (D.length : Int)) := fun x hx => by
              rcases List.mem_append.1 hx with z | z
              · have := hpre x z; omega
              · have := rng_mem _ _ _ z; omega
            have PB0 : Hid (∀ x ∈ pre, 0 ≤ x ∧ x < ((m + 1 : Nat) : Int)) := fun x hx => by have := hpre x hx; omega
            generalize hleft : pre ++ rngI m (k + 1) = left at *
            generalize hless : pre ++ rngI (m + 1) k = less at *
            have HLE : Hid _ := hleft
            have HLS : Hid _ := hless
            have CLO := cloneI_any (c := c5) HL (by omega) (by omega)
            have DEL : Hid (∀ (W : World) (v : Value), Holds wr.heap.size W (locs (.row v 3 (ints left))) → Calls Try.prog 38 #[.slice (ad v) left.length (cp v), .int .i64 (pre.length : Int), .int .i64 ((pre.length : Int) + 1)] W fun e w' => ∃ v', e = .returned (.slice (ad v') less.length (cp v')) ∧ Below wr.heap.size W w' ∧ Holds wr.heap.size w' (locs (.row v' 3 (ints less)))) := fun W v H => by
              have := delete_own (i := pre.length) H (by omega) (by omega)
              rwa [ER] at this
            have HLh : Hid _ := HL
            have Bh : Hid _ := B
            have HT : Hid _ := hT
            have hlt2 : (pre.length : Int) < (left.length : Int) := by omega
            have hp60 : pre.length ≤ 60 := by omega
            have hs60 : less.length ≤ 60 := by omega
            have hl60 : left.length ≤ 60 := by omega
            clear HL B hT hpre ER hleft hless hll hsl
            go_wp2_with fail
            refine CLO.mono ?_
            rintro e w4 ⟨v4, rfl, H4, B4⟩
            have DL := DEL.out w4 v4 H4
            have B4h : Hid _ := B4
            clear CLO DEL H4 B4
            go_wp2_with fail
            refine DL.mono ?_
            rintro e w5 ⟨v5, rfl, B5, H5⟩
            have B45 : Hid (Below wr.heap.size wr w5) := B4h.out.trans B5
            have B05 : Hid (Below w.heap.size w w5) := Bh.out.trans (B45.out.mono Bh.out.size)
            have LS5 : Hid (Lies w5.heap.size w5 (ad v5) less) := row_lies H5 (k := .loc 0) rfl
            have start3 : Hid (LcRel w5 D less less.length (.slice none 0 0) (.int .i64 ((0 : Nat) : Int)) w5) := ⟨0, [], [], .slice none 0 0, rfl, rfl, by omega, nil_put (Holds.nothing _ _) (Nat.le_refl _) (.loc 0) 26, ⟨rfl, fun i hi => absurd hi (Nat.not_lt_zero _)⟩, Below.refl _ _, by simp⟩
            generalize ad v5 = A6 at *
            generalize cp v5 = c6 at *
            clear DL B5 H5
            go_wp2_with fail
            go_loopg [13, 57] less.length (fun kk x13 x57 w' => LcRel w5 D less kk x13 x57 w')
            case atStart => exact start3.out
            case round =>
              clear start3
              obtain ⟨j, E, cs, v, rfl, rfl, hkj, H, CC, B, hT⟩ := hrel
              by_cases hlt : j < less.length
              · have BW := B05.out.trans (B.mono B05.out.size)
                obtain ⟨b1, o1, rfl, hb1, hc1⟩ := lies_at (Lies.below LS5.out B) hlt
                have e1 := hc1 j hlt
                have hxm := SB.out _ (row_ne less 0 hlt)
                have hd : less.drop j = less.getD j 0 :: less.drop (j + 1) := by
                  rw [List.drop_eq_getElem_cons hlt]; simp [hlt]
                rw [hd] at hT
                generalize less.getD j 0 = x at *
                obtain ⟨xn, rfl⟩ := Int.eq_ofNat_of_zero_le hxm.1
                have hxl : xn < D.length := by omega
                obtain ⟨b2, o2, rfl, hb2, hc2⟩ := liesR_at (LiesR.below LA.out BW) hxl
                obtain ⟨A', c', e2, hc', hli⟩ := hc2 xn hxl
                have hT2 : Hid ((E ++ [D.getD xn []]) ++ pickR D (less.drop (j + 1)) = pickR D less) := by
                  rw [← hT, List.append_assoc]
                  show E ++ ([D.getD xn []] ++ pickR D (less.drop (j + 1))) = E ++ pickR D ((xn : Int) :: less.drop (j + 1))
                  congr 1
                have hel : E.length + 1 ≤ 60000 := by
                  have := congrArg List.length hT2.out
                  rw [List.length_append, List.length_append] at this
                  unfold pickR at this
                  rw [List.length_map, List.length_map] at this
                  simp only [List.length_singleton] at this
                  omega
                have hbz := B.size
                have hws : w.heap.size ≤ w5.heap.size := B05.out.size
                generalize D.getD xn [] = el at *
                have NX : Hid (Cells w5.heap.size wr (cs ++ [.slice A' el.length c']) (E ++ [el])) := CC.snoc hc' (hli.mono hws)
                have hcsl : cs.length = E.length := CC.1
                have LS : Hid _ := H.alloc (.cells #[.slice A' el.length c'] 26)
                have BL : Hid _ := B.alloc hbz (.cells #[.slice A' el.length c'] 26)
                clear hT hd hc1 hc2 H CC B BW hli hxm
                go_wp2_with (at_builtin; refine law_pushAt LS.out (.loc 0) rfl (.tmp 61) (.tmp 66) 22 26 (.slice none 0 0) 24 rfl Try.underlying22 info26 rfl (by decide) E.length (.slice A' el.length c') rfl hcsl rfl wr.heap.size rfl ?hy rfl ?hb ?hl ?_)
                try (case hy => first | exact cell_new _ _ _ _ (by simp) | exact cell_new_drew _ _ _ _ (by simp))
                case hb => simp; omega
                case hl => omega
                intro A3 c3 w6 H6 B6 _
                rw [upd_locs] at H6
                have H6H : Hid _ := H6
                have B6H : Hid _ := BL.out.trans B6
                have C6 : Hid (Cells w5.heap.size w6 (cs ++ [.slice A' el.length c']) (E ++ [el])) := Cells.below NX.out (((Below.refl w5.heap.size wr).alloc hbz _).trans B6)
                clear H6 B6
                go_wp2_with fail
                go_roundg (gk - 1)
                case measure => omega
                case rel => exact ⟨j + 1, E ++ [el], cs ++ [.slice A' el.length c'], .slice A3 (E.length + 1) c3, by go_num, by simp [ad, cp], by omega, H6H.out, C6.out, B6H.out, hT2.out⟩
              · have hge : decide (j < less.length) = false := decide_eq_false (by omega)
                have hge2 : less.length ≤ j := by omega
                have hnil : less.drop j = [] := List.drop_eq_nil_of_le hge2
                rw [hnil] at hT
                have hE : E = pickR D less := by rw [← hT]; simp [pickR]
                subst hE
                have RPC := RP.out less wr (ad v) (cp v) hs60 SB.out (cells_liesR H CC B.size)
                have B5h : Hid _ := B
                have hT9 := HT.out
                clear hT hnil hlt H CC B
                cases hsat : satOf (pickR D less) [] with
                | true =>
                  rw [hsat, if_pos rfl] at hT9
                  unfold RunSat at RPC
                  rw [hsat] at RPC
                  have T9 : Hid _ := hT9
                  clear hsat hT9 HT
                  go_wp2_with fail
                  refine RPC.mono ?_
                  rintro e w7 ⟨B7, A1, n1, c1, A2, n2, c2, st, rfl⟩
                  have B57 := B5h.out.trans (B7.mono B5h.out.size)
                  have h57 := B57.size
                  have B58 := B57.alloc h57 (.cells #[.bool true, .slice A1 n1 c1, .slice A2 n2 c2, .int .i64 st] 30)
                  have BF : Hid _ := B05.out.trans (B58.mono B05.out.size)
                  have LF : Hid _ := Lies.below HLh.out (B45.out.trans (B58.mono B45.out.size))
                  have h8 := B58.size
                  have h45 := B45.out.size
                  have LG : Hid _ := Lies.mono LF.out (Nat.le_trans h45 h8)
                  clear RPC B7 B57 B58
                  go_wp2_with fail
                  go_roundg k
                  case measure => omega
                  case rel => exact ⟨m + 1, pre ++ [(m : Int)], A5, c5, by rw [PS.out], by simp, by omega, by simp; omega, PB.out, by rw [PS.out]; exact LG.out, BF.out, by rw [PS.out]; exact T9.out⟩
                | false =>
                  rw [hsat, if_neg (by simp)] at hT9
                  unfold RunSat at RPC
                  rw [hsat] at RPC
                  have T9 : Hid _ := hT9
                  clear hsat hT9 HT
                  go_wp2_with fail
                  refine RPC.mono ?_
                  rintro e w7 ⟨B7, A1, n1, c1, A2, n2, c2, st, rfl⟩
                  have B57 := B5h.out.trans (B7.mono B5h.out.size)
                  have h57 := B57.size
                  have B58 := B57.alloc h57 (.cells #[.bool false, .slice A1 n1 c1, .slice A2 n2 c2, .int .i64 st] 30)
                  have BF : Hid _ := B05.out.trans (B58.mono B05.out.size)
                  have LG : Hid _ := Lies.mono (Lies.below LS5.out B58) B58.size
                  clear RPC B7 B57 B58
                  go_wp2_with fail
                  go_roundg k
                  case measure => omega
                  case rel => exact ⟨m + 1, pre, A6, c6, by rw [HLS.out], rfl, by omega, by omega, PB0.out, by rw [HLS.out]; exact LG.out, BF.out, by rw [HLS.out]; exact T9.out⟩
end Go.Proofs.Ytdllaphnkbnpoaa
