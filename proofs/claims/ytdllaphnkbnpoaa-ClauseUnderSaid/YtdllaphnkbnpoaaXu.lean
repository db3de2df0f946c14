/- Walks: clauses with literals as clauses of their own behind them, the program's and the law's. -/
import Derived.Test.YtdllaphnkbnpoaaXv
import Derived.Test.YtdllaphnkbnpoaaXj
namespace Go.Proofs.Ytdllaphnkbnpoaa
open Go.RowKit Go.Proofs

/-- A list of rows that is owned, and one-literal rows. -/
def wkL (v : Value) (cs : List Value) (gs : List Nat) (xs : List Int) : Key → Res := fun k => match k with
  | .loc 0 => .row v 26 cs
  | .cls j => match gs[j]?, xs[j]? with
    | some g, some x => .row (.slice (some ⟨g, 0, none⟩) 1 1) 3 (ints [x])
    | _, _ => .non
  | _ => .non
theorem wkL_row {v v' : Value} {cs cs' : List Value} {gs : List Nat} {xs : List Int} : upd (wkL v cs gs xs) (.loc 0) (.row v' 26 cs') = wkL v' cs' gs xs := by
  funext k
  unfold upd
  by_cases h : k = .loc 0
  · subst h; rfl
  · rw [if_neg h]
    unfold wkL
    split
    · exact absurd rfl h
    · rfl
    · rfl
theorem wkL_cls {v : Value} {cs : List Value} {gs : List Nat} {xs : List Int} {g : Nat} {x : Int} (h : gs.length = xs.length) : upd (wkL v cs gs xs) (.cls gs.length) (.row (.slice (some ⟨g, 0, none⟩) 1 1) 3 (ints [x])) = wkL v cs (gs ++ [g]) (xs ++ [x]) := by
  funext k
  unfold upd
  by_cases hk : k = .cls gs.length
  · subst hk
    rw [if_pos rfl]
    unfold wkL
    have e1 : (gs ++ [g])[gs.length]? = some g := by simp
    have e2 : (xs ++ [x])[gs.length]? = some x := by rw [h]; simp
    simp only [e1, e2]
  · rw [if_neg hk]
    unfold wkL
    split
    · rfl
    · rename_i j
      have hj : j ≠ gs.length := fun e => hk (by rw [e])
      have e1 : (gs ++ [g])[j]? = gs[j]? := by
        rcases Nat.lt_or_ge j gs.length with q | q
        · exact List.getElem?_append_left q
        · rw [List.getElem?_eq_none (by simp; omega), List.getElem?_eq_none q]
      have e2 : (xs ++ [x])[j]? = xs[j]? := by
        rcases Nat.lt_or_ge j xs.length with q | q
        · exact List.getElem?_append_left q
        · rw [List.getElem?_eq_none (by simp; omega), List.getElem?_eq_none q]
      rw [e1, e2]
    · rfl

def cellsG (gs : List Nat) : List Value := gs.map fun g => .slice (some ⟨g, 0, none⟩) 1 1

def WithRes (D : List (List Int)) (l : List Int) (w : World) (e : Ending) (w' : World) : Prop :=
  Below w.heap.size w w' ∧ ∃ A' c', e = .returned (.slice A' (withM D l).length c') ∧ LiesR w'.heap.size w' A' (withM D l) ∧ (A' = none → c' = 0)

def WithRel (w : World) (D : List (List Int)) (cs0 : List Value) (l : List Int) (k : Nat) (x5 xi : Value) (wr : World) : Prop :=
  ∃ (i : Nat) (gs : List Nat) (v : Value), xi = .int .i64 (i : Int) ∧ x5 = .slice (ad v) (D.length + i) (cp v) ∧ k + i = l.length ∧ gs.length = i ∧ Holds w.heap.size wr (wkL v (cs0 ++ cellsG gs) gs (l.take i)) ∧ Cells w.heap.size wr cs0 D ∧ Below w.heap.size w wr

theorem with_end {w wr : World} {D : List (List Int)} {cs0 : List Value} {l : List Int} {gs : List Nat} {v : Value} (hg : gs.length = l.length) (H : Holds w.heap.size wr (wkL v (cs0 ++ cellsG gs) gs l)) (CC : Cells w.heap.size wr cs0 D) (B : Below w.heap.size w wr) :
    LiesR wr.heap.size wr (ad v) (withM D l) ∧ (withM D l).length = D.length + l.length ∧ (ad v = none → cp v = 0) := by
  have hlen : (withM D l).length = D.length + l.length := by unfold withM; simp
  have hk : wkL v (cs0 ++ cellsG gs) gs l (.loc 0) = .row v 26 (cs0 ++ cellsG gs) := rfl
  refine ⟨?_, hlen, fun h => H.cap0 hk h⟩
  rcases Nat.eq_zero_or_pos (withM D l).length with h0 | hp
  · exact .inl (List.eq_nil_of_length_eq_zero h0)
  · right
    have hcl : (cs0 ++ cellsG gs).length = D.length + l.length := by unfold cellsG; simp [CC.1, hg]
    have hp' : 0 < (cs0 ++ cellsG gs).length := by omega
    refine ⟨gb v, 0, H.ad_ hk hp', (H.lt (.loc 0) (H.gb_ hk hp')).2, fun i hi => ?_⟩
    rw [Nat.zero_add]
    rcases Nat.lt_or_ge i D.length with q | q
    · obtain ⟨A, c, h1, h2, h3⟩ := CC.2 i q
      have e : (withM D l).getD i [] = D.getD i [] := by
        unfold withM
        rw [List.getD_eq_getElem?_getD, List.getElem?_append_left q, ← List.getD_eq_getElem?_getD]
      rw [e]
      exact ⟨A, c, H.elem hk (by rw [List.getElem?_append_left (by rw [CC.1]; exact q)]; exact h1), h2, h3.mono B.size⟩
    · have hj : i - D.length < l.length := by omega
      have hjg : i - D.length < gs.length := by omega
      have e : (withM D l).getD i [] = [l[i - D.length]] := by
        unfold withM
        rw [List.getD_eq_getElem?_getD, List.getElem?_append_right q, List.getElem?_map, List.getElem?_eq_getElem hj]
        rfl
      rw [e]
      have hk2 : wkL v (cs0 ++ cellsG gs) gs l (.cls (i - D.length)) = .row (.slice (some ⟨gs[i - D.length], 0, none⟩) 1 1) 3 (ints [l[i - D.length]]) := by
        unfold wkL
        simp only [List.getElem?_eq_getElem hj, List.getElem?_eq_getElem hjg]
      refine ⟨some ⟨gs[i - D.length], 0, none⟩, 1, H.elem hk ?_, Nat.le_refl _, row_lies (v := .slice (some ⟨gs[i - D.length], 0, none⟩) 1 1) H hk2⟩
      rw [List.getElem?_append_right (by rw [CC.1]; exact q), CC.1]
      unfold cellsG
      rw [List.getElem?_map, List.getElem?_eq_getElem hjg]
      rfl

set_option maxRecDepth 100000 in
set_option maxHeartbeats 2000000 in
theorem pWith_any {w : World} {A A2 : Option Addr} {D : List (List Int)} {l : List Int} {c c2 : Nat} (h : LiesR w.heap.size w A D) (h2 : Lies w.heap.size w A2 l) (hD : D.length ≤ 30000) (hl : l.length ≤ 30000) :
    Calls Try.prog 50 #[.slice A D.length c, .slice A2 l.length c2] w (WithRes D l w) := by
  have C1 := cloneR_any (c := c) h (by omega)
  have LA : Hid _ := h2
  clear h h2
  go_enter Try.func50, Try.ntmps50
  go_wp2_with fail
  refine C1.mono ?_
  rintro e w1 ⟨v0, cs0, rfl, H0, CC0, B0⟩
  have start : Hid (WithRel w D cs0 l l.length (.slice (ad v0) D.length (cp v0)) (.int .i64 ((0 : Nat) : Int)) w1) := ⟨0, [], v0, rfl, rfl, rfl, rfl, by
    have e : wkL v0 (cs0 ++ cellsG []) [] (l.take 0) = locs (.row v0 26 cs0) := by
      funext k
      unfold wkL locs cellsG
      split
      · simp
      · rename_i j
        simp
      · rename_i h1 h2
        rw [if_neg (fun e => h1 e)]
    rw [e]; exact H0, CC0, B0⟩
  clear C1 H0 CC0 B0
  go_wp2_with fail
  go_loopg [5, 12] l.length (fun k x5 xi wr => WithRel w D cs0 l k x5 xi wr)
  case atStart => exact start.out
  case round =>
    clear start
    obtain ⟨i, gs, v, rfl, rfl, hki, hgl, H, CC, B⟩ := hrel
    by_cases hlt : i < l.length
    · obtain ⟨b, o, rfl, hbb, hcell⟩ := lies_at (Lies.below LA.out B) hlt
      have ei := hcell i hlt
      have TK : Hid (l.take (i + 1) = l.take i ++ [l.getD i 0]) := by
        have e3 : l[i]?.toList = [l.getD i 0] := by simp [hlt]
        rw [List.take_add_one, e3]; rfl
      generalize l.getD i 0 = x at *
      have hbz := B.size
      have hti : (l.take i).length = i := by rw [List.length_take]; omega
      have H1 := H.lit1 (.cls gs.length) hbz (.int .i64 x) 3
      have e1 : ([.int .i64 x] : List Value) = ints [x] := rfl
      rw [e1, wkL_cls (by rw [hgl, hti])] at H1
      have C1 := CC.below ((Below.refl _ wr).alloc hbz (.cells #[.int .i64 x] 3))
      have B1 := B.alloc hbz (.cells #[.int .i64 x] 3)
      have hb1 : w.heap.size ≤ (wr.alloc (.cells #[.int .i64 x] 3)).heap.size := by rw [size_alloc]; omega
      have LS : Hid _ := H1.alloc (.cells #[.slice (some ⟨wr.heap.size, 0, none⟩) 1 1] 26)
      have BL : Hid _ := B1.alloc hb1 (.cells #[.slice (some ⟨wr.heap.size, 0, none⟩) 1 1] 26)
      have CL : Hid (∀ W, Below w.heap.size ((wr.alloc (.cells #[.int .i64 x] 3)).alloc (.cells #[.slice (some ⟨wr.heap.size, 0, none⟩) 1 1] 26)) W → Cells w.heap.size W cs0 D) := fun W hW => (C1.below ((Below.refl _ _).alloc hb1 _)).below hW
      have hcs : Hid ((cs0 ++ cellsG gs).length = D.length + i) := by unfold cellsG; show _ = _; rw [List.length_append, List.length_map, CC.1, hgl]
      have GL : Hid _ := hgl
      have CS : Hid (cs0 ++ (cellsG gs ++ [.slice (some ⟨wr.heap.size, 0, none⟩) 1 1]) = cs0 ++ cellsG (gs ++ [wr.heap.size])) := by
        unfold cellsG; show _ = _; simp
      clear H CC B hcell H1 C1 B1 e1 hgl
      go_wp2_with (at_builtin; refine law_pushAt LS.out (.loc 0) rfl (.tmp 16) (.tmp 19) 22 26 (.slice none 0 0) 24 rfl Try.underlying22 info26 rfl (by decide) (D.length + i) (.slice (some ⟨wr.heap.size, 0, none⟩) 1 1) rfl hcs.out rfl (wr.heap.size + 1) ?hx ?hy rfl ?hb ?hl ?_)
      try (case hx => first | rfl | (rw [size_alloc]; rfl) | simp)
      try (case hy => first | exact cell_new _ _ _ _ (by rw [size_alloc]) | exact cell_new_drew _ _ _ _ (by rw [size_alloc]))
      try (case hb => rw [size_alloc, size_alloc]; omega)
      try (case hl => omega)
      intro A3 c3 w6 H6 B6 _
      rw [wkL_row] at H6
      try rw [List.append_assoc] at H6
      rw [CS.out, ← TK.out] at H6
      have H6H : Hid _ := H6
      have B6H : Hid _ := BL.out.trans B6
      have C6 : Hid _ := CL.out w6 B6
      clear H6 B6 LS BL CL
      go_wp2_with fail
      go_roundg (gk - 1)
      case measure => omega
      case rel => exact ⟨i + 1, gs ++ [wr.heap.size], .slice A3 (D.length + i + 1) c3, by go_num, by simp [ad, cp]; try omega, by omega, by rw [List.length_append, GL.out]; rfl, H6H.out, C6.out, B6H.out⟩
    · have hge : decide (i < l.length) = false := decide_eq_false (by omega)
      have hge2 : l.length ≤ i := by omega
      obtain rfl : i = l.length := by omega
      rw [List.take_length] at H
      obtain ⟨e1, e2, e3⟩ := with_end hgl H CC B
      have E1 : Hid _ := e1
      have E2 : Hid _ := e2
      have E3 : Hid _ := e3
      have BF : Hid _ := B
      clear hlt H CC B hgl e1 e2 e3
      go_wp2_with fail
      go_ret
      exact ⟨BF.out, ad v, cp v, by rw [E2.out]; rfl, E1.out, E3.out⟩

set_option maxRecDepth 100000 in
set_option maxHeartbeats 2000000 in
theorem lWith_any {w : World} {A A2 : Option Addr} {D : List (List Int)} {l : List Int} {c c2 : Nat} (h : LiesR w.heap.size w A D) (h2 : Lies w.heap.size w A2 l) (hc0 : A = none → c = 0) (hD : D.length ≤ 30000) (hl : l.length ≤ 30000) :
    Calls Try.prog 24 #[.slice A D.length c, .slice A2 l.length c2] w (WithRes D l w) := by
  obtain ⟨cs, hcs, hrd⟩ := cells_of h
  have HL : Hid _ := (Holds.lit0 (Holds.nothing w.heap.size w) (.loc 0) (Nat.le_refl _) 26)
  have RD : Hid (Reads (w.alloc (.cells #[] 26)) A cs) := hrd.keep (fun a v hv => cell_alloc_keep w _ a v hv)
  have hcl : cs.length = D.length := hcs.1
  have ONE : Hid _ := hcs.one
  have BA : Hid _ := (Below.refl w.heap.size w).alloc (Nat.le_refl _) (.cells #[] 26)
  have CS0 : Hid _ := hcs
  have HC0 : Hid _ := hc0
  have hsz : w.heap.size ≤ (w.alloc (.cells #[] 26)).heap.size := by rw [size_alloc]; omega
  have LA : Hid _ := h2
  clear h h2 hcs hrd hc0
  go_enter Try.func24, Try.ntmps24
  go_wp2_with (at_builtin; refine law_many HL.out (.loc 0) rfl (.tmp 7) (.tmp 8) 22 26 (.slice none 0 0) 24 rfl Try.underlying22 info26 rfl (by decide) 0 cs rfl rfl rfl A D.length c rfl hcl HC0.out RD.out ONE.out hsz (by omega) ?_)
  intro A3 c3 w1 H6 B6
  have e1 : upd (upd (fun _ => Res.non) (.loc 0) (.row (.slice (some ⟨w.heap.size, 0, none⟩) 0 0) 26 [])) (.loc 0) (.row (.slice A3 D.length c3) 26 cs) = locs (.row (.slice A3 D.length c3) 26 cs) := by
    funext k; unfold upd locs; split <;> rfl
  rw [e1] at H6
  have B7 := BA.out.trans B6
  obtain ⟨cs0, hcc⟩ : ∃ cs0, cs0 = cs := ⟨_, rfl⟩
  subst hcc
  have start : Hid (WithRel w D cs0 l l.length (.slice A3 D.length c3) (.int .i64 ((0 : Nat) : Int)) w1) := ⟨0, [], .slice A3 D.length c3, rfl, rfl, rfl, rfl, by
    have e : wkL (.slice A3 D.length c3) (cs0 ++ cellsG []) [] (l.take 0) = locs (.row (.slice A3 D.length c3) 26 cs0) := by
      funext k
      unfold wkL locs cellsG
      split
      · simp
      · rename_i j
        simp
      · rename_i h1 h2
        rw [if_neg (fun e => h1 e)]
    rw [e]; exact H6, Cells.below CS0.out B7, B7⟩
  clear e1 H6 B6 B7 HL RD ONE BA CS0 HC0
  go_wp2_with fail
  go_loopg [5, 6] l.length (fun k x5 xi wr => WithRel w D cs0 l k x5 xi wr)
  case atStart => exact start.out
  case round =>
    clear start
    obtain ⟨i, gs, v, rfl, rfl, hki, hgl, H, CC, B⟩ := hrel
    by_cases hlt : i < l.length
    · obtain ⟨b, o, rfl, hbb, hcell⟩ := lies_at (Lies.below LA.out B) hlt
      have ei := hcell i hlt
      have TK : Hid (l.take (i + 1) = l.take i ++ [l.getD i 0]) := by
        have e3 : l[i]?.toList = [l.getD i 0] := by simp [hlt]
        rw [List.take_add_one, e3]; rfl
      generalize l.getD i 0 = x at *
      have hbz := B.size
      have hti : (l.take i).length = i := by rw [List.length_take]; omega
      have H1 := H.lit1 (.cls gs.length) hbz (.int .i64 x) 3
      have e1 : ([.int .i64 x] : List Value) = ints [x] := rfl
      rw [e1, wkL_cls (by rw [hgl, hti])] at H1
      have C1 := CC.below ((Below.refl _ wr).alloc hbz (.cells #[.int .i64 x] 3))
      have B1 := B.alloc hbz (.cells #[.int .i64 x] 3)
      have hb1 : w.heap.size ≤ (wr.alloc (.cells #[.int .i64 x] 3)).heap.size := by rw [size_alloc]; omega
      have LS : Hid _ := H1.alloc (.cells #[.slice (some ⟨wr.heap.size, 0, none⟩) 1 1] 26)
      have BL : Hid _ := B1.alloc hb1 (.cells #[.slice (some ⟨wr.heap.size, 0, none⟩) 1 1] 26)
      have CL : Hid (∀ W, Below w.heap.size ((wr.alloc (.cells #[.int .i64 x] 3)).alloc (.cells #[.slice (some ⟨wr.heap.size, 0, none⟩) 1 1] 26)) W → Cells w.heap.size W cs0 D) := fun W hW => (C1.below ((Below.refl _ _).alloc hb1 _)).below hW
      have hcs : Hid ((cs0 ++ cellsG gs).length = D.length + i) := by unfold cellsG; show _ = _; rw [List.length_append, List.length_map, CC.1, hgl]
      have GL : Hid _ := hgl
      have CS : Hid (cs0 ++ (cellsG gs ++ [.slice (some ⟨wr.heap.size, 0, none⟩) 1 1]) = cs0 ++ cellsG (gs ++ [wr.heap.size])) := by
        unfold cellsG; show _ = _; simp
      clear H CC B hcell H1 C1 B1 e1 hgl
      go_wp2_with (at_builtin; refine law_pushAt LS.out (.loc 0) rfl (.tmp 16) (.tmp 22) 22 26 (.slice none 0 0) 24 rfl Try.underlying22 info26 rfl (by decide) (D.length + i) (.slice (some ⟨wr.heap.size, 0, none⟩) 1 1) rfl hcs.out rfl (wr.heap.size + 1) ?hx ?hy rfl ?hb ?hl ?_)
      try (case hx => first | rfl | (rw [size_alloc]; rfl) | simp)
      try (case hy => first | exact cell_new _ _ _ _ (by rw [size_alloc]) | exact cell_new_drew _ _ _ _ (by rw [size_alloc]))
      try (case hb => rw [size_alloc, size_alloc]; omega)
      try (case hl => omega)
      intro A3 c3 w6 H6 B6 _
      rw [wkL_row] at H6
      try rw [List.append_assoc] at H6
      rw [CS.out, ← TK.out] at H6
      have H6H : Hid _ := H6
      have B6H : Hid _ := BL.out.trans B6
      have C6 : Hid _ := CL.out w6 B6
      clear H6 B6 LS BL CL
      go_wp2_with fail
      go_roundg (gk - 1)
      case measure => omega
      case rel => exact ⟨i + 1, gs ++ [wr.heap.size], .slice A3 (D.length + i + 1) c3, by go_num, by simp [ad, cp]; try omega, by omega, by rw [List.length_append, GL.out]; rfl, H6H.out, C6.out, B6H.out⟩
    · have hge : decide (i < l.length) = false := decide_eq_false (by omega)
      have hge2 : l.length ≤ i := by omega
      obtain rfl : i = l.length := by omega
      rw [List.take_length] at H
      obtain ⟨e1, e2, e3⟩ := with_end hgl H CC B
      have E1 : Hid _ := e1
      have E2 : Hid _ := e2
      have E3 : Hid _ := e3
      have BF : Hid _ := B
      clear hlt H CC B hgl e1 e2 e3
      go_wp2_with fail
      go_ret
      exact ⟨BF.out, ad v, cp v, by rw [E2.out]; rfl, E1.out, E3.out⟩
end Go.Proofs.Ytdllaphnkbnpoaa
