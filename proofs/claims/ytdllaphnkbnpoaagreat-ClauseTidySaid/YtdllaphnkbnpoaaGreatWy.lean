/- Walks over the reference: Vars. -/
import Derived.Test.YtdllaphnkbnpoaaGreatWx
namespace Go.Proofs.YtdllaphnkbnpoaaGreat
open Go.RowKit Go.Proofs

def refVars (D : List (List Int)) : List Int := sortedM (absAll D)

set_option maxRecDepth 100000 in
set_option maxHeartbeats 2000000 in
theorem refVars_any {base : Nat} {w : World} (hbase : base ≤ w.heap.size) {A : Option Addr} {D : List (List Int)} {cc : Nat} (hA : LiesR base w A D) (hD : D.length ≤ 60000) (hc : ∀ i, i < D.length → (D.getD i []).length ≤ 60000) (hall : (absAll D).length ≤ 60000) (hl : ∀ e ∈ D, ∀ x ∈ e, -60000 ≤ x ∧ x ≤ 60000) :
    Calls Tryz.prog 5 #[.slice A D.length cc] w fun e w' => ∃ v', e = .returned (.slice (ad v') (refVars D).length (cp v')) ∧ Below base w w' ∧ Holds base w' (locs (.row v' 3 (ints (refVars D)))) := by
  have H0 : Holds base w (fun _ => Res.non) := Holds.nothing _ _
  have H1 := nil_put H0 hbase (.loc 0) 3
  have e1 : upd (fun _ => Res.non) (.loc 0) (.row (.slice none 0 0) 3 []) = locs (.row (.slice none 0 0) 3 (ints [])) := rfl
  rw [e1] at H1
  have start : Hid (VarRel base w D D.length (.slice none 0 0) (.int .i64 ((0 : Nat) : Int)) w) := ⟨0, [], .slice none 0 0, rfl, rfl, rfl, H1, Below.refl _ _, by simp⟩
  have LA : Hid _ := hA
  have LC : Hid _ := hc
  have LL : Hid _ := hl
  clear H0 H1 e1 hA hc hl
  go_enter Tryz.func5, Tryz.ntmps5
  go_wp2_with fail
  go_loopg [3, 4] D.length (fun k x3 x4 wr => VarRel base w D k x3 x4 wr)
  case atStart => exact start.out
  case round =>
    clear start
    obtain ⟨i, acc, v, rfl, rfl, hki, H, B, hT⟩ := hrel
    by_cases hlt : i < D.length
    · obtain ⟨m, rfl⟩ : ∃ m, gk = m + 1 := ⟨gk - 1, by omega⟩
      have hL := LiesR.below LA.out B
      obtain ⟨b, o, rfl, hbb, hcell⟩ := liesR_at hL hlt
      obtain ⟨A', c', ei, hc', hli⟩ := hcell i hlt
      have hd : D.drop i = D.getD i [] :: D.drop (i + 1) := by
        rw [List.drop_eq_getElem_cons hlt]; simp [hlt]
      have hcl := LC.out i hlt
      have hcm : ∀ x ∈ D.getD i [], -60000 ≤ x ∧ x ≤ 60000 := LL.out _ (row_ne D [] hlt)
      rw [hd] at hT
      have EI : Hid _ := fun (W : World) (hW : Below base wr W) => (World.cell?_of_block (a := ⟨b, o + i, none⟩) (hW.block b hbb)).trans ei
      generalize D.getD i [] = c at *
      have hT2 : acc ++ absL c ++ absAll (D.drop (i + 1)) = absAll D := by rw [← hT]; simp [absAll]
      have start2 : Hid (VarRel2 base wr c (acc ++ absL c) c.length (.slice (ad v) acc.length (cp v)) (.int .i64 ((0 : Nat) : Int)) wr) := ⟨0, acc, v, rfl, rfl, rfl, H, Below.refl _ _, by simp⟩
      have OB : Hid _ := B
      have hlen : (acc ++ absL c).length ≤ 60000 := by
        have : ((acc ++ absL c) ++ absAll (D.drop (i + 1))).length ≤ 60000 := by rw [hT2]; exact hall
        simp only [List.length_append] at this ⊢; omega
      generalize hTT : acc ++ absL c = T at *
      clear hT hTT hd hcell hL
      have CM : Hid _ := hcm
      have LI : Hid _ := hli
      have HT2 : Hid _ := hT2
      clear hcm hli hT2 H B ei
      go_wp2_with fail
      go_loopg [3, 5] c.length (fun k x3 x5 w' => VarRel2 base wr c T k x3 x5 w')
      case atStart => exact start2.out
      case round =>
        clear start2
        obtain ⟨j, acc2, v2, rfl, rfl, hkj, H2, B2, hT3⟩ := hrel
        have hbz : base ≤ wr.heap.size := Nat.le_trans (Nat.le_trans hbase OB.out.size) B2.size
        have ei2 := EI.out _ B2
        by_cases hlt2 : j < c.length
        · obtain ⟨b2, o2, rfl, hbb2, hcell2⟩ := lies_at (Lies.below LI.out B2) hlt2
          have e2 := hcell2 j hlt2
          have hd2 : c.drop j = c.getD j 0 :: c.drop (j + 1) := by
            rw [List.drop_eq_getElem_cons hlt2]; simp [hlt2]
          have hx := CM.out (c.getD j 0) (row_ne c 0 hlt2)
          rw [hd2] at hT3
          generalize c.getD j 0 = x at *
          have hT4 : (acc2 ++ [(x.natAbs : Int)]) ++ absL (c.drop (j + 1)) = T := by rw [← hT3]; simp [absL]
          have hl2 : acc2.length + 1 ≤ 60000 := by
            have := congrArg List.length hT4
            simp only [List.length_append, List.length_singleton] at this; omega
          have XH : Hid _ := hT4
          have LS : Hid _ := H2.alloc (.cells #[.int .i64 (x.natAbs : Int)] 3)
          have BL : Hid _ := B2.alloc hbz (.cells #[.int .i64 (x.natAbs : Int)] 3)
          clear hT3 hT4 hd2 hcell2 H2 B2
          obtain ⟨hx1, hx2⟩ := hx
          go_wp2_with (first | (go_at_call 14; refine (size_any x _ hx1 hx2).mono ?_; rintro e w' ⟨rfl, rfl⟩) | (at_builtin; refine law_pushAt LS.out (.loc 0) rfl (.tmp 21) (.tmp 30) 23 3 (.int .i64 0) 8 rfl Tryz.underlying23 info3 rfl (by decide) acc2.length (.int .i64 (x.natAbs : Int)) rfl (ints_length _) rfl wr.heap.size rfl ?hy rfl ?hb ?hl ?_))
          try (case hy => first | exact cell_new _ _ _ _ (by simp) | exact cell_new_drew _ _ _ _ (by simp))
          case hb => simp; omega
          case hl => omega
          intro A3 c3 w6 H6 B6 _
          rw [ints_snoc, upd_locs] at H6
          have H6H : Hid _ := H6
          have B6H : Hid _ := BL.out.trans B6
          clear H6 B6
          go_wp2_with fail
          go_roundg (gk - 1)
          case measure => omega
          case rel => exact ⟨j + 1, acc2 ++ [(x.natAbs : Int)], .slice A3 (acc2.length + 1) c3, by go_num, by simp [ad, cp], by omega, H6H.out, B6H.out, XH.out⟩
        · have hge : decide (j < c.length) = false := decide_eq_false (by omega)
          have hge2 : c.length ≤ j := by omega
          have hnil : c.drop j = [] := List.drop_eq_nil_of_le hge2
          rw [hnil] at hT3
          have hT5 : acc2 = T := by rw [← hT3]; simp [absL]
          subst hT5
          have HH : Hid _ := H2
          have B9 : Hid _ := OB.out.trans B2
          clear hlt2 hnil hT3 H2 B2
          go_wp2_with fail
          go_roundg m
          case measure => omega
          case rel => exact ⟨i + 1, acc2, v2, by go_num, rfl, by omega, HH.out, B9.out, HT2.out⟩
    · have hnil : D.drop i = [] := List.drop_eq_nil_of_le (by omega)
      have hge : decide (i < D.length) = false := decide_eq_false (by omega)
      have hge2 : D.length ≤ i := by omega
      rw [hnil] at hT
      have hT5 : acc = absAll D := by rw [← hT]; simp [absAll]
      subst hT5
      have hbz : base ≤ wr.heap.size := Nat.le_trans hbase B.size
      have hal : ∀ x ∈ absAll D, -60000 ≤ x ∧ x ≤ 60000 := by
        intro x hx
        unfold absAll at hx
        obtain ⟨e, he, hx⟩ := List.mem_flatMap.1 hx
        obtain ⟨y, hy, rfl⟩ := List.mem_map.1 hx
        have := LL.out e he y hy
        omega
      have SO := sorted_any (base := wr.heap.size) (Nat.le_refl _) (c := cp v) (row_lies H (k := .loc 0) rfl) hall hal
      have OB : Hid _ := B
      clear hlt hnil hT H B LA LC LL hal
      go_wp2_with fail
      refine SO.mono ?_
      rintro e w2 ⟨v', rfl, B2, H2⟩
      have HE : Hid _ := H2.down hbz
      have BE : Hid _ := OB.out.trans (B2.mono hbz)
      clear SO H2 B2
      go_wp2_with fail
      go_ret
      exact ⟨v', rfl, BE.out, HE.out⟩
end Go.Proofs.YtdllaphnkbnpoaaGreat
