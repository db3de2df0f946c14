/- Walks over package search: Add. -/
import Derived.Test.YtdllaphnkbnpoaaGreatWo
import Derived.Test.YtdllaphnkbnpoaaGreatWn
namespace Go.Proofs.YtdllaphnkbnpoaaGreat
open Go.RowKit Go.Proofs

theorem addScanO_cons {whole : List Int} {l : Int} {ls : List Int} {σ : S} {c : List Int} {R : S × Option (List Int)} (h : S.addScanO whole (l :: ls) σ c = some R) :
    l ≠ 0 ∧ l.natAbs < 1000 ∧ whole.length ≤ 60000 ∧ c.length < 60000 ∧ ∃ τ, σ.growO l.natAbs = some τ ∧
      ((whole.contains (-l) = true ∧ R = (τ, none)) ∨
       (whole.contains (-l) = false ∧ ∃ x, τ.ofO l = some x ∧
         ((0 < x ∧ R = (τ, none)) ∨ (x = 0 ∧ c.contains l = false ∧ S.addScanO whole ls τ (c ++ [l]) = some R) ∨ (x = 0 ∧ c.contains l = true ∧ S.addScanO whole ls τ c = some R) ∨ (x < 0 ∧ S.addScanO whole ls τ c = some R)))) := by
  rw [S.addScanO] at h
  split at h
  · rename_i hc
    refine ⟨hc.1, hc.2.1, hc.2.2.1, hc.2.2.2, ?_⟩
    obtain ⟨τ, hg, h⟩ := Option.bind_eq_some_iff.1 h
    refine ⟨τ, hg, ?_⟩
    split at h
    · rename_i h1; injection h with h; exact .inl ⟨h1, h.symm⟩
    · rename_i h1
      right
      refine ⟨by simpa using h1, ?_⟩
      obtain ⟨x, hx, h⟩ := Option.bind_eq_some_iff.1 h
      refine ⟨x, hx, ?_⟩
      split at h
      · rename_i h2; injection h with h; exact .inl ⟨h2, h.symm⟩
      · rename_i h2
        split at h
        · rename_i h3; exact .inr (.inl ⟨h3.1, by simpa using h3.2, h⟩)
        · rename_i h3
          by_cases hx0 : x = 0
          · right; right; left
            refine ⟨hx0, ?_, h⟩
            cases hcc : c.contains l with
            | true => rfl
            | false => exact absurd ⟨hx0, by rw [hcc]; simp⟩ h3
          · right; right; right
            exact ⟨by omega, h⟩
  · cases h

def AddRel (base p fuel : Nat) (whole : List Int) (R : S × Option (List Int)) (w : World) (k : Nat) (x4 x11 : Value) (wr : World) : Prop :=
  ∃ (i : Nat) (σ : S) (μ : Vals) (c : List Int) (vc : Value), x11 = .int .i64 (i : Int) ∧ x4 = .slice (ad vc) c.length (cp vc) ∧ k + i = whole.length ∧
    Holds base wr (full p fuel σ μ (loc3 (.row vc 3 (ints c)) .non .non)) ∧ Good σ μ ∧ Below base w wr ∧ S.addScanO whole (whole.drop i) σ c = some R

theorem list_cases (c : List Int) : c = [] ∨ (∃ l, c = [l]) ∨ 2 ≤ c.length := by
  match c with
  | [] => exact .inl rfl
  | [l] => exact .inr (.inl ⟨l, rfl⟩)
  | _ :: _ :: _ => exact .inr (.inr (by simp))

theorem keep_case {τ σ' : S} {c : List Int} (h : 2 ≤ c.length)
    (hF : (match some c with
      | none => some τ
      | some [] => some { τ with broken := true }
      | some [l] => (τ.setO l (-1)).bind fun υ => (υ.propO (υ.value.length + 1)).map fun (φ, r) => if r ≠ -1 then { φ with broken := true } else φ
      | some c => τ.keepO c) = some σ') : τ.keepO c = some σ' := by
  match c, h, hF with
  | _ :: _ :: _, _, hF => exact hF

theorem add_done {base p fuel : Nat} {w : World} {σ : S} {μ : Vals} {r : Res} (H : Holds base w (full p fuel σ μ (loc3 r .non .non))) : Holds base w (full p fuel σ μ (fun _ => .non)) := by
  have := H.drop (.loc 0)
  rw [upd_loc, loc3_0, loc3_non] at this
  exact this

set_option maxRecDepth 100000 in
set_option maxHeartbeats 2000000 in
theorem add_any {base p fuel : Nat} {σ σ' : S} {μ : Vals} {w : World} (H : Holds base w (full p fuel σ μ (fun _ => .non))) (G : Good σ μ) {clause : List Int} {A : Option Addr} {cc : Nat} (hA : Lies base w A clause) (h : σ.addO clause = some σ') :
    Calls Tryz.prog 65 #[.pointer (some ⟨p, 0, none⟩), .slice A clause.length cc] w fun e w' => e = .returned (.tuple #[]) ∧ Post base w p fuel σ' (fun _ => .non) w' := by
  obtain ⟨σ0, hb, hS⟩ := Option.bind_eq_some_iff.1 h
  clear h
  obtain ⟨⟨τ0, oc⟩, hsc, hF⟩ := Option.bind_eq_some_iff.1 hS
  clear hS
  have BK := back_any (n := 0) H G hb
  have SC : Hid _ := hsc
  have FF : Hid _ := hF
  have LA : Hid _ := hA
  clear H G hb hsc hF hA
  go_enter Tryz.func65, Tryz.ntmps65
  go_wp2_with fail
  refine BK.mono ?_
  rintro e w1 ⟨rfl, μ1, H1, G1, B1⟩
  have H2 := hold_nil H1 0 3
  rw [← loc3_non, loc3_0] at H2
  have start : Hid (AddRel base p fuel clause (τ0, oc) w clause.length (.slice none 0 0) (.int .i64 ((0 : Nat) : Int)) w1) := ⟨0, σ0, μ1, [], .slice none 0 0, rfl, rfl, rfl, H2, G1, B1, by rw [List.drop_zero]; exact SC.out⟩
  clear H1 G1 B1 H2 BK SC
  go_wp2_with fail
  go_loopg [4, 11] clause.length (fun k x4 x11 wr => AddRel base p fuel clause (τ0, oc) w k x4 x11 wr)
  case atStart => exact start.out
  case round =>
    clear start
    obtain ⟨i, τ, μ2, c, vc, rfl, rfl, hki, H, G, B, hR⟩ := hrel
    by_cases hlt : i < clause.length
    · have hL := Lies.below LA.out B
      obtain ⟨b, o, rfl, hbb, hcell⟩ : ∃ b o, A = some ⟨b, o, none⟩ ∧ b < base ∧ ∀ j, j < clause.length → wr.cell? ⟨b, o + j, none⟩ = some (.int .i64 (clause.getD j 0)) := by
        rcases hL with h0 | h0
        · rw [h0] at hlt; exact absurd hlt (Nat.not_lt_zero _)
        · exact h0
      have ei := hcell i hlt
      have hd : clause.drop i = at0 clause i :: clause.drop (i + 1) := by
        rw [List.drop_eq_getElem_cons hlt]; simp [at0, hlt]
      rw [hd] at hR
      have ei2 : wr.cell? ⟨b, o + i, none⟩ = some (.int .i64 (at0 clause i)) := ei
      obtain ⟨l0, l1, l2, l3, υ, hg, alt⟩ := addScanO_cons hR
      generalize at0 clause i = l at *
      have GA := grow_any H G hg
      have ALT : Hid _ := alt
      have BB : Hid _ := B
      have hla : -60000 ≤ l := by omega
      have hlb : l ≤ 60000 := by omega
      clear hR hd ei hcell hL H G B hg alt
      generalize hv : l.natAbs = v at *
      have VV : Hid _ := hv.symm
      clear hv
      go_wp2_with (go_at_call 84; refine (variable_is VV.out _ hla hlb).mono ?_; rintro e w' ⟨rfl, rfl⟩)
      refine GA.mono ?_
      rintro e w2 ⟨rfl, μ3, H3, G3, B3⟩
      have B4 := BB.out.trans B3
      have K1 := contains_lies (Lies.below LA.out B4) l2 cc (-l)
      rcases ALT.out with ⟨hcn, hR⟩ | ⟨hcn, x, hx, alt⟩
      · rw [hcn] at K1
        injection hR with hR1 hR2
        subst hR1 hR2
        have HE : Hid _ := add_done H3
        clear GA BB ALT H3 hcn
        go_wp2_with fail
        refine K1.mono ?_
        rintro e w' ⟨rfl, rfl⟩
        clear K1
        go_wp2_with fail
        have := FF.out
        injection this with this
        subst this
        exact bodyPost_ret (results_none rfl _ _ _) rfl ⟨rfl, _, HE.out, G3, B4⟩
      · rw [hcn] at K1
        have OF := of_any H3 hx
        have alt2 : Hid _ := alt
        clear GA BB ALT hcn alt
        go_wp2_with fail
        refine K1.mono ?_
        rintro e w' ⟨rfl, rfl⟩
        clear K1
        have alt := alt2.out
        rcases alt with ⟨hx0, hR⟩ | ⟨hx0, hcl, hR⟩ | ⟨hx0, hcl, hR⟩ | ⟨hx0, hR⟩
        · injection hR with hR1 hR2
          subst hR1 hR2
          have HE : Hid _ := add_done H3
          clear H3
          go_wp2_with fail
          refine OF.mono ?_
          rintro e w' ⟨rfl, rfl⟩
          clear OF
          go_wp2_with fail
          have := FF.out
          injection this with this
          subst this
          exact bodyPost_ret (results_none rfl _ _ _) rfl ⟨rfl, _, HE.out, G3, B4⟩
        · subst hx0
          have K2 := contains_own H3 (k := 0) rfl (by omega) l
          rw [hcl] at K2
          have RR : Hid _ := hR
          have LS : Hid _ := H3.alloc (.cells #[.int .i64 l] 3)
          have BL : Hid _ := B4.alloc (full_base H3) (.cells #[.int .i64 l] 3)
          clear hR hcl H3
          go_wp2_with fail
          refine OF.mono ?_
          rintro e w' ⟨rfl, rfl⟩
          go_wp2_with fail
          refine OF.mono ?_
          rintro e w' ⟨rfl, rfl⟩
          clear OF
          go_wp2_with fail
          refine K2.mono ?_
          rintro e w' ⟨rfl, rfl⟩
          clear K2
          go_wp2_with (at_builtin; refine law_pushAt LS.out (.loc 0) rfl (.tmp 39) (.tmp 41) 23 3 (.int .i64 0) 8 rfl Tryz.underlying23 info3 rfl (by decide) c.length (.int .i64 l) rfl (ints_length _) rfl w'.heap.size rfl ?hy rfl ?hb ?hl ?_)
          try (case hy => first | exact cell_new _ _ _ _ (by simp) | exact cell_new_drew _ _ _ _ (by simp))
          case hb => first | exact full_base LS.out | simpa using full_base LS.out
          case hl => omega
          intro A' c' w6 H6 B6 _
          rw [ints_snoc, upd_loc, loc3_0] at H6
          have H6H : Hid _ := H6
          have B6H : Hid _ := BL.out.trans B6
          clear H6 B6
          go_wp2_with fail
          go_roundg (gk - 1)
          case measure => omega
          case rel => exact ⟨i + 1, υ, μ3, c ++ [l], .slice A' (c.length + 1) c', by go_num, by simp [ad, cp], by omega, H6H.out, G3, B6H.out, RR.out⟩
        · subst hx0
          have K2 := contains_own H3 (k := 0) rfl (by omega) l
          rw [hcl] at K2
          have RR : Hid _ := hR
          have HH : Hid _ := H3
          clear hR hcl H3
          go_wp2_with fail
          refine OF.mono ?_
          rintro e w' ⟨rfl, rfl⟩
          go_wp2_with fail
          refine OF.mono ?_
          rintro e w' ⟨rfl, rfl⟩
          clear OF
          go_wp2_with fail
          refine K2.mono ?_
          rintro e w' ⟨rfl, rfl⟩
          clear K2
          go_wp2_with fail
          go_roundg (gk - 1)
          case measure => omega
          case rel => exact ⟨i + 1, υ, μ3, c, vc, by go_num, rfl, by omega, HH.out, G3, B4, RR.out⟩
        · have g1 : (x == 0) = false := by simp; omega
          have hx1 : x ≤ 0 := by omega
          have RR : Hid _ := hR
          have HH : Hid _ := H3
          clear hR H3
          go_wp2_with fail
          refine OF.mono ?_
          rintro e w' ⟨rfl, rfl⟩
          go_wp2_with fail
          refine OF.mono ?_
          rintro e w' ⟨rfl, rfl⟩
          clear OF
          go_wp2_with fail
          go_roundg (gk - 1)
          case measure => omega
          case rel => exact ⟨i + 1, υ, μ3, c, vc, by go_num, rfl, by omega, HH.out, G3, B4, RR.out⟩
    · have hnil : clause.drop i = [] := List.drop_eq_nil_of_le (by omega)
      rw [hnil, S.addScanO] at hR
      injection hR with hR
      injection hR with hRa hRb
      subst hRa hRb
      have hge : decide (i < clause.length) = false := decide_eq_false (by omega)
      have hge2 : clause.length ≤ i := by omega
      have HH : Hid _ := H
      have BB : Hid _ := B
      clear hlt hnil H B LA
      rcases list_cases c with rfl | ⟨l, rfl⟩ | h2
      · have hF := FF.out
        injection hF with hF
        subst hF
        have H0 : Hid _ := add_done HH.out
        have k14 := full_cell H0.out 14 rfl
        have f14 := full_free H0.out 14
        have H4 : Hid _ := H0.out.setCell (k := .st) (b := p) rfl 14 (.bool true) (full_base H0.out)
        have B4 : Hid _ := BB.out.setCell (p := ⟨p, 14, none⟩) (full_lt H0.out).1 (.bool true)
        clear FF HH
        go_wp2_with fail
        exact bodyPost_end (results_none rfl _ _ _) rfl ⟨rfl, μ2, by have := H4.out; rw [abs_broken] at this; exact this, ⟨G.vcs, G.vlogs, G.wk, G.not, G.failed⟩, B4.out⟩
      · obtain ⟨υ, hs, hF⟩ := Option.bind_eq_some_iff.1 FF.out
        obtain ⟨⟨φ, r⟩, hp, hE⟩ := Option.map_eq_some_iff.1 hF
        simp only [] at hE
        have e0 := HH.out.elem (k := .loc 0) rfl (ints_at [l] (i := 0) (by simp))
        have e0' : wr.cell? ⟨gb vc, 0, none⟩ = some (.int .i64 l) := e0
        have had := HH.out.ad_ (k := .loc 0) (t := 3) (xs := ints [l]) rfl (by simp [ints])
        have SE := set_any HH.out G hs
        have HP : Hid _ := hp
        have HE : Hid _ := hE
        rw [had]
        clear FF HH hs hF hp hE e0 had G
        go_wp2_with fail
        refine SE.mono ?_
        rintro e w2 ⟨rfl, μ8, H8, G8, B8, _⟩
        have PA := propagate_any H8 G8 rfl HP.out
        have B9 : Hid _ := BB.out.trans B8
        clear SE H8 G8 B8 BB e0'
        go_wp2_with fail
        refine PA.mono ?_
        rintro e w3 ⟨rfl, μ9, H9, G9, B10⟩
        have B11 : Hid _ := B9.out.trans B10
        have H0 : Hid _ := add_done H9
        clear PA H9 B10 B9 HP
        by_cases hr : r = -1
        · subst hr
          have hE := HE.out
          rw [if_neg (by simp)] at hE
          subst hE
          clear HE
          go_wp2_with fail
          exact bodyPost_end (results_none rfl _ _ _) rfl ⟨rfl, μ9, H0.out, G9, B11.out⟩
        · have hE := HE.out
          rw [if_pos hr] at hE
          subst hE
          have g1 : (r != -1) = true := by simp [hr]
          have g2 : (r == -1) = false := by simp [hr]
          have k14 := full_cell H0.out 14 rfl
          have f14 := full_free H0.out 14
          have H4 : Hid _ := H0.out.setCell (k := .st) (b := p) rfl 14 (.bool true) (full_base H0.out)
          have B4 : Hid _ := B11.out.setCell (p := ⟨p, 14, none⟩) (full_lt H0.out).1 (.bool true)
          clear HE
          go_wp2_with fail
          exact bodyPost_end (results_none rfl _ _ _) rfl ⟨rfl, μ9, by have := H4.out; rw [abs_broken] at this; exact this, ⟨G9.vcs, G9.vlogs, G9.wk, G9.not, G9.failed⟩, B4.out⟩
      · have hF := keep_case h2 FF.out
        have KE := keep_any HH.out G rfl hF
        rw [loc3_clear0] at KE
        have g1 : ((c.length : Int) == 0) = false := by rw [beq_eq_false_iff_ne]; omega
        have g2 : ((c.length : Int) == 1) = false := by rw [beq_eq_false_iff_ne]; omega
        have BH : Hid _ := BB.out
        clear FF HH hF G BB
        go_wp2_with fail
        refine KE.mono ?_
        rintro e w2 ⟨rfl, μ8, H8, G8, B8⟩
        have B9 : Hid _ := BH.out.trans B8
        clear KE
        go_wp2_with fail
        exact bodyPost_end (results_none rfl _ _ _) rfl ⟨rfl, μ8, H8, G8, B9.out⟩
end Go.Proofs.YtdllaphnkbnpoaaGreat
