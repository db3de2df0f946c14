/- Walks for ClauseTidy: Tidy of package clause. -/
import Derived.Test.YtdllaphnkbnpoaaGreatTg
import Derived.Test.YtdllaphnkbnpoaaGreatTe
import Derived.Deep.RegionHeld3
namespace Go.Proofs.YtdllaphnkbnpoaaGreat
open Go.RowKit Go.Proofs

def tidyA (D : List (List Int)) : List (List Int) × Int := if refM D ≠ 0 then ([], refM D) else (tidyM D, 0)
/-- Rows and an error. -/
def ResRR (R : List (List Int) × Int) (w : World) (e : Ending) (w' : World) : Prop :=
  Below w.heap.size w w' ∧ ∃ A c, e = .returned (.tuple #[.slice A R.1.length c, .int .i64 R.2]) ∧ LiesR w'.heap.size w' A R.1

theorem rowsL_nil {base : Nat} {w : World} (hb : base ≤ w.heap.size) : Holds base w (rowsL (.slice none 0 0) [] []) := by
  have := nil_put (Holds.nothing base w) hb (.loc 0) 23
  refine holds_eq this ?_
  funext k
  unfold upd rowsL
  by_cases h : k = .loc 0
  · subst h; rw [if_pos rfl]; rfl
  · rw [if_neg h]
    split
    · exact absurd rfl h
    · simp
    · rfl

theorem own_row {base : Nat} {w : World} {L : Key → Res} (H : Holds base w L) {key : Key} {p : Value × List Int} (hk : L key = .row p.1 3 (ints p.2)) :
    p.1 = .slice (ad p.1) p.2.length (cp p.1) ∧ p.2.length ≤ cp p.1 ∧ Lies w.heap.size w (ad p.1) p.2 := by
  have h1 := H.sl hk
  rw [ints_length] at h1
  have h2 := H.cap hk
  rw [ints_length] at h2
  exact ⟨h1, h2, row_lies H hk⟩

theorem upd_upd_same (L : Key → Res) (k : Key) (r r' : Res) : upd (upd L k r) k r' = upd L k r' := by
  funext q; unfold upd; split <;> rfl
theorem rows2_key {v : Value} {us : List Value} {R : List (Value × List Int)} {r : Res} {p : Value × List Int} (h : p ∈ R) : ∃ j, upd (rowsL v us R) (.loc 1) r (.cls j) = .row p.1 3 (ints p.2) := by
  obtain ⟨j, hj⟩ := rowsL_key (v := v) (us := us) h
  exact ⟨j, by rw [upd_other _ _ (by simp)]; exact hj⟩

/-- slices.ContainsFunc over the rows that are left: one of them is within this one. -/
theorem covered_any {base : Nat} {wr W : World} {v v2 : Value} {us : List Value} {P Q R : List (Value × List Int)} {p : Value × List Int} (H : Holds base wr (upd (rowsL v us R) (.loc 1) (.row v2 23 (Q.map (·.1))))) (hQ : ∀ q ∈ Q, q ∈ R) (hp : p ∈ R) (hQ6 : Q.length ≤ 600) (hR : ∀ p ∈ R, p.2.length ≤ 30)
    (B : Below wr.heap.size wr W) (hlt : wr.heap.size < W.heap.size) (hc : W.cell? ⟨wr.heap.size, 0, none⟩ = some (.slice (ad p.1) p.2.length (cp p.1))) :
    Calls Tryz.prog 35 #[.slice (ad v2) Q.length (cp v2), .func (.func 36) #[] #[.pointer (some ⟨wr.heap.size, 0, none⟩)]] W fun e w' => e = .returned (.bool ((Q.map (·.2)).any fun d => withinM d p.2)) ∧ Below W.heap.size W w' := by
  have HV : ∀ V, Below W.heap.size W V → Holds base V (upd (rowsL v us R) (.loc 1) (.row v2 23 (Q.map (·.1)))) := fun V hV =>
    (H.other (fun b _ h2 => B.block b h2)).other (fun b _ h2 => hV.block b h2)
  have HW := HV W (Below.refl _ _)
  have hk : upd (rowsL v us R) (.loc 1) (.row v2 23 (Q.map (·.1))) (.loc 1) = .row v2 23 (Q.map (·.1)) := upd_same _ _ _
  have EL : Elems W (ad v2) Q.length (fun j => (Q.map (·.1)).getD j (.bool false)) := by
    rcases Nat.eq_zero_or_pos Q.length with h0 | h1
    · exact .inl h0
    · have h1' : 0 < (Q.map (·.1)).length := by rw [List.length_map]; exact h1
      refine .inr ⟨gb v2, 0, HW.ad_ hk h1', (HW.lt _ (HW.gb_ hk h1')).2, fun i hi => ?_⟩
      rw [Nat.zero_add]
      refine HW.elem hk (i := i) ?_
      simp [hi]
  have CF := containsFunc_row (c := cp v2) (lb := #[.pointer (some ⟨wr.heap.size, 0, none⟩)]) (b := fun j => (fun d => withinM d p.2) ((Q.map (·.2)).getD j [])) (by omega) (g := 36) (enters_of Tryz.func36 (by kernel_rfl) rfl) EL (fun i hi V hV => by
    have hq : Q[i] ∈ R := hQ _ (List.getElem_mem hi)
    obtain ⟨m1, k1⟩ := rows2_key (v := v) (us := us) (r := .row v2 23 (Q.map (·.1))) hq
    obtain ⟨m2, k2⟩ := rows2_key (v := v) (us := us) (r := .row v2 23 (Q.map (·.1))) hp
    obtain ⟨a1, _, a3⟩ := own_row (HV V hV) k1
    obtain ⟨_, _, b3⟩ := own_row (HV V hV) k2
    have e1 : (Q.map (·.1)).getD i (.bool false) = Q[i].1 := by simp [hi]
    have e2 : (Q.map (·.2)).getD i [] = Q[i].2 := by simp [hi]
    show Calls Tryz.prog 36 (#[(Q.map (·.1)).getD i (.bool false)] ++ _) V fun e w' => e = .returned (.bool (withinM ((Q.map (·.2)).getD i []) p.2)) ∧ _
    rw [e1, e2, a1]
    have := hR _ hq
    have := hR _ hp
    refine (tidy2_any (B := wr.heap.size) (c := cp p.1) (c' := cp Q[i].1) (cell_keep hlt hV hc) b3 (by omega) a3 (by omega)).mono ?_
    rintro e w' ⟨rfl, B3⟩
    exact ⟨rfl, hV.trans (B3.mono hV.size)⟩)
  have e9 : Q.length = (Q.map (·.2)).length := by rw [List.length_map]
  have AR := anyB_rows (Q.map (·.2)) (fun d => withinM d p.2)
  rw [← e9] at AR
  rwa [AR] at CF

def T1Rel (base : Nat) (w : World) (D : List (List Int)) (k : Nat) (x5 x19 : Value) (wr : World) : Prop :=
  ∃ (i : Nat) (v : Value) (R : List (Value × List Int)), x19 = .int .i64 (i : Int) ∧ x5 = .slice (ad v) R.length (cp v) ∧ k + i = D.length ∧ Holds base wr (rowsL v (R.map (·.1)) R) ∧ Below base w wr ∧ R.map (·.2) ++ tidyRows (D.drop i) = tidyRows D
def T2Rel (base : Nat) (w : World) (v : Value) (P R : List (Value × List Int)) (T : List (List Int)) (k : Nat) (x9 x37 : Value) (wr : World) : Prop :=
  ∃ (i : Nat) (v2 : Value) (Q : List (Value × List Int)), x37 = .int .i64 (i : Int) ∧ x9 = .slice (ad v2) Q.length (cp v2) ∧ k + i = P.length ∧ Q.length ≤ i ∧ Holds base wr (upd (rowsL v (P.map (·.1)) R) (.loc 1) (.row v2 23 (Q.map (·.1)))) ∧ Below base w wr ∧ (∀ q ∈ Q, q ∈ R) ∧ ((P.drop i).map (·.2)).foldl coverStep (Q.map (·.2)) = T

theorem tidyRows_cons (c : List Int) (D : List (List Int)) : tidyRows (c :: D) = if twiceM (sortedM c) = true then tidyRows D else sortedM c :: tidyRows D := by
  unfold tidyRows
  rw [List.map_cons, List.filter_cons]
  cases twiceM (sortedM c) <;> simp
theorem tidyRows_len (D : List (List Int)) : (tidyRows D).length ≤ D.length := by
  unfold tidyRows
  have := List.length_filter_le (fun x => !twiceM x) (D.map sortedM)
  rwa [List.length_map] at this
theorem sortedM_len (l : List Int) : (sortedM l).length ≤ l.length := by
  have h : ∀ (l out : List Int), (l.foldl insM out).length ≤ out.length + l.length := by
    intro l
    induction l with
    | nil => intro out; simp
    | cons x l ih =>
      intro out
      rw [List.foldl_cons]
      have h1 := ih (insM out x)
      have h2 : (insM out x).length ≤ out.length + 1 := by
        unfold insM
        split
        · omega
        · simp; omega
      simp only [List.length_cons]
      omega
  have := h l []
  simpa [sortedM] using this

set_option maxRecDepth 100000 in
set_option maxHeartbeats 4000000 in
theorem pTidy_any {w : World} {A : Option Addr} {D : List (List Int)} {c : Nat} (h : LiesR w.heap.size w A D) (hn : D.length ≤ 9223372036854775807) (hm : ∀ e ∈ D, e.length ≤ 9223372036854775807) :
    Calls Tryz.prog 9 #[.slice A D.length c] w (ResRR (tidyA D) w) := by
  have C1 := Check_any (c := c) h (Nat.le_refl _) hn (fun j hj => hm _ (row_ne D [] hj))
  rw [← refM_eq] at C1
  unfold ResRR tidyA
  by_cases hr : refM D = 0
  · rw [if_neg (by simp [hr])]
    rw [hr] at C1
    have d6 : D.length ≤ 600 := by
      unfold refM at hr
      split at hr
      · omega
      · omega
    have dr : ∀ e ∈ D, e.length ≤ 30 := by
      unfold refM at hr
      split at hr
      · omega
      · split at hr
        · omega
        · rename_i q
          have q : (D.all fun c => decide (c.length ≤ 30)) = true := by simpa using q
          intro e he
          have := List.all_eq_true.1 q e he
          simpa using this
    have dl : Hid (∀ e ∈ D, ∀ x ∈ e, -60000 ≤ x ∧ x ≤ 60000) := fun e he x hx => by
      have := lit_of_ref hr e he x hx
      omega
    have DR : Hid _ := dr
    have LA : Hid _ := h
    clear h hm hr dr
    obtain ⟨base, hbase⟩ : ∃ base, base = w.heap.size := ⟨_, rfl⟩
    rw [← hbase] at LA
    have HB : Hid _ := hbase
    obtain ⟨T, hT0⟩ : ∃ T, T = tidyM D := ⟨_, rfl⟩
    rw [← hT0]
    have HT0 : Hid _ := hT0
    clear hT0
    go_enter Tryz.func9, Tryz.ntmps9
    go_wp2_with fail
    refine C1.mono ?_
    rintro e w1 ⟨rfl, B1⟩
    rw [← hbase] at B1
    have hbz1 : base ≤ w1.heap.size := Nat.le_trans (by omega) B1.size
    have start : Hid (T1Rel base w D D.length (.slice none 0 0) (.int .i64 ((0 : Nat) : Int)) w1) := ⟨0, .slice none 0 0, [], rfl, rfl, rfl, rowsL_nil hbz1, B1, by simp⟩
    clear C1 B1 hbz1 hbase
    go_wp2_with fail
    go_loopg [5, 19] D.length (fun k x5 x19 wr => T1Rel base w D k x5 x19 wr)
    case atStart => exact start.out
    case round =>
      clear start
      obtain ⟨i, v, R, rfl, rfl, hki, H, B, hT⟩ := hrel
      have hbz : base ≤ wr.heap.size := by have := B.size; have := HB.out; omega
      by_cases hlt : i < D.length
      · obtain ⟨b, o, rfl, hbb, hcell⟩ := liesR_at (LiesR.below LA.out B) hlt
        obtain ⟨A', c', ei, hc', hli⟩ := hcell i hlt
        have hd : D.drop i = D.getD i [] :: D.drop (i + 1) := by
          rw [List.drop_eq_getElem_cons hlt]; simp [hlt]
        have hcl := DR.out _ (row_ne D [] hlt)
        have hcb := dl.out _ (row_ne D [] hlt)
        rw [hd, tidyRows_cons] at hT
        generalize D.getD i [] = r at *
        have TD := tidied_any (c := c') (Lies.mono hli hbz) (by omega) hcb
        have RL : Hid (R.length ≤ 600) := by
          have h1 := congrArg List.length hT
          have h2 := tidyRows_len D
          rw [List.length_append, List.length_map] at h1
          show R.length ≤ 600
          omega
        have SB : Hid (∀ x ∈ sortedM r, -60000 ≤ x ∧ x ≤ 60000) := fun x hx => hcb x ((sortedM_has r x).1 hx)
        have SL : Hid ((sortedM r).length ≤ 30) := by have := sortedM_len r; show _ ≤ _; omega
        have HH : Hid _ := H
        have BH : Hid _ := B
        have HT : Hid _ := hT
        have HZ : Hid _ := hbz
        clear hcell hli hd hT H B hcb hcl hc' hbz
        generalize sortedM r = s at *
        go_wp2_with fail
        refine TD.mono ?_
        rintro e w2 ⟨v3, rfl, H3, B3⟩
        have SL2 := SL.out
        have TW := pTwice_any (c := cp v3) (row_lies H3 (k := .loc 0) rfl) (by omega) SB.out
        have hs3 := H3.sl (k := .loc 0) rfl
        rw [ints_length] at hs3
        have HJ : Hid (Holds base w2 (rowsL v (R.map (·.1)) (R ++ [(Value.slice (ad v3) s.length (cp v3), s)]))) := by
          have := Holds.join HH.out (.cls R.length) B3 H3 HZ.out
          have e1 := rowsL_cls v (R.map (·.1)) R (Value.slice (ad v3) s.length (cp v3), s)
          rw [← e1]
          show Holds base w2 (upd _ _ (.row (.slice (ad v3) s.length (cp v3)) 3 (ints s)))
          rw [← hs3]
          exact this
        have HK : Hid (Holds base w2 (rowsL v (R.map (·.1)) R)) := HH.out.other (fun b _ h2 => B3.block b h2)
        have B2h : Hid _ := BH.out.trans (B3.mono HZ.out)
        clear TD H3 B3 SL2 hs3
        cases ht : twiceM s with
        | true =>
          have HT2 := HT.out
          rw [if_pos ht] at HT2
          rw [ht] at TW
          have HT3 : Hid _ := HT2
          clear HT HT2 HJ ht
          go_wp2_with fail
          refine TW.mono ?_
          rintro e w3 ⟨rfl, B4⟩
          have HE : Hid _ := HK.out.other (fun b _ h2 => B4.block b h2)
          have BE : Hid _ := B2h.out.trans (B4.mono (by have := B2h.out.size; have := HB.out; omega))
          clear TW B4
          go_wp2_with fail
          go_roundg (gk - 1)
          case measure => omega
          case rel => exact ⟨i + 1, v, R, by go_num, rfl, by omega, HE.out, BE.out, HT3.out⟩
        | false =>
          have HT2 := HT.out
          rw [if_neg (by simp [ht])] at HT2
          rw [ht] at TW
          have HT3 : Hid _ := HT2
          clear HT HT2 HK ht
          go_wp2_with fail
          refine TW.mono ?_
          rintro e w3 ⟨rfl, B4⟩
          have HE := HJ.out.other (w' := w3) (fun b _ h2 => B4.block b h2)
          have BE := B2h.out.trans (B4.mono (by have := B2h.out.size; have := HB.out; omega))
          have hbz3 : base ≤ w3.heap.size := by have := BE.size; have := HB.out; omega
          have LS : Hid _ := HE.alloc (.cells #[.slice (ad v3) s.length (cp v3)] 23)
          have BL : Hid _ := BE.alloc hbz3 (.cells #[.slice (ad v3) s.length (cp v3)] 23)
          have hbz4 : base ≤ (w3.alloc (.cells #[.slice (ad v3) s.length (cp v3)] 23)).heap.size := by rw [size_alloc]; omega
          have RL2 := RL.out
          clear TW B4 HE BE
          go_wp2_with (at_builtin; refine law_pushAt LS.out (.loc 0) rfl (.tmp 28) (.tmp 30) 22 23 (.slice none 0 0) 24 rfl Tryz.underlying22 info23 rfl (by decide) R.length (.slice (ad v3) s.length (cp v3)) rfl (List.length_map _) rfl w3.heap.size rfl ?hy rfl ?hb ?hl ?_)
          try (case hy => first | exact cell_new _ _ _ _ (by simp) | exact cell_new_drew _ _ _ _ (by simp))
          case hb => exact hbz4
          case hl => omega
          intro A3 c3 w6 H6 B6 _
          rw [rowsL_upd0] at H6
          have e9 : R.map (·.1) ++ [Value.slice (ad v3) s.length (cp v3)] = (R ++ [(Value.slice (ad v3) s.length (cp v3), s)]).map (·.1) := by rw [List.map_append]; rfl
          rw [e9] at H6
          have H6H : Hid _ := H6
          have B6H : Hid _ := BL.out.trans B6
          clear H6 B6 e9
          go_wp2_with fail
          go_roundg (gk - 1)
          case measure => omega
          case rel => exact ⟨i + 1, .slice A3 (R.length + 1) c3, R ++ [(Value.slice (ad v3) s.length (cp v3), s)], by go_num, by simp [ad, cp], by omega, H6H.out, B6H.out, by rw [← HT3.out]; simp⟩
      · have hnil : D.drop i = [] := List.drop_eq_nil_of_le (by omega)
        rw [hnil] at hT
        have hge : decide (i < D.length) = false := decide_eq_false (by omega)
        have hge2 : D.length ≤ i := by omega
        have hT2 : R.map (·.2) = tidyRows D := by rw [← hT]; simp [tidyRows]
        have hRm : ∀ p ∈ R, ∃ e ∈ D, p.2 = sortedM e := fun p hp => by
          have : p.2 ∈ tidyRows D := by rw [← hT2]; exact List.mem_map.2 ⟨p, hp, rfl⟩
          unfold tidyRows at this
          obtain ⟨h1, _⟩ := List.mem_filter.1 this
          obtain ⟨e, he, e2⟩ := List.mem_map.1 h1
          exact ⟨e, he, e2.symm⟩
        have hRl : R.length ≤ 600 := by
          have h1 := congrArg List.length hT2
          have h2 := tidyRows_len D
          rw [List.length_map] at h1
          omega
        have hR30 : ∀ p ∈ R, p.2.length ≤ 30 := fun p hp => by
          obtain ⟨e, he, e2⟩ := hRm p hp
          rw [e2]
          have := sortedM_len e
          have := DR.out e he
          omega
        have hRb : ∀ p ∈ R, ∀ x ∈ p.2, -60000 ≤ x ∧ x ≤ 60000 := fun p hp x hx => by
          obtain ⟨e, he, e2⟩ := hRm p hp
          rw [e2] at hx
          exact dl.out e he x ((sortedM_has e x).1 hx)
        have SR := sortRows H hbz (by omega) (fun p hp => by have := hR30 p hp; omega) hRb
        have HT2 : Hid _ := hT2
        have R30 : Hid _ := hR30
        have BH : Hid _ := B
        clear hlt hnil hT hT2 hRm hR30 hRb H B dl DR LA hbz
        go_wp2_with fail
        refine SR.mono ?_
        rintro e w2 ⟨rfl, B2, P, hP, hSo, H2⟩
        have hPl : P.length = R.length := hP.length_eq
        have B2h : Hid _ := BH.out.trans B2
        have hTT : coverM (P.map (·.2)) = T := by
          rw [HT0.out]
          unfold tidyM
          congr 1
          refine sortedR_unique ?_ hSo (sortR_sorted _)
          refine (hP.map (·.2)).trans ?_
          rw [HT2.out]
          exact (sortR_perm _).symm
        have hbz2 : base ≤ w2.heap.size := by have := B2h.out.size; have := HB.out; omega
        have H20 := nil_put H2 hbz2 (.loc 1) 23
        have PR : Hid (∀ p ∈ P, p ∈ R) := fun p hp => hP.mem_iff.1 hp
        rw [← hPl] at H20 ⊢
        obtain ⟨vv, hvv⟩ : ∃ vv : Value, vv = .slice (ad v) P.length (cp v) := ⟨_, rfl⟩
        rw [← hvv] at H20
        have eav : ad v = ad vv := by rw [hvv]; rfl
        have ecv : cp v = cp vv := by rw [hvv]; rfl
        rw [eav, ecv]
        have AVH : Hid (0 < P.length → ad vv = some ⟨gb vv, 0, none⟩) := fun hp => H20.ad_ (k := .loc 0) (t := 23) (xs := P.map (·.1)) (by rw [upd_other _ _ (by simp)]; rfl) (by rw [List.length_map]; exact hp)
        have start2 : Hid (T2Rel base w vv P R T P.length (.slice none 0 0) (.int .i64 ((0 : Nat) : Int)) w2) := ⟨0, .slice none 0 0, [], rfl, rfl, rfl, Nat.le_refl _, H20, B2h.out, (fun q hq => by cases hq), by rw [← hTT]; rfl⟩
        have hP6 : P.length ≤ 600 := by omega
        clear SR H2 B2 H20 hP hSo hTT hbz2 hvv eav ecv HT2 BH hPl hge hge2
        generalize hav : ad vv = AV at *
        clear hav
        go_wp2_with fail
        go_loopg [9, 37] P.length (fun k x9 x37 wr => T2Rel base w vv P R T k x9 x37 wr)
        case atStart => exact start2.out
        case round =>
          clear start2
          obtain ⟨j, v2, Q, rfl, rfl, hkj, hQj, H3, B3, hQ, hT3⟩ := hrel
          have hbz3 : base ≤ wr.heap.size := by have := B3.size; have := HB.out; omega
          by_cases hlt : j < P.length
          · obtain rfl : AV = some ⟨gb vv, 0, none⟩ := AVH.out (by omega)
            have hp : P[j] ∈ R := PR.out _ (List.getElem_mem hlt)
            have e1 : wr.cell? ⟨gb vv, j, none⟩ = some P[j].1 := H3.elem (k := .loc 0) (t := 23) (xs := P.map (·.1)) (by rw [upd_other _ _ (by simp)]; rfl) (by simp [hlt])
            obtain ⟨mm, hkk⟩ := rows2_key (v := vv) (us := P.map (·.1)) (r := .row v2 23 (Q.map (·.1))) hp
            have hr1 := (own_row H3 hkk).1
            rw [hr1] at e1
            have hd : P.drop j = P[j] :: P.drop (j + 1) := List.drop_eq_getElem_cons hlt
            rw [hd, List.map_cons, List.foldl_cons] at hT3
            generalize P[j] = p at *
            have hQ6 : Q.length ≤ 600 := by omega
            have CV : Hid (∀ W, Below wr.heap.size wr W → wr.heap.size < W.heap.size → W.cell? ⟨wr.heap.size, 0, none⟩ = some (.slice (ad p.1) p.2.length (cp p.1)) →
                Calls Tryz.prog 35 #[.slice (ad v2) Q.length (cp v2), .func (.func 36) #[] #[.pointer (some ⟨wr.heap.size, 0, none⟩)]] W fun e w' => e = .returned (.bool ((Q.map (·.2)).any fun d => withinM d p.2)) ∧ Below W.heap.size W w') := fun W h1 h2 h3 => covered_any (P := P) H3 hQ hp hQ6 R30.out h1 h2 h3
            have H3h : Hid _ := H3
            have B3h : Hid _ := B3
            have QR : Hid _ := hQ
            have HP : Hid _ := hp
            have HT : Hid _ := hT3
            have HR1 : Hid _ := hr1
            clear H3 B3 hQ hp hT3 hd hkk hr1
            generalize hA' : ad p.1 = A' at *
            generalize hcu : cp p.1 = cu at *
            generalize hs : p.2 = s at *
            go_wp2_with fail
            have BA : Below wr.heap.size wr (wr.alloc (.cells #[.slice A' s.length cu] 23)) := (Below.refl _ _).alloc (Nat.le_refl _) _
            have CC := CV.out _ BA (by rw [size_alloc]; omega) (cell_new _ _ _ _ rfl)
            have BAh : Hid _ := BA
            clear BA CV
            cases hcv : (Q.map (·.2)).any fun d => withinM d s with
            | true =>
              rw [hcv] at CC
              have HT2 := HT.out
              unfold coverStep at HT2
              rw [if_pos hcv] at HT2
              have HT3 : Hid _ := HT2
              clear HT HT2 hcv
              refine CC.mono ?_
              rintro e w5 ⟨rfl, B5⟩
              have B5h : Below wr.heap.size wr w5 := BAh.out.trans (B5.mono BAh.out.size)
              have HE : Hid _ := H3h.out.other (fun b _ h2 => B5h.block b h2)
              have BE : Hid _ := B3h.out.trans (B5h.mono (by have := B3h.out.size; have := HB.out; omega))
              clear CC B5 B5h
              go_wp2_with fail
              go_roundg (gk - 1)
              case measure => omega
              case rel => exact ⟨j + 1, v2, Q, by go_num, rfl, by omega, by omega, HE.out, BE.out, QR.out, HT3.out⟩
            | false =>
              rw [hcv] at CC
              have HT2 := HT.out
              unfold coverStep at HT2
              rw [if_neg (by rw [hcv]; simp)] at HT2
              have HT3 : Hid _ := HT2
              clear HT HT2 hcv
              refine CC.mono ?_
              rintro e w5 ⟨rfl, B5⟩
              have k5 : w5.cell? ⟨wr.heap.size, 0, none⟩ = some (.slice A' s.length cu) := cell_keep (by rw [size_alloc]; omega) B5 (cell_new _ _ _ _ rfl)
              have B5h : Below wr.heap.size wr w5 := BAh.out.trans (B5.mono BAh.out.size)
              have HE := H3h.out.other (w' := w5) (fun b _ h2 => B5h.block b h2)
              have BE := B3h.out.trans (B5h.mono (by have := B3h.out.size; have := HB.out; omega))
              have hbz5 : base ≤ w5.heap.size := by have := BE.size; have := HB.out; omega
              have LS : Hid _ := HE.alloc (.cells #[.slice A' s.length cu] 23)
              have BL : Hid _ := BE.alloc hbz5 (.cells #[.slice A' s.length cu] 23)
              have hbz6 : base ≤ (w5.alloc (.cells #[.slice A' s.length cu] 23)).heap.size := by rw [size_alloc]; omega
              clear CC B5 B5h HE BE
              go_wp2_with (at_builtin; refine law_pushAt LS.out (.loc 1) rfl (.tmp 45) (.tmp 47) 22 23 (.slice none 0 0) 24 rfl Tryz.underlying22 info23 rfl (by decide) Q.length (.slice A' s.length cu) (upd_same _ _ _) (List.length_map _) rfl w5.heap.size rfl ?hy rfl ?hb ?hl ?_)
              try (case hy => first | exact cell_new _ _ _ _ (by simp) | exact cell_new_drew _ _ _ _ (by simp))
              case hb => exact hbz6
              case hl => omega
              intro A3 c3 w6 H6 B6 _
              rw [upd_upd_same] at H6
              have e9 : Q.map (·.1) ++ [Value.slice A' s.length cu] = (Q ++ [p]).map (·.1) := by
                rw [List.map_append]
                show _ = _ ++ [p.1]
                rw [HR1.out]
              rw [e9] at H6
              have H6H : Hid _ := H6
              have B6H : Hid _ := BL.out.trans B6
              clear H6 B6 e9
              go_wp2_with fail
              go_roundg (gk - 1)
              case measure => omega
              case rel => exact ⟨j + 1, .slice A3 (Q.length + 1) c3, Q ++ [p], by go_num, by simp [ad, cp], by omega, by simp; omega, H6H.out, B6H.out, (fun q hq => by
                rcases List.mem_append.1 hq with z | z
                · exact QR.out q z
                · rw [List.mem_singleton] at z; rw [z]; exact HP.out), by rw [← HT3.out, List.map_append]; show _ = List.foldl _ (_ ++ [s]) _; rw [← hs]; rfl⟩
          · have hnil : P.drop j = [] := List.drop_eq_nil_of_le (by omega)
            rw [hnil] at hT3
            have hge : decide (j < P.length) = false := decide_eq_false (by omega)
            have hge2 : P.length ≤ j := by omega
            have hT4 : Q.map (·.2) = T := hT3
            have LO := rowsL_out (P := Q) H3 (upd_same _ _ _) (fun q hq => by
              obtain ⟨m, hk⟩ := rows2_key (v := vv) (us := P.map (·.1)) (r := .row v2 23 (Q.map (·.1))) (hQ q hq)
              obtain ⟨a1, a2, a3⟩ := own_row H3 hk
              exact ⟨_, a1, a2, a3⟩)
            rw [hT4] at LO
            have HL : Hid (Q.length = T.length) := by rw [← hT4, List.length_map]; rfl
            have LOh : Hid _ := LO
            have BE : Hid _ := B3
            clear LO hT3 hT4 hnil H3 B3 hQ hlt
            go_wp2_with fail
            go_ret2
            exact ⟨by have := BE.out; rwa [HB.out] at this, ad v2, cp v2, by rw [← HL.out]; rfl, LOh.out⟩
  · rw [if_pos hr]
    have g1 : (refM D != 0) = true := by simp [hr]
    clear h hm hr
    generalize refM D = r at *
    go_enter Tryz.func9, Tryz.ntmps9
    go_wp2_with fail
    refine C1.mono ?_
    rintro e w1 ⟨rfl, B1⟩
    have B1h : Hid _ := B1
    clear C1 B1
    go_wp2_with fail
    go_ret2
    exact ⟨B1h.out, none, 0, rfl, .inl rfl⟩
end Go.Proofs.YtdllaphnkbnpoaaGreat
