/- Walks for ClauseTidy: Tidy of the reference. -/
import Derived.Test.YtdllaphnkbnpoaaGreatTh
namespace Go.Proofs.YtdllaphnkbnpoaaGreat
open Go.RowKit Go.Proofs

theorem reads_takeV {base : Nat} {w : World} {L : Key → Res} (H : Holds base w L) {k : Key} {v : Value} {t : TypeId} {xs : List Value} (hk : L k = .row v t xs) (q : Nat) : Reads w (some ⟨gb v, 0, none⟩) (xs.take q) := by
  refine ⟨fun h => (by cases h), fun a ha j u hu => ?_⟩
  injection ha with ha
  subst ha
  rw [addr_add, Nat.zero_add]
  refine H.elem hk ?_
  rw [List.getElem?_take] at hu
  split at hu
  · exact hu
  · cases hu
theorem reads_dropV {base : Nat} {w : World} {L : Key → Res} (H : Holds base w L) {k : Key} {v : Value} {t : TypeId} {xs : List Value} (hk : L k = .row v t xs) (q : Nat) {a' : Addr} (ha' : q < xs.length → a' = ⟨gb v, q, none⟩) : Reads w (some a') (xs.drop q) := by
  refine ⟨fun h => (by cases h), fun a ha j u hu => ?_⟩
  injection ha with ha
  subst ha
  rw [List.getElem?_drop] at hu
  have hlt := (List.getElem?_eq_some_iff.1 hu).1
  rw [ha' (by omega), addr_add]
  exact H.elem hk hu
theorem insV_len {us : List Value} {U : Value} {q : Nat} (hq : q ≤ us.length) : (us.take q ++ [U] ++ us.drop q).length = q + 1 + (us.length - q) := by
  simp; omega
theorem rows_fin {base : Nat} {w : World} {v v' : Value} {us us' : List Value} {R : List (Value × List Int)} {a b c : Res} (H : Holds base w (upd (upd (upd (upd (rowsL v us R) (.loc 1) a) (.loc 1) b) (.loc 1) c) (.loc 1) (.row v' 23 us'))) : Holds base w (rowsL v' us' R) := by
  have := H.move (.loc 1) (.loc 0)
  refine holds_eq this ?_
  funext k
  unfold upd
  by_cases h0 : k = .loc 0
  · subst h0; simp [rowsL]
  · by_cases h1 : k = .loc 1
    · subst h1; simp [rowsL]
    · simp only [h0, h1, if_false]
      unfold rowsL
      split
      · exact absurd rfl h0
      · rfl
      · rfl

/-- What stands after i clauses. -/
def TrInv (D : List (List Int)) (i : Nat) (us : List Value) (P R : List (Value × List Int)) : Prop :=
  us = P.map (·.1) ∧ P.Perm R ∧ us.length ≤ i ∧ (tidyRows (D.drop i)).foldl insR (P.map (·.2)) = sortR (tidyRows D) ∧ ∀ p ∈ R, p.2.length ≤ 30 ∧ ∀ x ∈ p.2, -60000 ≤ x ∧ x ≤ 60000
theorem tr_skip {D : List (List Int)} {i : Nat} {us : List Value} {P R : List (Value × List Int)} {c : List Int} (h : TrInv D i us P R) (hd : D.drop i = c :: D.drop (i + 1)) (ht : twiceM (sortedM c) = true) : TrInv D (i + 1) us P R := by
  obtain ⟨h1, h2, h3, h4, h5⟩ := h
  rw [hd, tidyRows_cons, if_pos ht] at h4
  exact ⟨h1, h2, by omega, h4, h5⟩
theorem tr_ins {D : List (List Int)} {i q : Nat} {us : List Value} {P R : List (Value × List Int)} {c : List Int} {U : Value} (h : TrInv D i us P R) (hd : D.drop i = c :: D.drop (i + 1)) (ht : twiceM (sortedM c) = false) (hc : c.length ≤ 30) (hb : ∀ x ∈ c, -60000 ≤ x ∧ x ≤ 60000) (hq : posR (sortedM c) (P.map (·.2)) = q) :
    TrInv D (i + 1) (us.take q ++ [U] ++ us.drop q) (P.take q ++ [(U, sortedM c)] ++ P.drop q) (R ++ [(U, sortedM c)]) := by
  obtain ⟨h1, h2, h3, h4, h5⟩ := h
  rw [hd, tidyRows_cons, if_neg (by simp [ht]), List.foldl_cons] at h4
  have hql := posR_le (sortedM c) (P.map (·.2))
  rw [hq, List.length_map] at hql
  have hul : us.length = P.length := by rw [h1, List.length_map]
  refine ⟨by rw [h1]; simp [List.map_take, List.map_drop], ?_, by simp; omega, ?_, fun p hp => ?_⟩
  · have e1 : (P.take q ++ [(U, sortedM c)] ++ P.drop q).Perm ((U, sortedM c) :: (P.take q ++ P.drop q)) := by
      rw [List.append_assoc]; exact List.perm_middle
    rw [List.take_append_drop] at e1
    have e2 : ((U, sortedM c) :: P).Perm ((U, sortedM c) :: R) := List.Perm.cons _ h2
    have e3 : (R ++ [(U, sortedM c)]).Perm ((U, sortedM c) :: (R ++ [])) := List.perm_middle
    rw [List.append_nil] at e3
    exact e1.trans (e2.trans e3.symm)
  · rw [← h4]
    congr 1
    unfold insR
    rw [hq]
    simp [List.map_take, List.map_drop]
  · rcases List.mem_append.1 hp with z | z
    · exact h5 p z
    · rw [List.mem_singleton] at z
      rw [z]
      have := sortedM_len c
      exact ⟨by show (sortedM c).length ≤ 30; omega, fun x hx => hb x ((sortedM_has c x).1 hx)⟩

def Tr1Rel (base : Nat) (w : World) (D : List (List Int)) (k : Nat) (x5 x6 : Value) (wr : World) : Prop :=
  ∃ (i : Nat) (v : Value) (us : List Value) (P R : List (Value × List Int)), x6 = .int .i64 (i : Int) ∧ x5 = .slice (ad v) us.length (cp v) ∧ k + i = D.length ∧ Holds base wr (rowsL v us R) ∧ Below base w wr ∧ TrInv D i us P R ∧ (us.length = 0 → v = .slice none 0 0)
def Tr2Rel (w : World) (base q : Nat) (k : Nat) (x8 : Value) (wr : World) : Prop :=
  ∃ j : Nat, x8 = .int .i64 (j : Int) ∧ k + j = q ∧ Below base w wr
def Tr3Rel (base : Nat) (w : World) (v : Value) (us : List Value) (P R : List (Value × List Int)) (T : List (List Int)) (k : Nat) (x9 x10 : Value) (wr : World) : Prop :=
  ∃ (i : Nat) (v2 : Value) (Q : List (Value × List Int)), x10 = .int .i64 (i : Int) ∧ x9 = .slice (ad v2) Q.length (cp v2) ∧ k + i = P.length ∧ Q.length ≤ i ∧ Holds base wr (upd (rowsL v us R) (.loc 1) (.row v2 23 (Q.map (·.1)))) ∧ Below base w wr ∧ (∀ q ∈ Q, q ∈ R) ∧ ((P.drop i).map (·.2)).foldl coverStep (Q.map (·.2)) = T
def Tr4Rel (w : World) (base : Nat) (s : List Int) (Q : List (Value × List Int)) (k : Nat) (x11 x12 : Value) (wr : World) : Prop :=
  ∃ (j : Nat) (cov : Bool), x12 = .int .i64 (j : Int) ∧ x11 = .bool cov ∧ k + j = Q.length ∧ Below base w wr ∧ ((Q.take j).map (·.2)).any (fun d => withinM d s) = cov

set_option maxRecDepth 100000 in
set_option maxHeartbeats 8000000 in
theorem rTidy_any {w : World} {A : Option Addr} {D : List (List Int)} {c : Nat} (h : LiesR w.heap.size w A D) (hn : D.length ≤ 9223372036854775807) (hm : ∀ e ∈ D, e.length ≤ 9223372036854775807) (hw : ∀ e ∈ D, ∀ x ∈ e, -9223372036854775808 ≤ x ∧ x ≤ 9223372036854775807) :
    Calls Tryz.prog 10 #[.slice A D.length c] w (ResRR (tidyA D) w) := by
  have C1 := refCheck_any (c := c) h hn hm hw
  unfold tidyA
  by_cases hr : refM D = 0
  · rw [if_neg (by simp [hr])]
    rw [hr] at C1
    have d6 : D.length ≤ 600 := by
      unfold refM at hr
      split at hr
      · omega
      · omega
    have dr : ∀ e ∈ D, e.length ≤ 30 := by
      unfold refM at hr
      split at hr
      · omega
      · split at hr
        · omega
        · rename_i q
          have q : (D.all fun c => decide (c.length ≤ 30)) = true := by simpa using q
          intro e he
          have := List.all_eq_true.1 q e he
          simpa using this
    have dl : Hid (∀ e ∈ D, ∀ x ∈ e, -60000 ≤ x ∧ x ≤ 60000) := fun e he x hx => by
      have := lit_of_ref hr e he x hx
      omega
    have DR : Hid _ := dr
    have LA : Hid _ := h
    clear h hm hw hr dr
    obtain ⟨base, hbase⟩ : ∃ base, base = w.heap.size := ⟨_, rfl⟩
    rw [← hbase] at LA
    have HB : Hid _ := hbase
    obtain ⟨T, hT0⟩ : ∃ T, T = tidyM D := ⟨_, rfl⟩
    rw [← hT0]
    have HT0 : Hid _ := hT0
    clear hT0
    have start : Hid (Tr1Rel base w D D.length (.slice none 0 0) (.int .i64 ((0 : Nat) : Int)) w) := ⟨0, .slice none 0 0, [], [], [], rfl, rfl, rfl, rowsL_nil (by omega), by rw [hbase]; exact Below.refl _ _, ⟨rfl, List.Perm.refl _, Nat.le_refl _, by simp [sortR], fun p hp => by cases hp⟩, fun _ => rfl⟩
    go_enter Tryz.func10, Tryz.ntmps10
    go_wp2_with fail
    refine C1.mono ?_
    rintro e w1 ⟨rfl, rfl⟩
    clear C1 hbase
    go_wp2_with fail
    go_loopg [5, 6] D.length (fun k x5 x6 wr => Tr1Rel base w1 D k x5 x6 wr)
    case atStart => exact start.out
    case round =>
      clear start
      obtain ⟨i, v, us, P, R, rfl, rfl, hki, H, B, hI, hnv⟩ := hrel
      have hbz : base ≤ wr.heap.size := by have := B.size; have := HB.out; omega
      have NV : Hid _ := hnv
      clear hnv
      by_cases hlt : i < D.length
      · obtain ⟨m, rfl⟩ : ∃ m, gk = m + 1 := ⟨gk - 1, by omega⟩
        obtain ⟨b, o, rfl, hbb, hcell⟩ := liesR_at (LiesR.below LA.out B) hlt
        obtain ⟨A', c', ei, hc', hli⟩ := hcell i hlt
        have hd : D.drop i = D.getD i [] :: D.drop (i + 1) := by
          rw [List.drop_eq_getElem_cons hlt]; simp [hlt]
        have hcl := DR.out _ (row_ne D [] hlt)
        have hcb := dl.out _ (row_ne D [] hlt)
        generalize D.getD i [] = r at *
        have SO := sorted_any (c := c') (Nat.le_refl _) (Lies.mono hli hbz) (by omega) hcb
        have TSK : Hid (twiceM (sortedM r) = true → TrInv D (i + 1) us P R) := fun ht => tr_skip hI hd ht
        have TIN : Hid (twiceM (sortedM r) = false → ∀ U q, posR (sortedM r) (P.map (·.2)) = q → TrInv D (i + 1) (us.take q ++ [U] ++ us.drop q) (P.take q ++ [(U, sortedM r)] ++ P.drop q) (R ++ [(U, sortedM r)])) := fun ht U q hq => tr_ins hI hd ht hcl hcb hq
        have SB : Hid (∀ x ∈ sortedM r, -60000 ≤ x ∧ x ≤ 60000) := fun x hx => hcb x ((sortedM_has r x).1 hx)
        have SL : Hid ((sortedM r).length ≤ 30) := by have := sortedM_len r; show _ ≤ _; omega
        have UI : Hid (us.length ≤ i) := hI.2.2.1
        have II : Hid _ := hI
        have HH : Hid _ := H
        have BH : Hid _ := B
        have HZ : Hid _ := hbz
        clear hcell hli hd hI H B hcb hcl hc' hbz
        generalize sortedM r = s at *
        go_wp2_with fail
        refine SO.mono ?_
        rintro e w2 ⟨v3, rfl, B3, H3⟩
        have SL2 := SL.out
        have TW := twice_any (c := cp v3) (row_lies H3 (k := .loc 0) rfl) (by omega) SB.out
        have hs3 := H3.sl (k := .loc 0) rfl
        rw [ints_length] at hs3
        have HJ : Hid (Holds base w2 (rowsL v us (R ++ [(Value.slice (ad v3) s.length (cp v3), s)]))) := by
          have := Holds.join HH.out (.cls R.length) B3 H3 HZ.out
          have e1 := rowsL_cls v us R (Value.slice (ad v3) s.length (cp v3), s)
          rw [← e1]
          show Holds base w2 (upd _ _ (.row (.slice (ad v3) s.length (cp v3)) 3 (ints s)))
          rw [← hs3]
          exact this
        have HK : Hid (Holds base w2 (rowsL v us R)) := HH.out.other (fun b _ h2 => B3.block b h2)
        have B2h : Hid _ := BH.out.trans (B3.mono HZ.out)
        clear SO H3 B3 SL2 hs3
        cases ht : twiceM s with
        | true =>
          rw [ht] at TW
          have TI : Hid _ := TSK.out ht
          clear TSK TIN HJ ht
          go_wp2_with fail
          refine TW.mono ?_
          rintro e w3 ⟨rfl, B4⟩
          have HE : Hid _ := HK.out.other (fun b _ h2 => B4.block b h2)
          have BE : Hid _ := B2h.out.trans (B4.mono (by have := B2h.out.size; have := HB.out; omega))
          clear TW B4
          go_wp2_with fail
          go_roundg m
          case measure => omega
          case rel => exact ⟨i + 1, v, us, P, R, by go_num, rfl, by omega, HE.out, BE.out, TI.out, NV.out⟩
        | false =>
          rw [ht] at TW
          have TI0 := TIN.out ht (.slice (ad v3) s.length (cp v3)) _ rfl
          have TIh : Hid _ := TI0
          clear TSK TIN HK ht TI0
          generalize hAX : ad v3 = AX at *
          generalize hcx : cp v3 = cx at *
          go_wp2_with fail
          refine TW.mono ?_
          rintro e w3 ⟨rfl, B4⟩
          have HE : Hid _ := HJ.out.other (w' := w3) (fun b _ h2 => B4.block b h2)
          have BE : Hid _ := B2h.out.trans (B4.mono (by have := B2h.out.size; have := HB.out; omega))
          clear TW B4 HJ B2h HH BH
          have hul : us.length = P.length := by rw [II.out.1, List.length_map]
          have UL : Hid _ := hul
          clear hul
          have hz3 : base ≤ w3.heap.size := by have := BE.out.size; have := HB.out; omega
          generalize hav : ad v = AV at *
          have AVH : Hid (0 < us.length → AV = some ⟨gb v, 0, none⟩) := by
            intro hp
            rw [← hav]
            exact HE.out.ad_ (k := .loc 0) (t := 23) (xs := us) rfl hp
          have AE : Hid _ := hav
          obtain ⟨q, hq⟩ : ∃ q, q = posR s (P.map (·.2)) := ⟨_, rfl⟩
          rw [← hq] at TIh
          have HQ : Hid _ := hq
          obtain ⟨R2, hR2⟩ : ∃ R2, R2 = R ++ [(Value.slice AX s.length cx, s)] := ⟨_, rfl⟩
          rw [← hR2] at HE TIh
          have start2 : Hid (Tr2Rel w3 w3.heap.size q q (.int .i64 ((0 : Nat) : Int)) w3) := ⟨0, rfl, by omega, Below.refl _ _⟩
          have PR2 : Hid (∀ p ∈ P, p ∈ R2) := fun p hp => by rw [hR2]; exact List.mem_append_left _ (II.out.2.1.mem_iff.1 hp)
          have SR2 : Hid ((Value.slice AX s.length cx, s) ∈ R2) := by rw [hR2]; exact List.mem_append_right _ (List.mem_singleton.2 rfl)
          have R30 : Hid (∀ p ∈ R2, p.2.length ≤ 30 ∧ ∀ x ∈ p.2, -60000 ≤ x ∧ x ≤ 60000) := TIh.out.2.2.2.2
          obtain ⟨wsz, hwsz⟩ : ∃ z, z = w3.heap.size := ⟨_, rfl⟩
          rw [← hwsz] at start2
          have WSZ : Hid _ := hwsz
          clear hav hq hR2 hwsz
          have hul6 : us.length ≤ 600 := by have := UI.out; omega
          have OT0 : Hid (∀ u ∈ us, u.oneCell' = true) := fun u hu => by
            rw [II.out.1] at hu
            obtain ⟨p, hp, rfl⟩ := List.mem_map.1 hu
            obtain ⟨j, hk⟩ := rowsL_key (v := v) (us := us) (PR2.out p hp)
            rw [(own_row HE.out hk).1]; rfl
          generalize hsn : s.length = n at *
          have SN : Hid _ := hsn
          clear hsn
          go_wp2_with fail
          go_loopg [8] q (fun k x8 w' => Tr2Rel w3 wsz q k x8 w')
          case atStart => exact start2.out
          case round =>
            clear start2
            obtain ⟨j, rfl, hkj, B2⟩ := hrel
            have hpl : q ≤ us.length := by have := posR_le s (P.map (·.2)); rw [List.length_map] at this; have := UL.out; have := HQ.out; omega
            have hbw3 : base ≤ wsz := by have := WSZ.out; omega
            have H4 : Hid (Holds base wr (rowsL v us R2)) := HE.out.other (fun b _ hb => B2.block b (by rw [WSZ.out]; exact hb))
            have BW : Hid (Below base w1 wr) := BE.out.trans (B2.mono (B' := base) hbw3)
            have hbwr : base ≤ wr.heap.size := by have := BW.out.size; have := HB.out; omega
            by_cases hlt2 : j < q
            · have hjo : j < us.length := by omega
              have hjp : j < P.length := by have := UL.out; omega
              obtain rfl : AV = some ⟨gb v, 0, none⟩ := AVH.out (by omega)
              obtain ⟨ka, hka⟩ := rowsL_key (v := v) (us := us) (PR2.out P[j] (List.getElem_mem hjp))
              obtain ⟨kb, hkb⟩ := rowsL_key (v := v) (us := us) SR2.out
              obtain ⟨a1, a2, a3⟩ := own_row H4.out hka
              obtain ⟨b1, b2, b3⟩ := own_row H4.out hkb
              have ey : wr.cell? ⟨gb v, j, none⟩ = some P[j].1 := H4.out.elem (k := .loc 0) (t := 23) (xs := us) rfl (by rw [II.out.1]; simp [hjp])
              rw [a1] at ey
              have hpb := posR_bef s (P.map (·.2)) j (by have := HQ.out; omega)
              have e1 : (P.map (·.2)).getD j [] = P[j].2 := by simp [hjp]
              rw [e1] at hpb
              have ra := R30.out _ (PR2.out P[j] (List.getElem_mem hjp))
              have rb := R30.out _ SR2.out
              have SH := shorter_any (w := wr) (c := cp P[j].1) (c' := cx) (by omega) (by have := rb.1; omega) a3 b3 ra.2 rb.2
              rw [hpb, SN.out] at SH
              generalize P[j] = p at *
              have BH : Hid _ := B2
              clear a1 a2 a3 b1 b2 b3 hka hkb hpb e1 ra rb H4 BW B2
              generalize ad p.1 = AY at *
              generalize cp p.1 = cy at *
              generalize p.2.length = ny at *
              go_wp2_with fail
              refine SH.mono ?_
              rintro e w5 ⟨rfl, B5⟩
              have BE2 : Hid _ := BH.out.trans (B5.mono (by have := BH.out.size; have := WSZ.out; omega))
              clear SH B5
              go_wp2_with fail
              go_roundg (gk - 1)
              case measure => omega
              case rel => exact ⟨j + 1, by go_num, by omega, BE2.out⟩
            · obtain rfl : q = j := by omega
              have B4 : Hid (Below base w1 wr) := BW.out
              have OT : Hid (∀ u ∈ us.take q, u.oneCell' = true) := fun u hu => OT0.out u (List.mem_of_mem_take hu)
              have OD : Hid (∀ u ∈ us.drop q, u.oneCell' = true) := fun u hu => OT0.out u (List.mem_of_mem_drop hu)
              have ON : Hid (∀ u ∈ ([] : List Value), u.oneCell' = true) := fun u hu => by cases hu
              have TI : Hid (TrInv D (i + 1) (us.take q ++ [Value.slice AX n cx] ++ us.drop q) (P.take q ++ [(Value.slice AX n cx, s)] ++ P.drop q) R2) := TIh.out
              by_cases hjo : q < us.length
              · obtain rfl : AV = some ⟨gb v, 0, none⟩ := AVH.out (by omega)
                have hjp : q < P.length := by have := UL.out; omega
                obtain ⟨ka, hka⟩ := rowsL_key (v := v) (us := us) (PR2.out P[q] (List.getElem_mem hjp))
                obtain ⟨kb, hkb⟩ := rowsL_key (v := v) (us := us) SR2.out
                obtain ⟨a1, a2, a3⟩ := own_row H4.out hka
                obtain ⟨b1, b2, b3⟩ := own_row H4.out hkb
                have ey : wr.cell? ⟨gb v, q, none⟩ = some P[q].1 := H4.out.elem (k := .loc 0) (t := 23) (xs := us) rfl (by rw [II.out.1]; simp [hjp])
                rw [a1] at ey
                have hpb := posR_stop s (P.map (·.2)) (by rw [← HQ.out, List.length_map]; exact hjp)
                rw [← HQ.out] at hpb
                have e1 : (P.map (·.2)).getD q [] = P[q].2 := by simp [hjp]
                rw [e1] at hpb
                have ra := R30.out _ (PR2.out P[q] (List.getElem_mem hjp))
                have rb := R30.out _ SR2.out
                have SH := shorter_any (w := wr) (c := cp P[q].1) (c' := cx) (by omega) (by have := rb.1; omega) a3 b3 ra.2 rb.2
                rw [hpb, SN.out] at SH
                generalize P[q] = p at *
                clear a1 a2 a3 b1 b2 b3 hka hkb hpb e1 ra rb BW B2 TIh HQ HE BE SR2 R30 WSZ
                generalize ad p.1 = AY at *
                generalize cp p.1 = cy at *
                generalize p.2.length = ny at *
                go_wp2_with fail
                refine SH.mono ?_
                rintro e wr ⟨rfl, B5⟩
                have H4 : Hid (Holds base wr (rowsL v us R2)) := H4.out.other (fun b _ hb => B5.block b hb)
                have B4 : Hid (Below base w1 wr) := B4.out.trans (B5.mono hbwr)
                have hbwr : base ≤ wr.heap.size := Nat.le_trans hbwr B5.size
                clear SH B5 ey
                have hcap : us.length ≤ cp v := H4.out.cap (k := .loc 0) (t := 23) (xs := us) rfl
                have LQ : Hid (q ≤ us.length) := (by show _ ≤ _; omega)
                have hq1 : (0 : Int) ≤ (q : Int) := by omega
                have hq2 : (q : Int) ≤ (us.length : Int) := by omega
                have hq3 : (q : Int) ≤ (cp v : Int) := by omega
                have hq4 : q ≤ cp v := by omega
                have hq5 : ¬ cp v = q := by omega
                have HL0 : Hid _ := Holds.lit0 H4.out.drew (.loc 1) hbwr 23
                have RD : Hid (Reads (wr.drew.alloc (.cells #[] 23)) (some ⟨gb v, 0, none⟩) (us.take q)) := reads_takeV (H4.out.drew.alloc (.cells #[] 23)) (k := .loc 0) (xs := us) (t := 23) rfl q
                have LT : Hid ((us.take q).length = q) := by show _ = _; rw [List.length_take]; omega
                have BL0 : Hid _ := B4.out.drew.alloc hbwr (.cells #[] 23)
                have hbw5 : base ≤ (wr.drew.alloc (.cells #[] 23)).heap.size := by rw [size_alloc]; exact Nat.le_succ_of_le hbwr
                have HL0b : Hid _ := ((Holds.lit0 H4.out (.loc 1) hbwr 23).alloc (.cells #[.slice AX n cx] 23)).drew
                have RDb : Hid (Reads ((wr.alloc (.cells #[] 23)).alloc (.cells #[.slice AX n cx] 23)).drew (some ⟨gb v, 0, none⟩) (us.take q)) := reads_takeV (((H4.out.alloc (.cells #[] 23)).alloc (.cells #[.slice AX n cx] 23)).drew) (k := .loc 0) (xs := us) (t := 23) rfl q
                have BL0b : Hid _ := ((B4.out.alloc hbwr (.cells #[] 23)).alloc (by rw [size_alloc]; exact Nat.le_succ_of_le hbwr) (.cells #[.slice AX n cx] 23)).drew
                have hbw6 : base ≤ ((wr.alloc (.cells #[] 23)).alloc (.cells #[.slice AX n cx] 23)).drew.heap.size := by
                  show base ≤ ((wr.alloc (.cells #[] 23)).alloc (.cells #[.slice AX n cx] 23)).heap.size
                  rw [size_alloc, size_alloc]; omega
                have KXB : Hid (∀ w8 : World, ((wr.alloc (.cells #[] 23)).alloc (.cells #[.slice AX n cx] 23)).drew.grownBy w8 (some wr.heap.size) → w8.cell? ⟨wr.heap.size + 1, 0, none⟩ = some (.slice AX n cx)) := fun w8 G8 => by
                  rw [World.cell?_of_block (a := ⟨wr.heap.size + 1, 0, none⟩) (G8.block (wr.heap.size + 1) (by show wr.heap.size + 1 < ((wr.alloc (.cells #[] 23)).alloc (.cells #[.slice AX n cx] 23)).heap.size; rw [size_alloc, size_alloc]; omega) (by intro e; injection e with e; omega))]
                  exact cell_new_drew _ _ _ _ (by rw [size_alloc])
                have HL0c : Hid (Holds base ((wr.alloc (.cells #[.slice AX n cx] 23)).alloc (.cells #[] 23)).drew (upd (rowsL v us R2) (.loc 1) (.row (.slice (some ⟨wr.heap.size + 1, 0, none⟩) 0 0) 23 []))) := by
                  have := (Holds.lit0 (H4.out.alloc (.cells #[.slice AX n cx] 23)) (.loc 1) (by rw [size_alloc]; exact Nat.le_succ_of_le hbwr) 23).drew
                  rw [size_alloc] at this
                  exact this
                have RDc : Hid (Reads ((wr.alloc (.cells #[.slice AX n cx] 23)).alloc (.cells #[] 23)).drew (some ⟨gb v, 0, none⟩) (us.take q)) := reads_takeV (((H4.out.alloc (.cells #[.slice AX n cx] 23)).alloc (.cells #[] 23)).drew) (k := .loc 0) (xs := us) (t := 23) rfl q
                have BL0c : Hid _ := ((B4.out.alloc hbwr (.cells #[.slice AX n cx] 23)).alloc (by rw [size_alloc]; exact Nat.le_succ_of_le hbwr) (.cells #[] 23)).drew
                have hbw7 : base ≤ ((wr.alloc (.cells #[.slice AX n cx] 23)).alloc (.cells #[] 23)).drew.heap.size := by
                  show base ≤ ((wr.alloc (.cells #[.slice AX n cx] 23)).alloc (.cells #[] 23)).heap.size
                  rw [size_alloc, size_alloc]; omega
                have KXC : Hid (∀ w8 : World, ((wr.alloc (.cells #[.slice AX n cx] 23)).alloc (.cells #[] 23)).drew.grownBy w8 (some (wr.heap.size + 1)) → w8.cell? ⟨wr.heap.size, 0, none⟩ = some (.slice AX n cx)) := fun w8 G8 => by
                  rw [World.cell?_of_block (a := ⟨wr.heap.size, 0, none⟩) (G8.block wr.heap.size (by show wr.heap.size < ((wr.alloc (.cells #[.slice AX n cx] 23)).alloc (.cells #[] 23)).heap.size; rw [size_alloc, size_alloc]; omega) (by intro e; injection e with e; omega))]
                  exact cell_alloc_keep _ (.cells #[] 23) _ _ (cell_new wr (.slice AX n cx) 23 _ rfl)
                go_wp2_with fail
                go_region_law (first | (refine step_many2 HL0.out (.loc 1) (by rfl) _ _ 22 23 (.slice none 0 0) 24 (by rfl) Tryz.underlying22 info23 rfl (by decide) 0 (us.take q) (upd_same _ _ _) (by rfl) (by rfl) (some ⟨gb v, 0, none⟩) q (cp v) (by rfl) LT.out (by simp) RD.out OT.out hbw5 (by omega) ?_; intro A8 c8 w8 H8 B8; have hz8 : base ≤ w8.heap.size := Nat.le_trans hbw5 B8.size; have LS8 : Hid _ := H8.alloc (.cells #[.slice AX n cx] 23); have BL8 : Hid _ := (BL0.out.trans B8).alloc hz8 (.cells #[.slice AX n cx] 23); clear H8 B8) | (refine step_pushAt LS8.out (.loc 1) (by rfl) _ _ 22 23 (.slice none 0 0) 24 (by rfl) Tryz.underlying22 info23 rfl (by decide) q (.slice AX n cx) (upd_same _ _ _) (by rw [List.length_append, LT.out]; exact Nat.zero_add q) (by rfl) w8.heap.size (by rfl) (cell_new _ _ _ _ rfl) (by rfl) (by rw [size_alloc]; exact Nat.le_succ_of_le hz8) (by omega) ?_; intro A9 c9 w9 H9 B9; have RD9 : Hid _ := reads_dropV H9 (k := .loc 0) (xs := us) (t := 23) rfl q (a' := ⟨gb v, q, none⟩) (fun _ => rfl); have hz9 : base ≤ w9.heap.size := Nat.le_trans (by rw [size_alloc]; exact Nat.le_succ_of_le hz8) B9.size; have HH9 : Hid _ := H9; have BB9 : Hid _ := BL8.out.trans B9; clear H9 B9) | (refine step_many2 HH9.out (.loc 1) (by rfl) _ _ 22 23 (.slice none 0 0) 24 (by rfl) Tryz.underlying22 info23 rfl (by decide) (q + 1) (us.drop q) (upd_same _ _ _) (by rw [List.length_append, List.length_append, LT.out, List.length_nil, Nat.zero_add]; rfl) (by rfl) (some ⟨gb v, q, none⟩) (us.length - q) _ (by rfl) (by rw [List.length_drop]) (by simp) RD9.out OD.out hz9 (by omega) ?_; intro A10 c10 w10 H10 B10; have HH10 : Hid _ := H10; have BB10 : Hid _ := BB9.out.trans B10; clear H10 B10) | (refine step_many3 HL0b.out (.loc 1) (by rfl) _ _ 22 23 (.slice none 0 0) 24 (by rfl) Tryz.underlying22 info23 rfl (by decide) 0 (us.take q) (upd_same _ _ _) (by rfl) (by rfl) (some ⟨gb v, 0, none⟩) q (cp v) (by rfl) LT.out (by simp) RDb.out OT.out hbw6 (by omega) ?_; intro A8 c8 w8 H8 B8 G8; have e8c : w8.cell? ⟨wr.heap.size + 1, 0, none⟩ = some (.slice AX n cx) := KXB.out w8 G8; have hz8 : base ≤ w8.heap.size := Nat.le_trans hbw6 B8.size; have HH8 : Hid _ := H8; have BH8 : Hid _ := BL0b.out.trans B8; clear H8 B8 G8) | (refine step_pushAt HH8.out (.loc 1) (by rfl) _ _ 22 23 (.slice none 0 0) 24 (by rfl) Tryz.underlying22 info23 rfl (by decide) q (.slice AX n cx) (upd_same _ _ _) (by rw [List.length_append, LT.out]; exact Nat.zero_add q) (by rfl) (wr.heap.size + 1) (by rfl) e8c (by rfl) hz8 (by omega) ?_; intro A9 c9 w9 H9 B9; have RD9 : Hid _ := reads_dropV H9 (k := .loc 0) (xs := us) (t := 23) rfl q (a' := ⟨gb v, q, none⟩) (fun _ => rfl); have hz9 : base ≤ w9.heap.size := Nat.le_trans hz8 B9.size; have HH9 : Hid _ := H9; have BB9 : Hid _ := BH8.out.trans B9; clear H9 B9) | (refine step_many3 HL0c.out (.loc 1) (by rfl) _ _ 22 23 (.slice none 0 0) 24 (by rfl) Tryz.underlying22 info23 rfl (by decide) 0 (us.take q) (upd_same _ _ _) (by rfl) (by rfl) (some ⟨gb v, 0, none⟩) q (cp v) (by rfl) LT.out (by simp) RDc.out OT.out hbw7 (by omega) ?_; intro A8 c8 w8 H8 B8 G8; have e8d : w8.cell? ⟨wr.heap.size, 0, none⟩ = some (.slice AX n cx) := KXC.out w8 G8; have hz8 : base ≤ w8.heap.size := Nat.le_trans hbw7 B8.size; have HH8c : Hid _ := H8; have BH8c : Hid _ := BL0c.out.trans B8; clear H8 B8 G8) | (refine step_pushAt HH8c.out (.loc 1) (by rfl) _ _ 22 23 (.slice none 0 0) 24 (by rfl) Tryz.underlying22 info23 rfl (by decide) q (.slice AX n cx) (upd_same _ _ _) (by rw [List.length_append, LT.out]; exact Nat.zero_add q) (by rfl) wr.heap.size (by rfl) e8d (by rfl) hz8 (by omega) ?_; intro A9 c9 w9 H9 B9; have RD9 : Hid _ := reads_dropV H9 (k := .loc 0) (xs := us) (t := 23) rfl q (a' := ⟨gb v, q, none⟩) (fun _ => rfl); have hz9 : base ≤ w9.heap.size := Nat.le_trans hz8 B9.size; have HH9 : Hid _ := H9; have BB9 : Hid _ := BH8c.out.trans B9; clear H9 B9) | (trace_state; fail))
                all_goals
                  go_wp2_with fail
                  go_roundg m
                  case measure => omega
                  case rel => exact ⟨i + 1, .slice A10 (us.take q ++ [Value.slice AX n cx] ++ us.drop q).length c10, us.take q ++ [Value.slice AX n cx] ++ us.drop q, _, R2, by go_num, by rw [insV_len LQ.out]; rfl, by omega, (by have := rows_fin HH10.out; rw [List.nil_append] at this; rw [insV_len LQ.out]; exact this), BB10.out, TI.out, fun h => by rw [insV_len LQ.out] at h; omega⟩
              · obtain rfl : q = us.length := by omega
                clear BW B2 TIh HQ HE BE SR2 R30 WSZ hjo
                have hge : decide ((us.length : Int) < (us.length : Int)) = false := decide_eq_false (by omega)
                by_cases hz0 : 0 < us.length
                · obtain rfl : AV = some ⟨gb v, 0, none⟩ := AVH.out hz0
                  have hcq0 : Hid _ := (Classical.em (cp v = us.length))
                  rcases hcq0.out with hcq | hcq
                  · have hcap : us.length ≤ cp v := H4.out.cap (k := .loc 0) (t := 23) (xs := us) rfl
                    have LQ : Hid (us.length ≤ us.length) := (by show _ ≤ _; omega)
                    have hq1 : (0 : Int) ≤ (us.length : Int) := by omega
                    have hq2 : (us.length : Int) ≤ (us.length : Int) := by omega
                    have hq3 : (us.length : Int) ≤ (cp v : Int) := by omega
                    have hq4 : us.length ≤ cp v := by omega
                    have hq5 : cp v = us.length := hcq
                    have HL0 : Hid _ := Holds.lit0 H4.out.drew (.loc 1) hbwr 23
                    have RD : Hid (Reads (wr.drew.alloc (.cells #[] 23)) (some ⟨gb v, 0, none⟩) (us.take us.length)) := reads_takeV (H4.out.drew.alloc (.cells #[] 23)) (k := .loc 0) (xs := us) (t := 23) rfl us.length
                    have LT : Hid ((us.take us.length).length = us.length) := by show _ = _; rw [List.length_take]; omega
                    have BL0 : Hid _ := B4.out.drew.alloc hbwr (.cells #[] 23)
                    have hbw5 : base ≤ (wr.drew.alloc (.cells #[] 23)).heap.size := by rw [size_alloc]; exact Nat.le_succ_of_le hbwr
                    have HL0b : Hid _ := ((Holds.lit0 H4.out (.loc 1) hbwr 23).alloc (.cells #[.slice AX n cx] 23)).drew
                    have RDb : Hid (Reads ((wr.alloc (.cells #[] 23)).alloc (.cells #[.slice AX n cx] 23)).drew (some ⟨gb v, 0, none⟩) (us.take us.length)) := reads_takeV (((H4.out.alloc (.cells #[] 23)).alloc (.cells #[.slice AX n cx] 23)).drew) (k := .loc 0) (xs := us) (t := 23) rfl us.length
                    have BL0b : Hid _ := ((B4.out.alloc hbwr (.cells #[] 23)).alloc (by rw [size_alloc]; exact Nat.le_succ_of_le hbwr) (.cells #[.slice AX n cx] 23)).drew
                    have hbw6 : base ≤ ((wr.alloc (.cells #[] 23)).alloc (.cells #[.slice AX n cx] 23)).drew.heap.size := by
                      show base ≤ ((wr.alloc (.cells #[] 23)).alloc (.cells #[.slice AX n cx] 23)).heap.size
                      rw [size_alloc, size_alloc]; omega
                    have KXB : Hid (∀ w8 : World, ((wr.alloc (.cells #[] 23)).alloc (.cells #[.slice AX n cx] 23)).drew.grownBy w8 (some wr.heap.size) → w8.cell? ⟨wr.heap.size + 1, 0, none⟩ = some (.slice AX n cx)) := fun w8 G8 => by
                      rw [World.cell?_of_block (a := ⟨wr.heap.size + 1, 0, none⟩) (G8.block (wr.heap.size + 1) (by show wr.heap.size + 1 < ((wr.alloc (.cells #[] 23)).alloc (.cells #[.slice AX n cx] 23)).heap.size; rw [size_alloc, size_alloc]; omega) (by intro e; injection e with e; omega))]
                      exact cell_new_drew _ _ _ _ (by rw [size_alloc])
                    have HL0c : Hid (Holds base ((wr.alloc (.cells #[.slice AX n cx] 23)).alloc (.cells #[] 23)).drew (upd (rowsL v us R2) (.loc 1) (.row (.slice (some ⟨wr.heap.size + 1, 0, none⟩) 0 0) 23 []))) := by
                      have := (Holds.lit0 (H4.out.alloc (.cells #[.slice AX n cx] 23)) (.loc 1) (by rw [size_alloc]; exact Nat.le_succ_of_le hbwr) 23).drew
                      rw [size_alloc] at this
                      exact this
                    have RDc : Hid (Reads ((wr.alloc (.cells #[.slice AX n cx] 23)).alloc (.cells #[] 23)).drew (some ⟨gb v, 0, none⟩) (us.take us.length)) := reads_takeV (((H4.out.alloc (.cells #[.slice AX n cx] 23)).alloc (.cells #[] 23)).drew) (k := .loc 0) (xs := us) (t := 23) rfl us.length
                    have BL0c : Hid _ := ((B4.out.alloc hbwr (.cells #[.slice AX n cx] 23)).alloc (by rw [size_alloc]; exact Nat.le_succ_of_le hbwr) (.cells #[] 23)).drew
                    have hbw7 : base ≤ ((wr.alloc (.cells #[.slice AX n cx] 23)).alloc (.cells #[] 23)).drew.heap.size := by
                      show base ≤ ((wr.alloc (.cells #[.slice AX n cx] 23)).alloc (.cells #[] 23)).heap.size
                      rw [size_alloc, size_alloc]; omega
                    have KXC : Hid (∀ w8 : World, ((wr.alloc (.cells #[.slice AX n cx] 23)).alloc (.cells #[] 23)).drew.grownBy w8 (some (wr.heap.size + 1)) → w8.cell? ⟨wr.heap.size, 0, none⟩ = some (.slice AX n cx)) := fun w8 G8 => by
                      rw [World.cell?_of_block (a := ⟨wr.heap.size, 0, none⟩) (G8.block wr.heap.size (by show wr.heap.size < ((wr.alloc (.cells #[.slice AX n cx] 23)).alloc (.cells #[] 23)).heap.size; rw [size_alloc, size_alloc]; omega) (by intro e; injection e with e; omega))]
                      exact cell_alloc_keep _ (.cells #[] 23) _ _ (cell_new wr (.slice AX n cx) 23 _ rfl)
                    go_wp2_with fail
                    go_region_law (first | (refine step_many2 HL0.out (.loc 1) (by rfl) _ _ 22 23 (.slice none 0 0) 24 (by rfl) Tryz.underlying22 info23 rfl (by decide) 0 (us.take us.length) (upd_same _ _ _) (by rfl) (by rfl) (some ⟨gb v, 0, none⟩) us.length _ (by rfl) LT.out (by simp) RD.out OT.out hbw5 (by omega) ?_; intro A8 c8 w8 H8 B8; have hz8 : base ≤ w8.heap.size := Nat.le_trans hbw5 B8.size; have LS8 : Hid _ := H8.alloc (.cells #[.slice AX n cx] 23); have BL8 : Hid _ := (BL0.out.trans B8).alloc hz8 (.cells #[.slice AX n cx] 23); clear H8 B8) | (refine step_pushAt LS8.out (.loc 1) (by rfl) _ _ 22 23 (.slice none 0 0) 24 (by rfl) Tryz.underlying22 info23 rfl (by decide) us.length (.slice AX n cx) (upd_same _ _ _) (by rw [List.length_append, LT.out]; exact Nat.zero_add us.length) (by rfl) w8.heap.size (by rfl) (cell_new _ _ _ _ rfl) (by rfl) (by rw [size_alloc]; exact Nat.le_succ_of_le hz8) (by omega) ?_; intro A9 c9 w9 H9 B9; have RD9 : Hid _ := reads_dropV H9 (k := .loc 0) (xs := us) (t := 23) rfl us.length (a' := ⟨gb v, 0, none⟩) (fun h => absurd h (Nat.lt_irrefl _)); have hz9 : base ≤ w9.heap.size := Nat.le_trans (by rw [size_alloc]; exact Nat.le_succ_of_le hz8) B9.size; have HH9 : Hid _ := H9; have BB9 : Hid _ := BL8.out.trans B9; clear H9 B9) | (refine step_many2 HH9.out (.loc 1) (by rfl) _ _ 22 23 (.slice none 0 0) 24 (by rfl) Tryz.underlying22 info23 rfl (by decide) (us.length + 1) (us.drop us.length) (upd_same _ _ _) (by rw [List.length_append, List.length_append, LT.out, List.length_nil, Nat.zero_add]; rfl) (by rfl) (some ⟨gb v, 0, none⟩) 0 _ (by rfl) (by rw [List.length_drop]; exact Nat.sub_self _) (by simp) RD9.out OD.out hz9 (by omega) ?_; intro A10 c10 w10 H10 B10; have HH10 : Hid _ := H10; have BB10 : Hid _ := BB9.out.trans B10; clear H10 B10) | (refine step_many3 HL0b.out (.loc 1) (by rfl) _ _ 22 23 (.slice none 0 0) 24 (by rfl) Tryz.underlying22 info23 rfl (by decide) 0 (us.take us.length) (upd_same _ _ _) (by rfl) (by rfl) (some ⟨gb v, 0, none⟩) us.length _ (by rfl) LT.out (by simp) RDb.out OT.out hbw6 (by omega) ?_; intro A8 c8 w8 H8 B8 G8; have e8c : w8.cell? ⟨wr.heap.size + 1, 0, none⟩ = some (.slice AX n cx) := KXB.out w8 G8; have hz8 : base ≤ w8.heap.size := Nat.le_trans hbw6 B8.size; have HH8 : Hid _ := H8; have BH8 : Hid _ := BL0b.out.trans B8; clear H8 B8 G8) | (refine step_pushAt HH8.out (.loc 1) (by rfl) _ _ 22 23 (.slice none 0 0) 24 (by rfl) Tryz.underlying22 info23 rfl (by decide) us.length (.slice AX n cx) (upd_same _ _ _) (by rw [List.length_append, LT.out]; exact Nat.zero_add us.length) (by rfl) (wr.heap.size + 1) (by rfl) e8c (by rfl) hz8 (by omega) ?_; intro A9 c9 w9 H9 B9; have RD9 : Hid _ := reads_dropV H9 (k := .loc 0) (xs := us) (t := 23) rfl us.length (a' := ⟨gb v, 0, none⟩) (fun h => absurd h (Nat.lt_irrefl _)); have hz9 : base ≤ w9.heap.size := Nat.le_trans hz8 B9.size; have HH9 : Hid _ := H9; have BB9 : Hid _ := BH8.out.trans B9; clear H9 B9) | (refine step_many3 HL0c.out (.loc 1) (by rfl) _ _ 22 23 (.slice none 0 0) 24 (by rfl) Tryz.underlying22 info23 rfl (by decide) 0 (us.take us.length) (upd_same _ _ _) (by rfl) (by rfl) (some ⟨gb v, 0, none⟩) us.length _ (by rfl) LT.out (by simp) RDc.out OT.out hbw7 (by omega) ?_; intro A8 c8 w8 H8 B8 G8; have e8d : w8.cell? ⟨wr.heap.size, 0, none⟩ = some (.slice AX n cx) := KXC.out w8 G8; have hz8 : base ≤ w8.heap.size := Nat.le_trans hbw7 B8.size; have HH8c : Hid _ := H8; have BH8c : Hid _ := BL0c.out.trans B8; clear H8 B8 G8) | (refine step_pushAt HH8c.out (.loc 1) (by rfl) _ _ 22 23 (.slice none 0 0) 24 (by rfl) Tryz.underlying22 info23 rfl (by decide) us.length (.slice AX n cx) (upd_same _ _ _) (by rw [List.length_append, LT.out]; exact Nat.zero_add us.length) (by rfl) wr.heap.size (by rfl) e8d (by rfl) hz8 (by omega) ?_; intro A9 c9 w9 H9 B9; have RD9 : Hid _ := reads_dropV H9 (k := .loc 0) (xs := us) (t := 23) rfl us.length (a' := ⟨gb v, 0, none⟩) (fun h => absurd h (Nat.lt_irrefl _)); have hz9 : base ≤ w9.heap.size := Nat.le_trans hz8 B9.size; have HH9 : Hid _ := H9; have BB9 : Hid _ := BH8c.out.trans B9; clear H9 B9) | (trace_state; fail))
                    all_goals
                      go_wp2_with fail
                      go_roundg m
                      case measure => omega
                      case rel => exact ⟨i + 1, .slice A10 (us.take us.length ++ [Value.slice AX n cx] ++ us.drop us.length).length c10, us.take us.length ++ [Value.slice AX n cx] ++ us.drop us.length, _, R2, by go_num, by rw [insV_len LQ.out, Nat.sub_self]; rfl, by omega, (by have := rows_fin HH10.out; rw [List.nil_append] at this; rw [insV_len LQ.out, Nat.sub_self]; exact this), BB10.out, TI.out, fun h => by rw [insV_len LQ.out] at h; omega⟩
                  · have hcap : us.length ≤ cp v := H4.out.cap (k := .loc 0) (t := 23) (xs := us) rfl
                    have LQ : Hid (us.length ≤ us.length) := (by show _ ≤ _; omega)
                    have hq1 : (0 : Int) ≤ (us.length : Int) := by omega
                    have hq2 : (us.length : Int) ≤ (us.length : Int) := by omega
                    have hq3 : (us.length : Int) ≤ (cp v : Int) := by omega
                    have hq4 : us.length ≤ cp v := by omega
                    have hq5 : ¬ cp v = us.length := hcq
                    have HL0 : Hid _ := Holds.lit0 H4.out.drew (.loc 1) hbwr 23
                    have RD : Hid (Reads (wr.drew.alloc (.cells #[] 23)) (some ⟨gb v, 0, none⟩) (us.take us.length)) := reads_takeV (H4.out.drew.alloc (.cells #[] 23)) (k := .loc 0) (xs := us) (t := 23) rfl us.length
                    have LT : Hid ((us.take us.length).length = us.length) := by show _ = _; rw [List.length_take]; omega
                    have BL0 : Hid _ := B4.out.drew.alloc hbwr (.cells #[] 23)
                    have hbw5 : base ≤ (wr.drew.alloc (.cells #[] 23)).heap.size := by rw [size_alloc]; exact Nat.le_succ_of_le hbwr
                    have HL0b : Hid _ := ((Holds.lit0 H4.out (.loc 1) hbwr 23).alloc (.cells #[.slice AX n cx] 23)).drew
                    have RDb : Hid (Reads ((wr.alloc (.cells #[] 23)).alloc (.cells #[.slice AX n cx] 23)).drew (some ⟨gb v, 0, none⟩) (us.take us.length)) := reads_takeV (((H4.out.alloc (.cells #[] 23)).alloc (.cells #[.slice AX n cx] 23)).drew) (k := .loc 0) (xs := us) (t := 23) rfl us.length
                    have BL0b : Hid _ := ((B4.out.alloc hbwr (.cells #[] 23)).alloc (by rw [size_alloc]; exact Nat.le_succ_of_le hbwr) (.cells #[.slice AX n cx] 23)).drew
                    have hbw6 : base ≤ ((wr.alloc (.cells #[] 23)).alloc (.cells #[.slice AX n cx] 23)).drew.heap.size := by
                      show base ≤ ((wr.alloc (.cells #[] 23)).alloc (.cells #[.slice AX n cx] 23)).heap.size
                      rw [size_alloc, size_alloc]; omega
                    have KXB : Hid (∀ w8 : World, ((wr.alloc (.cells #[] 23)).alloc (.cells #[.slice AX n cx] 23)).drew.grownBy w8 (some wr.heap.size) → w8.cell? ⟨wr.heap.size + 1, 0, none⟩ = some (.slice AX n cx)) := fun w8 G8 => by
                      rw [World.cell?_of_block (a := ⟨wr.heap.size + 1, 0, none⟩) (G8.block (wr.heap.size + 1) (by show wr.heap.size + 1 < ((wr.alloc (.cells #[] 23)).alloc (.cells #[.slice AX n cx] 23)).heap.size; rw [size_alloc, size_alloc]; omega) (by intro e; injection e with e; omega))]
                      exact cell_new_drew _ _ _ _ (by rw [size_alloc])
                    have HL0c : Hid (Holds base ((wr.alloc (.cells #[.slice AX n cx] 23)).alloc (.cells #[] 23)).drew (upd (rowsL v us R2) (.loc 1) (.row (.slice (some ⟨wr.heap.size + 1, 0, none⟩) 0 0) 23 []))) := by
                      have := (Holds.lit0 (H4.out.alloc (.cells #[.slice AX n cx] 23)) (.loc 1) (by rw [size_alloc]; exact Nat.le_succ_of_le hbwr) 23).drew
                      rw [size_alloc] at this
                      exact this
                    have RDc : Hid (Reads ((wr.alloc (.cells #[.slice AX n cx] 23)).alloc (.cells #[] 23)).drew (some ⟨gb v, 0, none⟩) (us.take us.length)) := reads_takeV (((H4.out.alloc (.cells #[.slice AX n cx] 23)).alloc (.cells #[] 23)).drew) (k := .loc 0) (xs := us) (t := 23) rfl us.length
                    have BL0c : Hid _ := ((B4.out.alloc hbwr (.cells #[.slice AX n cx] 23)).alloc (by rw [size_alloc]; exact Nat.le_succ_of_le hbwr) (.cells #[] 23)).drew
                    have hbw7 : base ≤ ((wr.alloc (.cells #[.slice AX n cx] 23)).alloc (.cells #[] 23)).drew.heap.size := by
                      show base ≤ ((wr.alloc (.cells #[.slice AX n cx] 23)).alloc (.cells #[] 23)).heap.size
                      rw [size_alloc, size_alloc]; omega
                    have KXC : Hid (∀ w8 : World, ((wr.alloc (.cells #[.slice AX n cx] 23)).alloc (.cells #[] 23)).drew.grownBy w8 (some (wr.heap.size + 1)) → w8.cell? ⟨wr.heap.size, 0, none⟩ = some (.slice AX n cx)) := fun w8 G8 => by
                      rw [World.cell?_of_block (a := ⟨wr.heap.size, 0, none⟩) (G8.block wr.heap.size (by show wr.heap.size < ((wr.alloc (.cells #[.slice AX n cx] 23)).alloc (.cells #[] 23)).heap.size; rw [size_alloc, size_alloc]; omega) (by intro e; injection e with e; omega))]
                      exact cell_alloc_keep _ (.cells #[] 23) _ _ (cell_new wr (.slice AX n cx) 23 _ rfl)
                    go_wp2_with fail
                    go_region_law (first | (refine step_many2 HL0.out (.loc 1) (by rfl) _ _ 22 23 (.slice none 0 0) 24 (by rfl) Tryz.underlying22 info23 rfl (by decide) 0 (us.take us.length) (upd_same _ _ _) (by rfl) (by rfl) (some ⟨gb v, 0, none⟩) us.length _ (by rfl) LT.out (by simp) RD.out OT.out hbw5 (by omega) ?_; intro A8 c8 w8 H8 B8; have hz8 : base ≤ w8.heap.size := Nat.le_trans hbw5 B8.size; have LS8 : Hid _ := H8.alloc (.cells #[.slice AX n cx] 23); have BL8 : Hid _ := (BL0.out.trans B8).alloc hz8 (.cells #[.slice AX n cx] 23); clear H8 B8) | (refine step_pushAt LS8.out (.loc 1) (by rfl) _ _ 22 23 (.slice none 0 0) 24 (by rfl) Tryz.underlying22 info23 rfl (by decide) us.length (.slice AX n cx) (upd_same _ _ _) (by rw [List.length_append, LT.out]; exact Nat.zero_add us.length) (by rfl) w8.heap.size (by rfl) (cell_new _ _ _ _ rfl) (by rfl) (by rw [size_alloc]; exact Nat.le_succ_of_le hz8) (by omega) ?_; intro A9 c9 w9 H9 B9; have RD9 : Hid _ := reads_dropV H9 (k := .loc 0) (xs := us) (t := 23) rfl us.length (a' := ⟨gb v, us.length, none⟩) (fun h => absurd h (Nat.lt_irrefl _)); have hz9 : base ≤ w9.heap.size := Nat.le_trans (by rw [size_alloc]; exact Nat.le_succ_of_le hz8) B9.size; have HH9 : Hid _ := H9; have BB9 : Hid _ := BL8.out.trans B9; clear H9 B9) | (refine step_many2 HH9.out (.loc 1) (by rfl) _ _ 22 23 (.slice none 0 0) 24 (by rfl) Tryz.underlying22 info23 rfl (by decide) (us.length + 1) (us.drop us.length) (upd_same _ _ _) (by rw [List.length_append, List.length_append, LT.out, List.length_nil, Nat.zero_add]; rfl) (by rfl) (some ⟨gb v, us.length, none⟩) 0 _ (by rfl) (by rw [List.length_drop]; exact Nat.sub_self _) (by simp) RD9.out OD.out hz9 (by omega) ?_; intro A10 c10 w10 H10 B10; have HH10 : Hid _ := H10; have BB10 : Hid _ := BB9.out.trans B10; clear H10 B10) | (refine step_many3 HL0b.out (.loc 1) (by rfl) _ _ 22 23 (.slice none 0 0) 24 (by rfl) Tryz.underlying22 info23 rfl (by decide) 0 (us.take us.length) (upd_same _ _ _) (by rfl) (by rfl) (some ⟨gb v, 0, none⟩) us.length _ (by rfl) LT.out (by simp) RDb.out OT.out hbw6 (by omega) ?_; intro A8 c8 w8 H8 B8 G8; have e8c : w8.cell? ⟨wr.heap.size + 1, 0, none⟩ = some (.slice AX n cx) := KXB.out w8 G8; have hz8 : base ≤ w8.heap.size := Nat.le_trans hbw6 B8.size; have HH8 : Hid _ := H8; have BH8 : Hid _ := BL0b.out.trans B8; clear H8 B8 G8) | (refine step_pushAt HH8.out (.loc 1) (by rfl) _ _ 22 23 (.slice none 0 0) 24 (by rfl) Tryz.underlying22 info23 rfl (by decide) us.length (.slice AX n cx) (upd_same _ _ _) (by rw [List.length_append, LT.out]; exact Nat.zero_add us.length) (by rfl) (wr.heap.size + 1) (by rfl) e8c (by rfl) hz8 (by omega) ?_; intro A9 c9 w9 H9 B9; have RD9 : Hid _ := reads_dropV H9 (k := .loc 0) (xs := us) (t := 23) rfl us.length (a' := ⟨gb v, us.length, none⟩) (fun h => absurd h (Nat.lt_irrefl _)); have hz9 : base ≤ w9.heap.size := Nat.le_trans hz8 B9.size; have HH9 : Hid _ := H9; have BB9 : Hid _ := BH8.out.trans B9; clear H9 B9) | (refine step_many3 HL0c.out (.loc 1) (by rfl) _ _ 22 23 (.slice none 0 0) 24 (by rfl) Tryz.underlying22 info23 rfl (by decide) 0 (us.take us.length) (upd_same _ _ _) (by rfl) (by rfl) (some ⟨gb v, 0, none⟩) us.length _ (by rfl) LT.out (by simp) RDc.out OT.out hbw7 (by omega) ?_; intro A8 c8 w8 H8 B8 G8; have e8d : w8.cell? ⟨wr.heap.size, 0, none⟩ = some (.slice AX n cx) := KXC.out w8 G8; have hz8 : base ≤ w8.heap.size := Nat.le_trans hbw7 B8.size; have HH8c : Hid _ := H8; have BH8c : Hid _ := BL0c.out.trans B8; clear H8 B8 G8) | (refine step_pushAt HH8c.out (.loc 1) (by rfl) _ _ 22 23 (.slice none 0 0) 24 (by rfl) Tryz.underlying22 info23 rfl (by decide) us.length (.slice AX n cx) (upd_same _ _ _) (by rw [List.length_append, LT.out]; exact Nat.zero_add us.length) (by rfl) wr.heap.size (by rfl) e8d (by rfl) hz8 (by omega) ?_; intro A9 c9 w9 H9 B9; have RD9 : Hid _ := reads_dropV H9 (k := .loc 0) (xs := us) (t := 23) rfl us.length (a' := ⟨gb v, us.length, none⟩) (fun h => absurd h (Nat.lt_irrefl _)); have hz9 : base ≤ w9.heap.size := Nat.le_trans hz8 B9.size; have HH9 : Hid _ := H9; have BB9 : Hid _ := BH8c.out.trans B9; clear H9 B9) | (trace_state; fail))
                    all_goals
                      go_wp2_with fail
                      go_roundg m
                      case measure => omega
                      case rel => exact ⟨i + 1, .slice A10 (us.take us.length ++ [Value.slice AX n cx] ++ us.drop us.length).length c10, us.take us.length ++ [Value.slice AX n cx] ++ us.drop us.length, _, R2, by go_num, by rw [insV_len LQ.out, Nat.sub_self]; rfl, by omega, (by have := rows_fin HH10.out; rw [List.nil_append] at this; rw [insV_len LQ.out, Nat.sub_self]; exact this), BB10.out, TI.out, fun h => by rw [insV_len LQ.out] at h; omega⟩
                · obtain rfl : us = [] := List.eq_nil_of_length_eq_zero (by omega)
                  have hv := NV.out rfl
                  subst hv
                  obtain rfl : AV = none := AE.out.symm
                  have RN : Hid (∀ W : World, Reads W none []) := fun W => ⟨fun _ => rfl, fun b h => by cases h⟩
                  have HL0 : Hid _ := Holds.lit0 H4.out.drew (.loc 1) hbwr 23
                  have BL0 : Hid _ := B4.out.drew.alloc hbwr (.cells #[] 23)
                  have hbw5 : base ≤ (wr.drew.alloc (.cells #[] 23)).heap.size := by rw [size_alloc]; exact Nat.le_succ_of_le hbwr
                  have HL0b : Hid _ := ((Holds.lit0 H4.out (.loc 1) hbwr 23).alloc (.cells #[.slice AX n cx] 23)).drew
                  have BL0b : Hid _ := ((B4.out.alloc hbwr (.cells #[] 23)).alloc (by rw [size_alloc]; exact Nat.le_succ_of_le hbwr) (.cells #[.slice AX n cx] 23)).drew
                  have hbw6 : base ≤ ((wr.alloc (.cells #[] 23)).alloc (.cells #[.slice AX n cx] 23)).drew.heap.size := by
                    show base ≤ ((wr.alloc (.cells #[] 23)).alloc (.cells #[.slice AX n cx] 23)).heap.size
                    rw [size_alloc, size_alloc]; omega
                  have KXB : Hid (∀ w8 : World, ((wr.alloc (.cells #[] 23)).alloc (.cells #[.slice AX n cx] 23)).drew.grownBy w8 (some wr.heap.size) → w8.cell? ⟨wr.heap.size + 1, 0, none⟩ = some (.slice AX n cx)) := fun w8 G8 => by
                    rw [World.cell?_of_block (a := ⟨wr.heap.size + 1, 0, none⟩) (G8.block (wr.heap.size + 1) (by show wr.heap.size + 1 < ((wr.alloc (.cells #[] 23)).alloc (.cells #[.slice AX n cx] 23)).heap.size; rw [size_alloc, size_alloc]; omega) (by intro e; injection e with e; omega))]
                    exact cell_new_drew _ _ _ _ (by rw [size_alloc])
                  have HL0c : Hid (Holds base ((wr.alloc (.cells #[.slice AX n cx] 23)).alloc (.cells #[] 23)).drew (upd (rowsL (.slice none 0 0) [] R2) (.loc 1) (.row (.slice (some ⟨wr.heap.size + 1, 0, none⟩) 0 0) 23 []))) := by
                    have := (Holds.lit0 (H4.out.alloc (.cells #[.slice AX n cx] 23)) (.loc 1) (by rw [size_alloc]; exact Nat.le_succ_of_le hbwr) 23).drew
                    rw [size_alloc] at this
                    exact this
                  have BL0c : Hid _ := ((B4.out.alloc hbwr (.cells #[.slice AX n cx] 23)).alloc (by rw [size_alloc]; exact Nat.le_succ_of_le hbwr) (.cells #[] 23)).drew
                  have hbw7 : base ≤ ((wr.alloc (.cells #[.slice AX n cx] 23)).alloc (.cells #[] 23)).drew.heap.size := by
                    show base ≤ ((wr.alloc (.cells #[.slice AX n cx] 23)).alloc (.cells #[] 23)).heap.size
                    rw [size_alloc, size_alloc]; omega
                  have KXC : Hid (∀ w8 : World, ((wr.alloc (.cells #[.slice AX n cx] 23)).alloc (.cells #[] 23)).drew.grownBy w8 (some (wr.heap.size + 1)) → w8.cell? ⟨wr.heap.size, 0, none⟩ = some (.slice AX n cx)) := fun w8 G8 => by
                    rw [World.cell?_of_block (a := ⟨wr.heap.size, 0, none⟩) (G8.block wr.heap.size (by show wr.heap.size < ((wr.alloc (.cells #[.slice AX n cx] 23)).alloc (.cells #[] 23)).heap.size; rw [size_alloc, size_alloc]; omega) (by intro e; injection e with e; omega))]
                    exact cell_alloc_keep _ (.cells #[] 23) _ _ (cell_new wr (.slice AX n cx) 23 _ rfl)
                  go_wp2_with fail
                  go_region_law (first | (refine step_many2 HL0.out (.loc 1) (by rfl) _ _ 22 23 (.slice none 0 0) 24 (by rfl) Tryz.underlying22 info23 rfl (by decide) 0 [] (upd_same _ _ _) (by rfl) (by rfl) none 0 0 (by rfl) (by rfl) (fun _ => rfl) (RN.out _) ON.out hbw5 (by omega) ?_; intro A8 c8 w8 H8 B8; have hz8 : base ≤ w8.heap.size := Nat.le_trans hbw5 B8.size; have LS8 : Hid _ := H8.alloc (.cells #[.slice AX n cx] 23); have BL8 : Hid _ := (BL0.out.trans B8).alloc hz8 (.cells #[.slice AX n cx] 23); clear H8 B8) | (refine step_pushAt LS8.out (.loc 1) (by rfl) _ _ 22 23 (.slice none 0 0) 24 (by rfl) Tryz.underlying22 info23 rfl (by decide) 0 (.slice AX n cx) (upd_same _ _ _) (by rfl) (by rfl) w8.heap.size (by rfl) (cell_new _ _ _ _ rfl) (by rfl) (by rw [size_alloc]; exact Nat.le_succ_of_le hz8) (by omega) ?_; intro A9 c9 w9 H9 B9; have hz9 : base ≤ w9.heap.size := Nat.le_trans (by rw [size_alloc]; exact Nat.le_succ_of_le hz8) B9.size; have HH9 : Hid _ := H9; have BB9 : Hid _ := BL8.out.trans B9; clear H9 B9) | (refine step_many2 HH9.out (.loc 1) (by rfl) _ _ 22 23 (.slice none 0 0) 24 (by rfl) Tryz.underlying22 info23 rfl (by decide) 1 [] (upd_same _ _ _) (by rfl) (by rfl) none 0 0 (by rfl) (by rfl) (fun _ => rfl) (RN.out _) ON.out hz9 (by omega) ?_; intro A10 c10 w10 H10 B10; have HH10 : Hid _ := H10; have BB10 : Hid _ := BB9.out.trans B10; clear H10 B10) | (refine step_many3 HL0b.out (.loc 1) (by rfl) _ _ 22 23 (.slice none 0 0) 24 (by rfl) Tryz.underlying22 info23 rfl (by decide) 0 [] (upd_same _ _ _) (by rfl) (by rfl) none 0 0 (by rfl) (by rfl) (fun _ => rfl) (RN.out _) ON.out hbw6 (by omega) ?_; intro A8 c8 w8 H8 B8 G8; have e8c : w8.cell? ⟨wr.heap.size + 1, 0, none⟩ = some (.slice AX n cx) := KXB.out w8 G8; have hz8 : base ≤ w8.heap.size := Nat.le_trans hbw6 B8.size; have HH8 : Hid _ := H8; have BH8 : Hid _ := BL0b.out.trans B8; clear H8 B8 G8) | (refine step_pushAt HH8.out (.loc 1) (by rfl) _ _ 22 23 (.slice none 0 0) 24 (by rfl) Tryz.underlying22 info23 rfl (by decide) 0 (.slice AX n cx) (upd_same _ _ _) (by rfl) (by rfl) (wr.heap.size + 1) (by rfl) e8c (by rfl) hz8 (by omega) ?_; intro A9 c9 w9 H9 B9; have hz9 : base ≤ w9.heap.size := Nat.le_trans hz8 B9.size; have HH9 : Hid _ := H9; have BB9 : Hid _ := BH8.out.trans B9; clear H9 B9) | (refine step_many3 HL0c.out (.loc 1) (by rfl) _ _ 22 23 (.slice none 0 0) 24 (by rfl) Tryz.underlying22 info23 rfl (by decide) 0 [] (upd_same _ _ _) (by rfl) (by rfl) none 0 0 (by rfl) (by rfl) (fun _ => rfl) (RN.out _) ON.out hbw7 (by omega) ?_; intro A8 c8 w8 H8 B8 G8; have e8d : w8.cell? ⟨wr.heap.size, 0, none⟩ = some (.slice AX n cx) := KXC.out w8 G8; have hz8 : base ≤ w8.heap.size := Nat.le_trans hbw7 B8.size; have HH8c : Hid _ := H8; have BH8c : Hid _ := BL0c.out.trans B8; clear H8 B8 G8) | (refine step_pushAt HH8c.out (.loc 1) (by rfl) _ _ 22 23 (.slice none 0 0) 24 (by rfl) Tryz.underlying22 info23 rfl (by decide) 0 (.slice AX n cx) (upd_same _ _ _) (by rfl) (by rfl) wr.heap.size (by rfl) e8d (by rfl) hz8 (by omega) ?_; intro A9 c9 w9 H9 B9; have hz9 : base ≤ w9.heap.size := Nat.le_trans hz8 B9.size; have HH9 : Hid _ := H9; have BB9 : Hid _ := BH8c.out.trans B9; clear H9 B9) | (trace_state; fail))
                  all_goals
                    go_wp2_with fail
                    go_roundg m
                    case measure => omega
                    case rel => exact ⟨i + 1, .slice A10 1 c10, [Value.slice AX n cx], _, R2, by go_num, rfl, by omega, rows_fin HH10.out, BB10.out, TI.out, fun h => by cases h⟩
      · have hnil : D.drop i = [] := List.drop_eq_nil_of_le (by omega)
        have hge : decide (i < D.length) = false := decide_eq_false (by omega)
        have hge2 : D.length ≤ i := by omega
        obtain ⟨i1, i2, i3, i4, i5⟩ := hI
        rw [hnil] at i4
        have hTT : coverM (P.map (·.2)) = T := by
          rw [HT0.out]
          unfold tidyM
          congr 1
        have hul : us.length = P.length := by rw [i1, List.length_map]
        have H20 := nil_put H hbz (.loc 1) 23
        have PR : Hid (∀ p ∈ P, p ∈ R) := fun p hp => i2.mem_iff.1 hp
        have UE : Hid _ := i1
        have R30 : Hid _ := i5
        have AVH : Hid (0 < P.length → ad v = some ⟨gb v, 0, none⟩) := fun hp => H.ad_ (k := .loc 0) (t := 23) (xs := us) rfl (by omega)
        have start3 : Hid (Tr3Rel base w1 v us P R T P.length (.slice none 0 0) (.int .i64 ((0 : Nat) : Int)) wr) := ⟨0, .slice none 0 0, [], rfl, rfl, rfl, Nat.le_refl _, H20, B, (fun q hq => by cases hq), by rw [← hTT]; rfl⟩
        have hP6 : P.length ≤ 600 := by omega
        rw [hul]
        clear hlt hnil i1 i2 i4 i5 hTT hul H H20 B dl DR LA hbz NV
        generalize hav : ad v = AV at *
        clear hav
        go_wp2_with fail
        go_loopg [9, 10] P.length (fun k x9 x10 wr => Tr3Rel base w1 v us P R T k x9 x10 wr)
        case atStart => exact start3.out
        case round =>
          clear start3
          obtain ⟨j, v2, Q, rfl, rfl, hkj, hQj, H3, B3, hQ, hT3⟩ := hrel
          have hbz3 : base ≤ wr.heap.size := by have := B3.size; have := HB.out; omega
          by_cases hlt : j < P.length
          · obtain ⟨m, rfl⟩ : ∃ m, gk = m + 1 := ⟨gk - 1, by omega⟩
            obtain rfl : AV = some ⟨gb v, 0, none⟩ := AVH.out (by omega)
            have hp : P[j] ∈ R := PR.out _ (List.getElem_mem hlt)
            have hd : P.drop j = P[j] :: P.drop (j + 1) := List.drop_eq_getElem_cons hlt
            rw [hd, List.map_cons, List.foldl_cons] at hT3
            have hus : us[j]? = some P[j].1 := by rw [UE.out]; simp [hlt]
            generalize P[j] = p at *
            have hr30 := (R30.out p hp).1
            have CE : Hid (∀ W, Below wr.heap.size wr W → W.cell? ⟨gb v, j, none⟩ = some (.slice (ad p.1) p.2.length (cp p.1)) ∧ Lies W.heap.size W (ad p.1) p.2) := fun W hW => by
              have HW := H3.other (w' := W) (fun b _ h2 => hW.block b h2)
              obtain ⟨mm, hkk⟩ := rows2_key (v := v) (us := us) (r := .row v2 23 (Q.map (·.1))) hp
              obtain ⟨a1, _, a3⟩ := own_row HW hkk
              have e1 : W.cell? ⟨gb v, j, none⟩ = some p.1 := HW.elem (k := .loc 0) (t := 23) (xs := us) (by rw [upd_other _ _ (by simp)]; rfl) hus
              rw [a1] at e1
              exact ⟨e1, a3⟩
            have CQ : Hid (∀ W, Below wr.heap.size wr W → ∀ k, (hk : k < Q.length) → W.cell? ⟨gb v2, k, none⟩ = some (.slice (ad Q[k].1) Q[k].2.length (cp Q[k].1)) ∧ Lies W.heap.size W (ad Q[k].1) Q[k].2 ∧ Q[k].2.length ≤ 30) := fun W hW k hk => by
              have HW := H3.other (w' := W) (fun b _ h2 => hW.block b h2)
              have hq := hQ _ (List.getElem_mem hk)
              obtain ⟨mm, hkk⟩ := rows2_key (v := v) (us := us) (r := .row v2 23 (Q.map (·.1))) hq
              obtain ⟨a1, _, a3⟩ := own_row HW hkk
              have e1 : W.cell? ⟨gb v2, k, none⟩ = some Q[k].1 := HW.elem (k := .loc 1) (t := 23) (xs := Q.map (·.1)) (upd_same _ _ _) (by simp [hk])
              rw [a1] at e1
              exact ⟨e1, a3, (R30.out _ hq).1⟩
            have AVH2 : Hid (0 < Q.length → ad v2 = some ⟨gb v2, 0, none⟩) := fun hp => H3.ad_ (k := .loc 1) (t := 23) (xs := Q.map (·.1)) (upd_same _ _ _) (by rw [List.length_map]; exact hp)
            have HV2 : Hid (Value.slice (ad v2) Q.length (cp v2) = v2) := by
              have := H3.sl (k := .loc 1) (upd_same _ _ _)
              rw [List.length_map] at this
              exact this.symm
            have HR1 : Hid (p.1 = .slice (ad p.1) p.2.length (cp p.1)) := by
              obtain ⟨mm, hkk⟩ := rows2_key (v := v) (us := us) (r := .row v2 23 (Q.map (·.1))) hp
              exact (own_row H3 hkk).1
            have hQ6 : Q.length ≤ 600 := by omega
            have H3h : Hid _ := H3
            have B3h : Hid _ := B3
            have QR : Hid _ := hQ
            have HP : Hid _ := hp
            have HT : Hid _ := hT3
            have start4 : Hid (Tr4Rel wr wr.heap.size p.2 Q Q.length (.bool false) (.int .i64 ((0 : Nat) : Int)) wr) := ⟨0, false, rfl, rfl, by omega, Below.refl _ _, by simp⟩
            obtain ⟨wsz, hwsz⟩ : ∃ z, z = wr.heap.size := ⟨_, rfl⟩
            rw [← hwsz] at start4
            have WSZ : Hid _ := hwsz
            clear H3 B3 hQ hp hT3 hd hus hwsz
            generalize hA' : ad p.1 = A' at *
            generalize hcu : cp p.1 = cu at *
            generalize hs : p.2 = s at *
            have HS : Hid _ := hs
            clear hA' hcu hs
            generalize hav2 : ad v2 = AV2 at *
            have AE2 : Hid _ := hav2
            clear hav2
            go_wp2_with fail
            go_loopg [11, 12] Q.length (fun k x11 x12 w' => Tr4Rel wr wsz s Q k x11 x12 w')
            case atStart => exact start4.out
            case round =>
              clear start4
              obtain ⟨k, cov, rfl, rfl, hkk, B4, hcov⟩ := hrel
              have B4w := B4
              rw [WSZ.out] at B4w
              by_cases hlt4 : k < Q.length
              · obtain rfl : AV2 = some ⟨gb v2, 0, none⟩ := AVH2.out (by omega)
                obtain ⟨c1, c2⟩ := CE.out wr B4w
                obtain ⟨d1, d2, d3⟩ := CQ.out wr B4w k hlt4
                have WI : ∀ n, Calls Tryz.prog 40 #[.slice (ad Q[k].1) Q[k].2.length (cp Q[k].1), .slice A' s.length cu] (wr.drewN n) fun e w' => e = .returned (.bool (withinM Q[k].2 s)) ∧ w' = wr.drewN n := fun n =>
                  within_any (w := wr.drewN n) d2 (by omega) c2 (by omega)
                have hst : ((Q.take (k + 1)).map (·.2)).any (fun d => withinM d s) = (cov || withinM Q[k].2 s) := by
                  rw [← hcov, List.take_succ_eq_append_getElem hlt4, List.map_append, List.any_append]
                  simp
                have ST : Hid _ := hst
                generalize Q[k] = qq at *
                generalize ad qq.1 = AQ at *
                generalize cp qq.1 = cq at *
                generalize hwi : withinM qq.2 s = wi at *
                generalize qq.2.length = nq2 at *
                have BH : Hid _ := B4
                clear hst hcov d2 d3 c2 B4 B4w hwi
                cases cov with
                | true =>
                  clear WI
                  go_wp2_with fail
                  go_quiet (fail)
                  go_wp2_with fail
                  go_roundg (gk - 1)
                  case measure => omega
                  case rel => exact ⟨k + 1, true, by go_num, rfl, by omega, below_drewN_ BH.out _, by rw [ST.out]; rfl⟩
                | false =>
                  go_wp2_with fail
                  go_quiet ((go_at_call 40; exact Calls.quiet_of_same (WI _)))
                  go_wp2_with fail
                  go_roundg (gk - 1)
                  case measure => omega
                  case rel => exact ⟨k + 1, wi, by go_num, rfl, by omega, below_drewN_ BH.out _, by rw [ST.out]; rfl⟩
              · have hge4 : decide (k < Q.length) = false := decide_eq_false (by omega)
                have hge5 : Q.length ≤ k := by omega
                have hcv2 : ((Q.map (·.2)).any fun d => withinM d s) = cov := by
                  rw [← hcov, List.take_of_length_le (by omega)]
                have HT2 := HT.out
                unfold coverStep at HT2
                have HE := H3h.out.other (w' := wr) (fun b _ h2 => B4w.block b h2)
                have BE := B3h.out.trans (B4.mono (by have := WSZ.out; omega))
                have hbz5 : base ≤ wr.heap.size := by have := BE.size; have := HB.out; omega
                obtain ⟨c1, _⟩ := CE.out wr B4w
                cases cov with
                | true =>
                  rw [if_pos hcv2] at HT2
                  have HT3 : Hid _ := HT2
                  have HEh : Hid _ := HE
                  have BEh : Hid _ := BE
                  clear hcov hcv2 HT HT2 HE BE B4 B4w hlt4 c1
                  go_wp2_with fail
                  go_roundg m
                  case measure => omega
                  case rel => exact ⟨j + 1, v2, Q, by go_num, by rw [AE2.out], by omega, by omega, HEh.out, BEh.out, QR.out, HT3.out⟩
                | false =>
                  rw [if_neg (by rw [hcv2]; simp)] at HT2
                  have HT3 : Hid _ := HT2
                  have LS : Hid _ := HE.alloc (.cells #[.slice A' s.length cu] 23)
                  have BL : Hid _ := BE.alloc hbz5 (.cells #[.slice A' s.length cu] 23)
                  have hbz6 : base ≤ (wr.alloc (.cells #[.slice A' s.length cu] 23)).heap.size := by rw [size_alloc]; omega
                  clear hcov hcv2 HT HT2 HE BE B4 B4w hlt4
                  go_wp2_with (at_builtin; refine law_pushAt LS.out (.loc 1) rfl (.tmp 83) (.tmp 88) 22 23 (.slice none 0 0) 24 rfl Tryz.underlying22 info23 rfl (by decide) Q.length (.slice A' s.length cu) (upd_same _ _ _) (List.length_map _) (by show Value.slice AV2 _ _ = _; rw [← AE2.out]) wr.heap.size rfl ?hy rfl ?hb ?hl ?_)
                  try (case hy => first | exact cell_new _ _ _ _ (by simp) | exact cell_new_drew _ _ _ _ (by simp))
                  case hb => exact hbz6
                  case hl => omega
                  intro A3 c3 w6 H6 B6 _
                  rw [upd_upd_same] at H6
                  have e9 : Q.map (·.1) ++ [Value.slice A' s.length cu] = (Q ++ [p]).map (·.1) := by
                    rw [List.map_append]
                    show _ = _ ++ [p.1]
                    rw [HR1.out]
                  rw [e9] at H6
                  have H6H : Hid _ := H6
                  have B6H : Hid _ := BL.out.trans B6
                  clear H6 B6 e9
                  go_wp2_with fail
                  go_roundg m
                  case measure => omega
                  case rel => exact ⟨j + 1, .slice A3 (Q.length + 1) c3, Q ++ [p], by go_num, by simp [ad, cp], by omega, by simp; omega, H6H.out, B6H.out, (fun q hq => by
                    rcases List.mem_append.1 hq with z | z
                    · exact QR.out q z
                    · rw [List.mem_singleton] at z; rw [z]; exact HP.out), by rw [← HT3.out, List.map_append]; show _ = List.foldl _ (_ ++ [s]) _; rw [← HS.out]; rfl⟩
          · have hnil : P.drop j = [] := List.drop_eq_nil_of_le (by omega)
            rw [hnil] at hT3
            have hge9 : decide (j < P.length) = false := decide_eq_false (by omega)
            have hge8 : P.length ≤ j := by omega
            have hT4 : Q.map (·.2) = T := hT3
            have LO := rowsL_out (P := Q) H3 (upd_same _ _ _) (fun q hq => by
              obtain ⟨m, hk⟩ := rows2_key (v := v) (us := us) (r := .row v2 23 (Q.map (·.1))) (hQ q hq)
              obtain ⟨a1, a2, a3⟩ := own_row H3 hk
              exact ⟨_, a1, a2, a3⟩)
            rw [hT4] at LO
            have HL : Hid (Q.length = T.length) := by rw [← hT4, List.length_map]; rfl
            have LOh : Hid _ := LO
            have BE : Hid _ := B3
            clear LO hT3 hT4 hnil H3 B3 hQ hlt
            go_wp2_with fail
            go_ret2
            unfold ResRR
            exact ⟨by have := BE.out; rwa [HB.out] at this, ad v2, cp v2, by rw [← HL.out]; rfl, LOh.out⟩
  · rw [if_pos hr]
    have g1 : (refM D != 0) = true := by simp [hr]
    clear h hm hw hr
    generalize refM D = r at *
    go_enter Tryz.func10, Tryz.ntmps10
    go_wp2_with fail
    refine C1.mono ?_
    rintro e w1 ⟨rfl, rfl⟩
    clear C1
    go_wp2_with fail
    go_ret2
    unfold ResRR
    exact ⟨Below.refl _ _, none, 0, rfl, .inl rfl⟩
end Go.Proofs.YtdllaphnkbnpoaaGreat
