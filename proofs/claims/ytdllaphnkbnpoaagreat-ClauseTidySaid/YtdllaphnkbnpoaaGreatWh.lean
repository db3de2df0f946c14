/- Walks over package search: propagate. -/
import Derived.Test.YtdllaphnkbnpoaaGreatWg
namespace Go.Proofs.YtdllaphnkbnpoaaGreat
open Go.RowKit Go.Proofs

theorem movesO_false {σ υ : S} {k : Nat} : ∀ {n i : Nat}, σ.movesO k n i = some (υ, false) → υ = σ := by
  intro n
  induction n with
  | zero => intro i h; rw [S.movesO] at h; injection h with h; injection h with h1 h2; exact h1.symm
  | succ n ih =>
    intro i h
    rw [S.movesO] at h
    obtain ⟨x, hx, h⟩ := Option.bind_eq_some_iff.1 h
    split at h
    · split at h
      · injection h with h; injection h with h1 h2; cases h2
      · cases h
    · exact ih h

def RoundAlt (σ : S) (l : Int) (k : Nat) (ks stay : List Nat) (R : S × Int) (x : Int) : Prop :=
  (0 < x ∧ S.roundO l ks (stay ++ [k]) (σ.turned l k) = some R) ∨
  (x ≤ 0 ∧ ∃ υ, (σ.turned l k).movesO k (((σ.turned l k).clause k).length - 2) 2 = some (υ, true) ∧ υ.watch l = (σ.turned l k).watch l ∧ S.roundO l ks stay υ = some R) ∨
  (x < 0 ∧ (σ.turned l k).movesO k (((σ.turned l k).clause k).length - 2) 2 = some (σ.turned l k, false) ∧ R = ((σ.turned l k).setWatch l (stay ++ [k] ++ ks), (k : Int))) ∨
  (x = 0 ∧ (σ.turned l k).movesO k (((σ.turned l k).clause k).length - 2) 2 = some (σ.turned l k, false) ∧ ∃ φ, (σ.turned l k).setO (at0 ((σ.turned l k).clause k) 0) (k : Int) = some φ ∧ S.roundO l ks (stay ++ [k]) φ = some R)

theorem roundO_cons {l : Int} {k : Nat} {ks stay : List Nat} {σ : S} {R : S × Int} (h : S.roundO l (k :: ks) stay σ = some R) :
    k < σ.clauses.length ∧ 2 ≤ (σ.clause k).length ∧ (σ.clause k).length ≤ 60000 ∧ stay.length + ks.length < 60000 ∧ ∃ x, (σ.turned l k).ofO (at0 ((σ.turned l k).clause k) 0) = some x ∧ RoundAlt σ l k ks stay R x := by
  rw [S.roundO] at h
  split at h
  · rename_i hc
    refine ⟨hc.1, hc.2.1, hc.2.2.1, hc.2.2.2, ?_⟩
    simp only [] at h
    obtain ⟨x, hx, h⟩ := Option.bind_eq_some_iff.1 h
    refine ⟨x, hx, ?_⟩
    split at h
    · rename_i h0; exact .inl ⟨h0, h⟩
    · rename_i h0
      obtain ⟨⟨υ, moved⟩, hm, h⟩ := Option.bind_eq_some_iff.1 h
      simp only [] at h
      split at h
      · rename_i hw
        cases moved with
        | true => exact .inr (.inl ⟨by omega, υ, hm, hw, by simpa using h⟩)
        | false =>
          obtain rfl := movesO_false hm
          simp only [Bool.false_eq_true, if_false] at h
          split at h
          · rename_i h1
            injection h with h
            exact .inr (.inr (.inl ⟨h1, hm, h.symm⟩))
          · rename_i h1
            obtain ⟨φ, hφ, h⟩ := Option.bind_eq_some_iff.1 h
            exact .inr (.inr (.inr ⟨by omega, hm, φ, hφ, h⟩))
      · cases h
  · cases h

theorem hold_nil {base p fuel : Nat} {w : World} {σ : S} {μ : Vals} {loc : Nat → Res} (H : Holds base w (full p fuel σ μ loc)) (i : Nat) (t : TypeId) : Holds base w (full p fuel σ μ (setLoc loc i (.row (.slice none 0 0) t []))) := by
  have := H.put (.loc i) (.row (.slice none 0 0) t []) (World.grownBy.refl w none) (fun b hb => by cases hb) (World.ownsRow_nil w 0 t 1) (fun b hb => by cases hb) (full_base H)
  rw [upd_loc] at this
  exact this

theorem addr_add (g m j : Nat) : (⟨g, m, none⟩ : Addr).add j = ⟨g, m + j, none⟩ := by unfold Addr.add; split <;> simp_all
theorem drop_at (l : List Nat) {i j : Nat} (h : i + j < l.length) : (nats (l.drop i))[j]? = some (.int .i64 ((l.getD (i + j) 0 : Nat) : Int)) := by
  rw [nats_at _ (by rw [List.length_drop]; omega)]
  simp [List.getElem?_drop]
theorem cat_nats (a b : List Nat) : nats a ++ nats b = nats (a ++ b) := by simp [nats]
theorem nats_one (a : List Nat) : ∀ u ∈ nats a, u.oneCell' = true := by
  intro u hu
  simp [nats] at hu
  obtain ⟨_, _, rfl⟩ := hu
  rfl

theorem upd_comm (L : Key → Res) {k k' : Key} (r r' : Res) (h : k ≠ k') : upd (upd L k r) k' r' = upd (upd L k' r') k r := by
  funext q
  unfold upd
  by_cases h1 : q = k'
  · subst h1; rw [if_pos rfl, if_neg (Ne.symm h), if_pos rfl]
  · rw [if_neg h1]
    by_cases h2 : q = k
    · subst h2; simp
    · simp [h1, h2]

/-- The list that was gathered is stored as the watchers of l. -/
theorem stay_done {base p fuel : Nat} {w1 w2 : World} {σ : S} {μ : Vals} {loc : Nat → Res} {l : Int} {v : Value} {ks : List Nat} (G : Good σ μ) (H : Holds base w1 (full p fuel σ μ (setLoc loc 1 (.row v 3 (nats ks)))))
    (hm : MapAt w2 μ.mb (kvs ikey (putM μ.wkv l v))) (hg : w1.grownBy w2 (some μ.mb)) (h1 : loc 1 = .non) :
    Holds base w2 (full p fuel (σ.setWatch l ks) (μ.setW l v) loc) ∧ Good (σ.setWatch l ks) (μ.setW l v) ∧ Below base w1 w2 := by
  have hmp : full p fuel σ μ (setLoc loc 1 (.row v 3 (nats ks))) .mp = .mapB μ.mb (kvs ikey μ.wkv) := rfl
  have H2 := H.put .mp (.mapB μ.mb (kvs ikey (putM μ.wkv l v))) hg (fun b hb => .inl (by rw [hmp]; exact hb)) hm (fun b hb => .inl (by rw [hmp]; exact hb)) (full_base H)
  have H3 := H2.move (.loc 1) (.wt l)
  have e1 : upd (full p fuel σ μ (setLoc loc 1 (.row v 3 (nats ks)))) .mp (.mapB μ.mb (kvs ikey (putM μ.wkv l v))) (.loc 1) = .row v 3 (nats ks) := by rw [upd_other _ _ (by simp)]; exact setLoc_same 1 _
  rw [e1, upd_comm _ _ _ (show Key.mp ≠ Key.wt l by simp), abs_w G, upd_loc, setLoc_setLoc, setLoc_id h1] at H3
  exact ⟨H3, good_w G l v ks, (Below.refl base w1).grown hg (full_base H) (fun b hb => H.base .mp b hb)⟩

def PropRel (base p fuel : Nat) (R : S × Int) (loc : Nat → Res) (w : World) (k : Nat) (wr : World) : Prop :=
  ∃ σ μ, Holds base wr (full p fuel σ μ loc) ∧ Good σ μ ∧ Below base w wr ∧ S.propO k σ = some R

def RoundRel (base p fuel : Nat) (l : Int) (list : List Nat) (vl : Value) (R : S × Int) (loc : Nat → Res) (w : World) (k : Nat) (x5 x45 : Value) (wr : World) : Prop :=
  ∃ (i : Nat) (τ : S) (μ : Vals) (stay : List Nat) (vs : Value), x45 = .int .i64 (i : Int) ∧ x5 = .slice (ad vs) stay.length (cp vs) ∧ k + i = list.length ∧ Holds base wr (full p fuel τ μ (setLoc loc 1 (.row vs 3 (nats stay)))) ∧ Good τ μ ∧ Below base w wr ∧
    S.roundO l (list.drop i) stay τ = some R ∧ τ.watch l = list ∧ μ.w0 l = vl

theorem propO_succ {m : Nat} {σ : S} {R : S × Int} (h : S.propO (m + 1) σ = some R) :
    (σ.trail.length ≤ σ.head ∧ R = (σ, -1)) ∨ (σ.head < σ.trail.length ∧ at0 σ.trail σ.head ≠ 0 ∧ (at0 σ.trail σ.head).natAbs ≤ 60000 ∧ σ.trail.length ≤ 60000 ∧ (σ.watch (-(at0 σ.trail σ.head))).length ≤ 60000 ∧
      ∃ τ r, S.roundO (-(at0 σ.trail σ.head)) (σ.watch (-(at0 σ.trail σ.head))) [] { σ with head := σ.head + 1 } = some (τ, r) ∧ ((r = -1 ∧ S.propO m τ = some R) ∨ (r ≠ -1 ∧ R = (τ, r)))) := by
  rw [S.propO] at h
  split at h
  · rename_i h0; injection h with h; exact .inl ⟨h0, h.symm⟩
  · rename_i h0
    simp only [] at h
    split at h
    · rename_i hc
      obtain ⟨⟨τ, r⟩, hr, h⟩ := Option.bind_eq_some_iff.1 h
      refine .inr ⟨by omega, by have := hc.1; omega, by have := hc.2.1; omega, hc.2.2.1, hc.2.2.2, τ, r, hr, ?_⟩
      simp only [] at h
      split at h
      · rename_i e; exact .inl ⟨e, h⟩
      · rename_i e; injection h with h; exact .inr ⟨e, h.symm⟩
    · cases h

set_option maxRecDepth 100000 in
set_option maxHeartbeats 16000000 in
theorem propagate_any {base p fuel : Nat} {σ σ' : S} {μ : Vals} {loc : Nat → Res} {w : World} {r : Int} (H : Holds base w (full p fuel σ μ loc)) (G : Good σ μ) (hl1 : loc 1 = .non) {N : Nat} (h : σ.propO N = some (σ', r)) :
    Calls Tryz.prog 87 #[.pointer (some ⟨p, 0, none⟩)] w fun e w' => e = .returned (.int .i64 r) ∧ Post base w p fuel σ' loc w' := by
  have start : Hid (PropRel base p fuel (σ', r) loc w N w) := ⟨σ, μ, H, G, Below.refl _ _, h⟩
  have L1 : Hid _ := hl1
  clear H G h hl1
  go_enter Tryz.func87, Tryz.ntmps87
  go_wp2_with fail
  go_loopg [3, 4, 5] N (fun k _ _ _ wr => PropRel base p fuel (σ', r) loc w k wr)
  case atStart => exact start.out
  case round =>
    clear start
    obtain ⟨σ1, μ1, H, G, B, hR⟩ := hrel
    obtain ⟨m, rfl⟩ : ∃ m, gk = m + 1 := by
      cases gk with
      | zero => rw [S.propO] at hR; cases hR
      | succ m => exact ⟨m, rfl⟩
    have c13 := full_cell H 13 rfl
    rcases propO_succ hR with ⟨hge, hR⟩ | ⟨hlt, h0, h1, h2, h3, τ, r1', hr, hnext⟩
    · injection hR with hR1 hR2
      subst hR1 hR2
      have c11 := full_c11 H
      have HH : Hid _ := H
      have GG : Hid _ := G
      have BB : Hid _ := B
      have hge2 : decide ((σ'.head : Int) < (σ'.trail.length : Int)) = false := decide_eq_false (by omega)
      clear H G B hR
      go_wp2_with fail
      go_quiet (fail)
      go_wp2_with fail
      go_ret
      exact ⟨rfl, μ1, HH.out.drewN _, GG.out, below_drewN BB.out _⟩
    · have c11 := full_d11 H (by omega)
      have RH : Hid _ := hr
      have NX : Hid _ := hnext
      have HH : Hid _ := H
      have GG : Hid _ := G
      have BB : Hid _ := B
      clear H G B hR hr hnext
      obtain ⟨q, hq⟩ : ∃ q, q = at0 σ1.trail σ1.head := ⟨_, rfl⟩
      rw [← hq] at h0 h1 h3
      have QQ : Hid _ := hq
      clear hq
      have q1 : -60000 ≤ q := by omega
      have q2 : q ≤ 60000 := by omega
      have i1 : (0 : Int) ≤ (σ1.head : Int) := by omega
      have i2 : (σ1.head : Int) < (σ1.trail.length : Int) := by omega
      go_wp2_with fail
      go_quiet (fail)
      have HX := HH.out.drewN nq
      have BX := below_drewN BB.out nq
      generalize wr.drewN nq = w1 at HX BX ⊢
      have H1 : Hid _ := HX
      have B1 : Hid _ := BX
      have v11 := full_v11 HX hlt
      rw [← QQ.out] at v11
      have d11 := full_d11 HX (by omega)
      have d13 := full_cell HX 13 rfl
      clear HX BX HH BB c11 c13
      go_wp2_with fail
      go_quiet (fail)
      have HX := H1.out.drewN nq
      have BX := below_drewN B1.out nq
      generalize w1.drewN nq = w2 at HX BX ⊢
      have d13 := full_cell HX 13 rfl
      have f13 := full_free HX 13
      have d5 := full_c5 HX
      have H2 := HX.setCell (k := .st) (b := p) rfl 13 (.int .i64 ((σ1.head + 1 : Nat) : Int)) (full_base HX)
      rw [abs_head] at H2
      have B2 := BX.setCell (p := ⟨p, 13, none⟩) (full_lt HX).1 (.int .i64 ((σ1.head + 1 : Nat) : Int))
      have G2 : Good { σ1 with head := σ1.head + 1 } μ1 := ⟨GG.out.vcs, GG.out.vlogs, GG.out.wk, GG.out.not, GG.out.failed⟩
      have W2 : (σ1.watch (-q)) = ({ σ1 with head := σ1.head + 1 } : S).watch (-q) := rfl
      rw [W2] at h3
      have RH2 := RH.out
      rw [← QQ.out, W2] at RH2
      generalize hhd : ((σ1.head + 1 : Nat) : Int) = hd at *
      generalize { σ1 with head := σ1.head + 1 } = σ2 at H2 G2 RH2 h3
      clear H1 B1 v11 d11 HX BX W2 GG RH QQ
      have r1 := look_run H2 G2 (-q)
      have H2H : Hid _ := H2
      have G2H : Hid _ := G2
      have B2H : Hid _ := B2
      have R2H : Hid _ := RH2
      have hd2 : (σ1.head : Int) + 1 = hd := by omega
      clear H2 G2 B2 RH2 hhd
      go_wp2_with fail
      generalize w2.setCell ⟨p, 13, none⟩ (.int .i64 hd) = w3 at *
      generalize -q = l at *
      clear r1 hd2 d13 f13 d5 hlt h0 h1 h2 q1 q2 i1 i2
      obtain ⟨list, hlist⟩ : ∃ list, list = σ2.watch l := ⟨_, rfl⟩
      obtain ⟨vl, hvl⟩ : ∃ vl, vl = μ1.w0 l := ⟨_, rfl⟩
      have istart : Hid (RoundRel base p fuel l list vl (τ, r1') loc w list.length (.slice (ad (.slice none 0 0)) 0 (cp (.slice none 0 0))) (.int .i64 ((0 : Nat) : Int)) w3) :=
        ⟨0, σ2, μ1, [], .slice none 0 0, rfl, rfl, by omega, hold_nil H2H.out 1 3, G2H.out, B2H.out, by rw [List.drop_zero, hlist]; exact R2H.out, hlist.symm, hvl.symm⟩
      rw [← hlist] at h3 ⊢
      rw [← hvl] at ⊢
      obtain ⟨Al, hAl⟩ : ∃ Al, Al = ad vl := ⟨_, rfl⟩
      have AVL : Hid (0 < list.length → Al = some ⟨gb vl, 0, none⟩) := fun hp => by rw [hAl, hvl]; exact w0_at H2H.out G2H.out l (by rw [← hlist]; exact hp)
      rw [← hAl] at ⊢
      clear hlist hvl R2H G2H B2H H2H hAl
      go_loopg [5, 45] list.length (fun k x5 x45 wr => RoundRel base p fuel l list vl (τ, r1') loc w k x5 x45 wr)
      case atStart => exact istart.out
      case round =>
        clear istart
        obtain ⟨i, σa, μa, stay, vs, rfl, rfl, hki, H, G, B, hR, hwl, hvl⟩ := hrel
        by_cases hlt : i < list.length
        · obtain rfl : Al = some ⟨gb vl, 0, none⟩ := AVL.out (by omega)
          have ei : wr.cell? ⟨gb vl, i, none⟩ = some (.int .i64 ((list.getD i 0 : Nat) : Int)) := by
            have := w0_elem H G l (i := i) (by rw [hwl]; exact hlt)
            rwa [hwl, hvl] at this
          have hd : list.drop i = list.getD i 0 :: list.drop (i + 1) := by
            rw [List.drop_eq_getElem_cons hlt]; simp [hlt]
          rw [hd] at hR
          obtain ⟨hkc, hk2, hk6, hsl, x, hx, alt⟩ := roundO_cons hR
          generalize list.getD i 0 = k at *
          obtain ⟨vc, hvc, hrow⟩ := cls_row (p := p) (fuel := fuel) (loc := setLoc loc 1 (.row vs 3 (nats stay))) G hkc
          have d4 := full_d4 H G.vcs (by omega)
          have e4 : wr.cell? ⟨gb μa.cl, k, none⟩ = some vc := H.elem (k := .fld 4) rfl hvc
          have hvf : vc = .slice (some ⟨gb vc, 0, none⟩) (σa.clause k).length (cp vc) := by
            have := H.sl1 hrow (by rw [ints_length]; omega)
            rwa [ints_length] at this
          rw [hvf] at e4
          have a0 := H.elem hrow (ints_at (σa.clause k) (i := 0) (by omega))
          have a1 := H.elem hrow (ints_at (σa.clause k) (i := 1) (by omega))
          have f0 := H.free hrow (by rw [ints_length]; omega) 0
          have f1 := H.free hrow (by rw [ints_length]; omega) 1
          have hbv := (H.lt (.cls k) (H.gb_ hrow (by rw [ints_length]; omega))).1
          have n0 : 0 < (σa.clause k).length := by omega
          have n1 : 1 < (σa.clause k).length := by omega
          have n2 : (0 : Int) < ((σa.clause k).length : Int) := by omega
          have n3 : (1 : Int) < ((σa.clause k).length : Int) := by omega
          have hlt2 : (i : Int) < (list.length : Int) := by omega
          have VF : Hid _ := hvf
          have VL : Hid _ := hvl
          have WL : Hid _ := hwl
          have HD : Hid _ := hd
          have XX : Hid _ := hx
          have AL : Hid _ := alt
          have HH : Hid _ := H
          have GG : Hid _ := G
          have BB : Hid _ := B
          have VC : Hid _ := hvc
          have KI : Hid _ := hki
          have hm1 : gk = 1 + (list.length - (i + 1)) := by omega
          have GK : Hid _ := hm1
          clear H G B hR hvl hwl hd hx alt hrow hvf hvc hki hm1
          by_cases hsw : at0 (σa.clause k) 0 = l
          · have g1 : (at0 (σa.clause k) 0 == l) = true := by simp [hsw]
            have SW := swap_cls HH.out GG.out VC.out hkc (a := 0) (b := 1) (by omega) (by omega)
            have ET : σa.turned l k = σa.setClause k (swap (σa.clause k) 0 1) := by unfold S.turned; rw [if_pos hsw]
            have ETH : Hid _ := ET
            clear ET
            have SWH : Hid _ := SW
            clear SW
            rw [hsw] at a0
            go_wp2_with fail
            go_region
            go_wp2_with fail
            have H5 : Holds base (((wr.setCell ⟨gb vc, 0, none⟩ (.int .i64 (at0 (σa.clause k) 1))).setCell ⟨gb vc, 1, none⟩ (.int .i64 l)).drew) (full p fuel (σa.turned l k) μa (setLoc loc 1 (.row vs 3 (nats stay)))) := by
              have := SWH.out.drew
              rw [hsw] at this
              rw [ETH.out]
              exact this
            have B5 : Below base w (((wr.setCell ⟨gb vc, 0, none⟩ (.int .i64 (at0 (σa.clause k) 1))).setCell ⟨gb vc, 1, none⟩ (.int .i64 l)).drew) := ((BB.out.setCell (p := ⟨gb vc, 0, none⟩) hbv _).setCell (p := ⟨gb vc, 1, none⟩) hbv _).drew
            have G5 : Good (σa.turned l k) μa := by rw [ETH.out]; exact good_cls GG.out k _
            have hwt : (σa.turned l k).watch l = list := by rw [ETH.out]; exact WL.out
            have hkt : k < (σa.turned l k).clauses.length := by rw [ETH.out]; simpa [S.setClause] using hkc
            have hlen : ((σa.turned l k).clause k).length = (σa.clause k).length := by rw [ETH.out, clause_set hkc, swap_length]
            generalize ((wr.setCell ⟨gb vc, 0, none⟩ (.int .i64 (at0 (σa.clause k) 1))).setCell ⟨gb vc, 1, none⟩ (.int .i64 l)).drew = w5 at *
            have hEA : at0 ((σa.turned l k).clause k) 0 = at0 (σa.clause k) 1 := by rw [ETH.out, clause_set hkc]; exact swap_at0 _ n1
            generalize at0 (σa.clause k) 1 = a at *
            clear g1 hsw a0 a1 f0 f1 d4 e4 ei
            have H5H : Hid _ := H5
            have G5H : Hid _ := G5
            have B5H : Hid _ := B5
            have WTH : Hid _ := hwt
            have LNH : Hid _ := hlen
            clear H5 G5 B5 hwt hlen
            obtain ⟨v5, hv5, hrow5⟩ := cls_row (p := p) (fuel := fuel) (loc := setLoc loc 1 (.row vs 3 (nats stay))) G5H.out hkt
            obtain rfl : v5 = vc := by have := VC.out; rw [this] at hv5; injection hv5 with h; exact h.symm
            have R5H : Hid _ := hrow5
            clear hrow5 hv5
            have b0 := H5H.out.elem R5H.out (ints_at _ (i := 0) (by rw [LNH.out]; omega))
            rw [hEA] at b0
            have XA : Hid ((σa.turned l k).ofO a = some x) := by have := XX.out; rwa [hEA] at this
            have EA : Hid _ := hEA
            clear hEA
            rcases AL.out with ⟨hx0, hn⟩ | ⟨hx0, υ, hm, hwυ, hn⟩ | ⟨hx0, hm, hRR⟩ | ⟨hx0, hm, φ, hφ, hn⟩
            · have NH : Hid _ := hn
              have hx1 : ¬ x < 0 := by omega
              have hx2 : (x == 0) = false := by simp; omega
              clear hn
              go_wp2_with fail
              refine (of_any H5H.out XA.out).mono ?_
              rintro e w' ⟨rfl, rfl⟩
              have LS : Hid _ := H5H.out.alloc (.cells #[.int .i64 (k : Int)] 3)
              have hsl2 : stay.length < 60000 := by omega
              go_wp2_with (at_builtin; refine law_pushAt LS.out (.loc 1) rfl (.tmp 85) (.tmp 87) 23 3 (.int .i64 0) 8 rfl Tryz.underlying23 info3 rfl (by decide) stay.length (.int .i64 (k : Int)) (setLoc_same 1 _) (nats_length _) rfl w5.heap.size rfl ?hy rfl ?hb ?hl ?_)
              try (case hy => first | exact cell_new _ _ _ _ (by simp) | exact cell_new_drew _ _ _ _ (by simp))
              case hb => first | exact full_base LS.out | simpa using full_base LS.out
              case hl => omega
              intro A c w6 H6 B6 _
              rw [nats_snoc, upd_loc, setLoc_setLoc] at H6
              have BH6 : Hid _ := (B5H.out.alloc (full_base H5H.out) (.cells #[.int .i64 (k : Int)] 3)).trans B6
              have b6 := H6.elem (k := .cls k) R5H.out (ints_at _ (i := 0) (by rw [LNH.out]; omega))
              rw [EA.out] at b6
              have H6H : Hid _ := H6
              clear H6 B6
              go_wp2_with fail
              refine (of_any H6H.out XA.out).mono ?_
              rintro e w' ⟨rfl, rfl⟩
              go_wp2_with fail
              refine (of_any H6H.out XA.out).mono ?_
              rintro e w' ⟨rfl, rfl⟩
              go_wp2_with fail
              go_roundg (gk - 1)
              case measure => have := GK.out; omega
              case rel => exact ⟨i + 1, σa.turned l k, μa, stay ++ [k], .slice A (stay.length + 1) c, by go_num, by simp [ad, cp], by have := GK.out; omega, H6H.out, G5H.out, BH6.out, NH.out, WTH.out, VL.out⟩
            · have NH : Hid _ := hn
              have MH : Hid _ := hm
              have WU : Hid _ := hwυ
              clear hn hm hwυ
              have hx1 : ¬ 0 < x := by omega
              go_wp2_with fail
              refine (of_any H5H.out XA.out).mono ?_
              rintro e w' ⟨rfl, rfl⟩
              have M := moves_any H5H.out G5H.out VC.out hkt (by rw [LNH.out]; exact hk2) (by rw [LNH.out]; exact hk6) MH.out
              rw [LNH.out] at M
              have MM : Hid _ := M
              clear M
              go_wp2_with fail
              refine Calls.mono MM.out ?_
              rintro e w6 ⟨rfl, hPK⟩
              have PK : Hid _ := hPK
              clear hPK
              go_wp2_with fail
              go_roundg (gk - 1)
              case measure => have := GK.out; omega
              case rel =>
                obtain ⟨μ6, H6, G6, B6, hvc6, hw6⟩ := PK.out
                exact ⟨i + 1, υ, μ6, stay, vs, by go_num, rfl, by have := GK.out; omega, H6, G6, B5H.out.trans B6, NH.out, by rw [WU.out]; exact WTH.out, by rw [hw6 l WU.out]; exact VL.out⟩
            · have MH : Hid _ := hm
              have RRH : Hid _ := hRR
              clear hm hRR
              have hx1 : ¬ 0 < x := by omega
              go_wp2_with fail
              refine (of_any H5H.out XA.out).mono ?_
              rintro e w' ⟨rfl, rfl⟩
              have M := moves_any H5H.out G5H.out VC.out hkt (by rw [LNH.out]; exact hk2) (by rw [LNH.out]; exact hk6) MH.out
              rw [LNH.out] at M
              have MM : Hid _ := M
              clear M
              go_wp2_with fail
              refine Calls.mono MM.out ?_
              rintro e w7 ⟨rfl, μ7, H7, G7, B7, hvc7, hw7⟩
              have VC7 : Hid _ := hvc7
              have VL7 : Hid (μ7.w0 l = vl) := by rw [hw7 l rfl]; exact VL.out
              have H7H : Hid _ := H7
              have G7H : Hid _ := G7
              have B7H : Hid _ := B5H.out.trans B7
              have R7H : Hid (full p fuel (σa.turned l k) μ7 (setLoc loc 1 (.row vs 3 (nats stay))) (.cls k) = .row v5 3 (ints ((σa.turned l k).clause k))) := by
                obtain ⟨v8, hv8, hrow8⟩ := cls_row (p := p) (fuel := fuel) (loc := setLoc loc 1 (.row vs 3 (nats stay))) G7 hkt
                obtain rfl : v8 = v5 := by
                  rw [hvc7] at hv8
                  have := VC.out; rw [this] at hv8; injection hv8 with h; exact h.symm
                exact hrow8
              clear H7 G7 B7 hvc7 hw7
              have b7 := H7H.out.elem R7H.out (ints_at _ (i := 0) (by rw [LNH.out]; omega))
              rw [EA.out] at b7
              have LS : Hid _ := H7H.out.alloc (.cells #[.int .i64 (k : Int)] 3)
              have hsl2 : stay.length < 60000 := by omega
              go_wp2_with (at_builtin; refine law_pushAt LS.out (.loc 1) rfl (.tmp 85) (.tmp 87) 23 3 (.int .i64 0) 8 rfl Tryz.underlying23 info3 rfl (by decide) stay.length (.int .i64 (k : Int)) (setLoc_same 1 _) (nats_length _) rfl w7.heap.size rfl ?hy rfl ?hb ?hl ?_)
              try (case hy => first | exact cell_new _ _ _ _ (by simp) | exact cell_new_drew _ _ _ _ (by simp))
              case hb => first | exact full_base LS.out | simpa using full_base LS.out
              case hl => omega
              intro A c w6 H6 B6 _
              rw [nats_snoc, upd_loc, setLoc_setLoc] at H6
              have BH6 : Hid _ := (B7H.out.alloc (full_base H7H.out) (.cells #[.int .i64 (k : Int)] 3)).trans B6
              have b6 := H6.elem (k := .cls k) R7H.out (ints_at _ (i := 0) (by rw [LNH.out]; omega))
              rw [EA.out] at b6
              have H6H : Hid _ := H6
              clear H6 B6
              go_wp2_with fail
              refine (of_any H6H.out XA.out).mono ?_
              rintro e w' ⟨rfl, rfl⟩
              go_wp2_with fail
              have q5 := full_c5 H6H.out
              obtain ⟨i0, hi0, _, hz1, _⟩ := info_parts info3
              have hcap : list.length ≤ cp vl := by
                have ho := w0_owns H6H.out G7H.out l
                rw [VL7.out, WTH.out] at ho
                rcases ho.2 with ⟨h, h0⟩ | ⟨g, cap, cur, h, _, _, h1, _⟩
                · omega
                · rw [h]; exact h1
              obtain ⟨a', hcut, ha'⟩ := run_cut2 (P := Tryz.prog) 23 3 Tryz.underlying23 hi0 hz1 (gb vl) list.length (cp vl) (i + 1) (by omega) hcap
              have hys : ∀ j u, (nats (list.drop (i + 1)))[j]? = some u → w6.drew.cell? (a'.add j) = some u := by
                intro j u hu
                have hj : j < list.length - (i + 1) := by
                  have := (List.getElem?_eq_some_iff.1 hu).1
                  rw [nats_length, List.length_drop] at this
                  exact this
                have hae := ha' (by omega)
                have := w0_elem H6H.out G7H.out l (i := i + 1 + j) (by rw [WTH.out]; omega)
                rw [VL7.out, WTH.out] at this
                rw [hae]
                rw [addr_add]
                show w6.cell? _ = _
                rw [this, ← hu, drop_at _ (by omega)]
              have HC : Hid _ := hcut
              have YS : Hid _ := hys
              have HA6 : Hid _ := H6H.out.drew
              have hlen3 : (nats (list.drop (i + 1))).length = list.length - (i + 1) := by rw [nats_length, List.length_drop]
              have LL3 : Hid _ := hlen3
              clear hi0 hz1 ha' hys hlen3 b6 b7 b0
              have hcut1 : ∀ W : World, (Instr.slice 23 (.slice (some ⟨gb vl, 0, none⟩) list.length (cp vl)) (some (.int .i64 ((i : Int) + 1))) none none).run Tryz.prog W = .ok (.slice (some a') (list.length - (i + 1)) (cp vl - (i + 1))) W := HC.out
              have hwr : IntKind.i64.wrap ((i : Int) + 1) = (i : Int) + 1 := IntWalk.i64_in _ (by omega)
              have i1' : (0 : Int) ≤ (i : Int) + 1 := by omega
              have i2' : (i : Int) + 1 ≤ (list.length : Int) := by omega
              go_region_held3 (fun w' => w'.cell? ⟨p, 5, none⟩ = some (.map (some μ7.mb)))
                (first | go_keep | exact k5')
                ((refine step_many HA6.out (.loc 1) (by rfl) _ _ 23 3 (.int .i64 0) 8 (by rfl) Tryz.underlying23 info3 rfl (by decide) (stay.length + 1) (nats (list.drop (i + 1))) (setLoc_same 1 _) (by rw [nats_length, List.length_append]; rfl) (by rfl) a' (list.length - (i + 1)) _ (by rfl) LL3.out YS.out (nats_one _) (full_base HA6.out) (by omega) ?_; intro A8 c8 x8 H8 B8; rw [upd_loc, setLoc_setLoc, cat_nats] at H8; obtain ⟨w9, hrun, hm9, hg9⟩ := upd_run (full_map H8) l (.slice A8 (stay.length + 1 + (list.length - (i + 1))) c8); have k5' := full_c5 H8; have D9 := stay_done G7H.out H8 hm9 hg9 L1.out; have k5'' : w9.cell? ⟨p, 5, none⟩ = some (.map (some μ7.mb)) := (by have := full_c5 D9.1; exact this); have D9H : Hid _ := D9; have B9H : Hid _ := (BH6.out.drew).trans (B8.trans D9.2.2); clear D9 B8 H8))
              go_wp2_with fail
              go_ret
              have hRR := RRH.out
              injection hRR with hRa hRb
              rcases NX.out with ⟨h1, _⟩ | ⟨h1, h2⟩
              · omega
              · injection h2 with h3 h4
                refine ⟨by rw [h4, hRb]; rfl, ?_⟩
                rw [h3, hRa]
                exact ⟨_, D9H.out.1, D9H.out.2.1, B9H.out⟩
            · have DH : Hid _ := hm
              have PH : Hid _ := hφ
              have NH : Hid _ := hn
              clear hm hφ hn
              have hx1 : ¬ 0 < x := by omega
              have hx2 : ¬ x < 0 := by omega
              have hx3 : (x == 0) = true := by simp [hx0]
              go_wp2_with fail
              refine (of_any H5H.out XA.out).mono ?_
              rintro e w' ⟨rfl, rfl⟩
              have M := moves_any H5H.out G5H.out VC.out hkt (by rw [LNH.out]; exact hk2) (by rw [LNH.out]; exact hk6) DH.out
              rw [LNH.out] at M
              have MM : Hid _ := M
              clear M
              go_wp2_with fail
              refine Calls.mono MM.out ?_
              rintro e w7 ⟨rfl, μ7, H7, G7, B7, hvc7, hw7⟩
              have VC7 : Hid _ := hvc7
              have VL7 : Hid (μ7.w0 l = vl) := by rw [hw7 l rfl]; exact VL.out
              have H7H : Hid _ := H7
              have G7H : Hid _ := G7
              have B7H : Hid _ := B5H.out.trans B7
              have R7H : Hid (full p fuel (σa.turned l k) μ7 (setLoc loc 1 (.row vs 3 (nats stay))) (.cls k) = .row v5 3 (ints ((σa.turned l k).clause k))) := by
                obtain ⟨v8, hv8, hrow8⟩ := cls_row (p := p) (fuel := fuel) (loc := setLoc loc 1 (.row vs 3 (nats stay))) G7 hkt
                obtain rfl : v8 = v5 := by
                  rw [hvc7] at hv8
                  have := VC.out; rw [this] at hv8; injection hv8 with h; exact h.symm
                exact hrow8
              clear H7 G7 B7 hvc7 hw7
              have b7 := H7H.out.elem R7H.out (ints_at _ (i := 0) (by rw [LNH.out]; omega))
              rw [EA.out] at b7
              have LS : Hid _ := H7H.out.alloc (.cells #[.int .i64 (k : Int)] 3)
              have hsl2 : stay.length < 60000 := by omega
              go_wp2_with (at_builtin; refine law_pushAt LS.out (.loc 1) rfl (.tmp 85) (.tmp 87) 23 3 (.int .i64 0) 8 rfl Tryz.underlying23 info3 rfl (by decide) stay.length (.int .i64 (k : Int)) (setLoc_same 1 _) (nats_length _) rfl w7.heap.size rfl ?hy rfl ?hb ?hl ?_)
              try (case hy => first | exact cell_new _ _ _ _ (by simp) | exact cell_new_drew _ _ _ _ (by simp))
              case hb => first | exact full_base LS.out | simpa using full_base LS.out
              case hl => omega
              intro A c w6 H6 B6 _
              rw [nats_snoc, upd_loc, setLoc_setLoc] at H6
              have BH6 : Hid _ := (B7H.out.alloc (full_base H7H.out) (.cells #[.int .i64 (k : Int)] 3)).trans B6
              have b6 := H6.elem (k := .cls k) R7H.out (ints_at _ (i := 0) (by rw [LNH.out]; omega))
              rw [EA.out] at b6
              have H6H : Hid _ := H6
              clear H6 B6
              go_wp2_with fail
              refine (of_any H6H.out XA.out).mono ?_
              rintro e w' ⟨rfl, rfl⟩
              go_wp2_with fail
              refine (of_any H6H.out XA.out).mono ?_
              rintro e w' ⟨rfl, rfl⟩
              have hPH := PH.out
              rw [EA.out] at hPH
              have S6 : Hid _ := set_any H6H.out G7H.out hPH
              clear hPH
              go_wp2_with fail
              refine Calls.mono S6.out ?_
              rintro e w8 ⟨rfl, hPK⟩
              have PK : Hid _ := hPK
              clear hPK
              go_wp2_with fail
              go_roundg (gk - 1)
              case measure => have := GK.out; omega
              case rel =>
                obtain ⟨μ8, H8, G8, B8, hvc8, hw8⟩ := PK.out
                have hwφ : φ.watch l = (σa.turned l k).watch l := by
                  have := (setO_eq PH.out).2.2.2.2.2.2.2
                  rw [this]; rfl
                exact ⟨i + 1, φ, μ8, stay ++ [k], .slice A (stay.length + 1) c, by go_num, by simp [ad, cp], by have := GK.out; omega, H8, G8, BH6.out.trans B8, NH.out, by rw [hwφ]; exact WTH.out, by rw [hw8 l hwφ]; exact VL7.out⟩
          · have g1 : (at0 (σa.clause k) 0 == l) = false := by simp [hsw]
            have ET : σa.turned l k = σa := by unfold S.turned; rw [if_neg hsw]
            have ETH : Hid _ := ET
            clear ET
            go_wp2_with fail
            have H5 : Holds base wr (full p fuel (σa.turned l k) μa (setLoc loc 1 (.row vs 3 (nats stay)))) := by rw [ETH.out]; exact HH.out
            have B5 : Below base w wr := BB.out
            have G5 : Good (σa.turned l k) μa := by rw [ETH.out]; exact GG.out
            have hwt : (σa.turned l k).watch l = list := by rw [ETH.out]; exact WL.out
            have hkt : k < (σa.turned l k).clauses.length := by rw [ETH.out]; exact hkc
            have hlen : ((σa.turned l k).clause k).length = (σa.clause k).length := by rw [ETH.out]
            generalize wr = w5 at *
            have hEA : at0 ((σa.turned l k).clause k) 0 = at0 (σa.clause k) 0 := by rw [ETH.out]
            generalize at0 (σa.clause k) 0 = a at *
            clear g1 hsw a0 a1 f0 f1 d4 e4 ei
            have H5H : Hid _ := H5
            have G5H : Hid _ := G5
            have B5H : Hid _ := B5
            have WTH : Hid _ := hwt
            have LNH : Hid _ := hlen
            clear H5 G5 B5 hwt hlen
            obtain ⟨v5, hv5, hrow5⟩ := cls_row (p := p) (fuel := fuel) (loc := setLoc loc 1 (.row vs 3 (nats stay))) G5H.out hkt
            obtain rfl : v5 = vc := by have := VC.out; rw [this] at hv5; injection hv5 with h; exact h.symm
            have R5H : Hid _ := hrow5
            clear hrow5 hv5
            have b0 := H5H.out.elem R5H.out (ints_at _ (i := 0) (by rw [LNH.out]; omega))
            rw [hEA] at b0
            have XA : Hid ((σa.turned l k).ofO a = some x) := by have := XX.out; rwa [hEA] at this
            have EA : Hid _ := hEA
            clear hEA
            rcases AL.out with ⟨hx0, hn⟩ | ⟨hx0, υ, hm, hwυ, hn⟩ | ⟨hx0, hm, hRR⟩ | ⟨hx0, hm, φ, hφ, hn⟩
            · have NH : Hid _ := hn
              have hx1 : ¬ x < 0 := by omega
              have hx2 : (x == 0) = false := by simp; omega
              clear hn
              go_wp2_with fail
              refine (of_any H5H.out XA.out).mono ?_
              rintro e w' ⟨rfl, rfl⟩
              have LS : Hid _ := H5H.out.alloc (.cells #[.int .i64 (k : Int)] 3)
              have hsl2 : stay.length < 60000 := by omega
              go_wp2_with (at_builtin; refine law_pushAt LS.out (.loc 1) rfl (.tmp 85) (.tmp 87) 23 3 (.int .i64 0) 8 rfl Tryz.underlying23 info3 rfl (by decide) stay.length (.int .i64 (k : Int)) (setLoc_same 1 _) (nats_length _) rfl w5.heap.size rfl ?hy rfl ?hb ?hl ?_)
              try (case hy => first | exact cell_new _ _ _ _ (by simp) | exact cell_new_drew _ _ _ _ (by simp))
              case hb => first | exact full_base LS.out | simpa using full_base LS.out
              case hl => omega
              intro A c w6 H6 B6 _
              rw [nats_snoc, upd_loc, setLoc_setLoc] at H6
              have BH6 : Hid _ := (B5H.out.alloc (full_base H5H.out) (.cells #[.int .i64 (k : Int)] 3)).trans B6
              have b6 := H6.elem (k := .cls k) R5H.out (ints_at _ (i := 0) (by rw [LNH.out]; omega))
              rw [EA.out] at b6
              have H6H : Hid _ := H6
              clear H6 B6
              go_wp2_with fail
              refine (of_any H6H.out XA.out).mono ?_
              rintro e w' ⟨rfl, rfl⟩
              go_wp2_with fail
              refine (of_any H6H.out XA.out).mono ?_
              rintro e w' ⟨rfl, rfl⟩
              go_wp2_with fail
              go_roundg (gk - 1)
              case measure => have := GK.out; omega
              case rel => exact ⟨i + 1, σa.turned l k, μa, stay ++ [k], .slice A (stay.length + 1) c, by go_num, by simp [ad, cp], by have := GK.out; omega, H6H.out, G5H.out, BH6.out, NH.out, WTH.out, VL.out⟩
            · have NH : Hid _ := hn
              have MH : Hid _ := hm
              have WU : Hid _ := hwυ
              clear hn hm hwυ
              have hx1 : ¬ 0 < x := by omega
              go_wp2_with fail
              refine (of_any H5H.out XA.out).mono ?_
              rintro e w' ⟨rfl, rfl⟩
              have M := moves_any H5H.out G5H.out VC.out hkt (by rw [LNH.out]; exact hk2) (by rw [LNH.out]; exact hk6) MH.out
              rw [LNH.out] at M
              have MM : Hid _ := M
              clear M
              go_wp2_with fail
              refine Calls.mono MM.out ?_
              rintro e w6 ⟨rfl, hPK⟩
              have PK : Hid _ := hPK
              clear hPK
              go_wp2_with fail
              go_roundg (gk - 1)
              case measure => have := GK.out; omega
              case rel =>
                obtain ⟨μ6, H6, G6, B6, hvc6, hw6⟩ := PK.out
                exact ⟨i + 1, υ, μ6, stay, vs, by go_num, rfl, by have := GK.out; omega, H6, G6, B5H.out.trans B6, NH.out, by rw [WU.out]; exact WTH.out, by rw [hw6 l WU.out]; exact VL.out⟩
            · have MH : Hid _ := hm
              have RRH : Hid _ := hRR
              clear hm hRR
              have hx1 : ¬ 0 < x := by omega
              go_wp2_with fail
              refine (of_any H5H.out XA.out).mono ?_
              rintro e w' ⟨rfl, rfl⟩
              have M := moves_any H5H.out G5H.out VC.out hkt (by rw [LNH.out]; exact hk2) (by rw [LNH.out]; exact hk6) MH.out
              rw [LNH.out] at M
              have MM : Hid _ := M
              clear M
              go_wp2_with fail
              refine Calls.mono MM.out ?_
              rintro e w7 ⟨rfl, μ7, H7, G7, B7, hvc7, hw7⟩
              have VC7 : Hid _ := hvc7
              have VL7 : Hid (μ7.w0 l = vl) := by rw [hw7 l rfl]; exact VL.out
              have H7H : Hid _ := H7
              have G7H : Hid _ := G7
              have B7H : Hid _ := B5H.out.trans B7
              have R7H : Hid (full p fuel (σa.turned l k) μ7 (setLoc loc 1 (.row vs 3 (nats stay))) (.cls k) = .row v5 3 (ints ((σa.turned l k).clause k))) := by
                obtain ⟨v8, hv8, hrow8⟩ := cls_row (p := p) (fuel := fuel) (loc := setLoc loc 1 (.row vs 3 (nats stay))) G7 hkt
                obtain rfl : v8 = v5 := by
                  rw [hvc7] at hv8
                  have := VC.out; rw [this] at hv8; injection hv8 with h; exact h.symm
                exact hrow8
              clear H7 G7 B7 hvc7 hw7
              have b7 := H7H.out.elem R7H.out (ints_at _ (i := 0) (by rw [LNH.out]; omega))
              rw [EA.out] at b7
              have LS : Hid _ := H7H.out.alloc (.cells #[.int .i64 (k : Int)] 3)
              have hsl2 : stay.length < 60000 := by omega
              go_wp2_with (at_builtin; refine law_pushAt LS.out (.loc 1) rfl (.tmp 85) (.tmp 87) 23 3 (.int .i64 0) 8 rfl Tryz.underlying23 info3 rfl (by decide) stay.length (.int .i64 (k : Int)) (setLoc_same 1 _) (nats_length _) rfl w7.heap.size rfl ?hy rfl ?hb ?hl ?_)
              try (case hy => first | exact cell_new _ _ _ _ (by simp) | exact cell_new_drew _ _ _ _ (by simp))
              case hb => first | exact full_base LS.out | simpa using full_base LS.out
              case hl => omega
              intro A c w6 H6 B6 _
              rw [nats_snoc, upd_loc, setLoc_setLoc] at H6
              have BH6 : Hid _ := (B7H.out.alloc (full_base H7H.out) (.cells #[.int .i64 (k : Int)] 3)).trans B6
              have b6 := H6.elem (k := .cls k) R7H.out (ints_at _ (i := 0) (by rw [LNH.out]; omega))
              rw [EA.out] at b6
              have H6H : Hid _ := H6
              clear H6 B6
              go_wp2_with fail
              refine (of_any H6H.out XA.out).mono ?_
              rintro e w' ⟨rfl, rfl⟩
              go_wp2_with fail
              have q5 := full_c5 H6H.out
              obtain ⟨i0, hi0, _, hz1, _⟩ := info_parts info3
              have hcap : list.length ≤ cp vl := by
                have ho := w0_owns H6H.out G7H.out l
                rw [VL7.out, WTH.out] at ho
                rcases ho.2 with ⟨h, h0⟩ | ⟨g, cap, cur, h, _, _, h1, _⟩
                · omega
                · rw [h]; exact h1
              obtain ⟨a', hcut, ha'⟩ := run_cut2 (P := Tryz.prog) 23 3 Tryz.underlying23 hi0 hz1 (gb vl) list.length (cp vl) (i + 1) (by omega) hcap
              have hys : ∀ j u, (nats (list.drop (i + 1)))[j]? = some u → w6.drew.cell? (a'.add j) = some u := by
                intro j u hu
                have hj : j < list.length - (i + 1) := by
                  have := (List.getElem?_eq_some_iff.1 hu).1
                  rw [nats_length, List.length_drop] at this
                  exact this
                have hae := ha' (by omega)
                have := w0_elem H6H.out G7H.out l (i := i + 1 + j) (by rw [WTH.out]; omega)
                rw [VL7.out, WTH.out] at this
                rw [hae]
                rw [addr_add]
                show w6.cell? _ = _
                rw [this, ← hu, drop_at _ (by omega)]
              have HC : Hid _ := hcut
              have YS : Hid _ := hys
              have HA6 : Hid _ := H6H.out.drew
              have hlen3 : (nats (list.drop (i + 1))).length = list.length - (i + 1) := by rw [nats_length, List.length_drop]
              have LL3 : Hid _ := hlen3
              clear hi0 hz1 ha' hys hlen3 b6 b7 b0
              have hcut1 : ∀ W : World, (Instr.slice 23 (.slice (some ⟨gb vl, 0, none⟩) list.length (cp vl)) (some (.int .i64 ((i : Int) + 1))) none none).run Tryz.prog W = .ok (.slice (some a') (list.length - (i + 1)) (cp vl - (i + 1))) W := HC.out
              have hwr : IntKind.i64.wrap ((i : Int) + 1) = (i : Int) + 1 := IntWalk.i64_in _ (by omega)
              have i1' : (0 : Int) ≤ (i : Int) + 1 := by omega
              have i2' : (i : Int) + 1 ≤ (list.length : Int) := by omega
              go_region_held3 (fun w' => w'.cell? ⟨p, 5, none⟩ = some (.map (some μ7.mb)))
                (first | go_keep | exact k5')
                ((refine step_many HA6.out (.loc 1) (by rfl) _ _ 23 3 (.int .i64 0) 8 (by rfl) Tryz.underlying23 info3 rfl (by decide) (stay.length + 1) (nats (list.drop (i + 1))) (setLoc_same 1 _) (by rw [nats_length, List.length_append]; rfl) (by rfl) a' (list.length - (i + 1)) _ (by rfl) LL3.out YS.out (nats_one _) (full_base HA6.out) (by omega) ?_; intro A8 c8 x8 H8 B8; rw [upd_loc, setLoc_setLoc, cat_nats] at H8; obtain ⟨w9, hrun, hm9, hg9⟩ := upd_run (full_map H8) l (.slice A8 (stay.length + 1 + (list.length - (i + 1))) c8); have k5' := full_c5 H8; have D9 := stay_done G7H.out H8 hm9 hg9 L1.out; have k5'' : w9.cell? ⟨p, 5, none⟩ = some (.map (some μ7.mb)) := (by have := full_c5 D9.1; exact this); have D9H : Hid _ := D9; have B9H : Hid _ := (BH6.out.drew).trans (B8.trans D9.2.2); clear D9 B8 H8))
              go_wp2_with fail
              go_ret
              have hRR := RRH.out
              injection hRR with hRa hRb
              rcases NX.out with ⟨h1, _⟩ | ⟨h1, h2⟩
              · omega
              · injection h2 with h3 h4
                refine ⟨by rw [h4, hRb]; rfl, ?_⟩
                rw [h3, hRa]
                exact ⟨_, D9H.out.1, D9H.out.2.1, B9H.out⟩
            · have DH : Hid _ := hm
              have PH : Hid _ := hφ
              have NH : Hid _ := hn
              clear hm hφ hn
              have hx1 : ¬ 0 < x := by omega
              have hx2 : ¬ x < 0 := by omega
              have hx3 : (x == 0) = true := by simp [hx0]
              go_wp2_with fail
              refine (of_any H5H.out XA.out).mono ?_
              rintro e w' ⟨rfl, rfl⟩
              have M := moves_any H5H.out G5H.out VC.out hkt (by rw [LNH.out]; exact hk2) (by rw [LNH.out]; exact hk6) DH.out
              rw [LNH.out] at M
              have MM : Hid _ := M
              clear M
              go_wp2_with fail
              refine Calls.mono MM.out ?_
              rintro e w7 ⟨rfl, μ7, H7, G7, B7, hvc7, hw7⟩
              have VC7 : Hid _ := hvc7
              have VL7 : Hid (μ7.w0 l = vl) := by rw [hw7 l rfl]; exact VL.out
              have H7H : Hid _ := H7
              have G7H : Hid _ := G7
              have B7H : Hid _ := B5H.out.trans B7
              have R7H : Hid (full p fuel (σa.turned l k) μ7 (setLoc loc 1 (.row vs 3 (nats stay))) (.cls k) = .row v5 3 (ints ((σa.turned l k).clause k))) := by
                obtain ⟨v8, hv8, hrow8⟩ := cls_row (p := p) (fuel := fuel) (loc := setLoc loc 1 (.row vs 3 (nats stay))) G7 hkt
                obtain rfl : v8 = v5 := by
                  rw [hvc7] at hv8
                  have := VC.out; rw [this] at hv8; injection hv8 with h; exact h.symm
                exact hrow8
              clear H7 G7 B7 hvc7 hw7
              have b7 := H7H.out.elem R7H.out (ints_at _ (i := 0) (by rw [LNH.out]; omega))
              rw [EA.out] at b7
              have LS : Hid _ := H7H.out.alloc (.cells #[.int .i64 (k : Int)] 3)
              have hsl2 : stay.length < 60000 := by omega
              go_wp2_with (at_builtin; refine law_pushAt LS.out (.loc 1) rfl (.tmp 85) (.tmp 87) 23 3 (.int .i64 0) 8 rfl Tryz.underlying23 info3 rfl (by decide) stay.length (.int .i64 (k : Int)) (setLoc_same 1 _) (nats_length _) rfl w7.heap.size rfl ?hy rfl ?hb ?hl ?_)
              try (case hy => first | exact cell_new _ _ _ _ (by simp) | exact cell_new_drew _ _ _ _ (by simp))
              case hb => first | exact full_base LS.out | simpa using full_base LS.out
              case hl => omega
              intro A c w6 H6 B6 _
              rw [nats_snoc, upd_loc, setLoc_setLoc] at H6
              have BH6 : Hid _ := (B7H.out.alloc (full_base H7H.out) (.cells #[.int .i64 (k : Int)] 3)).trans B6
              have b6 := H6.elem (k := .cls k) R7H.out (ints_at _ (i := 0) (by rw [LNH.out]; omega))
              rw [EA.out] at b6
              have H6H : Hid _ := H6
              clear H6 B6
              go_wp2_with fail
              refine (of_any H6H.out XA.out).mono ?_
              rintro e w' ⟨rfl, rfl⟩
              go_wp2_with fail
              refine (of_any H6H.out XA.out).mono ?_
              rintro e w' ⟨rfl, rfl⟩
              have hPH := PH.out
              rw [EA.out] at hPH
              have S6 : Hid _ := set_any H6H.out G7H.out hPH
              clear hPH
              go_wp2_with fail
              refine Calls.mono S6.out ?_
              rintro e w8 ⟨rfl, hPK⟩
              have PK : Hid _ := hPK
              clear hPK
              go_wp2_with fail
              go_roundg (gk - 1)
              case measure => have := GK.out; omega
              case rel =>
                obtain ⟨μ8, H8, G8, B8, hvc8, hw8⟩ := PK.out
                have hwφ : φ.watch l = (σa.turned l k).watch l := by
                  have := (setO_eq PH.out).2.2.2.2.2.2.2
                  rw [this]; rfl
                exact ⟨i + 1, φ, μ8, stay ++ [k], .slice A (stay.length + 1) c, by go_num, by simp [ad, cp], by have := GK.out; omega, H8, G8, BH6.out.trans B8, NH.out, by rw [hwφ]; exact WTH.out, by rw [hw8 l hwφ]; exact VL7.out⟩
        · have ENDC : list.drop i = [] := List.drop_eq_nil_of_le (by omega)
          rw [ENDC, S.roundO] at hR
          injection hR with hR
          injection hR with hRa hRb
          have q5 := full_c5 H
          have hvs : vs = .slice (ad vs) stay.length (cp vs) := by have := H.sl (k := .loc 1) (setLoc_same 1 _); rwa [nats_length] at this
          have H2 : Holds base wr (full p fuel σa μa (setLoc loc 1 (.row (.slice (ad vs) stay.length (cp vs)) 3 (nats stay)))) := by rw [← hvs]; exact H
          obtain ⟨w9, hrun, hm9, hg9⟩ := upd_run (full_map H2) l (.slice (ad vs) stay.length (cp vs))
          have D9 := stay_done G H2 hm9 hg9 L1.out
          have D9H : Hid _ := D9
          have BB : Hid _ := B
          have RA : Hid _ := hRa
          have RB : Hid _ := hRb
          have hge : list.length ≤ i := by omega
          clear D9 B H H2 G hvs hm9 hg9 hRa hRb ENDC hwl hvl hlt
          go_wp2_with fail
          go_roundg m
          case measure => omega
          case rel =>
            rcases NX.out with ⟨h1, h2⟩ | ⟨h1, _⟩
            · rw [← RA.out] at h2
              exact ⟨_, _, D9H.out.1, D9H.out.2.1, BB.out.trans D9H.out.2.2, h2⟩
            · exact absurd RB.out.symm h1
end Go.Proofs.YtdllaphnkbnpoaaGreat
