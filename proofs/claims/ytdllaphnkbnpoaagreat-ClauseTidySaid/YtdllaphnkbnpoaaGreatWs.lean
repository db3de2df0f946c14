/- Walks over package clause: run. -/
import Derived.Test.YtdllaphnkbnpoaaGreatWr
import Derived.Test.YtdllaphnkbnpoaaGreatPg
import Derived.Laws.Rows
import Derived.Laws.ResultCell
namespace Go.Proofs.YtdllaphnkbnpoaaGreat
open Go.RowKit Go.Proofs

def truesOf (σ : S) (D : List (List Int)) : List Int := (varsOf D).map fun v => if σ.isTrue v.natAbs = true then v else -v

def AllRel (base p fuel : Nat) (D : List (List Int)) (σ : S) (w : World) (k : Nat) (x18 : Value) (wr : World) : Prop :=
  ∃ (i : Nat) (σ1 : S) (μ : Vals), x18 = .int .i64 (i : Int) ∧ k + i = D.length ∧ Holds base wr (full p fuel σ1 μ (fun _ => .non)) ∧ Good σ1 μ ∧ Below base w wr ∧ S.addAll (D.drop i) σ1 = some σ

/-- One block of cells. -/
def one (g : Nat) (cs : List Value) (t : TypeId) : Key → Res := fun k => if k = .st then .cells g cs t else .non
theorem upd_one (g : Nat) (cs cs' : List Value) (t : TypeId) : upd (one g cs t) .st (.cells g cs' t) = one g cs' t := by
  funext k; unfold upd one; split <;> rfl
theorem one_holds {w : World} {g : Nat} {cs : List Value} {t : TypeId} (h : w.heap[g]? = some (.cells cs.toArray t (0, 0))) : Holds g w (one g cs t) := by
  refine ⟨fun k => ?_, fun k k' b h1 h2 => ?_, fun k b h1 => ?_⟩
  · unfold one; split
    · exact h
    · trivial
  · unfold one at h1 h2
    split at h1
    · split at h2
      · rename_i a b; rw [a, b]
      · cases h2
    · cases h1
  · unfold one at h1
    split at h1
    · have : g = b := by simpa [Res.blk] using h1
      omega
    · cases h1
theorem one_set {w : World} {g : Nat} {cs : List Value} {t : TypeId} (H : Holds g w (one g cs t)) (i : Nat) (u : Value) : Holds g (w.setCell ⟨g, i, none⟩ u) (one g (cs.set i u) t) := by
  have := H.setCell (k := .st) (b := g) rfl i u (Nat.le_of_lt (H.lt .st rfl).2)
  rwa [upd_one] at this
set_option maxRecDepth 100000 in
theorem results_run {W : World} {g : Nat} {cs : List Value} (H : Holds g W (one g cs 39)) (hl : cs.length = 4) (tmps : Array Value) {e : Value} (h4 : tmps.getD 4 undef = .pointer (some ⟨g, 0, none⟩)) (h5 : tmps.getD 5 undef = e) :
    (results Tryz.f48 tmps).run Tryz.prog W = .ok (.tuple #[.agg cs.toArray, e]) W := by
  have hg : W.heap[g]? = some (.cells cs.toArray 39 (0, 0)) := H.holds .st
  have hi : (Tryz.prog.info? 39).map (·.size) = some 4 := by kernel_rfl
  have ha : (asAddr (tmps.getD 4 undef)).run Tryz.prog W = .ok ⟨g, 0, none⟩ W := by rw [h4]; rfl
  rw [results_cell_tmp (p := 4) (u := 5) (ty := 39) rfl, h5, ha]
  show ((loadVar 39 ⟨g, 0, none⟩).run Tryz.prog W).andThen _ = _
  rw [run_loadVar_row W g 39 39 cs.toArray (0, 0) _ hg Tryz.underlying39 rfl (by rw [List.size_toArray, hl]; exact hi)]
  rfl
theorem Holds.other {base : Nat} {w w' : World} {L : Key → Res} (H : Holds base w L) (hb : ∀ b, base ≤ b → b < w.heap.size → w'.heap[b]? = w.heap[b]?) : Holds base w' L :=
  ⟨fun k => Res.kept (H.holds k) (fun b h => hb b (H.base k b h) (H.lt k h).2), H.disj, H.base⟩
theorem Holds.low {base : Nat} {w : World} {L : Key → Res} (H : Holds base w L) {g : Nat} (hg : g < base) (i : Nat) (u : Value) : Holds base (w.setCell ⟨g, i, none⟩ u) L :=
  H.other (fun b hb _ => Below.heap_setCell w ⟨g, i, none⟩ u b (by show b ≠ g; omega))
theorem row_lies {base : Nat} {w : World} {L : Key → Res} (H : Holds base w L) {k : Key} {v : Value} {xs : List Int} (hk : L k = .row v 3 (ints xs)) : Lies w.heap.size w (ad v) xs := by
  rcases Nat.eq_zero_or_pos xs.length with h0 | hp
  · exact .inl (List.eq_nil_of_length_eq_zero h0)
  · right
    have hp' : 0 < (ints xs).length := by rw [ints_length]; exact hp
    refine ⟨gb v, 0, H.ad_ hk hp', (H.lt k (H.gb_ hk hp')).2, fun j hj => ?_⟩
    rw [Nat.zero_add]
    exact H.elem hk (ints_at xs hj)
theorem log_lies {base p fuel : Nat} {w : World} {σ : S} {μ : Vals} {loc : Nat → Res} (H : Holds base w (full p fuel σ μ loc)) (G : Good σ μ) : LiesR w.heap.size w (ad μ.log) σ.log := by
  rcases Nat.eq_zero_or_pos σ.log.length with h0 | hp
  · exact .inl (List.eq_nil_of_length_eq_zero h0)
  · right
    have hv := G.vlogs
    have hp' : 0 < μ.vlogs.length := by omega
    have hk : full p fuel σ μ loc (.fld 2) = .row μ.log 23 μ.vlogs := rfl
    refine ⟨gb μ.log, 0, H.ad_ hk hp', (H.lt (.fld 2) (H.gb_ hk hp')).2, fun i hi => ?_⟩
    rw [Nat.zero_add]
    obtain ⟨v, hvi⟩ : ∃ v, μ.vlogs[i]? = some v := ⟨_, List.getElem?_eq_getElem (by omega)⟩
    have hri : full p fuel σ μ loc (.log i) = .row v 3 (ints (σ.log.getD i [])) := by
      show rowAt μ.vlogs 3 σ.log i = _
      unfold rowAt
      rw [hvi, List.getElem?_eq_getElem hi]
      simp [hi]
    have sl := H.sl hri
    rw [ints_length] at sl
    refine ⟨ad v, cp v, ?_, ?_, row_lies H hri⟩
    · rw [H.elem hk hvi]; exact congrArg some sl
    · have := H.cap hri; rwa [ints_length] at this
theorem mem_compact {zs : List Int} {x : Int} (h : x ∈ Lib.compact zs) : x ∈ zs := by
  unfold Lib.compact Lib.compactUpTo at h
  obtain ⟨i, hi, rfl⟩ := List.mem_map.1 h
  have hi' : i < zs.length := List.mem_range.1 (List.mem_filter.1 hi).1
  simp [getElem!_pos, hi']
theorem mem_varsOf {D : List (List Int)} {x : Int} (h : x ∈ varsOf D) : ∃ e ∈ D, ∃ y ∈ e, x = (y.natAbs : Int) := by
  have := (List.mergeSort_perm (absAll D) fun x y => decide (x ≤ y)).mem_iff.1 (mem_compact h)
  unfold absAll at this
  obtain ⟨e, he, hx⟩ := List.mem_flatMap.1 this
  obtain ⟨y, hy, rfl⟩ := List.mem_map.1 hx
  exact ⟨e, he, y, hy, rfl⟩
theorem varsOf_len (D : List (List Int)) : (varsOf D).length ≤ (absAll D).length := by
  have := Go.Lib.compact_length_le ((absAll D).mergeSort fun x y => decide (x ≤ y))
  rwa [List.length_mergeSort] at this

def env3 (g : Nat) (cs : List Value) (vT : Value) (acc : List Int) (v : Value) (vars : List Int) : Key → Res := fun k =>
  if k = .st then .cells g cs 39 else if k = .loc 0 then .row vT 3 (ints acc) else if k = .loc 1 then .row v 3 (ints vars) else .non
theorem env3_st (g : Nat) (cs cs' : List Value) (vT : Value) (acc : List Int) (v : Value) (vars : List Int) : upd (env3 g cs vT acc v vars) .st (.cells g cs' 39) = env3 g cs' vT acc v vars := by
  funext k; unfold upd env3; split <;> rfl
theorem env3_row (g : Nat) (cs : List Value) (vT vT' : Value) (acc acc' : List Int) (v : Value) (vars : List Int) : upd (env3 g cs vT acc v vars) (.loc 0) (.row vT' 3 (ints acc')) = env3 g cs vT' acc' v vars := by
  funext k; unfold upd env3
  by_cases h : k = .loc 0
  · subst h; simp
  · simp [h]
theorem own_up {w : World} {e : TypeId} {n B : Nat} {v : Value} {xs : List Value} (h : w.ownsRow 0 e 1 v n xs) (hb : ∀ b, v.ownBlock = some b → B ≤ b) : w.ownsRow B e 1 v n xs := by
  obtain ⟨h1, h2⟩ := h
  refine ⟨h1, ?_⟩
  rcases h2 with h2 | ⟨g, cap, cur, rfl, hg, hh, r⟩
  · exact .inl h2
  · exact .inr ⟨g, cap, cur, rfl, hb g (by simp [Value.ownBlock]), hh, r⟩
theorem env3_start {w w' : World} {g : Nat} {cs : List Value} {v : Value} {vars : List Int} (H : Holds g w (one g cs 39)) (hg : g ≤ w.heap.size) (B : Below w.heap.size w w') (Hv : Holds w.heap.size w' (locs (.row v 3 (ints vars)))) :
    Holds g w' (env3 g cs (.slice none 0 0) [] v vars) := by
  have ho : w'.ownsRow 0 3 1 v (ints vars).length (ints vars) := Hv.owns (k := .loc 0) rfl
  have h1 := H.laid (.loc 1) (own_up ho (fun b hb => Hv.base (.loc 0) b hb)) rfl B hg
  have h2 := nil_put h1 (Nat.le_trans hg B.size) (.loc 0) 3
  refine holds_eq h2 ?_
  funext k; unfold upd env3 one
  by_cases h0 : k = .loc 0
  · subst h0; simp [ints]
  · by_cases h3 : k = .loc 1
    · subst h3; simp
    · simp [h0, h3]

def TrueRel (g : Nat) (st : Int) (σ : S) (D : List (List Int)) (v : Value) (w : World) (k : Nat) (x57 : Value) (wr : World) : Prop :=
  ∃ (i : Nat) (acc : List Int) (vT : Value), x57 = .int .i64 (i : Int) ∧ k + i = (varsOf D).length ∧ vT = .slice (ad vT) acc.length (cp vT) ∧
    Holds g wr (env3 g [.bool true, vT, .slice none 0 0, .int .i64 st] vT acc v (varsOf D)) ∧ Below g w wr ∧ acc ++ ((varsOf D).drop i).map (fun v => if σ.isTrue v.natAbs = true then v else -v) = truesOf σ D ∧ acc.length = i
theorem max_cast (n : Nat) : max (1 : Int) (n : Int) = ((max 1 n : Nat) : Int) := by omega

theorem Holds.down {base base' : Nat} {w : World} {L : Key → Res} (H : Holds base w L) (hb : base' ≤ base) : Holds base' w L :=
  ⟨H.holds, H.disj, fun k b h => Nat.le_trans hb (H.base k b h)⟩

/-- What run and Solve answer. -/
def RunPost (fuel : Nat) (σ' : S) (r : Int) (D : List (List Int)) (w : World) (e : Ending) (w' : World) : Prop :=
  Below w.heap.size w w' ∧
  (((r = 2 ∨ fuel < max 1 σ'.steps) ∧ e = .returned (.tuple #[.agg #[.bool false, .slice none 0 0, .slice none 0 0, .int .i64 0], .int .i64 14])) ∨
   (r = 0 ∧ max 1 σ'.steps ≤ fuel ∧ ∃ p μ, e = .returned (.tuple #[.agg #[.bool false, .slice none 0 0, .slice (ad μ.log) σ'.log.length (cp μ.log), .int .i64 ((max 1 σ'.steps : Nat) : Int)], .int .i64 0]) ∧ Holds w.heap.size w' (full p fuel σ' μ (fun _ => .non)) ∧ Good σ' μ) ∨
   (r = 1 ∧ max 1 σ'.steps ≤ fuel ∧ ∃ L v, e = .returned (.tuple #[.agg #[.bool true, .slice (ad v) (truesOf σ' D).length (cp v), .slice none 0 0, .int .i64 ((max 1 σ'.steps : Nat) : Int)], .int .i64 0]) ∧ Holds w.heap.size w' L ∧ L (.loc 0) = .row v 3 (ints (truesOf σ' D))))

set_option maxRecDepth 100000 in
set_option maxHeartbeats 4000000 in
theorem run_any {w : World} {A : Option Addr} {D : List (List Int)} {cc fuel m : Nat} {σ σ' : S} {r : Int} (hA : LiesR w.heap.size w A D) (hD : D.length ≤ 60000) (hc : ∀ i, i < D.length → (D.getD i []).length ≤ 60000) (hall : (absAll D).length ≤ 60000) (hl : ∀ e ∈ D, ∀ x ∈ e, -60000 ≤ x ∧ x ≤ 60000)
    (hadd : S.addAll D S.new = some σ) (hs : ((σ.backO 0).bind fun τ => S.searchO fuel m τ) = some (σ', r)) (hf : fuel ≤ 1000000) (hr : r = 0 ∨ r = 1 ∨ r = 2) (hph : r = 1 → 0 < σ'.phase.length) :
    Calls Tryz.prog 48 #[.slice A D.length cc, .int .i64 (fuel : Int)] w fun e w' => RunPost fuel σ' r D w e w' := by
  have NE := new_any fuel (w.alloc (.cells #[.bool false, .slice none 0 0, .slice none 0 0, .int .i64 0] 39))
  have B0 : Hid (Below w.heap.size w (w.alloc (.cells #[.bool false, .slice none 0 0, .slice none 0 0, .int .i64 0] 39))) := (Below.refl _ _).alloc (Nat.le_refl _) _
  have LA : Hid _ := (hA.below B0.out).mono (base' := (w.alloc (.cells #[.bool false, .slice none 0 0, .slice none 0 0, .int .i64 0] 39)).heap.size) (by rw [size_alloc]; omega)
  have LC : Hid _ := hc
  have LL : Hid _ := hl
  have SS : Hid _ := hs
  have AA : Hid _ := hadd
  clear hA hc hl hs hadd
  go_enter Tryz.func48, Tryz.ntmps48
  go_wp2_with fail
  refine NE.mono ?_
  rintro e w2 ⟨rfl, H, B⟩
  have G := good_new (w.alloc (.cells #[.bool false, .slice none 0 0, .slice none 0 0, .int .i64 0] 39)).heap.size
  have A4 : Hid _ := alloc_at w (.cells #[.bool false, .slice none 0 0, .slice none 0 0, .int .i64 0] 39)
  have S4 := size_alloc w (.cells #[.bool false, .slice none 0 0, .slice none 0 0, .int .i64 0] 39)
  obtain ⟨g4, hg4⟩ : ∃ g, g = w.heap.size := ⟨_, rfl⟩
  have start : Hid (AllRel (w.alloc (.cells #[.bool false, .slice none 0 0, .slice none 0 0, .int .i64 0] 39)).heap.size _ fuel D σ (w.alloc (.cells #[.bool false, .slice none 0 0, .slice none 0 0, .int .i64 0] 39)) D.length (.int .i64 ((0 : Nat) : Int)) w2) := ⟨0, S.new, _, rfl, rfl, H, G, B, AA.out⟩
  generalize w.alloc (.cells #[.bool false, .slice none 0 0, .slice none 0 0, .int .i64 0] 39) = w1 at *
  clear H B NE G
  generalize hp : w1.heap.size + 1 + 1 + 1 + 1 + 1 + 1 = p at *
  obtain ⟨base, hbase⟩ : ∃ b, b = w1.heap.size := ⟨_, rfl⟩
  rw [← hbase] at start LA S4
  rw [← hg4] at A4 S4
  rw [← hg4]
  have G4 : Hid _ := hg4
  have PP : Hid _ := hp
  have BB : Hid _ := hbase
  clear AA hp hg4 hbase
  go_wp2_with fail
  go_loopg [18] D.length (fun k x18 wr => AllRel base p fuel D σ w1 k x18 wr)
  case atStart => exact start.out
  case round =>
    clear start
    obtain ⟨i, σ1, μ, rfl, hki, H, G, B, hR⟩ := hrel
    by_cases hlt : i < D.length
    · have hL := LiesR.below LA.out B
      obtain ⟨b, o, rfl, hbb, hcell⟩ : ∃ b o, A = some ⟨b, o, none⟩ ∧ b < base ∧ ∀ i, i < D.length → ∃ A' c', wr.cell? ⟨b, o + i, none⟩ = some (.slice A' (D.getD i []).length c') ∧ (D.getD i []).length ≤ c' ∧ Lies base wr A' (D.getD i []) := by
        rcases hL with h0 | h0
        · rw [h0] at hlt; exact absurd hlt (Nat.not_lt_zero _)
        · exact h0
      obtain ⟨A', c', ei, hc', hli⟩ := hcell i hlt
      have hd : D.drop i = D.getD i [] :: D.drop (i + 1) := by
        rw [List.drop_eq_getElem_cons hlt]; simp [hlt]
      rw [hd] at hR
      generalize D.getD i [] = c at *
      obtain ⟨τ, ha, hR2⟩ := Option.bind_eq_some_iff.1 hR
      have AD := add_any (cc := c') H G hli ha
      have RR : Hid _ := hR2
      have OB : Hid _ := B
      clear H G hR hR2 hcell hL hli ha hd B
      go_wp2_with fail
      refine AD.mono ?_
      rintro e w3 ⟨rfl, μ3, H3, G3, B3⟩
      have HH : Hid _ := H3
      have B4 : Hid _ := OB.out.trans B3
      clear AD H3 B3 ei
      go_wp2_with fail
      go_roundg (gk - 1)
      case measure => omega
      case rel => exact ⟨i + 1, τ, μ3, by go_num, by omega, HH.out, G3, B4.out, RR.out⟩
    · have hnil : D.drop i = [] := List.drop_eq_nil_of_le (by omega)
      have hge : decide (i < D.length) = false := decide_eq_false (by omega)
      have hge2 : D.length ≤ i := by omega
      rw [hnil] at hR
      injection hR with hR
      subst hR
      have SE := search_any H G SS.out
      have OB : Hid _ := B
      clear hlt hnil H G B SS
      go_wp2_with fail
      refine SE.mono ?_
      rintro e w3 ⟨rfl, μ3, H3, G3, B3⟩
      have B4 : Hid _ := OB.out.trans B3
      have c0 := full_cell H3 0 rfl
      have HH : Hid _ := H3
      have hg : g4 < base := by have := S4; omega
      have K4 := one_holds (w := w3) (g := g4) (cs := [.bool false, .slice none 0 0, .slice none 0 0, .int .i64 0]) (t := 39) (by rw [B4.out.block g4 hg]; exact A4.out)
      clear SE H3 B3
      by_cases hcond : r = 2 ∨ fuel < max 1 σ'.steps
      · have k0 := K4.cell (k := .st) rfl 0 rfl
        have k1 := K4.cell (k := .st) rfl 1 rfl
        have k2 := K4.cell (k := .st) rfl 2 rfl
        have k3 := K4.cell (k := .st) rfl 3 rfl
        have f0 := K4.cellFree (k := .st) rfl 0
        have f1 := K4.cellFree (k := .st) rfl 1
        have f2 := K4.cellFree (k := .st) rfl 2
        have f3 := K4.cellFree (k := .st) rfl 3
        have hwg : w.heap.size ≤ g4 := by rw [G4.out]; exact Nat.le_refl _
        have BE : Hid _ := ((((B0.out.trans (B4.out.mono (B' := w.heap.size) (by omega))).setCell (p := ⟨g4, 0, none⟩) hwg (.bool false)).setCell (p := ⟨g4, 1, none⟩) hwg (.slice none 0 0)).setCell (p := ⟨g4, 2, none⟩) hwg (.slice none 0 0)).setCell (p := ⟨g4, 3, none⟩) hwg (.int .i64 0)
        have KE : Hid _ := one_set (one_set (one_set (one_set K4 0 (.bool false)) 1 (.slice none 0 0)) 2 (.slice none 0 0)) 3 (.int .i64 0)
        clear K4
        by_cases h2 : r = 2
        · subst h2
          go_wp2_with fail
          have HR := results_run KE.out rfl
          exact bodyPost_ret (HR _ rfl rfl) rfl ⟨BE.out, .inl ⟨.inl rfl, rfl⟩⟩
        · have hfl : (fuel : Int) < max 1 (σ'.steps : Int) := by
            rcases hcond with h | h
            · exact absurd h h2
            · omega
          have hlt9 : fuel < max 1 σ'.steps := by omega
          have g1 : (r == 2) = false := by simp [h2]
          go_wp2_with fail
          have HR := results_run KE.out rfl
          exact bodyPost_ret (HR _ rfl rfl) rfl ⟨BE.out, .inl ⟨.inr hlt9, rfl⟩⟩
      · have h2 : r ≠ 2 := fun h => hcond (.inl h)
        have hle9 : max 1 σ'.steps ≤ fuel := by
          rcases Nat.lt_or_ge fuel (max 1 σ'.steps) with h | h
          · exact absurd (.inr h) hcond
          · exact h
        have hfl : max 1 (σ'.steps : Int) ≤ (fuel : Int) := by omega
        have g1 : (r == 2) = false := by simp [h2]
        have g2 : decide ((fuel : Int) < max 1 (σ'.steps : Int)) = false := decide_eq_false (by omega)
        by_cases h0 : r = 0
        · subst h0
          have c2 : w3.cell? ⟨p, 2, none⟩ = some (.slice (ad μ3.log) σ'.log.length (cp μ3.log)) := by
            have e1 := full_cell HH.out 2 rfl
            have e2 := HH.out.sl (k := .fld 2) rfl
            rw [G3.vlogs] at e2
            rw [e1]; exact congrArg some e2
          have g0 : ((0 : Int) == 1) = false := rfl
          have c2' := cell_alloc_keep w3 (.cells #[.bool false, .slice none 0 0, .slice none 0 0, .int .i64 (max 1 (σ'.steps : Int))] 39) _ _ c2
          obtain ⟨ob, hob⟩ : ∃ ob, ob = Obj.cells #[.bool false, .slice none 0 0, .slice (ad μ3.log) σ'.log.length (cp μ3.log), .int .i64 (max 1 (σ'.steps : Int))] 39 := ⟨_, rfl⟩
          have K5 := K4.alloc ob
          have wz : w.heap.size ≤ w3.heap.size := by have := G4.out; have := B4.out.size; have := S4; have := BB.out; omega
          have BL := (B0.out.trans (B4.out.mono (B' := w.heap.size) (by have := G4.out; omega))).alloc wz ob
          have hwg : w.heap.size ≤ g4 := by rw [G4.out]; exact Nat.le_refl _
          have BE : Hid _ := (((BL.setCell (p := ⟨g4, 0, none⟩) hwg (.bool false)).setCell (p := ⟨g4, 1, none⟩) hwg (.slice none 0 0)).setCell (p := ⟨g4, 2, none⟩) hwg (.slice (ad μ3.log) σ'.log.length (cp μ3.log))).setCell (p := ⟨g4, 3, none⟩) hwg (.int .i64 (max 1 (σ'.steps : Int)))
          have HF := ((((HH.out.alloc ob).low hg 0 (.bool false)).low hg 1 (.slice none 0 0)).low hg 2 (.slice (ad μ3.log) σ'.log.length (cp μ3.log))).low hg 3 (.int .i64 (max 1 (σ'.steps : Int)))
          have LR : Hid _ := HF.down (base' := w.heap.size) (by have := G4.out; omega)
          have KE : Hid _ := one_set (one_set (one_set (one_set K5 0 (.bool false)) 1 (.slice none 0 0)) 2 (.slice (ad μ3.log) σ'.log.length (cp μ3.log))) 3 (.int .i64 (max 1 (σ'.steps : Int)))
          have k0 := K5.cell (k := .st) rfl 0 rfl
          have k1 := K5.cell (k := .st) rfl 1 rfl
          have k2 := K5.cell (k := .st) rfl 2 rfl
          have k3 := K5.cell (k := .st) rfl 3 rfl
          have f0 := K5.cellFree (k := .st) rfl 0
          have f1 := K5.cellFree (k := .st) rfl 1
          have f2 := K5.cellFree (k := .st) rfl 2
          have f3 := K5.cellFree (k := .st) rfl 3
          subst hob
          clear K4 K5 BL HF
          go_wp2_with fail
          have HR := results_run KE.out rfl
          refine bodyPost_ret (HR _ rfl rfl) rfl ⟨BE.out, .inr (.inl ⟨rfl, hle9, p, μ3, ?_, LR.out, G3⟩)⟩
          rw [← max_cast]; rfl
        · obtain rfl : r = 1 := by omega
          have hph9 := hph rfl
          clear hph
          have g0 : ((1 : Int) == 1) = true := rfl
          have K11 := one_holds (alloc_at w3 (.cells #[.bool true, .slice none 0 0, .slice none 0 0, .int .i64 (max 1 (σ'.steps : Int))] 39))
          have wz : w.heap.size ≤ w3.heap.size := by have := G4.out; have := B4.out.size; have := S4; have := BB.out; omega
          have hbz : base ≤ w3.heap.size := by rw [BB.out]; exact B4.out.size
          have BL : Hid _ := B4.out.alloc hbz (.cells #[.bool true, .slice none 0 0, .slice none 0 0, .int .i64 (max 1 (σ'.steps : Int))] 39)
          have sza := size_alloc w3 (.cells #[.bool true, .slice none 0 0, .slice none 0 0, .int .i64 (max 1 (σ'.steps : Int))] 39)
          have LV := (LiesR.below LA.out BL.out).mono (base' := (w3.alloc (.cells #[.bool true, .slice none 0 0, .slice none 0 0, .int .i64 (max 1 (σ'.steps : Int))] 39)).heap.size) (by omega)
          have VA := variables_any (cc := cc) (Nat.le_refl _) LV hD LC.out hall LL.out
          have B11 : Hid _ := (Below.refl w3.heap.size w3).alloc (Nat.le_refl _) (.cells #[.bool true, .slice none 0 0, .slice none 0 0, .int .i64 (max 1 (σ'.steps : Int))] 39)
          have k11 := K11.cell (k := .st) rfl 0 rfl
          have hgw : g4 < w3.heap.size := by omega
          clear LV
          go_wp2_with fail
          refine VA.mono ?_
          rintro e w4 ⟨v', rfl, B5, H5⟩
          have ES := env3_start K11 (by omega) B5 H5
          have vsl := H5.sl (k := .loc 0) rfl
          rw [ints_length] at vsl
          have BX : Hid _ := B11.out.trans (B5.mono (B' := w3.heap.size) (by omega))
          have start : Hid (TrueRel w3.heap.size (max 1 (σ'.steps : Int)) σ' D v' w3 (varsOf D).length (.int .i64 ((0 : Nat) : Int)) w4) := ⟨0, [], .slice none 0 0, rfl, rfl, rfl, ES, BX.out, by rw [List.drop_zero]; rfl, rfl⟩
          have AV0 : Hid (0 < (varsOf D).length → ad v' = some ⟨gb v', 0, none⟩) := fun hp => H5.ad_ (k := .loc 0) (t := 3) (xs := ints (varsOf D)) rfl (by rw [ints_length]; exact hp)
          clear VA K11 ES B5 H5 k11 K4 c0
          rw [vsl]
          clear vsl
          generalize hav : ad v' = AV at *
          have AVH : Hid _ := AV0.out
          clear hav AV0
          have hvl : (varsOf D).length ≤ 60000 := Nat.le_trans (varsOf_len D) hall
          go_wp2_with fail
          go_loopg [57] (varsOf D).length (fun k x57 wr => TrueRel w3.heap.size (max 1 (σ'.steps : Int)) σ' D v' w3 k x57 wr)
          case atStart => exact start.out
          case round =>
            clear start
            obtain ⟨j, acc, vT, rfl, hkj, hvT, H6, B6, hT6, haj⟩ := hrel
            have AJ : Hid _ := haj
            have hl9 : j < (varsOf D).length → acc.length + 1 ≤ 60000 := by intro h; omega
            clear haj
            have hsol : Holds base wr (full p fuel σ' μ3 (fun _ => .non)) := HH.out.other (fun b _ hb => B6.block b hb)
            by_cases hlt2 : j < (varsOf D).length
            · have hg3 : w3.heap.size ≤ wr.heap.size := B6.size
              have ex := H6.elem (k := .loc 1) rfl (ints_at (varsOf D) hlt2)
              obtain rfl : AV = some ⟨gb v', 0, none⟩ := AVH.out (by omega)
              have c1 := H6.cell (k := .st) rfl 1 rfl
              rw [hvT] at c1
              have f1 := H6.cellFree (k := .st) rfl 1
              have hd2 : (varsOf D).drop j = at0 (varsOf D) j :: (varsOf D).drop (j + 1) := by
                rw [List.drop_eq_getElem_cons hlt2]; simp [at0, hlt2]
              obtain ⟨e9, he9, y9, hy9, hxy⟩ := mem_varsOf (at0_mem hlt2)
              have hyb := LL.out e9 he9 y9 hy9
              rw [hd2, List.map_cons, hxy] at hT6
              rw [hxy] at ex
              have hn9 : y9.natAbs ≤ 60000 := by omega
              generalize y9.natAbs = n at *
              have VY := value_any hsol (v := n) hph9
              rw [Int.natAbs_natCast] at hT6
              have hl9 := hl9 hlt2
              have HT : Hid _ := hT6
              have VT : Hid _ := hvT
              have HE6 : Hid _ := H6
              have BE6 : Hid _ := B6
              clear hT6 hvT hsol hxy hd2
              cases hb : σ'.isTrue n with
              | true =>
                rw [hb] at VY
                have LS : Hid _ := HE6.out.alloc (.cells #[.int .i64 (n : Int)] 3)
                have BS : Hid _ := BE6.out.alloc hg3 (.cells #[.int .i64 (n : Int)] 3)
                clear H6 B6
                go_wp2_with fail
                refine VY.mono ?_
                rintro e w' ⟨rfl, rfl⟩
                clear VY
                go_wp2_with (at_builtin; refine law_pushAt LS.out (.loc 0) rfl (.tmp 65) (.tmp 67) 23 3 (.int .i64 0) 8 rfl Tryz.underlying23 info3 rfl (by decide) acc.length (.int .i64 (n : Int)) rfl (ints_length _) rfl wr.heap.size rfl ?hy rfl ?hb ?hl ?_)
                try (case hy => first | exact cell_new _ _ _ _ (by simp) | exact cell_new_drew _ _ _ _ (by simp))
                case hb => simp; omega
                case hl => omega
                intro A9 c9 w6 H7 B7 _
                rw [ints_snoc, env3_row] at H7
                have k1 := H7.cell (k := .st) rfl 1 rfl
                have f1' := H7.cellFree (k := .st) rfl 1
                have H8 := H7.setCell (k := .st) (b := w3.heap.size) rfl 1 (.slice A9 (acc.length + 1) c9) (Nat.le_of_lt (H7.lt .st rfl).2)
                rw [env3_st] at H8
                have H8H : Hid _ := H8
                have B8H : Hid _ := (BS.out.trans B7).setCell (p := ⟨w3.heap.size, 1, none⟩) (Nat.le_refl _) (.slice A9 (acc.length + 1) c9)
                clear H7 B7 H8
                go_wp2_with fail
                go_roundg (gk - 1)
                case measure => omega
                case rel => exact ⟨j + 1, acc ++ [(n : Int)], .slice A9 (acc.length + 1) c9, by go_num, by omega, by simp [ad, cp], H8H.out, B8H.out, by have := HT.out; rw [hb] at this; simpa using this, by have := AJ.out; simp; omega⟩
              | false =>
                rw [hb] at VY
                have LS : Hid _ := HE6.out.alloc (.cells #[.int .i64 (-(n : Int))] 3)
                have BS : Hid _ := BE6.out.alloc hg3 (.cells #[.int .i64 (-(n : Int))] 3)
                clear H6 B6
                go_wp2_with fail
                refine VY.mono ?_
                rintro e w' ⟨rfl, rfl⟩
                clear VY
                go_wp2_with (at_builtin; refine law_pushAt LS.out (.loc 0) rfl (.tmp 71) (.tmp 74) 23 3 (.int .i64 0) 8 rfl Tryz.underlying23 info3 rfl (by decide) acc.length (.int .i64 (-(n : Int))) rfl (ints_length _) rfl wr.heap.size rfl ?hy rfl ?hb ?hl ?_)
                try (case hy => first | exact cell_new _ _ _ _ (by simp) | exact cell_new_drew _ _ _ _ (by simp))
                case hb => simp; omega
                case hl => omega
                intro A9 c9 w6 H7 B7 _
                rw [ints_snoc, env3_row] at H7
                have k1 := H7.cell (k := .st) rfl 1 rfl
                have f1' := H7.cellFree (k := .st) rfl 1
                have H8 := H7.setCell (k := .st) (b := w3.heap.size) rfl 1 (.slice A9 (acc.length + 1) c9) (Nat.le_of_lt (H7.lt .st rfl).2)
                rw [env3_st] at H8
                have H8H : Hid _ := H8
                have B8H : Hid _ := (BS.out.trans B7).setCell (p := ⟨w3.heap.size, 1, none⟩) (Nat.le_refl _) (.slice A9 (acc.length + 1) c9)
                clear H7 B7 H8
                go_wp2_with fail
                go_roundg (gk - 1)
                case measure => omega
                case rel => exact ⟨j + 1, acc ++ [-(n : Int)], .slice A9 (acc.length + 1) c9, by go_num, by omega, by simp [ad, cp], H8H.out, B8H.out, by have := HT.out; rw [hb] at this; simpa using this, by have := AJ.out; simp; omega⟩
            · have hnil : (varsOf D).drop j = [] := List.drop_eq_nil_of_le (by omega)
              have hge : decide (j < (varsOf D).length) = false := decide_eq_false (by omega)
              have hge2 : (varsOf D).length ≤ j := by omega
              rw [hnil, List.map_nil, List.append_nil] at hT6
              have K6 := one_holds (w := wr) (g := g4) (cs := [.bool false, .slice none 0 0, .slice none 0 0, .int .i64 0]) (t := 39) (by rw [B6.block g4 hgw, B4.out.block g4 hg]; exact A4.out)
              have hwg : w.heap.size ≤ g4 := by rw [G4.out]; exact Nat.le_refl _
              have BE : Hid _ := ((((((B0.out.trans (B4.out.mono (B' := w.heap.size) (by have := G4.out; omega)))).trans (B6.mono wz)).setCell (p := ⟨g4, 0, none⟩) hwg (.bool true)).setCell (p := ⟨g4, 1, none⟩) hwg (.slice (ad vT) acc.length (cp vT))).setCell (p := ⟨g4, 2, none⟩) hwg (.slice none 0 0)).setCell (p := ⟨g4, 3, none⟩) hwg (.int .i64 (max 1 (σ'.steps : Int)))
              have HF := (((H6.low hgw 0 (.bool true)).low hgw 1 (.slice (ad vT) acc.length (cp vT))).low hgw 2 (.slice none 0 0)).low hgw 3 (.int .i64 (max 1 (σ'.steps : Int)))
              have LR := HF.down (base' := w.heap.size) wz
              have KE : Hid _ := one_set (one_set (one_set (one_set K6 0 (.bool true)) 1 (.slice (ad vT) acc.length (cp vT))) 2 (.slice none 0 0)) 3 (.int .i64 (max 1 (σ'.steps : Int)))
              have k0 := K6.cell (k := .st) rfl 0 rfl
              have k1 := K6.cell (k := .st) rfl 1 rfl
              have k2 := K6.cell (k := .st) rfl 2 rfl
              have k3 := K6.cell (k := .st) rfl 3 rfl
              have f0 := K6.cellFree (k := .st) rfl 0
              have f1 := K6.cellFree (k := .st) rfl 1
              have f2 := K6.cellFree (k := .st) rfl 2
              have f3 := K6.cellFree (k := .st) rfl 3
              have q0 := H6.cell (k := .st) rfl 0 rfl
              have q1 := H6.cell (k := .st) rfl 1 rfl
              rw [hvT] at q1
              have q2 := H6.cell (k := .st) rfl 2 rfl
              have q3 := H6.cell (k := .st) rfl 3 rfl
              have LE : Hid _ := LR
              have HT : Hid _ := hT6
              clear hlt2 hnil K6 HF LR H6 B6 hvT hsol hT6
              go_wp2_with fail
              have HR := results_run KE.out rfl
              have hT := HT.out
              refine bodyPost_ret (HR _ rfl rfl) rfl ⟨BE.out, .inr (.inr ⟨rfl, hle9, _, vT, ?_, LE.out, by rw [← hT]; rfl⟩)⟩
              rw [← max_cast, ← hT]; rfl
end Go.Proofs.YtdllaphnkbnpoaaGreat
