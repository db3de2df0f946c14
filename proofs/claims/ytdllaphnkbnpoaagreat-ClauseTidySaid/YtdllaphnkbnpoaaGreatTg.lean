/- Rows of whole numbers that a call has made, each in memory of its own, and a slice over them: what is owned; slices.SortFunc by Tidy's comparison. -/
import Derived.Test.YtdllaphnkbnpoaaGreatTd
namespace Go.Proofs.YtdllaphnkbnpoaaGreat
open Go.RowKit Go.Proofs

theorem Holds.join {base : Nat} {w w' : World} {L : Key → Res} (H : Holds base w L) (k : Key) {r : Res} (B : Below w.heap.size w w') (H2 : Holds w.heap.size w' (locs r)) (hbase : base ≤ w.heap.size) : Holds base w' (upd L k r) :=
  H.put k r (row := none) ⟨B.os, B.tape, B.output, B.size, fun b hlt _ => B.block b hlt⟩ (fun b hb => by cases hb) (H2.holds (.loc 0)) (fun b hb => .inr (H2.base (.loc 0) b hb)) hbase

/-- A slice of rows under one key, the rows under keys of their own. -/
def rowsL (v : Value) (us : List Value) (R : List (Value × List Int)) : Key → Res
  | .loc 0 => .row v 23 us
  | .cls j => match R[j]? with
    | some p => .row p.1 3 (ints p.2)
    | none => .non
  | _ => .non
theorem rowsL_upd0 (v v' : Value) (us us' : List Value) (R : List (Value × List Int)) : upd (rowsL v us R) (.loc 0) (.row v' 23 us') = rowsL v' us' R := by
  funext k
  unfold upd
  by_cases h : k = .loc 0
  · subst h; rw [if_pos rfl]; rfl
  · rw [if_neg h]
    unfold rowsL
    split
    · exact absurd rfl h
    · rfl
    · rfl
theorem rowsL_cls (v : Value) (us : List Value) (R : List (Value × List Int)) (p : Value × List Int) : upd (rowsL v us R) (.cls R.length) (.row p.1 3 (ints p.2)) = rowsL v us (R ++ [p]) := by
  funext k
  unfold upd
  by_cases h : k = .cls R.length
  · subst h
    rw [if_pos rfl]
    simp [rowsL]
  · rw [if_neg h]
    unfold rowsL
    split
    · rfl
    · rename_i j
      by_cases hj : j < R.length
      · simp [List.getElem?_append_left hj]
      · have h1 : R.length < j := by
          rcases Nat.lt_or_ge R.length j with q | q
          · exact q
          · exact absurd (by rw [show j = R.length by omega]) h
        rw [List.getElem?_eq_none (by omega), List.getElem?_eq_none (by simp; omega)]
    · rfl
theorem rowsL_key {v : Value} {us : List Value} {R : List (Value × List Int)} {p : Value × List Int} (h : p ∈ R) : ∃ j, rowsL v us R (.cls j) = .row p.1 3 (ints p.2) := by
  obtain ⟨j, hj, rfl⟩ := List.getElem_of_mem h
  exact ⟨j, by simp [rowsL, hj]⟩

/-- What a row reads, whatever becomes of the slice over the rows. -/
theorem rowsL_lies {base : Nat} {w : World} {v : Value} {us : List Value} {R : List (Value × List Int)} (H : Holds base w (rowsL v us R)) {p : Value × List Int} (h : p ∈ R) :
    p.1 = .slice (ad p.1) p.2.length (cp p.1) ∧ p.2.length ≤ cp p.1 ∧ Lies w.heap.size w (ad p.1) p.2 ∧ ∀ W : World, w.heap.size ≤ W.heap.size → (∀ b, some b ≠ v.ownBlock → b < w.heap.size → W.heap[b]? = w.heap[b]?) → Lies W.heap.size W (ad p.1) p.2 := by
  obtain ⟨j, hk⟩ := rowsL_key (v := v) (us := us) h
  have h1 := H.sl hk
  rw [ints_length] at h1
  have h2 := H.cap hk
  rw [ints_length] at h2
  refine ⟨h1, h2, row_lies H hk, fun W hs hW => ?_⟩
  rcases Nat.eq_zero_or_pos p.2.length with h0 | hp
  · exact .inl (List.eq_nil_of_length_eq_zero h0)
  · have hb := H.gb_ hk (by rw [ints_length]; exact hp)
    have hlt := (H.lt _ hb).2
    have hne : some (gb p.1) ≠ v.ownBlock := fun e => by
      have := H.disj (.loc 0) (.cls j) (gb p.1) (by show v.ownBlock = _; exact e.symm) hb
      cases this
    rcases row_lies H hk with h | ⟨b, o, hA, hb', hc⟩
    · rw [h] at hp; simp at hp
    · right
      have e : gb p.1 = b := by
        have := H.ad_ hk (by rw [ints_length]; exact hp)
        rw [hA] at this
        injection this with this
        injection this with this
        exact this.symm
      rw [e] at hne hlt
      refine ⟨b, o, hA, by omega, fun j hj => ?_⟩
      rw [World.cell?_of_block (a := ⟨b, o + j, none⟩) (hW b hne hlt)]
      exact hc j hj

/-- A slice over the rows reads as a slice of slices. -/
theorem rowsL_out {base : Nat} {w : World} {L : Key → Res} {k : Key} {v : Value} {P : List (Value × List Int)} (H : Holds base w L) (hk : L k = .row v 23 (P.map (·.1))) (hr : ∀ p ∈ P, ∃ c, p.1 = .slice (ad p.1) p.2.length c ∧ p.2.length ≤ c ∧ Lies w.heap.size w (ad p.1) p.2) : LiesR w.heap.size w (ad v) (P.map (·.2)) := by
  rcases Nat.eq_zero_or_pos P.length with h0 | hp
  · rw [List.eq_nil_of_length_eq_zero h0]; exact .inl rfl
  · right
    have hp' : 0 < (P.map (·.1)).length := by rw [List.length_map]; exact hp
    refine ⟨gb v, 0, H.ad_ hk hp', (H.lt k (H.gb_ hk hp')).2, fun i hi => ?_⟩
    rw [List.length_map] at hi
    obtain ⟨c, h1, h2, h3⟩ := hr P[i] (List.getElem_mem hi)
    have e1 : (P.map (·.2)).getD i [] = P[i].2 := by simp [hi]
    rw [e1]
    refine ⟨ad P[i].1, c, ?_, h2, h3⟩
    rw [Nat.zero_add]
    exact H.elem hk (i := i) (by rw [List.getElem?_map, List.getElem?_eq_getElem hi, Option.map_some, h1]; rfl)

/-- The rows that are there. -/
abbrev RowE (R : List (Value × List Int)) := { p : Value × List Int // p ∈ R }
def encR {R : List (Value × List Int)} (x : RowE R) : Value := x.1.1
def cfR {R : List (Value × List Int)} (x y : RowE R) : Int := cmpR x.1.2 y.1.2
theorem ltR {R : List (Value × List Int)} (x y : RowE R) : ltOf cfR x y = rowB x.1.2 y.1.2 := cmpR_lt _ _
theorem swoR (R : List (Value × List Int)) : Go.Sort.SWO (ltOf (cfR (R := R))) where
  irrefl x := by rw [ltR]; exact rowB_irr _
  trans x y z h1 h2 := by rw [ltR] at *; exact rowB_trans h1 h2
  ntrans x y z h1 h2 := by rw [ltR] at *; exact rowB_ntrans h1 h2

theorem sortRows {base : Nat} {w : World} {v : Value} {R : List (Value × List Int)} (H : Holds base w (rowsL v (R.map (·.1)) R)) (hbase : base ≤ w.heap.size) (h6 : R.length ≤ 60000) (hr6 : ∀ p ∈ R, p.2.length ≤ 60000) (hb : ∀ p ∈ R, ∀ x ∈ p.2, -60000 ≤ x ∧ x ≤ 60000) :
    Calls Tryz.prog 29 #[.slice (ad v) R.length (cp v), .func (.func 30) #[] #[]] w fun e w' => e = .returned (.tuple #[]) ∧ Below base w w' ∧ ∃ P : List (Value × List Int), P.Perm R ∧ SortedR (P.map (·.2)) ∧ Holds base w' (rowsL (.slice (ad v) R.length (cp v)) (P.map (·.1)) R) := by
  have sl := H.sl (k := .loc 0) rfl
  rw [List.length_map] at sl
  rcases Nat.eq_zero_or_pos R.length with h0 | hp
  · obtain rfl := List.eq_nil_of_length_eq_zero h0
    refine (Tryz.slices_SortFunc_none_f29 (α := Int) (ad v) (cp v) (.func (.func 30) #[] #[]) w).mono ?_
    rintro e w' ⟨rfl, rfl⟩
    refine ⟨rfl, Below.refl _ _, [], List.Perm.refl _, List.Pairwise.nil, ?_⟩
    have e : Value.slice (ad v) ([] : List (Value × List Int)).length (cp v) = v := sl.symm
    rw [e]; exact H
  · obtain ⟨p0, R0, hR⟩ : ∃ p R', R = p :: R' := by
      cases R with
      | nil => simp at hp
      | cons p R' => exact ⟨p, R', rfl⟩
    let _i : Inhabited (RowE R) := ⟨⟨p0, by rw [hR]; simp⟩⟩
    obtain ⟨ds, hds⟩ : ∃ ds : List (RowE R), ds = R.attach := ⟨_, rfl⟩
    have hdv : ds.map (·.1) = R := by rw [hds]; exact List.attach_map_subtype_val R
    have hdl : ds.length = R.length := by rw [hds, List.length_attach]
    have hd : ds.map encR = R.map (·.1) := by
      conv => rhs; rw [← hdv]
      rw [List.map_map]
      rfl
    have ho : w.ownsRow 0 23 1 v (R.map (·.1)).length (R.map (·.1)) := H.owns (k := .loc 0) rfl
    rw [List.length_map, ← hd, ← hdl] at ho
    have hne : v ≠ .slice none 0 0 := by
      intro e
      have := H.ad_ (k := .loc 0) (t := 23) (xs := R.map (·.1)) rfl (by rw [List.length_map]; exact hp)
      rw [e] at this; cases this
    have hbk := H.base (.loc 0) (gb v) (H.gb_ (k := .loc 0) (t := 23) (xs := R.map (·.1)) rfl (by rw [List.length_map]; exact hp))
    obtain ⟨g, cap, hv, _, hg, hc, hmx, _, hh⟩ := Go.Lib.holds_of_ownsRow (enc := encR) (zs := ds) (by exact ho) hne
    have hgb : gb v = g := by rw [hv]; rfl
    rw [hgb] at hbk
    have hown : v.ownBlock = some g := by rw [hv]; rfl
    have eg : ∀ args w, (callFunc 30 args).run Tryz.prog w = .ok (.enter 30 args) w := enters_of Tryz.func30 (by kernel_rfl) rfl
    have hOne : OneCell (encR (R := R)) := fun x => by
      obtain ⟨h1, _⟩ := rowsL_lies H x.2
      show (x.1.1).oneCell' = true
      rw [h1]; rfl
    have hcmp : CmpLays1 (α := RowE R) Tryz.prog 30 #[] encR cfR g 0 ds.toArray.size w := fun m os dk _ x y => by
      have hW : ∀ p ∈ R, Lies (sortWorld encR w g 0 m dk os).heap.size (sortWorld encR w g 0 m dk os) (ad p.1) p.2 := fun p hp' => by
        refine (rowsL_lies H hp').2.2.2 _ ?_ (fun b hb1 hb2 => ?_)
        · exact (sortWorld_by encR w g m dk os).size
        · exact (sortWorld_by encR w g m dk os).block b hb2 (fun e => hb1 (by rw [hown, e]))
      have lx := (rowsL_lies H x.2).1
      have ly := (rowsL_lies H y.2).1
      have T := tidy1_any (w := sortWorld encR w g 0 m dk os) (c := cp x.1.1) (c' := cp y.1.1) (by have := hr6 _ x.2; omega) (by have := hr6 _ y.2; omega) (hW _ x.2) (hW _ y.2) (hb _ x.2) (hb _ y.2)
      rw [← lx, ← ly] at T
      exact T
    have hS := Tryz.slices_SortFunc_f29 (α := RowE R) encR hOne cfR (swoR R) 30 #[] g 0 cap ds.toArray w eg hcmp hh hg (by simp; omega)
    have hsz : ds.toArray.size = R.length := by simp [hdl]
    have hav : ad v = some ⟨g, 0, none⟩ := by rw [hv]; rfl
    have hcv : cp v = cap := by rw [hv]; rfl
    rw [hsz] at hS
    rw [hav, hcv]
    refine hS.mono ?_
    rintro e w' ⟨rfl, d', n, os, hP, hSo, rfl⟩
    obtain ⟨hPs, _, hPp⟩ := hP
    have e1 : d'.extract 0 R.length = d' := by rw [← hsz, ← hPs]; exact Array.extract_size
    have e2 : ds.toArray.extract 0 R.length = ds.toArray := by rw [← hsz]; exact Array.extract_size
    rw [e1, e2] at hPp
    simp only [List.toList_toArray] at hPp
    have GB := sortWorld_by encR w g n d' os
    unfold sortWorld at GB ⊢
    have hl : d'.toList.length = R.length := by rw [hPp.length_eq, hdl]
    rw [hv, hdl] at ho
    have o2 := Go.Lib.ownsRow_putRow (enc := encR) (q := n) (k := R.length) (ys := d'.toList) ho hl (Nat.le_refl _)
    rw [List.take_of_length_le (by omega)] at o2
    have B1 := Go.Lib.below_putRow (enc := encR) (q := n) (d := d') (Below.refl base w) hbk
    have B2 := B1.grown (grownBy_grow _ os) (Nat.le_trans hbase B1.size) (fun b hb => by cases hb)
    refine ⟨rfl, B2, d'.toList.map (·.1), ?_, ?_, ?_⟩
    · have := hPp.map (·.1)
      rwa [hdv] at this
    · unfold SortedR
      rw [List.map_map, List.pairwise_map, List.pairwise_iff_getElem]
      intro i j hi hj hij
      have := hSo i j (Nat.zero_le _) hij (by omega)
      rw [ltR] at this
      have hi' : i < d'.size := by simpa using hi
      have hj' : j < d'.size := by simpa using hj
      rw [getElem!_pos d' i hi', getElem!_pos d' j hj'] at this
      simpa using this
    · have o3 : World.ownsRow (Go.Sort.grow (Go.Sort.putRow encR (Sort.ahead w n) g 0 d') os) 0 23 1 (.slice (some ⟨g, 0, none⟩) R.length cap) R.length ((d'.toList.map (·.1)).map (·.1)) := by
        have e3 : (d'.toList.map (·.1)).map (·.1) = d'.toList.map encR := by rw [List.map_map]; rfl
        rw [e3]
        have hgr : (Res.row (.slice (some ⟨g, 0, none⟩) R.length cap) 23 (d'.toList.map encR)).holds (Go.Sort.putRow encR (Sort.ahead w n) g 0 d'.toList.toArray) := by
          show World.ownsRow _ 0 23 1 _ (d'.toList.map encR).length _
          rw [List.length_map, hl]; exact o2
        have h9 := Res.kept (w' := Go.Sort.grow (Go.Sort.putRow encR (Sort.ahead w n) g 0 d'.toList.toArray) os) hgr (fun b hb => (grownBy_grow _ os).block b (Res.lt hgr hb) (by simp))
        have h10 : World.ownsRow _ 0 23 1 _ (d'.toList.map encR).length _ := h9
        rw [List.length_map, hl] at h10
        rwa [Array.toArray_toList] at h10
      have H9 := H.put (.loc 0) (.row (.slice (some ⟨g, 0, none⟩) R.length cap) 23 ((d'.toList.map (·.1)).map (·.1))) GB (fun b hb => .inl (by cases hb; exact hown)) (by
        show World.ownsRow _ 0 23 1 _ ((d'.toList.map (·.1)).map (·.1)).length _
        rw [List.length_map, List.length_map, hl]; exact o3) (fun b hb => .inl (by
        have : g = b := by simpa [Res.blk, Value.ownBlock] using hb
        rw [← this]; exact hown)) hbase
      rw [rowsL_upd0] at H9
      exact H9
end Go.Proofs.YtdllaphnkbnpoaaGreat
