/- Walks for ClauseTidy: a clone, sorting with equals, tidied. -/
import Derived.Test.YtdllaphnkbnpoaaGreatTc
import Derived.Test.YtdllaphnkbnpoaaGreatPi
namespace Go.Proofs.YtdllaphnkbnpoaaGreat
open Go.RowKit Go.Proofs

/-- In order, equals side by side. -/
def AscB (zs : List Int) : Prop := zs.Pairwise fun a b => bef b a = false
theorem ascB_at {zs : List Int} (h : AscB zs) {i j : Nat} (hij : i ≤ j) (hj : j < zs.length) : bef zs.toArray[j]! zs.toArray[i]! = false := by
  rcases Nat.eq_or_lt_of_le hij with e | e
  · subst e; exact bef_irr _
  · have := List.pairwise_iff_getElem.1 h i j (by omega) hj e
    simpa [getElem!_pos, hj, show i < zs.length by omega] using this
theorem compact_strictB {zs : List Int} (h : AscB zs) : (Lib.compact zs).Pairwise (fun a b => bef a b = true) := by
  unfold Lib.compact Lib.compactUpTo
  rw [List.pairwise_map, List.pairwise_filter]
  refine List.Pairwise.imp_of_mem ?_ (List.pairwise_lt_range (n := zs.length))
  intro i j hi hj hij hki hkj
  have hj' : j < zs.length := List.mem_range.1 hj
  have hne := ((keeps_iff zs.toArray j).1 hkj).resolve_left (by omega)
  have h1 := ascB_at h (i := i) (j := j - 1) (by omega) (by omega)
  have h2 := ascB_at h (i := j - 1) (j := j) (by omega) hj'
  cases q : bef zs.toArray[i]! zs.toArray[j]! with
  | true => rfl
  | false =>
    have e1 : bef zs.toArray[i]! zs.toArray[j - 1]! = false := by
      cases q2 : bef zs.toArray[i]! zs.toArray[j - 1]! with
      | false => rfl
      | true =>
        cases q3 : bef zs.toArray[j - 1]! zs.toArray[j]! with
        | true => rw [bef_trans q2 q3] at q; cases q
        | false => exact absurd (bef_tot h2 q3) hne
    have e2 := bef_tot h1 e1
    rw [← e2] at q
    exact absurd (bef_tot h2 q) hne
theorem compact_sub {zs : List Int} {x : Int} (hx : x ∈ Lib.compact zs) : x ∈ zs := by
  unfold Lib.compact Lib.compactUpTo at hx
  obtain ⟨i, hi, rfl⟩ := List.mem_map.1 hx
  have hi' : i < zs.length := List.mem_range.1 (List.mem_filter.1 hi).1
  simp [getElem!_pos, hi']
theorem compact_sortedB {zs xs : List Int} (hp : zs.Perm xs) (h : AscB zs) : Lib.compact zs = sortedM xs :=
  strictB_ext (compact_strictB h) (sortedB xs) (fun x => by
    rw [sortedM_has]
    exact ⟨fun hx => hp.mem_iff.1 (compact_sub hx), fun hx => compact_has (hp.mem_iff.2 hx)⟩)
theorem merge_asc (ds : List Sm) : ((ds.mergeSort fun x y => !ltOf cfS y x).map (·.1)).Perm (ds.map (·.1)) ∧ AscB ((ds.mergeSort fun x y => !ltOf cfS y x).map (·.1)) := by
  have hp := List.mergeSort_perm ds (fun x y => !ltOf cfS y x)
  have hs := List.pairwise_mergeSort (le := fun x y : Sm => !ltOf cfS y x) (fun a b c h1 h2 => by
    simp only [Bool.not_eq_true'] at *
    exact swoS.ntrans c b a h2 h1) (fun a b => by
    cases q : ltOf cfS b a with
    | false => simp
    | true =>
      have : ltOf cfS a b = false := by
        cases q2 : ltOf cfS a b with
        | false => rfl
        | true => have := swoS.trans _ _ _ q q2; rw [swoS.irrefl] at this; cases this
      simp [this]) ds
  refine ⟨hp.map _, ?_⟩
  unfold AscB
  rw [List.pairwise_map]
  refine hs.imp (fun {a b} h => ?_)
  have h1 : ltOf cfS b a = false := by simpa using h
  rwa [ltS] at h1

/-- A clone of whole numbers, and one taken out of it. -/
theorem cloneI_any {w : World} {A : Option Addr} {xs : List Int} {c : Nat} (h : Lies w.heap.size w A xs) (hp : 0 < xs.length) (h6 : xs.length ≤ 60000) :
    Calls Tryz.prog 53 #[.slice A xs.length c] w fun e w' => ∃ v, e = .returned (.slice (ad v) xs.length (cp v)) ∧ Holds w.heap.size w' (locs (.row v 3 (ints xs))) ∧ Below w.heap.size w w' := by
  obtain ⟨b, o, rfl, hb, hc⟩ := lies_at h hp
  refine (Tryz.slices_Clone_int b o xs.length c xs w (Nat.le_refl _) (by omega) hc).mono ?_
  rintro e w' ⟨v', rfl, ho, _, B⟩
  have H := (Holds.nothing w.heap.size w).laid (.loc 0) ho (by simp) B (Nat.le_refl _)
  rw [List.take_length] at H
  have e1 : upd (fun _ => Res.non) (.loc 0) (.row v' 3 (xs.map (Value.int .i64))) = locs (.row v' 3 (ints xs)) := rfl
  rw [e1] at H
  have hs := H.sl (k := .loc 0) rfl
  rw [ints_length] at hs
  exact ⟨v', by rw [← hs], H, B⟩

theorem cloneL_any {w : World} {A : Option Addr} {xs : List Int} {c : Nat} (h : Lies w.heap.size w A xs) (h6 : xs.length ≤ 60000) :
    Calls Tryz.prog 53 #[.slice A xs.length c] w fun e w' => ∃ v, e = .returned (.slice (ad v) xs.length (cp v)) ∧ Holds w.heap.size w' (locs (.row v 3 (ints xs))) ∧ Below w.heap.size w w' := by
  rcases Nat.eq_zero_or_pos xs.length with h0 | hp
  · obtain rfl := List.eq_nil_of_length_eq_zero h0
    cases A with
    | none =>
      refine (Tryz.slices_Clone_int_nil 0 c w).mono ?_
      rintro e w' ⟨rfl, rfl⟩
      exact ⟨.slice none 0 0, rfl, nil_put (Holds.nothing _ _) (Nat.le_refl _) (.loc 0) 3, Below.refl _ _⟩
    | some a =>
      refine (Tryz.slices_Clone_int_zero a c w).mono ?_
      rintro e w' ⟨v', rfl, ho, _, B⟩
      have H := (Holds.nothing w.heap.size w).laid (.loc 0) ho rfl B (Nat.le_refl _)
      have e1 : upd (fun _ => Res.non) (.loc 0) (.row v' 3 []) = locs (.row v' 3 (ints [])) := rfl
      rw [e1] at H
      have hs := H.sl (k := .loc 0) rfl
      exact ⟨v', congrArg Ending.returned hs, H, B⟩
  · exact cloneI_any h hp h6

theorem sort_dup {base : Nat} {w : World} {v : Value} {xs : List Int} (H : Holds base w (locs (.row v 3 (ints xs)))) (hbase : base ≤ w.heap.size) (hb : ∀ x ∈ xs, -60000 ≤ x ∧ x ≤ 60000) (h6 : xs.length ≤ 60000) :
    Calls Tryz.prog 54 #[.slice (ad v) xs.length (cp v), .func (.func 34) #[] #[]] w fun e w' => e = .returned (.tuple #[]) ∧ Below base w w' ∧ ∃ zs : List Int, zs.Perm xs ∧ AscB zs ∧ Holds base w' (locs (.row (.slice (ad v) xs.length (cp v)) 3 (ints zs))) := by
  have sl := H.sl (k := .loc 0) rfl
  rw [ints_length] at sl
  rcases Nat.eq_zero_or_pos xs.length with h0 | hp
  · obtain rfl := List.eq_nil_of_length_eq_zero h0
    have hS := Tryz.slices_SortFunc_none_f54 (α := Int) (ad v) (cp v) (.func (.func 34) #[] #[]) w
    change Calls Tryz.prog 54 _ _ _ at hS
    refine hS.mono ?_
    rintro e w' ⟨rfl, rfl⟩
    refine ⟨rfl, Below.refl _ _, [], List.Perm.refl _, List.Pairwise.nil, ?_⟩
    have e : Value.slice (ad v) ([] : List Int).length (cp v) = v := sl.symm
    rw [e]; exact H
  · have hm := toS_map xs hb
    have hlen : (toS xs hb).length = xs.length := by have := congrArg List.length hm; rwa [List.length_map] at this
    have ho : w.ownsRow 0 3 1 v (ints xs).length (ints xs) := H.owns (k := .loc 0) rfl
    rw [ints_length] at ho
    have hie : ints xs = (toS xs hb).map encS := by
      have : ints xs = ints ((toS xs hb).map (·.1)) := by rw [hm]
      rw [this]
      unfold ints
      rw [List.map_map]
      rfl
    rw [hie, ← hlen] at ho
    have hne : v ≠ .slice none 0 0 := by
      intro e
      have := H.ad_ (k := .loc 0) (t := 3) (xs := ints xs) rfl (by rw [ints_length]; exact hp)
      rw [e] at this; cases this
    have hbk := H.base (.loc 0) (gb v) (H.gb_ (k := .loc 0) (t := 3) (xs := ints xs) rfl (by rw [ints_length]; exact hp))
    obtain ⟨g, cap, hv, _, hg, hc, hmx, _, hh⟩ := Go.Lib.holds_of_ownsRow (enc := encS) (zs := toS xs hb) (by exact ho) hne
    have hgb : gb v = g := by rw [hv]; rfl
    rw [hgb] at hbk
    have eg : ∀ args w, (callFunc 34 args).run Tryz.prog w = .ok (.enter 34 args) w := enters_of Tryz.func34 (by kernel_rfl) rfl
    have hS := Tryz.slices_SortFunc_total_f54 encS (fun _ => rfl) cfS swoS 34 #[] g 0 cap (toS xs hb).toArray w eg (cmpS g 0 _ w) hh hg (by simp; omega) totS
    change Calls Tryz.prog 54 _ _ _ at hS
    have hms := merge_asc (toS xs hb)
    rw [hm] at hms
    obtain ⟨hmp, hma⟩ := hms
    have hsz : (toS xs hb).toArray.size = xs.length := by simp [hlen]
    have hav : ad v = some ⟨g, 0, none⟩ := by rw [hv]; rfl
    have hcv : cp v = cap := by rw [hv]; rfl
    rw [hsz] at hS
    rw [hav, hcv]
    refine hS.mono ?_
    rintro e w' ⟨rfl, n, os, rfl⟩
    unfold sortWorld
    have hls : ((toS xs hb).mergeSort fun x y => !ltOf cfS y x).length = xs.length := by rw [List.length_mergeSort, hlen]
    have o2 := Go.Lib.ownsRow_putRow (enc := encS) (q := n) (k := xs.length) (ys := (toS xs hb).mergeSort fun x y => !ltOf cfS y x) (by rw [← hv]; exact ho) (by rw [List.length_mergeSort]) (by omega)
    rw [List.take_of_length_le (by omega)] at o2
    have B1 := Go.Lib.below_putRow (enc := encS) (q := n) (d := ((toS xs hb).mergeSort fun x y => !ltOf cfS y x).toArray) (Below.refl base w) hbk
    have B2 := B1.grown (grownBy_grow _ os) (Nat.le_trans hbase B1.size) (fun b hb => by cases hb)
    have e2 : ((toS xs hb).mergeSort fun x y => !ltOf cfS y x).map encS = (((toS xs hb).mergeSort fun x y => !ltOf cfS y x).map (·.1)).map (Value.int .i64) := by
      rw [List.map_map]; rfl
    rw [e2] at o2
    refine ⟨rfl, B2, _, hmp, hma, ?_⟩
    exact (holds_locs hbk o2 (by rw [List.length_map, hls])).grow (grownBy_grow _ os)


set_option maxRecDepth 100000 in
/-- tidied: by variables, each once. -/
theorem tidied_any {w : World} {A : Option Addr} {xs : List Int} {c : Nat} (h : Lies w.heap.size w A xs) (h6 : xs.length ≤ 60000) (hb : ∀ x ∈ xs, -60000 ≤ x ∧ x ≤ 60000) :
    Calls Tryz.prog 24 #[.slice A xs.length c] w fun e w' => ∃ v, e = .returned (.slice (ad v) (sortedM xs).length (cp v)) ∧ Holds w.heap.size w' (locs (.row v 3 (ints (sortedM xs)))) ∧ Below w.heap.size w w' := by
  have CL := cloneL_any (c := c) h h6
  have XB : Hid _ := hb
  clear h hb
  go_enter Tryz.func24, Tryz.ntmps24
  go_wp2_with fail
  refine CL.mono ?_
  rintro e w1 ⟨v, rfl, H1, B1⟩
  have SD := sort_dup H1 B1.size XB.out h6
  have BH : Hid _ := B1
  clear CL H1 B1
  go_wp2_with fail
  refine SD.mono ?_
  rintro e w2 ⟨rfl, B2, zs, hp, ha, H2⟩
  have e1 : zs.length = xs.length := hp.length_eq
  have CO := compact_own H2 (by rw [e1]; exact h6)
  rw [compact_sortedB hp ha, e1] at CO
  have BH2 : Hid _ := BH.out.trans B2
  simp only [ad, cp] at CO
  clear SD H2 B2 hp ha e1 BH
  go_wp2_with fail
  refine CO.mono ?_
  rintro e w3 ⟨v', rfl, B3, H3⟩
  have HH : Hid _ := H3
  have BE : Hid _ := BH2.out.trans B3
  have hs := H3.sl (k := .loc 0) rfl
  rw [ints_length] at hs
  have HS : Hid _ := hs
  clear CO H3 B3 hs
  go_wp2_with fail
  go_ret
  exact ⟨v', by rw [← HS.out]; rfl, HH.out, BE.out⟩
theorem heap_putRow_other {α : Type} [Inhabited α] (enc : α → Value) (w : World) (blk off : Nat) (d : Array α) {b : Nat} (h : b ≠ blk) : (Go.Sort.putRow enc w blk off d).heap[b]? = w.heap[b]? := by
  simp [Go.Sort.putRow, Go.Sort.mapBlock, Array.getElem?_modify]
  intro e
  exact absurd e.symm h
theorem sortWorld_by {α : Type} [Inhabited α] (enc : α → Value) (w : World) (g m : Nat) (dk : Array α) (os : Array Obj) : w.grownBy (sortWorld enc w g 0 m dk os) (some g) := by
  refine ⟨rfl, rfl, rfl, ?_, fun b hb hne => ?_⟩
  · unfold sortWorld Go.Sort.grow
    show _ ≤ (Array.append _ _).size
    have : (Go.Sort.putRow enc (Sort.ahead w m) g 0 dk).heap.size = w.heap.size := by rw [size_putRow]; rfl
    show _ ≤ ((Go.Sort.putRow enc (Sort.ahead w m) g 0 dk).heap ++ os).size
    rw [Array.size_append, this]; omega
  · unfold sortWorld
    have hz : (Go.Sort.putRow enc (Sort.ahead w m) g 0 dk).heap.size = w.heap.size := by rw [size_putRow]; rfl
    show ((Go.Sort.putRow enc (Sort.ahead w m) g 0 dk).heap ++ os)[b]? = _
    rw [Array.getElem?_append_left (by rw [hz]; exact hb), heap_putRow_other _ _ _ _ _ (fun e => hne (by rw [e]))]
    rfl

end Go.Proofs.YtdllaphnkbnpoaaGreat
