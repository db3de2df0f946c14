/- Walks for ClauseTidy: Count's closures. -/
import Derived.Test.YtdllaphnkbnpoaaGreatTh
import Derived.BigQuiet
namespace Go.Proofs.YtdllaphnkbnpoaaGreat
open Go.RowKit Go.Proofs

theorem bits_and_i64_nat (a b : Nat) (ha : a < 9223372036854775808) (hb : b < 9223372036854775808) :
    bits .and .i64 (a : Int) (b : Int) = ((a &&& b : Nat) : Int) := by
  have hx : a &&& b < 2 ^ 63 := Nat.and_lt_two_pow _ (by omega)
  have h1 : (BitVec.ofInt 64 (a : Int)).toNat = a := by
    rw [BitVec.ofInt_natCast, BitVec.toNat_ofNat]; exact Nat.mod_eq_of_lt (by omega)
  have h2 : (BitVec.ofInt 64 (b : Int)).toNat = b := by
    rw [BitVec.ofInt_natCast, BitVec.toNat_ofNat]; exact Nat.mod_eq_of_lt (by omega)
  show IntKind.i64.wrap ((BitVec.ofInt 64 (a : Int) &&& BitVec.ofInt 64 (b : Int)).toNat : Int) = _
  rw [BitVec.toNat_and, h1, h2]
  exact IntWalk.i64_in _ (by omega)

/-- What the slots of values say of a literal. -/
def saysM (bs : List Bool) (l : Int) : Bool := bs.getD l.natAbs false == decide (0 < l)

theorem cntIn_any {w : World} {B : Nat} {base : Nat} {L : Key → Res} {k : Key} {vb : Value} {bs : List Bool} {l : Int} (H : Holds base w L) (hk : L k = .row vb 4 (bools bs)) (hl : bs.length = 201) (hc : w.cell? ⟨B, 0, none⟩ = some (.slice (ad vb) 201 (cp vb))) (h0 : l ≠ 0) (h1 : l.natAbs ≤ 200) :
    Calls Tryz.prog 44 #[.int .i64 l, .pointer (some ⟨B, 0, none⟩)] w fun e w' => e = .returned (.bool (saysM bs l)) ∧ Below w.heap.size w w' := by
  have ha : ad vb = some ⟨gb vb, 0, none⟩ := H.ad_ hk (by rw [bools_length]; omega)
  have ec : w.cell? ⟨gb vb, l.natAbs, none⟩ = some (.bool (bs.getD l.natAbs false)) := H.elem hk (bools_at bs (by omega))
  rw [ha] at hc
  have CV : ∀ W : World, Calls Tryz.prog 23 #[.int .i64 l] W fun e w' => e = .returned (.int .i64 (l.natAbs : Int)) ∧ w' = W := fun W => (cvariable_any l W (by omega) (by omega)).mono (fun _ _ h => ⟨h.1, h.2.symm⟩)
  unfold saysM
  clear H hk hl ha
  generalize bs.getD l.natAbs false = x at *
  by_cases hp : 0 < l
  · rw [decide_eq_true hp]
    have i4 : ((l.natAbs : Nat) : Int) < 201 := by omega
    generalize l.natAbs = n at *
    clear h0 h1
    go_enter Tryz.func44, Tryz.ntmps44
    go_wp2_with fail
    go_quiet ((go_at_call 23; exact Calls.quiet_of_same (CV _)))
    go_wp2_with fail
    go_ret
    exact ⟨by cases x <;> rfl, below_drewN_ (Below.refl _ _) _⟩
  · rw [decide_eq_false hp]
    have hp2 : l ≤ 0 := by omega
    have hp3 : decide (0 < l) = false := decide_eq_false hp
    have i4 : ((l.natAbs : Nat) : Int) < 201 := by omega
    generalize l.natAbs = n at *
    clear h0 h1 hp
    go_enter Tryz.func44, Tryz.ntmps44
    go_wp2_with fail
    go_quiet ((go_at_call 23; exact Calls.quiet_of_same (CV _)))
    go_wp2_with fail
    go_ret
    exact ⟨by cases x <;> rfl, below_drewN_ (Below.refl _ _) _⟩

/-- Count's outer closure: a clause that no literal makes true. -/
theorem cntOut_any {w : World} {B base : Nat} {L : Key → Res} {k : Key} {vb : Value} {bs : List Bool} {A : Option Addr} {c : List Int} {cc : Nat} (H : Holds base w L) (hk : L k = .row vb 4 (bools bs)) (hl : bs.length = 201) (hc : w.cell? ⟨B, 0, none⟩ = some (.slice (ad vb) 201 (cp vb))) (hB : B < w.heap.size)
    (hli : Lies w.heap.size w A c) (hn : c.length ≤ 60000) (h0 : ∀ x ∈ c, x ≠ 0 ∧ x.natAbs ≤ 200) :
    Calls Tryz.prog 42 #[.slice A c.length cc, .pointer (some ⟨B, 0, none⟩)] w fun e w' => e = .returned (.bool (!(c.any fun l => saysM bs l))) ∧ Below w.heap.size w w' := by
  have CF := containsFunc_int (w := w) (c := cc) (lb := #[.pointer (some ⟨B, 0, none⟩)]) (b := fun j => saysM bs (c.getD j 0)) (by omega) (g := 44) (enters_of Tryz.func44 (by kernel_rfl) rfl) (lies_elems hli (Nat.le_refl _)) (fun j hj W hW => by
    have hx := h0 _ (row_ne c 0 hj)
    refine (cntIn_any (B := B) (H.other (fun b _ h2 => hW.block b h2)) hk hl (cell_keep hB hW hc) hx.1 hx.2).mono ?_
    rintro e w' ⟨rfl, B3⟩
    exact ⟨rfl, hW.trans (B3.mono hW.size)⟩)
  rw [anyB_list c (fun l => saysM bs l)] at CF
  generalize (c.any fun l => saysM bs l) = r at *
  clear H hk hl hc hli h0
  go_enter Tryz.func42, Tryz.ntmps42
  go_wp2_with fail
  refine CF.mono ?_
  rintro e w' ⟨rfl, B1⟩
  have BH : Hid _ := B1
  clear CF B1
  go_wp2_with fail
  go_ret
  exact ⟨rfl, BH.out⟩

theorem cntAll_any {w : World} {B base : Nat} {L : Key → Res} {k : Key} {vb : Value} {bs : List Bool} {A : Option Addr} {D : List (List Int)} {cc : Nat} (H : Holds base w L) (hk : L k = .row vb 4 (bools bs)) (hl : bs.length = 201) (hc : w.cell? ⟨B, 0, none⟩ = some (.slice (ad vb) 201 (cp vb))) (hB : B < w.heap.size)
    (hli : LiesR w.heap.size w A D) (hn : D.length ≤ 60000) (hm : ∀ e ∈ D, e.length ≤ 60000) (h0 : ∀ e ∈ D, ∀ x ∈ e, x ≠ 0 ∧ x.natAbs ≤ 200) :
    Calls Tryz.prog 35 #[.slice A D.length cc, .func (.func 42) #[] #[.pointer (some ⟨B, 0, none⟩)]] w fun e w' => e = .returned (.bool (D.any fun c => !(c.any fun l => saysM bs l))) ∧ Below w.heap.size w w' := by
  have r2 := liesR_rows hli (Nat.le_refl w.heap.size)
  have CF := containsFunc_row (c := cc) (lb := #[.pointer (some ⟨B, 0, none⟩)]) (b := fun j => (fun c : List Int => !(c.any fun l => saysM bs l)) (D.getD j [])) (by omega) (g := 42) (enters_of Tryz.func42 (by kernel_rfl) rfl) r2.1 (fun j hj W hW => by
    obtain ⟨A', c', e1, _, hli⟩ := r2.2 j hj
    rw [e1]
    refine (cntOut_any (B := B) (cc := c') (H.other (fun b _ h2 => hW.block b h2)) hk hl (cell_keep hB hW hc) (Nat.lt_of_lt_of_le hB hW.size) ((hli.below hW).mono hW.size) (hm _ (row_ne D [] hj)) (h0 _ (row_ne D [] hj))).mono ?_
    rintro e w' ⟨rfl, B3⟩
    exact ⟨rfl, hW.trans (B3.mono hW.size)⟩)
  rwa [anyB_rows D (fun c : List Int => !(c.any fun l => saysM bs l))] at CF

/-- The slots say what an assignment says. -/
theorem says_assign {vs : List Int} {bs : List Bool} {b : Nat} (hp : vs.Pairwise (· < ·)) (h0 : ∀ v ∈ vs, 0 < v) (hs : ∀ i, i < vs.length → bs.getD (vs.getD i 0).toNat false = decide (b / 2 ^ i % 2 = 1)) {l : Int} (hl : l ≠ 0) (hm : (l.natAbs : Int) ∈ vs) : saysM bs l = (assignL vs b).contains l := by
  obtain ⟨i, hi, e⟩ := List.getElem_of_mem hm
  have ei : vs.getD i 0 = (l.natAbs : Int) := by simp [hi, e]
  have h1 := hs i hi
  rw [ei] at h1
  have e2 : ((l.natAbs : Int)).toNat = l.natAbs := by omega
  rw [e2] at h1
  unfold saysM
  rw [h1]
  by_cases hb : b / 2 ^ i % 2 = 1
  · rw [decide_eq_true hb]
    by_cases hl2 : 0 < l
    · rw [decide_eq_true hl2]
      have : l ∈ assignL vs b := by
        unfold assignL
        refine List.mem_map.2 ⟨i, List.mem_range.2 hi, ?_⟩
        rw [if_pos hb, ei]; omega
      simpa using this
    · rw [decide_eq_false hl2]
      have : l ∉ assignL vs b := by
        intro hm2
        unfold assignL at hm2
        obtain ⟨j, hj, e3⟩ := List.mem_map.1 hm2
        have hj := List.mem_range.1 hj
        have vj : vs.getD j 0 ∈ vs := row_ne vs 0 hj
        have v0 := h0 _ vj
        split at e3
        · omega
        · rename_i hbj
          have : j = i := by
            rcases Nat.lt_trichotomy j i with q | q | q
            · have := List.pairwise_iff_getElem.1 hp j i hj hi q
              have e5 : vs.getD j 0 = vs[j] := by simp [hj]
              omega
            · exact q
            · have := List.pairwise_iff_getElem.1 hp i j hi hj q
              have e5 : vs.getD j 0 = vs[j] := by simp [hj]
              omega
          subst this
          exact hbj hb
      simpa using this
  · rw [decide_eq_false hb]
    by_cases hl2 : 0 < l
    · rw [decide_eq_true hl2]
      have : l ∉ assignL vs b := by
        intro hm2
        unfold assignL at hm2
        obtain ⟨j, hj, e3⟩ := List.mem_map.1 hm2
        have hj := List.mem_range.1 hj
        have vj : vs.getD j 0 ∈ vs := row_ne vs 0 hj
        have v0 := h0 _ vj
        split at e3
        · rename_i hbj
          have : j = i := by
            rcases Nat.lt_trichotomy j i with q | q | q
            · have := List.pairwise_iff_getElem.1 hp j i hj hi q
              have e5 : vs.getD j 0 = vs[j] := by simp [hj]
              omega
            · exact q
            · have := List.pairwise_iff_getElem.1 hp i j hi hj q
              have e5 : vs.getD j 0 = vs[j] := by simp [hj]
              omega
          subst this
          exact hb hbj
        · omega
      simpa using this
    · rw [decide_eq_false hl2]
      have : l ∈ assignL vs b := by
        unfold assignL
        refine List.mem_map.2 ⟨i, List.mem_range.2 hi, ?_⟩
        rw [if_neg hb, ei]; omega
      simpa using this
theorem says_holds {D : List (List Int)} {vs : List Int} {bs : List Bool} {b : Nat} (hp : vs.Pairwise (· < ·)) (h0 : ∀ v ∈ vs, 0 < v) (hs : ∀ i, i < vs.length → bs.getD (vs.getD i 0).toNat false = decide (b / 2 ^ i % 2 = 1)) (hD : ∀ e ∈ D, ∀ x ∈ e, x ≠ 0 ∧ (x.natAbs : Int) ∈ vs) : (!(D.any fun c => !(c.any fun l => saysM bs l))) = holdsM D (assignL vs b) := by
  unfold holdsM
  rw [List.all_eq_not_any_not]
  congr 1
  rw [Bool.eq_iff_iff, List.any_eq_true, List.any_eq_true]
  have key : ∀ c ∈ D, (c.any fun l => saysM bs l) = (c.any fun x => (assignL vs b).contains x) := fun c hc => by
    rw [Bool.eq_iff_iff, List.any_eq_true, List.any_eq_true]
    constructor
    · rintro ⟨x, hx, h⟩
      exact ⟨x, hx, by rw [← says_assign hp h0 hs (hD c hc x hx).1 (hD c hc x hx).2]; exact h⟩
    · rintro ⟨x, hx, h⟩
      exact ⟨x, hx, by rw [says_assign hp h0 hs (hD c hc x hx).1 (hD c hc x hx).2]; exact h⟩
  constructor
  · rintro ⟨c, hc, h⟩; exact ⟨c, hc, by rw [← key c hc]; exact h⟩
  · rintro ⟨c, hc, h⟩; exact ⟨c, hc, by rw [key c hc]; exact h⟩
end Go.Proofs.YtdllaphnkbnpoaaGreat
