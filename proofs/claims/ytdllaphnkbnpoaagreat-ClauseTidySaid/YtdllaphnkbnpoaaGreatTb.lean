/- Walks for ClauseTidy: has, within, shorter, the comparison of rows. -/
import Derived.Test.YtdllaphnkbnpoaaGreatTa
namespace Go.Proofs.YtdllaphnkbnpoaaGreat
open Go.RowKit Go.Proofs

theorem hasIn_any {w : World} {B c : Nat} {x : Int} {A : Option Addr} {l : List Int} (hc : w.cell? ⟨B, 0, none⟩ = some (.slice A l.length c)) (h : Lies w.heap.size w A l) (hn : l.length ≤ 9223372036854775807) :
    Calls Tryz.prog 62 #[.int .i64 x, .pointer (some ⟨B, 0, none⟩)] w fun e w' => e = .returned (.bool (!l.contains x)) ∧ w' = w := by
  have C := containsI_any (c := c) h hn x
  generalize l.contains x = r at *
  clear h
  go_enter Tryz.func62, Tryz.ntmps62
  go_wp2_with fail
  refine C.mono ?_
  rintro e w' ⟨rfl, rfl⟩
  clear C
  go_wp2_with fail
  go_ret
  exact ⟨rfl, rfl⟩

theorem not_any_within (d c : List Int) : (!(d.any fun x => !c.contains x)) = withinM d c := by
  unfold withinM
  rw [List.all_eq_not_any_not]

theorem has2_any {w : World} {A A' : Option Addr} {l d : List Int} {c c' : Nat} (h : Lies w.heap.size w A l) (hn : l.length ≤ 9223372036854775807) (he : Lies w.heap.size w A' d) (hn2 : d.length ≤ 9223372036854775807) :
    Calls Tryz.prog 37 #[.slice A l.length c, .slice A' d.length c'] w fun e w' => e = .returned (.bool (withinM d l)) ∧ Below w.heap.size w w' := by
  obtain ⟨w1, hw1⟩ : ∃ w1, w1 = w.alloc (.cells #[.slice A l.length c] 23) := ⟨_, rfl⟩
  have s1 : w1.heap.size = w.heap.size + 1 := by rw [hw1, size_alloc]
  have B1 : Below w.heap.size w w1 := by rw [hw1]; exact (Below.refl _ _).alloc (Nat.le_refl _) _
  have k1 : w1.cell? ⟨w.heap.size, 0, none⟩ = some (.slice A l.length c) := by rw [hw1]; exact cell_new _ _ _ _ rfl
  have CF := containsFunc_int (w := w1) (c := c') (lb := #[.pointer (some ⟨w.heap.size, 0, none⟩)]) (b := fun j => !l.contains (d.getD j 0)) hn2 (g := 62) (enters_of Tryz.func62 (by kernel_rfl) rfl) (lies_elems (he.below B1) B1.size) (fun j hj W hW => by
    refine (hasIn_any (B := w.heap.size) (c := c) (x := d.getD j 0) (A := A) (l := l) (by rw [World.cell?_of_block (a := ⟨w.heap.size, 0, none⟩) (hW.block w.heap.size (by omega))]; exact k1) ((h.below (B1.trans (hW.mono B1.size))).mono (Nat.le_trans B1.size hW.size)) hn).mono ?_
    rintro e w' ⟨rfl, rfl⟩
    exact ⟨rfl, hW⟩)
  rw [anyB_list d (fun x => !l.contains x)] at CF
  have NW := not_any_within d l
  generalize (d.any fun x => !l.contains x) = r at *
  rw [← NW]
  have BH : Hid _ := B1
  have HW : Hid _ := hw1
  clear h he k1 B1 NW hw1
  go_enter Tryz.func37, Tryz.ntmps37
  go_wp2_with (rw [← HW.out]; refine CF.mono ?_; rintro e w2 ⟨rfl, B2⟩)
  have BF : Hid (Below w.heap.size w w2) := BH.out.trans (B2.mono BH.out.size)
  clear CF B2
  go_wp2_with fail
  go_ret
  exact ⟨rfl, BF.out⟩

/-- Tidy's second closure. -/
theorem tidy2_any {w : World} {B c c' : Nat} {A A' : Option Addr} {l d : List Int} (hc : w.cell? ⟨B, 0, none⟩ = some (.slice A l.length c)) (h : Lies w.heap.size w A l) (hn : l.length ≤ 9223372036854775807) (he : Lies w.heap.size w A' d) (hn2 : d.length ≤ 9223372036854775807) :
    Calls Tryz.prog 36 #[.slice A' d.length c', .pointer (some ⟨B, 0, none⟩)] w fun e w' => e = .returned (.bool (withinM d l)) ∧ Below w.heap.size w w' := by
  have C := has2_any (c := c) (c' := c') h hn he hn2
  generalize withinM d l = r at *
  clear h he
  go_enter Tryz.func36, Tryz.ntmps36
  go_wp2_with fail
  refine C.mono ?_
  rintro e w' ⟨rfl, B⟩
  have BH : Hid _ := B
  clear C B
  go_wp2_with fail
  go_ret
  exact ⟨rfl, BH.out⟩

/-- within: the first literal that the other row lacks. -/
theorem within_yes {d c : List Int} {i : Nat} (hi : i < d.length) (h : c.contains (d.getD i 0) = false) : withinM d c = false := by
  cases e : withinM d c with
  | false => rfl
  | true =>
    unfold withinM at e
    have := List.all_eq_true.1 e _ (row_ne d 0 hi)
    rw [h] at this; cases this
theorem within_no {d c : List Int} (h : ∀ j, j < d.length → c.contains (d.getD j 0) = true) : withinM d c = true := by
  unfold withinM
  rw [List.all_eq_true]
  intro x hx
  obtain ⟨j, hj, rfl⟩ := List.getElem_of_mem hx
  have := h j hj
  simpa [hj] using this

set_option maxHeartbeats 1000000 in
theorem within_any {w : World} {A A' : Option Addr} {d l : List Int} {c c' : Nat} (h : Lies w.heap.size w A d) (hn : d.length ≤ 9223372036854775807) (h2 : Lies w.heap.size w A' l) (hn2 : l.length ≤ 9223372036854775807) :
    Calls Tryz.prog 40 #[.slice A d.length c, .slice A' l.length c'] w fun e w' => e = .returned (.bool (withinM d l)) ∧ w' = w := by
  have start : Hid (CntRel w d.length (fun j => l.contains (d.getD j 0) = true) d.length (.int .i64 ((0 : Nat) : Int)) w) := ⟨0, rfl, by omega, rfl, fun j hj => absurd hj (Nat.not_lt_zero _)⟩
  have HH : Hid _ := h
  have H2 : Hid _ := h2
  clear h h2
  go_enter Tryz.func40, Tryz.ntmps40
  go_wp2_with fail
  go_loopg [5] d.length (fun k x5 wr => CntRel w d.length (fun j => l.contains (d.getD j 0) = true) k x5 wr)
  case atStart => exact start.out
  case round =>
    clear start
    obtain ⟨i, rfl, hki, rfl, hall⟩ := hrel
    by_cases hlt : i < d.length
    · obtain ⟨b, o, rfl, _, hc⟩ := lies_at HH.out hlt
      have e1 := hc i hlt
      have YES : Hid (l.contains (d.getD i 0) = false → withinM d l = false) := within_yes hlt
      have NO : Hid (l.contains (d.getD i 0) = true → ∀ j, j < i + 1 → l.contains (d.getD j 0) = true) := fun h j hj => by
        rcases Nat.lt_or_ge j i with q | q
        · exact hall j q
        · have : j = i := by omega
          subst this; exact h
      have C := has_any (w := wr) (c := c') (x := d.getD i 0) H2.out hn2
      clear hall hc
      generalize d.getD i 0 = y at *
      cases hy : l.contains y with
      | false =>
        have hT : Hid _ := YES.out hy
        rw [hy] at C
        clear YES NO hy
        go_wp2_with fail
        refine C.mono ?_
        rintro e w' ⟨rfl, rfl⟩
        clear C
        go_wp2_with fail
        go_ret
        exact ⟨by rw [hT.out]; rfl, rfl⟩
      | true =>
        have hT : Hid _ := NO.out hy
        rw [hy] at C
        clear YES NO hy
        go_wp2_with fail
        refine C.mono ?_
        rintro e w' ⟨rfl, rfl⟩
        clear C
        go_wp2_with fail
        go_roundg (gk - 1)
        case measure => omega
        case rel => exact ⟨i + 1, by go_num, by omega, rfl, hT.out⟩
    · have hge : decide (i < d.length) = false := decide_eq_false (by omega)
      have hge2 : d.length ≤ i := by omega
      have hF : Hid _ := within_no (d := d) (c := l) (fun j hj => hall j (by omega))
      clear hall hlt
      go_wp2_with fail
      go_ret
      exact ⟨by rw [hF.out]; rfl, rfl⟩
end Go.Proofs.YtdllaphnkbnpoaaGreat
