/- KindInstances, part 8: the print's words and functions that it leans on, cut to what is reached, and own texts. -/
import Derived.Test.YtcjmplpfebpfpaaGreatDoorRows
import Derived.ChangeSame
import Derived.OpenShut
import Derived.Deep.Slices
import Derived.ChangeAt
import Derived.Test.YtcjmplpfebpfpaaGreatDoorNi7
namespace Go.Proofs.YtcjmplpfebpfpaaGreatDoor
open Go.RowKit Go.Proofs Go.Proofs.YtcjmplpfebpfpaaGreatDoorW.PrintWords Go.Proofs.YtcjmplpfebpfpaaGreatDoorW.PrintLast Go.Proofs.YtcjmplpfebpfpaaGreatDoorW.PrintMore PKindInstances
set_option linter.unusedVariables false
set_option linter.unusedSimpArgs false

def wordF (s : ByteArray) : S24 := ⟨1, 0, s, []⟩
def listF (l : List S24) : S24 := ⟨3, 0, ⟨#[]⟩, l⟩

/-- A row of forms out of a block's cells. -/
theorem row_of_cells {w : World} {b : Nat} {t : TypeId} {xs : List S24} {cs : Array Value} (h : w.heap[b]? = some (.cells cs t (0, 0))) (hl : xs.length < 9000000)
    (hK : ∀ (j : Nat) (x : S24), xs[j]? = some x → ∃ A c, x.f3.length ≤ c ∧ Kd.C k24 w A x.f3.length x.f3 ∧ cs[j * 4]? = some (.int .i64 x.f0) ∧ cs[j * 4 + 1]? = some (.int .i64 x.f1) ∧ cs[j * 4 + 2]? = some (.string x.f2) ∧ cs[j * 4 + 3]? = some (.slice A x.f3.length c)) :
    Kd.C k24 w (some ⟨b, 0, none⟩) xs.length xs := by
  refine ⟨rfl, by omega, fun _ => ⟨_, rfl, fun j p hj => ?_⟩⟩
  obtain ⟨A, c, hc, hx, c0, c1, c2, c3⟩ := hK j p hj
  refine ⟨_, rfl, k24_mk w p hc hx, fun i u hu => ?_⟩
  have e : (Addr.mk b 0 none).add (j * k24.sz + i) = ⟨b, j * 4 + i, none⟩ := by
    rw [show k24.sz = 4 from rfl]; simp [Addr.add]; intros; omega
  rw [e]
  match i, hu with
  | 0, hu => obtain rfl := Option.some.inj hu; simpa [World.cell?, h] using c0
  | 1, hu => obtain rfl := Option.some.inj hu; simpa [World.cell?, h] using c1
  | 2, hu => obtain rfl := Option.some.inj hu; simpa [World.cell?, h] using c2
  | 3, hu => obtain rfl := Option.some.inj hu; simpa [World.cell?, h] using c3
  | i + 4, hu => simp at hu

theorem leafC_word {s : ByteArray} (hs : s.size ≤ 30) (hne : (s.toList == []) = false) : LeafC (wordF s) := by
  intro A c w
  refine (leaf_word 0 s A 0 c w hs hne).mono ?_
  rintro e w' ⟨rfl, B⟩
  exact ⟨rfl, B⟩
theorem leafC_list (l : List S24) : LeafC (listF l) := by
  intro A c w
  refine (leaf_list 0 ⟨#[]⟩ A l.length c w).mono ?_
  rintro e w' ⟨rfl, B⟩
  exact ⟨rfl, B⟩

theorem texts_of_cells {w : World} {b : Nat} {t : TypeId} {xs : List ByteArray} {cs : Array Value} (h : w.heap[b]? = some (.cells cs t (0, 0))) (hl : xs.length < 9000000) (hK : ∀ (j : Nat) (x : ByteArray), xs[j]? = some x → cs[j]? = some (.string x)) :
    Kd.C Kd.string w (some ⟨b, 0, none⟩) xs.length xs := by
  refine ⟨rfl, by omega, fun _ => ⟨_, rfl, fun j p hj => ⟨[.string p], rfl, rfl, fun i u hu => ?_⟩⟩⟩
  match i, hu with
  | 0, hu =>
    obtain rfl := Option.some.inj hu
    have e : (Addr.mk b 0 none).add (j * Kd.string.sz + 0) = ⟨b, j, none⟩ := by
      rw [show Kd.string.sz = 1 from rfl]; simp [Addr.add]; intros; omega
    rw [e]
    simpa [World.cell?, h] using hK j p hj
  | i + 1, hu => simp at hu

/-- Unify where the forms do not go together. -/
theorem unify_stop (x y : S24) (vars : List ByteArray) (A B AN : Option Addr) (c d cn : Nat) (w : World) (n : Nat) (r : Int) (hx : Kd.C k24 w A x.f3.length x.f3) (hc : x.f3.length ≤ c) (hy : Kd.C k24 w B y.f3.length y.f3) (hd : y.f3.length ≤ d)
    (hv : Kd.C Kd.string w AN vars.length vars) (hcn : vars.length ≤ cn) (hn : vars.length < 9000000) (hq : ∀ v ∈ vars, LeafC ⟨1, 0, v, []⟩ ∧ v.size < 8000000) (hax : allC x) (hwx : wid x < 9000000) (hay : allC y) (hwy : wid y < 9000000)
    (hgood : (namesM [] vars && rowsM [[x], [y]]) = true) (hR : allM vars n [] [x] [y] = some (.stop r)) :
    Calls Tryz.prog 22 #[formV x.f0 x.f1 x.f2 A x.f3.length c, formV y.f0 y.f1 y.f2 B y.f3.length d, .slice AN vars.length cn] w fun e w' => e = .returned (.tuple #[.slice none 0 0, .int .i64 r]) ∧ Below w.heap.size w w' := by
  have h := Unify_of x y A B c d (.slice AN vars.length cn) w (fun v E _ => v = .slice none 0 0 ∧ E = r) hx hc hy hd (fun W p q hW hp hq' => by
    refine (UnifyAll_good [x] [y] vars (some ⟨p, 0, none⟩) (some ⟨q, 0, none⟩) AN 1 1 cn W (Kd.C_below hv hW) hcn hp (Nat.le_refl _) hq' (Nat.le_refl _) hn hq ⟨by simp, by simp; exact ⟨hax, hwx⟩⟩ ⟨by simp, by simp; exact ⟨hay, hwy⟩⟩ hgood n _ hR (fun _ _ _ => True) (fun _ _ _ _ _ _ => trivial) (fun mt h => by cases h)).mono ?_
    rintro e w' ⟨rfl, hb⟩
    exact ⟨none, 0, 0, r, rfl, ⟨rfl, rfl⟩, hb⟩)
  refine h.mono ?_
  rintro e w' ⟨A1, n1, c1, E1, rfl, ⟨h1, rfl⟩, hb⟩
  cases h1
  exact ⟨rfl, hb⟩

def wSeq : ByteArray := ⟨#[115, 101, 113]⟩
def wA : ByteArray := ⟨#[97]⟩
def wB : ByteArray := ⟨#[98]⟩
def wMap : ByteArray := ⟨#[109, 97, 112]⟩
def wInt : ByteArray := ⟨#[105, 110, 116]⟩
theorem leaf_w {s : ByteArray} (h : s = wSeq ∨ s = wA ∨ s = wB ∨ s = wMap ∨ s = wInt) : LeafC (wordF s) := by
  rcases h with rfl | rfl | rfl | rfl | rfl <;> exact leafC_word (by decide) (by kernel_rfl)

theorem words_row {w : World} {b : Nat} {t : TypeId} {x y : ByteArray} (h : w.heap[b]? = some (.cells #[.int .i64 1, .int .i64 0, .string x, .slice none 0 0, .int .i64 1, .int .i64 0, .string y, .slice none 0 0] t (0, 0))) :
    Kd.C k24 w (some ⟨b, 0, none⟩) [wordF x, wordF y].length [wordF x, wordF y] := by
  refine row_of_cells h (by simp) fun j p hj => ?_
  match j, hj with
  | 0, hj => obtain rfl := Option.some.inj hj; exact ⟨none, 0, Nat.le_refl _, Kd.C_nil _ _, rfl, rfl, rfl, rfl⟩
  | 1, hj => obtain rfl := Option.some.inj hj; exact ⟨none, 0, Nat.le_refl _, Kd.C_nil _ _, rfl, rfl, rfl, rfl⟩
  | j + 2, hj => simp at hj

def exX : S24 := listF [wordF wSeq, wordF wA]
def exM : S24 := listF [wordF wMap, wordF wA, listF [wordF wSeq, wordF wB]]
def exN : S24 := listF [wordF wMap, wordF wInt, wordF wA]
theorem ex1 (A AN : Option Addr) (w : World) (hx : Kd.C k24 w A 2 [wordF wSeq, wordF wA]) (hv : Kd.C Kd.string w AN 1 [wA]) :
    Calls Tryz.prog 22 #[formV 3 0 ⟨#[]⟩ A 2 2, formV 1 0 wA none 0 0, .slice AN 1 1] w fun e w' => e = .returned (.tuple #[.slice none 0 0, .int .i64 11]) ∧ Below w.heap.size w w' :=
  unify_stop exX (wordF wA) [wA] A none AN 2 0 1 w 10 11 hx (Nat.le_refl _) (Kd.C_nil _ _) (Nat.le_refl _) hv (Nat.le_refl _) (by simp) (by simp; exact ⟨leaf_w (.inr (.inl rfl)), by decide⟩)
    ⟨leafC_list _, ⟨leaf_w (.inl rfl), trivial⟩, ⟨leaf_w (.inr (.inl rfl)), trivial⟩, trivial⟩ (by decide) ⟨leaf_w (.inr (.inl rfl)), trivial⟩ (by decide) (by kernel_rfl) (by kernel_rfl)
theorem ex2 (A B AN : Option Addr) (w : World) (hx : Kd.C k24 w A 3 [wordF wMap, wordF wA, listF [wordF wSeq, wordF wB]]) (hy : Kd.C k24 w B 3 [wordF wMap, wordF wInt, wordF wA]) (hv : Kd.C Kd.string w AN 2 [wA, wB]) :
    Calls Tryz.prog 22 #[formV 3 0 ⟨#[]⟩ A 3 3, formV 3 0 ⟨#[]⟩ B 3 3, .slice AN 2 2] w fun e w' => e = .returned (.tuple #[.slice none 0 0, .int .i64 8]) ∧ Below w.heap.size w w' :=
  unify_stop exM exN [wA, wB] A B AN 3 3 2 w 10 8 hx (Nat.le_refl _) hy (Nat.le_refl _) hv (Nat.le_refl _) (by simp) (by simp; exact ⟨⟨leaf_w (.inr (.inl rfl)), by decide⟩, leaf_w (.inr (.inr (.inl rfl))), by decide⟩)
    ⟨leafC_list _, ⟨leaf_w (.inr (.inr (.inr (.inl rfl)))), trivial⟩, ⟨leaf_w (.inr (.inl rfl)), trivial⟩, ⟨leafC_list _, ⟨leaf_w (.inl rfl), trivial⟩, ⟨leaf_w (.inr (.inr (.inl rfl))), trivial⟩, trivial⟩, trivial⟩ (by decide)
    ⟨leafC_list _, ⟨leaf_w (.inr (.inr (.inr (.inl rfl)))), trivial⟩, ⟨leaf_w (.inr (.inr (.inr (.inr rfl)))), trivial⟩, ⟨leaf_w (.inr (.inl rfl)), trivial⟩, trivial⟩ (by decide) (by kernel_rfl) (by kernel_rfl)

set_option maxRecDepth 100000 in
set_option maxHeartbeats 4000000 in
theorem sane_any (w : World) : Calls Tryz.prog 19 #[] w fun e w' => e = .returned (.bool true) ∧ Below w.heap.size w w' := by
  have hu24 := Tryz.underlying24
  go_enter Tryz.func19, Tryz.ntmps19
  go_wp2_with fail
  refine (word_any _ _).mono ?_
  rintro e w1 ⟨rfl, B1⟩
  go_wp2_with fail
  refine (word_any _ _).mono ?_
  rintro e w2 ⟨rfl, B2⟩
  go_wp2_with fail
  refine (list_any _ _ _ _).mono ?_
  rintro e w3 ⟨rfl, B3⟩
  go_wp2_with fail
  have X3 := box_heap B3
  have B4 : Below w.heap.size w (w3.alloc (.cells #[.int .i64 3, .int .i64 0, .string ⟨#[]⟩, .slice (some ⟨w2.heap.size, 0, none⟩) 2 2] 24)) := below_alloc (below_after (below_alloc (below_after B1 B2) _) B3) _
  have X4 := (MapKept.heap_alloc w3 (.cells #[.int .i64 3, .int .i64 0, .string ⟨#[]⟩, .slice (some ⟨w2.heap.size, 0, none⟩) 2 2] 24)).1
  have X5 : (w3.alloc (.cells #[.int .i64 3, .int .i64 0, .string ⟨#[]⟩, .slice (some ⟨w2.heap.size, 0, none⟩) 2 2] 24)).heap[w2.heap.size]? = some (.cells #[.int .i64 1, .int .i64 0, .string wSeq, .slice none 0 0, .int .i64 1, .int .i64 0, .string wA, .slice none 0 0] 24 (0, 0)) := (Below.heap_alloc _ _ _ (Array.getElem?_eq_some_iff.1 X3).1).trans X3
  generalize hX : w3.alloc (.cells #[.int .i64 3, .int .i64 0, .string ⟨#[]⟩, .slice (some ⟨w2.heap.size, 0, none⟩) 2 2] 24) = X at *
  generalize w3.heap.size = b3 at *
  generalize w2.heap.size = b2 at *
  clear hX X3 B1 B2 B3
  have R5 : Kd.C k24 X (some ⟨b2, 0, none⟩) 2 [wordF wSeq, wordF wA] := words_row X5
  obtain ⟨p0, p1, p2, p3⟩ := cells4 X4
  have HS : Hid (∀ W, Below X.heap.size X W → W.cell? ⟨b3, 0, none⟩ = some (.int .i64 3) ∧ W.cell? ⟨b3, 1, none⟩ = some (.int .i64 0) ∧ W.cell? ⟨b3, 2, none⟩ = some (.string ⟨#[]⟩) ∧ W.cell? ⟨b3, 3, none⟩ = some (.slice (some ⟨b2, 0, none⟩) 2 2)) := fun W h => ⟨pw_cell_below h p0, pw_cell_below h p1, pw_cell_below h p2, pw_cell_below h p3⟩
  have HB : Hid _ := B4
  have HR : Hid _ := R5
  clear p0 p1 p2 p3 X4 X5 B4 R5
  go_cut [2, 3] from 12 to 18 (fun x2 x3 wx => x3 = .int .i64 11 ∧ Below X.heap.size X wx)
  case first =>
    refine wp_region_held_drew (S := fun W => W.cell? ⟨b3, 0, none⟩ = some (.int .i64 3) ∧ W.cell? ⟨b3, 1, none⟩ = some (.int .i64 0) ∧ W.cell? ⟨b3, 2, none⟩ = some (.string ⟨#[]⟩) ∧ W.cell? ⟨b3, 3, none⟩ = some (.slice (some ⟨b2, 0, none⟩) 2 2)) (by kernel_rfl) (HS.out _ (below_drew (Below.refl _ _))) (fun hHeld => ?_)
    refine takeV 0 (some 13) (formV 3 0 ⟨#[]⟩ (some ⟨b2, 0, none⟩) 2 2) rfl rfl (by kernel_rfl) (by kernel_rfl) (by kernel_rfl) (fun _ _ _ h => h) (Or.inl ⟨by kernel_rfl, fun W hSw => by obtain ⟨s0, s1, s2, s3⟩ := hSw; go_simp⟩) hHeld ?_
    try simp only [Act.put, List.setIfInBounds_toArray, List.set_cons_zero, List.set_cons_succ]
    refine wpAnyH_ready (rs := [1, 2]) (by kernel_rfl) (by simp) ?_
    refine AllReadyH.cons rfl (fun K hK => ?_) (AllReadyH.cons rfl (fun K hK => ?_) AllReadyH.nil)
    · clear hHeld
      go_simp
      go_at_call 52
      refine (word_any _ _).mono ?_
      rintro e w4 ⟨rfl, B4⟩
      have B5 := below_after (below_drew (Below.refl _ _)) B4
      have HS5 := HS.out _ B5
      clear B4
      go_wp2_with fail
      refine hK.out _ _ HS5 (fun hHeld => ?_)
      clear hK K HS5
      try simp only [Act.put, List.setIfInBounds_toArray, List.set_cons_zero, List.set_cons_succ]
      refine wpAnyH_ready (rs := [2]) (by kernel_rfl) (by simp) ?_
      refine AllReadyH.cons rfl (fun K hK => ?_) AllReadyH.nil
      go_simp
      have X6 := (MapKept.heap_alloc w4 (.cells #[.string wA] 9)).1
      have B6 := below_alloc B5 (.cells #[.string wA] 9)
      refine hK.out _ _ (HS.out _ B6) (fun hHeld => ?_)
      clear hK K B5
      have UU : Hid _ := ex1 (some ⟨b2, 0, none⟩) (some ⟨w4.heap.size, 0, none⟩) (w4.alloc (.cells #[.string wA] 9)) (Kd.C_below HR.out B6) (texts_of_cells (xs := [wA]) X6 (by simp) (fun j x hj => by cases j with | zero => obtain rfl := Option.some.inj hj; rfl | succ j => simp at hj))
      have BX : Hid _ := B6
      clear X6 B6
      try simp only [Act.put, List.setIfInBounds_toArray, List.set_cons_zero, List.set_cons_succ]
      refine wpAnyH_ready (rs := [3]) (by kernel_rfl) (by simp) ?_
      refine AllReadyH.cons rfl (fun K hK => ?_) AllReadyH.nil
      go_simp
      go_at_call 22
      refine Calls.mono UU.out ?_
      rintro e w6 ⟨rfl, B6'⟩
      have B6 : Hid _ := below_after BX.out B6'
      have HS6 := HS.out _ B6.out
      clear B6'
      go_wp2_with fail
      refine hK.out _ _ HS6 (fun hHeld => ?_)
      clear hK K
      try simp only [Act.put, List.setIfInBounds_toArray, List.set_cons_zero, List.set_cons_succ]
      refine takeV 4 (some 12) (.tuple #[.slice none 0 0, .int .i64 11]) rfl rfl (by kernel_rfl) (by kernel_rfl) (by kernel_rfl) (fun _ _ _ h => h) (Or.inl ⟨by kernel_rfl, fun W hSw => by go_simp⟩) hHeld ?_
      try simp only [Act.put, List.setIfInBounds_toArray, List.set_cons_zero, List.set_cons_succ]
      refine takeV 5 (some 17) (.slice none 0 0) rfl rfl (by kernel_rfl) (by kernel_rfl) (by kernel_rfl) (fun _ _ _ h => h) (Or.inl ⟨by kernel_rfl, fun W hSw => by go_simp⟩) hHeld ?_
      try simp only [Act.put, List.setIfInBounds_toArray, List.set_cons_zero, List.set_cons_succ]
      refine takeV 6 (some 18) (.int .i64 11) rfl rfl (by kernel_rfl) (by kernel_rfl) (by kernel_rfl) (fun _ _ _ h => h) (Or.inl ⟨by kernel_rfl, fun W hSw => by go_simp⟩) hHeld ?_
      try simp only [Act.put, List.setIfInBounds_toArray, List.set_cons_zero, List.set_cons_succ]
      refine takeV 7 (some 2) (.slice none 0 0) rfl rfl (by kernel_rfl) (by kernel_rfl) (by kernel_rfl) (fun _ _ _ h => h) (Or.inl ⟨by kernel_rfl, fun W hSw => by go_simp⟩) hHeld ?_
      try simp only [Act.put, List.setIfInBounds_toArray, List.set_cons_zero, List.set_cons_succ]
      refine takeV 8 (some 3) (.int .i64 11) rfl rfl (by kernel_rfl) (by kernel_rfl) (by kernel_rfl) (fun _ _ _ h => h) (Or.inl ⟨by kernel_rfl, fun W hSw => by go_simp⟩) hHeld ?_
      try simp only [Act.put, List.setIfInBounds_toArray, List.set_cons_zero, List.set_cons_succ]
      clear hHeld HS6 UU BX HS
      refine wpAnyH_done (by kernel_rfl) ?_ _
      go_wp2_with fail
      go_meet
      case rel => exact ⟨rfl, B6.out⟩
    · clear hHeld
      go_simp
      have X6 := (MapKept.heap_alloc X.drew (.cells #[.string wA] 9)).1
      have B6 := below_alloc (below_drew (Below.refl X.heap.size X)) (.cells #[.string wA] 9)
      refine hK.out _ _ (HS.out _ B6) (fun hHeld => ?_)
      clear hK K hHeld
      try simp only [Act.put, List.setIfInBounds_toArray, List.set_cons_zero, List.set_cons_succ]
      refine wpAnyH_ready (rs := [1]) (by kernel_rfl) (by simp) ?_
      refine AllReadyH.cons rfl (fun K hK => ?_) AllReadyH.nil
      go_simp
      go_at_call 52
      refine (word_any _ _).mono ?_
      rintro e w4 ⟨rfl, B4⟩
      have B7 := below_after B6 B4
      have X7 := (B4.block _ (Array.getElem?_eq_some_iff.1 X6).1).trans X6
      have HS5 := HS.out _ B7
      clear B4
      go_wp2_with fail
      refine hK.out _ _ HS5 (fun hHeld => ?_)
      clear hK K HS5 B6 X6
      try simp only [Act.put, List.setIfInBounds_toArray, List.set_cons_zero, List.set_cons_succ]
      have UU : Hid _ := ex1 (some ⟨b2, 0, none⟩) (some ⟨X.heap.size, 0, none⟩) w4 (Kd.C_below HR.out B7) (texts_of_cells (xs := [wA]) X7 (by simp) (fun j x hj => by cases j with | zero => obtain rfl := Option.some.inj hj; rfl | succ j => simp at hj))
      have BX : Hid _ := B7
      clear X7 B7
      refine wpAnyH_ready (rs := [3]) (by kernel_rfl) (by simp) ?_
      refine AllReadyH.cons rfl (fun K hK => ?_) AllReadyH.nil
      go_simp
      go_at_call 22
      refine Calls.mono UU.out ?_
      rintro e w6 ⟨rfl, B6'⟩
      have B6 : Hid _ := below_after BX.out B6'
      have HS6 := HS.out _ B6.out
      clear B6'
      go_wp2_with fail
      refine hK.out _ _ HS6 (fun hHeld => ?_)
      clear hK K
      try simp only [Act.put, List.setIfInBounds_toArray, List.set_cons_zero, List.set_cons_succ]
      refine takeV 4 (some 12) (.tuple #[.slice none 0 0, .int .i64 11]) rfl rfl (by kernel_rfl) (by kernel_rfl) (by kernel_rfl) (fun _ _ _ h => h) (Or.inl ⟨by kernel_rfl, fun W hSw => by go_simp⟩) hHeld ?_
      try simp only [Act.put, List.setIfInBounds_toArray, List.set_cons_zero, List.set_cons_succ]
      refine takeV 5 (some 17) (.slice none 0 0) rfl rfl (by kernel_rfl) (by kernel_rfl) (by kernel_rfl) (fun _ _ _ h => h) (Or.inl ⟨by kernel_rfl, fun W hSw => by go_simp⟩) hHeld ?_
      try simp only [Act.put, List.setIfInBounds_toArray, List.set_cons_zero, List.set_cons_succ]
      refine takeV 6 (some 18) (.int .i64 11) rfl rfl (by kernel_rfl) (by kernel_rfl) (by kernel_rfl) (fun _ _ _ h => h) (Or.inl ⟨by kernel_rfl, fun W hSw => by go_simp⟩) hHeld ?_
      try simp only [Act.put, List.setIfInBounds_toArray, List.set_cons_zero, List.set_cons_succ]
      refine takeV 7 (some 2) (.slice none 0 0) rfl rfl (by kernel_rfl) (by kernel_rfl) (by kernel_rfl) (fun _ _ _ h => h) (Or.inl ⟨by kernel_rfl, fun W hSw => by go_simp⟩) hHeld ?_
      try simp only [Act.put, List.setIfInBounds_toArray, List.set_cons_zero, List.set_cons_succ]
      refine takeV 8 (some 3) (.int .i64 11) rfl rfl (by kernel_rfl) (by kernel_rfl) (by kernel_rfl) (fun _ _ _ h => h) (Or.inl ⟨by kernel_rfl, fun W hSw => by go_simp⟩) hHeld ?_
      try simp only [Act.put, List.setIfInBounds_toArray, List.set_cons_zero, List.set_cons_succ]
      clear hHeld HS6 UU BX HS
      refine wpAnyH_done (by kernel_rfl) ?_ _
      go_wp2_with fail
      go_meet
      case rel => exact ⟨rfl, B6.out⟩
  case rest =>
    obtain ⟨rfl, BX⟩ := hcut
    have B8 : Hid _ := below_after HB.out BX
    clear BX HS HR HB
    go_wp2_with fail
    refine (word_any _ _).mono ?_
    rintro e y1 ⟨rfl, B1⟩
    go_wp2_with fail
    refine (word_any _ _).mono ?_
    rintro e y2 ⟨rfl, B2⟩
    go_wp2_with fail
    refine (word_any _ _).mono ?_
    rintro e y3 ⟨rfl, B3⟩
    go_wp2_with fail
    refine (word_any _ _).mono ?_
    rintro e y4 ⟨rfl, B4⟩
    go_wp2_with fail
    refine (list_any _ _ _ _).mono ?_
    rintro e y5 ⟨rfl, B5⟩
    have B6 : Below w.heap.size w y4 := below_after B8.out (below_after B1 (below_after B2 (below_after B3 B4)))
    have X5 := box_heap B5
    have B7 : Below w.heap.size w y5 := below_after (below_alloc B6 _) B5
    generalize y4.heap.size = b4 at *
    clear B1 B2 B3 B4 B5 B6 B8
    go_wp2_with fail
    refine (list_any _ _ _ _).mono ?_
    rintro e y6 ⟨rfl, B6⟩
    have X6 := box_heap B6
    have X7 := (below_after (below_alloc (Below.refl y5.heap.size y5) _) B6).block _ (Array.getElem?_eq_some_iff.1 X5).1 |>.trans X5
    have B8 : Below w.heap.size w y6 := below_after (below_alloc B7 _) B6
    generalize y5.heap.size = b5 at *
    clear B6 B7 X5
    have H6 : Hid _ := X6
    have H7 : Hid _ := X7
    clear X6 X7
    go_wp2_with fail
    have R1 : Kd.C k24 y6 (some ⟨b4, 0, none⟩) 2 [wordF wSeq, wordF wB] := words_row H7.out
    have R2 : Hid (Kd.C k24 y6 (some ⟨b5, 0, none⟩) 3 [wordF wMap, wordF wA, listF [wordF wSeq, wordF wB]]) := row_of_cells (xs := [wordF wMap, wordF wA, listF [wordF wSeq, wordF wB]]) H6.out (by simp) (fun j p hj => by
      match j, hj with
      | 0, hj => obtain rfl := Option.some.inj hj; exact ⟨none, 0, Nat.le_refl _, Kd.C_nil _ _, rfl, rfl, rfl, rfl⟩
      | 1, hj => obtain rfl := Option.some.inj hj; exact ⟨none, 0, Nat.le_refl _, Kd.C_nil _ _, rfl, rfl, rfl, rfl⟩
      | 2, hj => obtain rfl := Option.some.inj hj; exact ⟨some ⟨b4, 0, none⟩, 2, Nat.le_refl _, R1, rfl, rfl, rfl, rfl⟩
      | j + 3, hj => simp at hj)
    clear R1 H6 H7
    have B9 : Hid _ := below_alloc B8 (.cells #[.int .i64 3, .int .i64 0, .string ⟨#[]⟩, .slice (some ⟨b5, 0, none⟩) 3 3] 24)
    have R3 : Hid _ := Kd.C_below R2.out (below_alloc (Below.refl y6.heap.size y6) (.cells #[.int .i64 3, .int .i64 0, .string ⟨#[]⟩, .slice (some ⟨b5, 0, none⟩) 3 3] 24))
    have X8 : Hid _ := (MapKept.heap_alloc y6 (.cells #[.int .i64 3, .int .i64 0, .string ⟨#[]⟩, .slice (some ⟨b5, 0, none⟩) 3 3] 24)).1
    generalize y6.alloc (.cells #[.int .i64 3, .int .i64 0, .string ⟨#[]⟩, .slice (some ⟨b5, 0, none⟩) 3 3] 24) = Y at *
    generalize y6.heap.size = b6 at *
    clear B8 R2
    refine (word_any _ _).mono ?_
    rintro e z1 ⟨rfl, B1⟩
    go_wp2_with fail
    refine (word_any _ _).mono ?_
    rintro e z2 ⟨rfl, B2⟩
    go_wp2_with fail
    refine (word_any _ _).mono ?_
    rintro e z3 ⟨rfl, B3⟩
    have B4 := below_after B1 (below_after B2 B3)
    clear B1 B2 B3
    go_wp2_with fail
    refine (list_any _ _ _ _).mono ?_
    rintro e z4 ⟨rfl, B5⟩
    have Z5 := box_heap B5
    have B6 := below_after (below_alloc B4 _) B5
    generalize z3.heap.size = b7 at *
    clear B4 B5
    have R5 : Hid (Kd.C k24 z4 (some ⟨b7, 0, none⟩) 3 [wordF wMap, wordF wInt, wordF wA]) := row_of_cells (xs := [wordF wMap, wordF wInt, wordF wA]) Z5 (by simp) (fun j p hj => by
      match j, hj with
      | 0, hj => obtain rfl := Option.some.inj hj; exact ⟨none, 0, Nat.le_refl _, Kd.C_nil _ _, rfl, rfl, rfl, rfl⟩
      | 1, hj => obtain rfl := Option.some.inj hj; exact ⟨none, 0, Nat.le_refl _, Kd.C_nil _ _, rfl, rfl, rfl, rfl⟩
      | 2, hj => obtain rfl := Option.some.inj hj; exact ⟨none, 0, Nat.le_refl _, Kd.C_nil _ _, rfl, rfl, rfl, rfl⟩
      | j + 3, hj => simp at hj)
    obtain ⟨q0, q1, q2, q3⟩ := cells4 X8.out
    have BB : Hid _ := B6
    replace q0 := pw_cell_below (below_alloc B6 (.cells #[.int .i64 3, .int .i64 0, .string ⟨#[]⟩, .slice (some ⟨b7, 0, none⟩) 3 3] 24)) q0
    replace q1 := pw_cell_below (below_alloc B6 (.cells #[.int .i64 3, .int .i64 0, .string ⟨#[]⟩, .slice (some ⟨b7, 0, none⟩) 3 3] 24)) q1
    replace q2 := pw_cell_below (below_alloc B6 (.cells #[.int .i64 3, .int .i64 0, .string ⟨#[]⟩, .slice (some ⟨b7, 0, none⟩) 3 3] 24)) q2
    replace q3 := pw_cell_below (below_alloc B6 (.cells #[.int .i64 3, .int .i64 0, .string ⟨#[]⟩, .slice (some ⟨b7, 0, none⟩) 3 3] 24)) q3
    clear Z5 B6
    have s1 := size_new z4 (.cells #[.int .i64 3, .int .i64 0, .string ⟨#[]⟩, .slice (some ⟨b7, 0, none⟩) 3 3] 24)
    have V1 := (MapKept.heap_alloc (z4.alloc (.cells #[.int .i64 3, .int .i64 0, .string ⟨#[]⟩, .slice (some ⟨b7, 0, none⟩) 3 3] 24)) (.cells #[.string wA, .string wB] 9)).1
    rw [s1] at V1
    have BZ : Below z4.heap.size z4 ((z4.alloc (.cells #[.int .i64 3, .int .i64 0, .string ⟨#[]⟩, .slice (some ⟨b7, 0, none⟩) 3 3] 24)).alloc (.cells #[.string wA, .string wB] 9)) := below_alloc (below_alloc (Below.refl _ _) _) _
    have UU : Hid _ := ex2 (some ⟨b5, 0, none⟩) (some ⟨b7, 0, none⟩) (some ⟨z4.heap.size + 1, 0, none⟩) _ (Kd.C_below R3.out (below_after BB.out BZ)) (Kd.C_below R5.out BZ) (texts_of_cells (xs := [wA, wB]) V1 (by simp) (fun j x hj => by
      match j, hj with
      | 0, hj => obtain rfl := Option.some.inj hj; rfl
      | 1, hj => obtain rfl := Option.some.inj hj; rfl
      | j + 2, hj => simp at hj))
    have BF : Hid _ := below_after B9.out (below_after BB.out BZ)
    clear s1 V1 BZ R3 R5
    go_wp2_with fail
    refine Calls.mono UU.out ?_
    rintro e z9 ⟨rfl, BL⟩
    have BG : Hid _ := below_after BF.out BL
    clear BL
    go_wp2_with fail
    go_ret
    exact ⟨rfl, BG.out⟩
end Go.Proofs.YtcjmplpfebpfpaaGreatDoor

namespace Go.Proofs.YtcjmplpfebpfpaaGreatDoor
open Go.RowKit Go.Proofs Go.ChangeShapes Go.WideShapes Go.ChangeAt Go.Deep Go.Proofs.YtcjmplpfebpfpaaGreatDoorW.PrintWords Go.Proofs.YtcjmplpfebpfpaaGreatDoorW.PrintLast Go.Proofs.YtcjmplpfebpfpaaGreatDoorW.PrintMore PKindInstances
set_option linter.unusedVariables false
set_option linter.unusedSimpArgs false

theorem cells24' : Tryz.prog.cellsOf 24 = 4 := by kernel_rfl
theorem cells3' : Tryz.prog.cellsOf 3 = 1 := by kernel_rfl
theorem cells9' : Tryz.prog.cellsOf 9 = 1 := by kernel_rfl
theorem cells22' : Tryz.prog.cellsOf 22 = 1 := by kernel_rfl

variable {H : Type} {enc : TypeId × Value → H}

theorem bulk_at {l : List (DataW H)} {d : DataW H} (h : d ∈ l) : Rows.uptoBulk d ≤ Rows.uptoBulkAll l := by
  induction l with
  | nil => cases h
  | cons x r ih =>
    simp only [Rows.uptoBulkAll]
    rcases List.mem_cons.1 h with e | e
    · subst e; omega
    · have := ih e; omega

theorem bulk_sum (r : List Nat) (D : Nat → DataW H) (g : Nat → S24) (h : ∀ i ∈ r, siz (g i) ≤ Rows.uptoBulk (D i)) : sizs (r.map g) ≤ Rows.uptoBulkAll (r.map D) := by
  induction r with
  | nil => simp [sizs, Rows.uptoBulkAll]
  | cons a r ih =>
    have h1 := h a List.mem_cons_self
    have h2 := ih fun i hi => h i (List.mem_cons_of_mem _ hi)
    simp only [List.map_cons, sizs, Rows.uptoBulkAll]
    omega

theorem list4 {α : Type} {l : List α} (h : l.length = 4) : ∃ a b c d, l = [a, b, c, d] := by
  match l, h with
  | [a, b, c, d], _ => exact ⟨a, b, c, d, rfl⟩
/-- What a form reads as. -/
def FormIn (w : World) (cs : List Value) (s : S24) (n : Nat) : Prop :=
  ∃ A c, cs = [.int .i64 s.f0, .int .i64 s.f1, .string s.f2, .slice A s.f3.length c] ∧ s.f3.length ≤ c ∧ Kd.C k24 w A s.f3.length s.f3 ∧ siz s ≤ n ∧ c ≤ maxLen

theorem row_mk {w : World} {a : Addr} {len : Nat} (g : Nat → S24) (cs : Nat → List Value) (hm : len ≤ maxLen) (h : ∀ i, i < len → w.cells? 0 (a.add (i * 4)) 4 = some (cs i) ∧ k24.K w (g i) (cs i)) :
    Kd.C k24 w (some a) len ((List.range len).map g) := by
  refine ⟨by simp, by simp [maxLen] at hm; omega, fun hn => ⟨a, rfl, fun j p hj => ?_⟩⟩
  have hjl : j < len := by
    have := (List.getElem?_eq_some_iff.1 hj).1
    simpa using this
  obtain rfl : g j = p := by simpa [hjl] using hj
  obtain ⟨h1, h2⟩ := h j hjl
  obtain ⟨_, hl, hc⟩ := World.cells?_some h1
  refine ⟨cs j, hl, h2, fun i u hu => ?_⟩
  have hil : i < 4 := by rw [← hl]; exact (List.getElem?_eq_some_iff.1 hu).1
  show w.cell? (a.add (j * 4 + i)) = some u
  rw [← Go.Deep.add_add, hc i hil, hu]

theorem open_form {w : World} (N : Nat) : ∀ {fuel : Nat} {cs : List Value} {x : DataW H × List MemPlace}, DataW.trod enc Tryz.prog w 0 (fun _ => true) true fuel 24 cs = some x → Rows.uptoBulk x.1 = N → ∃ s : S24, FormIn w cs s (Rows.uptoBulk x.1) := by
  induction N using Nat.strongRecOn with
  | _ N ih =>
  intro fuel cs x h hN
  obtain ⟨xs, n, rfl, rfl, hl, hlen, hf⟩ := DataW.trod_struct Tryz.underlying24 h
  rw [cells24'] at hl
  have hlen4 : xs.length = 4 := hlen
  obtain ⟨y0, y1, y2, y3, rfl⟩ := list4 hlen4
  obtain ⟨u0, u1, u2, u3, rfl⟩ := list4 hl
  have h0 := hf 0 _ rfl
  have h1 := hf 1 _ rfl
  have h2 := hf 2 _ rfl
  have h3 := hf 3 _ rfl
  change DataW.trod enc Tryz.prog w 0 (fun _ => true) true n 3 ([u0, u1, u2, u3].take (Tryz.prog.cellsOf 3)) = some y0 at h0
  change DataW.trod enc Tryz.prog w 0 (fun _ => true) true n 3 ([u1, u2, u3].take (Tryz.prog.cellsOf 3)) = some y1 at h1
  change DataW.trod enc Tryz.prog w 0 (fun _ => true) true n 9 ([u2, u3].take (Tryz.prog.cellsOf 9)) = some y2 at h2
  change DataW.trod enc Tryz.prog w 0 (fun _ => true) true n 22 ([u3].take (Tryz.prog.cellsOf 22)) = some y3 at h3
  rw [cells3'] at h0 h1
  rw [cells9'] at h2
  rw [cells22'] at h3
  simp only [List.take_succ_cons, List.take_zero] at h0 h1 h2 h3
  obtain ⟨z0, e0, f0, _⟩ := DataW.trod_int Tryz.underlying3 h0
  obtain ⟨z1, e1, f1, _⟩ := DataW.trod_int Tryz.underlying3 h1
  obtain ⟨z2, e2, f2, _⟩ := DataW.trod_string Tryz.underlying9 h2
  clear h hf hlen hlen4 hl h0 h1 h2
  simp only [List.cons.injEq, and_true] at e0 e1 e2
  subst e0 e1 e2 f0 f1 f2
  rcases open_slice Tryz.underlying22 h3 with ⟨e3, f3⟩ | ⟨a, len, cap, m, n', Dd, Pl, e3, _, hl, hm, hmm, f3, hall⟩
  · simp only [List.cons.injEq, and_true] at e3
    subst e3 f3
    refine ⟨⟨z0, z1, z2, []⟩, none, 0, rfl, Nat.le_refl _, Kd.C_nil _ _, ?_, Nat.zero_le _⟩
    have e : z2.data.toList.length = z2.size := Array.length_toList
    simp [siz, sizs, Rows.uptoBulk, Rows.uptoBulkAll]
    omega
  · simp only [List.cons.injEq, and_true] at e3
    simp only [if_true] at hmm
    subst e3 f3
    simp only [List.map_cons, List.map_nil, Rows.uptoBulk, Rows.uptoBulkAll] at hN
    have hbd : ∀ i, i < len → Rows.uptoBulk (Dd i) ≤ Rows.uptoBulkAll ((List.range len).map Dd) := fun i hi => bulk_at (List.mem_map.2 ⟨i, List.mem_range.2 hi, rfl⟩)
    have each : ∀ i, i < len → ∃ p : S24 × List Value, w.cells? 0 (a.add (i * 4)) 4 = some p.2 ∧ FormIn w p.2 p.1 (Rows.uptoBulk (Dd i)) := by
      intro i hi
      obtain ⟨cs', g1, g2⟩ := hall i (by omega)
      rw [cells24'] at g1
      obtain ⟨s, hs⟩ := ih _ (by have := hbd i hi; show Rows.uptoBulk (Dd i) < N; omega) g2 rfl
      exact ⟨(s, cs'), g1, hs⟩
    haveI : Inhabited (S24 × List Value) := ⟨(z24, [])⟩
    obtain ⟨f, hf⟩ := choose_lt (α := S24 × List Value) each
    have hlist : ((List.range len).map fun i => (f i).1).length = len := by simp
    refine ⟨⟨z0, z1, z2, (List.range len).map fun i => (f i).1⟩, some a, cap, by simp only [hlist], by simp only [hlist]; exact hl, ?_, ?_, hm⟩
    · simp only [hlist]
      exact row_mk (fun i => (f i).1) (fun i => (f i).2) (by omega) fun i hi => by
        obtain ⟨g1, A, c, g2, g3, g4, _⟩ := hf i hi
        exact ⟨g1, by rw [g2]; exact k24_mk w (f i).1 g3 g4⟩
    · have h5 := bulk_sum (List.range len) Dd (fun i => (f i).1) fun i hi => by
        obtain ⟨_, A, c, _, _, _, g5, _⟩ := hf i (List.mem_range.1 hi)
        exact g5
      have e : z2.data.toList.length = z2.size := Array.length_toList
      simp [siz, Rows.uptoBulk, Rows.uptoBulkAll]
      omega

end Go.Proofs.YtcjmplpfebpfpaaGreatDoor

namespace Go.Proofs.YtcjmplpfebpfpaaGreatDoor
open Go.RowKit Go.Proofs Go.Proofs.YtcjmplpfebpfpaaGreatDoorW.PrintWords Go.Proofs.YtcjmplpfebpfpaaGreatDoorW.PrintLast Go.Proofs.YtcjmplpfebpfpaaGreatDoorW.PrintMore PKindInstances
set_option linter.unusedVariables false
set_option linter.unusedSimpArgs false

/-- Whether a rune may not stand in a text. -/
def badR (x : Nat) : Bool := !(x == 10) && (decide (x < 32) || decide (126 < x))

theorem badR_any (x : Nat) (hx : x ≤ 1114111) (w : World) : Calls Tryz.prog 169 #[.int .i32 (x : Int)] w fun e w' => e = .returned (.bool (badR x)) ∧ ∃ q, w' = w.drewN q := by
  unfold badR
  by_cases h1 : x = 10
  · subst h1
    go_enter Tryz.func169, Tryz.ntmps169
    go_wp2_with fail
    go_ret
    exact ⟨rfl, 0, rfl⟩
  · have b1 : (x == 10) = false := beq_eq_false_iff_ne.mpr h1
    have b2 : (((x : Int)) != 10) = true := bne_iff_ne.mpr (by omega)
    rw [b1]
    by_cases h2 : x < 32
    · have c1 : decide (x < 32) = true := decide_eq_true h2
      have c2 : decide ((x : Int) < 32) = true := decide_eq_true (by omega)
      rw [c1]
      clear h1 h2 b1 c1
      go_enter Tryz.func169, Tryz.ntmps169
      go_wp2_with fail
      go_ret
      exact ⟨rfl, 0, rfl⟩
    · have c1 : decide (x < 32) = false := decide_eq_false h2
      have c2 : decide ((x : Int) < 32) = false := decide_eq_false (by omega)
      have c3 : decide (126 < (x : Int)) = decide (126 < x) := by
        by_cases h : 126 < x
        · rw [decide_eq_true h, decide_eq_true (by omega)]
        · rw [decide_eq_false h, decide_eq_false (by omega)]
      rw [c1, ← c3]
      clear h1 h2 b1 c1 c3
      go_enter Tryz.func169, Tryz.ntmps169
      go_wp2_with fail
      go_ret
      exact ⟨by simp, 0, rfl⟩

theorem decode_low {s : ByteArray} {i : Nat} (h : (s.get! i).toNat < 128) : Utf8.decode s i = ((s.get! i).toNat, 1) := by
  unfold Utf8.decode
  simp only [Nat.add_zero]
  rw [if_pos (by simpa using h)]
theorem decode_high {s : ByteArray} {i : Nat} (h : ¬ (s.get! i).toNat < 128) : 128 ≤ (Utf8.decode s i).1 := by
  unfold Utf8.decode
  simp only [Nat.add_zero]
  rw [if_neg (by simpa using h)]
  repeat' split
  all_goals first | (simp [Utf8.runeError]; done) | omega | (rename_i h9; simp only [Bool.and_eq_true, decide_eq_true_eq, ge_iff_le] at h9; omega)

def goodB (c : Int) : Bool := c == 10 || (decide (32 ≤ c) && decide (c ≤ 126))
theorem byte_at {s : ByteArray} {pos : Nat} (h : pos < s.size) : (bytesI s).drop pos = ((s.get! pos).toNat : Int) :: (bytesI s).drop (pos + 1) := by
  have hl : pos < (bytesI s).length := by simpa [bytesI] using h
  rw [List.drop_eq_getElem_cons hl]
  congr 1
  simp [bytesI, ByteArray.get!, h]
theorem idx_text (s : ByteArray) : ∀ (f pos : Nat), s.size ≤ f + pos → decide (0 ≤ Lib.idxFuncFrom badR true s f pos) = !(((bytesI s).drop pos).all goodB)
  | 0, pos, h => by
    have e : (bytesI s).drop pos = [] := List.drop_eq_nil_of_le (by simp [bytesI]; omega)
    rw [e]
    simp [Lib.idxFuncFrom]
  | f + 1, pos, h => by
    unfold Lib.idxFuncFrom
    by_cases hp : pos < s.size
    · rw [if_pos hp, byte_at hp, List.all_cons]
      by_cases hl : (s.get! pos).toNat < 128
      · rw [decode_low hl]
        have e : badR (s.get! pos).toNat = !(goodB ((s.get! pos).toNat : Int)) := by
          unfold badR goodB
          rw [Bool.eq_iff_iff]
          simp
          omega
        cases hg : goodB ((s.get! pos).toNat : Int) with
        | true =>
          rw [hg] at e
          simp only [e]
          rw [if_neg (by simp), idx_text s f (pos + 1) (by omega)]
          simp
        | false =>
          rw [hg] at e
          simp only [e]
          rw [if_pos (by simp), decide_eq_true (by omega)]
          simp
      · have h1 := decode_high hl
        have e : badR (Utf8.decode s pos).1 = true := by
          unfold badR
          simp
          omega
        have e2 : goodB ((s.get! pos).toNat : Int) = false := by
          unfold goodB
          simp
          omega
        rw [if_pos e, e2, decide_eq_true (by omega)]
        simp
    · have e : (bytesI s).drop pos = [] := List.drop_eq_nil_of_le (by simp [bytesI]; omega)
      rw [if_neg hp, e]
      simp
theorem textM_idx (s : ByteArray) : textM s = (decide (s.size ≤ 2000) && !(decide (0 ≤ Lib.idxFunc badR true s))) := by
  unfold Lib.idxFunc
  rw [idx_text s s.size 0 (by omega)]
  simp [textM]
  rfl

theorem ContainsBad_any (s : ByteArray) (w : World) : Calls Tryz.prog 170 #[.string s, .func (.func 169) #[] #[]] w fun e w' => e = .returned (.bool (decide (0 ≤ Lib.idxFunc badR true s))) ∧ Below w.heap.size w w' := by
  refine Tryz.strings_ContainsFunc_runes 169 #[] (enters_of Tryz.func169 (by kernel_rfl) rfl) badR s w ?_
  intro W x hx _
  exact badR_any x hx W

/-- A number's own fields. -/
theorem leaf_num (b : Int) (s : ByteArray) (A : Option Addr) (n c : Nat) (w : World) :
    Calls Tryz.prog 146 #[formV 0 b s A n c] w fun e w' => e = .returned (.bool (((s.toList == []) && ((n : Int) == 0)) && (decide (-1152921504606846976 ≤ b) && decide (b ≤ 1152921504606846976)))) ∧ Below w.heap.size w w' := by
  have hu24 := Tryz.underlying24
  cases h1 : (s.toList == []) with
  | false =>
    go_enter Tryz.func146, Tryz.ntmps146
    go_wp2_with fail
    go_ret
    exact ⟨rfl, by (repeat (first | assumption | exact Below.refl _ _ | apply below_alloc | apply pw_below_drewN | apply below_drew1))⟩
  | true =>
    cases h2 : ((n : Int) == 0) with
    | false =>
      go_enter Tryz.func146, Tryz.ntmps146
      go_wp2_with fail
      go_ret
      exact ⟨rfl, by (repeat (first | assumption | exact Below.refl _ _ | apply below_alloc | apply pw_below_drewN | apply below_drew1))⟩
    | true =>
      cases h3 : decide (-1152921504606846976 ≤ b) with
      | false =>
        go_enter Tryz.func146, Tryz.ntmps146
        go_wp2_with fail
        go_ret
        exact ⟨rfl, by (repeat (first | assumption | exact Below.refl _ _ | apply below_alloc | apply pw_below_drewN | apply below_drew1))⟩
      | true =>
        go_enter Tryz.func146, Tryz.ntmps146
        go_wp2_with fail
        go_ret
        exact ⟨rfl, by (repeat (first | assumption | exact Below.refl _ _ | apply below_alloc | apply pw_below_drewN | apply below_drew1))⟩

set_option maxRecDepth 100000 in
/-- A word that is none. -/
theorem leaf_noword (b : Int) (s : ByteArray) (A : Option Addr) (n c : Nat) (w : World) (hs : (s.toList == []) = true ∨ (s.toList == []) = false ∧ ¬ s.size ≤ 30) :
    Calls Tryz.prog 146 #[formV 1 b s A n c] w fun e w' => e = .returned (.bool false) ∧ Below w.heap.size w w' := by
  have hu24 := Tryz.underlying24
  rcases hs with h1 | ⟨h1, h2⟩
  · go_enter Tryz.func146, Tryz.ntmps146
    go_wp2_with fail
    go_loopg [3, 4] 0 (fun k x3 x4 wr => x3 = .bool false ∧ x4 = .int .i64 ((0 : Nat) : Int) ∧ wr = w.alloc (Obj.cells #[.int .i64 1, .int .i64 b, .string s, .slice A n c] 24))
    case atStart => exact ⟨rfl, rfl, rfl⟩
    case round =>
      obtain ⟨rfl, rfl, rfl⟩ := hrel
      by_cases hlt : 0 < s.size
      · have e1 : decide (0 < s.size) = true := decide_eq_true hlt
        go_wp2_with fail
        go_ret
        exact ⟨rfl, below_alloc (Below.refl _ _) _⟩
      · have e1 : decide (0 < s.size) = false := decide_eq_false hlt
        go_wp2_with fail
        go_ret
        exact ⟨rfl, below_alloc (Below.refl _ _) _⟩
  · have h3 : decide (s.size ≤ 30) = false := decide_eq_false h2
    go_enter Tryz.func146, Tryz.ntmps146
    go_wp2_with fail
    go_loopg [3, 4] 0 (fun k x3 x4 wr => x3 = .bool false ∧ x4 = .int .i64 ((0 : Nat) : Int) ∧ wr = w.alloc (Obj.cells #[.int .i64 1, .int .i64 b, .string s, .slice A n c] 24))
    case atStart => exact ⟨rfl, rfl, rfl⟩
    case round =>
      obtain ⟨rfl, rfl, rfl⟩ := hrel
      by_cases hlt : 0 < s.size
      · have e1 : decide (0 < s.size) = true := decide_eq_true hlt
        go_wp2_with fail
        go_ret
        exact ⟨rfl, below_alloc (Below.refl _ _) _⟩
      · exact absurd (by omega : 0 < s.size) hlt

set_option maxRecDepth 100000 in
/-- A text's own fields. -/
theorem leaf_text (b : Int) (s : ByteArray) (A : Option Addr) (n c : Nat) (w : World) :
    Calls Tryz.prog 146 #[formV 2 b s A n c] w fun e w' => e = .returned (.bool (textM s && (b == 0) && ((n : Int) == 0))) ∧ Below w.heap.size w w' := by
  have hu24 := Tryz.underlying24
  have hmf : ∀ (fn : Fn) (first cap : Array Value) (w : World), (Instr.makeFunc fn first cap).run Tryz.prog w = .ok (.func fn first cap) w := fun _ _ _ _ => rfl
  rw [textM_idx]
  obtain ⟨q, hq⟩ : ∃ q, q = decide (0 ≤ Lib.idxFunc badR true s) := ⟨_, rfl⟩
  have CB : Hid (∀ w, Calls Tryz.prog 170 #[.string s, .func (.func 169) #[] #[]] w fun e w' => e = .returned (.bool q) ∧ Below w.heap.size w w') := by rw [hq]; exact fun w => ContainsBad_any s w
  rw [← hq]
  clear hq
  cases h1 : decide (s.size ≤ 2000) with
  | false =>
    have h1' := of_decide_eq_false h1
    go_enter Tryz.func146, Tryz.ntmps146
    go_wp2_with fail
    go_ret
    exact ⟨rfl, by (repeat (first | assumption | exact Below.refl _ _ | apply below_alloc | apply pw_below_drewN | apply below_drew1))⟩
  | true =>
    have h1' := of_decide_eq_true h1
    cases q with
    | true =>
      go_enter Tryz.func146, Tryz.ntmps146
      go_wp2_with fail
      refine (CB.out _).mono ?_
      rintro e w1 ⟨rfl, B1⟩
      have B2 : Hid _ := below_after (below_alloc (Below.refl w.heap.size w) (Obj.cells #[.int .i64 2, .int .i64 b, .string s, .slice A n c] 24)) B1
      clear B1
      go_wp2_with fail
      go_ret
      exact ⟨rfl, B2.out⟩
    | false =>
      go_enter Tryz.func146, Tryz.ntmps146
      go_wp2_with fail
      refine (CB.out _).mono ?_
      rintro e w1 ⟨rfl, B1⟩
      have B2 : Hid _ := below_after (below_alloc (Below.refl w.heap.size w) (Obj.cells #[.int .i64 2, .int .i64 b, .string s, .slice A n c] 24)) B1
      obtain ⟨q0, q1, q2, q3⟩ := box_at B1
      clear B1
      cases h2 : (b == 0) with
      | false =>
        go_wp2_with fail
        go_ret
        exact ⟨by rw [h2]; rfl, B2.out⟩
      | true =>
        go_wp2_with fail
        go_ret
        exact ⟨by rw [h2]; rfl, B2.out⟩
theorem leaf_other (a b : Int) (s : ByteArray) (A : Option Addr) (n c : Nat) (w : World) (h0 : a ≠ 0) (h1 : a ≠ 1) (h2 : a ≠ 2) (h3 : a ≠ 3) :
    Calls Tryz.prog 146 #[formV a b s A n c] w fun e w' => e = .returned (.bool false) ∧ Below w.heap.size w w' := by
  have hu24 := Tryz.underlying24
  have b0 : (a == 0) = false := beq_eq_false_iff_ne.mpr h0
  have b1 : (a == 1) = false := beq_eq_false_iff_ne.mpr h1
  have b2 : (a == 2) = false := beq_eq_false_iff_ne.mpr h2
  have b3 : (a == 3) = false := beq_eq_false_iff_ne.mpr h3
  go_enter Tryz.func146, Tryz.ntmps146
  go_wp2_with fail
  go_ret
  exact ⟨rfl, by (repeat (first | assumption | exact Below.refl _ _ | apply below_alloc | apply pw_below_drewN | apply below_drew1))⟩

/-- What the call on a form's own fields does, whatever the form. -/
theorem leafC_all (x : S24) : LeafC x := by
  obtain ⟨a, b, s, l⟩ := x
  intro A c w
  unfold leafM
  simp only []
  by_cases h0 : a = 0
  · subst h0
    rw [if_pos rfl]
    exact leaf_num b s A l.length c w
  rw [if_neg h0]
  by_cases h1 : a = 1
  · subst h1
    rw [if_pos rfl]
    by_cases hs : (s.toList == []) = false ∧ s.size ≤ 30
    · exact leaf_word b s A l.length c w hs.2 hs.1
    · have hw : wordM s = false := by
        unfold wordM
        by_cases h : (s.toList == []) = false
        · have : ¬ s.size ≤ 30 := fun h2 => hs ⟨h, h2⟩
          rw [decide_eq_false this]
          simp
        · have : (s.toList == []) = true := by simpa using h
          rw [this]
          simp
      rw [hw]
      refine leaf_noword b s A l.length c w ?_
      by_cases h : (s.toList == []) = false
      · exact .inr ⟨h, fun h2 => hs ⟨h, h2⟩⟩
      · exact .inl (by simpa using h)
  rw [if_neg h1]
  by_cases h2 : a = 2
  · subst h2
    rw [if_pos rfl]
    exact leaf_text b s A l.length c w
  rw [if_neg h2]
  by_cases h3 : a = 3
  · subst h3
    rw [if_pos rfl]
    exact leaf_list b s A l.length c w
  rw [if_neg h3]
  exact leaf_other a b s A l.length c w h0 h1 h2 h3
mutual
theorem allC_all : ∀ x : S24, allC x
  | ⟨a, b, s, l⟩ => ⟨leafC_all _, allCs_all l⟩
theorem allCs_all : ∀ l : List S24, allCs l
  | [] => trivial
  | x :: l => ⟨allC_all x, allCs_all l⟩
end

end Go.Proofs.YtcjmplpfebpfpaaGreatDoor

namespace Go.Proofs.YtcjmplpfebpfpaaGreatDoor
open Go.RowKit Go.Proofs Go.Proofs.YtcjmplpfebpfpaaGreatDoorW.PrintWords Go.Proofs.YtcjmplpfebpfpaaGreatDoorW.PrintLast Go.Proofs.YtcjmplpfebpfpaaGreatDoorW.PrintMore PKindInstances
set_option linter.unusedVariables false
set_option linter.unusedSimpArgs false

mutual
/-- What the variables of a form are in another one, as far as it goes. -/
def matchM (vs : List ByteArray) : S24 → S24 → Bool → List (ByteArray × S24) → Bool × List (ByteArray × S24)
  | ⟨a, n, s, l⟩, t, bare, mt =>
    if bare = false ∧ a = 1 ∧ s ∈ vs then (match lookT mt s with | none => (true, putT mt s t) | some was => (eqM was t, mt)) else
    if a ≠ 3 ∨ t.f0 ≠ 3 then (eqM ⟨a, n, s, l⟩ t, mt) else
    if l.length ≠ t.f3.length then (false, mt) else matchL vs (!bare && isFunW (headL l)) bare 0 l t.f3 mt
def matchL (vs : List ByteArray) (fn bare : Bool) : Nat → List S24 → List S24 → List (ByteArray × S24) → Bool × List (ByteArray × S24)
  | i, x :: la, lb, mt =>
    match lb with
    | [] => (true, mt)
    | y :: lb =>
      if i = 0 ∧ bare = false ∧ x.f0 = 1 then (if eqM x y then matchL vs fn bare (i + 1) la lb mt else (false, mt)) else
      if (matchM vs x y (fn && decide (i = 1) && (x.f0 == 3)) mt).1 then matchL vs fn bare (i + 1) la lb (matchM vs x y (fn && decide (i = 1) && (x.f0 == 3)) mt).2
      else (false, (matchM vs x y (fn && decide (i = 1) && (x.f0 == 3)) mt).2)
  | _, [], _, mt => (true, mt)
end

/-- What comes back. -/
def MaPost (W0 w : World) (base sp vb tb : Nat) (vs : List ByteArray) (R : Bool × List (ByteArray × S24)) (e : Ending) (w' : World) : Prop :=
  e = .returned (.bool R.1) ∧ w.grownBy w' (some tb) ∧ ∃ mtv, SolvAt base w' sp vb tb (varsV vs) mtv ∧ ToAt W0 R.2 mtv
def MatchOk (vs : List ByteArray) (x : S24) : Prop :=
  ∀ (W0 w : World) (base sp vb tb : Nat) (mt : List (ByteArray × S24)) (mtv : List (ByteArray × Value)) (y : S24) (bare : Bool) (A B : Option Addr) (c d : Nat), SolvAt base w sp vb tb (varsV vs) mtv → ToAt W0 mt mtv →
    Below W0.heap.size W0 w → W0.heap.size ≤ base → Kd.C k24 W0 A x.f3.length x.f3 → x.f3.length ≤ c → wid x < 9000000 → Kd.C k24 W0 B y.f3.length y.f3 → y.f3.length ≤ d → wid y < 9000000 →
    Calls Tryz.prog 63 #[formV x.f0 x.f1 x.f2 A x.f3.length c, formV y.f0 y.f1 y.f2 B y.f3.length d, .map (some vb), .map (some tb), .bool bare] w (MaPost W0 w base sp vb tb vs (matchM vs x y bare mt))

theorem boxes2 (w : World) (o1 o2 : Obj) : ((w.alloc o1).alloc o2).heap[w.heap.size]? = some o1 ∧ ((w.alloc o1).alloc o2).heap[w.heap.size + 1]? = some o2 ∧ Below w.heap.size w ((w.alloc o1).alloc o2) := by
  refine ⟨(Below.heap_alloc _ _ _ (by rw [size_new]; omega)).trans (MapKept.heap_alloc w _).1, ?_, below_alloc (below_alloc (Below.refl _ _) _) _⟩
  have h := (MapKept.heap_alloc (w.alloc o1) o2).1
  rw [size_new] at h
  exact h

set_option maxRecDepth 100000 in
set_option maxHeartbeats 4000000 in
/-- A variable. -/
theorem match_var (vs : List ByteArray) (W0 w : World) (base sp vb tb : Nat) (mt : List (ByteArray × S24)) (mtv : List (ByteArray × Value)) (a1 : Int) (a2 : ByteArray) (la : List S24) (b0 b1 : Int) (b2 : ByteArray) (lb : List S24) (A B : Option Addr) (c d : Nat)
    (hs : SolvAt base w sp vb tb (varsV vs) mtv) (ht : ToAt W0 mt mtv) (hw : Below W0.heap.size W0 w) (hb : W0.heap.size ≤ base) (ha1 : Kd.C k24 W0 A la.length la) (ha2 : la.length ≤ c) (ha3 : wids la < 9000000) (hb1 : Kd.C k24 W0 B lb.length lb) (hb2 : lb.length ≤ d) (hb3 : wid ⟨b0, b1, b2, lb⟩ < 9000000) (hv : a2 ∈ vs) :
    Calls Tryz.prog 63 #[formV 1 a1 a2 A la.length c, formV b0 b1 b2 B lb.length d, .map (some vb), .map (some tb), .bool false] w (MaPost W0 w base sp vb tb vs (match lookT mt a2 with | none => (true, putT mt a2 ⟨b0, b1, b2, lb⟩) | some was => (eqM was ⟨b0, b1, b2, lb⟩, mt))) := by
  have hu24 := Tryz.underlying24
  have hu := Tryz.underlying100
  have hu72 := Tryz.underlying72
  have hu9 := Tryz.underlying9
  obtain ⟨x1, x2, xb⟩ := boxes2 w (Obj.cells #[.int .i64 1, .int .i64 a1, .string a2, .slice A la.length c] 24) (Obj.cells #[.int .i64 b0, .int .i64 b1, .string b2, .slice B lb.length d] 24)
  have HS : Hid _ := hs.below xb
  have HG : Hid (w.grownBy _ (some tb)) := grown_of_below xb (some tb)
  have HW : Hid _ := (hw.trans (xb.mono hw.size) : Below W0.heap.size W0 _)
  have HT : Hid _ := ht
  have HB1 : Hid _ := hb1
  clear hs ht hw ha1 ha3 hb1 xb
  have hm : decide (a2 ∈ vs) = true := decide_eq_true hv
  rcases look_to HT.out a2 with ⟨e1, e2⟩ | ⟨y1, u1, e1, e2, e3⟩
  · rw [e1]
    simp only []
    go_enter Tryz.func63, Tryz.ntmps63
    go_upto_region 1 with fail
    generalize (w.alloc (Obj.cells #[.int .i64 1, .int .i64 a1, .string a2, .slice A la.length c] 24)).alloc (Obj.cells #[.int .i64 b0, .int .i64 b1, .string b2, .slice B lb.length d] 24) = X at *
    obtain ⟨p0, p1, p2, p3⟩ := cells4 x1
    obtain ⟨q0, q1, q2, q3⟩ := cells4 x2
    have hz2 : (zeroValue 24).run Tryz.prog X = .ok (formV 0 0 ⟨#[]⟩ none 0 0) X := by go_simp
    have r1 : (Instr.lookup 100 (.map (some vb)) (.string a2) false).run Tryz.prog X = .ok (.bool true) X := by
      have h := look_drewN HS.out a2 0
      rw [hm] at h
      exact h
    have r2 := run_lookup_at keyText' hu72 hu9 hz2 HS.out.tos a2 true
    rw [if_pos rfl, e2] at r2
    change (Instr.lookup 72 (.map (some tb)) (.string a2) true).run Tryz.prog X = _ at r2
    simp only [Option.getD_none, Option.isSome_none] at r2
    go_upto_region 3 with fail
    have BY := below_alloc (Below.refl X.heap.size X) (Obj.cells #[.int .i64 0, .int .i64 0, .string ⟨#[]⟩, .slice none 0 0] 24)
    have Y3 := (MapKept.heap_alloc X (Obj.cells #[.int .i64 0, .int .i64 0, .string ⟨#[]⟩, .slice none 0 0] 24)).1
    have Y2 := (BY.block _ (Array.getElem?_eq_some_iff.1 x2).1).trans x2
    have Y1 := (BY.block _ (Array.getElem?_eq_some_iff.1 x1).1).trans x1
    have SY : Hid _ := HS.out.below BY
    have GY : Hid (w.grownBy _ (some tb)) := HG.out.trans (grown_of_below BY (some tb))
    have WY : Hid _ := (HW.out.trans (BY.mono HW.out.size) : Below W0.heap.size W0 _)
    clear HS HG HW r1 r2 hz2 p0 p1 p2 p3 q0 q1 q2 q3 x1 x2 BY
    generalize X.alloc (Obj.cells #[.int .i64 0, .int .i64 0, .string ⟨#[]⟩, .slice none 0 0] 24) = Y at *
    generalize X.heap.size = bx at *
    obtain ⟨p0, p1, p2, p3⟩ := cells4 Y1
    obtain ⟨q0, q1, q2, q3⟩ := cells4 Y2
    obtain ⟨s0, s1, s2, s3⟩ := cells4 Y3
    go_wp2_with (first | (refine law_update keyText' rfl _ _ _ (.inl rfl) hu72 hu9 SY.out.tos a2 (formV b0 b1 b2 B lb.length d) rfl rfl rfl ?_; intro w9 M9 G9))
    go_ret
    exact ⟨rfl, GY.out.trans G9, _, SolvAt.putTo SY.out M9 G9, put_to HT.out a2 ⟨B, d, rfl, HB1.out, hb2, hb3⟩⟩
  · rw [e1]
    simp only []
    obtain ⟨A5, c5, rfl, e4, e5, e6⟩ := e3
    obtain ⟨y0, y1', y2, y3⟩ := y1
    go_enter Tryz.func63, Tryz.ntmps63
    go_upto_region 1 with fail
    generalize (w.alloc (Obj.cells #[.int .i64 1, .int .i64 a1, .string a2, .slice A la.length c] 24)).alloc (Obj.cells #[.int .i64 b0, .int .i64 b1, .string b2, .slice B lb.length d] 24) = X at *
    obtain ⟨p0, p1, p2, p3⟩ := cells4 x1
    obtain ⟨q0, q1, q2, q3⟩ := cells4 x2
    have hz2 : (zeroValue 24).run Tryz.prog X = .ok (formV 0 0 ⟨#[]⟩ none 0 0) X := by go_simp
    have r1 : (Instr.lookup 100 (.map (some vb)) (.string a2) false).run Tryz.prog X = .ok (.bool true) X := by
      have h := look_drewN HS.out a2 0
      rw [hm] at h
      exact h
    have r2 := run_lookup_at keyText' hu72 hu9 hz2 HS.out.tos a2 true
    rw [if_pos rfl, e2] at r2
    change (Instr.lookup 72 (.map (some tb)) (.string a2) true).run Tryz.prog X = _ at r2
    simp only [Option.getD_some, Option.isSome_some] at r2
    go_upto_region 3 with fail
    have BY := below_alloc (Below.refl X.heap.size X) (Obj.cells #[.int .i64 y0, .int .i64 y1', .string y2, .slice A5 y3.length c5] 24)
    have Y3 := (MapKept.heap_alloc X (Obj.cells #[.int .i64 y0, .int .i64 y1', .string y2, .slice A5 y3.length c5] 24)).1
    have Y2 := (BY.block _ (Array.getElem?_eq_some_iff.1 x2).1).trans x2
    have Y1 := (BY.block _ (Array.getElem?_eq_some_iff.1 x1).1).trans x1
    have SY : Hid _ := HS.out.below BY
    have GY : Hid (w.grownBy _ (some tb)) := HG.out.trans (grown_of_below BY (some tb))
    have WY : Hid _ := (HW.out.trans (BY.mono HW.out.size) : Below W0.heap.size W0 _)
    clear HS HG HW r1 r2 hz2 p0 p1 p2 p3 q0 q1 q2 q3 x1 x2 BY
    generalize X.alloc (Obj.cells #[.int .i64 y0, .int .i64 y1', .string y2, .slice A5 y3.length c5] 24) = Y at *
    generalize X.heap.size = bx at *
    obtain ⟨p0, p1, p2, p3⟩ := cells4 Y1
    obtain ⟨q0, q1, q2, q3⟩ := cells4 Y2
    obtain ⟨s0, s1, s2, s3⟩ := cells4 Y3
    have EQ : Hid _ := Equal_any ⟨y0, y1', y2, y3⟩ ⟨b0, b1, b2, lb⟩ A5 B c5 d Y (Kd.C_below e4 WY.out) e5 (Kd.C_below HB1.out WY.out) hb2 e6 hb3
    go_wp2_with fail
    refine Calls.mono EQ.out ?_
    rintro e w5 ⟨rfl, B5⟩
    have G5 : Hid _ := GY.out.trans (grown_of_below B5 (some tb))
    have S5 : Hid _ := SY.out.below B5
    clear B5
    go_wp2_with fail
    go_ret
    exact ⟨rfl, G5.out, mtv, S5.out, HT.out⟩

set_option maxRecDepth 100000 in
set_option maxHeartbeats 4000000 in
/-- No variable, and no two lists. -/
theorem match_eq (vs : List ByteArray) (W0 w : World) (base sp vb tb : Nat) (mt : List (ByteArray × S24)) (mtv : List (ByteArray × Value)) (a0 a1 : Int) (a2 : ByteArray) (la : List S24) (b0 b1 : Int) (b2 : ByteArray) (lb : List S24) (bare : Bool) (A B : Option Addr) (c d : Nat)
    (hs : SolvAt base w sp vb tb (varsV vs) mtv) (ht : ToAt W0 mt mtv) (hw : Below W0.heap.size W0 w) (hb : W0.heap.size ≤ base) (ha1 : Kd.C k24 W0 A la.length la) (ha2 : la.length ≤ c) (ha3 : wid ⟨a0, a1, a2, la⟩ < 9000000) (hb1 : Kd.C k24 W0 B lb.length lb) (hb2 : lb.length ≤ d) (hb3 : wid ⟨b0, b1, b2, lb⟩ < 9000000)
    (hv : ¬ (bare = false ∧ a0 = 1 ∧ a2 ∈ vs)) (h3 : a0 ≠ 3 ∨ b0 ≠ 3) :
    Calls Tryz.prog 63 #[formV a0 a1 a2 A la.length c, formV b0 b1 b2 B lb.length d, .map (some vb), .map (some tb), .bool bare] w (MaPost W0 w base sp vb tb vs (eqM ⟨a0, a1, a2, la⟩ ⟨b0, b1, b2, lb⟩, mt)) := by
  have hu24 := Tryz.underlying24
  obtain ⟨x1, x2, xb⟩ := boxes2 w (Obj.cells #[.int .i64 a0, .int .i64 a1, .string a2, .slice A la.length c] 24) (Obj.cells #[.int .i64 b0, .int .i64 b1, .string b2, .slice B lb.length d] 24)
  have HS : Hid _ := hs.below xb
  have HG : Hid (w.grownBy _ (some tb)) := grown_of_below xb (some tb)
  have HW : Hid _ := (hw.trans (xb.mono hw.size) : Below W0.heap.size W0 _)
  have HT : Hid _ := ht
  have EQ : Hid _ := Equal_any ⟨a0, a1, a2, la⟩ ⟨b0, b1, b2, lb⟩ A B c d _ (Kd.C_below ha1 HW.out) ha2 (Kd.C_below hb1 HW.out) hb2 ha3 hb3
  clear hs ht hw ha1 ha3 hb1 xb
  have b33 : (a0 != 3) = true ∨ (a0 != 3) = false ∧ (b0 != 3) = true := by
    by_cases h : a0 = 3
    · exact .inr ⟨by simp [h], by rcases h3 with h3 | h3; exact absurd h h3; simpa using h3⟩
    · exact .inl (by simp [h])
  have cs : bare = true ∨ bare = false ∧ (a0 == 1) = false ∨ bare = false ∧ a0 = 1 ∧ decide (a2 ∈ vs) = false := by
    cases bare with
    | true => exact .inl rfl
    | false =>
      by_cases h : a0 = 1
      · exact .inr (.inr ⟨rfl, h, decide_eq_false fun h2 => hv ⟨rfl, h, h2⟩⟩)
      · exact .inr (.inl ⟨rfl, beq_eq_false_iff_ne.mpr h⟩)
  clear hv h3
  obtain ⟨q, hq⟩ : ∃ q, q = eqM ⟨a0, a1, a2, la⟩ ⟨b0, b1, b2, lb⟩ := ⟨_, rfl⟩
  rw [← hq] at EQ ⊢
  clear hq
  rcases cs with rfl | ⟨rfl, c1⟩ | ⟨rfl, rfl, c1⟩
  · rcases b33 with b3 | ⟨b3, b4⟩
    · go_enter Tryz.func63, Tryz.ntmps63
      go_upto_region 1 with fail
      generalize (w.alloc (Obj.cells #[.int .i64 a0, .int .i64 a1, .string a2, .slice A la.length c] 24)).alloc (Obj.cells #[.int .i64 b0, .int .i64 b1, .string b2, .slice B lb.length d] 24) = X at *
      obtain ⟨p0, p1, p2, p3⟩ := cells4 x1
      obtain ⟨q0, q1, q2, q3⟩ := cells4 x2
      go_wp2_with fail
      refine Calls.mono EQ.out ?_
      rintro e w5 ⟨rfl, B5⟩
      have G5 : Hid _ := HG.out.trans (grown_of_below B5 (some tb))
      have S5 : Hid _ := HS.out.below B5
      clear B5
      go_wp2_with fail
      go_ret
      exact ⟨rfl, G5.out, mtv, S5.out, HT.out⟩
    · go_enter Tryz.func63, Tryz.ntmps63
      go_upto_region 1 with fail
      generalize (w.alloc (Obj.cells #[.int .i64 a0, .int .i64 a1, .string a2, .slice A la.length c] 24)).alloc (Obj.cells #[.int .i64 b0, .int .i64 b1, .string b2, .slice B lb.length d] 24) = X at *
      obtain ⟨p0, p1, p2, p3⟩ := cells4 x1
      obtain ⟨q0, q1, q2, q3⟩ := cells4 x2
      go_wp2_with fail
      refine Calls.mono EQ.out ?_
      rintro e w5 ⟨rfl, B5⟩
      have G5 : Hid _ := HG.out.trans (grown_of_below B5 (some tb))
      have S5 : Hid _ := HS.out.below B5
      clear B5
      go_wp2_with fail
      go_ret
      exact ⟨rfl, G5.out, mtv, S5.out, HT.out⟩
  · rcases b33 with b3 | ⟨b3, b4⟩
    · go_enter Tryz.func63, Tryz.ntmps63
      go_upto_region 1 with fail
      generalize (w.alloc (Obj.cells #[.int .i64 a0, .int .i64 a1, .string a2, .slice A la.length c] 24)).alloc (Obj.cells #[.int .i64 b0, .int .i64 b1, .string b2, .slice B lb.length d] 24) = X at *
      obtain ⟨p0, p1, p2, p3⟩ := cells4 x1
      obtain ⟨q0, q1, q2, q3⟩ := cells4 x2
      go_wp2_with fail
      refine Calls.mono EQ.out ?_
      rintro e w5 ⟨rfl, B5⟩
      have G5 : Hid _ := HG.out.trans (grown_of_below B5 (some tb))
      have S5 : Hid _ := HS.out.below B5
      clear B5
      go_wp2_with fail
      go_ret
      exact ⟨rfl, G5.out, mtv, S5.out, HT.out⟩
    · go_enter Tryz.func63, Tryz.ntmps63
      go_upto_region 1 with fail
      generalize (w.alloc (Obj.cells #[.int .i64 a0, .int .i64 a1, .string a2, .slice A la.length c] 24)).alloc (Obj.cells #[.int .i64 b0, .int .i64 b1, .string b2, .slice B lb.length d] 24) = X at *
      obtain ⟨p0, p1, p2, p3⟩ := cells4 x1
      obtain ⟨q0, q1, q2, q3⟩ := cells4 x2
      go_wp2_with fail
      refine Calls.mono EQ.out ?_
      rintro e w5 ⟨rfl, B5⟩
      have G5 : Hid _ := HG.out.trans (grown_of_below B5 (some tb))
      have S5 : Hid _ := HS.out.below B5
      clear B5
      go_wp2_with fail
      go_ret
      exact ⟨rfl, G5.out, mtv, S5.out, HT.out⟩
  · rcases b33 with b3 | ⟨b3, b4⟩
    · go_enter Tryz.func63, Tryz.ntmps63
      go_upto_region 1 with fail
      generalize (w.alloc (Obj.cells #[.int .i64 1, .int .i64 a1, .string a2, .slice A la.length c] 24)).alloc (Obj.cells #[.int .i64 b0, .int .i64 b1, .string b2, .slice B lb.length d] 24) = X at *
      obtain ⟨p0, p1, p2, p3⟩ := cells4 x1
      obtain ⟨q0, q1, q2, q3⟩ := cells4 x2
      have r1 : (Instr.lookup 100 (.map (some vb)) (.string a2) false).run Tryz.prog X = .ok (.bool false) X := by
        have h := look_drewN HS.out a2 0
        rw [c1] at h
        exact h
      go_wp2_with fail
      refine Calls.mono EQ.out ?_
      rintro e w5 ⟨rfl, B5⟩
      have G5 : Hid _ := HG.out.trans (grown_of_below B5 (some tb))
      have S5 : Hid _ := HS.out.below B5
      clear B5
      go_wp2_with fail
      go_ret
      exact ⟨rfl, G5.out, mtv, S5.out, HT.out⟩
    · simp at b3

/-- What holds of the loop. -/
def MaRel (W0 X : World) (base sp vb tb : Nat) (vs : List ByteArray) (fn bare : Bool) (la lb : List S24) (R : Bool × List (ByteArray × S24)) (k : Nat) (x73 : Value) (wr : World) : Prop :=
  ∃ (i : Nat) (mt : List (ByteArray × S24)) (mtv : List (ByteArray × Value)), x73 = .int .i64 (i : Int) ∧ k + i = la.length ∧ X.grownBy wr (some tb) ∧ SolvAt base wr sp vb tb (varsV vs) mtv ∧ ToAt W0 mt mtv ∧ matchL vs fn bare i (la.drop i) (lb.drop i) mt = R

set_option maxRecDepth 100000 in
set_option maxHeartbeats 8000000 in
theorem match_bare (vs : List ByteArray) (W0 w : World) (base sp vb tb : Nat) (mt : List (ByteArray × S24)) (mtv : List (ByteArray × Value)) (a1 : Int) (a2 : ByteArray) (la : List S24) (b1 : Int) (b2 : ByteArray) (lb : List S24) (A B : Option Addr) (c d : Nat)
    (hs : SolvAt base w sp vb tb (varsV vs) mtv) (ht : ToAt W0 mt mtv) (hw : Below W0.heap.size W0 w) (hb : W0.heap.size ≤ base) (ha1 : Kd.C k24 W0 A la.length la) (ha2 : la.length ≤ c) (ha3 : wids la < 9000000) (hb1 : Kd.C k24 W0 B lb.length lb) (hb2 : lb.length ≤ d) (hb3 : wids lb < 9000000)
    (hll : la.length = lb.length) (hq : ∀ x ∈ la, MatchOk vs x ∧ wid x < 9000000) (R : Bool × List (ByteArray × S24)) (hR : matchL vs false true 0 la lb mt = R) :
    Calls Tryz.prog 63 #[formV 3 a1 a2 A la.length c, formV 3 b1 b2 B lb.length d, .map (some vb), .map (some tb), .bool true] w (MaPost W0 w base sp vb tb vs R) := by
  have hu24 := Tryz.underlying24
  have h1 := wids_len la
  have h2 := wids_len lb
  obtain ⟨x1, x2, xb⟩ := boxes2 w (Obj.cells #[.int .i64 3, .int .i64 a1, .string a2, .slice A la.length c] 24) (Obj.cells #[.int .i64 3, .int .i64 b1, .string b2, .slice B lb.length d] 24)
  have htb : tb < w.heap.size := hs.tos.lt
  have hsb := hs.bt
  have HS : Hid _ := hs.below xb
  have HXG : Hid (w.grownBy _ (some tb)) := grown_of_below xb (some tb)
  have HXW : Hid _ := (hw.trans (xb.mono hw.size) : Below W0.heap.size W0 _)
  have HT : Hid _ := ht
  have HA : Hid _ := ha1
  have HBB : Hid _ := hb1
  have HQ : Hid _ := hq
  have en : ((la.length : Int) != (lb.length : Int)) = false := bne_eq_false_iff_eq.mpr (by omega)
  have hle : la.length ≤ lb.length := by omega
  clear hll
  clear hs ht hw ha1 hb1 xb hq
  go_enter Tryz.func63, Tryz.ntmps63
  go_upto_region 1 with fail
  generalize (w.alloc (Obj.cells #[.int .i64 3, .int .i64 a1, .string a2, .slice A la.length c] 24)).alloc (Obj.cells #[.int .i64 3, .int .i64 b1, .string b2, .slice B lb.length d] 24) = X at *
  obtain ⟨p0, p1, p2, p3⟩ := cells4 x1
  obtain ⟨q0, q1, q2, q3⟩ := cells4 x2
  have start : Hid (MaRel W0 X base sp vb tb vs false true la lb R la.length (.int .i64 ((0 : Nat) : Int)) X) := ⟨0, mt, mtv, rfl, rfl, ⟨rfl, rfl, rfl, Nat.le_refl _, fun _ _ _ => rfl⟩, HS.out, HT.out, hR⟩
  have HB3 : Hid _ := q3
  generalize hbB : w.heap.size + 1 = bB at *
  clear x1 x2 hR
  go_wp2_with fail
  go_loopg [73] la.length (fun k x73 wr => MaRel W0 X base sp vb tb vs false true la lb R k x73 wr)
  case atStart => exact start.out
  case round =>
    clear start
    obtain ⟨i, mt2, mtv2, rfl, hki, hg, hS, hT, hV⟩ := hrel
    have hW := pw_below_grown HXW.out (some tb) HXW.out.size hg (fun k hk => by cases hk; omega)
    by_cases hlt : i < la.length
    · obtain ⟨g, rfl⟩ : ∃ g, gk = g + 1 := ⟨gk - 1, by omega⟩
      have e1 : decide (i < la.length) = true := decide_eq_true hlt
      obtain ⟨x, hx⟩ : ∃ x, la[i]? = some x := ⟨la[i]'(by omega), List.getElem?_eq_getElem _⟩
      obtain ⟨y, hy⟩ : ∃ y, lb[i]? = some y := ⟨lb[i]'(by omega), List.getElem?_eq_getElem _⟩
      obtain ⟨ad, A5, c5, rfl, g0, g1, g2, g3, g4, g5⟩ := row_at HA.out (by omega) hx
      obtain ⟨ae, B5, d5, rfl, k0, k1, k2, k3, k4, k5⟩ := row_at HBB.out (by omega) hy
      have haeb : (ae.add (i * 4)).block < W0.heap.size := World.block_lt_of_cell? _ _ k0
      have hneB : bB ≠ tb := by omega
      have hnet : (ae.add (i * 4)).block ≠ tb := by omega
      replace g0 := pw_cell_below hW g0
      replace g1 := pw_cell_below hW g1
      replace g2 := pw_cell_below hW g2
      replace g3 := pw_cell_below hW g3
      replace k0 := pw_cell_below hW k0
      replace k1 := pw_cell_below hW k1
      replace k2 := pw_cell_below hW k2
      replace k3 := pw_cell_below hW k3
      rw [drop_at3 hx, drop_at3 hy] at hV
      simp only [matchL] at hV
      obtain ⟨hMM, SX⟩ := HQ.out x (List.mem_of_getElem? hx)
      have SY : wid y < 9000000 := by have := wid_mem (List.mem_of_getElem? hy); omega
      have q3 := cell_grown hg HB3.out (fun h => hneB (Option.some.inj h))
      have MQ : Hid _ := hMM
      have G5 : Hid _ := g5
      have K5 : Hid _ := k5
      have HV : Hid _ := hV
      clear hx hy hMM g5 k5 hV
      obtain ⟨x0, x1, x2, x3⟩ := x
      obtain ⟨y0, y1, y2, y3⟩ := y
      go_upto_region 15 with fail
      have Bk := below_alloc (Below.refl wr.heap.size wr) (Obj.cells #[.int .i64 x0, .int .i64 x1, .string x2, .slice A5 x3.length c5] 24)
      have X3 := (MapKept.heap_alloc wr (Obj.cells #[.int .i64 x0, .int .i64 x1, .string x2, .slice A5 x3.length c5] 24)).1
      replace q3 := pw_cell_below Bk q3
      replace k0 := pw_cell_below Bk k0
      replace k1 := pw_cell_below Bk k1
      replace k2 := pw_cell_below Bk k2
      replace k3 := pw_cell_below Bk k3
      have hnk : wr.heap.size ≠ tb := by have := hS.tos.lt; omega
      replace hg := hg.trans (grown_of_below Bk (some tb))
      replace hS := hS.below Bk
      replace hW := hW.trans (Bk.mono hW.size)
      clear g0 g1 g2 g3 Bk
      generalize wr.alloc (Obj.cells #[.int .i64 x0, .int .i64 x1, .string x2, .slice A5 x3.length c5] 24) = wk at *
      generalize wr.heap.size = bk at *
      obtain ⟨p0, p1, p2, p3⟩ := cells4 X3
      have HF : Hid (∀ W : World, wk.grownBy W (some tb) → W.cell? ⟨bB, 3, none⟩ = some (.slice (some ae) lb.length d) ∧ (W.cell? ⟨bk, 0, none⟩ = some (.int .i64 x0) ∧ W.cell? ⟨bk, 1, none⟩ = some (.int .i64 x1) ∧ W.cell? ⟨bk, 2, none⟩ = some (.string x2) ∧ W.cell? ⟨bk, 3, none⟩ = some (.slice A5 x3.length c5)) ∧ W.cell? (ae.add (i * 4)) = some (.int .i64 y0) ∧ W.cell? ⟨(ae.add (i * 4)).block, (ae.add (i * 4)).off + 1, none⟩ = some (.int .i64 y1) ∧ W.cell? ⟨(ae.add (i * 4)).block, (ae.add (i * 4)).off + 2, none⟩ = some (.string y2) ∧ W.cell? ⟨(ae.add (i * 4)).block, (ae.add (i * 4)).off + 3, none⟩ = some (.slice B5 y3.length d5)) := fun W h => ⟨cell_grown h q3 (fun h => hneB (Option.some.inj h)), ⟨cell_grown h p0 (fun h => hnk (Option.some.inj h)), cell_grown h p1 (fun h => hnk (Option.some.inj h)), cell_grown h p2 (fun h => hnk (Option.some.inj h)), cell_grown h p3 (fun h => hnk (Option.some.inj h))⟩, cell_grown h k0 (fun h => hnet (Option.some.inj h)), cell_grown h k1 (fun h => hnet (Option.some.inj h)), cell_grown h k2 (fun h => hnet (Option.some.inj h)), cell_grown h k3 (fun h => hnet (Option.some.inj h))⟩
      have HG : Hid (X.grownBy wk (some tb)) := hg
      have HS2 : Hid _ := hS
      have HT2 : Hid _ := hT
      have HW2 : Hid _ := hW
      clear X3 hg hS hT hW k0 k1 k2 k3 q3
      have hV := HV.out
      rw [if_neg (by simp), show (false && decide (i = 1) && (x0 == 3)) = false from rfl] at hV
      clear HV
      by_cases hi : i = 0
      · have hi2 : ((i : Int) == 0) = true := beq_iff_eq.mpr (by omega)
        clear hi
        have MM : Hid (∀ wq, Below wk.heap.size wk wq → _) := fun wq hwq => MQ.out W0 wq base sp vb tb mt2 mtv2 ⟨y0, y1, y2, y3⟩ false A5 B5 c5 d5 (HS2.out.below hwq) HT2.out (HW2.out.trans (hwq.mono HW2.out.size)) hb G5.out g4 SX K5.out k4 SY
        obtain ⟨Q, hQ⟩ : ∃ Q, Q = matchM vs ⟨x0, x1, x2, x3⟩ ⟨y0, y1, y2, y3⟩ false mt2 := ⟨_, rfl⟩
        rw [← hQ] at MM hV
        clear hQ MQ
        obtain ⟨q1, mt3⟩ := Q
        simp only [] at hV
        clear p0 p1 p2 p3
        go_wp2_with fail
        refine wp_region_held_drew (S := fun W => W.cell? ⟨bB, 3, none⟩ = some (.slice (some ae) lb.length d) ∧ (W.cell? ⟨bk, 0, none⟩ = some (.int .i64 x0) ∧ W.cell? ⟨bk, 1, none⟩ = some (.int .i64 x1) ∧ W.cell? ⟨bk, 2, none⟩ = some (.string x2) ∧ W.cell? ⟨bk, 3, none⟩ = some (.slice A5 x3.length c5)) ∧ W.cell? (ae.add (i * 4)) = some (.int .i64 y0) ∧ W.cell? ⟨(ae.add (i * 4)).block, (ae.add (i * 4)).off + 1, none⟩ = some (.int .i64 y1) ∧ W.cell? ⟨(ae.add (i * 4)).block, (ae.add (i * 4)).off + 2, none⟩ = some (.string y2) ∧ W.cell? ⟨(ae.add (i * 4)).block, (ae.add (i * 4)).off + 3, none⟩ = some (.slice B5 y3.length d5)) (by kernel_rfl) (HF.out _ (grown_of_below (below_drew (Below.refl _ _)) (some tb))) (fun hHeld => ?_)
        refine takeV 0 (some 96) (formV x0 x1 x2 A5 x3.length c5) rfl rfl (by kernel_rfl) (by kernel_rfl) (by kernel_rfl) (fun _ _ _ h => h) (Or.inl ⟨by kernel_rfl, fun W hSw => by obtain ⟨s9, ⟨t0, t1, t2, t3⟩, u0, u1, u2, u3⟩ := hSw; go_simp⟩) hHeld ?_
        try simp only [Act.put, List.setIfInBounds_toArray, List.set_cons_zero, List.set_cons_succ]
        refine takeV 1 (some 97) (.pointer (some ⟨bB, 3, none⟩)) rfl rfl (by kernel_rfl) (by kernel_rfl) (by kernel_rfl) (fun _ _ _ h => h) (Or.inl ⟨by kernel_rfl, fun W hSw => by obtain ⟨s9, ⟨t0, t1, t2, t3⟩, u0, u1, u2, u3⟩ := hSw; go_simp⟩) hHeld ?_
        try simp only [Act.put, List.setIfInBounds_toArray, List.set_cons_zero, List.set_cons_succ]
        refine takeV 2 (some 98) (.slice (some ae) lb.length d) rfl rfl (by kernel_rfl) (by kernel_rfl) (by kernel_rfl) (fun _ _ _ h => h) (Or.inl ⟨by kernel_rfl, fun W hSw => by obtain ⟨s9, ⟨t0, t1, t2, t3⟩, u0, u1, u2, u3⟩ := hSw; go_simp⟩) hHeld ?_
        try simp only [Act.put, List.setIfInBounds_toArray, List.set_cons_zero, List.set_cons_succ]
        refine takeV 3 (some 99) (.int .i64 (i : Int)) rfl rfl (by kernel_rfl) (by kernel_rfl) (by kernel_rfl) (fun _ _ _ h => h) (Or.inl ⟨by kernel_rfl, fun W hSw => by obtain ⟨s9, ⟨t0, t1, t2, t3⟩, u0, u1, u2, u3⟩ := hSw; go_simp⟩) hHeld ?_
        try simp only [Act.put, List.setIfInBounds_toArray, List.set_cons_zero, List.set_cons_succ]
        refine takeV 4 (some 100) (.pointer (some (ae.add (i * 4)))) rfl rfl (by kernel_rfl) (by kernel_rfl) (by kernel_rfl) (fun _ _ _ h => h) (Or.inl ⟨by kernel_rfl, fun W hSw => by obtain ⟨s9, ⟨t0, t1, t2, t3⟩, u0, u1, u2, u3⟩ := hSw; go_simp; first | done | (intro h9; exact absurd h9 (by omega))⟩) hHeld ?_
        try simp only [Act.put, List.setIfInBounds_toArray, List.set_cons_zero, List.set_cons_succ]
        refine takeV 5 (some 101) (formV y0 y1 y2 B5 y3.length d5) rfl rfl (by kernel_rfl) (by kernel_rfl) (by kernel_rfl) (fun _ _ _ h => h) (Or.inl ⟨by kernel_rfl, fun W hSw => by obtain ⟨s9, ⟨t0, t1, t2, t3⟩, u0, u1, u2, u3⟩ := hSw; go_simp⟩) hHeld ?_
        try simp only [Act.put, List.setIfInBounds_toArray, List.set_cons_zero, List.set_cons_succ]
        refine takeV 6 (some 102) (.map (some vb)) rfl rfl (by kernel_rfl) (by kernel_rfl) (by kernel_rfl) (fun _ _ _ h => h) (Or.inl ⟨by kernel_rfl, fun W hSw => by obtain ⟨s9, ⟨t0, t1, t2, t3⟩, u0, u1, u2, u3⟩ := hSw; go_simp⟩) hHeld ?_
        try simp only [Act.put, List.setIfInBounds_toArray, List.set_cons_zero, List.set_cons_succ]
        refine takeV 7 (some 103) (.map (some tb)) rfl rfl (by kernel_rfl) (by kernel_rfl) (by kernel_rfl) (fun _ _ _ h => h) (Or.inl ⟨by kernel_rfl, fun W hSw => by obtain ⟨s9, ⟨t0, t1, t2, t3⟩, u0, u1, u2, u3⟩ := hSw; go_simp⟩) hHeld ?_
        try simp only [Act.put, List.setIfInBounds_toArray, List.set_cons_zero, List.set_cons_succ]
        refine takeV 8 (some 104) (.bool false) rfl rfl (by kernel_rfl) (by kernel_rfl) (by kernel_rfl) (fun _ _ _ h => h) (Or.inl ⟨by kernel_rfl, fun W hSw => by obtain ⟨s9, ⟨t0, t1, t2, t3⟩, u0, u1, u2, u3⟩ := hSw; go_simp⟩) hHeld ?_
        try simp only [Act.put, List.setIfInBounds_toArray, List.set_cons_zero, List.set_cons_succ]
        refine takeV 9 (some 105) (.bool false) rfl rfl (by kernel_rfl) (by kernel_rfl) (by kernel_rfl) (fun _ _ _ h => h) (Or.inl ⟨by kernel_rfl, fun W hSw => by obtain ⟨s9, ⟨t0, t1, t2, t3⟩, u0, u1, u2, u3⟩ := hSw; go_simp⟩) hHeld ?_
        try simp only [Act.put, List.setIfInBounds_toArray, List.set_cons_zero, List.set_cons_succ]
        refine takeV 10 (some 106) undef rfl rfl (by kernel_rfl) (by kernel_rfl) (by kernel_rfl) (fun _ _ _ h => h) (Or.inr ⟨by kernel_rfl, rfl⟩) hHeld ?_
        try simp only [Act.put, List.setIfInBounds_toArray, List.set_cons_zero, List.set_cons_succ]
        refine takeV 11 (some 107) undef rfl rfl (by kernel_rfl) (by kernel_rfl) (by kernel_rfl) (fun _ _ _ h => h) (Or.inr ⟨by kernel_rfl, rfl⟩) hHeld ?_
        try simp only [Act.put, List.setIfInBounds_toArray, List.set_cons_zero, List.set_cons_succ]
        refine takeV 12 (some 108) (.bool false) rfl rfl (by kernel_rfl) (by kernel_rfl) (by kernel_rfl) (fun _ _ _ h => h) (Or.inl ⟨by kernel_rfl, fun W hSw => by obtain ⟨s9, ⟨t0, t1, t2, t3⟩, u0, u1, u2, u3⟩ := hSw; go_simp⟩) hHeld ?_
        try simp only [Act.put, List.setIfInBounds_toArray, List.set_cons_zero, List.set_cons_succ]
        refine takeV 13 (some 109) (.bool false) rfl rfl (by kernel_rfl) (by kernel_rfl) (by kernel_rfl) (fun _ _ _ h => h) (Or.inl ⟨by kernel_rfl, fun W hSw => by obtain ⟨s9, ⟨t0, t1, t2, t3⟩, u0, u1, u2, u3⟩ := hSw; go_simp⟩) hHeld ?_
        try simp only [Act.put, List.setIfInBounds_toArray, List.set_cons_zero, List.set_cons_succ]
        refine takeV 14 (some 110) undef rfl rfl (by kernel_rfl) (by kernel_rfl) (by kernel_rfl) (fun _ _ _ h => h) (Or.inr ⟨by kernel_rfl, rfl⟩) hHeld ?_
        try simp only [Act.put, List.setIfInBounds_toArray, List.set_cons_zero, List.set_cons_succ]
        refine takeV 15 (some 111) undef rfl rfl (by kernel_rfl) (by kernel_rfl) (by kernel_rfl) (fun _ _ _ h => h) (Or.inr ⟨by kernel_rfl, rfl⟩) hHeld ?_
        try simp only [Act.put, List.setIfInBounds_toArray, List.set_cons_zero, List.set_cons_succ]
        refine takeV 16 (some 112) undef rfl rfl (by kernel_rfl) (by kernel_rfl) (by kernel_rfl) (fun _ _ _ h => h) (Or.inr ⟨by kernel_rfl, rfl⟩) hHeld ?_
        try simp only [Act.put, List.setIfInBounds_toArray, List.set_cons_zero, List.set_cons_succ]
        refine takeV 17 (some 113) (.bool false) rfl rfl (by kernel_rfl) (by kernel_rfl) (by kernel_rfl) (fun _ _ _ h => h) (Or.inl ⟨by kernel_rfl, fun W hSw => by obtain ⟨s9, ⟨t0, t1, t2, t3⟩, u0, u1, u2, u3⟩ := hSw; go_simp⟩) hHeld ?_
        try simp only [Act.put, List.setIfInBounds_toArray, List.set_cons_zero, List.set_cons_succ]
        refine wpAnyH_ready (rs := [18]) (by kernel_rfl) (by simp) ?_
        refine AllReadyH.cons rfl (fun K hK => ?_) AllReadyH.nil
        clear hHeld
        go_simp
        go_at_call 63
        refine Calls.mono (MM.out _ (below_drew (Below.refl _ _))) ?_
        rintro e w6 ⟨rfl, h7, mtv3, h8, h9⟩
        have G6 : Hid (wk.grownBy w6 (some tb)) := (grown_of_below (below_drew (Below.refl wk.heap.size wk)) (some tb)).trans h7
        have HSn := HF.out _ G6.out
        have H8 : Hid _ := h8
        have H9 : Hid _ := h9
        clear h7 h8 h9
        cases q1 with
        | true =>
          simp only [if_true] at hV
          have HV9 : Hid _ := hV
          clear hV
          go_wp2_with fail
          refine hK.out _ _ HSn (fun hHeld => ?_)
          clear hK K HSn
          try simp only [Act.put, List.setIfInBounds_toArray, List.set_cons_zero, List.set_cons_succ]
          refine takeV 19 (some 115) (.bool false) rfl rfl (by kernel_rfl) (by kernel_rfl) (by kernel_rfl) (fun _ _ _ h => h) (Or.inl ⟨by kernel_rfl, fun W hSw => by go_simp⟩) hHeld ?_
          try simp only [Act.put, List.setIfInBounds_toArray, List.set_cons_zero, List.set_cons_succ]
          refine wpAnyH_done (by kernel_rfl) ?_ _
          go_wp2_with fail
          go_roundg g
          case measure => omega
          case rel => exact ⟨i + 1, _, mtv3, by go_num, by omega, HG.out.trans G6.out, H8.out, H9.out, HV9.out⟩
        | false =>
          simp only [Bool.false_eq_true, if_false] at hV
          subst hV
          go_wp2_with fail
          refine hK.out _ _ HSn (fun hHeld => ?_)
          clear hK K HSn
          try simp only [Act.put, List.setIfInBounds_toArray, List.set_cons_zero, List.set_cons_succ]
          refine takeV 19 (some 115) (.bool true) rfl rfl (by kernel_rfl) (by kernel_rfl) (by kernel_rfl) (fun _ _ _ h => h) (Or.inl ⟨by kernel_rfl, fun W hSw => by go_simp⟩) hHeld ?_
          try simp only [Act.put, List.setIfInBounds_toArray, List.set_cons_zero, List.set_cons_succ]
          refine wpAnyH_done (by kernel_rfl) ?_ _
          go_wp2_with fail
          go_ret
          exact ⟨rfl, HXG.out.trans (HG.out.trans G6.out), mtv3, H8.out, H9.out⟩
      · have hi2 : ((i : Int) == 0) = false := beq_eq_false_iff_ne.mpr (by omega)
        clear hi
        have MM : Hid (∀ wq, Below wk.heap.size wk wq → _) := fun wq hwq => MQ.out W0 wq base sp vb tb mt2 mtv2 ⟨y0, y1, y2, y3⟩ false A5 B5 c5 d5 (HS2.out.below hwq) HT2.out (HW2.out.trans (hwq.mono HW2.out.size)) hb G5.out g4 SX K5.out k4 SY
        obtain ⟨Q, hQ⟩ : ∃ Q, Q = matchM vs ⟨x0, x1, x2, x3⟩ ⟨y0, y1, y2, y3⟩ false mt2 := ⟨_, rfl⟩
        rw [← hQ] at MM hV
        clear hQ MQ
        obtain ⟨q1, mt3⟩ := Q
        simp only [] at hV
        clear p0 p1 p2 p3
        go_wp2_with fail
        refine wp_region_held_drew (S := fun W => W.cell? ⟨bB, 3, none⟩ = some (.slice (some ae) lb.length d) ∧ (W.cell? ⟨bk, 0, none⟩ = some (.int .i64 x0) ∧ W.cell? ⟨bk, 1, none⟩ = some (.int .i64 x1) ∧ W.cell? ⟨bk, 2, none⟩ = some (.string x2) ∧ W.cell? ⟨bk, 3, none⟩ = some (.slice A5 x3.length c5)) ∧ W.cell? (ae.add (i * 4)) = some (.int .i64 y0) ∧ W.cell? ⟨(ae.add (i * 4)).block, (ae.add (i * 4)).off + 1, none⟩ = some (.int .i64 y1) ∧ W.cell? ⟨(ae.add (i * 4)).block, (ae.add (i * 4)).off + 2, none⟩ = some (.string y2) ∧ W.cell? ⟨(ae.add (i * 4)).block, (ae.add (i * 4)).off + 3, none⟩ = some (.slice B5 y3.length d5)) (by kernel_rfl) (HF.out _ (grown_of_below (below_drew (Below.refl _ _)) (some tb))) (fun hHeld => ?_)
        refine takeV 0 (some 96) (formV x0 x1 x2 A5 x3.length c5) rfl rfl (by kernel_rfl) (by kernel_rfl) (by kernel_rfl) (fun _ _ _ h => h) (Or.inl ⟨by kernel_rfl, fun W hSw => by obtain ⟨s9, ⟨t0, t1, t2, t3⟩, u0, u1, u2, u3⟩ := hSw; go_simp⟩) hHeld ?_
        try simp only [Act.put, List.setIfInBounds_toArray, List.set_cons_zero, List.set_cons_succ]
        refine takeV 1 (some 97) (.pointer (some ⟨bB, 3, none⟩)) rfl rfl (by kernel_rfl) (by kernel_rfl) (by kernel_rfl) (fun _ _ _ h => h) (Or.inl ⟨by kernel_rfl, fun W hSw => by obtain ⟨s9, ⟨t0, t1, t2, t3⟩, u0, u1, u2, u3⟩ := hSw; go_simp⟩) hHeld ?_
        try simp only [Act.put, List.setIfInBounds_toArray, List.set_cons_zero, List.set_cons_succ]
        refine takeV 2 (some 98) (.slice (some ae) lb.length d) rfl rfl (by kernel_rfl) (by kernel_rfl) (by kernel_rfl) (fun _ _ _ h => h) (Or.inl ⟨by kernel_rfl, fun W hSw => by obtain ⟨s9, ⟨t0, t1, t2, t3⟩, u0, u1, u2, u3⟩ := hSw; go_simp⟩) hHeld ?_
        try simp only [Act.put, List.setIfInBounds_toArray, List.set_cons_zero, List.set_cons_succ]
        refine takeV 3 (some 99) (.int .i64 (i : Int)) rfl rfl (by kernel_rfl) (by kernel_rfl) (by kernel_rfl) (fun _ _ _ h => h) (Or.inl ⟨by kernel_rfl, fun W hSw => by obtain ⟨s9, ⟨t0, t1, t2, t3⟩, u0, u1, u2, u3⟩ := hSw; go_simp⟩) hHeld ?_
        try simp only [Act.put, List.setIfInBounds_toArray, List.set_cons_zero, List.set_cons_succ]
        refine takeV 4 (some 100) (.pointer (some (ae.add (i * 4)))) rfl rfl (by kernel_rfl) (by kernel_rfl) (by kernel_rfl) (fun _ _ _ h => h) (Or.inl ⟨by kernel_rfl, fun W hSw => by obtain ⟨s9, ⟨t0, t1, t2, t3⟩, u0, u1, u2, u3⟩ := hSw; go_simp; first | done | (intro h9; exact absurd h9 (by omega))⟩) hHeld ?_
        try simp only [Act.put, List.setIfInBounds_toArray, List.set_cons_zero, List.set_cons_succ]
        refine takeV 5 (some 101) (formV y0 y1 y2 B5 y3.length d5) rfl rfl (by kernel_rfl) (by kernel_rfl) (by kernel_rfl) (fun _ _ _ h => h) (Or.inl ⟨by kernel_rfl, fun W hSw => by obtain ⟨s9, ⟨t0, t1, t2, t3⟩, u0, u1, u2, u3⟩ := hSw; go_simp⟩) hHeld ?_
        try simp only [Act.put, List.setIfInBounds_toArray, List.set_cons_zero, List.set_cons_succ]
        refine takeV 6 (some 102) (.map (some vb)) rfl rfl (by kernel_rfl) (by kernel_rfl) (by kernel_rfl) (fun _ _ _ h => h) (Or.inl ⟨by kernel_rfl, fun W hSw => by obtain ⟨s9, ⟨t0, t1, t2, t3⟩, u0, u1, u2, u3⟩ := hSw; go_simp⟩) hHeld ?_
        try simp only [Act.put, List.setIfInBounds_toArray, List.set_cons_zero, List.set_cons_succ]
        refine takeV 7 (some 103) (.map (some tb)) rfl rfl (by kernel_rfl) (by kernel_rfl) (by kernel_rfl) (fun _ _ _ h => h) (Or.inl ⟨by kernel_rfl, fun W hSw => by obtain ⟨s9, ⟨t0, t1, t2, t3⟩, u0, u1, u2, u3⟩ := hSw; go_simp⟩) hHeld ?_
        try simp only [Act.put, List.setIfInBounds_toArray, List.set_cons_zero, List.set_cons_succ]
        refine takeV 8 (some 104) (.bool false) rfl rfl (by kernel_rfl) (by kernel_rfl) (by kernel_rfl) (fun _ _ _ h => h) (Or.inl ⟨by kernel_rfl, fun W hSw => by obtain ⟨s9, ⟨t0, t1, t2, t3⟩, u0, u1, u2, u3⟩ := hSw; go_simp⟩) hHeld ?_
        try simp only [Act.put, List.setIfInBounds_toArray, List.set_cons_zero, List.set_cons_succ]
        refine takeV 9 (some 105) (.bool false) rfl rfl (by kernel_rfl) (by kernel_rfl) (by kernel_rfl) (fun _ _ _ h => h) (Or.inl ⟨by kernel_rfl, fun W hSw => by obtain ⟨s9, ⟨t0, t1, t2, t3⟩, u0, u1, u2, u3⟩ := hSw; go_simp⟩) hHeld ?_
        try simp only [Act.put, List.setIfInBounds_toArray, List.set_cons_zero, List.set_cons_succ]
        refine takeV 10 (some 106) undef rfl rfl (by kernel_rfl) (by kernel_rfl) (by kernel_rfl) (fun _ _ _ h => h) (Or.inr ⟨by kernel_rfl, rfl⟩) hHeld ?_
        try simp only [Act.put, List.setIfInBounds_toArray, List.set_cons_zero, List.set_cons_succ]
        refine takeV 11 (some 107) undef rfl rfl (by kernel_rfl) (by kernel_rfl) (by kernel_rfl) (fun _ _ _ h => h) (Or.inr ⟨by kernel_rfl, rfl⟩) hHeld ?_
        try simp only [Act.put, List.setIfInBounds_toArray, List.set_cons_zero, List.set_cons_succ]
        refine takeV 12 (some 108) (.bool false) rfl rfl (by kernel_rfl) (by kernel_rfl) (by kernel_rfl) (fun _ _ _ h => h) (Or.inl ⟨by kernel_rfl, fun W hSw => by obtain ⟨s9, ⟨t0, t1, t2, t3⟩, u0, u1, u2, u3⟩ := hSw; go_simp⟩) hHeld ?_
        try simp only [Act.put, List.setIfInBounds_toArray, List.set_cons_zero, List.set_cons_succ]
        refine takeV 13 (some 109) (.bool false) rfl rfl (by kernel_rfl) (by kernel_rfl) (by kernel_rfl) (fun _ _ _ h => h) (Or.inl ⟨by kernel_rfl, fun W hSw => by obtain ⟨s9, ⟨t0, t1, t2, t3⟩, u0, u1, u2, u3⟩ := hSw; go_simp⟩) hHeld ?_
        try simp only [Act.put, List.setIfInBounds_toArray, List.set_cons_zero, List.set_cons_succ]
        refine takeV 14 (some 110) undef rfl rfl (by kernel_rfl) (by kernel_rfl) (by kernel_rfl) (fun _ _ _ h => h) (Or.inr ⟨by kernel_rfl, rfl⟩) hHeld ?_
        try simp only [Act.put, List.setIfInBounds_toArray, List.set_cons_zero, List.set_cons_succ]
        refine takeV 15 (some 111) undef rfl rfl (by kernel_rfl) (by kernel_rfl) (by kernel_rfl) (fun _ _ _ h => h) (Or.inr ⟨by kernel_rfl, rfl⟩) hHeld ?_
        try simp only [Act.put, List.setIfInBounds_toArray, List.set_cons_zero, List.set_cons_succ]
        refine takeV 16 (some 112) undef rfl rfl (by kernel_rfl) (by kernel_rfl) (by kernel_rfl) (fun _ _ _ h => h) (Or.inr ⟨by kernel_rfl, rfl⟩) hHeld ?_
        try simp only [Act.put, List.setIfInBounds_toArray, List.set_cons_zero, List.set_cons_succ]
        refine takeV 17 (some 113) (.bool false) rfl rfl (by kernel_rfl) (by kernel_rfl) (by kernel_rfl) (fun _ _ _ h => h) (Or.inl ⟨by kernel_rfl, fun W hSw => by obtain ⟨s9, ⟨t0, t1, t2, t3⟩, u0, u1, u2, u3⟩ := hSw; go_simp⟩) hHeld ?_
        try simp only [Act.put, List.setIfInBounds_toArray, List.set_cons_zero, List.set_cons_succ]
        refine wpAnyH_ready (rs := [18]) (by kernel_rfl) (by simp) ?_
        refine AllReadyH.cons rfl (fun K hK => ?_) AllReadyH.nil
        clear hHeld
        go_simp
        go_at_call 63
        refine Calls.mono (MM.out _ (below_drew (Below.refl _ _))) ?_
        rintro e w6 ⟨rfl, h7, mtv3, h8, h9⟩
        have G6 : Hid (wk.grownBy w6 (some tb)) := (grown_of_below (below_drew (Below.refl wk.heap.size wk)) (some tb)).trans h7
        have HSn := HF.out _ G6.out
        have H8 : Hid _ := h8
        have H9 : Hid _ := h9
        clear h7 h8 h9
        cases q1 with
        | true =>
          simp only [if_true] at hV
          have HV9 : Hid _ := hV
          clear hV
          go_wp2_with fail
          refine hK.out _ _ HSn (fun hHeld => ?_)
          clear hK K HSn
          try simp only [Act.put, List.setIfInBounds_toArray, List.set_cons_zero, List.set_cons_succ]
          refine takeV 19 (some 115) (.bool false) rfl rfl (by kernel_rfl) (by kernel_rfl) (by kernel_rfl) (fun _ _ _ h => h) (Or.inl ⟨by kernel_rfl, fun W hSw => by go_simp⟩) hHeld ?_
          try simp only [Act.put, List.setIfInBounds_toArray, List.set_cons_zero, List.set_cons_succ]
          refine wpAnyH_done (by kernel_rfl) ?_ _
          go_wp2_with fail
          go_roundg g
          case measure => omega
          case rel => exact ⟨i + 1, _, mtv3, by go_num, by omega, HG.out.trans G6.out, H8.out, H9.out, HV9.out⟩
        | false =>
          simp only [Bool.false_eq_true, if_false] at hV
          subst hV
          go_wp2_with fail
          refine hK.out _ _ HSn (fun hHeld => ?_)
          clear hK K HSn
          try simp only [Act.put, List.setIfInBounds_toArray, List.set_cons_zero, List.set_cons_succ]
          refine takeV 19 (some 115) (.bool true) rfl rfl (by kernel_rfl) (by kernel_rfl) (by kernel_rfl) (fun _ _ _ h => h) (Or.inl ⟨by kernel_rfl, fun W hSw => by go_simp⟩) hHeld ?_
          try simp only [Act.put, List.setIfInBounds_toArray, List.set_cons_zero, List.set_cons_succ]
          refine wpAnyH_done (by kernel_rfl) ?_ _
          go_wp2_with fail
          go_ret
          exact ⟨rfl, HXG.out.trans (HG.out.trans G6.out), mtv3, H8.out, H9.out⟩
    · have e1 : decide (i < la.length) = false := decide_eq_false hlt
      have hge2 : la.length ≤ i := by omega
      have e3 : la.drop i = [] := List.drop_eq_nil_of_le (by omega)
      rw [e3] at hV
      simp only [matchL] at hV
      subst hV
      have G9 : Hid _ := HXG.out.trans hg
      have S9 : Hid _ := hS
      have T9 : Hid _ := hT
      clear hg hS hT hW e3
      go_wp2_with fail
      go_ret
      exact ⟨rfl, G9.out, mtv2, S9.out, T9.out⟩
end Go.Proofs.YtcjmplpfebpfpaaGreatDoor
