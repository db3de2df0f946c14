/- Part 12 of what the law's row leans on (Nk): the print's words and functions, cut to what is reached, and own texts. -/
import Derived.Test.YtcjmplpfebpfpaaGreatDoorRows
import Derived.ChangeSame
import Derived.OpenShut
import Derived.Deep.Slices
import Derived.ChangeAt
import Derived.Test.YtcjmplpfebpfpaaGreatDoorNk11
namespace Go.Proofs.YtcjmplpfebpfpaaGreatDoor
open Go.RowKit Go.Proofs Go.Proofs.YtcjmplpfebpfpaaGreatDoorW.PrintWords Go.Proofs.YtcjmplpfebpfpaaGreatDoorW.PrintLast Go.Proofs.YtcjmplpfebpfpaaGreatDoorW.PrintMore PKindInstances
set_option linter.unusedVariables false
set_option linter.unusedSimpArgs false

def wordF (s : ByteArray) : S24 := ⟨1, 0, s, []⟩
def listF (l : List S24) : S24 := ⟨3, 0, ⟨#[]⟩, l⟩

/-- A row of forms out of a block's cells. -/
theorem row_of_cells {w : World} {b : Nat} {t : TypeId} {xs : List S24} {cs : Array Value} (h : w.heap[b]? = some (.cells cs t (0, 0))) (hl : xs.length < 9000000)
    (hK : ∀ (j : Nat) (x : S24), xs[j]? = some x → ∃ A c, x.f3.length ≤ c ∧ Kd.C k24 w A x.f3.length x.f3 ∧ cs[j * 4]? = some (.int .i64 x.f0) ∧ cs[j * 4 + 1]? = some (.int .i64 x.f1) ∧ cs[j * 4 + 2]? = some (.string x.f2) ∧ cs[j * 4 + 3]? = some (.slice A x.f3.length c)) :
    Kd.C k24 w (some ⟨b, 0, none⟩) xs.length xs := by
  refine ⟨rfl, by omega, fun _ => ⟨_, rfl, fun j p hj => ?_⟩⟩
  obtain ⟨A, c, hc, hx, c0, c1, c2, c3⟩ := hK j p hj
  refine ⟨_, rfl, k24_mk w p hc hx, fun i u hu => ?_⟩
  have e : (Addr.mk b 0 none).add (j * k24.sz + i) = ⟨b, j * 4 + i, none⟩ := by
    rw [show k24.sz = 4 from rfl]; simp [Addr.add]; intros; omega
  rw [e]
  match i, hu with
  | 0, hu => obtain rfl := Option.some.inj hu; simpa [World.cell?, h] using c0
  | 1, hu => obtain rfl := Option.some.inj hu; simpa [World.cell?, h] using c1
  | 2, hu => obtain rfl := Option.some.inj hu; simpa [World.cell?, h] using c2
  | 3, hu => obtain rfl := Option.some.inj hu; simpa [World.cell?, h] using c3
  | i + 4, hu => simp at hu

theorem leafC_word {s : ByteArray} (hs : s.size ≤ 30) (hne : (s.toList == []) = false) : LeafC (wordF s) := by
  intro A c w
  refine (leaf_word 0 s A 0 c w hs hne).mono ?_
  rintro e w' ⟨rfl, B⟩
  exact ⟨rfl, B⟩
theorem leafC_list (l : List S24) : LeafC (listF l) := by
  intro A c w
  refine (leaf_list 0 ⟨#[]⟩ A l.length c w).mono ?_
  rintro e w' ⟨rfl, B⟩
  exact ⟨rfl, B⟩

theorem texts_of_cells {w : World} {b : Nat} {t : TypeId} {xs : List ByteArray} {cs : Array Value} (h : w.heap[b]? = some (.cells cs t (0, 0))) (hl : xs.length < 9000000) (hK : ∀ (j : Nat) (x : ByteArray), xs[j]? = some x → cs[j]? = some (.string x)) :
    Kd.C Kd.string w (some ⟨b, 0, none⟩) xs.length xs := by
  refine ⟨rfl, by omega, fun _ => ⟨_, rfl, fun j p hj => ⟨[.string p], rfl, rfl, fun i u hu => ?_⟩⟩⟩
  match i, hu with
  | 0, hu =>
    obtain rfl := Option.some.inj hu
    have e : (Addr.mk b 0 none).add (j * Kd.string.sz + 0) = ⟨b, j, none⟩ := by
      rw [show Kd.string.sz = 1 from rfl]; simp [Addr.add]; intros; omega
    rw [e]
    simpa [World.cell?, h] using hK j p hj
  | i + 1, hu => simp at hu

/-- Unify where the forms do not go together. -/
theorem unify_stop (x y : S24) (vars : List ByteArray) (A B AN : Option Addr) (c d cn : Nat) (w : World) (n : Nat) (r : Int) (hx : Kd.C k24 w A x.f3.length x.f3) (hc : x.f3.length ≤ c) (hy : Kd.C k24 w B y.f3.length y.f3) (hd : y.f3.length ≤ d)
    (hv : Kd.C Kd.string w AN vars.length vars) (hcn : vars.length ≤ cn) (hn : vars.length < 9000000) (hq : ∀ v ∈ vars, LeafC ⟨1, 0, v, []⟩ ∧ v.size < 8000000) (hax : allC x) (hwx : wid x < 9000000) (hay : allC y) (hwy : wid y < 9000000)
    (hgood : (namesM [] vars && rowsM [[x], [y]]) = true) (hR : allM vars n [] [x] [y] = some (.stop r)) :
    Calls Tryz.prog 22 #[formV x.f0 x.f1 x.f2 A x.f3.length c, formV y.f0 y.f1 y.f2 B y.f3.length d, .slice AN vars.length cn] w fun e w' => e = .returned (.tuple #[.slice none 0 0, .int .i64 r]) ∧ Below w.heap.size w w' := by
  have h := Unify_of x y A B c d (.slice AN vars.length cn) w (fun v E _ => v = .slice none 0 0 ∧ E = r) hx hc hy hd (fun W p q hW hp hq' => by
    refine (UnifyAll_good [x] [y] vars (some ⟨p, 0, none⟩) (some ⟨q, 0, none⟩) AN 1 1 cn W (Kd.C_below hv hW) hcn hp (Nat.le_refl _) hq' (Nat.le_refl _) hn hq ⟨by simp, by simp; exact ⟨hax, hwx⟩⟩ ⟨by simp, by simp; exact ⟨hay, hwy⟩⟩ hgood n _ hR (fun _ _ _ => True) (fun _ _ _ _ _ _ => trivial) (fun mt h => by cases h)).mono ?_
    rintro e w' ⟨rfl, hb⟩
    exact ⟨none, 0, 0, r, rfl, ⟨rfl, rfl⟩, hb⟩)
  refine h.mono ?_
  rintro e w' ⟨A1, n1, c1, E1, rfl, ⟨h1, rfl⟩, hb⟩
  cases h1
  exact ⟨rfl, hb⟩

def wSeq : ByteArray := ⟨#[115, 101, 113]⟩
def wA : ByteArray := ⟨#[97]⟩
def wB : ByteArray := ⟨#[98]⟩
def wMap : ByteArray := ⟨#[109, 97, 112]⟩
def wInt : ByteArray := ⟨#[105, 110, 116]⟩
theorem leaf_w {s : ByteArray} (h : s = wSeq ∨ s = wA ∨ s = wB ∨ s = wMap ∨ s = wInt) : LeafC (wordF s) := by
  rcases h with rfl | rfl | rfl | rfl | rfl <;> exact leafC_word (by decide) (by kernel_rfl)

theorem words_row {w : World} {b : Nat} {t : TypeId} {x y : ByteArray} (h : w.heap[b]? = some (.cells #[.int .i64 1, .int .i64 0, .string x, .slice none 0 0, .int .i64 1, .int .i64 0, .string y, .slice none 0 0] t (0, 0))) :
    Kd.C k24 w (some ⟨b, 0, none⟩) [wordF x, wordF y].length [wordF x, wordF y] := by
  refine row_of_cells h (by simp) fun j p hj => ?_
  match j, hj with
  | 0, hj => obtain rfl := Option.some.inj hj; exact ⟨none, 0, Nat.le_refl _, Kd.C_nil _ _, rfl, rfl, rfl, rfl⟩
  | 1, hj => obtain rfl := Option.some.inj hj; exact ⟨none, 0, Nat.le_refl _, Kd.C_nil _ _, rfl, rfl, rfl, rfl⟩
  | j + 2, hj => simp at hj

def exX : S24 := listF [wordF wSeq, wordF wA]
def exM : S24 := listF [wordF wMap, wordF wA, listF [wordF wSeq, wordF wB]]
def exN : S24 := listF [wordF wMap, wordF wInt, wordF wA]
theorem ex1 (A AN : Option Addr) (w : World) (hx : Kd.C k24 w A 2 [wordF wSeq, wordF wA]) (hv : Kd.C Kd.string w AN 1 [wA]) :
    Calls Tryz.prog 22 #[formV 3 0 ⟨#[]⟩ A 2 2, formV 1 0 wA none 0 0, .slice AN 1 1] w fun e w' => e = .returned (.tuple #[.slice none 0 0, .int .i64 11]) ∧ Below w.heap.size w w' :=
  unify_stop exX (wordF wA) [wA] A none AN 2 0 1 w 10 11 hx (Nat.le_refl _) (Kd.C_nil _ _) (Nat.le_refl _) hv (Nat.le_refl _) (by simp) (by simp; exact ⟨leaf_w (.inr (.inl rfl)), by decide⟩)
    ⟨leafC_list _, ⟨leaf_w (.inl rfl), trivial⟩, ⟨leaf_w (.inr (.inl rfl)), trivial⟩, trivial⟩ (by decide) ⟨leaf_w (.inr (.inl rfl)), trivial⟩ (by decide) (by kernel_rfl) (by kernel_rfl)
theorem ex2 (A B AN : Option Addr) (w : World) (hx : Kd.C k24 w A 3 [wordF wMap, wordF wA, listF [wordF wSeq, wordF wB]]) (hy : Kd.C k24 w B 3 [wordF wMap, wordF wInt, wordF wA]) (hv : Kd.C Kd.string w AN 2 [wA, wB]) :
    Calls Tryz.prog 22 #[formV 3 0 ⟨#[]⟩ A 3 3, formV 3 0 ⟨#[]⟩ B 3 3, .slice AN 2 2] w fun e w' => e = .returned (.tuple #[.slice none 0 0, .int .i64 8]) ∧ Below w.heap.size w w' :=
  unify_stop exM exN [wA, wB] A B AN 3 3 2 w 10 8 hx (Nat.le_refl _) hy (Nat.le_refl _) hv (Nat.le_refl _) (by simp) (by simp; exact ⟨⟨leaf_w (.inr (.inl rfl)), by decide⟩, leaf_w (.inr (.inr (.inl rfl))), by decide⟩)
    ⟨leafC_list _, ⟨leaf_w (.inr (.inr (.inr (.inl rfl)))), trivial⟩, ⟨leaf_w (.inr (.inl rfl)), trivial⟩, ⟨leafC_list _, ⟨leaf_w (.inl rfl), trivial⟩, ⟨leaf_w (.inr (.inr (.inl rfl))), trivial⟩, trivial⟩, trivial⟩ (by decide)
    ⟨leafC_list _, ⟨leaf_w (.inr (.inr (.inr (.inl rfl)))), trivial⟩, ⟨leaf_w (.inr (.inr (.inr (.inr rfl)))), trivial⟩, ⟨leaf_w (.inr (.inl rfl)), trivial⟩, trivial⟩ (by decide) (by kernel_rfl) (by kernel_rfl)

set_option maxRecDepth 100000 in
set_option maxHeartbeats 4000000 in
theorem sane_any (w : World) : Calls Tryz.prog 19 #[] w fun e w' => e = .returned (.bool true) ∧ Below w.heap.size w w' := by
  have hu24 := Tryz.underlying24
  go_enter Tryz.func19, Tryz.ntmps19
  go_wp2_with fail
  refine (word_any _ _).mono ?_
  rintro e w1 ⟨rfl, B1⟩
  go_wp2_with fail
  refine (word_any _ _).mono ?_
  rintro e w2 ⟨rfl, B2⟩
  go_wp2_with fail
  refine (list_any _ _ _ _).mono ?_
  rintro e w3 ⟨rfl, B3⟩
  go_wp2_with fail
  have X3 := box_heap B3
  have B4 : Below w.heap.size w (w3.alloc (.cells #[.int .i64 3, .int .i64 0, .string ⟨#[]⟩, .slice (some ⟨w2.heap.size, 0, none⟩) 2 2] 24)) := below_alloc (below_after (below_alloc (below_after B1 B2) _) B3) _
  have X4 := (MapKept.heap_alloc w3 (.cells #[.int .i64 3, .int .i64 0, .string ⟨#[]⟩, .slice (some ⟨w2.heap.size, 0, none⟩) 2 2] 24)).1
  have X5 : (w3.alloc (.cells #[.int .i64 3, .int .i64 0, .string ⟨#[]⟩, .slice (some ⟨w2.heap.size, 0, none⟩) 2 2] 24)).heap[w2.heap.size]? = some (.cells #[.int .i64 1, .int .i64 0, .string wSeq, .slice none 0 0, .int .i64 1, .int .i64 0, .string wA, .slice none 0 0] 24 (0, 0)) := (Below.heap_alloc _ _ _ (Array.getElem?_eq_some_iff.1 X3).1).trans X3
  generalize hX : w3.alloc (.cells #[.int .i64 3, .int .i64 0, .string ⟨#[]⟩, .slice (some ⟨w2.heap.size, 0, none⟩) 2 2] 24) = X at *
  generalize w3.heap.size = b3 at *
  generalize w2.heap.size = b2 at *
  clear hX X3 B1 B2 B3
  have R5 : Kd.C k24 X (some ⟨b2, 0, none⟩) 2 [wordF wSeq, wordF wA] := words_row X5
  obtain ⟨p0, p1, p2, p3⟩ := cells4 X4
  have HS : Hid (∀ W, Below X.heap.size X W → W.cell? ⟨b3, 0, none⟩ = some (.int .i64 3) ∧ W.cell? ⟨b3, 1, none⟩ = some (.int .i64 0) ∧ W.cell? ⟨b3, 2, none⟩ = some (.string ⟨#[]⟩) ∧ W.cell? ⟨b3, 3, none⟩ = some (.slice (some ⟨b2, 0, none⟩) 2 2)) := fun W h => ⟨pw_cell_below h p0, pw_cell_below h p1, pw_cell_below h p2, pw_cell_below h p3⟩
  have HB : Hid _ := B4
  have HR : Hid _ := R5
  clear p0 p1 p2 p3 X4 X5 B4 R5
  go_cut [2, 3] from 12 to 18 (fun x2 x3 wx => x3 = .int .i64 11 ∧ Below X.heap.size X wx)
  case first =>
    refine wp_region_held_drew (S := fun W => W.cell? ⟨b3, 0, none⟩ = some (.int .i64 3) ∧ W.cell? ⟨b3, 1, none⟩ = some (.int .i64 0) ∧ W.cell? ⟨b3, 2, none⟩ = some (.string ⟨#[]⟩) ∧ W.cell? ⟨b3, 3, none⟩ = some (.slice (some ⟨b2, 0, none⟩) 2 2)) (by kernel_rfl) (HS.out _ (below_drew (Below.refl _ _))) (fun hHeld => ?_)
    refine takeV 0 (some 13) (formV 3 0 ⟨#[]⟩ (some ⟨b2, 0, none⟩) 2 2) rfl rfl (by kernel_rfl) (by kernel_rfl) (by kernel_rfl) (fun _ _ _ h => h) (Or.inl ⟨by kernel_rfl, fun W hSw => by obtain ⟨s0, s1, s2, s3⟩ := hSw; go_simp⟩) hHeld ?_
    try simp only [Act.put, List.setIfInBounds_toArray, List.set_cons_zero, List.set_cons_succ]
    refine wpAnyH_ready (rs := [1, 2]) (by kernel_rfl) (by simp) ?_
    refine AllReadyH.cons rfl (fun K hK => ?_) (AllReadyH.cons rfl (fun K hK => ?_) AllReadyH.nil)
    · clear hHeld
      go_simp
      go_at_call 52
      refine (word_any _ _).mono ?_
      rintro e w4 ⟨rfl, B4⟩
      have B5 := below_after (below_drew (Below.refl _ _)) B4
      have HS5 := HS.out _ B5
      clear B4
      go_wp2_with fail
      refine hK.out _ _ HS5 (fun hHeld => ?_)
      clear hK K HS5
      try simp only [Act.put, List.setIfInBounds_toArray, List.set_cons_zero, List.set_cons_succ]
      refine wpAnyH_ready (rs := [2]) (by kernel_rfl) (by simp) ?_
      refine AllReadyH.cons rfl (fun K hK => ?_) AllReadyH.nil
      go_simp
      have X6 := (MapKept.heap_alloc w4 (.cells #[.string wA] 9)).1
      have B6 := below_alloc B5 (.cells #[.string wA] 9)
      refine hK.out _ _ (HS.out _ B6) (fun hHeld => ?_)
      clear hK K B5
      have UU : Hid _ := ex1 (some ⟨b2, 0, none⟩) (some ⟨w4.heap.size, 0, none⟩) (w4.alloc (.cells #[.string wA] 9)) (Kd.C_below HR.out B6) (texts_of_cells (xs := [wA]) X6 (by simp) (fun j x hj => by cases j with | zero => obtain rfl := Option.some.inj hj; rfl | succ j => simp at hj))
      have BX : Hid _ := B6
      clear X6 B6
      try simp only [Act.put, List.setIfInBounds_toArray, List.set_cons_zero, List.set_cons_succ]
      refine wpAnyH_ready (rs := [3]) (by kernel_rfl) (by simp) ?_
      refine AllReadyH.cons rfl (fun K hK => ?_) AllReadyH.nil
      go_simp
      go_at_call 22
      refine Calls.mono UU.out ?_
      rintro e w6 ⟨rfl, B6'⟩
      have B6 : Hid _ := below_after BX.out B6'
      have HS6 := HS.out _ B6.out
      clear B6'
      go_wp2_with fail
      refine hK.out _ _ HS6 (fun hHeld => ?_)
      clear hK K
      try simp only [Act.put, List.setIfInBounds_toArray, List.set_cons_zero, List.set_cons_succ]
      refine takeV 4 (some 12) (.tuple #[.slice none 0 0, .int .i64 11]) rfl rfl (by kernel_rfl) (by kernel_rfl) (by kernel_rfl) (fun _ _ _ h => h) (Or.inl ⟨by kernel_rfl, fun W hSw => by go_simp⟩) hHeld ?_
      try simp only [Act.put, List.setIfInBounds_toArray, List.set_cons_zero, List.set_cons_succ]
      refine takeV 5 (some 17) (.slice none 0 0) rfl rfl (by kernel_rfl) (by kernel_rfl) (by kernel_rfl) (fun _ _ _ h => h) (Or.inl ⟨by kernel_rfl, fun W hSw => by go_simp⟩) hHeld ?_
      try simp only [Act.put, List.setIfInBounds_toArray, List.set_cons_zero, List.set_cons_succ]
      refine takeV 6 (some 18) (.int .i64 11) rfl rfl (by kernel_rfl) (by kernel_rfl) (by kernel_rfl) (fun _ _ _ h => h) (Or.inl ⟨by kernel_rfl, fun W hSw => by go_simp⟩) hHeld ?_
      try simp only [Act.put, List.setIfInBounds_toArray, List.set_cons_zero, List.set_cons_succ]
      refine takeV 7 (some 2) (.slice none 0 0) rfl rfl (by kernel_rfl) (by kernel_rfl) (by kernel_rfl) (fun _ _ _ h => h) (Or.inl ⟨by kernel_rfl, fun W hSw => by go_simp⟩) hHeld ?_
      try simp only [Act.put, List.setIfInBounds_toArray, List.set_cons_zero, List.set_cons_succ]
      refine takeV 8 (some 3) (.int .i64 11) rfl rfl (by kernel_rfl) (by kernel_rfl) (by kernel_rfl) (fun _ _ _ h => h) (Or.inl ⟨by kernel_rfl, fun W hSw => by go_simp⟩) hHeld ?_
      try simp only [Act.put, List.setIfInBounds_toArray, List.set_cons_zero, List.set_cons_succ]
      clear hHeld HS6 UU BX HS
      refine wpAnyH_done (by kernel_rfl) ?_ _
      go_wp2_with fail
      go_meet
      case rel => exact ⟨rfl, B6.out⟩
    · clear hHeld
      go_simp
      have X6 := (MapKept.heap_alloc X.drew (.cells #[.string wA] 9)).1
      have B6 := below_alloc (below_drew (Below.refl X.heap.size X)) (.cells #[.string wA] 9)
      refine hK.out _ _ (HS.out _ B6) (fun hHeld => ?_)
      clear hK K hHeld
      try simp only [Act.put, List.setIfInBounds_toArray, List.set_cons_zero, List.set_cons_succ]
      refine wpAnyH_ready (rs := [1]) (by kernel_rfl) (by simp) ?_
      refine AllReadyH.cons rfl (fun K hK => ?_) AllReadyH.nil
      go_simp
      go_at_call 52
      refine (word_any _ _).mono ?_
      rintro e w4 ⟨rfl, B4⟩
      have B7 := below_after B6 B4
      have X7 := (B4.block _ (Array.getElem?_eq_some_iff.1 X6).1).trans X6
      have HS5 := HS.out _ B7
      clear B4
      go_wp2_with fail
      refine hK.out _ _ HS5 (fun hHeld => ?_)
      clear hK K HS5 B6 X6
      try simp only [Act.put, List.setIfInBounds_toArray, List.set_cons_zero, List.set_cons_succ]
      have UU : Hid _ := ex1 (some ⟨b2, 0, none⟩) (some ⟨X.heap.size, 0, none⟩) w4 (Kd.C_below HR.out B7) (texts_of_cells (xs := [wA]) X7 (by simp) (fun j x hj => by cases j with | zero => obtain rfl := Option.some.inj hj; rfl | succ j => simp at hj))
      have BX : Hid _ := B7
      clear X7 B7
      refine wpAnyH_ready (rs := [3]) (by kernel_rfl) (by simp) ?_
      refine AllReadyH.cons rfl (fun K hK => ?_) AllReadyH.nil
      go_simp
      go_at_call 22
      refine Calls.mono UU.out ?_
      rintro e w6 ⟨rfl, B6'⟩
      have B6 : Hid _ := below_after BX.out B6'
      have HS6 := HS.out _ B6.out
      clear B6'
      go_wp2_with fail
      refine hK.out _ _ HS6 (fun hHeld => ?_)
      clear hK K
      try simp only [Act.put, List.setIfInBounds_toArray, List.set_cons_zero, List.set_cons_succ]
      refine takeV 4 (some 12) (.tuple #[.slice none 0 0, .int .i64 11]) rfl rfl (by kernel_rfl) (by kernel_rfl) (by kernel_rfl) (fun _ _ _ h => h) (Or.inl ⟨by kernel_rfl, fun W hSw => by go_simp⟩) hHeld ?_
      try simp only [Act.put, List.setIfInBounds_toArray, List.set_cons_zero, List.set_cons_succ]
      refine takeV 5 (some 17) (.slice none 0 0) rfl rfl (by kernel_rfl) (by kernel_rfl) (by kernel_rfl) (fun _ _ _ h => h) (Or.inl ⟨by kernel_rfl, fun W hSw => by go_simp⟩) hHeld ?_
      try simp only [Act.put, List.setIfInBounds_toArray, List.set_cons_zero, List.set_cons_succ]
      refine takeV 6 (some 18) (.int .i64 11) rfl rfl (by kernel_rfl) (by kernel_rfl) (by kernel_rfl) (fun _ _ _ h => h) (Or.inl ⟨by kernel_rfl, fun W hSw => by go_simp⟩) hHeld ?_
      try simp only [Act.put, List.setIfInBounds_toArray, List.set_cons_zero, List.set_cons_succ]
      refine takeV 7 (some 2) (.slice none 0 0) rfl rfl (by kernel_rfl) (by kernel_rfl) (by kernel_rfl) (fun _ _ _ h => h) (Or.inl ⟨by kernel_rfl, fun W hSw => by go_simp⟩) hHeld ?_
      try simp only [Act.put, List.setIfInBounds_toArray, List.set_cons_zero, List.set_cons_succ]
      refine takeV 8 (some 3) (.int .i64 11) rfl rfl (by kernel_rfl) (by kernel_rfl) (by kernel_rfl) (fun _ _ _ h => h) (Or.inl ⟨by kernel_rfl, fun W hSw => by go_simp⟩) hHeld ?_
      try simp only [Act.put, List.setIfInBounds_toArray, List.set_cons_zero, List.set_cons_succ]
      clear hHeld HS6 UU BX HS
      refine wpAnyH_done (by kernel_rfl) ?_ _
      go_wp2_with fail
      go_meet
      case rel => exact ⟨rfl, B6.out⟩
  case rest =>
    obtain ⟨rfl, BX⟩ := hcut
    have B8 : Hid _ := below_after HB.out BX
    clear BX HS HR HB
    go_wp2_with fail
    refine (word_any _ _).mono ?_
    rintro e y1 ⟨rfl, B1⟩
    go_wp2_with fail
    refine (word_any _ _).mono ?_
    rintro e y2 ⟨rfl, B2⟩
    go_wp2_with fail
    refine (word_any _ _).mono ?_
    rintro e y3 ⟨rfl, B3⟩
    go_wp2_with fail
    refine (word_any _ _).mono ?_
    rintro e y4 ⟨rfl, B4⟩
    go_wp2_with fail
    refine (list_any _ _ _ _).mono ?_
    rintro e y5 ⟨rfl, B5⟩
    have B6 : Below w.heap.size w y4 := below_after B8.out (below_after B1 (below_after B2 (below_after B3 B4)))
    have X5 := box_heap B5
    have B7 : Below w.heap.size w y5 := below_after (below_alloc B6 _) B5
    generalize y4.heap.size = b4 at *
    clear B1 B2 B3 B4 B5 B6 B8
    go_wp2_with fail
    refine (list_any _ _ _ _).mono ?_
    rintro e y6 ⟨rfl, B6⟩
    have X6 := box_heap B6
    have X7 := (below_after (below_alloc (Below.refl y5.heap.size y5) _) B6).block _ (Array.getElem?_eq_some_iff.1 X5).1 |>.trans X5
    have B8 : Below w.heap.size w y6 := below_after (below_alloc B7 _) B6
    generalize y5.heap.size = b5 at *
    clear B6 B7 X5
    have H6 : Hid _ := X6
    have H7 : Hid _ := X7
    clear X6 X7
    go_wp2_with fail
    have R1 : Kd.C k24 y6 (some ⟨b4, 0, none⟩) 2 [wordF wSeq, wordF wB] := words_row H7.out
    have R2 : Hid (Kd.C k24 y6 (some ⟨b5, 0, none⟩) 3 [wordF wMap, wordF wA, listF [wordF wSeq, wordF wB]]) := row_of_cells (xs := [wordF wMap, wordF wA, listF [wordF wSeq, wordF wB]]) H6.out (by simp) (fun j p hj => by
      match j, hj with
      | 0, hj => obtain rfl := Option.some.inj hj; exact ⟨none, 0, Nat.le_refl _, Kd.C_nil _ _, rfl, rfl, rfl, rfl⟩
      | 1, hj => obtain rfl := Option.some.inj hj; exact ⟨none, 0, Nat.le_refl _, Kd.C_nil _ _, rfl, rfl, rfl, rfl⟩
      | 2, hj => obtain rfl := Option.some.inj hj; exact ⟨some ⟨b4, 0, none⟩, 2, Nat.le_refl _, R1, rfl, rfl, rfl, rfl⟩
      | j + 3, hj => simp at hj)
    clear R1 H6 H7
    have B9 : Hid _ := below_alloc B8 (.cells #[.int .i64 3, .int .i64 0, .string ⟨#[]⟩, .slice (some ⟨b5, 0, none⟩) 3 3] 24)
    have R3 : Hid _ := Kd.C_below R2.out (below_alloc (Below.refl y6.heap.size y6) (.cells #[.int .i64 3, .int .i64 0, .string ⟨#[]⟩, .slice (some ⟨b5, 0, none⟩) 3 3] 24))
    have X8 : Hid _ := (MapKept.heap_alloc y6 (.cells #[.int .i64 3, .int .i64 0, .string ⟨#[]⟩, .slice (some ⟨b5, 0, none⟩) 3 3] 24)).1
    generalize y6.alloc (.cells #[.int .i64 3, .int .i64 0, .string ⟨#[]⟩, .slice (some ⟨b5, 0, none⟩) 3 3] 24) = Y at *
    generalize y6.heap.size = b6 at *
    clear B8 R2
    refine (word_any _ _).mono ?_
    rintro e z1 ⟨rfl, B1⟩
    go_wp2_with fail
    refine (word_any _ _).mono ?_
    rintro e z2 ⟨rfl, B2⟩
    go_wp2_with fail
    refine (word_any _ _).mono ?_
    rintro e z3 ⟨rfl, B3⟩
    have B4 := below_after B1 (below_after B2 B3)
    clear B1 B2 B3
    go_wp2_with fail
    refine (list_any _ _ _ _).mono ?_
    rintro e z4 ⟨rfl, B5⟩
    have Z5 := box_heap B5
    have B6 := below_after (below_alloc B4 _) B5
    generalize z3.heap.size = b7 at *
    clear B4 B5
    have R5 : Hid (Kd.C k24 z4 (some ⟨b7, 0, none⟩) 3 [wordF wMap, wordF wInt, wordF wA]) := row_of_cells (xs := [wordF wMap, wordF wInt, wordF wA]) Z5 (by simp) (fun j p hj => by
      match j, hj with
      | 0, hj => obtain rfl := Option.some.inj hj; exact ⟨none, 0, Nat.le_refl _, Kd.C_nil _ _, rfl, rfl, rfl, rfl⟩
      | 1, hj => obtain rfl := Option.some.inj hj; exact ⟨none, 0, Nat.le_refl _, Kd.C_nil _ _, rfl, rfl, rfl, rfl⟩
      | 2, hj => obtain rfl := Option.some.inj hj; exact ⟨none, 0, Nat.le_refl _, Kd.C_nil _ _, rfl, rfl, rfl, rfl⟩
      | j + 3, hj => simp at hj)
    obtain ⟨q0, q1, q2, q3⟩ := cells4 X8.out
    have BB : Hid _ := B6
    replace q0 := pw_cell_below (below_alloc B6 (.cells #[.int .i64 3, .int .i64 0, .string ⟨#[]⟩, .slice (some ⟨b7, 0, none⟩) 3 3] 24)) q0
    replace q1 := pw_cell_below (below_alloc B6 (.cells #[.int .i64 3, .int .i64 0, .string ⟨#[]⟩, .slice (some ⟨b7, 0, none⟩) 3 3] 24)) q1
    replace q2 := pw_cell_below (below_alloc B6 (.cells #[.int .i64 3, .int .i64 0, .string ⟨#[]⟩, .slice (some ⟨b7, 0, none⟩) 3 3] 24)) q2
    replace q3 := pw_cell_below (below_alloc B6 (.cells #[.int .i64 3, .int .i64 0, .string ⟨#[]⟩, .slice (some ⟨b7, 0, none⟩) 3 3] 24)) q3
    clear Z5 B6
    have s1 := size_new z4 (.cells #[.int .i64 3, .int .i64 0, .string ⟨#[]⟩, .slice (some ⟨b7, 0, none⟩) 3 3] 24)
    have V1 := (MapKept.heap_alloc (z4.alloc (.cells #[.int .i64 3, .int .i64 0, .string ⟨#[]⟩, .slice (some ⟨b7, 0, none⟩) 3 3] 24)) (.cells #[.string wA, .string wB] 9)).1
    rw [s1] at V1
    have BZ : Below z4.heap.size z4 ((z4.alloc (.cells #[.int .i64 3, .int .i64 0, .string ⟨#[]⟩, .slice (some ⟨b7, 0, none⟩) 3 3] 24)).alloc (.cells #[.string wA, .string wB] 9)) := below_alloc (below_alloc (Below.refl _ _) _) _
    have UU : Hid _ := ex2 (some ⟨b5, 0, none⟩) (some ⟨b7, 0, none⟩) (some ⟨z4.heap.size + 1, 0, none⟩) _ (Kd.C_below R3.out (below_after BB.out BZ)) (Kd.C_below R5.out BZ) (texts_of_cells (xs := [wA, wB]) V1 (by simp) (fun j x hj => by
      match j, hj with
      | 0, hj => obtain rfl := Option.some.inj hj; rfl
      | 1, hj => obtain rfl := Option.some.inj hj; rfl
      | j + 2, hj => simp at hj))
    have BF : Hid _ := below_after B9.out (below_after BB.out BZ)
    clear s1 V1 BZ R3 R5
    go_wp2_with fail
    refine Calls.mono UU.out ?_
    rintro e z9 ⟨rfl, BL⟩
    have BG : Hid _ := below_after BF.out BL
    clear BL
    go_wp2_with fail
    go_ret
    exact ⟨rfl, BG.out⟩
end Go.Proofs.YtcjmplpfebpfpaaGreatDoor

namespace Go.Proofs.YtcjmplpfebpfpaaGreatDoor.PKindInstances
open Go.RowKit Go.Proofs.YtcjmplpfebpfpaaGreatDoorW.PrintWords Go.Proofs.YtcjmplpfebpfpaaGreatDoorW.PrintLast Go.Proofs.YtcjmplpfebpfpaaGreatDoorW.PrintMore
attribute [local go_sem] max2_int min2_int max_two min_two max_three min_three max_four min_four   -- for this text's walks alone
set_option linter.unusedVariables false
set_option linter.unusedSimpArgs false

end Go.Proofs.YtcjmplpfebpfpaaGreatDoor.PKindInstances

namespace Go.Proofs.YtcjmplpfebpfpaaGreatDoor.PKindInstances
open Go.RowKit Go.Proofs.YtcjmplpfebpfpaaGreatDoorW.PrintWords Go.Proofs.YtcjmplpfebpfpaaGreatDoorW.PrintLast Go.Proofs.YtcjmplpfebpfpaaGreatDoorW.PrintMore
attribute [local go_sem] max2_int min2_int max_two min_two max_three min_three max_four min_four   -- for this text's walks alone
set_option linter.unusedVariables false
set_option linter.unusedSimpArgs false

def plinthref01_Head.f (a0_0 : Int) (a0_1 : Int) (a0_2 : ByteArray) (l0_3 : List (S24)) : Option (ByteArray) := if a0_0 = 3 then (if (l0_3.length : Int) = 0 then (some (⟨#[]⟩ : ByteArray)) else (if 0 < (l0_3.length : Int) then (if ((rd_T24 l0_3 0).f0) = 1 then (some ((rd_T24 l0_3 0).f2)) else (some (⟨#[]⟩ : ByteArray))) else (none))) else (some (⟨#[]⟩ : ByteArray))
set_option maxHeartbeats 8000000 in
set_option maxRecDepth 100000 in
theorem plinthref01_Head.calls (a0_0 : Int) (a0_1 : Int) (a0_2 : ByteArray) (A0_3 : Option Addr) (c0_3 : Nat) (l0_3 : List (S24)) (r : ByteArray) (w : World) (hr0_3 : Kd.C k24 w A0_3 l0_3.length l0_3) (hc0_3 : l0_3.length ≤ c0_3) (h : plinthref01_Head.f a0_0 a0_1 a0_2 l0_3 = some r) :
    Calls Tryz.prog 50 #[.agg #[.int .i64 a0_0, .int .i64 a0_1, .string a0_2, .slice A0_3 l0_3.length c0_3]] w fun e w' => e = .returned (.string r) ∧ Below w.heap.size w w' := by
  have hu24 := Tryz.underlying24
  have HR0_3 := Aside0.mk hr0_3
  have HC0_3 := Aside0.mk hc0_3
  clear hr0_3 hc0_3
  have HB := Aside0.mk (Below.refl w.heap.size w)
  have H : (if a0_0 = 3 then (if (l0_3.length : Int) = 0 then (some (⟨#[]⟩ : ByteArray)) else (if 0 < (l0_3.length : Int) then (if ((rd_T24 l0_3 0).f0) = 1 then (some ((rd_T24 l0_3 0).f2)) else (some (⟨#[]⟩ : ByteArray))) else (none))) else (some (⟨#[]⟩ : ByteArray))) = some r := h
  clear h
  by_cases c2 : a0_0 = 3
  · rw [if_pos c2] at H
    have c2b0 : (a0_0 == 3) = true := beq_iff_eq.mpr c2
    have c2b1 : (a0_0 != 3) = false := bne_eq_false_iff_eq.mpr c2
    clear c2
    by_cases c3 : (l0_3.length : Int) = 0
    · rw [if_pos c3] at H
      have c3b0 : ((l0_3.length : Int) == 0) = true := beq_iff_eq.mpr c3
      have c3b1 : ((l0_3.length : Int) != 0) = false := bne_eq_false_iff_eq.mpr c3
      clear c3
      obtain rfl := Option.some.inj H
      go_enter Tryz.func50, Tryz.ntmps50
      go_wp2_with (first | ((with_reducible refine gate_dst (N := 1) rfl ?_); (try (refine gate_guard (by rfl) ?_; dsimp only)); refine box_event ?hg (N := 1) ?hd (cs := #[.int .i64 a0_0, .int .i64 a0_1, .string a0_2, .slice A0_3 l0_3.length c0_3]) (t := 24) ?hr ?_; (case hd => rfl); (case hg => rfl); (case hr => first | (go_simp; done) | (go_simp; rfl)); intro gb123 hg w4 hbox hb; have n0_ := Aside0.mk (below_step (by repeat (first | (with_reducible first | exact HB.out | apply below_alloc | apply pw_below_drewN | apply below_drew1) | exact HB.out)) hb); have n1_ := Aside0.mk (hbox); have n2_ := Aside0.mk ((by rw [hg]; exact (below_size (by repeat (first | (with_reducible first | exact HB.out | apply below_alloc | apply pw_below_drewN | apply below_drew1) | exact HB.out))) : w.heap.size ≤ gb123)); have n3_ := Aside0.mk ((by rw [hg]; exact (below_size (by repeat (first | (with_reducible first | exact HB.out | apply below_alloc | apply pw_below_drewN | apply below_drew1) | exact HB.out))) : w.heap.size ≤ gb123)); clear HB; have HB := n0_; have BK123 := n1_; have GW123 := n2_; have GE123 := n3_; clear n0_ n1_ n2_ n3_; clear hb hbox hg; have hcz5_0 : w4.cell? ⟨gb123, 0, none⟩ = some (.int .i64 a0_0) := (blk_cell BK123.out 0).trans rfl; have hcz5_1 : w4.cell? ⟨gb123, 1, none⟩ = some (.int .i64 a0_1) := (blk_cell BK123.out 1).trans rfl; have hcz5_2 : w4.cell? ⟨gb123, 2, none⟩ = some (.string a0_2) := (blk_cell BK123.out 2).trans rfl; have hcz5_3 : w4.cell? ⟨gb123, 3, none⟩ = some (.slice A0_3 l0_3.length c0_3) := (blk_cell BK123.out 3).trans rfl; have hfz5_0 := blk_frozen BK123.out 0; have hfz5_1 := blk_frozen BK123.out 1; have hfz5_2 := blk_frozen BK123.out 2; have hfz5_3 := blk_frozen BK123.out 3))
      go_ret
      exact ⟨by first | rfl | (simp [errW_none, errW_some] <;> rfl) | (simp [*, errW_none, errW_some] <;> rfl), by repeat (first | (with_reducible first | exact HB.out | apply below_alloc | apply pw_below_drewN | apply below_drew1 | refine below_set ?_ GE123.out) | exact HB.out)⟩
    · rw [if_neg c3] at H
      have c3b0 : ((l0_3.length : Int) == 0) = false := beq_eq_false_iff_ne.mpr c3
      have c3b1 : ((l0_3.length : Int) != 0) = true := bne_iff_ne.mpr c3
      have c3b2 : ¬ (l0_3 = []) := fun h_ => c3 (by rw [h_]; rfl)
      by_cases c6 : 0 < (l0_3.length : Int)
      · rw [if_pos c6] at H
        have c6b0 : decide (0 < (l0_3.length : Int)) = true := decide_eq_true c6
        have c6b1 : decide (0 < l0_3.length) = true := decide_eq_true (by omega)
        clear c6
        by_cases c7 : ((rd_T24 l0_3 0).f0) = 1
        · rw [if_pos c7] at H
          have c7b0 : (((rd_T24 l0_3 0).f0) == 1) = true := beq_iff_eq.mpr c7
          have c7b1 : (((rd_T24 l0_3 0).f0) != 1) = false := bne_eq_false_iff_eq.mpr c7
          clear c7
          obtain rfl := Option.some.inj H
          go_enter Tryz.func50, Tryz.ntmps50
          go_wp2_with (first | ((with_reducible refine gate_dst (N := 1) rfl ?_); (try (refine gate_guard (by rfl) ?_; dsimp only)); refine box_event ?hg (N := 1) ?hd (cs := #[.int .i64 a0_0, .int .i64 a0_1, .string a0_2, .slice A0_3 l0_3.length c0_3]) (t := 24) ?hr ?_; (case hd => rfl); (case hg => rfl); (case hr => first | (go_simp; done) | (go_simp; rfl)); intro gb123 hg w8 hbox hb; have n0_ := Aside0.mk (below_step (by repeat (first | (with_reducible first | exact HB.out | apply below_alloc | apply pw_below_drewN | apply below_drew1) | exact HB.out)) hb); have n1_ := Aside0.mk (hbox); have n2_ := Aside0.mk ((by rw [hg]; exact (below_size (by repeat (first | (with_reducible first | exact HB.out | apply below_alloc | apply pw_below_drewN | apply below_drew1) | exact HB.out))) : w.heap.size ≤ gb123)); have n3_ := Aside0.mk ((by rw [hg]; exact (below_size (by repeat (first | (with_reducible first | exact HB.out | apply below_alloc | apply pw_below_drewN | apply below_drew1) | exact HB.out))) : w.heap.size ≤ gb123)); clear HB; have HB := n0_; have BK123 := n1_; have GW123 := n2_; have GE123 := n3_; clear n0_ n1_ n2_ n3_; clear hb hbox hg; have hcz9_0 : w8.cell? ⟨gb123, 0, none⟩ = some (.int .i64 a0_0) := (blk_cell BK123.out 0).trans rfl; have hcz9_1 : w8.cell? ⟨gb123, 1, none⟩ = some (.int .i64 a0_1) := (blk_cell BK123.out 1).trans rfl; have hcz9_2 : w8.cell? ⟨gb123, 2, none⟩ = some (.string a0_2) := (blk_cell BK123.out 2).trans rfl; have hcz9_3 : w8.cell? ⟨gb123, 3, none⟩ = some (.slice A0_3 l0_3.length c0_3) := (blk_cell BK123.out 3).trans rfl; have hfz9_0 := blk_frozen BK123.out 0; have hfz9_1 := blk_frozen BK123.out 1; have hfz9_2 := blk_frozen BK123.out 2; have hfz9_3 := blk_frozen BK123.out 3; have p124 : 0 ≤ (0 : Int) := (by omega); have q124 : 0 < (l0_3.length : Int) := of_decide_eq_true (by first | (with_reducible assumption) | assumption); obtain ⟨ad124, A124_3, c124_3, e124, hx124_0, hx124_1, hx124_2, hx124_3, hl124_3, hi124_3⟩ := at_T24 HR0_3.out 0 p124 q124; cases e124; have qi124 : (0 < l0_3.length) = True := eq_true (by omega); (try rw [show ((0 : Int)).toNat = 0 from rfl] at hx124_0); (try rw [show 0 * 4 = 0 from rfl] at hx124_0); (try rw [Addr.add_zero'] at hx124_0); (try rw [show ((0 : Int)).toNat = 0 from rfl] at hx124_1); (try rw [show 0 * 4 = 0 from rfl] at hx124_1); (try rw [Addr.add_zero'] at hx124_1); (try rw [show ((0 : Int)).toNat = 0 from rfl] at hx124_2); (try rw [show 0 * 4 = 0 from rfl] at hx124_2); (try rw [Addr.add_zero'] at hx124_2); (try rw [show ((0 : Int)).toNat = 0 from rfl] at hx124_3); (try rw [show 0 * 4 = 0 from rfl] at hx124_3); (try rw [Addr.add_zero'] at hx124_3); replace hx124_0 := (HB.out.cell (World.block_lt_of_cell? w _ hx124_0)).trans hx124_0; replace hx124_1 := (HB.out.cell (World.block_lt_of_cell? w _ hx124_1)).trans hx124_1; replace hx124_2 := (HB.out.cell (World.block_lt_of_cell? w _ hx124_2)).trans hx124_2; replace hx124_3 := (HB.out.cell (World.block_lt_of_cell? w _ hx124_3)).trans hx124_3; have HR124_3 := Aside0.mk hi124_3; have HC124_3 := Aside0.mk hl124_3; clear hi124_3 hl124_3; replace p124 := eq_true p124; replace q124 := eq_true q124; have p125 : 0 ≤ (0 : Int) := (by omega); have q125 : 0 < (l0_3.length : Int) := of_decide_eq_true (by first | (with_reducible assumption) | assumption); obtain ⟨ad125, A125_3, c125_3, e125, hx125_0, hx125_1, hx125_2, hx125_3, hl125_3, hi125_3⟩ := at_T24 HR0_3.out 0 p125 q125; obtain rfl : ad124 = ad125 := (by injection e125); have qi125 : (0 < l0_3.length) = True := eq_true (by omega); (try rw [show ((0 : Int)).toNat = 0 from rfl] at hx125_0); (try rw [show 0 * 4 = 0 from rfl] at hx125_0); (try rw [Addr.add_zero'] at hx125_0); (try rw [show ((0 : Int)).toNat = 0 from rfl] at hx125_1); (try rw [show 0 * 4 = 0 from rfl] at hx125_1); (try rw [Addr.add_zero'] at hx125_1); (try rw [show ((0 : Int)).toNat = 0 from rfl] at hx125_2); (try rw [show 0 * 4 = 0 from rfl] at hx125_2); (try rw [Addr.add_zero'] at hx125_2); (try rw [show ((0 : Int)).toNat = 0 from rfl] at hx125_3); (try rw [show 0 * 4 = 0 from rfl] at hx125_3); (try rw [Addr.add_zero'] at hx125_3); replace hx125_0 := (HB.out.cell (World.block_lt_of_cell? w _ hx125_0)).trans hx125_0; replace hx125_1 := (HB.out.cell (World.block_lt_of_cell? w _ hx125_1)).trans hx125_1; replace hx125_2 := (HB.out.cell (World.block_lt_of_cell? w _ hx125_2)).trans hx125_2; replace hx125_3 := (HB.out.cell (World.block_lt_of_cell? w _ hx125_3)).trans hx125_3; have HR125_3 := Aside0.mk hi125_3; have HC125_3 := Aside0.mk hl125_3; clear hi125_3 hl125_3; replace p125 := eq_true p125; replace q125 := eq_true q125; have ea_ := Option.some.inj (hx124_3.symm.trans hx125_3); injection ea_ with ea_ en_ ec_; subst ea_; subst ec_; clear en_))
          go_ret
          exact ⟨by first | rfl | (simp [errW_none, errW_some] <;> rfl) | (simp [*, errW_none, errW_some] <;> rfl), by repeat (first | (with_reducible first | exact HB.out | apply below_alloc | apply pw_below_drewN | apply below_drew1 | refine below_set ?_ GE123.out) | exact HB.out)⟩
        · rw [if_neg c7] at H
          have c7b0 : (((rd_T24 l0_3 0).f0) == 1) = false := beq_eq_false_iff_ne.mpr c7
          have c7b1 : (((rd_T24 l0_3 0).f0) != 1) = true := bne_iff_ne.mpr c7
          obtain rfl := Option.some.inj H
          go_enter Tryz.func50, Tryz.ntmps50
          go_wp2_with (first | ((with_reducible refine gate_dst (N := 1) rfl ?_); (try (refine gate_guard (by rfl) ?_; dsimp only)); refine box_event ?hg (N := 1) ?hd (cs := #[.int .i64 a0_0, .int .i64 a0_1, .string a0_2, .slice A0_3 l0_3.length c0_3]) (t := 24) ?hr ?_; (case hd => rfl); (case hg => rfl); (case hr => first | (go_simp; done) | (go_simp; rfl)); intro gb123 hg w10 hbox hb; have n0_ := Aside0.mk (below_step (by repeat (first | (with_reducible first | exact HB.out | apply below_alloc | apply pw_below_drewN | apply below_drew1) | exact HB.out)) hb); have n1_ := Aside0.mk (hbox); have n2_ := Aside0.mk ((by rw [hg]; exact (below_size (by repeat (first | (with_reducible first | exact HB.out | apply below_alloc | apply pw_below_drewN | apply below_drew1) | exact HB.out))) : w.heap.size ≤ gb123)); have n3_ := Aside0.mk ((by rw [hg]; exact (below_size (by repeat (first | (with_reducible first | exact HB.out | apply below_alloc | apply pw_below_drewN | apply below_drew1) | exact HB.out))) : w.heap.size ≤ gb123)); clear HB; have HB := n0_; have BK123 := n1_; have GW123 := n2_; have GE123 := n3_; clear n0_ n1_ n2_ n3_; clear hb hbox hg; have hcz11_0 : w10.cell? ⟨gb123, 0, none⟩ = some (.int .i64 a0_0) := (blk_cell BK123.out 0).trans rfl; have hcz11_1 : w10.cell? ⟨gb123, 1, none⟩ = some (.int .i64 a0_1) := (blk_cell BK123.out 1).trans rfl; have hcz11_2 : w10.cell? ⟨gb123, 2, none⟩ = some (.string a0_2) := (blk_cell BK123.out 2).trans rfl; have hcz11_3 : w10.cell? ⟨gb123, 3, none⟩ = some (.slice A0_3 l0_3.length c0_3) := (blk_cell BK123.out 3).trans rfl; have hfz11_0 := blk_frozen BK123.out 0; have hfz11_1 := blk_frozen BK123.out 1; have hfz11_2 := blk_frozen BK123.out 2; have hfz11_3 := blk_frozen BK123.out 3; have p124 : 0 ≤ (0 : Int) := (by omega); have q124 : 0 < (l0_3.length : Int) := of_decide_eq_true (by first | (with_reducible assumption) | assumption); obtain ⟨ad124, A124_3, c124_3, e124, hx124_0, hx124_1, hx124_2, hx124_3, hl124_3, hi124_3⟩ := at_T24 HR0_3.out 0 p124 q124; cases e124; have qi124 : (0 < l0_3.length) = True := eq_true (by omega); (try rw [show ((0 : Int)).toNat = 0 from rfl] at hx124_0); (try rw [show 0 * 4 = 0 from rfl] at hx124_0); (try rw [Addr.add_zero'] at hx124_0); (try rw [show ((0 : Int)).toNat = 0 from rfl] at hx124_1); (try rw [show 0 * 4 = 0 from rfl] at hx124_1); (try rw [Addr.add_zero'] at hx124_1); (try rw [show ((0 : Int)).toNat = 0 from rfl] at hx124_2); (try rw [show 0 * 4 = 0 from rfl] at hx124_2); (try rw [Addr.add_zero'] at hx124_2); (try rw [show ((0 : Int)).toNat = 0 from rfl] at hx124_3); (try rw [show 0 * 4 = 0 from rfl] at hx124_3); (try rw [Addr.add_zero'] at hx124_3); replace hx124_0 := (HB.out.cell (World.block_lt_of_cell? w _ hx124_0)).trans hx124_0; replace hx124_1 := (HB.out.cell (World.block_lt_of_cell? w _ hx124_1)).trans hx124_1; replace hx124_2 := (HB.out.cell (World.block_lt_of_cell? w _ hx124_2)).trans hx124_2; replace hx124_3 := (HB.out.cell (World.block_lt_of_cell? w _ hx124_3)).trans hx124_3; have HR124_3 := Aside0.mk hi124_3; have HC124_3 := Aside0.mk hl124_3; clear hi124_3 hl124_3; replace p124 := eq_true p124; replace q124 := eq_true q124))
          go_ret
          exact ⟨by first | rfl | (simp [errW_none, errW_some] <;> rfl) | (simp [*, errW_none, errW_some] <;> rfl), by repeat (first | (with_reducible first | exact HB.out | apply below_alloc | apply pw_below_drewN | apply below_drew1 | refine below_set ?_ GE123.out) | exact HB.out)⟩
      · rw [if_neg c6] at H
        exact absurd H (by simp)
  · rw [if_neg c2] at H
    have c2b0 : (a0_0 == 3) = false := beq_eq_false_iff_ne.mpr c2
    have c2b1 : (a0_0 != 3) = true := bne_iff_ne.mpr c2
    obtain rfl := Option.some.inj H
    go_enter Tryz.func50, Tryz.ntmps50
    go_wp2_with (first | ((with_reducible refine gate_dst (N := 1) rfl ?_); (try (refine gate_guard (by rfl) ?_; dsimp only)); refine box_event ?hg (N := 1) ?hd (cs := #[.int .i64 a0_0, .int .i64 a0_1, .string a0_2, .slice A0_3 l0_3.length c0_3]) (t := 24) ?hr ?_; (case hd => rfl); (case hg => rfl); (case hr => first | (go_simp; done) | (go_simp; rfl)); intro gb123 hg w12 hbox hb; have n0_ := Aside0.mk (below_step (by repeat (first | (with_reducible first | exact HB.out | apply below_alloc | apply pw_below_drewN | apply below_drew1) | exact HB.out)) hb); have n1_ := Aside0.mk (hbox); have n2_ := Aside0.mk ((by rw [hg]; exact (below_size (by repeat (first | (with_reducible first | exact HB.out | apply below_alloc | apply pw_below_drewN | apply below_drew1) | exact HB.out))) : w.heap.size ≤ gb123)); have n3_ := Aside0.mk ((by rw [hg]; exact (below_size (by repeat (first | (with_reducible first | exact HB.out | apply below_alloc | apply pw_below_drewN | apply below_drew1) | exact HB.out))) : w.heap.size ≤ gb123)); clear HB; have HB := n0_; have BK123 := n1_; have GW123 := n2_; have GE123 := n3_; clear n0_ n1_ n2_ n3_; clear hb hbox hg; have hcz13_0 : w12.cell? ⟨gb123, 0, none⟩ = some (.int .i64 a0_0) := (blk_cell BK123.out 0).trans rfl; have hcz13_1 : w12.cell? ⟨gb123, 1, none⟩ = some (.int .i64 a0_1) := (blk_cell BK123.out 1).trans rfl; have hcz13_2 : w12.cell? ⟨gb123, 2, none⟩ = some (.string a0_2) := (blk_cell BK123.out 2).trans rfl; have hcz13_3 : w12.cell? ⟨gb123, 3, none⟩ = some (.slice A0_3 l0_3.length c0_3) := (blk_cell BK123.out 3).trans rfl; have hfz13_0 := blk_frozen BK123.out 0; have hfz13_1 := blk_frozen BK123.out 1; have hfz13_2 := blk_frozen BK123.out 2; have hfz13_3 := blk_frozen BK123.out 3))
    go_ret
    exact ⟨by first | rfl | (simp [errW_none, errW_some] <;> rfl) | (simp [*, errW_none, errW_some] <;> rfl), by repeat (first | (with_reducible first | exact HB.out | apply below_alloc | apply pw_below_drewN | apply below_drew1 | refine below_set ?_ GE123.out) | exact HB.out)⟩

end Go.Proofs.YtcjmplpfebpfpaaGreatDoor.PKindInstances

namespace Go.Proofs.YtcjmplpfebpfpaaGreatDoor.PKindInstances
open Go.RowKit Go.Proofs.YtcjmplpfebpfpaaGreatDoorW.PrintWords Go.Proofs.YtcjmplpfebpfpaaGreatDoorW.PrintLast Go.Proofs.YtcjmplpfebpfpaaGreatDoorW.PrintMore
attribute [local go_sem] max2_int min2_int max_two min_two max_three min_three max_four min_four   -- for this text's walks alone
set_option linter.unusedVariables false
set_option linter.unusedSimpArgs false

end Go.Proofs.YtcjmplpfebpfpaaGreatDoor.PKindInstances

namespace Go.Proofs.YtcjmplpfebpfpaaGreatDoor
open Go.RowKit Go.Proofs Go.Proofs.YtcjmplpfebpfpaaGreatDoorW.PrintWords Go.Proofs.YtcjmplpfebpfpaaGreatDoorW.PrintLast Go.Proofs.YtcjmplpfebpfpaaGreatDoorW.PrintMore PKindInstances
set_option linter.unusedVariables false
set_option linter.unusedSimpArgs false

end Go.Proofs.YtcjmplpfebpfpaaGreatDoor

namespace Go.Proofs.YtcjmplpfebpfpaaGreatDoor
open Go.RowKit Go.Proofs Go.Proofs.YtcjmplpfebpfpaaGreatDoorW.PrintWords Go.Proofs.YtcjmplpfebpfpaaGreatDoorW.PrintLast Go.Proofs.YtcjmplpfebpfpaaGreatDoorW.PrintMore PKindInstances
set_option linter.unusedVariables false
set_option linter.unusedSimpArgs false

theorem head_is (a n : Int) (s : ByteArray) (l : List S24) : plinthref01_Head.f a n s l = some (headOf a l) := by
  unfold plinthref01_Head.f headOf headL
  by_cases h3 : a = 3
  · rw [if_pos h3, if_pos h3]
    cases l with
    | nil => rfl
    | cons k l =>
      have e : rd_T24 (k :: l) 0 = k := rfl
      rw [if_neg (by simp only [List.length_cons]; omega), if_pos (by simp only [List.length_cons]; omega), e]
      by_cases h : k.f0 = 1
      · simp [h]
      · simp [h]
  · rw [if_neg h3, if_neg h3]
end Go.Proofs.YtcjmplpfebpfpaaGreatDoor

namespace Go.Proofs.YtcjmplpfebpfpaaGreatDoor
open Go.RowKit Go.Proofs Go.Proofs.YtcjmplpfebpfpaaGreatDoorW.PrintWords Go.Proofs.YtcjmplpfebpfpaaGreatDoorW.PrintLast Go.Proofs.YtcjmplpfebpfpaaGreatDoorW.PrintMore PKindInstances
set_option linter.unusedVariables false
set_option linter.unusedSimpArgs false

def RckOk (T : List S114) (n : Nat) : Prop :=
  ∀ (x : S24) (A B : Option Addr) (c d : Nat) (w : World), Kd.C k24 w A x.f3.length x.f3 → x.f3.length ≤ c → wid x < 9000000 → siz x ≤ n → fieldsM x = true → Kd.C k115 w B T.length (T.map toS) → T.length ≤ d →
    Calls Tryz.prog 119 #[formV x.f0 x.f1 x.f2 A x.f3.length c, .slice B T.length d] w fun e w' => e = .returned (.int .i64 (chkM T n x)) ∧ Below w.heap.size w w'
/-- What holds of the loop over the parts. -/
def RkRel (W5 : World) (T : List S114) (n : Nat) (ps : List S24) (E : Int) (k : Nat) (x7 x8 : Value) (wr : World) : Prop :=
  ∃ (i : Nat) (ev : Int), x8 = .int .i64 (i : Int) ∧ x7 = .int .i64 ev ∧ k + i = ps.length ∧ Below W5.heap.size W5 wr ∧ (if ev = 0 then chkL (chkM T n) (ps.drop i) else ev) = E
theorem chk_from {T : List S114} {n : Nat} {x : S24} {E : Int} (hs : shapedM x = true) (hE : (if outT T x = 0 then chkL (chkM T n) (partsM x) else outT T x) = E) : chkM T (n + 1) x = if E = 0 then lastT T (compM T n) x else E := by
  by_cases h0 : outT T x = 0
  · rw [if_pos h0] at hE
    by_cases h1 : E = 0
    · rw [if_pos h1]; exact chk_last hs h0 (by rw [hE]; exact h1)
    · rw [if_neg h1, ← hE]; exact chk_kids hs h0 (by rw [hE]; exact h1)
  · rw [if_neg h0] at hE
    rw [if_neg (by rw [← hE]; exact h0), ← hE]
    exact chk_out hs h0
theorem routside_any (T : List S114) (x : S24) (A B : Option Addr) (c d : Nat) (w : World) (ht : tabM [] T = true) (hn : T.length < 9000000) (hr : Kd.C k24 w A x.f3.length x.f3) (hc : x.f3.length ≤ c) (hl : x.f3.length < 9000000) (hf : fieldsM x = true) (hs : shapedM x = true) (hB : Kd.C k115 w B T.length (T.map toS)) (hd : T.length ≤ d) :
    Calls Tryz.prog 148 #[formV x.f0 x.f1 x.f2 A x.f3.length c, .slice B T.length d] w fun e w' => e = .returned (.int .i64 (outT T x)) ∧ Below w.heap.size w w' := by
  obtain ⟨K, hK⟩ := outside_ev T x ht hn hl hs (fun h1 => by
    obtain ⟨a, m, s, l⟩ := x
    obtain rfl : a = 1 := h1
    exact (fld_word hf).1)
  have h := plinthref03_outside.calls K x.f0 x.f1 x.f2 A c x.f3 B d (T.map toS) (outT T x) w hr hc (by rw [List.length_map]; exact hB) (by rw [List.length_map]; exact hd) (hK K (Nat.le_refl _))
  rw [List.length_map] at h
  exact h
theorem rcomp_any (T : List S114) (n : Nat) (x : S24) (A B : Option Addr) (c d : Nat) (w : World) (ht : tabM [] T = true) (hn : T.length < 9000000) (hr : Kd.C k24 w A x.f3.length x.f3) (hc : x.f3.length ≤ c) (hw : wid x < 9000000) (h0 : chkM T n x = 0) (hB : Kd.C k115 w B T.length (T.map toS)) (hd : T.length ≤ d) :
    Calls Tryz.prog 78 #[formV x.f0 x.f1 x.f2 A x.f3.length c, .slice B T.length d] w fun e w' => e = .returned (.bool (compM T n x)) ∧ Below w.heap.size w w' := by
  obtain ⟨K, hK⟩ := cmp_ev T ht hn n x h0 hw
  have h := plinthref03_comparable.calls K x.f0 x.f1 x.f2 A c x.f3 B d (T.map toS) (compM T n x) w hr hc (by rw [List.length_map]; exact hB) (by rw [List.length_map]; exact hd) (hK K (Nat.le_refl _))
  rw [List.length_map] at h
  exact h
/-- row of a table, walked: the kind that is found. -/
theorem rrow_any (T : List S114) (nm : ByteArray) (B : Option Addr) (d : Nat) (hn : T.length < 9000000) :
    ∃ q0 q1 q2 q3 q4 q5, q1 = kindT T nm ∧ q4 = newT T nm ∧ q5 = (findT T nm).isSome ∧ ∀ w, Kd.C k115 w B T.length (T.map toS) → T.length ≤ d → Calls Tryz.prog 80 #[.slice B T.length d, .string nm] w fun e w' => e = .returned (.tuple #[.agg #[.string q0, .int .i64 q1, .int .i64 q2, .bool q3, .bool q4], .bool q5]) ∧ Below w.heap.size w w' := by
  have hk := row_ev (T.map toS) nm (by simp; omega) (T.length + 1) (by simp)
  rw [look_toS] at hk
  cases hf : findT T nm with
  | none =>
    rw [hf] at hk
    refine ⟨⟨#[]⟩, 0, 0, false, false, false, by unfold kindT; rw [hf], by unfold newT; rw [hf], rfl, fun w hB hd => ?_⟩
    have h := plinthref03_row.calls _ B d (T.map toS) nm _ _ _ _ _ _ w (by rw [List.length_map]; exact hB) (by rw [List.length_map]; exact hd) hk
    rw [List.length_map] at h
    exact h
  | some r =>
    rw [hf] at hk
    refine ⟨r.f0, r.f1, r.f2, r.f3, r.f4, true, by unfold kindT; rw [hf], by unfold newT; rw [hf], rfl, fun w hB hd => ?_⟩
    have h := plinthref03_row.calls _ B d (T.map toS) nm _ _ _ _ _ _ w (by rw [List.length_map]; exact hB) (by rw [List.length_map]; exact hd) hk
    rw [List.length_map] at h
    exact h
theorem rhead_any (x : S24) (A : Option Addr) (c : Nat) (w : World) (hr : Kd.C k24 w A x.f3.length x.f3) (hc : x.f3.length ≤ c) :
    Calls Tryz.prog 50 #[formV x.f0 x.f1 x.f2 A x.f3.length c] w fun e w' => e = .returned (.string (headOf x.f0 x.f3)) ∧ Below w.heap.size w w' :=
  plinthref01_Head.calls x.f0 x.f1 x.f2 A c x.f3 _ w hr hc (head_is _ _ _ _)
set_option maxRecDepth 100000 in
set_option maxHeartbeats 16000000 in
theorem rck_step {T : List S114} {n : Nat} (ht : tabM [] T = true) (hn : T.length < 9000000) (OK : RckOk T n) : RckOk T (n + 1) := by
  intro x A B c d w hr hc hw hs0 hf hB hd
  have hu24 := Tryz.underlying24
  have hu22 := Tryz.underlying22
  have hu115 := Tryz.underlying115
  have hll := wids_len x.f3
  have hkw := wid_kids x
  have x1 := (MapKept.heap_alloc w (Obj.cells #[.int .i64 x.f0, .int .i64 x.f1, .string x.f2, .slice A x.f3.length c] 24)).1
  have b1 : Below w.heap.size w (w.alloc (Obj.cells #[.int .i64 x.f0, .int .i64 x.f1, .string x.f2, .slice A x.f3.length c] 24)) := below_alloc (Below.refl _ _) _
  have X1 : Hid _ := x1
  have B1 : Hid _ := b1
  have SH : Hid (∀ W, Below w.heap.size w W → _) := fun W h => shapedR_any x A c W (Kd.C_below hr h) hc hw hf
  have OUT : Hid (shapedM x = true → ∀ W, Below w.heap.size w W → _) := fun hs W h => routside_any T x A B c d W ht hn (Kd.C_below hr h) hc (by omega) hf hs (Kd.C_below hB h) hd
  have HD : Hid (∀ W, Below w.heap.size w W → _) := fun W h => rhead_any x A c W (Kd.C_below hr h) hc
  have RC : Hid (∀ (y : S24) (A : Option Addr) (c : Nat) (W : World), y ∈ partsM x → Kd.C k24 W A y.f3.length y.f3 → y.f3.length ≤ c → Below w.heap.size w W → _) :=
    fun y A c W hy h1 h2 h3 => OK y A B c d W h1 h2 (by have := (parts_mem hy).1; omega) (by have := (parts_mem hy).2; omega) (parts_fields hf hy) (Kd.C_below hB h3) hd
  have CP : Hid (∀ (y : S24) (A : Option Addr) (c : Nat) (W : World), wid y ≤ wid x → Kd.C k24 W A y.f3.length y.f3 → y.f3.length ≤ c → Below w.heap.size w W → chkM T n y = 0 → _) :=
    fun y A c W hy h1 h2 h3 h4 => rcomp_any T n y A B c d W ht hn h1 h2 (by omega) h4 (Kd.C_below hB h3) hd
  have RW : Hid (∀ nm, ∃ q0 q1 q2 q3 q4 q5, q1 = kindT T nm ∧ ∀ W, Below w.heap.size w W → _) := fun nm => by
    obtain ⟨q0, q1, q2, q3, q4, q5, e1, _, _, h⟩ := rrow_any T nm B d hn
    exact ⟨q0, q1, q2, q3, q4, q5, e1, fun W hW => h W (Kd.C_below hB hW) hd⟩
  have HPL : Hid ((partsM x).length < 9000002) := by have := parts_len x; show _ < 9000002; omega
  have HK : Hid (∀ k1, 2 ≤ x.f3.length → x.f3[1]? = some k1 → ∀ W, Below w.heap.size w W → _) := fun k1 h2 hk1 W h => row_at (Kd.C_below hr h) (i := 1) (by omega) hk1
  have HN : Hid (x.f3.length < 9000000) := by show x.f3.length < 9000000; omega
  clear hr OK x1 b1 hw hll hkw hs0 hf hB
  obtain ⟨v, hv⟩ : ∃ v, v = chkM T (n + 1) x := ⟨_, rfl⟩
  rw [← hv]
  have HV : Hid _ := hv
  clear hv
  generalize hl : x.f3 = l at *
  generalize ha : x.f0 = a at *
  generalize hmm : x.f1 = m at *
  generalize hs : x.f2 = s at *
  have HL : Hid (l = x.f3) := hl.symm
  have HA : Hid (a = x.f0) := ha.symm
  clear hl ha hmm hs
  obtain ⟨sh, hsh⟩ : ∃ q, q = shapedM x := ⟨_, rfl⟩
  unfold ShPost at SH
  rw [← hsh] at SH OUT
  have HS : Hid _ := hsh
  clear hsh
  go_enter Tryz.func119, Tryz.ntmps119
  go_upto_region 1 with fail
  generalize w.alloc (Obj.cells #[.int .i64 a, .int .i64 m, .string s, .slice A l.length c] 24) = X at *
  obtain ⟨p0, p1, p2, p3⟩ := cells4 X1.out
  go_wp2_with fail
  refine Calls.mono (SH.out _ B1.out) ?_
  rintro e w2 ⟨A2, c2, ps, rfl, hps, B2⟩
  have y1 : Hid _ := blk_below X1.out B2
  have HB2 : Hid _ := below_after B1.out B2
  clear p0 p1 p2 p3 X1 B1 B2 SH
  have X1 : Hid _ := y1.out
  have B1 : Hid _ := HB2.out
  clear y1 HB2
  cases sh with
  | false =>
    obtain rfl : v = 1 := by rw [HV.out]; exact chk_bad HS.out.symm
    clear hps
    go_wp2_with fail
    go_ret
    exact ⟨rfl, B1.out⟩
  | true =>
    obtain ⟨hpe, hpc, hpr⟩ := hps rfl
    have HPS : Hid _ := hpe
    have PL : Hid _ := hpc
    have PC : Hid _ := hpr
    clear hps hpc hpr
    rw [← hpe] at RC HPL
    clear hpe
    obtain ⟨ov, hov⟩ : ∃ q, q = outT T x := ⟨_, rfl⟩
    rw [← hov] at OUT
    obtain ⟨E, hE⟩ : ∃ E, (if ov = 0 then chkL (chkM T n) ps else ov) = E := ⟨_, rfl⟩
    have HVE : Hid (v = if E = 0 then lastT T (compM T n) x else E) := by show v = _; rw [HV.out]; exact chk_from HS.out.symm (by rw [← hov, ← HPS.out]; exact hE)
    have HE : Hid _ := hE
    have HE0 : Hid _ := hE
    have HO : Hid _ := hov
    clear hov hE HV
    obtain ⟨p0, p1, p2, p3⟩ := cells4 X1.out
    go_wp2_with fail
    refine Calls.mono (OUT.out (by first | exact trivial | exact rfl) _ B1.out) ?_
    rintro e w5 ⟨rfl, B5⟩
    have HB5 : Hid _ := below_after B1.out B5
    have Y1 : Hid _ := blk_below X1.out B5
    have PC5 : Hid _ := Kd.C_below PC.out B5
    clear p0 p1 p2 p3 X1 B1 B5 OUT PC
    have hpl : ps.length < 9000002 := HPL.out
    have start : Hid (RkRel w5 T n ps E ps.length (.int .i64 ov) (.int .i64 ((0 : Nat) : Int)) w5) := ⟨0, ov, rfl, rfl, by simp, Below.refl _ _, HE.out⟩
    go_wp2_with fail
    go_loopg [7, 8] ps.length (fun k x7 x8 wr => RkRel w5 T n ps E k x7 x8 wr)
    case atStart => exact start.out
    case round =>
      clear start HE
      obtain ⟨i, ev, rfl, rfl, hki, Bl, hV⟩ := hrel
      have BL : Hid _ := Bl
      clear Bl
      have X1 : Hid _ := blk_below Y1.out BL.out
      have HBr : Hid _ := below_after HB5.out BL.out
      by_cases hz : ev = 0
      · subst hz
        rw [if_pos rfl] at hV
        by_cases hlt : i < ps.length
        · obtain ⟨g, rfl⟩ : ∃ g, gk = g + 1 := ⟨gk - 1, by omega⟩
          have e1 : decide (i < ps.length) = true := decide_eq_true hlt
          obtain ⟨y, hy⟩ : ∃ y, ps[i]? = some y := ⟨ps[i], by simp [hlt]⟩
          have hym := List.mem_of_getElem? hy
          obtain ⟨ad, A3, c3, rfl, g0, g1, g2, g3, g4, g5⟩ := row_at (Kd.C_below PC5.out BL.out) hlt hy
          rw [drop_at2 hy] at hV
          have RCY : Hid _ := RC.out y A3 c3 _ hym g5 g4 HBr.out
          have HV2 : Hid _ := hV
          clear hy hym g4 g5 hV
          obtain ⟨ey, hey⟩ : ∃ q, q = chkM T n y := ⟨_, rfl⟩
          rw [← hey] at RCY
          have HEY : Hid _ := hey
          clear hey
          go_wp2_with fail
          refine Calls.mono RCY.out ?_
          rintro e w8 ⟨rfl, B8⟩
          have B9 : Hid _ := below_after BL.out B8
          clear B8 g0 g1 g2 g3
          go_wp2_with fail
          go_roundg g
          case measure => omega
          case rel => exact ⟨i + 1, ey, by go_num, rfl, by omega, B9.out, by have h9 := HV2.out; simp only [chkL] at h9; rw [← HEY.out] at h9; exact h9⟩
        · have e1 : decide (i < ps.length) = false := decide_eq_false hlt
          have hge2 : ps.length ≤ i := by omega
          rw [List.drop_eq_nil_of_le (by omega)] at hV
          have hE : E = 0 := hV.symm
          have HLA : Hid (v = lastT T (compM T n) x) := by show v = _; rw [HVE.out, if_pos hE]
          have HCH : Hid ((if outT T x = 0 then chkL (chkM T n) (partsM x) else outT T x) = 0) := by show _ = _; rw [← HO.out, ← HPS.out]; exact HE0.out.trans hE
          clear hV hE HVE
          have HW : Hid (x.f0 = 1 ∨ x.f0 = 3 ∧ shapeH (headL x.f3) x.f3 = true) := by
            by_cases h1 : x.f0 = 1
            · exact .inl h1
            · exact .inr (shaped_list HS.out.symm h1)
          have HO0 : Hid (outT T x = 0) := by
            by_cases h0 : outT T x = 0
            · exact h0
            · have h9 := HCH.out; rw [if_neg h0] at h9; exact absurd h9 h0
          have HKZ : Hid (∀ y ∈ ps, chkM T n y = 0) := chkL_zero (by have h9 := HCH.out; rw [if_pos HO0.out] at h9; rw [HPS.out]; exact h9)
          clear HCH RC
          obtain ⟨h, hh⟩ : ∃ h, h = headOf a l := ⟨_, rfl⟩
          rw [← hh] at HD
          have HH : Hid _ := hh
          clear hh
          obtain ⟨p0, p1, p2, p3⟩ := cells4 X1.out
          go_wp2_with fail
          refine Calls.mono (HD.out _ HBr.out) ?_
          rintro e w9 ⟨rfl, B9⟩
          have X9 : Hid _ := blk_below X1.out B9
          have HB9 : Hid _ := below_after HBr.out B9
          clear p0 p1 p2 p3 B9
          by_cases hset : h = setB
          · have ha3 : x.f0 = 3 := by
              rcases HW.out with h1 | ⟨h3, _⟩
              · exfalso
                have h9 := HH.out
                rw [HA.out, h1, hset] at h9
                simp [headOf, intB, boolB, bitsB, maybeB, funB, imapB, seqB, setB, bagB, mapB] at h9
              · exact h3
            have hsh : shapeH (headL x.f3) x.f3 = true := by
              rcases HW.out with h1 | ⟨_, h3⟩
              · rw [h1] at ha3; cases ha3
              · exact h3
            have hh : headL x.f3 = setB := by have h9 := HH.out; rw [HA.out, ha3, HL.out, hset] at h9; simpa [headOf] using h9.symm
            have hnm : nameF x = setB := by rw [name_list ha3, hh]
            have h2 : 2 ≤ l.length := by rw [HL.out]; exact (shape_list hsh).2
            obtain ⟨k1, hk1⟩ : ∃ y, l[1]? = some y := ⟨l[1]'(by omega), List.getElem?_eq_getElem _⟩
            obtain ⟨ad, A3, c3, rfl, g0, g1, g2, g3, g4, g5⟩ := HK.out k1 h2 hk1 _ HB9.out
            have hkk : kid1 x = k1 := by unfold kid1; rw [← HL.out, hk1]; rfl
            have l2 : 1 < l.length := by omega
            have g0 : w9.cell? ⟨ad.block, ad.off + 4, none⟩ = some (.int .i64 k1.f0) := g0
            have g1 : w9.cell? ⟨ad.block, ad.off + 4 + 1, none⟩ = some (.int .i64 k1.f1) := g1
            have g2 : w9.cell? ⟨ad.block, ad.off + 4 + 2, none⟩ = some (.string k1.f2) := g2
            have g3 : w9.cell? ⟨ad.block, ad.off + 4 + 3, none⟩ = some (.slice A3 k1.f3.length c3) := g3
            have hk0 : chkM T n k1 = 0 := HKZ.out k1 (by
              rw [HPS.out, parts_drop ha3 (by rw [hh]; simp [intB, boolB, bitsB, maybeB, funB, imapB, seqB, setB, bagB, mapB]) (by rw [hh]; simp [intB, boolB, bitsB, maybeB, funB, imapB, seqB, setB, bagB, mapB]), ← HL.out]
              exact List.mem_of_getElem? (i := 0) (by rw [List.getElem?_drop]; exact hk1))
            have CM : Hid _ := CP.out k1 A3 c3 w9 (by have h5 := wid_mem (List.mem_of_getElem? hk1); have h6 := wid_kids x; rw [HL.out] at h5; omega) g5 g4 HB9.out hk0
            obtain ⟨cm, hcm⟩ : ∃ q, q = compM T n k1 := ⟨_, rfl⟩
            rw [← hcm] at CM
            have e : v = (if cm = true then 0 else 8) := by rw [HLA.out]; unfold lastT; rw [hnm, if_pos (by simp [intB, boolB, bitsB, maybeB, funB, imapB, seqB, setB, bagB, mapB]), hkk, ← hcm]
            have HLE : Hid _ := e
            have HE9 : Hid _ := hset
            obtain ⟨p0, p1, p2, p3⟩ := cells4 X9.out
            clear hset ha3 hsh hh h2 hk1 hkk g4 g5 hk0 hcm e HLA hnm
            obtain rfl := HE9.out
            unfold setB at *
            go_wp2_with fail
            refine Calls.mono CM.out ?_
            rintro e w10 ⟨rfl, B10⟩
            have HB10 : Hid _ := below_after HB9.out B10
            clear B10 p0 p1 p2 p3 g0 g1 g2 g3
            cases cm with
            | true =>
              obtain rfl : v = 0 := by rw [HLE.out]; rfl
              go_wp2_with fail
              go_ret
              exact ⟨rfl, HB10.out⟩
            | false =>
              obtain rfl : v = 8 := by rw [HLE.out]; rfl
              go_wp2_with fail
              go_ret
              exact ⟨rfl, HB10.out⟩
          have tset : (h.toList == [115, 101, 116]) = false := byt_ne (by simp [ByteArray.toList_eq, setB]) hset
          have Nset : Hid (¬ h = setB) := hset
          clear hset
          by_cases hbag : h = bagB
          · have ha3 : x.f0 = 3 := by
              rcases HW.out with h1 | ⟨h3, _⟩
              · exfalso
                have h9 := HH.out
                rw [HA.out, h1, hbag] at h9
                simp [headOf, intB, boolB, bitsB, maybeB, funB, imapB, seqB, setB, bagB, mapB] at h9
              · exact h3
            have hsh : shapeH (headL x.f3) x.f3 = true := by
              rcases HW.out with h1 | ⟨_, h3⟩
              · rw [h1] at ha3; cases ha3
              · exact h3
            have hh : headL x.f3 = bagB := by have h9 := HH.out; rw [HA.out, ha3, HL.out, hbag] at h9; simpa [headOf] using h9.symm
            have hnm : nameF x = bagB := by rw [name_list ha3, hh]
            have h2 : 2 ≤ l.length := by rw [HL.out]; exact (shape_list hsh).2
            obtain ⟨k1, hk1⟩ : ∃ y, l[1]? = some y := ⟨l[1]'(by omega), List.getElem?_eq_getElem _⟩
            obtain ⟨ad, A3, c3, rfl, g0, g1, g2, g3, g4, g5⟩ := HK.out k1 h2 hk1 _ HB9.out
            have hkk : kid1 x = k1 := by unfold kid1; rw [← HL.out, hk1]; rfl
            have l2 : 1 < l.length := by omega
            have g0 : w9.cell? ⟨ad.block, ad.off + 4, none⟩ = some (.int .i64 k1.f0) := g0
            have g1 : w9.cell? ⟨ad.block, ad.off + 4 + 1, none⟩ = some (.int .i64 k1.f1) := g1
            have g2 : w9.cell? ⟨ad.block, ad.off + 4 + 2, none⟩ = some (.string k1.f2) := g2
            have g3 : w9.cell? ⟨ad.block, ad.off + 4 + 3, none⟩ = some (.slice A3 k1.f3.length c3) := g3
            have hk0 : chkM T n k1 = 0 := HKZ.out k1 (by
              rw [HPS.out, parts_drop ha3 (by rw [hh]; simp [intB, boolB, bitsB, maybeB, funB, imapB, seqB, setB, bagB, mapB]) (by rw [hh]; simp [intB, boolB, bitsB, maybeB, funB, imapB, seqB, setB, bagB, mapB]), ← HL.out]
              exact List.mem_of_getElem? (i := 0) (by rw [List.getElem?_drop]; exact hk1))
            have CM : Hid _ := CP.out k1 A3 c3 w9 (by have h5 := wid_mem (List.mem_of_getElem? hk1); have h6 := wid_kids x; rw [HL.out] at h5; omega) g5 g4 HB9.out hk0
            obtain ⟨cm, hcm⟩ : ∃ q, q = compM T n k1 := ⟨_, rfl⟩
            rw [← hcm] at CM
            have e : v = (if cm = true then 0 else 8) := by rw [HLA.out]; unfold lastT; rw [hnm, if_pos (by simp [intB, boolB, bitsB, maybeB, funB, imapB, seqB, setB, bagB, mapB]), hkk, ← hcm]
            have HLE : Hid _ := e
            have HE9 : Hid _ := hbag
            obtain ⟨p0, p1, p2, p3⟩ := cells4 X9.out
            clear hbag ha3 hsh hh h2 hk1 hkk g4 g5 hk0 hcm e HLA hnm
            obtain rfl := HE9.out
            unfold bagB at *
            go_wp2_with fail
            refine Calls.mono CM.out ?_
            rintro e w10 ⟨rfl, B10⟩
            have HB10 : Hid _ := below_after HB9.out B10
            clear B10 p0 p1 p2 p3 g0 g1 g2 g3
            cases cm with
            | true =>
              obtain rfl : v = 0 := by rw [HLE.out]; rfl
              go_wp2_with fail
              go_ret
              exact ⟨rfl, HB10.out⟩
            | false =>
              obtain rfl : v = 8 := by rw [HLE.out]; rfl
              go_wp2_with fail
              go_ret
              exact ⟨rfl, HB10.out⟩
          have tbag : (h.toList == [98, 97, 103]) = false := byt_ne (by simp [ByteArray.toList_eq, bagB]) hbag
          have Nbag : Hid (¬ h = bagB) := hbag
          clear hbag
          by_cases hmap : h = mapB
          · have ha3 : x.f0 = 3 := by
              rcases HW.out with h1 | ⟨h3, _⟩
              · exfalso
                have h9 := HH.out
                rw [HA.out, h1, hmap] at h9
                simp [headOf, intB, boolB, bitsB, maybeB, funB, imapB, seqB, setB, bagB, mapB] at h9
              · exact h3
            have hsh : shapeH (headL x.f3) x.f3 = true := by
              rcases HW.out with h1 | ⟨_, h3⟩
              · rw [h1] at ha3; cases ha3
              · exact h3
            have hh : headL x.f3 = mapB := by have h9 := HH.out; rw [HA.out, ha3, HL.out, hmap] at h9; simpa [headOf] using h9.symm
            have hnm : nameF x = mapB := by rw [name_list ha3, hh]
            have h2 : 2 ≤ l.length := by rw [HL.out]; exact (shape_list hsh).2
            obtain ⟨k1, hk1⟩ : ∃ y, l[1]? = some y := ⟨l[1]'(by omega), List.getElem?_eq_getElem _⟩
            obtain ⟨ad, A3, c3, rfl, g0, g1, g2, g3, g4, g5⟩ := HK.out k1 h2 hk1 _ HB9.out
            have hkk : kid1 x = k1 := by unfold kid1; rw [← HL.out, hk1]; rfl
            have l2 : 1 < l.length := by omega
            have g0 : w9.cell? ⟨ad.block, ad.off + 4, none⟩ = some (.int .i64 k1.f0) := g0
            have g1 : w9.cell? ⟨ad.block, ad.off + 4 + 1, none⟩ = some (.int .i64 k1.f1) := g1
            have g2 : w9.cell? ⟨ad.block, ad.off + 4 + 2, none⟩ = some (.string k1.f2) := g2
            have g3 : w9.cell? ⟨ad.block, ad.off + 4 + 3, none⟩ = some (.slice A3 k1.f3.length c3) := g3
            have hk0 : chkM T n k1 = 0 := HKZ.out k1 (by
              rw [HPS.out, parts_drop ha3 (by rw [hh]; simp [intB, boolB, bitsB, maybeB, funB, imapB, seqB, setB, bagB, mapB]) (by rw [hh]; simp [intB, boolB, bitsB, maybeB, funB, imapB, seqB, setB, bagB, mapB]), ← HL.out]
              exact List.mem_of_getElem? (i := 0) (by rw [List.getElem?_drop]; exact hk1))
            have CM : Hid _ := CP.out k1 A3 c3 w9 (by have h5 := wid_mem (List.mem_of_getElem? hk1); have h6 := wid_kids x; rw [HL.out] at h5; omega) g5 g4 HB9.out hk0
            obtain ⟨cm, hcm⟩ : ∃ q, q = compM T n k1 := ⟨_, rfl⟩
            rw [← hcm] at CM
            have e : v = (if cm = true then 0 else 8) := by rw [HLA.out]; unfold lastT; rw [hnm, if_pos (by simp [intB, boolB, bitsB, maybeB, funB, imapB, seqB, setB, bagB, mapB]), hkk, ← hcm]
            have HLE : Hid _ := e
            have HE9 : Hid _ := hmap
            obtain ⟨p0, p1, p2, p3⟩ := cells4 X9.out
            clear hmap ha3 hsh hh h2 hk1 hkk g4 g5 hk0 hcm e HLA hnm
            obtain rfl := HE9.out
            unfold mapB at *
            go_wp2_with fail
            refine Calls.mono CM.out ?_
            rintro e w10 ⟨rfl, B10⟩
            have HB10 : Hid _ := below_after HB9.out B10
            clear B10 p0 p1 p2 p3 g0 g1 g2 g3
            cases cm with
            | true =>
              obtain rfl : v = 0 := by rw [HLE.out]; rfl
              go_wp2_with fail
              go_ret
              exact ⟨rfl, HB10.out⟩
            | false =>
              obtain rfl : v = 8 := by rw [HLE.out]; rfl
              go_wp2_with fail
              go_ret
              exact ⟨rfl, HB10.out⟩
          have tmap : (h.toList == [109, 97, 112]) = false := byt_ne (by simp [ByteArray.toList_eq, mapB]) hmap
          have Nmap : Hid (¬ h = mapB) := hmap
          clear hmap
          by_cases himap : h = imapB
          · have ha3 : x.f0 = 3 := by
              rcases HW.out with h1 | ⟨h3, _⟩
              · exfalso
                have h9 := HH.out
                rw [HA.out, h1, himap] at h9
                simp [headOf, intB, boolB, bitsB, maybeB, funB, imapB, seqB, setB, bagB, mapB] at h9
              · exact h3
            have hsh : shapeH (headL x.f3) x.f3 = true := by
              rcases HW.out with h1 | ⟨_, h3⟩
              · rw [h1] at ha3; cases ha3
              · exact h3
            have hh : headL x.f3 = imapB := by have h9 := HH.out; rw [HA.out, ha3, HL.out, himap] at h9; simpa [headOf] using h9.symm
            have hnm : nameF x = imapB := by rw [name_list ha3, hh]
            have h2 : 2 ≤ l.length := by rw [HL.out]; exact (shape_list hsh).2
            obtain ⟨k1, hk1⟩ : ∃ y, l[1]? = some y := ⟨l[1]'(by omega), List.getElem?_eq_getElem _⟩
            obtain ⟨ad, A3, c3, rfl, g0, g1, g2, g3, g4, g5⟩ := HK.out k1 h2 hk1 _ HB9.out
            have hkk : kid1 x = k1 := by unfold kid1; rw [← HL.out, hk1]; rfl
            have l2 : 1 < l.length := by omega
            have g0 : w9.cell? ⟨ad.block, ad.off + 4, none⟩ = some (.int .i64 k1.f0) := g0
            have g1 : w9.cell? ⟨ad.block, ad.off + 4 + 1, none⟩ = some (.int .i64 k1.f1) := g1
            have g2 : w9.cell? ⟨ad.block, ad.off + 4 + 2, none⟩ = some (.string k1.f2) := g2
            have g3 : w9.cell? ⟨ad.block, ad.off + 4 + 3, none⟩ = some (.slice A3 k1.f3.length c3) := g3
            have hk0 : chkM T n k1 = 0 := HKZ.out k1 (by
              rw [HPS.out, parts_drop ha3 (by rw [hh]; simp [intB, boolB, bitsB, maybeB, funB, imapB, seqB, setB, bagB, mapB]) (by rw [hh]; simp [intB, boolB, bitsB, maybeB, funB, imapB, seqB, setB, bagB, mapB]), ← HL.out]
              exact List.mem_of_getElem? (i := 0) (by rw [List.getElem?_drop]; exact hk1))
            have CM : Hid _ := CP.out k1 A3 c3 w9 (by have h5 := wid_mem (List.mem_of_getElem? hk1); have h6 := wid_kids x; rw [HL.out] at h5; omega) g5 g4 HB9.out hk0
            obtain ⟨cm, hcm⟩ : ∃ q, q = compM T n k1 := ⟨_, rfl⟩
            rw [← hcm] at CM
            have e : v = (if cm = true then 0 else 8) := by rw [HLA.out]; unfold lastT; rw [hnm, if_pos (by simp [intB, boolB, bitsB, maybeB, funB, imapB, seqB, setB, bagB, mapB]), hkk, ← hcm]
            have HLE : Hid _ := e
            have HE9 : Hid _ := himap
            obtain ⟨p0, p1, p2, p3⟩ := cells4 X9.out
            clear himap ha3 hsh hh h2 hk1 hkk g4 g5 hk0 hcm e HLA hnm
            obtain rfl := HE9.out
            unfold imapB at *
            go_wp2_with fail
            refine Calls.mono CM.out ?_
            rintro e w10 ⟨rfl, B10⟩
            have HB10 : Hid _ := below_after HB9.out B10
            clear B10 p0 p1 p2 p3 g0 g1 g2 g3
            cases cm with
            | true =>
              obtain rfl : v = 0 := by rw [HLE.out]; rfl
              go_wp2_with fail
              go_ret
              exact ⟨rfl, HB10.out⟩
            | false =>
              obtain rfl : v = 8 := by rw [HLE.out]; rfl
              go_wp2_with fail
              go_ret
              exact ⟨rfl, HB10.out⟩
          have timap : (h.toList == [105, 109, 97, 112]) = false := byt_ne (by simp [ByteArray.toList_eq, imapB]) himap
          have Nimap : Hid (¬ h = imapB) := himap
          clear himap
          by_cases hmaybe : h = maybeB
          · have ha3 : x.f0 = 3 := by
              rcases HW.out with h1 | ⟨h3, _⟩
              · exfalso
                have h9 := HH.out
                rw [HA.out, h1, hmaybe] at h9
                simp [headOf, intB, boolB, bitsB, maybeB, funB, imapB, seqB, setB, bagB, mapB] at h9
              · exact h3
            have hsh : shapeH (headL x.f3) x.f3 = true := by
              rcases HW.out with h1 | ⟨_, h3⟩
              · rw [h1] at ha3; cases ha3
              · exact h3
            have hh : headL x.f3 = maybeB := by have h9 := HH.out; rw [HA.out, ha3, HL.out, hmaybe] at h9; simpa [headOf] using h9.symm
            have hnm : nameF x = maybeB := by rw [name_list ha3, hh]
            have h2 : 2 ≤ l.length := by rw [HL.out]; exact (shape_list hsh).2
            obtain ⟨k1, hk1⟩ : ∃ y, l[1]? = some y := ⟨l[1]'(by omega), List.getElem?_eq_getElem _⟩
            obtain ⟨ad, A3, c3, rfl, g0, g1, g2, g3, g4, g5⟩ := HK.out k1 h2 hk1 _ HB9.out
            have hkk : kid1 x = k1 := by unfold kid1; rw [← HL.out, hk1]; rfl
            have l2 : 1 < l.length := by omega
            have g0 : w9.cell? ⟨ad.block, ad.off + 4, none⟩ = some (.int .i64 k1.f0) := g0
            have g1 : w9.cell? ⟨ad.block, ad.off + 4 + 1, none⟩ = some (.int .i64 k1.f1) := g1
            have g2 : w9.cell? ⟨ad.block, ad.off + 4 + 2, none⟩ = some (.string k1.f2) := g2
            have g3 : w9.cell? ⟨ad.block, ad.off + 4 + 3, none⟩ = some (.slice A3 k1.f3.length c3) := g3
            obtain ⟨q0, q1, q2, q3, q4, q5, hq1, hrow⟩ := RW.out k1.f2
            have RWW : Hid _ := hrow w9 HB9.out
            have e : v = (if q1 = 3 ∨ q1 = 4 then 0 else 8) := by rw [HLA.out]; unfold lastT; rw [hnm, if_neg (by simp [intB, boolB, bitsB, maybeB, funB, imapB, seqB, setB, bagB, mapB]), if_pos rfl, hkk, ← hq1]
            have HLE : Hid _ := e
            have HE9 : Hid _ := hmaybe
            obtain ⟨p0, p1, p2, p3⟩ := cells4 X9.out
            clear hmaybe ha3 hsh hh h2 hk1 hkk g4 g5 e HLA hnm hq1 hrow
            obtain rfl := HE9.out
            unfold maybeB at *
            go_wp2_with fail
            refine Calls.mono RWW.out ?_
            rintro e w10 ⟨rfl, B10⟩
            have HB10 : Hid _ := below_after HB9.out B10
            clear B10 p0 p1 p2 p3 g0 g1 g2 g3
            go_upto_region 20 with fail
            have b5 : Below w10.heap.size w10 (w10.alloc (Obj.cells #[.string q0, .int .i64 q1, .int .i64 q2, .bool q3, .bool q4] 115)) := below_alloc (Below.refl _ _) _
            have y5 := (MapKept.heap_alloc w10 (Obj.cells #[.string q0, .int .i64 q1, .int .i64 q2, .bool q3, .bool q4] 115)).1
            have HB11 : Hid _ := below_after HB10.out b5
            clear b5
            generalize w10.alloc (Obj.cells #[.string q0, .int .i64 q1, .int .i64 q2, .bool q3, .bool q4] 115) = M at *
            generalize w10.heap.size = bR at *
            obtain ⟨y50, y51, y52, y53, y54⟩ := cells5 y5
            clear y5
            by_cases k3 : q1 = 3
            · have t3 : (q1 != 3) = false := bne_eq_false_iff_eq.mpr k3
              obtain rfl : v = 0 := by rw [HLE.out, if_pos (.inl k3)]
              clear k3
              go_wp2_with fail
              go_ret
              exact ⟨rfl, HB11.out⟩
            · have t3 : (q1 != 3) = true := bne_iff_ne.mpr k3
              by_cases k4 : q1 = 4
              · have t4 : (q1 != 4) = false := bne_eq_false_iff_eq.mpr k4
                obtain rfl : v = 0 := by rw [HLE.out, if_pos (.inr k4)]
                clear k3 k4
                go_wp2_with fail
                go_ret
                exact ⟨rfl, HB11.out⟩
              · have t4 : (q1 != 4) = true := bne_iff_ne.mpr k4
                obtain rfl : v = 8 := by rw [HLE.out, if_neg (by rintro (e | e); exact k3 e; exact k4 e)]
                clear k3 k4
                go_wp2_with fail
                go_ret
                exact ⟨rfl, HB11.out⟩
          have tmaybe : (h.toList == [109, 97, 121, 98, 101]) = false := byt_ne (by simp [ByteArray.toList_eq, maybeB]) hmaybe
          have Nmaybe : Hid (¬ h = maybeB) := hmaybe
          clear hmaybe
          obtain rfl : v = 0 := by
            rw [HLA.out]
            rcases HW.out with h1 | ⟨h3, hsh⟩
            · have nm : (manyM (nameF x)).isSome = false := by
                cases hq : (manyM (nameF x)).isSome with
                | false => rfl
                | true => exact absurd h1 (out_word HO0.out hq)
              unfold lastT
              rw [if_neg (by rintro (e | e | e | e) <;> (rw [e] at nm; simp [manyM, intB, boolB, bitsB, maybeB, funB, imapB, seqB, setB, bagB, mapB] at nm)), if_neg (by intro e; rw [e] at nm; simp [manyM, intB, boolB, bitsB, maybeB, funB, imapB, seqB, setB, bagB, mapB] at nm)]
            · have hn : nameF x = h := by rw [name_list h3, HH.out, HA.out, HL.out]; simp [headOf, h3]
              unfold lastT
              rw [hn, if_neg (by rintro (e | e | e | e); exact Nset.out e; exact Nbag.out e; exact Nmap.out e; exact Nimap.out e), if_neg Nmaybe.out]
          go_wp2_with fail
          go_ret
          exact ⟨rfl, HB9.out⟩
      · have g1 : (ev == 0) = false := beq_eq_false_iff_ne.mpr hz
        have g2 : (ev != 0) = true := bne_iff_ne.mpr hz
        rw [if_neg hz] at hV
        obtain rfl : v = ev := by rw [HVE.out, if_neg (by rw [← hV]; exact hz), hV]
        clear hV
        by_cases hlt : i < ps.length
        · have e1 : decide (i < ps.length) = true := decide_eq_true hlt
          go_wp2_with fail
          go_ret
          exact ⟨rfl, HBr.out⟩
        · have e1 : decide (i < ps.length) = false := decide_eq_false hlt
          go_wp2_with fail
          go_ret
          exact ⟨rfl, HBr.out⟩
theorem rck_any (T : List S114) (ht : tabM [] T = true) (hn : T.length < 9000000) : ∀ n, RckOk T n
  | 0 => fun x A B c d w _ _ _ hs _ _ _ => by have := siz_pos x; omega
  | n + 1 => rck_step ht hn (rck_any T ht hn n)

end Go.Proofs.YtcjmplpfebpfpaaGreatDoor

namespace Go.Proofs.YtcjmplpfebpfpaaGreatDoor
open Go.RowKit Go.Proofs Go.Proofs.YtcjmplpfebpfpaaGreatDoorW.PrintWords Go.Proofs.YtcjmplpfebpfpaaGreatDoorW.PrintLast Go.Proofs.YtcjmplpfebpfpaaGreatDoorW.PrintMore PKindInstances
set_option linter.unusedVariables false
set_option linter.unusedSimpArgs false

/-- What Of answers. -/
def ofM (T : List S114) (x : S24) : Int := if ValidM x = true then chkM T (siz x) x else 1
theorem check_of (T : List S114) (x : S24) : checkM T x = if tabM [] T = true then ofM T x else 1 := by
  unfold checkM ofM
  cases tabM [] T <;> cases ValidM x <;> rfl
set_option maxRecDepth 100000 in
set_option maxHeartbeats 4000000 in
theorem ROf_any (x : S24) (T : List S114) (A B : Option Addr) (c d : Nat) (w : World) (hr : Kd.C k24 w A x.f3.length x.f3) (hc : x.f3.length ≤ c) (hw : wid x < 9000000) (hz : siz x < 9000000) (hB : Kd.C k115 w B T.length (T.map toS)) (hd : T.length ≤ d) (hn : T.length < 9000000) (ht : tabM [] T = true) :
    Calls Tryz.prog 76 #[formV x.f0 x.f1 x.f2 A x.f3.length c, .slice B T.length d] w fun e w' => e = .returned (.int .i64 (ofM T x)) ∧ Below w.heap.size w w' := by
  have hu24 := Tryz.underlying24
  have x1 := (MapKept.heap_alloc w (Obj.cells #[.int .i64 x.f0, .int .i64 x.f1, .string x.f2, .slice A x.f3.length c] 24)).1
  have b1 : Below w.heap.size w (w.alloc (Obj.cells #[.int .i64 x.f0, .int .i64 x.f1, .string x.f2, .slice A x.f3.length c] 24)) := below_alloc (Below.refl _ _) _
  have X1 : Hid _ := x1
  have B1 : Hid _ := b1
  have VX : Hid (∀ W, Below w.heap.size w W → _) := fun W h => RValid_any x A c W (Kd.C_below hr h) hc hz hw
  have CK : Hid (ValidM x = true → ∀ W, Below w.heap.size w W → _) := fun hv W h => rck_any T ht hn (siz x) x A B c d W (Kd.C_below hr h) hc hw (Nat.le_refl _) (valid_fields hv) (Kd.C_below hB h) hd
  clear x1 b1 hr hB hz hw
  obtain ⟨v, hv⟩ : ∃ v, v = ofM T x := ⟨_, rfl⟩
  rw [← hv]
  have HV : Hid _ := hv
  clear hv
  rw [ValidR_eq] at VX
  obtain ⟨vx, hvx⟩ : ∃ q, q = ValidM x := ⟨_, rfl⟩
  rw [← hvx] at VX CK
  have HVX : Hid _ := hvx
  clear hvx
  obtain ⟨ck, hck⟩ : ∃ q, q = chkM T (siz x) x := ⟨_, rfl⟩
  rw [← hck] at CK
  have HCK : Hid _ := hck
  clear hck
  obtain ⟨a, m, s, l⟩ := x
  simp only [] at X1 B1 VX CK hc
  go_enter Tryz.func76, Tryz.ntmps76
  go_upto_region 1 with fail
  generalize w.alloc (Obj.cells #[.int .i64 a, .int .i64 m, .string s, .slice A l.length c] 24) = X at *
  obtain ⟨p0, p1, p2, p3⟩ := cells4 X1.out
  go_wp2_with fail
  refine Calls.mono (VX.out _ B1.out) ?_
  rintro e w2 ⟨rfl, B2⟩
  have HB2 : Hid _ := below_after B1.out B2
  have x2 : Hid _ := blk_below X1.out B2
  clear p0 p1 p2 p3 B2 B1 X1
  obtain ⟨p0, p1, p2, p3⟩ := cells4 x2.out
  cases vx with
  | false =>
    obtain rfl : v = 1 := by rw [HV.out]; unfold ofM; rw [← HVX.out]; rfl
    go_wp2_with fail
    go_ret
    exact ⟨rfl, HB2.out⟩
  | true =>
    obtain rfl : v = ck := by rw [HV.out, HCK.out]; unfold ofM; rw [← HVX.out]; rfl
    go_wp2_with fail
    refine Calls.mono (CK.out (by first | exact trivial | exact rfl) _ HB2.out) ?_
    rintro e w3 ⟨rfl, B3⟩
    have HB3 : Hid _ := below_after HB2.out B3
    clear B3
    go_wp2_with fail
    go_ret
    exact ⟨rfl, HB3.out⟩
set_option maxRecDepth 100000 in
set_option maxHeartbeats 4000000 in
theorem RCheck_any (x : S24) (T : List S114) (A B : Option Addr) (c d : Nat) (w : World) (hr : Kd.C k24 w A x.f3.length x.f3) (hc : x.f3.length ≤ c) (hw : wid x < 9000000) (hz : siz x < 9000000) (hB : Kd.C k115 w B T.length (T.map toS)) (hd : T.length ≤ d) (hn : T.length < 9000000) (hq : ∀ r ∈ T, r.f0.size < 8000000) :
    Calls Tryz.prog 34 #[formV x.f0 x.f1 x.f2 A x.f3.length c, .slice B T.length d] w fun e w' => e = .returned (.int .i64 (checkM T x)) ∧ Below w.heap.size w w' := by
  have hu24 := Tryz.underlying24
  have x1 := (MapKept.heap_alloc w (Obj.cells #[.int .i64 x.f0, .int .i64 x.f1, .string x.f2, .slice A x.f3.length c] 24)).1
  have b1 : Below w.heap.size w (w.alloc (Obj.cells #[.int .i64 x.f0, .int .i64 x.f1, .string x.f2, .slice A x.f3.length c] 24)) := below_alloc (Below.refl _ _) _
  have X1 : Hid _ := x1
  have B1 : Hid _ := b1
  have TB : Hid (∀ W, Below w.heap.size w W → _) := fun W h => tabled_any T B d W (Kd.C_below hB h) hd hn hq
  have CK : Hid (tabM [] T = true → ∀ W, Below w.heap.size w W → _) := fun ht W h => ROf_any x T A B c d W (Kd.C_below hr h) hc hw hz (Kd.C_below hB h) hd hn ht
  clear x1 b1 hr hB hz hw hq
  obtain ⟨v, hv⟩ : ∃ v, v = checkM T x := ⟨_, rfl⟩
  rw [← hv]
  have HV : Hid _ := hv
  clear hv
  obtain ⟨vx, hvx⟩ : ∃ q, q = tabM [] T := ⟨_, rfl⟩
  rw [← hvx] at TB CK
  have HVX : Hid _ := hvx
  clear hvx
  obtain ⟨ck, hck⟩ : ∃ q, q = ofM T x := ⟨_, rfl⟩
  rw [← hck] at CK
  have HCK : Hid _ := hck
  clear hck
  obtain ⟨a, m, s, l⟩ := x
  simp only [] at X1 B1 CK hc
  go_enter Tryz.func34, Tryz.ntmps34
  go_upto_region 1 with fail
  generalize w.alloc (Obj.cells #[.int .i64 a, .int .i64 m, .string s, .slice A l.length c] 24) = X at *
  obtain ⟨p0, p1, p2, p3⟩ := cells4 X1.out
  go_wp2_with fail
  refine Calls.mono (TB.out _ B1.out) ?_
  rintro e w2 ⟨rfl, B2⟩
  have HB2 : Hid _ := below_after B1.out B2
  have x2 : Hid _ := blk_below X1.out B2
  clear p0 p1 p2 p3 B2 B1 X1
  obtain ⟨p0, p1, p2, p3⟩ := cells4 x2.out
  cases vx with
  | false =>
    obtain rfl : v = 1 := by rw [HV.out, check_of, ← HVX.out]; rfl
    go_wp2_with fail
    go_ret
    exact ⟨rfl, HB2.out⟩
  | true =>
    obtain rfl : v = ck := by rw [HV.out, HCK.out, check_of, ← HVX.out]; rfl
    go_wp2_with fail
    refine Calls.mono (CK.out (by first | exact trivial | exact rfl) _ HB2.out) ?_
    rintro e w3 ⟨rfl, B3⟩
    have HB3 : Hid _ := below_after HB2.out B3
    clear B3
    go_wp2_with fail
    go_ret
    exact ⟨rfl, HB3.out⟩
set_option maxRecDepth 100000 in
set_option maxHeartbeats 4000000 in
theorem RComparable_any (x : S24) (T : List S114) (A B : Option Addr) (c d : Nat) (w : World) (hr : Kd.C k24 w A x.f3.length x.f3) (hc : x.f3.length ≤ c) (hw : wid x < 9000000) (hz : siz x < 9000000) (hB : Kd.C k115 w B T.length (T.map toS)) (hd : T.length ≤ d) (hn : T.length < 9000000) (hq : ∀ r ∈ T, r.f0.size < 8000000) :
    Calls Tryz.prog 36 #[formV x.f0 x.f1 x.f2 A x.f3.length c, .slice B T.length d] w fun e w' => e = .returned (.bool (compV T x)) ∧ Below w.heap.size w w' := by
  have hu24 := Tryz.underlying24
  have x1 := (MapKept.heap_alloc w (Obj.cells #[.int .i64 x.f0, .int .i64 x.f1, .string x.f2, .slice A x.f3.length c] 24)).1
  have b1 : Below w.heap.size w (w.alloc (Obj.cells #[.int .i64 x.f0, .int .i64 x.f1, .string x.f2, .slice A x.f3.length c] 24)) := below_alloc (Below.refl _ _) _
  have X1 : Hid _ := x1
  have B1 : Hid _ := b1
  have CH : Hid (∀ W, Below w.heap.size w W → _) := fun W h => RCheck_any x T A B c d W (Kd.C_below hr h) hc hw hz (Kd.C_below hB h) hd hn hq
  have CP : Hid (checkM T x = 0 → ∀ W, Below w.heap.size w W → _) := fun h0 W h => rcomp_any T (siz x) x A B c d W (check_zero h0).1 hn (Kd.C_below hr h) hc hw (check_zero h0).2.2 (Kd.C_below hB h) hd
  clear x1 b1 hr hB hz hw hq
  obtain ⟨v, hv⟩ : ∃ v, v = compV T x := ⟨_, rfl⟩
  rw [← hv]
  have HV : Hid _ := hv
  clear hv
  obtain ⟨vx, hvx⟩ : ∃ q, q = checkM T x := ⟨_, rfl⟩
  rw [← hvx] at CH CP
  have HVX : Hid _ := hvx
  clear hvx
  obtain ⟨ck, hck⟩ : ∃ q, q = compM T (siz x) x := ⟨_, rfl⟩
  rw [← hck] at CP
  have HCK : Hid _ := hck
  clear hck
  obtain ⟨a, m, s, l⟩ := x
  simp only [] at X1 B1 CH CP hc
  go_enter Tryz.func36, Tryz.ntmps36
  go_upto_region 1 with fail
  generalize w.alloc (Obj.cells #[.int .i64 a, .int .i64 m, .string s, .slice A l.length c] 24) = X at *
  obtain ⟨p0, p1, p2, p3⟩ := cells4 X1.out
  go_wp2_with fail
  refine Calls.mono (CH.out _ B1.out) ?_
  rintro e w2 ⟨rfl, B2⟩
  have HB2 : Hid _ := below_after B1.out B2
  have x2 : Hid _ := blk_below X1.out B2
  clear p0 p1 p2 p3 B2 B1 X1
  obtain ⟨p0, p1, p2, p3⟩ := cells4 x2.out
  by_cases h0 : vx = 0
  · subst h0
    obtain rfl : v = ck := by rw [HV.out, HCK.out]; unfold compV; rw [← HVX.out]; rfl
    go_wp2_with fail
    refine Calls.mono (CP.out (by first | exact trivial | exact rfl) _ HB2.out) ?_
    rintro e w3 ⟨rfl, B3⟩
    have HB3 : Hid _ := below_after HB2.out B3
    clear B3
    go_wp2_with fail
    go_ret
    exact ⟨rfl, HB3.out⟩
  · have g1 : (vx == 0) = false := beq_eq_false_iff_ne.mpr h0
    obtain rfl : v = false := by rw [HV.out]; unfold compV; rw [← HVX.out, decide_eq_false h0]; rfl
    clear h0
    go_wp2_with fail
    go_ret
    exact ⟨rfl, HB2.out⟩
/-- What the document's Ready looks at. -/
theorem ready_doc {T : List S114} {x : S24} (h0 : checkM T x = 0) : readyV T x = if (findT T (nameF x)).isSome = true then (decide (kindT T (nameF x) ≠ 3) && (decide (kindT T (nameF x) ≠ 4) && newT T (nameF x))) else !(decide (nameF x = funB)) := by
  obtain ⟨ht, hv, hc⟩ := check_zero h0
  obtain ⟨n, hn⟩ : ∃ n, siz x = n + 1 := ⟨siz x - 1, by have := siz_pos x; omega⟩
  rw [hn] at hc
  obtain ⟨hs, ho, _⟩ := chk_zero hc
  unfold readyV
  rw [decide_eq_true h0, Bool.true_and]
  by_cases hr : resM (nameF x) = true
  · rw [if_pos hr, find_res ht hr, if_neg (by simp)]
  · have hr' : resM (nameF x) = false := by simpa using hr
    rw [if_neg hr]
    obtain ⟨r, hf, _⟩ := out_row ho hr' (by
      cases hm : manyM (nameF x) with
      | none => rfl
      | some q => rw [res_many, hm] at hr'; simp at hr')
    rw [hf]
    simp
theorem name_doc {T : List S114} {x : S24} (h0 : checkM T x = 0) : (x.f0 = 3 ∧ ∃ k r, x.f3 = k :: r ∧ nameF x = k.f2) ∨ (¬ x.f0 = 3 ∧ nameF x = x.f2) := by
  obtain ⟨ht, hv, hc⟩ := check_zero h0
  obtain ⟨n, hn⟩ : ∃ n, siz x = n + 1 := ⟨siz x - 1, by have := siz_pos x; omega⟩
  rw [hn] at hc
  obtain ⟨hs, ho, _⟩ := chk_zero hc
  by_cases h3 : x.f0 = 3
  · refine .inl ⟨h3, ?_⟩
    obtain ⟨_, hsh⟩ := shaped_list hs (by rw [h3]; decide)
    obtain ⟨k, r, e, _, eh⟩ := headL_zero (shape_list hsh).1
    exact ⟨k, r, e, by rw [name_list h3, eh]⟩
  · exact .inr ⟨h3, by simp [nameF, h3]⟩
set_option maxRecDepth 100000 in
set_option maxHeartbeats 4000000 in
theorem RReady_any (x : S24) (T : List S114) (A B : Option Addr) (c d : Nat) (w : World) (hr : Kd.C k24 w A x.f3.length x.f3) (hc : x.f3.length ≤ c) (hw : wid x < 9000000) (hz : siz x < 9000000) (hB : Kd.C k115 w B T.length (T.map toS)) (hd : T.length ≤ d) (hn : T.length < 9000000) (hq : ∀ r ∈ T, r.f0.size < 8000000) :
    Calls Tryz.prog 38 #[formV x.f0 x.f1 x.f2 A x.f3.length c, .slice B T.length d] w fun e w' => e = .returned (.bool (readyV T x)) ∧ Below w.heap.size w w' := by
  have hu24 := Tryz.underlying24
  have x1 := (MapKept.heap_alloc w (Obj.cells #[.int .i64 x.f0, .int .i64 x.f1, .string x.f2, .slice A x.f3.length c] 24)).1
  have b1 : Below w.heap.size w (w.alloc (Obj.cells #[.int .i64 x.f0, .int .i64 x.f1, .string x.f2, .slice A x.f3.length c] 24)) := below_alloc (Below.refl _ _) _
  have X1 : Hid _ := x1
  have B1 : Hid _ := b1
  have hu22 := Tryz.underlying22
  have hu115 := Tryz.underlying115
  have CH : Hid (∀ W, Below w.heap.size w W → _) := fun W h => RCheck_any x T A B c d W (Kd.C_below hr h) hc hw hz (Kd.C_below hB h) hd hn hq
  obtain ⟨h, hh⟩ : ∃ h, h = nameF x := ⟨_, rfl⟩
  have HH : Hid _ := hh
  clear hh
  obtain ⟨q0, q1, q2, q3, q4, q5, e1, e4, e5, hrow⟩ := rrow_any T h B d hn
  have RW : Hid (∀ W, Below w.heap.size w W → _) := fun W hW => hrow W (Kd.C_below hB hW) hd
  have K0 : Hid (∀ k r, x.f3 = k :: r → ∀ W, Below w.heap.size w W → _) := fun k r e W h => first_at (k := k) (l := r) (n := (k :: r).length) (by have h9 := Kd.C_below hr h; rw [e] at h9; exact h9) (by simp)
  clear x1 b1 hr hB hz hw hq hrow
  obtain ⟨v, hv⟩ : ∃ v, v = readyV T x := ⟨_, rfl⟩
  rw [← hv]
  obtain ⟨vx, hvx⟩ : ∃ q, q = checkM T x := ⟨_, rfl⟩
  rw [← hvx] at CH
  have HV0 : Hid (vx ≠ 0 → v = false) := fun h => by rw [hv]; unfold readyV; rw [← hvx, decide_eq_false h]; rfl
  have HV1 : Hid (vx = 0 → v = if q5 = true then (decide (q1 ≠ 3) && (decide (q1 ≠ 4) && q4)) else !(decide (h = funB))) := fun h0 => by rw [hv, ready_doc (by rw [← hvx]; exact h0), ← HH.out, ← e1, ← e4, ← e5]
  have HN : Hid (vx = 0 → (x.f0 = 3 ∧ ∃ k r, x.f3 = k :: r ∧ h = k.f2) ∨ (¬ x.f0 = 3 ∧ h = x.f2)) := fun h0 => by rw [HH.out]; exact name_doc (by rw [← hvx]; exact h0)
  clear hv hvx e1 e4 e5 HH
  obtain ⟨a, m, s, l⟩ := x
  simp only [] at X1 B1 CH hc HN K0
  go_enter Tryz.func38, Tryz.ntmps38
  go_upto_region 1 with fail
  generalize w.alloc (Obj.cells #[.int .i64 a, .int .i64 m, .string s, .slice A l.length c] 24) = X at *
  obtain ⟨p0, p1, p2, p3⟩ := cells4 X1.out
  go_wp2_with fail
  refine Calls.mono (CH.out _ B1.out) ?_
  rintro e w2 ⟨rfl, B2⟩
  have HB2 : Hid _ := below_after B1.out B2
  have x2 : Hid _ := blk_below X1.out B2
  clear p0 p1 p2 p3 B2 B1 X1
  obtain ⟨p0, p1, p2, p3⟩ := cells4 x2.out
  by_cases h0 : vx = 0
  · subst h0
    have E : Hid _ := HV1.out rfl
    have HN2 : Hid _ := HN.out rfl
    clear HV0 HV1 HN
    go_upto_if 16 with fail
    go_cut [5] from 8 to 44 (fun v5 wx => v5 = .string h ∧ wx = w2)
    case first =>
      rcases HN2.out with ⟨h3, k, r, e, eh⟩ | ⟨h3, eh⟩
      · obtain ⟨ad, A3, c3, rfl, g0, g1, g2, _, _, _⟩ := K0.out k r e _ HB2.out
        have t3 : (a == 3) = true := beq_iff_eq.mpr h3
        have l0 : 0 < l.length := by rw [e]; simp
        rw [← eh] at g2
        clear h3 e eh
        go_wp2_with fail
        go_meet
        case rel => exact ⟨rfl, rfl⟩
      · have t3 : (a == 3) = false := beq_eq_false_iff_ne.mpr h3
        have HE : Hid _ := eh
        clear h3 eh
        go_wp2_with fail
        go_meet
        case rel => exact ⟨by rw [HE.out], rfl⟩
    case rest =>
      obtain ⟨rfl, rfl⟩ := hcut
      clear p0 p1 p2 p3
      go_wp2_with fail
      refine Calls.mono (RW.out _ HB2.out) ?_
      rintro e w3 ⟨rfl, B3⟩
      have HB3 : Hid _ := below_after HB2.out B3
      clear B3
      cases q5 with
      | false =>
        by_cases hf : h = funB
        · have tf : (h.toList != [102, 117, 110]) = false := bne_eq_false_iff_eq.mpr (by rw [hf]; simp [ByteArray.toList_eq, funB])
          obtain rfl : v = false := by rw [E.out, hf]; simp
          clear hf
          go_wp2_with fail
          go_ret
          exact ⟨by first | rfl | (simp; simpa using tf) | simp [tf], by have h9 := HB3.out; first | exact h9 | exact below_after h9 (by repeat (first | exact Below.refl _ _ | apply below_alloc | apply pw_below_drewN | apply below_drew1))⟩
        · have tf : (h.toList != [102, 117, 110]) = true := bne_iff_ne.mpr (fun e => hf (bytes_inj (by rw [e]; simp [ByteArray.toList_eq, funB])))
          obtain rfl : v = true := by rw [E.out]; simp [hf]
          clear hf
          go_wp2_with fail
          go_ret
          exact ⟨by first | rfl | (simp; simpa using tf) | simp [tf], by have h9 := HB3.out; first | exact h9 | exact below_after h9 (by repeat (first | exact Below.refl _ _ | apply below_alloc | apply pw_below_drewN | apply below_drew1))⟩
      | true =>
        go_upto_region 9 with fail
        have b7 : Below w3.heap.size w3 (w3.alloc (Obj.cells #[.string q0, .int .i64 q1, .int .i64 q2, .bool q3, .bool q4] 115)) := below_alloc (Below.refl _ _) _
        have y5 := (MapKept.heap_alloc w3 (Obj.cells #[.string q0, .int .i64 q1, .int .i64 q2, .bool q3, .bool q4] 115)).1
        have HB7 : Hid _ := below_after HB3.out b7
        clear b7
        generalize w3.alloc (Obj.cells #[.string q0, .int .i64 q1, .int .i64 q2, .bool q3, .bool q4] 115) = M at *
        generalize w3.heap.size = bR at *
        obtain ⟨y50, y51, y52, y53, y54⟩ := cells5 y5
        clear y5
        by_cases k3 : q1 = 3
        · subst k3
          obtain rfl : v = false := by rw [E.out]; simp
          go_wp2_with fail
          go_ret
          exact ⟨rfl, HB7.out⟩
        · have g3 : (q1 != 3) = true := bne_iff_ne.mpr k3
          by_cases k4 : q1 = 4
          · subst k4
            obtain rfl : v = false := by rw [E.out]; simp
            go_wp2_with fail
            go_ret
            exact ⟨rfl, HB7.out⟩
          · have g4 : (q1 != 4) = true := bne_iff_ne.mpr k4
            obtain rfl : v = q4 := by rw [E.out]; simp [k3, k4]
            clear k3 k4 E
            go_wp2_with fail
            go_ret
            exact ⟨rfl, HB7.out⟩
  · have g1 : (vx != 0) = true := bne_iff_ne.mpr h0
    obtain rfl : v = false := HV0.out h0
    clear h0
    go_wp2_with fail
    go_ret
    exact ⟨rfl, HB2.out⟩

end Go.Proofs.YtcjmplpfebpfpaaGreatDoor

namespace Go.Proofs.YtcjmplpfebpfpaaGreatDoor
open Go.RowKit Go.Proofs Go.Proofs.YtcjmplpfebpfpaaGreatDoorW.PrintWords Go.Proofs.YtcjmplpfebpfpaaGreatDoorW.PrintLast Go.Proofs.YtcjmplpfebpfpaaGreatDoorW.PrintMore PKindInstances
set_option linter.unusedVariables false
set_option linter.unusedSimpArgs false

mutual
theorem wid_siz' : ∀ x : S24, wid x ≤ siz x + 1
  | ⟨a, n, s, l⟩ => by
    have := wids_siz' l
    simp only [wid, siz]
    omega
theorem wids_siz' : ∀ l : List S24, wids l ≤ sizs l + 1
  | [] => by simp [wids]
  | x :: l => by
    have h1 := wid_siz' x
    have h2 := wids_siz' l
    have h3 := sizs_len l
    have h4 := siz_pos x
    simp only [wids, sizs]
    omega
end
set_option maxRecDepth 100000 in
set_option maxHeartbeats 4000000 in
/-- The law: every form, every table. -/
theorem KindChecks_any (x : S24) (T : List S114) (w : World) (A B : Option Addr) (c d : Nat) (hr : Kd.C k24 w A x.f3.length x.f3) (hc : x.f3.length ≤ c) (hz : siz x < 8000000) (hB : Kd.C k114 w B T.length T) (hd : T.length ≤ d) (hn : T.length < 8000000) (hq : ∀ r ∈ T, r.f0.size < 8000000) :
    Calls Tryz.prog 9 #[formV x.f0 x.f1 x.f2 A x.f3.length c, .slice B T.length d] w fun e w' => e = .returned (.bool true) ∧ Below w.heap.size w w' := by
  have hw : wid x < 9000000 := by have := wid_siz' x; omega
  have hu24 := Tryz.underlying24
  have x1 := (MapKept.heap_alloc w (Obj.cells #[.int .i64 x.f0, .int .i64 x.f1, .string x.f2, .slice A x.f3.length c] 24)).1
  have b1 : Below w.heap.size w (w.alloc (Obj.cells #[.int .i64 x.f0, .int .i64 x.f1, .string x.f2, .slice A x.f3.length c] 24)) := below_alloc (Below.refl _ _) _
  have X1 : Hid _ := x1
  have B1 : Hid _ := b1
  have ROWS : Hid (∀ W, Below w.heap.size w W → _) := fun W h => plinthlaw03_rows.calls (T.length + 1) B d T (T.map toS) W (Kd.C_below hB h) hd (rows_ev T (by omega))
  have P1 : Hid (∀ W, Below w.heap.size w W → _) := fun W h => Check_any x T A B c d W (Kd.C_below hr h) hc hw (allC_all x) (Kd.C_below hB h) hd (by omega) hq
  have P2 : Hid (∀ W, Below w.heap.size w W → _) := fun W h => Comparable_any x T A B c d W (Kd.C_below hr h) hc hw (allC_all x) (Kd.C_below hB h) hd (by omega) hq
  have P3 : Hid (∀ W, Below w.heap.size w W → _) := fun W h => Ready_any x T A B c d W (Kd.C_below hr h) hc hw (allC_all x) (Kd.C_below hB h) hd (by omega) hq
  have D1 : Hid (∀ W B2 d2, Below w.heap.size w W → Kd.C k115 W B2 T.length (T.map toS) → T.length ≤ d2 → _) := fun W B2 d2 h h1 h2 => RCheck_any x T A B2 c d2 W (Kd.C_below hr h) hc hw (by omega) h1 h2 (by omega) hq
  have D2 : Hid (∀ W B2 d2, Below w.heap.size w W → Kd.C k115 W B2 T.length (T.map toS) → T.length ≤ d2 → _) := fun W B2 d2 h h1 h2 => RComparable_any x T A B2 c d2 W (Kd.C_below hr h) hc hw (by omega) h1 h2 (by omega) hq
  have D3 : Hid (∀ W B2 d2, Below w.heap.size w W → Kd.C k115 W B2 T.length (T.map toS) → T.length ≤ d2 → _) := fun W B2 d2 h h1 h2 => RReady_any x T A B2 c d2 W (Kd.C_below hr h) hc hw (by omega) h1 h2 (by omega) hq
  clear x1 b1 hr hB hz hw hq
  generalize checkM T x = v1 at *
  generalize compV T x = v2 at *
  generalize readyV T x = v3 at *
  obtain ⟨a, m, s, l⟩ := x
  simp only [] at X1 B1 P1 P2 P3 D1 D2 D3 hc
  go_enter Tryz.func9, Tryz.ntmps9
  go_upto_region 1 with fail
  generalize w.alloc (Obj.cells #[.int .i64 a, .int .i64 m, .string s, .slice A l.length c] 24) = X at *
  obtain ⟨p0, p1, p2, p3⟩ := cells4 X1.out
  go_wp2_with fail
  refine Calls.mono (ROWS.out _ B1.out) ?_
  rintro e w2 ⟨u, rfl, hR, B2⟩
  obtain ⟨B9, d9, rfl, hd9, hC9⟩ := Kd.R_reads hR
  rw [List.length_map] at hd9 hC9 ⊢
  have HD9 : Hid _ := hd9
  have HC9 : Hid _ := hC9
  have HB2 : Hid _ := below_after B1.out B2
  have x2 : Hid _ := blk_below X1.out B2
  clear p0 p1 p2 p3 B2 B1 X1 hR hd9 hC9
  have X2 : Hid (∀ W, Below w2.heap.size w2 W → W.cell? ⟨w.heap.size, 0, none⟩ = some (.int .i64 a) ∧ W.cell? ⟨w.heap.size, 1, none⟩ = some (.int .i64 m) ∧ W.cell? ⟨w.heap.size, 2, none⟩ = some (.string s) ∧ W.cell? ⟨w.heap.size, 3, none⟩ = some (.slice A l.length c)) := fun W h => cells4 (blk_below x2.out h)
  go_upto_region 2 with fail
  refine wp_region_held_drew (S := fun W => W.cell? ⟨w.heap.size, 0, none⟩ = some (.int .i64 a) ∧ W.cell? ⟨w.heap.size, 1, none⟩ = some (.int .i64 m) ∧ W.cell? ⟨w.heap.size, 2, none⟩ = some (.string s) ∧ W.cell? ⟨w.heap.size, 3, none⟩ = some (.slice A l.length c)) (by kernel_rfl) (X2.out _ (below_drew (Below.refl _ _))) (fun hHeld => ?_)
  refine takeV 0 (some 8) (formV a m s A l.length c) rfl rfl (by kernel_rfl) (by kernel_rfl) (by kernel_rfl) (fun _ _ _ h => h) (Or.inl ⟨by kernel_rfl, fun W hSw => by obtain ⟨s0, s1, s2, s3⟩ := hSw; go_simp⟩) hHeld ?_
  try simp only [Act.put, List.setIfInBounds_toArray, List.set_cons_zero, List.set_cons_succ]
  refine takeV 1 (some 9) (.slice B T.length d) rfl rfl (by kernel_rfl) (by kernel_rfl) (by kernel_rfl) (fun _ _ _ h => h) (Or.inl ⟨by kernel_rfl, fun W hSw => by obtain ⟨s0, s1, s2, s3⟩ := hSw; go_simp⟩) hHeld ?_
  try simp only [Act.put, List.setIfInBounds_toArray, List.set_cons_zero, List.set_cons_succ]
  refine takeV 3 (some 11) (formV a m s A l.length c) rfl rfl (by kernel_rfl) (by kernel_rfl) (by kernel_rfl) (fun _ _ _ h => h) (Or.inl ⟨by kernel_rfl, fun W hSw => by obtain ⟨s0, s1, s2, s3⟩ := hSw; go_simp⟩) hHeld ?_
  try simp only [Act.put, List.setIfInBounds_toArray, List.set_cons_zero, List.set_cons_succ]
  refine takeV 4 (some 12) (.slice B9 T.length d9) rfl rfl (by kernel_rfl) (by kernel_rfl) (by kernel_rfl) (fun _ _ _ h => h) (Or.inl ⟨by kernel_rfl, fun W hSw => by obtain ⟨s0, s1, s2, s3⟩ := hSw; go_simp⟩) hHeld ?_
  try simp only [Act.put, List.setIfInBounds_toArray, List.set_cons_zero, List.set_cons_succ]
  generalize hZ' : w2.drew = W0
  have H0 : Hid (Below w2.heap.size w2 W0) := (by subst hZ'; exact below_drew (Below.refl _ _))
  clear hZ'
  refine wpAnyH_ready (rs := [2]) (by kernel_rfl) (by simp) ?_
  refine AllReadyH.cons rfl (fun K hK => ?_) AllReadyH.nil
  clear hHeld
  go_simp
  go_at_call 33
  refine Calls.mono (P1.out _ (below_after HB2.out H0.out)) ?_
  rintro e W1 ⟨rfl, B7⟩
  have H1 : Hid (Below w2.heap.size w2 W1) := below_after H0.out B7
  clear B7
  go_wp2_with fail
  refine hK.out _ _ (X2.out _ H1.out) (fun hHeld => ?_)
  clear hK K
  try simp only [Act.put, List.setIfInBounds_toArray, List.set_cons_zero, List.set_cons_succ]
  refine wpAnyH_ready (rs := [5]) (by kernel_rfl) (by simp) ?_
  refine AllReadyH.cons rfl (fun K hK => ?_) AllReadyH.nil
  clear hHeld
  go_simp
  go_at_call 34
  refine Calls.mono (D1.out _ _ _ (below_after HB2.out H1.out) (Kd.C_below HC9.out H1.out) HD9.out) ?_
  rintro e W2 ⟨rfl, B7⟩
  have H2 : Hid (Below w2.heap.size w2 W2) := below_after H1.out B7
  clear B7
  go_wp2_with fail
  refine hK.out _ _ (X2.out _ H2.out) (fun hHeld => ?_)
  clear hK K
  try simp only [Act.put, List.setIfInBounds_toArray, List.set_cons_zero, List.set_cons_succ]
  refine takeV 6 (some 14) (.bool true) rfl rfl (by kernel_rfl) (by kernel_rfl) (by kernel_rfl) (fun _ _ _ h => h) (Or.inl ⟨by kernel_rfl, fun W hSw => by obtain ⟨s0, s1, s2, s3⟩ := hSw; go_simp⟩) hHeld ?_
  try simp only [Act.put, List.setIfInBounds_toArray, List.set_cons_zero, List.set_cons_succ]
  refine takeV 7 (some 15) (.bool true) rfl rfl (by kernel_rfl) (by kernel_rfl) (by kernel_rfl) (fun _ _ _ h => h) (Or.inl ⟨by kernel_rfl, fun W hSw => by obtain ⟨s0, s1, s2, s3⟩ := hSw; go_simp⟩) hHeld ?_
  try simp only [Act.put, List.setIfInBounds_toArray, List.set_cons_zero, List.set_cons_succ]
  refine takeV 8 (some 16) (formV a m s A l.length c) rfl rfl (by kernel_rfl) (by kernel_rfl) (by kernel_rfl) (fun _ _ _ h => h) (Or.inl ⟨by kernel_rfl, fun W hSw => by obtain ⟨s0, s1, s2, s3⟩ := hSw; go_simp⟩) hHeld ?_
  try simp only [Act.put, List.setIfInBounds_toArray, List.set_cons_zero, List.set_cons_succ]
  refine takeV 9 (some 17) (.slice B T.length d) rfl rfl (by kernel_rfl) (by kernel_rfl) (by kernel_rfl) (fun _ _ _ h => h) (Or.inl ⟨by kernel_rfl, fun W hSw => by obtain ⟨s0, s1, s2, s3⟩ := hSw; go_simp⟩) hHeld ?_
  try simp only [Act.put, List.setIfInBounds_toArray, List.set_cons_zero, List.set_cons_succ]
  refine takeV 11 (some 19) (formV a m s A l.length c) rfl rfl (by kernel_rfl) (by kernel_rfl) (by kernel_rfl) (fun _ _ _ h => h) (Or.inl ⟨by kernel_rfl, fun W hSw => by obtain ⟨s0, s1, s2, s3⟩ := hSw; go_simp⟩) hHeld ?_
  try simp only [Act.put, List.setIfInBounds_toArray, List.set_cons_zero, List.set_cons_succ]
  refine takeV 12 (some 20) (.slice B9 T.length d9) rfl rfl (by kernel_rfl) (by kernel_rfl) (by kernel_rfl) (fun _ _ _ h => h) (Or.inl ⟨by kernel_rfl, fun W hSw => by obtain ⟨s0, s1, s2, s3⟩ := hSw; go_simp⟩) hHeld ?_
  try simp only [Act.put, List.setIfInBounds_toArray, List.set_cons_zero, List.set_cons_succ]
  refine wpAnyH_ready (rs := [10]) (by kernel_rfl) (by simp) ?_
  refine AllReadyH.cons rfl (fun K hK => ?_) AllReadyH.nil
  clear hHeld
  go_simp
  go_at_call 35
  refine Calls.mono (P2.out _ (below_after HB2.out H2.out)) ?_
  rintro e W3 ⟨rfl, B7⟩
  have H3 : Hid (Below w2.heap.size w2 W3) := below_after H2.out B7
  clear B7
  go_wp2_with fail
  refine hK.out _ _ (X2.out _ H3.out) (fun hHeld => ?_)
  clear hK K
  try simp only [Act.put, List.setIfInBounds_toArray, List.set_cons_zero, List.set_cons_succ]
  refine wpAnyH_ready (rs := [13]) (by kernel_rfl) (by simp) ?_
  refine AllReadyH.cons rfl (fun K hK => ?_) AllReadyH.nil
  clear hHeld
  go_simp
  go_at_call 36
  refine Calls.mono (D2.out _ _ _ (below_after HB2.out H3.out) (Kd.C_below HC9.out H3.out) HD9.out) ?_
  rintro e W4 ⟨rfl, B7⟩
  have H4 : Hid (Below w2.heap.size w2 W4) := below_after H3.out B7
  clear B7
  go_wp2_with fail
  refine hK.out _ _ (X2.out _ H4.out) (fun hHeld => ?_)
  clear hK K
  try simp only [Act.put, List.setIfInBounds_toArray, List.set_cons_zero, List.set_cons_succ]
  refine takeV 14 (some 22) (.bool true) rfl rfl (by kernel_rfl) (by kernel_rfl) (by kernel_rfl) (fun _ _ _ h => h) (Or.inl ⟨by kernel_rfl, fun W hSw => by obtain ⟨s0, s1, s2, s3⟩ := hSw; go_simp⟩) hHeld ?_
  try simp only [Act.put, List.setIfInBounds_toArray, List.set_cons_zero, List.set_cons_succ]
  refine takeV 15 (some 23) (.bool true) rfl rfl (by kernel_rfl) (by kernel_rfl) (by kernel_rfl) (fun _ _ _ h => h) (Or.inl ⟨by kernel_rfl, fun W hSw => by obtain ⟨s0, s1, s2, s3⟩ := hSw; go_simp⟩) hHeld ?_
  try simp only [Act.put, List.setIfInBounds_toArray, List.set_cons_zero, List.set_cons_succ]
  refine takeV 16 (some 24) (.bool true) rfl rfl (by kernel_rfl) (by kernel_rfl) (by kernel_rfl) (fun _ _ _ h => h) (Or.inl ⟨by kernel_rfl, fun W hSw => by obtain ⟨s0, s1, s2, s3⟩ := hSw; go_simp⟩) hHeld ?_
  try simp only [Act.put, List.setIfInBounds_toArray, List.set_cons_zero, List.set_cons_succ]
  refine takeV 17 (some 25) (formV a m s A l.length c) rfl rfl (by kernel_rfl) (by kernel_rfl) (by kernel_rfl) (fun _ _ _ h => h) (Or.inl ⟨by kernel_rfl, fun W hSw => by obtain ⟨s0, s1, s2, s3⟩ := hSw; go_simp⟩) hHeld ?_
  try simp only [Act.put, List.setIfInBounds_toArray, List.set_cons_zero, List.set_cons_succ]
  refine takeV 18 (some 26) (.slice B T.length d) rfl rfl (by kernel_rfl) (by kernel_rfl) (by kernel_rfl) (fun _ _ _ h => h) (Or.inl ⟨by kernel_rfl, fun W hSw => by obtain ⟨s0, s1, s2, s3⟩ := hSw; go_simp⟩) hHeld ?_
  try simp only [Act.put, List.setIfInBounds_toArray, List.set_cons_zero, List.set_cons_succ]
  refine takeV 20 (some 28) (formV a m s A l.length c) rfl rfl (by kernel_rfl) (by kernel_rfl) (by kernel_rfl) (fun _ _ _ h => h) (Or.inl ⟨by kernel_rfl, fun W hSw => by obtain ⟨s0, s1, s2, s3⟩ := hSw; go_simp⟩) hHeld ?_
  try simp only [Act.put, List.setIfInBounds_toArray, List.set_cons_zero, List.set_cons_succ]
  refine takeV 21 (some 29) (.slice B9 T.length d9) rfl rfl (by kernel_rfl) (by kernel_rfl) (by kernel_rfl) (fun _ _ _ h => h) (Or.inl ⟨by kernel_rfl, fun W hSw => by obtain ⟨s0, s1, s2, s3⟩ := hSw; go_simp⟩) hHeld ?_
  try simp only [Act.put, List.setIfInBounds_toArray, List.set_cons_zero, List.set_cons_succ]
  refine wpAnyH_ready (rs := [19]) (by kernel_rfl) (by simp) ?_
  refine AllReadyH.cons rfl (fun K hK => ?_) AllReadyH.nil
  clear hHeld
  go_simp
  go_at_call 37
  refine Calls.mono (P3.out _ (below_after HB2.out H4.out)) ?_
  rintro e W5 ⟨rfl, B7⟩
  have H5 : Hid (Below w2.heap.size w2 W5) := below_after H4.out B7
  clear B7
  go_wp2_with fail
  refine hK.out _ _ (X2.out _ H5.out) (fun hHeld => ?_)
  clear hK K
  try simp only [Act.put, List.setIfInBounds_toArray, List.set_cons_zero, List.set_cons_succ]
  refine wpAnyH_ready (rs := [22]) (by kernel_rfl) (by simp) ?_
  refine AllReadyH.cons rfl (fun K hK => ?_) AllReadyH.nil
  clear hHeld
  go_simp
  go_at_call 38
  refine Calls.mono (D3.out _ _ _ (below_after HB2.out H5.out) (Kd.C_below HC9.out H5.out) HD9.out) ?_
  rintro e W6 ⟨rfl, B7⟩
  have H6 : Hid (Below w2.heap.size w2 W6) := below_after H5.out B7
  clear B7
  go_wp2_with fail
  refine hK.out _ _ (X2.out _ H6.out) (fun hHeld => ?_)
  clear hK K
  try simp only [Act.put, List.setIfInBounds_toArray, List.set_cons_zero, List.set_cons_succ]
  refine takeV 23 (some 31) (.bool true) rfl rfl (by kernel_rfl) (by kernel_rfl) (by kernel_rfl) (fun _ _ _ h => h) (Or.inl ⟨by kernel_rfl, fun W hSw => by obtain ⟨s0, s1, s2, s3⟩ := hSw; go_simp⟩) hHeld ?_
  try simp only [Act.put, List.setIfInBounds_toArray, List.set_cons_zero, List.set_cons_succ]
  refine takeV 24 (some 32) (.bool true) rfl rfl (by kernel_rfl) (by kernel_rfl) (by kernel_rfl) (fun _ _ _ h => h) (Or.inl ⟨by kernel_rfl, fun W hSw => by obtain ⟨s0, s1, s2, s3⟩ := hSw; go_simp⟩) hHeld ?_
  try simp only [Act.put, List.setIfInBounds_toArray, List.set_cons_zero, List.set_cons_succ]
  refine takeV 25 (some 33) (.bool true) rfl rfl (by kernel_rfl) (by kernel_rfl) (by kernel_rfl) (fun _ _ _ h => h) (Or.inl ⟨by kernel_rfl, fun W hSw => by obtain ⟨s0, s1, s2, s3⟩ := hSw; go_simp⟩) hHeld ?_
  try simp only [Act.put, List.setIfInBounds_toArray, List.set_cons_zero, List.set_cons_succ]
  refine wpAnyH_ready (rs := [26]) (by kernel_rfl) (by simp) ?_
  refine AllReadyH.cons rfl (fun K hK => ?_) AllReadyH.nil
  clear hHeld
  go_simp
  go_at_call 19
  refine Calls.mono (sane_any _) ?_
  rintro e W7 ⟨rfl, B7⟩
  have H7 : Hid (Below w2.heap.size w2 W7) := below_after H6.out B7
  clear B7
  go_wp2_with fail
  refine hK.out _ _ (X2.out _ H7.out) (fun hHeld => ?_)
  clear hK K
  try simp only [Act.put, List.setIfInBounds_toArray, List.set_cons_zero, List.set_cons_succ]
  refine takeV 27 (some 35) (.bool true) rfl rfl (by kernel_rfl) (by kernel_rfl) (by kernel_rfl) (fun _ _ _ h => h) (Or.inl ⟨by kernel_rfl, fun W hSw => by obtain ⟨s0, s1, s2, s3⟩ := hSw; go_simp⟩) hHeld ?_
  try simp only [Act.put, List.setIfInBounds_toArray, List.set_cons_zero, List.set_cons_succ]
  refine takeV 28 (some 4) (.bool true) rfl rfl (by kernel_rfl) (by kernel_rfl) (by kernel_rfl) (fun _ _ _ h => h) (Or.inl ⟨by kernel_rfl, fun W hSw => by obtain ⟨s0, s1, s2, s3⟩ := hSw; go_simp⟩) hHeld ?_
  try simp only [Act.put, List.setIfInBounds_toArray, List.set_cons_zero, List.set_cons_succ]
  refine wpAnyH_done (by kernel_rfl) ?_ _
  go_wp2_with fail
  go_ret
  exact ⟨rfl, below_after HB2.out H7.out⟩

end Go.Proofs.YtcjmplpfebpfpaaGreatDoor

namespace Go.Proofs.YtcjmplpfebpfpaaGreatDoor
open Go.RowKit Go.Proofs Go.ChangeShapes Go.WideShapes Go.ChangeAt Go.Deep Go.Proofs.YtcjmplpfebpfpaaGreatDoorW.PrintWords Go.Proofs.YtcjmplpfebpfpaaGreatDoorW.PrintLast Go.Proofs.YtcjmplpfebpfpaaGreatDoorW.PrintMore PKindInstances
set_option linter.unusedVariables false
set_option linter.unusedSimpArgs false

theorem cells24' : Tryz.prog.cellsOf 24 = 4 := by kernel_rfl
theorem cells3' : Tryz.prog.cellsOf 3 = 1 := by kernel_rfl
theorem cells9' : Tryz.prog.cellsOf 9 = 1 := by kernel_rfl
theorem cells22' : Tryz.prog.cellsOf 22 = 1 := by kernel_rfl

variable {H : Type} {enc : TypeId × Value → H}

theorem bulk_at {l : List (DataW H)} {d : DataW H} (h : d ∈ l) : Rows.uptoBulk d ≤ Rows.uptoBulkAll l := by
  induction l with
  | nil => cases h
  | cons x r ih =>
    simp only [Rows.uptoBulkAll]
    rcases List.mem_cons.1 h with e | e
    · subst e; omega
    · have := ih e; omega

theorem bulk_sum (r : List Nat) (D : Nat → DataW H) (g : Nat → S24) (h : ∀ i ∈ r, siz (g i) ≤ Rows.uptoBulk (D i)) : sizs (r.map g) ≤ Rows.uptoBulkAll (r.map D) := by
  induction r with
  | nil => simp [sizs, Rows.uptoBulkAll]
  | cons a r ih =>
    have h1 := h a List.mem_cons_self
    have h2 := ih fun i hi => h i (List.mem_cons_of_mem _ hi)
    simp only [List.map_cons, sizs, Rows.uptoBulkAll]
    omega

theorem list4 {α : Type} {l : List α} (h : l.length = 4) : ∃ a b c d, l = [a, b, c, d] := by
  match l, h with
  | [a, b, c, d], _ => exact ⟨a, b, c, d, rfl⟩
/-- What a form reads as. -/
def FormIn (w : World) (cs : List Value) (s : S24) (n : Nat) : Prop :=
  ∃ A c, cs = [.int .i64 s.f0, .int .i64 s.f1, .string s.f2, .slice A s.f3.length c] ∧ s.f3.length ≤ c ∧ Kd.C k24 w A s.f3.length s.f3 ∧ siz s ≤ n ∧ c ≤ maxLen

theorem row_mk {w : World} {a : Addr} {len : Nat} (g : Nat → S24) (cs : Nat → List Value) (hm : len ≤ maxLen) (h : ∀ i, i < len → w.cells? 0 (a.add (i * 4)) 4 = some (cs i) ∧ k24.K w (g i) (cs i)) :
    Kd.C k24 w (some a) len ((List.range len).map g) := by
  refine ⟨by simp, by simp [maxLen] at hm; omega, fun hn => ⟨a, rfl, fun j p hj => ?_⟩⟩
  have hjl : j < len := by
    have := (List.getElem?_eq_some_iff.1 hj).1
    simpa using this
  obtain rfl : g j = p := by simpa [hjl] using hj
  obtain ⟨h1, h2⟩ := h j hjl
  obtain ⟨_, hl, hc⟩ := World.cells?_some h1
  refine ⟨cs j, hl, h2, fun i u hu => ?_⟩
  have hil : i < 4 := by rw [← hl]; exact (List.getElem?_eq_some_iff.1 hu).1
  show w.cell? (a.add (j * 4 + i)) = some u
  rw [← Go.Deep.add_add, hc i hil, hu]

theorem open_form {w : World} (N : Nat) : ∀ {fuel : Nat} {cs : List Value} {x : DataW H × List MemPlace}, DataW.trod enc Tryz.prog w 0 (fun _ => true) true fuel 24 cs = some x → Rows.uptoBulk x.1 = N → ∃ s : S24, FormIn w cs s (Rows.uptoBulk x.1) := by
  induction N using Nat.strongRecOn with
  | _ N ih =>
  intro fuel cs x h hN
  obtain ⟨xs, n, rfl, rfl, hl, hlen, hf⟩ := DataW.trod_struct Tryz.underlying24 h
  rw [cells24'] at hl
  have hlen4 : xs.length = 4 := hlen
  obtain ⟨y0, y1, y2, y3, rfl⟩ := list4 hlen4
  obtain ⟨u0, u1, u2, u3, rfl⟩ := list4 hl
  have h0 := hf 0 _ rfl
  have h1 := hf 1 _ rfl
  have h2 := hf 2 _ rfl
  have h3 := hf 3 _ rfl
  change DataW.trod enc Tryz.prog w 0 (fun _ => true) true n 3 ([u0, u1, u2, u3].take (Tryz.prog.cellsOf 3)) = some y0 at h0
  change DataW.trod enc Tryz.prog w 0 (fun _ => true) true n 3 ([u1, u2, u3].take (Tryz.prog.cellsOf 3)) = some y1 at h1
  change DataW.trod enc Tryz.prog w 0 (fun _ => true) true n 9 ([u2, u3].take (Tryz.prog.cellsOf 9)) = some y2 at h2
  change DataW.trod enc Tryz.prog w 0 (fun _ => true) true n 22 ([u3].take (Tryz.prog.cellsOf 22)) = some y3 at h3
  rw [cells3'] at h0 h1
  rw [cells9'] at h2
  rw [cells22'] at h3
  simp only [List.take_succ_cons, List.take_zero] at h0 h1 h2 h3
  obtain ⟨z0, e0, f0, _⟩ := DataW.trod_int Tryz.underlying3 h0
  obtain ⟨z1, e1, f1, _⟩ := DataW.trod_int Tryz.underlying3 h1
  obtain ⟨z2, e2, f2, _⟩ := DataW.trod_string Tryz.underlying9 h2
  clear h hf hlen hlen4 hl h0 h1 h2
  simp only [List.cons.injEq, and_true] at e0 e1 e2
  subst e0 e1 e2 f0 f1 f2
  rcases open_slice Tryz.underlying22 h3 with ⟨e3, f3⟩ | ⟨a, len, cap, m, n', Dd, Pl, e3, _, hl, hm, hmm, f3, hall⟩
  · simp only [List.cons.injEq, and_true] at e3
    subst e3 f3
    refine ⟨⟨z0, z1, z2, []⟩, none, 0, rfl, Nat.le_refl _, Kd.C_nil _ _, ?_, Nat.zero_le _⟩
    have e : z2.data.toList.length = z2.size := Array.length_toList
    simp [siz, sizs, Rows.uptoBulk, Rows.uptoBulkAll]
    omega
  · simp only [List.cons.injEq, and_true] at e3
    simp only [if_true] at hmm
    subst e3 f3
    simp only [List.map_cons, List.map_nil, Rows.uptoBulk, Rows.uptoBulkAll] at hN
    have hbd : ∀ i, i < len → Rows.uptoBulk (Dd i) ≤ Rows.uptoBulkAll ((List.range len).map Dd) := fun i hi => bulk_at (List.mem_map.2 ⟨i, List.mem_range.2 hi, rfl⟩)
    have each : ∀ i, i < len → ∃ p : S24 × List Value, w.cells? 0 (a.add (i * 4)) 4 = some p.2 ∧ FormIn w p.2 p.1 (Rows.uptoBulk (Dd i)) := by
      intro i hi
      obtain ⟨cs', g1, g2⟩ := hall i (by omega)
      rw [cells24'] at g1
      obtain ⟨s, hs⟩ := ih _ (by have := hbd i hi; show Rows.uptoBulk (Dd i) < N; omega) g2 rfl
      exact ⟨(s, cs'), g1, hs⟩
    haveI : Inhabited (S24 × List Value) := ⟨(z24, [])⟩
    obtain ⟨f, hf⟩ := choose_lt (α := S24 × List Value) each
    have hlist : ((List.range len).map fun i => (f i).1).length = len := by simp
    refine ⟨⟨z0, z1, z2, (List.range len).map fun i => (f i).1⟩, some a, cap, by simp only [hlist], by simp only [hlist]; exact hl, ?_, ?_, hm⟩
    · simp only [hlist]
      exact row_mk (fun i => (f i).1) (fun i => (f i).2) (by omega) fun i hi => by
        obtain ⟨g1, A, c, g2, g3, g4, _⟩ := hf i hi
        exact ⟨g1, by rw [g2]; exact k24_mk w (f i).1 g3 g4⟩
    · have h5 := bulk_sum (List.range len) Dd (fun i => (f i).1) fun i hi => by
        obtain ⟨_, A, c, _, _, _, g5, _⟩ := hf i (List.mem_range.1 hi)
        exact g5
      have e : z2.data.toList.length = z2.size := Array.length_toList
      simp [siz, Rows.uptoBulk, Rows.uptoBulkAll]
      omega

end Go.Proofs.YtcjmplpfebpfpaaGreatDoor

namespace Go.Proofs.YtcjmplpfebpfpaaGreatDoor
open Go.RowKit Go.Proofs Go.ChangeShapes Go.WideShapes Go.ChangeAt Go.Deep Go.Proofs.YtcjmplpfebpfpaaGreatDoorW.PrintWords Go.Proofs.YtcjmplpfebpfpaaGreatDoorW.PrintLast Go.Proofs.YtcjmplpfebpfpaaGreatDoorW.PrintMore PKindInstances
set_option linter.unusedVariables false
set_option linter.unusedSimpArgs false

theorem cells114' : Tryz.prog.cellsOf 114 = 5 := by kernel_rfl
theorem cells4t : Tryz.prog.cellsOf 4 = 1 := by kernel_rfl
variable {H : Type} {enc : TypeId × Value → H}
theorem list5' {α : Type} {l : List α} (h : l.length = 5) : ∃ a b c d e, l = [a, b, c, d, e] := by
  match l, h with
  | [a, b, c, d, e], _ => exact ⟨a, b, c, d, e, rfl⟩
/-- What a row of a table reads as. -/
def RowIn (w : World) (cs : List Value) (p : S114) (n : Nat) : Prop := k114.K w p cs ∧ p.f0.size + 1 ≤ n
theorem open_row {w : World} {fuel : Nat} {cs : List Value} {x : DataW H × List MemPlace} (h : DataW.trod enc Tryz.prog w 0 (fun _ => true) true fuel 114 cs = some x) : ∃ p : S114, RowIn w cs p (Rows.uptoBulk x.1) := by
  obtain ⟨xs, n, rfl, rfl, hl, hlen, hf⟩ := DataW.trod_struct Tryz.underlying114 h
  rw [cells114'] at hl
  have hlen5 : xs.length = 5 := hlen
  obtain ⟨y0, y1, y2, y3, y4, rfl⟩ := list5' hlen5
  obtain ⟨u0, u1, u2, u3, u4, rfl⟩ := list5' hl
  have h0 := hf 0 _ rfl
  have h1 := hf 1 _ rfl
  have h2 := hf 2 _ rfl
  have h3 := hf 3 _ rfl
  have h4 := hf 4 _ rfl
  change DataW.trod enc Tryz.prog w 0 (fun _ => true) true n 9 ([u0, u1, u2, u3, u4].take (Tryz.prog.cellsOf 9)) = some y0 at h0
  change DataW.trod enc Tryz.prog w 0 (fun _ => true) true n 3 ([u1, u2, u3, u4].take (Tryz.prog.cellsOf 3)) = some y1 at h1
  change DataW.trod enc Tryz.prog w 0 (fun _ => true) true n 3 ([u2, u3, u4].take (Tryz.prog.cellsOf 3)) = some y2 at h2
  change DataW.trod enc Tryz.prog w 0 (fun _ => true) true n 4 ([u3, u4].take (Tryz.prog.cellsOf 4)) = some y3 at h3
  change DataW.trod enc Tryz.prog w 0 (fun _ => true) true n 4 ([u4].take (Tryz.prog.cellsOf 4)) = some y4 at h4
  rw [cells9'] at h0
  rw [cells3'] at h1 h2
  rw [cells4t] at h3 h4
  simp only [List.take_succ_cons, List.take_zero] at h0 h1 h2 h3 h4
  obtain ⟨z0, e0, f0, _⟩ := DataW.trod_string Tryz.underlying9 h0
  obtain ⟨z1, e1, f1, _⟩ := DataW.trod_int Tryz.underlying3 h1
  obtain ⟨z2, e2, f2, _⟩ := DataW.trod_int Tryz.underlying3 h2
  obtain ⟨z3, e3, f3⟩ := DataW.trod_bool Tryz.underlying4 h3
  obtain ⟨z4, e4, f4⟩ := DataW.trod_bool Tryz.underlying4 h4
  clear h hf hlen hlen5 hl h0 h1 h2 h3 h4
  simp only [List.cons.injEq, and_true] at e0 e1 e2 e3 e4
  subst e0 e1 e2 e3 e4 f0 f1 f2 f3 f4
  refine ⟨⟨z0, z1, z2, z3, z4⟩, k114_mk w ⟨z0, z1, z2, z3, z4⟩, ?_⟩
  have e : z0.data.toList.length = z0.size := Array.length_toList
  simp only [List.map_cons, List.map_nil, Rows.uptoBulk, Rows.uptoBulkAll]
  omega
theorem rrow_mk {w : World} {a : Addr} {len : Nat} (g : Nat → S114) (cs : Nat → List Value) (hm : len ≤ maxLen) (h : ∀ i, i < len → w.cells? 0 (a.add (i * 5)) 5 = some (cs i) ∧ k114.K w (g i) (cs i)) :
    Kd.C k114 w (some a) len ((List.range len).map g) := by
  refine ⟨by simp, by simp [maxLen] at hm; omega, fun hn => ⟨a, rfl, fun j p hj => ?_⟩⟩
  have hjl : j < len := by
    have := (List.getElem?_eq_some_iff.1 hj).1
    simpa using this
  obtain rfl : g j = p := by simpa [hjl] using hj
  obtain ⟨h1, h2⟩ := h j hjl
  obtain ⟨_, hl, hc⟩ := World.cells?_some h1
  refine ⟨cs j, hl, h2, fun i u hu => ?_⟩
  have hil : i < 5 := by rw [← hl]; exact (List.getElem?_eq_some_iff.1 hu).1
  show w.cell? (a.add (j * 5 + i)) = some u
  rw [← Go.Deep.add_add, hc i hil, hu]
theorem rbulk (D : Nat → DataW H) (g : Nat → S114) : ∀ (r : List Nat), (∀ i ∈ r, (g i).f0.size + 1 ≤ Rows.uptoBulk (D i)) → r.length ≤ Rows.uptoBulkAll (r.map D) ∧ ∀ p ∈ r.map g, p.f0.size ≤ Rows.uptoBulkAll (r.map D)
  | [], _ => ⟨Nat.zero_le _, fun p hp => absurd hp List.not_mem_nil⟩
  | i :: r, h => by
    obtain ⟨h1, h2⟩ := rbulk D g r fun j hj => h j (List.mem_cons_of_mem _ hj)
    have e := h i List.mem_cons_self
    simp only [List.map_cons, Rows.uptoBulkAll, List.length_cons]
    refine ⟨by omega, fun p hp => ?_⟩
    rcases List.mem_cons.1 hp with rfl | hp
    · omega
    · have := h2 p hp; omega
theorem open_rows {w : World} {fuel : Nat} {cs : List Value} {x : DataW H × List MemPlace} (h : DataW.trod enc Tryz.prog w 0 (fun _ => true) true fuel 60 cs = some x) :
    ∃ (l : List S114) (A : Option Addr) (c : Nat), cs = [.slice A l.length c] ∧ l.length ≤ c ∧ Kd.C k114 w A l.length l ∧ l.length ≤ Rows.uptoBulk x.1 ∧ ∀ p ∈ l, p.f0.size ≤ Rows.uptoBulk x.1 := by
  rcases open_slice Tryz.underlying60 h with ⟨e3, f3⟩ | ⟨a, len, cap, m, n', Dd, Pl, e3, _, hl, hm, hmm, f3, hall⟩
  · subst e3 f3
    exact ⟨[], none, 0, rfl, Nat.le_refl _, Kd.C_nil _ _, Nat.zero_le _, fun p hp => absurd hp List.not_mem_nil⟩
  · simp only [if_true] at hmm
    subst e3 f3
    have each : ∀ i, i < len → ∃ p : S114 × List Value, w.cells? 0 (a.add (i * 5)) 5 = some p.2 ∧ RowIn w p.2 p.1 (Rows.uptoBulk (Dd i)) := by
      intro i hi
      obtain ⟨cs', g1, g2⟩ := hall i (by omega)
      rw [cells114'] at g1
      obtain ⟨p, hp⟩ := open_row g2
      exact ⟨(p, cs'), g1, hp⟩
    haveI : Inhabited (S114 × List Value) := ⟨(z114, [])⟩
    obtain ⟨f, hf⟩ := choose_lt (α := S114 × List Value) each
    have hlist : ((List.range len).map fun i => (f i).1).length = len := by simp
    obtain ⟨hb1, hb2⟩ := rbulk Dd (fun i => (f i).1) (List.range len) fun i hi => (hf i (List.mem_range.1 hi)).2.2
    rw [List.length_range] at hb1
    refine ⟨(List.range len).map fun i => (f i).1, some a, cap, by rw [hlist], by rw [hlist]; exact hl, ?_, ?_, ?_⟩
    · rw [hlist]
      exact rrow_mk (fun i => (f i).1) (fun i => (f i).2) (by omega) fun i hi => ⟨(hf i hi).1, (hf i hi).2.1⟩
    · rw [hlist]; simp only [Rows.uptoBulk]; omega
    · intro p hp
      have := hb2 p hp
      simp only [Rows.uptoBulk]
      omega

end Go.Proofs.YtcjmplpfebpfpaaGreatDoor
