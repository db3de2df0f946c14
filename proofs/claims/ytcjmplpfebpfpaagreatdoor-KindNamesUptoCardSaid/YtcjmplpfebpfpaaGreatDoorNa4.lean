/- KindNames: at every form and every text of bulk at most 1048576 the law returns true, and both read afterwards as before; the listed package variables start as the program's text lays them. No other condition. (With it: The examples of the chapter. What a law is handed: a form, a row of forms, a row of texts, laid open. What the document's Has, Reserved, put and Names answer. Ascending rows of texts; the program's Names and the document's are the same. What the document's Variance answers; texts. The law KindNames.) -/
import Derived.Test.YtcjmplpfebpfpaaGreatDoorRows
import Derived.ChangeSame
import Derived.OpenShut
import Derived.Deep.Slices
import Derived.ChangeAt
import Derived.Test.YtcjmplpfebpfpaaGreatDoorPKindNamesx9
import Derived.WideShapes
import Derived.Test.YtcjmplpfebpfpaaGreatDoorPKindNamesx12
import Derived.Test.YtcjmplpfebpfpaaGreatDoorCards
import Derived.Test.YtcjmplpfebpfpaaGreatDoorTie
import Derived.WalkKit
import Derived.ProofKit
import Derived.ChangeOld
import Derived.Below
import Derived.SizedLaws
import Derived.Deep.DeepHandedRow
import Derived.LaidMore
import Derived.Lay
import Derived.SevenTiedAt
import Derived.Test.YtcjmplpfebpfpaaGreatDoorNa3
namespace Go.Proofs.YtcjmplpfebpfpaaGreatDoor
open Go.RowKit Go.Proofs Go.Proofs.YtcjmplpfebpfpaaGreatDoorW.PrintWords Go.Proofs.YtcjmplpfebpfpaaGreatDoorW.PrintLast Go.Proofs.YtcjmplpfebpfpaaGreatDoorW.PrintMore PKindNames
set_option linter.unusedVariables false
set_option linter.unusedSimpArgs false

def wordF (s : ByteArray) : S24 := ⟨1, 0, s, []⟩
def listF (l : List S24) : S24 := ⟨3, 0, ⟨#[]⟩, l⟩

/-- A row of forms out of a block's cells. -/
theorem row_of_cells {w : World} {b : Nat} {t : TypeId} {xs : List S24} {cs : Array Value} (h : w.heap[b]? = some (.cells cs t (0, 0))) (hl : xs.length < 9000000)
    (hK : ∀ (j : Nat) (x : S24), xs[j]? = some x → ∃ A c, x.f3.length ≤ c ∧ Kd.C k24 w A x.f3.length x.f3 ∧ cs[j * 4]? = some (.int .i64 x.f0) ∧ cs[j * 4 + 1]? = some (.int .i64 x.f1) ∧ cs[j * 4 + 2]? = some (.string x.f2) ∧ cs[j * 4 + 3]? = some (.slice A x.f3.length c)) :
    Kd.C k24 w (some ⟨b, 0, none⟩) xs.length xs := by
  refine ⟨rfl, by omega, fun _ => ⟨_, rfl, fun j p hj => ?_⟩⟩
  obtain ⟨A, c, hc, hx, c0, c1, c2, c3⟩ := hK j p hj
  refine ⟨_, rfl, k24_mk w p hc hx, fun i u hu => ?_⟩
  have e : (Addr.mk b 0 none).add (j * k24.sz + i) = ⟨b, j * 4 + i, none⟩ := by
    rw [show k24.sz = 4 from rfl]; simp [Addr.add]; intros; omega
  rw [e]
  match i, hu with
  | 0, hu => obtain rfl := Option.some.inj hu; simpa [World.cell?, h] using c0
  | 1, hu => obtain rfl := Option.some.inj hu; simpa [World.cell?, h] using c1
  | 2, hu => obtain rfl := Option.some.inj hu; simpa [World.cell?, h] using c2
  | 3, hu => obtain rfl := Option.some.inj hu; simpa [World.cell?, h] using c3
  | i + 4, hu => simp at hu

theorem leafC_word {s : ByteArray} (hs : s.size ≤ 30) (hne : (s.toList == []) = false) : LeafC (wordF s) := by
  intro A c w
  refine (leaf_word 0 s A 0 c w hs hne).mono ?_
  rintro e w' ⟨rfl, B⟩
  exact ⟨rfl, B⟩
theorem leafC_list (l : List S24) : LeafC (listF l) := by
  intro A c w
  refine (leaf_list 0 ⟨#[]⟩ A l.length c w).mono ?_
  rintro e w' ⟨rfl, B⟩
  exact ⟨rfl, B⟩

theorem texts_of_cells {w : World} {b : Nat} {t : TypeId} {xs : List ByteArray} {cs : Array Value} (h : w.heap[b]? = some (.cells cs t (0, 0))) (hl : xs.length < 9000000) (hK : ∀ (j : Nat) (x : ByteArray), xs[j]? = some x → cs[j]? = some (.string x)) :
    Kd.C Kd.string w (some ⟨b, 0, none⟩) xs.length xs := by
  refine ⟨rfl, by omega, fun _ => ⟨_, rfl, fun j p hj => ⟨[.string p], rfl, rfl, fun i u hu => ?_⟩⟩⟩
  match i, hu with
  | 0, hu =>
    obtain rfl := Option.some.inj hu
    have e : (Addr.mk b 0 none).add (j * Kd.string.sz + 0) = ⟨b, j, none⟩ := by
      rw [show Kd.string.sz = 1 from rfl]; simp [Addr.add]; intros; omega
    rw [e]
    simpa [World.cell?, h] using hK j p hj
  | i + 1, hu => simp at hu

/-- Unify where the forms do not go together. -/
theorem unify_stop (x y : S24) (vars : List ByteArray) (A B AN : Option Addr) (c d cn : Nat) (w : World) (n : Nat) (r : Int) (hx : Kd.C k24 w A x.f3.length x.f3) (hc : x.f3.length ≤ c) (hy : Kd.C k24 w B y.f3.length y.f3) (hd : y.f3.length ≤ d)
    (hv : Kd.C Kd.string w AN vars.length vars) (hcn : vars.length ≤ cn) (hn : vars.length < 9000000) (hq : ∀ v ∈ vars, LeafC ⟨1, 0, v, []⟩ ∧ v.size < 8000000) (hax : allC x) (hwx : wid x < 9000000) (hay : allC y) (hwy : wid y < 9000000)
    (hgood : (namesM [] vars && rowsM [[x], [y]]) = true) (hR : allM vars n [] [x] [y] = some (.stop r)) :
    Calls Tryz.prog 22 #[formV x.f0 x.f1 x.f2 A x.f3.length c, formV y.f0 y.f1 y.f2 B y.f3.length d, .slice AN vars.length cn] w fun e w' => e = .returned (.tuple #[.slice none 0 0, .int .i64 r]) ∧ Below w.heap.size w w' := by
  have h := Unify_of x y A B c d (.slice AN vars.length cn) w (fun v E _ => v = .slice none 0 0 ∧ E = r) hx hc hy hd (fun W p q hW hp hq' => by
    refine (UnifyAll_good [x] [y] vars (some ⟨p, 0, none⟩) (some ⟨q, 0, none⟩) AN 1 1 cn W (Kd.C_below hv hW) hcn hp (Nat.le_refl _) hq' (Nat.le_refl _) hn hq ⟨by simp, by simp; exact ⟨hax, hwx⟩⟩ ⟨by simp, by simp; exact ⟨hay, hwy⟩⟩ hgood n _ hR (fun _ _ _ => True) (fun _ _ _ _ _ _ => trivial) (fun mt h => by cases h)).mono ?_
    rintro e w' ⟨rfl, hb⟩
    exact ⟨none, 0, 0, r, rfl, ⟨rfl, rfl⟩, hb⟩)
  refine h.mono ?_
  rintro e w' ⟨A1, n1, c1, E1, rfl, ⟨h1, rfl⟩, hb⟩
  cases h1
  exact ⟨rfl, hb⟩

def wSeq : ByteArray := ⟨#[115, 101, 113]⟩
def wA : ByteArray := ⟨#[97]⟩
def wB : ByteArray := ⟨#[98]⟩
def wMap : ByteArray := ⟨#[109, 97, 112]⟩
def wInt : ByteArray := ⟨#[105, 110, 116]⟩
theorem leaf_w {s : ByteArray} (h : s = wSeq ∨ s = wA ∨ s = wB ∨ s = wMap ∨ s = wInt) : LeafC (wordF s) := by
  rcases h with rfl | rfl | rfl | rfl | rfl <;> exact leafC_word (by decide) (by kernel_rfl)

theorem words_row {w : World} {b : Nat} {t : TypeId} {x y : ByteArray} (h : w.heap[b]? = some (.cells #[.int .i64 1, .int .i64 0, .string x, .slice none 0 0, .int .i64 1, .int .i64 0, .string y, .slice none 0 0] t (0, 0))) :
    Kd.C k24 w (some ⟨b, 0, none⟩) [wordF x, wordF y].length [wordF x, wordF y] := by
  refine row_of_cells h (by simp) fun j p hj => ?_
  match j, hj with
  | 0, hj => obtain rfl := Option.some.inj hj; exact ⟨none, 0, Nat.le_refl _, Kd.C_nil _ _, rfl, rfl, rfl, rfl⟩
  | 1, hj => obtain rfl := Option.some.inj hj; exact ⟨none, 0, Nat.le_refl _, Kd.C_nil _ _, rfl, rfl, rfl, rfl⟩
  | j + 2, hj => simp at hj

def exX : S24 := listF [wordF wSeq, wordF wA]
def exM : S24 := listF [wordF wMap, wordF wA, listF [wordF wSeq, wordF wB]]
def exN : S24 := listF [wordF wMap, wordF wInt, wordF wA]
theorem ex1 (A AN : Option Addr) (w : World) (hx : Kd.C k24 w A 2 [wordF wSeq, wordF wA]) (hv : Kd.C Kd.string w AN 1 [wA]) :
    Calls Tryz.prog 22 #[formV 3 0 ⟨#[]⟩ A 2 2, formV 1 0 wA none 0 0, .slice AN 1 1] w fun e w' => e = .returned (.tuple #[.slice none 0 0, .int .i64 11]) ∧ Below w.heap.size w w' :=
  unify_stop exX (wordF wA) [wA] A none AN 2 0 1 w 10 11 hx (Nat.le_refl _) (Kd.C_nil _ _) (Nat.le_refl _) hv (Nat.le_refl _) (by simp) (by simp; exact ⟨leaf_w (.inr (.inl rfl)), by decide⟩)
    ⟨leafC_list _, ⟨leaf_w (.inl rfl), trivial⟩, ⟨leaf_w (.inr (.inl rfl)), trivial⟩, trivial⟩ (by decide) ⟨leaf_w (.inr (.inl rfl)), trivial⟩ (by decide) (by kernel_rfl) (by kernel_rfl)
theorem ex2 (A B AN : Option Addr) (w : World) (hx : Kd.C k24 w A 3 [wordF wMap, wordF wA, listF [wordF wSeq, wordF wB]]) (hy : Kd.C k24 w B 3 [wordF wMap, wordF wInt, wordF wA]) (hv : Kd.C Kd.string w AN 2 [wA, wB]) :
    Calls Tryz.prog 22 #[formV 3 0 ⟨#[]⟩ A 3 3, formV 3 0 ⟨#[]⟩ B 3 3, .slice AN 2 2] w fun e w' => e = .returned (.tuple #[.slice none 0 0, .int .i64 8]) ∧ Below w.heap.size w w' :=
  unify_stop exM exN [wA, wB] A B AN 3 3 2 w 10 8 hx (Nat.le_refl _) hy (Nat.le_refl _) hv (Nat.le_refl _) (by simp) (by simp; exact ⟨⟨leaf_w (.inr (.inl rfl)), by decide⟩, leaf_w (.inr (.inr (.inl rfl))), by decide⟩)
    ⟨leafC_list _, ⟨leaf_w (.inr (.inr (.inr (.inl rfl)))), trivial⟩, ⟨leaf_w (.inr (.inl rfl)), trivial⟩, ⟨leafC_list _, ⟨leaf_w (.inl rfl), trivial⟩, ⟨leaf_w (.inr (.inr (.inl rfl))), trivial⟩, trivial⟩, trivial⟩ (by decide)
    ⟨leafC_list _, ⟨leaf_w (.inr (.inr (.inr (.inl rfl)))), trivial⟩, ⟨leaf_w (.inr (.inr (.inr (.inr rfl)))), trivial⟩, ⟨leaf_w (.inr (.inl rfl)), trivial⟩, trivial⟩ (by decide) (by kernel_rfl) (by kernel_rfl)

set_option maxRecDepth 100000 in
set_option maxHeartbeats 4000000 in
theorem sane_any (w : World) : Calls Tryz.prog 19 #[] w fun e w' => e = .returned (.bool true) ∧ Below w.heap.size w w' := by
  have hu24 := Tryz.underlying24
  go_enter Tryz.func19, Tryz.ntmps19
  go_wp2_with fail
  refine (word_any _ _).mono ?_
  rintro e w1 ⟨rfl, B1⟩
  go_wp2_with fail
  refine (word_any _ _).mono ?_
  rintro e w2 ⟨rfl, B2⟩
  go_wp2_with fail
  refine (list_any _ _ _ _).mono ?_
  rintro e w3 ⟨rfl, B3⟩
  go_wp2_with fail
  have X3 := box_heap B3
  have B4 : Below w.heap.size w (w3.alloc (.cells #[.int .i64 3, .int .i64 0, .string ⟨#[]⟩, .slice (some ⟨w2.heap.size, 0, none⟩) 2 2] 24)) := below_alloc (below_after (below_alloc (below_after B1 B2) _) B3) _
  have X4 := (MapKept.heap_alloc w3 (.cells #[.int .i64 3, .int .i64 0, .string ⟨#[]⟩, .slice (some ⟨w2.heap.size, 0, none⟩) 2 2] 24)).1
  have X5 : (w3.alloc (.cells #[.int .i64 3, .int .i64 0, .string ⟨#[]⟩, .slice (some ⟨w2.heap.size, 0, none⟩) 2 2] 24)).heap[w2.heap.size]? = some (.cells #[.int .i64 1, .int .i64 0, .string wSeq, .slice none 0 0, .int .i64 1, .int .i64 0, .string wA, .slice none 0 0] 24 (0, 0)) := (Below.heap_alloc _ _ _ (Array.getElem?_eq_some_iff.1 X3).1).trans X3
  generalize hX : w3.alloc (.cells #[.int .i64 3, .int .i64 0, .string ⟨#[]⟩, .slice (some ⟨w2.heap.size, 0, none⟩) 2 2] 24) = X at *
  generalize w3.heap.size = b3 at *
  generalize w2.heap.size = b2 at *
  clear hX X3 B1 B2 B3
  have R5 : Kd.C k24 X (some ⟨b2, 0, none⟩) 2 [wordF wSeq, wordF wA] := words_row X5
  obtain ⟨p0, p1, p2, p3⟩ := cells4 X4
  have HS : Hid (∀ W, Below X.heap.size X W → W.cell? ⟨b3, 0, none⟩ = some (.int .i64 3) ∧ W.cell? ⟨b3, 1, none⟩ = some (.int .i64 0) ∧ W.cell? ⟨b3, 2, none⟩ = some (.string ⟨#[]⟩) ∧ W.cell? ⟨b3, 3, none⟩ = some (.slice (some ⟨b2, 0, none⟩) 2 2)) := fun W h => ⟨pw_cell_below h p0, pw_cell_below h p1, pw_cell_below h p2, pw_cell_below h p3⟩
  have HB : Hid _ := B4
  have HR : Hid _ := R5
  clear p0 p1 p2 p3 X4 X5 B4 R5
  go_cut [2, 3] from 12 to 18 (fun x2 x3 wx => x3 = .int .i64 11 ∧ Below X.heap.size X wx)
  case first =>
    refine wp_region_held_drew (S := fun W => W.cell? ⟨b3, 0, none⟩ = some (.int .i64 3) ∧ W.cell? ⟨b3, 1, none⟩ = some (.int .i64 0) ∧ W.cell? ⟨b3, 2, none⟩ = some (.string ⟨#[]⟩) ∧ W.cell? ⟨b3, 3, none⟩ = some (.slice (some ⟨b2, 0, none⟩) 2 2)) (by kernel_rfl) (HS.out _ (below_drew (Below.refl _ _))) (fun hHeld => ?_)
    refine takeV 0 (some 13) (formV 3 0 ⟨#[]⟩ (some ⟨b2, 0, none⟩) 2 2) rfl rfl (by kernel_rfl) (by kernel_rfl) (by kernel_rfl) (fun _ _ _ h => h) (Or.inl ⟨by kernel_rfl, fun W hSw => by obtain ⟨s0, s1, s2, s3⟩ := hSw; go_simp⟩) hHeld ?_
    try simp only [Act.put, List.setIfInBounds_toArray, List.set_cons_zero, List.set_cons_succ]
    refine wpAnyH_ready (rs := [1, 2]) (by kernel_rfl) (by simp) ?_
    refine AllReadyH.cons rfl (fun K hK => ?_) (AllReadyH.cons rfl (fun K hK => ?_) AllReadyH.nil)
    · clear hHeld
      go_simp
      go_at_call 52
      refine (word_any _ _).mono ?_
      rintro e w4 ⟨rfl, B4⟩
      have B5 := below_after (below_drew (Below.refl _ _)) B4
      have HS5 := HS.out _ B5
      clear B4
      go_wp2_with fail
      refine hK.out _ _ HS5 (fun hHeld => ?_)
      clear hK K HS5
      try simp only [Act.put, List.setIfInBounds_toArray, List.set_cons_zero, List.set_cons_succ]
      refine wpAnyH_ready (rs := [2]) (by kernel_rfl) (by simp) ?_
      refine AllReadyH.cons rfl (fun K hK => ?_) AllReadyH.nil
      go_simp
      have X6 := (MapKept.heap_alloc w4 (.cells #[.string wA] 9)).1
      have B6 := below_alloc B5 (.cells #[.string wA] 9)
      refine hK.out _ _ (HS.out _ B6) (fun hHeld => ?_)
      clear hK K B5
      have UU : Hid _ := ex1 (some ⟨b2, 0, none⟩) (some ⟨w4.heap.size, 0, none⟩) (w4.alloc (.cells #[.string wA] 9)) (Kd.C_below HR.out B6) (texts_of_cells (xs := [wA]) X6 (by simp) (fun j x hj => by cases j with | zero => obtain rfl := Option.some.inj hj; rfl | succ j => simp at hj))
      have BX : Hid _ := B6
      clear X6 B6
      try simp only [Act.put, List.setIfInBounds_toArray, List.set_cons_zero, List.set_cons_succ]
      refine wpAnyH_ready (rs := [3]) (by kernel_rfl) (by simp) ?_
      refine AllReadyH.cons rfl (fun K hK => ?_) AllReadyH.nil
      go_simp
      go_at_call 22
      refine Calls.mono UU.out ?_
      rintro e w6 ⟨rfl, B6'⟩
      have B6 : Hid _ := below_after BX.out B6'
      have HS6 := HS.out _ B6.out
      clear B6'
      go_wp2_with fail
      refine hK.out _ _ HS6 (fun hHeld => ?_)
      clear hK K
      try simp only [Act.put, List.setIfInBounds_toArray, List.set_cons_zero, List.set_cons_succ]
      refine takeV 4 (some 12) (.tuple #[.slice none 0 0, .int .i64 11]) rfl rfl (by kernel_rfl) (by kernel_rfl) (by kernel_rfl) (fun _ _ _ h => h) (Or.inl ⟨by kernel_rfl, fun W hSw => by go_simp⟩) hHeld ?_
      try simp only [Act.put, List.setIfInBounds_toArray, List.set_cons_zero, List.set_cons_succ]
      refine takeV 5 (some 17) (.slice none 0 0) rfl rfl (by kernel_rfl) (by kernel_rfl) (by kernel_rfl) (fun _ _ _ h => h) (Or.inl ⟨by kernel_rfl, fun W hSw => by go_simp⟩) hHeld ?_
      try simp only [Act.put, List.setIfInBounds_toArray, List.set_cons_zero, List.set_cons_succ]
      refine takeV 6 (some 18) (.int .i64 11) rfl rfl (by kernel_rfl) (by kernel_rfl) (by kernel_rfl) (fun _ _ _ h => h) (Or.inl ⟨by kernel_rfl, fun W hSw => by go_simp⟩) hHeld ?_
      try simp only [Act.put, List.setIfInBounds_toArray, List.set_cons_zero, List.set_cons_succ]
      refine takeV 7 (some 2) (.slice none 0 0) rfl rfl (by kernel_rfl) (by kernel_rfl) (by kernel_rfl) (fun _ _ _ h => h) (Or.inl ⟨by kernel_rfl, fun W hSw => by go_simp⟩) hHeld ?_
      try simp only [Act.put, List.setIfInBounds_toArray, List.set_cons_zero, List.set_cons_succ]
      refine takeV 8 (some 3) (.int .i64 11) rfl rfl (by kernel_rfl) (by kernel_rfl) (by kernel_rfl) (fun _ _ _ h => h) (Or.inl ⟨by kernel_rfl, fun W hSw => by go_simp⟩) hHeld ?_
      try simp only [Act.put, List.setIfInBounds_toArray, List.set_cons_zero, List.set_cons_succ]
      clear hHeld HS6 UU BX HS
      refine wpAnyH_done (by kernel_rfl) ?_ _
      go_wp2_with fail
      go_meet
      case rel => exact ⟨rfl, B6.out⟩
    · clear hHeld
      go_simp
      have X6 := (MapKept.heap_alloc X.drew (.cells #[.string wA] 9)).1
      have B6 := below_alloc (below_drew (Below.refl X.heap.size X)) (.cells #[.string wA] 9)
      refine hK.out _ _ (HS.out _ B6) (fun hHeld => ?_)
      clear hK K hHeld
      try simp only [Act.put, List.setIfInBounds_toArray, List.set_cons_zero, List.set_cons_succ]
      refine wpAnyH_ready (rs := [1]) (by kernel_rfl) (by simp) ?_
      refine AllReadyH.cons rfl (fun K hK => ?_) AllReadyH.nil
      go_simp
      go_at_call 52
      refine (word_any _ _).mono ?_
      rintro e w4 ⟨rfl, B4⟩
      have B7 := below_after B6 B4
      have X7 := (B4.block _ (Array.getElem?_eq_some_iff.1 X6).1).trans X6
      have HS5 := HS.out _ B7
      clear B4
      go_wp2_with fail
      refine hK.out _ _ HS5 (fun hHeld => ?_)
      clear hK K HS5 B6 X6
      try simp only [Act.put, List.setIfInBounds_toArray, List.set_cons_zero, List.set_cons_succ]
      have UU : Hid _ := ex1 (some ⟨b2, 0, none⟩) (some ⟨X.heap.size, 0, none⟩) w4 (Kd.C_below HR.out B7) (texts_of_cells (xs := [wA]) X7 (by simp) (fun j x hj => by cases j with | zero => obtain rfl := Option.some.inj hj; rfl | succ j => simp at hj))
      have BX : Hid _ := B7
      clear X7 B7
      refine wpAnyH_ready (rs := [3]) (by kernel_rfl) (by simp) ?_
      refine AllReadyH.cons rfl (fun K hK => ?_) AllReadyH.nil
      go_simp
      go_at_call 22
      refine Calls.mono UU.out ?_
      rintro e w6 ⟨rfl, B6'⟩
      have B6 : Hid _ := below_after BX.out B6'
      have HS6 := HS.out _ B6.out
      clear B6'
      go_wp2_with fail
      refine hK.out _ _ HS6 (fun hHeld => ?_)
      clear hK K
      try simp only [Act.put, List.setIfInBounds_toArray, List.set_cons_zero, List.set_cons_succ]
      refine takeV 4 (some 12) (.tuple #[.slice none 0 0, .int .i64 11]) rfl rfl (by kernel_rfl) (by kernel_rfl) (by kernel_rfl) (fun _ _ _ h => h) (Or.inl ⟨by kernel_rfl, fun W hSw => by go_simp⟩) hHeld ?_
      try simp only [Act.put, List.setIfInBounds_toArray, List.set_cons_zero, List.set_cons_succ]
      refine takeV 5 (some 17) (.slice none 0 0) rfl rfl (by kernel_rfl) (by kernel_rfl) (by kernel_rfl) (fun _ _ _ h => h) (Or.inl ⟨by kernel_rfl, fun W hSw => by go_simp⟩) hHeld ?_
      try simp only [Act.put, List.setIfInBounds_toArray, List.set_cons_zero, List.set_cons_succ]
      refine takeV 6 (some 18) (.int .i64 11) rfl rfl (by kernel_rfl) (by kernel_rfl) (by kernel_rfl) (fun _ _ _ h => h) (Or.inl ⟨by kernel_rfl, fun W hSw => by go_simp⟩) hHeld ?_
      try simp only [Act.put, List.setIfInBounds_toArray, List.set_cons_zero, List.set_cons_succ]
      refine takeV 7 (some 2) (.slice none 0 0) rfl rfl (by kernel_rfl) (by kernel_rfl) (by kernel_rfl) (fun _ _ _ h => h) (Or.inl ⟨by kernel_rfl, fun W hSw => by go_simp⟩) hHeld ?_
      try simp only [Act.put, List.setIfInBounds_toArray, List.set_cons_zero, List.set_cons_succ]
      refine takeV 8 (some 3) (.int .i64 11) rfl rfl (by kernel_rfl) (by kernel_rfl) (by kernel_rfl) (fun _ _ _ h => h) (Or.inl ⟨by kernel_rfl, fun W hSw => by go_simp⟩) hHeld ?_
      try simp only [Act.put, List.setIfInBounds_toArray, List.set_cons_zero, List.set_cons_succ]
      clear hHeld HS6 UU BX HS
      refine wpAnyH_done (by kernel_rfl) ?_ _
      go_wp2_with fail
      go_meet
      case rel => exact ⟨rfl, B6.out⟩
  case rest =>
    obtain ⟨rfl, BX⟩ := hcut
    have B8 : Hid _ := below_after HB.out BX
    clear BX HS HR HB
    go_wp2_with fail
    refine (word_any _ _).mono ?_
    rintro e y1 ⟨rfl, B1⟩
    go_wp2_with fail
    refine (word_any _ _).mono ?_
    rintro e y2 ⟨rfl, B2⟩
    go_wp2_with fail
    refine (word_any _ _).mono ?_
    rintro e y3 ⟨rfl, B3⟩
    go_wp2_with fail
    refine (word_any _ _).mono ?_
    rintro e y4 ⟨rfl, B4⟩
    go_wp2_with fail
    refine (list_any _ _ _ _).mono ?_
    rintro e y5 ⟨rfl, B5⟩
    have B6 : Below w.heap.size w y4 := below_after B8.out (below_after B1 (below_after B2 (below_after B3 B4)))
    have X5 := box_heap B5
    have B7 : Below w.heap.size w y5 := below_after (below_alloc B6 _) B5
    generalize y4.heap.size = b4 at *
    clear B1 B2 B3 B4 B5 B6 B8
    go_wp2_with fail
    refine (list_any _ _ _ _).mono ?_
    rintro e y6 ⟨rfl, B6⟩
    have X6 := box_heap B6
    have X7 := (below_after (below_alloc (Below.refl y5.heap.size y5) _) B6).block _ (Array.getElem?_eq_some_iff.1 X5).1 |>.trans X5
    have B8 : Below w.heap.size w y6 := below_after (below_alloc B7 _) B6
    generalize y5.heap.size = b5 at *
    clear B6 B7 X5
    have H6 : Hid _ := X6
    have H7 : Hid _ := X7
    clear X6 X7
    go_wp2_with fail
    have R1 : Kd.C k24 y6 (some ⟨b4, 0, none⟩) 2 [wordF wSeq, wordF wB] := words_row H7.out
    have R2 : Hid (Kd.C k24 y6 (some ⟨b5, 0, none⟩) 3 [wordF wMap, wordF wA, listF [wordF wSeq, wordF wB]]) := row_of_cells (xs := [wordF wMap, wordF wA, listF [wordF wSeq, wordF wB]]) H6.out (by simp) (fun j p hj => by
      match j, hj with
      | 0, hj => obtain rfl := Option.some.inj hj; exact ⟨none, 0, Nat.le_refl _, Kd.C_nil _ _, rfl, rfl, rfl, rfl⟩
      | 1, hj => obtain rfl := Option.some.inj hj; exact ⟨none, 0, Nat.le_refl _, Kd.C_nil _ _, rfl, rfl, rfl, rfl⟩
      | 2, hj => obtain rfl := Option.some.inj hj; exact ⟨some ⟨b4, 0, none⟩, 2, Nat.le_refl _, R1, rfl, rfl, rfl, rfl⟩
      | j + 3, hj => simp at hj)
    clear R1 H6 H7
    have B9 : Hid _ := below_alloc B8 (.cells #[.int .i64 3, .int .i64 0, .string ⟨#[]⟩, .slice (some ⟨b5, 0, none⟩) 3 3] 24)
    have R3 : Hid _ := Kd.C_below R2.out (below_alloc (Below.refl y6.heap.size y6) (.cells #[.int .i64 3, .int .i64 0, .string ⟨#[]⟩, .slice (some ⟨b5, 0, none⟩) 3 3] 24))
    have X8 : Hid _ := (MapKept.heap_alloc y6 (.cells #[.int .i64 3, .int .i64 0, .string ⟨#[]⟩, .slice (some ⟨b5, 0, none⟩) 3 3] 24)).1
    generalize y6.alloc (.cells #[.int .i64 3, .int .i64 0, .string ⟨#[]⟩, .slice (some ⟨b5, 0, none⟩) 3 3] 24) = Y at *
    generalize y6.heap.size = b6 at *
    clear B8 R2
    refine (word_any _ _).mono ?_
    rintro e z1 ⟨rfl, B1⟩
    go_wp2_with fail
    refine (word_any _ _).mono ?_
    rintro e z2 ⟨rfl, B2⟩
    go_wp2_with fail
    refine (word_any _ _).mono ?_
    rintro e z3 ⟨rfl, B3⟩
    have B4 := below_after B1 (below_after B2 B3)
    clear B1 B2 B3
    go_wp2_with fail
    refine (list_any _ _ _ _).mono ?_
    rintro e z4 ⟨rfl, B5⟩
    have Z5 := box_heap B5
    have B6 := below_after (below_alloc B4 _) B5
    generalize z3.heap.size = b7 at *
    clear B4 B5
    have R5 : Hid (Kd.C k24 z4 (some ⟨b7, 0, none⟩) 3 [wordF wMap, wordF wInt, wordF wA]) := row_of_cells (xs := [wordF wMap, wordF wInt, wordF wA]) Z5 (by simp) (fun j p hj => by
      match j, hj with
      | 0, hj => obtain rfl := Option.some.inj hj; exact ⟨none, 0, Nat.le_refl _, Kd.C_nil _ _, rfl, rfl, rfl, rfl⟩
      | 1, hj => obtain rfl := Option.some.inj hj; exact ⟨none, 0, Nat.le_refl _, Kd.C_nil _ _, rfl, rfl, rfl, rfl⟩
      | 2, hj => obtain rfl := Option.some.inj hj; exact ⟨none, 0, Nat.le_refl _, Kd.C_nil _ _, rfl, rfl, rfl, rfl⟩
      | j + 3, hj => simp at hj)
    obtain ⟨q0, q1, q2, q3⟩ := cells4 X8.out
    have BB : Hid _ := B6
    replace q0 := pw_cell_below (below_alloc B6 (.cells #[.int .i64 3, .int .i64 0, .string ⟨#[]⟩, .slice (some ⟨b7, 0, none⟩) 3 3] 24)) q0
    replace q1 := pw_cell_below (below_alloc B6 (.cells #[.int .i64 3, .int .i64 0, .string ⟨#[]⟩, .slice (some ⟨b7, 0, none⟩) 3 3] 24)) q1
    replace q2 := pw_cell_below (below_alloc B6 (.cells #[.int .i64 3, .int .i64 0, .string ⟨#[]⟩, .slice (some ⟨b7, 0, none⟩) 3 3] 24)) q2
    replace q3 := pw_cell_below (below_alloc B6 (.cells #[.int .i64 3, .int .i64 0, .string ⟨#[]⟩, .slice (some ⟨b7, 0, none⟩) 3 3] 24)) q3
    clear Z5 B6
    have s1 := size_new z4 (.cells #[.int .i64 3, .int .i64 0, .string ⟨#[]⟩, .slice (some ⟨b7, 0, none⟩) 3 3] 24)
    have V1 := (MapKept.heap_alloc (z4.alloc (.cells #[.int .i64 3, .int .i64 0, .string ⟨#[]⟩, .slice (some ⟨b7, 0, none⟩) 3 3] 24)) (.cells #[.string wA, .string wB] 9)).1
    rw [s1] at V1
    have BZ : Below z4.heap.size z4 ((z4.alloc (.cells #[.int .i64 3, .int .i64 0, .string ⟨#[]⟩, .slice (some ⟨b7, 0, none⟩) 3 3] 24)).alloc (.cells #[.string wA, .string wB] 9)) := below_alloc (below_alloc (Below.refl _ _) _) _
    have UU : Hid _ := ex2 (some ⟨b5, 0, none⟩) (some ⟨b7, 0, none⟩) (some ⟨z4.heap.size + 1, 0, none⟩) _ (Kd.C_below R3.out (below_after BB.out BZ)) (Kd.C_below R5.out BZ) (texts_of_cells (xs := [wA, wB]) V1 (by simp) (fun j x hj => by
      match j, hj with
      | 0, hj => obtain rfl := Option.some.inj hj; rfl
      | 1, hj => obtain rfl := Option.some.inj hj; rfl
      | j + 2, hj => simp at hj))
    have BF : Hid _ := below_after B9.out (below_after BB.out BZ)
    clear s1 V1 BZ R3 R5
    go_wp2_with fail
    refine Calls.mono UU.out ?_
    rintro e z9 ⟨rfl, BL⟩
    have BG : Hid _ := below_after BF.out BL
    clear BL
    go_wp2_with fail
    go_ret
    exact ⟨rfl, BG.out⟩
end Go.Proofs.YtcjmplpfebpfpaaGreatDoor
namespace Go.Proofs.YtcjmplpfebpfpaaGreatDoor
open Go.RowKit Go.Proofs Go.ChangeShapes Go.WideShapes Go.ChangeAt Go.Deep Go.Proofs.YtcjmplpfebpfpaaGreatDoorW.PrintWords Go.Proofs.YtcjmplpfebpfpaaGreatDoorW.PrintLast Go.Proofs.YtcjmplpfebpfpaaGreatDoorW.PrintMore PKindNames
set_option linter.unusedVariables false
set_option linter.unusedSimpArgs false

theorem cells24' : Tryz.prog.cellsOf 24 = 4 := by kernel_rfl
theorem cells3' : Tryz.prog.cellsOf 3 = 1 := by kernel_rfl
theorem cells9' : Tryz.prog.cellsOf 9 = 1 := by kernel_rfl
theorem cells22' : Tryz.prog.cellsOf 22 = 1 := by kernel_rfl

variable {H : Type} {enc : TypeId × Value → H}

theorem bulk_at {l : List (DataW H)} {d : DataW H} (h : d ∈ l) : Rows.uptoBulk d ≤ Rows.uptoBulkAll l := by
  induction l with
  | nil => cases h
  | cons x r ih =>
    simp only [Rows.uptoBulkAll]
    rcases List.mem_cons.1 h with e | e
    · subst e; omega
    · have := ih e; omega

theorem list_max {l m : List S24} {n : Nat} (g : Nat → S24) (hl : l = (List.range n).map g) : sizs l = ((List.range n).map fun i => siz (g i)).sum := by
  subst hl
  generalize List.range n = r
  induction r with
  | nil => rfl
  | cons a r ih => simp only [List.map_cons, sizs, List.sum_cons, ih]
theorem bulk_sum (r : List Nat) (D : Nat → DataW H) (g : Nat → S24) (h : ∀ i ∈ r, siz (g i) ≤ Rows.uptoBulk (D i)) : sizs (r.map g) ≤ Rows.uptoBulkAll (r.map D) := by
  induction r with
  | nil => simp [sizs, Rows.uptoBulkAll]
  | cons a r ih =>
    have h1 := h a List.mem_cons_self
    have h2 := ih fun i hi => h i (List.mem_cons_of_mem _ hi)
    simp only [List.map_cons, sizs, Rows.uptoBulkAll]
    omega

theorem list4 {α : Type} {l : List α} (h : l.length = 4) : ∃ a b c d, l = [a, b, c, d] := by
  match l, h with
  | [a, b, c, d], _ => exact ⟨a, b, c, d, rfl⟩
/-- What a form reads as. -/
def FormIn (w : World) (cs : List Value) (s : S24) (n : Nat) : Prop :=
  ∃ A c, cs = [.int .i64 s.f0, .int .i64 s.f1, .string s.f2, .slice A s.f3.length c] ∧ s.f3.length ≤ c ∧ Kd.C k24 w A s.f3.length s.f3 ∧ siz s ≤ n ∧ c ≤ maxLen

theorem row_mk {w : World} {a : Addr} {len : Nat} (g : Nat → S24) (cs : Nat → List Value) (hm : len ≤ maxLen) (h : ∀ i, i < len → w.cells? 0 (a.add (i * 4)) 4 = some (cs i) ∧ k24.K w (g i) (cs i)) :
    Kd.C k24 w (some a) len ((List.range len).map g) := by
  refine ⟨by simp, by simp [maxLen] at hm; omega, fun hn => ⟨a, rfl, fun j p hj => ?_⟩⟩
  have hjl : j < len := by
    have := (List.getElem?_eq_some_iff.1 hj).1
    simpa using this
  obtain rfl : g j = p := by simpa [hjl] using hj
  obtain ⟨h1, h2⟩ := h j hjl
  obtain ⟨_, hl, hc⟩ := World.cells?_some h1
  refine ⟨cs j, hl, h2, fun i u hu => ?_⟩
  have hil : i < 4 := by rw [← hl]; exact (List.getElem?_eq_some_iff.1 hu).1
  show w.cell? (a.add (j * 4 + i)) = some u
  rw [← Go.Deep.add_add, hc i hil, hu]

theorem open_form {w : World} (N : Nat) : ∀ {fuel : Nat} {cs : List Value} {x : DataW H × List MemPlace}, DataW.trod enc Tryz.prog w 0 (fun _ => true) true fuel 24 cs = some x → Rows.uptoBulk x.1 = N → ∃ s : S24, FormIn w cs s (Rows.uptoBulk x.1) := by
  induction N using Nat.strongRecOn with
  | _ N ih =>
  intro fuel cs x h hN
  obtain ⟨xs, n, rfl, rfl, hl, hlen, hf⟩ := DataW.trod_struct Tryz.underlying24 h
  rw [cells24'] at hl
  have hlen4 : xs.length = 4 := hlen
  obtain ⟨y0, y1, y2, y3, rfl⟩ := list4 hlen4
  obtain ⟨u0, u1, u2, u3, rfl⟩ := list4 hl
  have h0 := hf 0 _ rfl
  have h1 := hf 1 _ rfl
  have h2 := hf 2 _ rfl
  have h3 := hf 3 _ rfl
  change DataW.trod enc Tryz.prog w 0 (fun _ => true) true n 3 ([u0, u1, u2, u3].take (Tryz.prog.cellsOf 3)) = some y0 at h0
  change DataW.trod enc Tryz.prog w 0 (fun _ => true) true n 3 ([u1, u2, u3].take (Tryz.prog.cellsOf 3)) = some y1 at h1
  change DataW.trod enc Tryz.prog w 0 (fun _ => true) true n 9 ([u2, u3].take (Tryz.prog.cellsOf 9)) = some y2 at h2
  change DataW.trod enc Tryz.prog w 0 (fun _ => true) true n 22 ([u3].take (Tryz.prog.cellsOf 22)) = some y3 at h3
  rw [cells3'] at h0 h1
  rw [cells9'] at h2
  rw [cells22'] at h3
  simp only [List.take_succ_cons, List.take_zero] at h0 h1 h2 h3
  obtain ⟨z0, e0, f0, _⟩ := DataW.trod_int Tryz.underlying3 h0
  obtain ⟨z1, e1, f1, _⟩ := DataW.trod_int Tryz.underlying3 h1
  obtain ⟨z2, e2, f2, _⟩ := DataW.trod_string Tryz.underlying9 h2
  clear h hf hlen hlen4 hl h0 h1 h2
  simp only [List.cons.injEq, and_true] at e0 e1 e2
  subst e0 e1 e2 f0 f1 f2
  rcases open_slice Tryz.underlying22 h3 with ⟨e3, f3⟩ | ⟨a, len, cap, m, n', Dd, Pl, e3, _, hl, hm, hmm, f3, hall⟩
  · simp only [List.cons.injEq, and_true] at e3
    subst e3 f3
    refine ⟨⟨z0, z1, z2, []⟩, none, 0, rfl, Nat.le_refl _, Kd.C_nil _ _, ?_, Nat.zero_le _⟩
    have e : z2.data.toList.length = z2.size := Array.length_toList
    simp [siz, sizs, Rows.uptoBulk, Rows.uptoBulkAll]
    omega
  · simp only [List.cons.injEq, and_true] at e3
    simp only [if_true] at hmm
    subst e3 f3
    simp only [List.map_cons, List.map_nil, Rows.uptoBulk, Rows.uptoBulkAll] at hN
    have hbd : ∀ i, i < len → Rows.uptoBulk (Dd i) ≤ Rows.uptoBulkAll ((List.range len).map Dd) := fun i hi => bulk_at (List.mem_map.2 ⟨i, List.mem_range.2 hi, rfl⟩)
    have each : ∀ i, i < len → ∃ p : S24 × List Value, w.cells? 0 (a.add (i * 4)) 4 = some p.2 ∧ FormIn w p.2 p.1 (Rows.uptoBulk (Dd i)) := by
      intro i hi
      obtain ⟨cs', g1, g2⟩ := hall i (by omega)
      rw [cells24'] at g1
      obtain ⟨s, hs⟩ := ih _ (by have := hbd i hi; show Rows.uptoBulk (Dd i) < N; omega) g2 rfl
      exact ⟨(s, cs'), g1, hs⟩
    haveI : Inhabited (S24 × List Value) := ⟨(z24, [])⟩
    obtain ⟨f, hf⟩ := choose_lt (α := S24 × List Value) each
    have hlist : ((List.range len).map fun i => (f i).1).length = len := by simp
    refine ⟨⟨z0, z1, z2, (List.range len).map fun i => (f i).1⟩, some a, cap, by simp only [hlist], by simp only [hlist]; exact hl, ?_, ?_, hm⟩
    · simp only [hlist]
      exact row_mk (fun i => (f i).1) (fun i => (f i).2) (by omega) fun i hi => by
        obtain ⟨g1, A, c, g2, g3, g4, _⟩ := hf i hi
        exact ⟨g1, by rw [g2]; exact k24_mk w (f i).1 g3 g4⟩
    · have h5 := bulk_sum (List.range len) Dd (fun i => (f i).1) fun i hi => by
        obtain ⟨_, A, c, _, _, _, g5, _⟩ := hf i (List.mem_range.1 hi)
        exact g5
      have e : z2.data.toList.length = z2.size := Array.length_toList
      simp [siz, Rows.uptoBulk, Rows.uptoBulkAll]
      omega

end Go.Proofs.YtcjmplpfebpfpaaGreatDoor
namespace Go.Proofs.YtcjmplpfebpfpaaGreatDoor
open Go.RowKit Go.Proofs Go.Proofs.YtcjmplpfebpfpaaGreatDoorW.PrintWords Go.Proofs.YtcjmplpfebpfpaaGreatDoorW.PrintLast Go.Proofs.YtcjmplpfebpfpaaGreatDoorW.PrintMore PKindNames
set_option linter.unusedVariables false
set_option linter.unusedSimpArgs false

theorem wrap_up {i : Nat} (h : i < 9000000000000) : wrap64 ((i : Int) + 1) = ((i + 1 : Nat) : Int) := by unfold wrap64; omega
theorem drop_at5 {α : Type} {l : List α} {i : Nat} {x : α} (hx : l[i]? = some x) : l.drop i = x :: l.drop (i + 1) := by
  obtain ⟨h, e⟩ := List.getElem?_eq_some_iff.1 hx
  rw [List.drop_eq_getElem_cons h, e]
theorem rdOf_at {α : Type} {z : α} {l : List α} {i : Nat} {x : α} (hx : l[i]? = some x) : rdOf z l (i : Int) = x := by simp [rdOf, List.getD, hx]

theorem bytes_toList' (l : List UInt8) : (ByteArray.mk l.toArray).toList = l := by rw [ByteArray.toList_eq]
theorem has_l0 (l : List ByteArray) (a : ByteArray) (hl : l.length < 9000000000000) (d : Nat) : ∀ (k i : Nat), d + i = l.length → d < k → plinthref03_Has.l0 k l a (i : Int) = some (decide (a ∈ l.drop i)) := by
  induction d with
  | zero =>
    intro k i h hk
    obtain ⟨k, rfl⟩ : ∃ m, k = m + 1 := ⟨k - 1, by omega⟩
    have e : l.drop i = [] := List.drop_eq_nil_of_le (by omega)
    simp only [plinthref03_Has.l0]
    rw [if_neg (by omega), e]
    simp
  | succ d ih =>
    intro k i h hk
    obtain ⟨k, rfl⟩ : ∃ m, k = m + 1 := ⟨k - 1, by omega⟩
    have hlt : i < l.length := by omega
    obtain ⟨x, hx⟩ : ∃ x, l[i]? = some x := ⟨l[i], by simp [hlt]⟩
    simp only [plinthref03_Has.l0]
    rw [if_pos (by omega), if_pos (by omega), rdOf_at hx, drop_at5 hx]
    by_cases e : x.toList = a.toList
    · rw [if_pos e, bytes_inj e]
      simp
    · rw [if_neg e, wrap_up (by omega), ih k (i + 1) (by omega) (by omega)]
      have : a ≠ x := fun h => e (by rw [h])
      simp [this]
theorem has_ev (l : List ByteArray) (a : ByteArray) (hl : l.length < 9000000000000) : Ev (fun k => plinthref03_Has.f k l a) (decide (a ∈ l)) := by
  refine ⟨l.length + 1, fun k hk => ?_⟩
  have := has_l0 l a hl l.length k 0 (by omega) (by omega)
  simpa [plinthref03_Has.f] using this

theorem reserved_ev (s : ByteArray) : Ev (fun k => plinthref03_Reserved.f k s) (resM s) := by
  have h := has_ev ([(⟨#[105, 110, 116]⟩ : ByteArray), (⟨#[98, 111, 111, 108]⟩ : ByteArray), (⟨#[98, 105, 116, 115]⟩ : ByteArray), (⟨#[115, 101, 113]⟩ : ByteArray), (⟨#[115, 101, 116]⟩ : ByteArray), (⟨#[98, 97, 103]⟩ : ByteArray), (⟨#[109, 97, 112]⟩ : ByteArray), (⟨#[105, 109, 97, 112]⟩ : ByteArray), (⟨#[102, 117, 110]⟩ : ByteArray), (⟨#[109, 97, 121, 98, 101]⟩ : ByteArray)]) s (by simp)
  have e1 : (s.toList == [105, 110, 116]) = decide (s = ⟨#[105, 110, 116]⟩) := by
    by_cases h : s = ⟨#[105, 110, 116]⟩
    · rw [h, bytes_toList']; rfl
    · rw [decide_eq_false h]; exact beq_eq_false_iff_ne.mpr fun e => h (bytes_inj (e.trans (bytes_toList' _).symm))
  have e2 : (s.toList == [98, 111, 111, 108]) = decide (s = ⟨#[98, 111, 111, 108]⟩) := by
    by_cases h : s = ⟨#[98, 111, 111, 108]⟩
    · rw [h, bytes_toList']; rfl
    · rw [decide_eq_false h]; exact beq_eq_false_iff_ne.mpr fun e => h (bytes_inj (e.trans (bytes_toList' _).symm))
  have e3 : resM s = decide (s ∈ [(⟨#[105, 110, 116]⟩ : ByteArray), (⟨#[98, 111, 111, 108]⟩ : ByteArray), (⟨#[98, 105, 116, 115]⟩ : ByteArray), (⟨#[115, 101, 113]⟩ : ByteArray), (⟨#[115, 101, 116]⟩ : ByteArray), (⟨#[98, 97, 103]⟩ : ByteArray), (⟨#[109, 97, 112]⟩ : ByteArray), (⟨#[105, 109, 97, 112]⟩ : ByteArray), (⟨#[102, 117, 110]⟩ : ByteArray), (⟨#[109, 97, 121, 98, 101]⟩ : ByteArray)]) := by
    unfold resM
    rw [e1, e2]
    simp only [headsM, look, List.mem_cons, List.not_mem_nil, or_false]
    repeat' split
    all_goals simp_all
  rw [e3]
  exact Ev.bind h (Ev.now _)

/-- A text put into an ascending row, once. -/
def putL : List ByteArray → ByteArray → List ByteArray
  | [], s => [s]
  | x :: l, s => if Op.bytesLess x.toList s.toList = true then x :: putL l s else if x.toList = s.toList then x :: l else s :: x :: l

theorem put_l0 (l : List ByteArray) (a : ByteArray) (hl : l.length < 9000000000) (d : Nat) : ∀ (k i : Nat), d + i = l.length → d < k → plinthref03_put.l0 k l a (i : Int) = some (l.take i ++ putL (l.drop i) a) := by
  induction d with
  | zero =>
    intro k i h hk
    obtain ⟨k, rfl⟩ : ∃ m, k = m + 1 := ⟨k - 1, by omega⟩
    have e : l.drop i = [] := List.drop_eq_nil_of_le (by omega)
    have hi : i = l.length := by omega
    subst hi
    simp only [plinthref03_put.l0]
    rw [if_neg (by omega), e]
    simp [putL]
    omega
  | succ d ih =>
    intro k i h hk
    obtain ⟨k, rfl⟩ : ∃ m, k = m + 1 := ⟨k - 1, by omega⟩
    have hlt : i < l.length := by omega
    obtain ⟨x, hx⟩ : ∃ x, l[i]? = some x := ⟨l[i], by simp [hlt]⟩
    have et : l.take (i + 1) = l.take i ++ [x] := by rw [List.take_add_one, hx]; rfl
    simp only [plinthref03_put.l0]
    rw [if_pos (by omega), if_pos (by omega), rdOf_at hx, drop_at5 hx]
    by_cases e : Op.bytesLess x.toList a.toList = true
    · rw [if_pos e, wrap_up (by omega), ih k (i + 1) (by omega) (by omega), et]
      simp [putL, e]
    · rw [if_neg e]
      by_cases e2 : x.toList = a.toList
      · rw [if_pos e2]
        simp only [putL]
        rw [if_neg e, if_pos e2, ← drop_at5 hx, List.take_append_drop]
      · rw [if_neg e2]
        simp only [putL]
        rw [if_neg e, if_neg e2, ← drop_at5 hx]
        simp
        omega
theorem put_ev (l : List ByteArray) (a : ByteArray) (hl : l.length < 9000000000) : Ev (fun k => plinthref03_put.f k l a) (putL l a) := by
  refine ⟨l.length + 1, fun k hk => ?_⟩
  have := put_l0 l a hl l.length k 0 (by omega) (by omega)
  simpa [plinthref03_put.f] using this

theorem putL_len : ∀ (l : List ByteArray) (a : ByteArray), (putL l a).length ≤ l.length + 1
  | [], a => by simp [putL]
  | x :: l, a => by
    have := putL_len l a
    simp only [putL]
    split
    · simp only [List.length_cons]; omega
    · split <;> simp
theorem putAll_len : ∀ (m l : List ByteArray), (m.foldl putL l).length ≤ l.length + m.length
  | [], l => by simp
  | a :: m, l => by
    have h1 := putAll_len m (putL l a)
    have h2 := putL_len l a
    simp only [List.foldl_cons, List.length_cons]
    omega
mutual
/-- What the document's Names answers. -/
def refN : S24 → List ByteArray
  | ⟨a, _, s, l⟩ => if a = 3 then refNs [] l else if a = 1 ∧ resM s = false then [s] else []
def refNs : List ByteArray → List S24 → List ByteArray
  | acc, [] => acc
  | acc, x :: l => refNs ((refN x).foldl putL acc) l
end
mutual
theorem refN_len : ∀ x : S24, (refN x).length ≤ siz x
  | ⟨a, _, s, l⟩ => by
    have := refNs_len l []
    simp only [refN, siz]
    split
    · simp at this; omega
    · split <;> simp <;> omega
theorem refNs_len : ∀ (l : List S24) (acc : List ByteArray), (refNs acc l).length ≤ acc.length + sizs l
  | [], acc => by simp [refNs, sizs]
  | x :: l, acc => by
    have h1 := refN_len x
    have h2 := refNs_len l ((refN x).foldl putL acc)
    have h3 := putAll_len (refN x) acc
    simp only [refNs, sizs]
    omega
end
theorem rd_x {l : List S24} {i : Nat} {x : S24} (hx : l[i]? = some x) : rd_T24 l (i : Int) = x := rd_at hx

theorem names_l1 (n : Int) (s : ByteArray) (l : List S24) (i : Int) (m : List ByteArray) (R : List ByteArray) (hm : m.length < 9000000) (d : Nat) : ∀ (j : Nat) (acc : List ByteArray), d + j = m.length → acc.length + (m.drop j).length < 900000000 →
    Ev (fun k => plinthref03_Names.l0 k ((m.drop j).foldl putL acc) (wrap64 (i + 1)) 3 n s l) R → Ev (fun k => plinthref03_Names.l1 k acc i m (j : Int) 3 n s l) R := by
  induction d with
  | zero =>
    intro j acc hj ha h
    have e : m.drop j = [] := List.drop_eq_nil_of_le (by omega)
    rw [e] at h
    exact Ev.step (fun k => by simp only [plinthref03_Names.l1]; rw [if_neg (by omega)]; rfl) h
  | succ d ih =>
    intro j acc hj ha h
    obtain ⟨x, hx⟩ : ∃ x, m[j]? = some x := ⟨m[j]'(by omega), List.getElem?_eq_getElem _⟩
    rw [drop_at5 hx] at h ha
    simp only [List.length_cons] at ha
    have hp := putL_len acc x
    refine Ev.step (f := fun k => (plinthref03_put.f k acc x).bind fun t => plinthref03_Names.l1 k t i m ((j + 1 : Nat) : Int) 3 n s l) (fun k => by
      simp only [plinthref03_Names.l1]
      rw [if_pos (by omega), if_pos (by omega), rdOf_at hx, wrap_up (by omega)]) ?_
    exact Ev.bind (put_ev acc x (by omega)) (ih (j + 1) (putL acc x) (by omega) (by omega) h)

theorem sizs_drop (l : List S24) {i : Nat} {x : S24} (hx : l[i]? = some x) : sizs (l.drop i) = siz x + sizs (l.drop (i + 1)) := by
  rw [drop_at5 hx]; rfl
theorem names_l0 (n : Int) (s : ByteArray) (l : List S24) (hl : l.length < 9000000) (hq : ∀ x ∈ l, Ev (fun k => plinthref03_Names.f k x.f0 x.f1 x.f2 x.f3) (refN x)) (d : Nat) : ∀ (i : Nat) (acc : List ByteArray), d + i = l.length → acc.length + sizs (l.drop i) < 9000000 →
    Ev (fun k => plinthref03_Names.l0 k acc (i : Int) 3 n s l) (refNs acc (l.drop i)) := by
  induction d with
  | zero =>
    intro i acc hi ha
    have e : l.drop i = [] := List.drop_eq_nil_of_le (by omega)
    rw [e]
    refine Ev.step (f := fun k => plinthref03_Names.j3 k acc (i : Int) (decide ((i : Int) < (l.length : Int))) 3 n s l) (fun k => by simp only [plinthref03_Names.l0]; rw [if_pos trivial]) ?_
    rw [decide_eq_false (by omega)]
    exact Ev.step (f := fun _ => some acc) (fun k => by simp only [plinthref03_Names.j3]; rw [if_neg (by simp)]) (Ev.now _)
  | succ d ih =>
    intro i acc hi ha
    obtain ⟨x, hx⟩ : ∃ x, l[i]? = some x := ⟨l[i]'(by omega), List.getElem?_eq_getElem _⟩
    rw [sizs_drop l hx] at ha
    have h1 := refN_len x
    have h2 := putAll_len (refN x) acc
    rw [drop_at5 hx]
    refine Ev.step (f := fun k => plinthref03_Names.j3 k acc (i : Int) (decide ((i : Int) < (l.length : Int))) 3 n s l) (fun k => by simp only [plinthref03_Names.l0]; rw [if_pos trivial]) ?_
    rw [decide_eq_true (by omega)]
    refine Ev.step (f := fun k => (plinthref03_Names.f k x.f0 x.f1 x.f2 x.f3).bind fun t => plinthref03_Names.l1 k acc (i : Int) t ((0 : Nat) : Int) 3 n s l) (fun k => by
      simp only [plinthref03_Names.j3]
      rw [if_pos trivial, if_pos (by omega), if_pos (by omega), rd_x hx]; rfl) ?_
    refine Ev.bind (hq x (List.mem_of_getElem? hx)) ?_
    refine names_l1 n s l i (refN x) _ (by omega) (refN x).length 0 acc (by omega) (by simp; omega) ?_
    rw [wrap_up (by omega)]
    exact ih (i + 1) _ (by omega) (by simp; omega)

mutual
theorem names_ev : ∀ x : S24, siz x < 9000000 → Ev (fun k => plinthref03_Names.f k x.f0 x.f1 x.f2 x.f3) (refN x)
  | ⟨a, n, s, l⟩, h => by
    have hl := names_evs l
    simp only [siz] at h
    have hll := sizs_len l
    simp only [refN]
    have tail : ∀ (acc : List ByteArray), a ≠ 3 → Ev (fun k => plinthref03_Names.j1 k acc a n s l) acc := by
      intro acc ha
      refine Ev.step (f := fun k => plinthref03_Names.l0 k acc 0 a n s l) (fun k => by simp only [plinthref03_Names.j1]) ?_
      refine Ev.step (f := fun k => plinthref03_Names.j3 k acc 0 false a n s l) (fun k => by simp only [plinthref03_Names.l0]; rw [if_neg ha]) ?_
      exact Ev.step (f := fun _ => some acc) (fun k => by simp only [plinthref03_Names.j3]; rw [if_neg (by simp)]) (Ev.now _)
    by_cases h1 : a = 1
    · subst h1
      rw [if_neg (by decide)]
      refine Ev.step (f := fun k => (plinthref03_Reserved.f k s).bind fun t => plinthref03_Names.j0 k [] (!t) 1 n s l) (fun k => by simp only [plinthref03_Names.f, plinthref03_isWord.f]; rfl) ?_
      refine Ev.bind (reserved_ev s) ?_
      cases hr : resM s with
      | true =>
        rw [if_neg (by simp)]
        refine Ev.step (f := fun k => plinthref03_Names.j1 k [] 1 n s l) (fun k => by simp only [plinthref03_Names.j0]; rw [if_neg (by simp)]) ?_
        exact tail [] (by decide)
      | false =>
        rw [if_pos (by simp)]
        refine Ev.step (f := fun k => plinthref03_Names.j1 k [s] 1 n s l) (fun k => by simp only [plinthref03_Names.j0]; rw [if_pos (by simp)]) ?_
        exact tail [s] (by decide)
    · have e : (a == 1) = false := beq_eq_false_iff_ne.mpr h1
      refine Ev.step (f := fun k => plinthref03_Names.j0 k [] false a n s l) (fun k => by simp only [plinthref03_Names.f, plinthref03_isWord.f, e, Option.bind_some]; rw [if_neg (by simp)]) ?_
      refine Ev.step (f := fun k => plinthref03_Names.j1 k [] a n s l) (fun k => by simp only [plinthref03_Names.j0]; rw [if_neg (by simp)]) ?_
      by_cases h3 : a = 3
      · subst h3
        rw [if_pos rfl]
        refine Ev.step (f := fun k => plinthref03_Names.l0 k [] ((0 : Nat) : Int) 3 n s l) (fun k => by simp only [plinthref03_Names.j1]; rfl) ?_
        exact names_l0 n s l (by omega) (hl (by omega)) l.length 0 [] (by omega) (by simp; omega)
      · rw [if_neg h3, if_neg (fun h => h1 h.1)]
        exact tail [] h3
theorem names_evs : ∀ l : List S24, sizs l < 9000000 → ∀ x ∈ l, Ev (fun k => plinthref03_Names.f k x.f0 x.f1 x.f2 x.f3) (refN x)
  | [], _, x, h => absurd h List.not_mem_nil
  | y :: l, hs, x, h => by
    simp only [sizs] at hs
    rcases List.mem_cons.1 h with h | h
    · rw [h]; exact names_ev y (by omega)
    · exact names_evs l (by omega) x h
end

end Go.Proofs.YtcjmplpfebpfpaaGreatDoor
namespace Go.Proofs.YtcjmplpfebpfpaaGreatDoor
open Go.RowKit Go.Proofs Go.Proofs.YtcjmplpfebpfpaaGreatDoorW.PrintWords Go.Proofs.YtcjmplpfebpfpaaGreatDoorW.PrintLast Go.Proofs.YtcjmplpfebpfpaaGreatDoorW.PrintMore PKindNames
set_option linter.unusedVariables false
set_option linter.unusedSimpArgs false

theorem less_lt : ∀ (x y : List UInt8), Op.bytesLess x y = decide (x < y)
  | [], [] => by simp [Op.bytesLess]
  | _ :: _, [] => by simp [Op.bytesLess]
  | [], _ :: _ => by simp [Op.bytesLess]
  | p :: x, q :: y => by
    have ih := less_lt x y
    unfold Op.bytesLess
    rw [ih, Bool.eq_iff_iff]
    simp [List.cons_lt_cons_iff]

abbrev lessB (a b : ByteArray) : Bool := Op.bytesLess a.toList b.toList
theorem lessB_trans {a b c : ByteArray} (h : lessB a b = true) (h2 : lessB b c = true) : lessB a c = true := by
  simp only [lessB, less_lt, decide_eq_true_eq] at *
  exact List.lt_trans h h2
theorem lessB_irrefl (a : ByteArray) : lessB a a = false := by
  simp only [lessB, less_lt, decide_eq_false_iff_not]
  exact List.lt_irrefl _
theorem lessB_asymm {a b : ByteArray} (h : lessB a b = true) : lessB b a = false := by
  cases h2 : lessB b a with
  | false => rfl
  | true => have := lessB_trans h h2; rw [lessB_irrefl] at this; cases this
theorem lessB_total {a b : ByteArray} (h : lessB a b = false) (h2 : a.toList ≠ b.toList) : lessB b a = true := by
  simp only [lessB, less_lt, decide_eq_false_iff_not, decide_eq_true_eq] at *
  exact (List.le_iff_lt_or_eq.1 (List.not_lt.1 h)).resolve_right (fun e => h2 e.symm)

/-- Ascending, each once. -/
def Asc (l : List ByteArray) : Prop := l.Pairwise fun a b => lessB a b = true
theorem Asc.nodup {l : List ByteArray} (h : Asc l) : l.Nodup := h.imp (fun {a b} h e => by rw [e, lessB_irrefl] at h; cases h)
theorem Asc.same {l m : List ByteArray} (hl : Asc l) (hm : Asc m) (h : ∀ x, x ∈ l ↔ x ∈ m) : l = m := by
  have hp : l.Perm m := (List.perm_ext_iff_of_nodup hl.nodup hm.nodup).2 h
  refine List.Perm.eq_of_pairwise (le := fun a b => lessB a b = true) (fun a b _ _ h1 h2 => ?_) hl hm hp
  rw [lessB_asymm h1] at h2
  cases h2

theorem mem_putL : ∀ (l : List ByteArray) (s t : ByteArray), t ∈ putL l s ↔ t = s ∨ t ∈ l
  | [], s, t => by simp [putL]
  | x :: l, s, t => by
    have ih := mem_putL l s t
    simp only [putL]
    split
    · simp only [List.mem_cons, ih]
      constructor
      · rintro (h | h | h)
        · exact .inr (.inl h)
        · exact .inl h
        · exact .inr (.inr h)
      · rintro (h | h | h)
        · exact .inr (.inl h)
        · exact .inl h
        · exact .inr (.inr h)
    · split
      · rename_i e
        have := bytes_inj e
        subst this
        simp only [List.mem_cons]
        constructor
        · exact .inr
        · rintro (h | h)
          · exact .inl h
          · exact h
      · simp only [List.mem_cons]
theorem asc_putL : ∀ (l : List ByteArray) (s : ByteArray), Asc l → Asc (putL l s)
  | [], s, _ => by simp [putL, Asc]
  | x :: l, s, h => by
    have h1 := List.pairwise_cons.1 h
    have ih := asc_putL l s h1.2
    simp only [putL]
    split
    · rename_i e
      refine List.pairwise_cons.2 ⟨fun y hy => ?_, ih⟩
      rcases (mem_putL l s y).1 hy with rfl | hy
      · exact e
      · exact h1.1 y hy
    · rename_i e
      split
      · exact h
      · rename_i e2
        have e3 := lessB_total (a := x) (b := s) (by simpa [lessB] using e) e2
        refine List.pairwise_cons.2 ⟨fun y hy => ?_, h⟩
        rcases List.mem_cons.1 hy with rfl | hy
        · exact e3
        · exact lessB_trans e3 (h1.1 y hy)
theorem putAll_asc : ∀ (m l : List ByteArray), Asc l → Asc (m.foldl putL l) ∧ ∀ t, t ∈ m.foldl putL l ↔ t ∈ l ∨ t ∈ m
  | [], l, h => ⟨h, fun t => by simp⟩
  | s :: m, l, h => by
    obtain ⟨h1, h2⟩ := putAll_asc m (putL l s) (asc_putL l s h)
    refine ⟨h1, fun t => ?_⟩
    simp only [List.foldl_cons, h2, mem_putL, List.mem_cons]
    constructor
    · rintro ((h | h) | h)
      · exact .inr (.inl h)
      · exact .inl h
      · exact .inr (.inr h)
    · rintro (h | h | h)
      · exact .inl (.inr h)
      · exact .inl (.inl h)
      · exact .inr h
mutual
theorem refN_asc : ∀ x : S24, Asc (refN x) ∧ ∀ t, t ∈ refN x ↔ t ∈ nm x
  | ⟨a, _, s, l⟩ => by
    have hl := refNs_asc l [] (by simp [Asc])
    simp only [refN, nm]
    by_cases h3 : a = 3
    · rw [if_pos h3, if_pos h3, if_neg (fun h => by omega)]
      simpa using hl
    · rw [if_neg h3, if_neg h3]
      split <;> simp [Asc]
theorem refNs_asc : ∀ (l : List S24) (acc : List ByteArray), Asc acc → Asc (refNs acc l) ∧ ∀ t, t ∈ refNs acc l ↔ t ∈ acc ∨ t ∈ nms l
  | [], acc, h => by simp only [refNs, nms]; exact ⟨h, fun t => by simp⟩
  | x :: l, acc, h => by
    have hx := refN_asc x
    have h1 := putAll_asc (refN x) acc h
    have h2 := refNs_asc l _ h1.1
    simp only [refNs, nms]
    refine ⟨h2.1, fun t => ?_⟩
    rw [h2.2, h1.2, hx.2, List.mem_append, or_assoc]
end

theorem put_keys {H : Type} (es : List (Lit × DataW H)) (s : ByteArray) (d : DataW H) (hn : (es.map fun p => strOf p.1).Nodup) (hs : ∀ p ∈ es, ∃ x, p.1 = .string x) :
    ∃ es', (DataW.map es).put (keyD s) d = .map es' ∧ (es'.map fun p => strOf p.1).Nodup ∧ (∀ p ∈ es', ∃ x, p.1 = .string x) ∧ ∀ t, t ∈ (es'.map fun p => strOf p.1) ↔ t = s.data.toList ∨ t ∈ es.map fun p => strOf p.1 := by
  have hp := Go.WideShapes.insert_perm (keyD s, d) (es.filter fun p => !p.1.sameKey (keyD s))
  have hpm := hp.map fun p => strOf p.1
  have hk : ∀ p ∈ es, p.1.sameKey (keyD s) = decide (strOf p.1 = s.data.toList) := by
    intro p hp
    obtain ⟨x, hx⟩ := hs p hp
    rw [hx]
    show (x == s.data.toList) = decide (x = s.data.toList)
    rw [Bool.eq_iff_iff]
    simp
  refine ⟨_, rfl, ?_, fun p hp' => ?_, fun t => ?_⟩
  · rw [hpm.nodup_iff, List.map_cons, List.nodup_cons]
    refine ⟨fun h => ?_, hn.sublist (List.filter_sublist.map _)⟩
    obtain ⟨p, hp1, hp2⟩ := List.mem_map.1 h
    obtain ⟨hp3, hp4⟩ := List.mem_filter.1 hp1
    rw [hk p hp3] at hp4
    have e : strOf p.1 = s.data.toList := hp2
    rw [e] at hp4
    simp at hp4
  · rcases List.mem_cons.1 (hp.mem_iff.1 hp') with rfl | h
    · exact ⟨_, rfl⟩
    · exact hs p ((List.mem_filter.1 h).1)
  · rw [hpm.mem_iff, List.map_cons, List.mem_cons]
    constructor
    · rintro (h | h)
      · exact .inl h
      · obtain ⟨p, hp1, hp2⟩ := List.mem_map.1 h
        exact .inr (List.mem_map.2 ⟨p, (List.mem_filter.1 hp1).1, hp2⟩)
    · rintro (h | h)
      · exact .inl h
      · by_cases e : t = s.data.toList
        · exact .inl e
        · obtain ⟨p, hp1, hp2⟩ := List.mem_map.1 h
          refine .inr (List.mem_map.2 ⟨p, List.mem_filter.2 ⟨hp1, ?_⟩, hp2⟩)
          rw [hk p hp1, hp2]
          simp [e]
theorem col_keys {H : Type} : ∀ (l : List ByteArray) (es : List (Lit × DataW H)), (es.map fun p => strOf p.1).Nodup → (∀ p ∈ es, ∃ x, p.1 = .string x) →
    (strKeys (colD (.map es) l)).Nodup ∧ ∀ t, t ∈ strKeys (colD (.map es) l) ↔ (∃ s ∈ l, t = s.data.toList) ∨ t ∈ es.map fun p => strOf p.1
  | [], es, h, _ => ⟨h, fun t => by simp [colD, strKeys]⟩
  | s :: l, es, h, h2 => by
    obtain ⟨es', e, g1, g2, g3⟩ := put_keys es s (.lit (.bool true)) h h2
    obtain ⟨k1, k2⟩ := col_keys l es' g1 g2
    have e2 : colD (.map es) (s :: l) = colD (.map es') l := by
      show (l.foldl _ ((DataW.map es).put (keyD s) (.lit (.bool true)))) = _
      rw [e]; rfl
    rw [e2]
    refine ⟨k1, fun t => ?_⟩
    rw [k2, g3]
    constructor
    · rintro (⟨u, h1, h2⟩ | h | h)
      · exact .inl ⟨u, List.mem_cons_of_mem _ h1, h2⟩
      · exact .inl ⟨s, List.mem_cons_self, h⟩
      · exact .inr h
    · rintro (⟨u, h1, h2⟩ | h)
      · rcases List.mem_cons.1 h1 with rfl | h1
        · exact .inr (.inl h2)
        · exact .inl ⟨u, h1, h2⟩
      · exact .inr (.inr h)

theorem backB_toList (t : List UInt8) : (backB t).toList = t := by rw [ByteArray.toList_eq]; rfl
theorem sorted_asc {l : List (List UInt8)} (h : l.Nodup) : Asc ((l.mergeSort leB).map backB) := by
  have tr : ∀ a b c : List UInt8, leB a b = true → leB b c = true → leB a c = true := fun a b c h1 h2 => by simp only [leB, decide_eq_true_eq] at *; exact List.le_trans h1 h2
  have tot : ∀ a b : List UInt8, (leB a b || leB b a) = true := fun a b => by simp only [leB, Bool.or_eq_true, decide_eq_true_eq]; exact List.le_total a b
  have hp := List.pairwise_mergeSort tr tot l
  have hn : (l.mergeSort leB).Nodup := ((List.mergeSort_perm l leB).nodup_iff).2 h
  refine List.pairwise_map.2 ((hp.and hn).imp fun {a b} hab => ?_)
  simp only [lessB, less_lt, backB_toList, decide_eq_true_eq]
  have h1 := hab.1
  simp only [leB, decide_eq_true_eq] at h1
  exact (List.le_iff_lt_or_eq.1 h1).resolve_right hab.2

theorem namesB_ref (x : S24) : namesB x = refN x := by
  obtain ⟨h1, h2⟩ := col_keys (H := Unit) (nm x) [] (by simp) (by simp)
  obtain ⟨r1, r2⟩ := refN_asc x
  refine Asc.same (sorted_asc h1) r1 fun t => ?_
  rw [r2]
  unfold namesB
  rw [List.mem_map]
  constructor
  · rintro ⟨u, hu, rfl⟩
    have := (h2 u).1 ((List.mergeSort_perm _ _).mem_iff.1 hu)
    simp at this
    obtain ⟨s, hs, rfl⟩ := this
    exact hs
  · intro ht
    refine ⟨t.data.toList, (List.mergeSort_perm _ _).mem_iff.2 ((h2 _).2 (.inl ⟨t, ht, rfl⟩)), rfl⟩

end Go.Proofs.YtcjmplpfebpfpaaGreatDoor
namespace Go.Proofs.YtcjmplpfebpfpaaGreatDoor
open Go.RowKit Go.Proofs Go.Proofs.YtcjmplpfebpfpaaGreatDoorW.PrintWords Go.Proofs.YtcjmplpfebpfpaaGreatDoorW.PrintLast Go.Proofs.YtcjmplpfebpfpaaGreatDoorW.PrintMore PKindNames
set_option linter.unusedVariables false
set_option linter.unusedSimpArgs false

theorem texts_l0 (l : List ByteArray) (hl : l.length < 9000000) (d : Nat) : ∀ (k i : Nat), d + i = l.length → d < k → plinthlaw03_texts.l0 k l l (i : Int) = some true := by
  induction d with
  | zero =>
    intro k i h hk
    obtain ⟨k, rfl⟩ : ∃ m, k = m + 1 := ⟨k - 1, by omega⟩
    simp only [plinthlaw03_texts.l0]
    rw [if_neg (by omega)]
  | succ d ih =>
    intro k i h hk
    obtain ⟨k, rfl⟩ : ∃ m, k = m + 1 := ⟨k - 1, by omega⟩
    simp only [plinthlaw03_texts.l0]
    rw [if_pos (by omega), if_pos (by omega), if_pos (by omega), if_pos trivial, wrap_up (by omega), ih k (i + 1) (by omega) (by omega)]
theorem texts_same (l : List ByteArray) (hl : l.length < 9000000) : plinthlaw03_texts.f (l.length + 1) l l = some true := by
  unfold plinthlaw03_texts.f
  rw [if_pos rfl]
  exact texts_l0 l hl l.length (l.length + 1) 0 (by omega) (by omega)

/-- Whether the first of a row is its head. -/
def hasHead (l : List S24) : Bool := match l with | [] => false | k :: _ => k.f0 == 1
theorem heads_f (n : Int) (s : ByteArray) (l : List S24) (inner : Bool) : plinthref03_heads.f 3 n s l inner = some (!inner && hasHead l) := by
  cases inner with
  | true => simp [plinthref03_heads.f]
  | false =>
    cases l with
    | nil => simp [plinthref03_heads.f, hasHead]
    | cons k l =>
      have : rd_T24 (k :: l) 0 = k := rfl
      simp only [plinthref03_heads.f, plinthref03_isWord.f, this]
      rw [if_neg (by simp), if_pos trivial, if_pos (by simp only [List.length_cons]; omega), if_pos (by simp only [List.length_cons]; omega)]
      rfl
theorem isFun_f (n : Int) (s : ByteArray) (l : List S24) (i : Nat) (inner : Bool) {k : S24} (hk : l[i]? = some k) : plinthref03_isFun.f 3 n s l (i : Int) inner = some (!inner && isFunW (headL l) && decide (i = 1) && (k.f0 == 3)) := by
  unfold plinthref03_isFun.f
  rw [heads_f]
  have hi : i < l.length := (List.getElem?_eq_some_iff.1 hk).1
  cases inner with
  | true => simp
  | false =>
    cases l with
    | nil => simp at hi
    | cons k0 l =>
      have e0 : rd_T24 (k0 :: l) 0 = k0 := rfl
      simp only [Bool.not_false, Bool.true_and, Option.bind_some, hasHead, headL, e0]
      by_cases h1 : k0.f0 = 1
      · rw [if_pos h1, if_pos (by simp [h1])]
        by_cases h2 : i = 1
        · subst h2
          rw [if_pos (by omega), if_pos (by simp only [List.length_cons]; omega)]
          have e1 : rd_T24 (k0 :: l) 1 = k := rd_at (k := 1) hk
          by_cases h3 : k0.f2.toList = [102, 117, 110]
          · rw [if_pos h3, if_pos (by omega), e1]
            simp [isFunW, h3]
          · rw [if_neg h3]
            simp [isFunW, h3]
        · rw [if_neg (by omega)]
          simp [h2]
      · rw [if_neg h1, if_neg (by simp [h1])]
        simp [isFunW, bytes_toList']
theorem turned_f (v : Int) : plinthref03_turned.f v = some (turnM v) := by unfold plinthref03_turned.f turnM; split <;> rfl
theorem both_f (a b : Int) : plinthref03_both.f a b = some (bothM a b) := by
  unfold plinthref03_both.f bothM
  split
  · rfl
  · split
    · rfl
    · split <;> rfl

theorem var_l0 (name : ByteArray) (inner : Bool) (n : Int) (s : ByteArray) (l : List S24) (hl : l.length < 9000000) (hq : ∀ x ∈ l, ∀ b, Ev (fun k => plinthref03_variance.f k x.f0 x.f1 x.f2 x.f3 name b) (varM x name b)) (d : Nat) : ∀ (i : Nat) (out : Int), d + i = l.length → 1 ≤ i →
    Ev (fun k => plinthref03_variance.l0 k name inner out (i : Int) 3 n s l) (varL (l.drop i) name (!inner && isFunW (headL l)) false (hasHead l && decide (i = 1)) out) := by
  induction d with
  | zero =>
    intro i out hi h1
    have e : l.drop i = [] := List.drop_eq_nil_of_le (by omega)
    rw [e]
    refine Ev.step (f := fun k => plinthref03_variance.j1 k name inner out (i : Int) (decide ((i : Int) < (l.length : Int))) 3 n s l) (fun k => by simp only [plinthref03_variance.l0]; rw [if_pos trivial]) ?_
    rw [decide_eq_false (by omega)]
    exact Ev.step (f := fun _ => some out) (fun k => by simp only [plinthref03_variance.j1]; rw [if_neg (by simp)]) (Ev.now _)
  | succ d ih =>
    intro i out hi h1
    obtain ⟨x, hx⟩ : ∃ x, l[i]? = some x := ⟨l[i]'(by omega), List.getElem?_eq_getElem _⟩
    rw [drop_at5 hx]
    refine Ev.step (f := fun k => plinthref03_variance.j1 k name inner out (i : Int) (decide ((i : Int) < (l.length : Int))) 3 n s l) (fun k => by simp only [plinthref03_variance.l0]; rw [if_pos trivial]) ?_
    rw [decide_eq_true (by omega)]
    refine Ev.step (f := fun k => plinthref03_variance.j2 k name inner out (i : Int) false 3 n s l) (fun k => by simp only [plinthref03_variance.j1]; rw [if_pos trivial, if_neg (by omega)]) ?_
    obtain ⟨b, hb⟩ : ∃ b, b = (!inner && isFunW (headL l) && decide (i = 1) && (x.f0 == 3)) := ⟨_, rfl⟩
    have hfun := isFun_f n s l i inner hx
    rw [← hb] at hfun
    have e2 : ((!inner && isFunW (headL l)) && (hasHead l && decide (i = 1)) && (x.f0 == 3)) = b := by
      rw [hb]
      cases l with
      | nil => simp at hx
      | cons k0 l =>
        by_cases h : k0.f0 = 1
        · simp [hasHead, h]
        · simp [hasHead, headL, h, isFunW, bytes_toList']
    simp only [varL]
    rw [if_neg (by simp), e2]
    have ihn := fun o => ih (i + 1) o (by omega) (by omega)
    rw [show (hasHead l && decide (i + 1 = 1)) = false from by rw [decide_eq_false (by omega)]; simp] at ihn
    refine Ev.step (f := fun k => (plinthref03_variance.f k x.f0 x.f1 x.f2 x.f3 name b).bind fun t => if b = true then plinthref03_variance.l0 k name inner (bothM out (turnM t)) ((i + 1 : Nat) : Int) 3 n s l else plinthref03_variance.l0 k name inner (bothM out t) ((i + 1 : Nat) : Int) 3 n s l) (fun k => by
      simp only [plinthref03_variance.j2]
      rw [if_neg (by simp), if_pos (by omega), if_pos (by omega), hfun, rd_x hx, wrap_up (by omega)]
      simp only [Option.bind_some, turned_f, both_f]) ?_
    refine Ev.bind (hq x (List.mem_of_getElem? hx) b) ?_
    cases b with
    | true => simpa using ihn _
    | false => simpa using ihn _

theorem varL_first (name : ByteArray) : ∀ (l : List S24) (skip first : Bool) (out : Int), varL l name false skip first out = varL l name false skip false out
  | [], _, _, _ => by simp [varL]
  | k :: l, skip, first, out => by
    simp only [varL]
    cases skip with
    | true => simpa using varL_first name l false first out
    | false => simp

mutual
theorem var_ev (name : ByteArray) : ∀ x : S24, wid x < 9000000 → ∀ b, Ev (fun k => plinthref03_variance.f k x.f0 x.f1 x.f2 x.f3 name b) (varM x name b)
  | ⟨a, n, s, l⟩, hw, inner => by
    have hl := var_evs name l
    simp only [wid] at hw
    have hll := wids_len l
    simp only [varM]
    by_cases h1 : a = 1
    · subst h1
      rw [if_pos rfl]
      refine Ev.step (f := fun _ => some (if s.toList = name.toList then 1 else 0)) (fun k => by
        simp only [plinthref03_variance.f, plinthref03_isWord.f, Option.bind_some]
        rw [if_pos (by simp)]
        split <;> rfl) (Ev.now _)
    · rw [if_neg h1]
      have e : (a == 1) = false := beq_eq_false_iff_ne.mpr h1
      refine Ev.step (f := fun k => plinthref03_variance.l0 k name inner 0 ((0 : Nat) : Int) a n s l) (fun k => by
        simp only [plinthref03_variance.f, plinthref03_isWord.f, e, Option.bind_some]; rw [if_neg (by simp)]; rfl) ?_
      by_cases h3 : a = 3
      · subst h3
        rw [if_pos rfl]
        have hA := var_l0 name inner n s l (by omega) (hl (by omega))
        cases l with
        | nil =>
          simp only [varL]
          refine Ev.step (f := fun k => plinthref03_variance.j1 k name inner 0 ((0 : Nat) : Int) false 3 n s []) (fun k => by simp only [plinthref03_variance.l0]; rw [if_pos trivial]; rfl) ?_
          exact Ev.step (f := fun _ => some 0) (fun k => by simp only [plinthref03_variance.j1]; rw [if_neg (by simp)]) (Ev.now _)
        | cons k0 l =>
          refine Ev.step (f := fun k => plinthref03_variance.j1 k name inner 0 ((0 : Nat) : Int) true 3 n s (k0 :: l)) (fun k => by
            simp only [plinthref03_variance.l0]; rw [if_pos trivial, decide_eq_true (by simp only [List.length_cons]; omega)]) ?_
          have hh := heads_f n s (k0 :: l) inner
          refine Ev.step (f := fun k => plinthref03_variance.j2 k name inner 0 ((0 : Nat) : Int) (!inner && hasHead (k0 :: l)) 3 n s (k0 :: l)) (fun k => by
            simp only [plinthref03_variance.j1]; rw [if_pos trivial, if_pos (by rfl), hh]; rfl) ?_
          have hA1 := fun o => hA l.length 1 o rfl (by omega)
          rw [show (k0 :: l).drop 1 = l from rfl] at hA1
          simp only [hasHead] at hA1 ⊢
          cases hs : (!inner && (k0.f0 == 1)) with
          | true =>
            simp only [varL, if_true]
            refine Ev.step (f := fun k => plinthref03_variance.l0 k name inner 0 ((1 : Nat) : Int) 3 n s (k0 :: l)) (fun k => by
              simp only [plinthref03_variance.j2]; rw [if_pos trivial, wrap_up (by omega)]) ?_
            have e4 : (k0.f0 == 1) = true := by simp at hs; simp [hs]
            have := hA1 0
            rw [e4] at this
            simpa using this
          | false =>
            have e5 : (!inner && isFunW (headL (k0 :: l))) = false := by
              by_cases h : k0.f0 = 1
              · simp [h] at hs; simp [hs]
              · simp [headL, h, isFunW, bytes_toList']
            simp only [varL]
            rw [if_neg (by simp), e5]
            simp only [Bool.false_and, Bool.false_eq_true, if_false]
            have hfun := isFun_f n s (k0 :: l) 0 inner (k := k0) rfl
            rw [decide_eq_false (by omega)] at hfun
            simp only [Bool.and_false, Bool.false_and] at hfun
            refine Ev.step (f := fun k => (plinthref03_variance.f k k0.f0 k0.f1 k0.f2 k0.f3 name false).bind fun t => plinthref03_variance.l0 k name inner (bothM 0 t) ((1 : Nat) : Int) 3 n s (k0 :: l)) (fun k => by
              simp only [plinthref03_variance.j2]
              rw [if_neg (by simp), if_pos (by omega), if_pos (by simp only [List.length_cons]; omega), hfun, show rd_T24 (k0 :: l) ((0 : Nat) : Int) = k0 from rfl, wrap_up (by omega)]
              simp only [Option.bind_some, turned_f, both_f, Bool.false_eq_true, if_false]) ?_
            refine Ev.bind (hl (by omega) k0 List.mem_cons_self false) ?_
            have := hA1 (bothM 0 (varM k0 name false))
            rw [e5, varL_first] at this
            exact this
      · rw [if_neg h3]
        refine Ev.step (f := fun k => plinthref03_variance.j1 k name inner 0 ((0 : Nat) : Int) false a n s l) (fun k => by simp only [plinthref03_variance.l0]; rw [if_neg h3]) ?_
        exact Ev.step (f := fun _ => some 0) (fun k => by simp only [plinthref03_variance.j1]; rw [if_neg (by simp)]) (Ev.now _)
theorem var_evs (name : ByteArray) : ∀ l : List S24, wids l < 9000000 → ∀ x ∈ l, ∀ b, Ev (fun k => plinthref03_variance.f k x.f0 x.f1 x.f2 x.f3 name b) (varM x name b)
  | [], _, x, h => absurd h List.not_mem_nil
  | y :: l, hs, x, h => by
    simp only [wids] at hs
    rcases List.mem_cons.1 h with h | h
    · rw [h]; exact var_ev name y (by omega)
    · exact var_evs name l (by omega) x h
end

theorem variance_ev (x : S24) (name : ByteArray) (hw : wid x < 9000000) : Ev (fun k => plinthref03_Variance.f k x.f0 x.f1 x.f2 x.f3 name) (VarianceM x name) := by
  unfold VarianceM
  refine Ev.bind (reserved_ev name) ?_
  cases resM name with
  | true => exact Ev.now _
  | false => exact Ev.bind (var_ev name x hw false) (Ev.now _)

end Go.Proofs.YtcjmplpfebpfpaaGreatDoor
namespace Go.Proofs.YtcjmplpfebpfpaaGreatDoor
open Go.RowKit Go.Proofs Go.Proofs.YtcjmplpfebpfpaaGreatDoorW.PrintWords Go.Proofs.YtcjmplpfebpfpaaGreatDoorW.PrintLast Go.Proofs.YtcjmplpfebpfpaaGreatDoorW.PrintMore PKindNames
set_option linter.unusedVariables false
set_option linter.unusedSimpArgs false

mutual
theorem wid_siz : ∀ x : S24, wid x ≤ siz x
  | ⟨_, _, s, l⟩ => by
    have := wids_sizs l
    simp only [wid, siz]
    omega
theorem wids_sizs : ∀ l : List S24, wids l ≤ sizs l
  | [] => by simp [wids, sizs]
  | x :: l => by
    have h1 := wid_siz x
    have h2 := wids_sizs l
    have h3 := sizs_len l
    have h4 : 1 ≤ siz x := by cases x; simp only [siz]; omega
    simp only [wids, sizs]
    omega
end

theorem refNames_any (x : S24) (A : Option Addr) (c : Nat) (w : World) (hr : Kd.C k24 w A x.f3.length x.f3) (hc : x.f3.length ≤ c) (hn : siz x < 9000000) :
    Calls Tryz.prog 25 #[formV x.f0 x.f1 x.f2 A x.f3.length c] w fun e w' => ∃ v, e = .returned v ∧ TextsAt w' v (namesB x) ∧ Below w.heap.size w w' := by
  obtain ⟨k, hk⟩ := (names_ev x hn).rounds
  refine (plinthref03_Names.calls k x.f0 x.f1 x.f2 A c x.f3 (refN x) w hr hc hk).mono ?_
  rintro e w' ⟨v, rfl, h, B⟩
  obtain ⟨A2, c2, hv, h2, h3⟩ := Kd.R_reads h
  rw [namesB_ref]
  exact ⟨v, rfl, ⟨A2, c2, hv, h2, h3⟩, B⟩
theorem refVariance_any (x : S24) (A : Option Addr) (c : Nat) (name : ByteArray) (w : World) (hr : Kd.C k24 w A x.f3.length x.f3) (hc : x.f3.length ≤ c) (hn : wid x < 9000000) :
    Calls Tryz.prog 31 #[formV x.f0 x.f1 x.f2 A x.f3.length c, .string name] w fun e w' => e = .returned (.int .i64 (VarianceM x name)) ∧ Below w.heap.size w w' := by
  obtain ⟨k, hk⟩ := (variance_ev x name hn).rounds
  exact plinthref03_Variance.calls k x.f0 x.f1 x.f2 A c x.f3 name _ w hr hc hk
theorem texts_any (l : List ByteArray) (hl : l.length < 9000000) (u v : Value) (w : World) (hu : TextsAt w u l) (hv : TextsAt w v l) : Calls Tryz.prog 28 #[u, v] w fun e w' => e = .returned (.bool true) ∧ Below w.heap.size w w' := by
  obtain ⟨A, c, rfl, h1, h2⟩ := hu
  obtain ⟨B, d, rfl, h3, h4⟩ := hv
  refine (plinthlaw03_texts.calls _ A c l B d l true w h2 h1 h4 h3 (texts_same l hl)).mono ?_
  rintro e w' ⟨rfl, h⟩
  exact ⟨rfl, h.below⟩
theorem TextsAt.below {w w1 : World} {v : Value} {l : List ByteArray} (h : TextsAt w v l) (hb : Below w.heap.size w w1) : TextsAt w1 v l := by
  obtain ⟨A, c, e, h1, h2⟩ := h
  exact ⟨A, c, e, h1, Kd.C_below h2 hb⟩

set_option maxRecDepth 100000 in
set_option maxHeartbeats 4000000 in
theorem KindNames_any (x : S24) (A : Option Addr) (c : Nat) (name : ByteArray) (w : World) (hr : Kd.C k24 w A x.f3.length x.f3) (hc : x.f3.length ≤ c) (hn : siz x < 9000000) :
    Calls Tryz.prog 8 #[formV x.f0 x.f1 x.f2 A x.f3.length c, .string name] w fun e w' => e = .returned (.bool true) ∧ Below w.heap.size w w' := by
  have hu24 := Tryz.underlying24
  have hw : wid x < 9000000 := by have := wid_siz x; omega
  have hlen : (namesB x).length < 9000000 := by have h1 := refN_len x; rw [namesB_ref]; omega
  have C29 : Hid (∀ W, Below w.heap.size w W → _) := fun W h => Names_any x A c W (Kd.C_below hr h) hc hn
  have C25 : Hid (∀ W, Below w.heap.size w W → _) := fun W h => refNames_any x A c W (Kd.C_below hr h) hc hn
  have C30 : Hid (∀ W, Below w.heap.size w W → _) := fun W h => Variance_any x A c name W (Kd.C_below hr h) hc hw
  have C31 : Hid (∀ W, Below w.heap.size w W → _) := fun W h => refVariance_any x A c name W (Kd.C_below hr h) hc hw
  have C28 : Hid (∀ u v W, TextsAt W u (namesB x) → TextsAt W v (namesB x) → _) := fun u v W h1 h2 => texts_any (namesB x) hlen u v W h1 h2
  clear hr hn hw hlen
  obtain ⟨V, hV⟩ : ∃ V, V = VarianceM x name := ⟨_, rfl⟩
  rw [← hV] at C30 C31
  clear hV
  obtain ⟨x0, x1, x2, x3⟩ := x
  have X0 := box_heap (Below.refl _ (w.alloc (.cells #[.int .i64 x0, .int .i64 x1, .string x2, .slice A x3.length c] 24)))
  have B0 := below_alloc (Below.refl w.heap.size w) (.cells #[.int .i64 x0, .int .i64 x1, .string x2, .slice A x3.length c] 24)
  go_enter Tryz.func8, Tryz.ntmps8
  go_wp2_with fail
  generalize hX : w.alloc (.cells #[.int .i64 x0, .int .i64 x1, .string x2, .slice A x3.length c] 24) = X at *
  obtain ⟨p0, p1, p2, p3⟩ := cells4 X0
  generalize hbx : w.heap.size = bx at *
  have HS : Hid (∀ W, Below X.heap.size X W → W.cell? ⟨bx, 0, none⟩ = some (.int .i64 x0) ∧ W.cell? ⟨bx, 1, none⟩ = some (.int .i64 x1) ∧ W.cell? ⟨bx, 2, none⟩ = some (.string x2) ∧ W.cell? ⟨bx, 3, none⟩ = some (.slice A x3.length c)) := fun W h => ⟨pw_cell_below h p0, pw_cell_below h p1, pw_cell_below h p2, pw_cell_below h p3⟩
  have HB : Hid (Below bx w X) := B0
  have tr : ∀ {W : World}, Below X.heap.size X W → Below bx w W := fun h => by subst hbx; exact below_after HB.out h
  have TR : Hid _ := @tr
  clear hX X0 p0 p1 p2 p3 B0 tr
  refine wp_region_held_drew (S := fun W => W.cell? ⟨bx, 0, none⟩ = some (.int .i64 x0) ∧ W.cell? ⟨bx, 1, none⟩ = some (.int .i64 x1) ∧ W.cell? ⟨bx, 2, none⟩ = some (.string x2) ∧ W.cell? ⟨bx, 3, none⟩ = some (.slice A x3.length c)) (by kernel_rfl) (HS.out _ (below_drew (Below.refl _ _))) (fun hHeld => ?_)
  refine takeV 0 (some 5) (formV x0 x1 x2 A x3.length c) rfl rfl (by kernel_rfl) (by kernel_rfl) (by kernel_rfl) (fun _ _ _ h => h) (Or.inl ⟨by kernel_rfl, fun W hSw => by obtain ⟨s0, s1, s2, s3⟩ := hSw; go_simp⟩) hHeld ?_
  try simp only [Act.put, List.setIfInBounds_toArray, List.set_cons_zero, List.set_cons_succ]
  refine takeV 2 (some 7) (formV x0 x1 x2 A x3.length c) rfl rfl (by kernel_rfl) (by kernel_rfl) (by kernel_rfl) (fun _ _ _ h => h) (Or.inl ⟨by kernel_rfl, fun W hSw => by obtain ⟨s0, s1, s2, s3⟩ := hSw; go_simp⟩) hHeld ?_
  try simp only [Act.put, List.setIfInBounds_toArray, List.set_cons_zero, List.set_cons_succ]
  refine wpAnyH_ready (rs := [1]) (by kernel_rfl) (by simp) ?_
  refine AllReadyH.cons rfl (fun K hK => ?_) AllReadyH.nil
  clear hHeld
  go_simp
  go_at_call 29
  refine Calls.mono (C29.out _ (TR.out (below_drew (Below.refl _ _)))) ?_
  rintro e w1 ⟨v1, rfl, T1, B1'⟩
  have B1 : Hid (Below X.heap.size X w1) := below_after (below_drew (Below.refl _ _)) B1'
  have HT1 : Hid (TextsAt _ _ _) := T1
  clear T1 B1'
  have HSn := HS.out _ B1.out
  go_wp2_with fail
  refine hK.out _ _ HSn (fun hHeld => ?_)
  clear hK K HSn
  try simp only [Act.put, List.setIfInBounds_toArray, List.set_cons_zero, List.set_cons_succ]
  refine wpAnyH_ready (rs := [3]) (by kernel_rfl) (by simp) ?_
  refine AllReadyH.cons rfl (fun K hK => ?_) AllReadyH.nil
  clear hHeld
  go_simp
  go_at_call 25
  refine Calls.mono (C25.out _ (TR.out B1.out)) ?_
  rintro e w2 ⟨v2, rfl, T2, B2'⟩
  have B2 : Hid (Below X.heap.size X w2) := below_after B1.out B2'
  have HT2 : Hid (TextsAt _ _ _) := T2
  have HT3 : Hid (TextsAt _ _ _) := TextsAt.below HT1.out B2'
  clear T2 B2'
  have HSn := HS.out _ B2.out
  go_wp2_with fail
  refine hK.out _ _ HSn (fun hHeld => ?_)
  clear hK K HSn
  try simp only [Act.put, List.setIfInBounds_toArray, List.set_cons_zero, List.set_cons_succ]
  refine wpAnyH_ready (rs := [4]) (by kernel_rfl) (by simp) ?_
  refine AllReadyH.cons rfl (fun K hK => ?_) AllReadyH.nil
  clear hHeld
  go_simp
  go_at_call 28
  refine Calls.mono (C28.out v1 v2 _ HT3.out HT2.out) ?_
  rintro e w3 ⟨rfl, B3'⟩
  have B3 : Hid (Below X.heap.size X w3) := below_after B2.out B3'
  clear B3'
  have HSn := HS.out _ B3.out
  go_wp2_with fail
  refine hK.out _ _ HSn (fun hHeld => ?_)
  clear hK K HSn
  try simp only [Act.put, List.setIfInBounds_toArray, List.set_cons_zero, List.set_cons_succ]
  refine takeV 5 (some 10) (.bool true) rfl rfl (by kernel_rfl) (by kernel_rfl) (by kernel_rfl) (fun _ _ _ h => h) (Or.inl ⟨by kernel_rfl, fun W hSw => by go_simp⟩) hHeld ?_
  try simp only [Act.put, List.setIfInBounds_toArray, List.set_cons_zero, List.set_cons_succ]
  refine takeV 6 (some 11) (formV x0 x1 x2 A x3.length c) rfl rfl (by kernel_rfl) (by kernel_rfl) (by kernel_rfl) (fun _ _ _ h => h) (Or.inl ⟨by kernel_rfl, fun W hSw => by obtain ⟨s0, s1, s2, s3⟩ := hSw; go_simp⟩) hHeld ?_
  try simp only [Act.put, List.setIfInBounds_toArray, List.set_cons_zero, List.set_cons_succ]
  refine takeV 7 (some 12) (.string name) rfl rfl (by kernel_rfl) (by kernel_rfl) (by kernel_rfl) (fun _ _ _ h => h) (Or.inl ⟨by kernel_rfl, fun W hSw => by go_simp⟩) hHeld ?_
  try simp only [Act.put, List.setIfInBounds_toArray, List.set_cons_zero, List.set_cons_succ]
  refine takeV 9 (some 14) (formV x0 x1 x2 A x3.length c) rfl rfl (by kernel_rfl) (by kernel_rfl) (by kernel_rfl) (fun _ _ _ h => h) (Or.inl ⟨by kernel_rfl, fun W hSw => by obtain ⟨s0, s1, s2, s3⟩ := hSw; go_simp⟩) hHeld ?_
  try simp only [Act.put, List.setIfInBounds_toArray, List.set_cons_zero, List.set_cons_succ]
  refine takeV 10 (some 15) (.string name) rfl rfl (by kernel_rfl) (by kernel_rfl) (by kernel_rfl) (fun _ _ _ h => h) (Or.inl ⟨by kernel_rfl, fun W hSw => by go_simp⟩) hHeld ?_
  try simp only [Act.put, List.setIfInBounds_toArray, List.set_cons_zero, List.set_cons_succ]
  refine wpAnyH_ready (rs := [8]) (by kernel_rfl) (by simp) ?_
  refine AllReadyH.cons rfl (fun K hK => ?_) AllReadyH.nil
  clear hHeld
  go_simp
  go_at_call 30
  refine Calls.mono (C30.out _ (TR.out B3.out)) ?_
  rintro e w4 ⟨rfl, B4'⟩
  have B4 : Hid (Below X.heap.size X w4) := below_after B3.out B4'
  clear B4'
  have HSn := HS.out _ B4.out
  go_wp2_with fail
  refine hK.out _ _ HSn (fun hHeld => ?_)
  clear hK K HSn
  try simp only [Act.put, List.setIfInBounds_toArray, List.set_cons_zero, List.set_cons_succ]
  refine wpAnyH_ready (rs := [11]) (by kernel_rfl) (by simp) ?_
  refine AllReadyH.cons rfl (fun K hK => ?_) AllReadyH.nil
  clear hHeld
  go_simp
  go_at_call 31
  refine Calls.mono (C31.out _ (TR.out B4.out)) ?_
  rintro e w5 ⟨rfl, B5'⟩
  have B5 : Hid (Below X.heap.size X w5) := below_after B4.out B5'
  clear B5'
  have HSn := HS.out _ B5.out
  go_wp2_with fail
  refine hK.out _ _ HSn (fun hHeld => ?_)
  clear hK K HSn
  try simp only [Act.put, List.setIfInBounds_toArray, List.set_cons_zero, List.set_cons_succ]
  refine takeV 12 (some 17) (.bool true) rfl rfl (by kernel_rfl) (by kernel_rfl) (by kernel_rfl) (fun _ _ _ h => h) (Or.inl ⟨by kernel_rfl, fun W hSw => by go_simp⟩) hHeld ?_
  try simp only [Act.put, List.setIfInBounds_toArray, List.set_cons_zero, List.set_cons_succ]
  refine takeV 13 (some 18) (.bool true) rfl rfl (by kernel_rfl) (by kernel_rfl) (by kernel_rfl) (fun _ _ _ h => h) (Or.inl ⟨by kernel_rfl, fun W hSw => by go_simp⟩) hHeld ?_
  try simp only [Act.put, List.setIfInBounds_toArray, List.set_cons_zero, List.set_cons_succ]
  refine takeV 14 (some 19) (.bool true) rfl rfl (by kernel_rfl) (by kernel_rfl) (by kernel_rfl) (fun _ _ _ h => h) (Or.inl ⟨by kernel_rfl, fun W hSw => by go_simp⟩) hHeld ?_
  try simp only [Act.put, List.setIfInBounds_toArray, List.set_cons_zero, List.set_cons_succ]
  refine wpAnyH_ready (rs := [15]) (by kernel_rfl) (by simp) ?_
  refine AllReadyH.cons rfl (fun K hK => ?_) AllReadyH.nil
  clear hHeld
  go_simp
  go_at_call 19
  refine Calls.mono (sane_any _) ?_
  rintro e w6 ⟨rfl, B6'⟩
  have B6 : Hid (Below X.heap.size X w6) := below_after B5.out B6'
  clear B6'
  have HSn := HS.out _ B6.out
  go_wp2_with fail
  refine hK.out _ _ HSn (fun hHeld => ?_)
  clear hK K HSn
  try simp only [Act.put, List.setIfInBounds_toArray, List.set_cons_zero, List.set_cons_succ]
  refine takeV 16 (some 21) (.bool true) rfl rfl (by kernel_rfl) (by kernel_rfl) (by kernel_rfl) (fun _ _ _ h => h) (Or.inl ⟨by kernel_rfl, fun W hSw => by go_simp⟩) hHeld ?_
  try simp only [Act.put, List.setIfInBounds_toArray, List.set_cons_zero, List.set_cons_succ]
  refine takeV 17 (some 4) (.bool true) rfl rfl (by kernel_rfl) (by kernel_rfl) (by kernel_rfl) (fun _ _ _ h => h) (Or.inl ⟨by kernel_rfl, fun W hSw => by go_simp⟩) hHeld ?_
  try simp only [Act.put, List.setIfInBounds_toArray, List.set_cons_zero, List.set_cons_succ]
  refine wpAnyH_done (by kernel_rfl) ?_ _
  go_wp2_with fail
  go_ret
  exact ⟨rfl, by rw [hbx]; exact TR.out B6.out⟩

end Go.Proofs.YtcjmplpfebpfpaaGreatDoor
namespace Go.Proofs.YtcjmplpfebpfpaaGreatDoor.kindNames
open Go.ChangeShapes Go.WideShapes Go.ChangeAt Go.RowKit Go.Proofs Go.Proofs.YtcjmplpfebpfpaaGreatDoorW.PrintWords Go.Proofs.YtcjmplpfebpfpaaGreatDoorW.PrintLast Go.Proofs.YtcjmplpfebpfpaaGreatDoorW.PrintMore PKindNames
open Go.ChangeMaps (open_string shut_string)
set_option linter.unusedVariables false
theorem own : ownKnob Tryz.prog.godebug = none := by kernel_rfl
theorem laidOut : laidOutB Tryz.prog = true := by kernel_rfl

theorem form_agg {w : World} {cs : Array Value} {s : S24} {n : Nat} (h : FormIn w (Value.agg cs).cells.toList s n) : ∃ A c, Value.agg cs = formV s.f0 s.f1 s.f2 A s.f3.length c ∧ s.f3.length ≤ c ∧ Kd.C k24 w A s.f3.length s.f3 ∧ siz s ≤ n := by
  obtain ⟨A, c, e, h1, h2, h3, _⟩ := h
  refine ⟨A, c, ?_, h1, h2, h3⟩
  have e2 : cs.toList = [.int .i64 s.f0, .int .i64 s.f1, .string s.f2, .slice A s.f3.length c] := e
  have : cs = #[.int .i64 s.f0, .int .i64 s.f1, .string s.f2, .slice A s.f3.length c] := by
    rw [← Array.toList_inj]; exact e2
  rw [this]

set_option maxRecDepth 100000 in
theorem contract (H : Type) (enc : TypeId × Value → H) (W : World) (base : Nat) (args : Array Value) (ds gs : List (DataW H)) (before : List MemPlace)
    (hval : ∀ (j : Nat) t v, Tryz.f8.params[j]? = some t → args[j]? = some v → Value.okWide Tryz.prog W .any base t v)
    (hW : DataW.Whole enc Tryz.prog Tryz.f8.params.toList Rows.kindNamesSpec.vars false W args.toList ds gs before) (hk : Rows.uptoSmall H (ds ++ gs) = true) :
    Calls Tryz.prog 8 args W fun e W' => ∃ v, e = .returned v ∧ Rows.kindNamesSpec.post enc Tryz.prog Tryz.f8 false true false false W args v W' := by
  have hW' := hW
  obtain ⟨p, q, hA0, hV, rfl, hfz, hnd⟩ := hW
  have hA : DataW.TrodAll enc Tryz.prog W 0 (fun _ => true) true Tryz.f8.params.toList args.toList ds p := hA0
  rw [Tryz.params8] at hA hval
  obtain ⟨v0, vs0, d0, ds0, p0, q0, hargs, rfl, rfl, h0, r0⟩ := trodAll_cons hA
  obtain ⟨v1, vs1, d1, ds1, p1, q1, rfl, rfl, rfl, h1, r1⟩ := trodAll_cons r0
  obtain ⟨rfl, rfl, rfl⟩ := trodAll_nil r1
  obtain rfl : args = #[v0, v1] := by cases args; simp_all
  obtain ⟨rfl, rfl⟩ := trodVars_none hV
  have k0 := h0
  have lt0 : ∀ x ∈ p0, x.block < W.heap.size := by obtain ⟨m, hm⟩ := k0; exact DataW.trod_lt m _ _ _ hm
  obtain ⟨cs, rfl, _⟩ := okWide_struct Tryz.underlying24 (hval 0 24 v0 rfl rfl)
  obtain ⟨s, A, c, hs, hc, hr, hz⟩ : ∃ s A c, Value.agg cs = formV s.f0 s.f1 s.f2 A s.f3.length c ∧ s.f3.length ≤ c ∧ Kd.C k24 W A s.f3.length s.f3 ∧ siz s ≤ Rows.uptoBulk d0 := by
    obtain ⟨fuel, hf⟩ := h0
    obtain ⟨s, hs⟩ := open_form _ hf rfl
    obtain ⟨A, c, h1, h2, h3, h4⟩ := form_agg hs
    exact ⟨s, A, c, h1, h2, h3, h4⟩
  obtain ⟨a1, rfl, rfl, rfl, y1⟩ := open_string Tryz.underlying9 (hval 1 9 v1 rfl rfl) h1
  clear hA0
  have hb : Rows.uptoBulk d0 ≤ 1048576 := by
    simp only [List.append_nil, Rows.uptoSmall, Rows.uptoBulkAll, decide_eq_true_eq] at hk
    omega
  rw [hs]
  refine (KindNames_any s A c a1 W hr hc (by omega)).mono fun e W' ⟨he, bel⟩ => ?_
  subst he
  rw [← hs]
  exact ⟨_, rfl, _, _, _, [], _, [], hW', trodAll_mk1 (shut_bool Tryz.underlying4 _), (trodAll_cons_mk (Below.trod laidOut (by kernel_rfl) (of_decide_eq_true (by kernel_rfl)) k0 bel lt0) (trodAll_cons_mk (shut_string Tryz.underlying9 y1) trodAll_mk0)), rfl, bel.frame _, fun h => by cases h⟩

def arg0 : Value := .agg #[.int .i64 0, .int .i64 0, .string ⟨#[]⟩, .slice none 0 0]
theorem laid_met (os : Os) : laidMet Tryz.prog Rows.kindNamesUptoRow.laid ((World.laidAll Tryz.prog os Rows.kindNamesUptoRow.laid).forCall (fun _ _ => 0) ⟨#[], #[arg0, .string .empty], []⟩).memory :=
  laidMet_laidAll _ (by kernel_rfl) (by kernel_rfl)
theorem reads (os : Os) {H : Type} (enc : TypeId × Value → H) : ∃ places, DataW.whole enc Tryz.prog ((World.laidAll Tryz.prog os Rows.kindNamesUptoRow.laid).forCall (fun _ _ => 0) ⟨#[], #[arg0, .string .empty], []⟩).memory Tryz.f8.params.toList Rows.kindNamesSpec.vars false #[arg0, Value.string .empty].toList 8 = some ([.agg [.lit (.int .i64 0), .lit (.int .i64 0), .lit (.string []), .nil], .lit (.string [])], [], places) :=
  ⟨[], by kernel_rfl⟩

set_option maxRecDepth 100000 in
theorem liftedUpto (os : Os) (started : os.Started) (H : Type) (enc : TypeId × Value → H) (F : Stop.Interp) :
    ReturnsInHanded {} Tryz.checked os 8 .any ((Rows.OpenSpec.upto Rows.kindNamesSpec).preRow enc Tryz.prog Tryz.f8 Rows.kindNamesUptoRow.domain false Rows.kindNamesUptoRow.laid) (((Rows.OpenSpec.upto Rows.kindNamesSpec).at F).post enc Tryz.prog Tryz.f8 false true false false) := by
  obtain ⟨places, hx⟩ := reads os enc
  refine returnsInHanded_of_row (C := Tryz.checked) (s := Rows.OpenSpec.upto Rows.kindNamesSpec) own started (by kernel_rfl) Tryz.func8
    (witness_row_at (enc := enc) (C := Tryz.checked) false (World.laidAll Tryz.prog os Rows.kindNamesUptoRow.laid) #[arg0, .string .empty] (World.laidAll_os _ _ _) (by kernel_rfl) (by kernel_rfl) (by kernel_rfl)
      (OpenSpec.preRow_of_cond 8 hx (by kernel_rfl) (fun k hk => by cases hk; kernel_rfl) (by kernel_rfl) (laid_met os))) ?_
  intro W base args ds gs before hval hW _ hk _ _ _ _
  exact contract H enc W base args ds gs before hval hW (hk _ rfl)

theorem saidUpto : Rows.KindNamesUptoSaid :=
  OpenClaim.holds_of_cond 8 Tryz.f8 rfl rfl rfl rfl rfl rfl rfl ⟨rfl, rfl, rfl, rfl, rfl⟩ rfl rfl rfl rfl rfl (by kernel_rfl) Tryz.func8 (by kernel_rfl)
    (of_decide_eq_true (by kernel_rfl)) (by unfold Func.isWrapper; first | (rw [if_pos (by decide +kernel)]; kernel_rfl) | (rw [if_neg (by decide +kernel)]; exact ⟨rfl, rfl⟩))
    (fun os started H enc _ F => by rw [OpenClaim.pre_eq_preRow]; exact liftedUpto os started H enc F)

theorem plain (f : FuncId) (fn : Func) (hf : Tryz.pinned.checked.prog.funcNamed "plinth/plinthlaw03.KindNames" = some f) (hfn : Tryz.pinned.checked.prog.funcs[f]? = some fn) :
    true = Tryz.pinned.checked.prog.looks [] ∧ ∀ (j : Nat) t, fn.params[j]? = some t → Tryz.pinned.checked.prog.wantsStandIn t = false := by
  obtain rfl : f = 8 := Option.some.inj ((show Tryz.prog.funcNamed "plinth/plinthlaw03.KindNames" = some 8 by kernel_rfl).symm.trans hf) |>.symm
  obtain rfl : fn = Tryz.f8 := (Option.some.inj (Tryz.func8.symm.trans hfn)).symm
  refine ⟨by kernel_rfl, fun j t ht => ?_⟩
  rw [Tryz.params8] at ht
  have hm : t ∈ [24, 9] := by simpa using Array.mem_of_getElem? ht
  have hall : ([24, 9].all fun u => !Tryz.prog.wantsStandIn u) = true := by kernel_rfl
  exact (show Tryz.prog.wantsStandIn t = false by simpa using List.all_eq_true.1 hall t hm)

theorem cardUpto : Rows.KindNamesUptoCardSaid :=
  Claim7.holds_tied_plain_at .later [] _ _ _ _ saidUpto (fun _ h => by cases h) (by kernel_rfl) (fun _ h => by cases h) kindNamesUpto_row_tie rfl ⟨rfl, rfl⟩ (by kernel_rfl) rfl plain (by kernel_rfl)
#print axioms cardUpto
end Go.Proofs.YtcjmplpfebpfpaaGreatDoor.kindNames
namespace Go.Proofs.YtcjmplpfebpfpaaGreatDoor
/-- The card, under a short name, for the claim. -/
theorem kindNames_holds : Rows.KindNamesUptoCardSaid := kindNames.cardUpto
end Go.Proofs.YtcjmplpfebpfpaaGreatDoor
