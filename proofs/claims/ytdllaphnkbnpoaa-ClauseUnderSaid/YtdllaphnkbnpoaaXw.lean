/- Walks over package clause: Under. -/
import Derived.Test.YtdllaphnkbnpoaaXv
import Derived.Test.YtdllaphnkbnpoaaXu
import Derived.Test.YtdllaphnkbnpoaaXs
import Derived.Test.YtdllaphnkbnpoaaXk
import Derived.Deep.RegionHeld3
namespace Go.Proofs.Ytdllaphnkbnpoaa
open Go.RowKit Go.Proofs

/-- What stays whatever becomes of these blocks. -/
def KeepX (X : List Nat) (w' : World) (p : World → Prop) : Prop :=
  ∀ W : World, w'.heap.size ≤ W.heap.size → (∀ b, b ∉ X → b < w'.heap.size → W.heap[b]? = w'.heap[b]?) → p W
theorem KeepX.step {X : List Nat} {w w2 : World} {p : World → Prop} (h : KeepX X w p) (hs : w.heap.size ≤ w2.heap.size) (hb : ∀ b, b ∉ X → b < w.heap.size → w2.heap[b]? = w.heap[b]?) : KeepX X w2 p :=
  fun W h1 h2 => h W (Nat.le_trans hs h1) (fun b hx hl => (h2 b hx (Nat.lt_of_lt_of_le hl hs)).trans (hb b hx hl))
theorem KeepX.below {X : List Nat} {w w2 : World} {p : World → Prop} (h : KeepX X w p) (B : Below w.heap.size w w2) : KeepX X w2 p := KeepX.step h B.size (fun b _ hl => B.block b hl)
theorem keep_row {X : List Nat} {lo : Nat} {w' : World} {v : Value} {xs : List Int} (H : Holds lo w' (locs (.row v 3 (ints xs)))) (hX : ∀ b ∈ X, b < lo ∨ w'.heap.size ≤ b) : KeepX X w' (fun W => Lies W.heap.size W (ad v) xs) :=
  fun W _ hb => row_lies (H.other (w' := W) (fun b h1 h2 => hb b (fun hm => by have := hX b hm; omega) h2)) (k := .loc 0) rfl
theorem KeepX.now {X : List Nat} {w : World} {p : World → Prop} (h : KeepX X w p) : p w := h w (Nat.le_refl _) (fun _ _ _ => rfl)

def AnsX (D : List (List Int)) (X : List Nat) (w' : World) (a : Value) : Prop :=
  ∀ W : World, w'.heap.size ≤ W.heap.size → (∀ b, b ∉ X → b < w'.heap.size → W.heap[b]? = w'.heap[b]?) → AnsAt D W a
theorem AnsK.x {D : List (List Int)} {lo : Nat} {w' : World} {a : Value} {X : List Nat} (h : AnsK D lo w' a) (hX : ∀ b ∈ X, b < lo ∨ w'.heap.size ≤ b) : AnsX D X w' a :=
  fun W hs hb => h W hs (fun b h1 h2 => hb b (fun hm => by have := hX b hm; omega) h2)
theorem AnsX.step {D : List (List Int)} {X : List Nat} {w w2 : World} {a : Value} (h : AnsX D X w a) (hs : w.heap.size ≤ w2.heap.size) (hb : ∀ b, b ∉ X → b < w.heap.size → w2.heap[b]? = w.heap[b]?) : AnsX D X w2 a :=
  fun W h1 h2 => h W (Nat.le_trans hs h1) (fun b hx hl => (h2 b hx (Nat.lt_of_lt_of_le hl hs)).trans (hb b hx hl))
theorem AnsX.below {D : List (List Int)} {X : List Nat} {w w2 : World} {a : Value} (h : AnsX D X w a) (B : Below w.heap.size w w2) : AnsX D X w2 a := h.step B.size (fun b _ hl => B.block b hl)

theorem cloneL_any {w : World} {A : Option Addr} {xs : List Int} {c : Nat} (h : Lies w.heap.size w A xs) (h6 : xs.length ≤ 60000) :
    Calls Try.prog 39 #[.slice A xs.length c] w fun e w' => ∃ v, e = .returned (.slice (ad v) xs.length (cp v)) ∧ Holds w.heap.size w' (locs (.row v 3 (ints xs))) ∧ Below w.heap.size w w' := by
  rcases Nat.eq_zero_or_pos xs.length with h0 | hp
  · obtain rfl := List.eq_nil_of_length_eq_zero h0
    cases A with
    | none =>
      refine (Try.slices_Clone_int_nil 0 c w).mono ?_
      rintro e w' ⟨rfl, rfl⟩
      exact ⟨.slice none 0 0, rfl, nil_put (Holds.nothing _ _) (Nat.le_refl _) (.loc 0) 3, Below.refl _ _⟩
    | some a =>
      refine (Try.slices_Clone_int_zero a c w).mono ?_
      rintro e w' ⟨v', rfl, ho, _, B⟩
      have H := (Holds.nothing w.heap.size w).laid (.loc 0) ho rfl B (Nat.le_refl _)
      have e1 : upd (fun _ => Res.non) (.loc 0) (.row v' 3 []) = locs (.row v' 3 (ints [])) := rfl
      rw [e1] at H
      have hs := H.sl (k := .loc 0) rfl
      exact ⟨v', congrArg Ending.returned hs, H, B⟩
  · exact cloneI_any h hp h6

theorem erase_at (pre post : List Int) (x : Int) : (pre ++ x :: post).take pre.length ++ (pre ++ x :: post).drop (pre.length + 1) = pre ++ post := by
  rw [List.take_left]
  congr 1
  simp [List.drop_append]

theorem results_cell3 {fn : Func} {p u q : Tmp} {ty : TypeId} (h : fn.results = #[.cell p ty, .tmp u, .tmp q]) (tmps : Array Value) (P : Program) (w : World) :
    (results fn tmps).run P w = ((asAddr (tmps.getD p undef)).run P w).andThen fun a w₁ => ((loadVar ty a).run P w₁).andThen fun v w₂ => .ok (.tuple #[v, tmps.getD u undef, tmps.getD q undef]) w₂ := by
  simp only [results, h]
  simp [Sem.run_bind, Result.andThen]
set_option maxRecDepth 100000 in
theorem results_three {fn : Func} (hfn : fn.results = #[.cell 6 30, .tmp 7, .tmp 8]) {W : World} {g : Nat} {cs : List Value} (H : Holds g W (one g cs 30)) (hl : cs.length = 4) (tmps : Array Value) {e d : Value} (h4 : tmps.getD 6 undef = .pointer (some ⟨g, 0, none⟩)) (h5 : tmps.getD 7 undef = e) (h6 : tmps.getD 8 undef = d) :
    (results fn tmps).run Try.prog W = .ok (.tuple #[.agg cs.toArray, e, d]) W := by
  have hg : W.heap[g]? = some (.cells cs.toArray 30 (0, 0)) := H.holds .st
  have hi : (Try.prog.info? 30).map (·.size) = some 4 := by kernel_rfl
  have ha : (asAddr (tmps.getD 6 undef)).run Try.prog W = .ok ⟨g, 0, none⟩ W := by rw [h4]; rfl
  rw [results_cell3 (p := 6) (u := 7) (q := 8) (ty := 30) hfn, h5, h6, ha]
  show ((loadVar 30 ⟨g, 0, none⟩).run Try.prog W).andThen _ = _
  rw [run_loadVar_row W g 30 30 cs.toArray (0, 0) _ hg Try.underlying30 rfl (by rw [List.size_toArray, hl]; exact hi)]
  rfl

/-- A block of four cells is written. -/
def set4 (w : World) (g : Nat) (a b c d : Value) : World := (((w.setCell ⟨g, 0, none⟩ a).setCell ⟨g, 1, none⟩ b).setCell ⟨g, 2, none⟩ c).setCell ⟨g, 3, none⟩ d
theorem set4_one {w : World} {g : Nat} {x0 x1 x2 x3 : Value} (H : Holds g w (one g [x0, x1, x2, x3] 30)) (a b c d : Value) : Holds g (set4 w g a b c d) (one g [a, b, c, d] 30) :=
  one_set (one_set (one_set (one_set H 0 a) 1 b) 2 c) 3 d
theorem set4_below {base : Nat} {w0 w : World} (B : Below base w0 w) {g : Nat} (hg : base ≤ g) (a b c d : Value) : Below base w0 (set4 w g a b c d) :=
  (((B.setCell (p := ⟨g, 0, none⟩) hg a).setCell (p := ⟨g, 1, none⟩) hg b).setCell (p := ⟨g, 2, none⟩) hg c).setCell (p := ⟨g, 3, none⟩) hg d
theorem set4_block {w : World} {g : Nat} (a b c d : Value) {n : Nat} (h : n ≠ g) : (set4 w g a b c d).heap[n]? = w.heap[n]? := by
  unfold set4
  rw [Below.heap_setCell _ ⟨g, 3, none⟩ _ n h, Below.heap_setCell _ ⟨g, 2, none⟩ _ n h, Below.heap_setCell _ ⟨g, 1, none⟩ _ n h, Below.heap_setCell _ ⟨g, 0, none⟩ _ n h]
theorem set4_size {w : World} {g : Nat} (a b c d : Value) : w.heap.size ≤ (set4 w g a b c d).heap.size := (set4_below (Below.refl 0 w) (Nat.zero_le g) a b c d).size

def zeroCells : List Value := [.bool false, .slice none 0 0, .slice none 0 0, .int .i64 0]

/-- What Under answers. -/
def UnderRes (c : List (List Int)) (l : List Int) (w : World) (e : Ending) (w' : World) : Prop :=
  Below w.heap.size w w' ∧
    (((l.all isLit = false ∨ twiceM l = true) ∧ e = .returned (.tuple #[zeroAnswer, .slice none 0 0, .int .i64 1])) ∨
     (l.all isLit = true ∧ twiceM l = false ∧ satOf (withM c (sortedM l)) [] = true ∧ ∃ a, e = .returned (.tuple #[a, .slice none 0 0, .int .i64 0]) ∧ AnsAt (withM c (sortedM l)) w' a) ∨
     (l.all isLit = true ∧ twiceM l = false ∧ satOf (withM c (sortedM l)) [] = false ∧ ∃ a A' c', e = .returned (.tuple #[a, .slice A' (undM c [] (sortedM l)).length c', .int .i64 0]) ∧ (undM c [] (sortedM l)).length ≤ c' ∧ Lies w'.heap.size w' A' (undM c [] (sortedM l)) ∧ AnsAt (withM c (undM c [] (sortedM l))) w' a))

def PuRel (w : World) (g : Nat) (c : List (List Int)) (T : List Int) (k : Nat) (x10 x13 : Value) (wr : World) : Prop :=
  ∃ (pre post : List Int) (A' : Option Addr) (c' : Nat) (A1 : Option Addr) (n1 c1 : Nat) (A2 : Option Addr) (n2 c2 : Nat) (st : Int),
    x10 = .slice A' (pre ++ post).length c' ∧ x13 = .int .i64 (pre.length : Int) ∧ k = post.length ∧ (pre ++ post).length ≤ 12 ∧ (pre ++ post).length ≤ c' ∧ (∀ x ∈ pre ++ post, x ≠ 0 ∧ x.natAbs ≤ 200) ∧ KeepX [w.heap.size, g] wr (fun W => Lies W.heap.size W A' (pre ++ post)) ∧
    Holds w.heap.size wr (one w.heap.size zeroCells 30) ∧ Holds g wr (one g [.bool false, .slice A1 n1 c1, .slice A2 n2 c2, .int .i64 st] 30) ∧
    AnsX (withM c (pre ++ post)) [w.heap.size, g] wr (.agg #[.bool false, .slice A1 n1 c1, .slice A2 n2 c2, .int .i64 st]) ∧ Below w.heap.size w wr ∧ undM c pre post = T

set_option maxRecDepth 100000 in
set_option maxHeartbeats 4000000 in
theorem under_any {c : List (List Int)} {occ : List Nat} (h : Legal c occ) (hocc : ∀ n ∈ occ, n ≤ 200) {w : World} {A A2 : Option Addr} {l : List Int} {cc c2 : Nat} (hA : LiesR w.heap.size w A c) (h2 : Lies w.heap.size w A2 l) (hl : l.length ≤ 12) :
    Calls Try.prog 23 #[.slice A c.length cc, .slice A2 l.length c2, .int .i64 400000] w (UnderRes c l w) := by
  obtain ⟨w1, hw1, s1, B1, K1⟩ := ans_var w
  have hc60 := h.len
  have hask : askedM c 400000 = 0 := by
    unfold askedM
    rw [check_ok h, if_neg (by simp), if_neg (by omega)]
  have C1 := asked_any (c := cc) (fuel := 400000) ((hA.below B1).mono B1.size) (Nat.le_refl _) (by omega) (fun j hj => by have := h.row _ (row_ne c [] hj); omega)
  rw [hask] at C1
  have BL : Hid (∀ W, Below w1.heap.size w1 W → Below w.heap.size w W) := fun W hW => B1.trans (hW.mono B1.size)
  have C2 : Hid (∀ W, Below w1.heap.size w1 W → Calls Try.prog 46 #[.slice A2 l.length c2] W fun e w' => e = .returned (.bool (l.all isLit)) ∧ Below W.heap.size W w') := fun W hW =>
    areLiterals_any ((h2.below (BL.out W hW)).mono (BL.out W hW).size) (Nat.le_refl _) (by omega)
  have C3 : Hid ((∀ x ∈ l, -60000 ≤ x ∧ x ≤ 60000) → ∀ W, Below w1.heap.size w1 W → Calls Try.prog 47 #[.slice A2 l.length c2] W fun e w' => e = .returned (.bool (twiceM l)) ∧ Below W.heap.size W w') := fun hb W hW =>
    pTwice_any ((h2.below (BL.out W hW)).mono (BL.out W hW).size) (by omega) hb
  have HW : Hid _ := hw1
  have KZ : Hid (∀ W, Below w1.heap.size w1 W → Holds w.heap.size W (one w.heap.size zeroCells 30)) := K1
  have S1 : Hid (w1.heap.size = w.heap.size + 1) := s1
  cases hq : l.all isLit with
  | false =>
    have cx := C2.out
    rw [hq] at cx
    have C2h : Hid _ := cx
    have HQ : Hid (l.all isLit = false) := hq
    clear h hocc hA h2 hw1 s1 B1 K1 hask C2 C3 cx hq
    unfold UnderRes zeroAnswer
    go_enter Try.func23, Try.ntmps23
    go_wp2_with fail
    rw [← HW.out]
    refine C1.mono ?_
    rintro e w2 ⟨rfl, B2⟩
    have cx := C2h.out w2 B2
    have B2h : Hid _ := B2
    clear C1 B2 C2h
    go_wp2_with fail
    refine cx.mono ?_
    rintro e w3 ⟨rfl, B3⟩
    have B3h : Hid (Below w1.heap.size w1 w3) := B2h.out.trans (B3.mono B2h.out.size)
    have K4 := KZ.out w3 B3h.out
    have k0 := K4.cell (k := .st) rfl 0 rfl
    have k1 := K4.cell (k := .st) rfl 1 rfl
    have k2 := K4.cell (k := .st) rfl 2 rfl
    have k3 := K4.cell (k := .st) rfl 3 rfl
    have f0 := K4.cellFree (k := .st) rfl 0
    have f1 := K4.cellFree (k := .st) rfl 1
    have f2 := K4.cellFree (k := .st) rfl 2
    have f3 := K4.cellFree (k := .st) rfl 3
    have KE : Hid _ := set4_one K4 (.bool false) (.slice none 0 0) (.slice none 0 0) (.int .i64 0)
    have BE : Hid _ := set4_below (BL.out w3 B3h.out) (Nat.le_refl w.heap.size) (.bool false) (.slice none 0 0) (.slice none 0 0) (.int .i64 0)
    clear cx B3 K4
    go_wp2_with fail
    have HR := results_three (fn := Try.f23) rfl KE.out rfl
    exact bodyPost_ret (HR _ rfl rfl rfl) rfl ⟨BE.out, .inl ⟨.inl HQ.out, rfl⟩⟩
  | true =>
    have cx := C2.out
    rw [hq] at cx
    have C2h : Hid _ := cx
    have HQ : Hid (l.all isLit = true) := hq
    have ll := lit_small hq
    have cy := C3.out (fun x hx => by have := ll x hx; omega)
    cases ht : twiceM l with
    | true =>
      rw [ht] at cy
      have C3h : Hid _ := cy
      have HT : Hid (twiceM l = true) := ht
      clear h hocc hA h2 hw1 s1 B1 K1 hask C2 C3 cx cy hq ht ll
      unfold UnderRes zeroAnswer
      go_enter Try.func23, Try.ntmps23
      go_wp2_with fail
      rw [← HW.out]
      refine C1.mono ?_
      rintro e w2 ⟨rfl, B2⟩
      have cx := C2h.out w2 B2
      have B2h : Hid _ := B2
      clear C1 B2 C2h
      go_wp2_with fail
      refine cx.mono ?_
      rintro e w3 ⟨rfl, B3⟩
      have B3h : Hid (Below w1.heap.size w1 w3) := B2h.out.trans (B3.mono B2h.out.size)
      have cy := C3h.out w3 B3h.out
      clear cx B3 C3h
      go_wp2_with fail
      refine cy.mono ?_
      rintro e w4 ⟨rfl, B4⟩
      have B4h : Hid (Below w1.heap.size w1 w4) := B3h.out.trans (B4.mono B3h.out.size)
      have K4 := KZ.out w4 B4h.out
      have k0 := K4.cell (k := .st) rfl 0 rfl
      have k1 := K4.cell (k := .st) rfl 1 rfl
      have k2 := K4.cell (k := .st) rfl 2 rfl
      have k3 := K4.cell (k := .st) rfl 3 rfl
      have kf0 := K4.cellFree (k := .st) rfl 0
      have kf1 := K4.cellFree (k := .st) rfl 1
      have kf2 := K4.cellFree (k := .st) rfl 2
      have kf3 := K4.cellFree (k := .st) rfl 3
      have KE : Hid _ := set4_one K4 (.bool false) (.slice none 0 0) (.slice none 0 0) (.int .i64 0)
      have BE : Hid _ := set4_below (BL.out w4 B4h.out) (Nat.le_refl w.heap.size) (.bool false) (.slice none 0 0) (.slice none 0 0) (.int .i64 0)
      clear cy B4 K4
      go_wp2_with fail
      have HR := results_three (fn := Try.f23) rfl KE.out rfl
      exact bodyPost_ret (HR _ rfl rfl rfl) rfl ⟨BE.out, .inl ⟨.inr HT.out, rfl⟩⟩
    | false =>
      rw [ht] at cy
      have C3h : Hid _ := cy
      have HT : Hid (twiceM l = false) := ht
      have hnd : (l.map Int.natAbs).Nodup := by
        unfold twiceM at ht
        have := of_decide_eq_false ht
        exact Classical.byContradiction this
      have LLs : Hid (∀ x ∈ sortedM l, x ≠ 0 ∧ x.natAbs ≤ 200) := fun x hx => ll x ((sortedM_has l x).1 hx)
      have C4 : Hid (∀ W, Below w1.heap.size w1 W → Calls Try.prog 39 #[.slice A2 l.length c2] W fun e w' => ∃ v, e = .returned (.slice (ad v) l.length (cp v)) ∧ Holds W.heap.size w' (locs (.row v 3 (ints l))) ∧ Below W.heap.size W w') := fun W hW =>
        cloneL_any ((h2.below (BL.out W hW)).mono (BL.out W hW).size) (by omega)
      have C5 : Hid (∀ (base : Nat) (W : World) (v : Value), Holds base W (locs (.row v 3 (ints l))) → base ≤ W.heap.size → Calls Try.prog 48 #[.slice (ad v) l.length (cp v), .func (.func 49) #[] #[]] W fun e w' => e = .returned (.tuple #[]) ∧ Below base W w' ∧ Holds base w' (locs (.row (.slice (ad v) (sortedM l).length (cp v)) 3 (ints (sortedM l)))) ∧ (sortedM l).length = l.length) := fun base W v H hb => sort_bv H hb (fun x hx => (ll x hx).2) hnd (by omega)
      have C6 : Hid (∀ (ls : List Int) (W : World) (A9 : Option Addr) (c9 : Nat), Below w.heap.size w W → ls.length ≤ 12 → Lies W.heap.size W A9 ls → Calls Try.prog 50 #[.slice A c.length cc, .slice A9 ls.length c9] W (WithRes c ls W)) := fun ls W A9 c9 hW hls hL =>
        pWith_any ((hA.below hW).mono hW.size) hL (by omega) (by omega)
      have C7 : Hid (∀ (ls : List Int) (W : World) (A9 : Option Addr) (c9 : Nat), ls.length ≤ 12 → (∀ x ∈ ls, x ≠ 0 ∧ x.natAbs ≤ 200) → LiesR W.heap.size W A9 (withM c ls) → Calls Try.prog 34 #[.slice A9 (withM c ls).length c9, .int .i64 400000] W (RunU (withM c ls) W)) := fun ls W A9 c9 h1 h2' h3 =>
        run_u (f := 400000) (legal2_with h h1 h2') hocc h3 (by omega) (by omega)
      clear h hocc hA h2 hw1 s1 B1 K1 hask C2 C3 cx cy hq ht ll hnd hc60
      unfold UnderRes
      obtain ⟨T, hTd⟩ : ∃ T, T = undM c [] (sortedM l) := ⟨_, rfl⟩
      rw [← hTd]
      have TD : Hid _ := hTd
      clear hTd
      go_enter Try.func23, Try.ntmps23
      go_wp2_with fail
      rw [← HW.out]
      refine C1.mono ?_
      rintro e w2 ⟨rfl, B2⟩
      have cx := C2h.out w2 B2
      have B2h : Hid _ := B2
      clear C1 B2 C2h
      go_wp2_with fail
      refine cx.mono ?_
      rintro e w3 ⟨rfl, B3⟩
      have B3h : Hid (Below w1.heap.size w1 w3) := B2h.out.trans (B3.mono B2h.out.size)
      have cy := C3h.out w3 B3h.out
      clear cx B3 C3h
      go_wp2_with fail
      refine cy.mono ?_
      rintro e w4 ⟨rfl, B4⟩
      have B4h : Hid (Below w1.heap.size w1 w4) := B3h.out.trans (B4.mono B3h.out.size)
      have cz := C4.out w4 B4h.out
      clear cy B4 C4
      go_wp2_with fail
      refine cz.mono ?_
      rintro e w5 ⟨v5, rfl, H5, B5⟩
      have B5h : Hid (Below w1.heap.size w1 w5) := B4h.out.trans (B5.mono B4h.out.size)
      have c5 := C5.out w4.heap.size w5 v5 H5 B5.size
      have B45 : Hid (Below w4.heap.size w4 w5) := B5
      clear cz H5 B5 C5
      go_wp2_with fail
      refine c5.mono ?_
      rintro e w6 ⟨rfl, B6, H6, hsl⟩
      have B6h : Hid (Below w1.heap.size w1 w6) := B5h.out.trans (B6.mono B4h.out.size)
      have K6L : Hid (∀ X : List Nat, (∀ b ∈ X, b < w4.heap.size ∨ w6.heap.size ≤ b) → KeepX X w6 (fun W => Lies W.heap.size W (ad v5) (sortedM l))) := fun X hX => keep_row (v := .slice (ad v5) (sortedM l).length (cp v5)) H6 hX
      have W14 : Hid (w1.heap.size ≤ w4.heap.size) := B4h.out.size
      have L6 : Hid (Lies w6.heap.size w6 (ad v5) (sortedM l)) := row_lies (v := .slice (ad v5) (sortedM l).length (cp v5)) H6 (k := .loc 0) rfl
      have c6 := C6.out (sortedM l) w6 (ad v5) (cp v5) (BL.out _ B6h.out) (by omega) L6.out
      rw [hsl] at c6
      have SL : Hid _ := hsl
      have CAP5 : Hid ((sortedM l).length ≤ cp v5) := by
        have := H6.cap (k := .loc 0) (v := .slice (ad v5) (sortedM l).length (cp v5)) (t := 3) (xs := ints (sortedM l)) rfl
        rwa [ints_length] at this
      clear B6 H6 hsl c5
      generalize ad v5 = A5 at *
      generalize cp v5 = cap5 at *
      go_wp2_with fail
      refine c6.mono ?_
      rintro e w7 ⟨B7, A7, c7, rfl, L7, _⟩
      have B7h : Hid (Below w1.heap.size w1 w7) := B6h.out.trans (B7.mono B6h.out.size)
      have B67 : Hid (Below w6.heap.size w6 w7) := B7
      have r7 := C7.out (sortedM l) w7 A7 c7 (by rw [SL.out]; exact hl) LLs.out L7
      clear c6 B7 L7
      go_wp2_with fail
      refine r7.mono ?_
      rintro e w8 ⟨B8, A1, n1, c1, A3, n3, c3, st, rfl, hK⟩
      have B8h : Hid (Below w1.heap.size w1 w8) := B7h.out.trans (B8.mono B7h.out.size)
      have B68 : Hid (Below w6.heap.size w6 w8) := B67.out.trans (B8.mono B67.out.size)
      have hw68 : w1.heap.size ≤ w7.heap.size := B7h.out.size
      have hw78 : w7.heap.size ≤ w8.heap.size := B8.size
      have HK : Hid _ := hK
      clear r7 B8 hK
      cases hb : satOf (withM c (sortedM l)) [] with
      | true =>
        rw [hb] at HK
        have HB : Hid _ := hb
        have hz1 : w1.heap.size ≤ w8.heap.size := Nat.le_trans hw68 hw78
        have B9 := B8h.out.alloc hz1 (.cells #[.bool true, .slice A1 n1 c1, .slice A3 n3 c3, .int .i64 st] 30)
        have K4 := KZ.out _ B9
        have k0 := K4.cell (k := .st) rfl 0 rfl
        have k1 := K4.cell (k := .st) rfl 1 rfl
        have k2 := K4.cell (k := .st) rfl 2 rfl
        have k3 := K4.cell (k := .st) rfl 3 rfl
        have kf0 := K4.cellFree (k := .st) rfl 0
        have kf1 := K4.cellFree (k := .st) rfl 1
        have kf2 := K4.cellFree (k := .st) rfl 2
        have kf3 := K4.cellFree (k := .st) rfl 3
        have KE : Hid _ := set4_one K4 (.bool true) (.slice A1 n1 c1) (.slice A3 n3 c3) (.int .i64 st)
        have BE : Hid _ := set4_below (BL.out _ B9) (Nat.le_refl w.heap.size) (.bool true) (.slice A1 n1 c1) (.slice A3 n3 c3) (.int .i64 st)
        have AE : Hid (AnsAt (withM c (sortedM l)) (set4 (w8.alloc (.cells #[.bool true, .slice A1 n1 c1, .slice A3 n3 c3, .int .i64 st] 30)) w.heap.size (.bool true) (.slice A1 n1 c1) (.slice A3 n3 c3) (.int .i64 st)) (.agg #[.bool true, .slice A1 n1 c1, .slice A3 n3 c3, .int .i64 st])) :=
          HK.out _ (Nat.le_trans (by rw [size_alloc]; omega) (set4_size _ _ _ _)) (fun b h1 h2 => by rw [set4_block _ _ _ _ (by have := S1.out; omega), heap_alloc_old _ _ h2])
        clear B9 K4 hb
        go_wp2_with fail
        have HR := results_three (fn := Try.f23) rfl KE.out rfl
        exact bodyPost_ret (HR _ rfl rfl rfl) rfl ⟨BE.out, .inr (.inl ⟨HQ.out, HT.out, HB.out, _, rfl, AE.out⟩)⟩
      | false =>
        rw [hb] at HK
        have HB : Hid _ := hb
        have hz1 : w1.heap.size ≤ w8.heap.size := Nat.le_trans hw68 hw78
        have B9 := B8h.out.alloc hz1 (.cells #[.bool false, .slice A1 n1 c1, .slice A3 n3 c3, .int .i64 st] 30)
        have s9 := size_alloc w8 (.cells #[.bool false, .slice A1 n1 c1, .slice A3 n3 c3, .int .i64 st] 30)
        have KG : Holds w8.heap.size (w8.alloc (.cells #[.bool false, .slice A1 n1 c1, .slice A3 n3 c3, .int .i64 st] 30)) (one w8.heap.size [.bool false, .slice A1 n1 c1, .slice A3 n3 c3, .int .i64 st] 30) := one_holds (alloc_at _ _)
        have AX : AnsX (withM c (sortedM l)) [w.heap.size, w8.heap.size] (w8.alloc (.cells #[.bool false, .slice A1 n1 c1, .slice A3 n3 c3, .int .i64 st] 30)) (.agg #[.bool false, .slice A1 n1 c1, .slice A3 n3 c3, .int .i64 st]) :=
          AnsX.below (AnsK.x (lo := w7.heap.size) (X := [w.heap.size, w8.heap.size]) HK.out (fun b hb' => by
            rcases List.mem_cons.1 hb' with rfl | hb'
            · left; have := S1.out; omega
            · rw [List.mem_singleton] at hb'; right; omega)) ((Below.refl _ _).alloc (Nat.le_refl _) _)
        have BB : Below w6.heap.size w6 (w8.alloc (.cells #[.bool false, .slice A1 n1 c1, .slice A3 n3 c3, .int .i64 st] 30)) := B68.out.alloc B68.out.size _
        have start : Hid (PuRel w w8.heap.size c T (sortedM l).length (.slice A5 l.length cap5) (.int .i64 ((0 : Nat) : Int)) (w8.alloc (.cells #[.bool false, .slice A1 n1 c1, .slice A3 n3 c3, .int .i64 st] 30))) :=
          ⟨[], sortedM l, A5, cap5, A1, n1, c1, A3, n3, c3, st, by rw [List.nil_append, SL.out], rfl, rfl, by rw [List.nil_append, SL.out]; exact hl, CAP5.out, LLs.out, KeepX.below (K6L.out [w.heap.size, w8.heap.size] (fun b hb' => by
            rcases List.mem_cons.1 hb' with rfl | hb'
            · left; have := S1.out; have := W14.out; omega
            · rw [List.mem_singleton] at hb'; right; have := B68.out.size; omega)) BB, KZ.out _ B9, KG, AX, BL.out _ B9, TD.out.symm⟩
        have GS : Hid (w.heap.size < w8.heap.size) := by have := S1.out; show _ < _; omega
        clear B9 KG AX BB hb HK s9
        go_wp2_with fail
        generalize w8.alloc (.cells #[.bool false, .slice A1 n1 c1, .slice A3 n3 c3, .int .i64 st] 30) = w9 at *
        generalize w8.heap.size = g at *
        go_loopg [10, 13] (sortedM l).length (fun k x10 x13 wr => PuRel w g c T k x10 x13 wr)
        case atStart => exact start.out
        case round =>
          clear start
          obtain ⟨pre, post, A', c', B1, m1, d1, B2, m2, d2, st2, rfl, rfl, hk, hp12, hcp, hpl, HL, KZ1, KG1, AX1, BW, hT⟩ := hrel
          cases post with
          | nil =>
            have hk0 : gk = 0 := by simpa using hk
            rw [List.append_nil] at hp12 hcp HL AX1
            have hu : undM c pre [] = pre := by unfold undM; rfl
            rw [hu] at hT
            have k0 := KZ1.cell (k := .st) rfl 0 rfl
            have k1 := KZ1.cell (k := .st) rfl 1 rfl
            have k2 := KZ1.cell (k := .st) rfl 2 rfl
            have k3 := KZ1.cell (k := .st) rfl 3 rfl
            have kf0 := KZ1.cellFree (k := .st) rfl 0
            have kf1 := KZ1.cellFree (k := .st) rfl 1
            have kf2 := KZ1.cellFree (k := .st) rfl 2
            have kf3 := KZ1.cellFree (k := .st) rfl 3
            have q0 := KG1.cell (k := .st) rfl 0 rfl
            have q1 := KG1.cell (k := .st) rfl 1 rfl
            have q2 := KG1.cell (k := .st) rfl 2 rfl
            have q3 := KG1.cell (k := .st) rfl 3 rfl
            have qf0 := KG1.cellFree (k := .st) rfl 0
            have qf1 := KG1.cellFree (k := .st) rfl 1
            have qf2 := KG1.cellFree (k := .st) rfl 2
            have qf3 := KG1.cellFree (k := .st) rfl 3
            have KE : Hid _ := set4_one KZ1 (.bool false) (.slice B1 m1 d1) (.slice B2 m2 d2) (.int .i64 st2)
            have BE : Hid _ := set4_below BW (Nat.le_refl w.heap.size) (.bool false) (.slice B1 m1 d1) (.slice B2 m2 d2) (.int .i64 st2)
            have AE : Hid _ := AX1 (set4 wr w.heap.size (.bool false) (.slice B1 m1 d1) (.slice B2 m2 d2) (.int .i64 st2)) (set4_size _ _ _ _) (fun b hb _ => set4_block _ _ _ _ (fun e => hb (by rw [e]; simp)))
            have LE : Hid _ := HL (set4 wr w.heap.size (.bool false) (.slice B1 m1 d1) (.slice B2 m2 d2) (.int .i64 st2)) (set4_size _ _ _ _) (fun b hb _ => set4_block _ _ _ _ (fun e => hb (by rw [e]; simp)))
            clear KZ1 KG1 AX1 BW HL hpl
            subst hT
            rw [List.append_nil]
            have hp13 : pre.length ≤ 12 := hp12
            have HCP : Hid _ := hcp
            clear hcp
            clear hu TD
            go_wp2_with fail
            have HR := results_three (fn := Try.f23) rfl KE.out rfl
            exact bodyPost_ret (HR _ rfl rfl rfl) rfl ⟨BE.out, .inr (.inr ⟨HQ.out, HT.out, HB.out, _, _, _, rfl, HCP.out, LE.out, AE.out⟩)⟩
          | cons x post =>
            have hkk : gk = post.length + 1 := by simpa using hk
            obtain ⟨m, rfl⟩ : ∃ m, gk = m + 1 := ⟨gk - 1, by omega⟩
            have ER := erase_at pre post x
            have hu : undM c pre (x :: post) = if satOf (withM c (pre ++ post)) [] = true then undM c (pre ++ [x]) post else undM c pre post := by rw [undM]
            rw [hu] at hT
            have PS : Hid ((pre ++ [x]) ++ post = pre ++ x :: post) := by rw [List.append_assoc]; rfl
            have hll : (pre ++ x :: post).length = pre.length + (post.length + 1) := by simp
            have hsl2 : (pre ++ post).length = pre.length + post.length := by simp
            have SB : Hid (∀ y ∈ pre ++ post, y ≠ 0 ∧ y.natAbs ≤ 200) := fun y hy => hpl y (by
              rcases List.mem_append.1 hy with z | z
              · simp [z]
              · simp [z])
            have HPL : Hid _ := hpl
            have HCP : Hid _ := hcp
            clear hcp
            generalize hleft : pre ++ x :: post = left at *
            generalize hless : pre ++ post = less at *
            have HLE : Hid _ := hleft
            have HLS : Hid _ := hless
            have CLO := cloneI_any (c := c') (KeepX.now HL) (by omega) (by omega)
            have DEL : Hid (∀ (W : World) (v : Value), Holds wr.heap.size W (locs (.row v 3 (ints left))) → Calls Try.prog 38 #[.slice (ad v) left.length (cp v), .int .i64 (pre.length : Int), .int .i64 ((pre.length : Int) + 1)] W fun e w' => ∃ v', e = .returned (.slice (ad v') less.length (cp v')) ∧ Below wr.heap.size W w' ∧ Holds wr.heap.size w' (locs (.row v' 3 (ints less)))) := fun W v H => by
              have := delete_own (i := pre.length) H (by omega) (by omega)
              rwa [ER] at this
            have HLh : Hid _ := HL
            have KZh : Hid _ := KZ1
            have KGh : Hid _ := KG1
            have AXh : Hid _ := AX1
            have BWh : Hid _ := BW
            have HTh : Hid _ := hT
            have hlt2 : (pre.length : Int) < (left.length : Int) := by omega
            have hp60 : pre.length ≤ 12 := by omega
            have hs60 : less.length ≤ 12 := by omega
            have hgw : Hid (g < wr.heap.size) := (KG1.lt .st rfl).2
            have hww : Hid (w.heap.size < wr.heap.size) := (KZ1.lt .st rfl).2
            have PML : Hid (pre.length + post.length + 1 ≤ 12) := by show _ ≤ _; omega
            have MK : Hid (m = post.length) := by show _ = _; omega
            clear HL KZ1 KG1 AX1 BW hT hpl ER hleft hless hll hsl2 hu hk hkk
            go_wp2_with fail
            refine CLO.mono ?_
            rintro e x4 ⟨v4, rfl, H4, B4⟩
            have DL := DEL.out x4 v4 H4
            have B4h : Hid _ := B4
            clear CLO DEL H4 B4
            go_wp2_with fail
            refine DL.mono ?_
            rintro e x5 ⟨v5, rfl, B5, H5⟩
            have Br5 : Hid (Below wr.heap.size wr x5) := B4h.out.trans B5
            have KL5 : Hid (KeepX [w.heap.size, g] x5 (fun W => Lies W.heap.size W (ad v5) less)) := keep_row H5 (fun b hb => by
              rcases List.mem_cons.1 hb with rfl | hb
              · exact .inl hww.out
              · rw [List.mem_singleton] at hb; rw [hb]; exact .inl hgw.out)
            have c6 := C6.out less x5 (ad v5) (cp v5) (BWh.out.trans (Br5.out.mono (Nat.le_of_lt hww.out))) hs60 (KeepX.now KL5.out)
            have CAP8 : Hid (less.length ≤ cp v5) := by
              have := H5.cap (k := .loc 0) (t := 3) (xs := ints less) rfl
              rwa [ints_length] at this
            generalize ad v5 = A8 at *
            generalize cp v5 = cap8 at *
            clear DL B5 H5
            go_wp2_with fail
            refine c6.mono ?_
            rintro e x7 ⟨B7, A7, c7, rfl, L7, _⟩
            have Br7 : Hid (Below wr.heap.size wr x7) := Br5.out.trans (B7.mono Br5.out.size)
            have B57 : Hid _ := B7
            have r7 := C7.out less x7 A7 c7 hs60 SB.out L7
            clear c6 B7 L7
            go_wp2_with fail
            refine r7.mono ?_
            rintro e x8 ⟨B8, E1, m1', d1', E2, m2', d2', st3, rfl, hK⟩
            have Br8 : Hid (Below wr.heap.size wr x8) := Br7.out.trans (B8.mono Br7.out.size)
            have B58 : Hid (Below x5.heap.size x5 x8) := B57.out.trans (B8.mono B57.out.size)
            have hx7 : wr.heap.size ≤ x7.heap.size := Br7.out.size
            have hx8 : wr.heap.size ≤ x8.heap.size := Br8.out.size
            have HK : Hid _ := hK
            clear r7 B8 hK
            cases hb2 : satOf (withM c less) [] with
            | true =>
              have HT9 := HTh.out
              rw [hb2, if_pos rfl] at HT9
              have HTT : Hid _ := HT9
              have B9 := Br8.out.alloc hx8 (.cells #[.bool true, .slice E1 m1' d1', .slice E2 m2' d2', .int .i64 st3] 30)
              have KZ9 : Hid _ := KZh.out.other (fun b _ hb => B9.block b hb)
              have KG9 : Hid _ := KGh.out.other (fun b _ hb => B9.block b hb)
              have AX9 : Hid _ := AnsX.below AXh.out B9
              have HL9 : Hid _ := KeepX.below HLh.out B9
              have BW9 : Hid _ := BWh.out.trans (B9.mono (Nat.le_of_lt hww.out))
              rw [hb2] at HK
              clear HT9 hb2 B9 HK
              go_wp2_with fail
              go_roundg m
              case measure => omega
              case rel => exact ⟨pre ++ [x], post, A', c', B1, m1, d1, B2, m2, d2, st2, by rw [PS.out], by simp, MK.out, by rw [PS.out]; exact hp12, by rw [PS.out]; exact HCP.out, by rw [PS.out]; exact HPL.out, by rw [PS.out]; exact HL9.out, KZ9.out, KG9.out, by rw [PS.out]; exact AX9.out, BW9.out, HTT.out⟩
            | false =>
              have HT9 := HTh.out
              rw [hb2, if_neg (by decide)] at HT9
              have HTT : Hid _ := HT9
              rw [hb2] at HK
              have B9 := Br8.out.alloc hx8 (.cells #[.bool false, .slice E1 m1' d1', .slice E2 m2' d2', .int .i64 st3] 30)
              have B59 := B58.out.alloc B58.out.size (.cells #[.bool false, .slice E1 m1' d1', .slice E2 m2' d2', .int .i64 st3] 30)
              have KZ9 := KZh.out.other (fun b _ hb => B9.block b hb)
              have KG9 := KGh.out.other (fun b _ hb => B9.block b hb)
              have q0 := KG9.cell (k := .st) rfl 0 rfl
              have q1 := KG9.cell (k := .st) rfl 1 rfl
              have q2 := KG9.cell (k := .st) rfl 2 rfl
              have q3 := KG9.cell (k := .st) rfl 3 rfl
              have qf0 := KG9.cellFree (k := .st) rfl 0
              have qf1 := KG9.cellFree (k := .st) rfl 1
              have qf2 := KG9.cellFree (k := .st) rfl 2
              have qf3 := KG9.cellFree (k := .st) rfl 3
              have KGE : Hid _ := set4_one KG9 (.bool false) (.slice E1 m1' d1') (.slice E2 m2' d2') (.int .i64 st3)
              have KZE : Hid (Holds w.heap.size (set4 (x8.alloc (.cells #[.bool false, .slice E1 m1' d1', .slice E2 m2' d2', .int .i64 st3] 30)) g (.bool false) (.slice E1 m1' d1') (.slice E2 m2' d2') (.int .i64 st3)) (one w.heap.size zeroCells 30)) := one_holds (by
                rw [set4_block _ _ _ _ (by have := GS.out; omega)]; exact KZ9.holds .st)
              have SX : ∀ b, b ∉ [w.heap.size, g] → b < (x8.alloc (.cells #[.bool false, .slice E1 m1' d1', .slice E2 m2' d2', .int .i64 st3] 30)).heap.size → (set4 (x8.alloc (.cells #[.bool false, .slice E1 m1' d1', .slice E2 m2' d2', .int .i64 st3] 30)) g (.bool false) (.slice E1 m1' d1') (.slice E2 m2' d2') (.int .i64 st3)).heap[b]? = (x8.alloc (.cells #[.bool false, .slice E1 m1' d1', .slice E2 m2' d2', .int .i64 st3] 30)).heap[b]? := fun b hb _ => set4_block _ _ _ _ (fun e => hb (by rw [e]; simp))
              have KLE : Hid _ := (KL5.out.below B59).step (set4_size _ _ _ _) SX
              have AXE : Hid _ := ((AnsK.x (lo := x7.heap.size) (X := [w.heap.size, g]) HK.out (fun b hb' => by
                left
                rcases List.mem_cons.1 hb' with rfl | hb'
                · have := hww.out; omega
                · rw [List.mem_singleton] at hb'; have := hgw.out; omega)).below ((Below.refl _ _).alloc (Nat.le_refl _) (.cells #[.bool false, .slice E1 m1' d1', .slice E2 m2' d2', .int .i64 st3] 30))).step (set4_size _ _ _ _) SX
              have BWE : Hid _ := set4_below (BWh.out.trans (B9.mono (Nat.le_of_lt hww.out))) (Nat.le_of_lt GS.out) (.bool false) (.slice E1 m1' d1') (.slice E2 m2' d2') (.int .i64 st3)
              clear HT9 hb2 B9 B59 HK KZ9 KG9 SX
              go_wp2_with fail
              go_region
              go_wp2_with fail
              go_roundg m
              case measure => omega
              case rel => exact ⟨pre, post, A8, cap8, E1, m1', d1', E2, m2', d2', st3, by rw [HLS.out], rfl, MK.out, by rw [HLS.out]; exact hs60, by rw [HLS.out]; exact CAP8.out, by rw [HLS.out]; exact SB.out, by rw [HLS.out]; exact KeepX.step KLE.out (Nat.le_refl _) (fun _ _ _ => rfl), KZE.out.drew, KGE.out.drew, by rw [HLS.out]; exact AnsX.step AXE.out (Nat.le_refl _) (fun _ _ _ => rfl), BWE.out.drew, HTT.out⟩
end Go.Proofs.Ytdllaphnkbnpoaa
