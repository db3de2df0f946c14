/- Part 3 of what the law's row leans on (Nk): the print's words and functions, cut to what is reached, and own texts. -/
import Derived.BigQuiet
import Derived.Deep.RegionLaw
import Derived.Deep.CutRange
import Derived.Deep.DeepCutAuto
import Derived.Deep.CutBlock
import Derived.Deep.RegionHeld3
import Derived.Lib.SliceRun
import Derived.Defers
import Derived.WalkLawsBesides
import Derived.Laws.Cover1
import Derived.Test.YtcjmplpfebpfpaaGreatDoorNk2
namespace Go.Proofs.YtcjmplpfebpfpaaGreatDoor
open Go.RowKit Go.Proofs Go.Proofs.YtcjmplpfebpfpaaGreatDoorW.PrintWords Go.Proofs.YtcjmplpfebpfpaaGreatDoorW.PrintLast Go.Proofs.YtcjmplpfebpfpaaGreatDoorW.PrintMore PKindInstances
set_option linter.unusedVariables false
set_option linter.unusedSimpArgs false

/-- A form as a value whose parts lie in memory. -/
def FormAt (W0 : World) (v : Value) (x : S24) : Prop := ∃ A c, v = formV x.f0 x.f1 x.f2 A x.f3.length c ∧ Kd.C k24 W0 A x.f3.length x.f3 ∧ x.f3.length ≤ c ∧ wid x < 9000000

/-- What is known of the variables, and the map's entries. -/
def ToAt (W0 : World) : List (ByteArray × S24) → List (ByteArray × Value) → Prop
  | [], [] => True
  | (a, x) :: m, (b, v) :: n => a = b ∧ FormAt W0 v x ∧ ToAt W0 m n
  | _, _ => False

def lookT : List (ByteArray × S24) → ByteArray → Option S24
  | [], _ => none
  | (a, x) :: m, k => if k = a then some x else lookT m k
def putT : List (ByteArray × S24) → ByteArray → S24 → List (ByteArray × S24)
  | [], k, x => [(k, x)]
  | (a, y) :: m, k, x => if k = a then (a, x) :: m else (a, y) :: putT m k x

theorem look_to {W0 : World} : ∀ {m : List (ByteArray × S24)} {n : List (ByteArray × Value)}, ToAt W0 m n → ∀ k, (lookT m k = none ∧ look n k = none) ∨ ∃ x v, lookT m k = some x ∧ look n k = some v ∧ FormAt W0 v x
  | [], [], _, k => .inl ⟨rfl, rfl⟩
  | (a, x) :: m, (b, v) :: n, h, k => by
    obtain ⟨rfl, h1, h2⟩ := h
    by_cases hk : k = a
    · exact .inr ⟨x, v, by simp [lookT, hk], by simp [look, hk], h1⟩
    · rcases look_to h2 k with ⟨e1, e2⟩ | ⟨y, u, e1, e2, e3⟩
      · exact .inl ⟨by simp [lookT, hk, e1], by simp [look, hk, e2]⟩
      · exact .inr ⟨y, u, by simp [lookT, hk, e1], by simp [look, hk, e2], e3⟩
theorem put_to {W0 : World} : ∀ {m : List (ByteArray × S24)} {n : List (ByteArray × Value)}, ToAt W0 m n → ∀ (k : ByteArray) {x : S24} {v : Value}, FormAt W0 v x → ToAt W0 (putT m k x) (putM n k v)
  | [], [], _, k, x, v, h => ⟨rfl, h, trivial⟩
  | (a, y) :: m, (b, u) :: n, h, k, x, v, hx => by
    obtain ⟨rfl, h1, h2⟩ := h
    by_cases hk : k = a
    · simp only [putT, putM, hk, if_true]
      exact ⟨rfl, hx, h2⟩
    · simp only [putT, putM, if_neg hk]
      exact ⟨rfl, h1, put_to h2 k hx⟩

/-- A form with what is known of its outermost variable. -/
def knownM (vs : List ByteArray) (mt : List (ByteArray × S24)) : Nat → S24 → Option S24
  | 0, _ => none
  | n + 1, x => if x.f0 = 1 ∧ x.f2 ∈ vs then (match lookT mt x.f2 with | none => some x | some y => knownM vs mt n y) else some x

/-- What holds of the loop. -/
def KnRel (W0 w : World) (vs : List ByteArray) (mt : List (ByteArray × S24)) (y : S24) (k : Nat) (wr : World) : Prop :=
  ∃ (x : S24) (A : Option Addr) (c : Nat), wr.heap[w.heap.size]? = some (.cells #[.int .i64 x.f0, .int .i64 x.f1, .string x.f2, .slice A x.f3.length c] 24 (0, 0)) ∧
    wr.heap[w.heap.size + 1]? = some (.cells #[.int .i64 0, .int .i64 0, .string ⟨#[]⟩, .slice none 0 0] 24 (0, 0)) ∧
    Kd.C k24 W0 A x.f3.length x.f3 ∧ x.f3.length ≤ c ∧ Below w.heap.size w wr ∧ wid x < 9000000 ∧ knownM vs mt k x = some y

theorem cells4 {w : World} {b : Nat} {v0 v1 v2 v3 : Value} {t : TypeId} (h : w.heap[b]? = some (.cells #[v0, v1, v2, v3] t (0, 0))) :
    w.cell? ⟨b, 0, none⟩ = some v0 ∧ w.cell? ⟨b, 1, none⟩ = some v1 ∧ w.cell? ⟨b, 2, none⟩ = some v2 ∧ w.cell? ⟨b, 3, none⟩ = some v3 := by
  refine ⟨?_, ?_, ?_, ?_⟩ <;> simp [World.cell?, h]
theorem frozen4 {w : World} {b i : Nat} {cs : Array Value} {t : TypeId} (h : w.heap[b]? = some (.cells cs t (0, 0))) : w.frozen? ⟨b, i, none⟩ = false := by
  simp [World.frozen?, h]

theorem set4 {w : World} {b : Nat} {v0 v1 v2 v3 a0 a1 a2 a3 : Value} {t : TypeId} (h : w.heap[b]? = some (.cells #[v0, v1, v2, v3] t (0, 0))) :
    ((((w.setCell ⟨b, 0, none⟩ a0).setCell ⟨b, 1, none⟩ a1).setCell ⟨b, 2, none⟩ a2).setCell ⟨b, 3, none⟩ a3).heap[b]? = some (.cells #[a0, a1, a2, a3] t (0, 0)) :=
  heap_setCell_same _ b 3 #[a0, a1, a2, v3] t a3 (heap_setCell_same _ b 2 #[a0, a1, v2, v3] t a2 (heap_setCell_same _ b 1 #[a0, v1, v2, v3] t a1 (heap_setCell_same w b 0 #[v0, v1, v2, v3] t a0 h)))
theorem below4 {base : Nat} {w0 w : World} {b : Nat} {a0 a1 a2 a3 : Value} (h : Below base w0 w) (hb : base ≤ b) :
    Below base w0 ((((w.setCell ⟨b, 0, none⟩ a0).setCell ⟨b, 1, none⟩ a1).setCell ⟨b, 2, none⟩ a2).setCell ⟨b, 3, none⟩ a3) := (((h.setCell hb _).setCell hb _).setCell hb _).setCell hb _
theorem stay4 {w : World} {b k : Nat} {a0 a1 a2 a3 : Value} (h : k ≠ b) :
    ((((w.setCell ⟨b, 0, none⟩ a0).setCell ⟨b, 1, none⟩ a1).setCell ⟨b, 2, none⟩ a2).setCell ⟨b, 3, none⟩ a3).heap[k]? = w.heap[k]? :=
  (heap_setCell_other _ ⟨b, 3, none⟩ k _ h).trans ((heap_setCell_other _ ⟨b, 2, none⟩ k _ h).trans ((heap_setCell_other _ ⟨b, 1, none⟩ k _ h).trans (heap_setCell_other _ ⟨b, 0, none⟩ k _ h)))
theorem heap_drewN (w : World) (b n : Nat) : (w.drewN n).heap[b]? = w.heap[b]? := by
  induction n generalizing w with
  | zero => rfl
  | succ n ih => exact ih w.drew

theorem look_drewN {base : Nat} {w : World} {sp vb tb : Nat} {vs : List ByteArray} {mt : List (ByteArray × Value)} (h : SolvAt base w sp vb tb (varsV vs) mt) (x : ByteArray) (m : Nat) :
    (Instr.lookup 100 (.map (some vb)) (.string x) false).run Tryz.prog (w.drewN m) = .ok (.bool (decide (x ∈ vs))) (w.drewN m) := by
  have hz : (zeroValue 4).run Tryz.prog (w.drewN m) = .ok (.bool false) (w.drewN m) := by go_simp
  have hm : MapAt (w.drewN m) vb (kvs textV (varsV vs)) := by
    obtain ⟨es, c, hb, he⟩ := h.vars
    exact ⟨es, c, (heap_drewN _ _ _).trans hb, he⟩
  have r := run_lookup_at keyText' Tryz.underlying100 Tryz.underlying9 hz hm x false
  rw [if_neg (by simp), look_bool] at r
  exact r

set_option maxRecDepth 100000 in
set_option maxHeartbeats 4000000 in
theorem known_any (W0 w : World) (base sp vb tb : Nat) (vs : List ByteArray) (mt : List (ByteArray × S24)) (mtv : List (ByteArray × Value)) (hs : SolvAt base w sp vb tb (varsV vs) mtv) (ht : ToAt W0 mt mtv)
    (hw : Below W0.heap.size W0 w) (x : S24) (A : Option Addr) (c : Nat) (hr : Kd.C k24 W0 A x.f3.length x.f3) (hc : x.f3.length ≤ c) (hx : wid x < 9000000) (n : Nat) (y : S24) (hk : knownM vs mt n x = some y) :
    Calls Tryz.prog 94 #[.pointer (some ⟨sp, 0, none⟩), formV x.f0 x.f1 x.f2 A x.f3.length c] w fun e w' => ∃ u, e = .returned u ∧ FormAt W0 u y ∧ Below w.heap.size w w' := by
  have hu24 := Tryz.underlying24
  have hu := Tryz.underlying100
  have hu72 := Tryz.underlying72
  have hu9 := Tryz.underlying9
  obtain ⟨a, bb, s, l⟩ := x
  have h2 : ((w.alloc (Obj.cells #[.int .i64 a, .int .i64 bb, .string s, .slice A l.length c] 24)).alloc (Obj.cells #[.int .i64 0, .int .i64 0, .string ⟨#[]⟩, .slice none 0 0] 24)).heap[w.heap.size + 1]? = some (.cells #[.int .i64 0, .int .i64 0, .string ⟨#[]⟩, .slice none 0 0] 24 (0, 0)) := by
    have h := (MapKept.heap_alloc (w.alloc (Obj.cells #[.int .i64 a, .int .i64 bb, .string s, .slice A l.length c] 24)) (Obj.cells #[.int .i64 0, .int .i64 0, .string ⟨#[]⟩, .slice none 0 0] 24)).1
    rw [size_new] at h
    exact h
  have h1 : ((w.alloc (Obj.cells #[.int .i64 a, .int .i64 bb, .string s, .slice A l.length c] 24)).alloc (Obj.cells #[.int .i64 0, .int .i64 0, .string ⟨#[]⟩, .slice none 0 0] 24)).heap[w.heap.size]? = some (.cells #[.int .i64 a, .int .i64 bb, .string s, .slice A l.length c] 24 (0, 0)) := by
    refine (Below.heap_alloc _ _ _ ?_).trans (MapKept.heap_alloc w _).1
    rw [size_new]; omega
  have start : Hid (KnRel W0 w vs mt y n ((w.alloc (Obj.cells #[.int .i64 a, .int .i64 bb, .string s, .slice A l.length c] 24)).alloc (Obj.cells #[.int .i64 0, .int .i64 0, .string ⟨#[]⟩, .slice none 0 0] 24))) :=
    ⟨⟨a, bb, s, l⟩, A, c, h1, h2, hr, hc, by (repeat (first | assumption | exact Below.refl _ _ | apply below_alloc)), hx, hk⟩
  have HS : Hid _ := hs
  have HT : Hid _ := ht
  clear hs ht hr hk h1 h2
  go_enter Tryz.func94, Tryz.ntmps94
  go_wp2_with fail
  go_loopg [] n (fun k wr => KnRel W0 w vs mt y k wr)
  case atStart => exact start.out
  case round =>
    clear start
    obtain ⟨⟨x0, x1, x2, x3⟩, A3, c3, hb1, hb2, hr3, hc3, hB, hsz, hK⟩ := hrel
    have hS := SolvAt.below HS.out hB
    obtain ⟨q0, q1, q2, q3⟩ := cells4 hb1
    obtain ⟨p0, p1, p2, p3⟩ := cells4 hb2
    have c0 := hS.c0
    have c1 := hS.c1
    have r1 := fun m => look_drewN hS x2 m
    cases gk with
    | zero => simp [knownM] at hK
    | succ g =>
      simp only [knownM] at hK
      by_cases h0 : x0 = 1
      · subst h0
        cases hm : decide (x2 ∈ vs) with
        | false =>
          rw [hm] at r1
          have hm2 : x2 ∉ vs := of_decide_eq_false hm
          rw [if_neg (fun e => hm2 e.2)] at hK
          obtain rfl := Option.some.inj hK
          have HH2 : Hid _ := hb2
          have RR : Hid _ := hr3
          have BB : Hid _ := hB
          have f0 := frozen4 (i := 0) hb2
          have f1 := frozen4 (i := 1) hb2
          have f2 := frozen4 (i := 2) hb2
          have f3 := frozen4 (i := 3) hb2
          clear hK hm hm2 hr3 hB hb1 hb2 hS
          go_wp2_with fail
          go_quiet (fail)
          go_wp2_with fail
          refine bodyPost_ret (results_cell_row rfl _ _ (w.heap.size + 1) 24 #[.int .i64 1, .int .i64 x1, .string x2, .slice A3 x3.length c3] (0, 0) _ rfl (set4 ((heap_drewN _ _ _).trans HH2.out)) Tryz.underlying24 rfl (by kernel_rfl)) rfl ?_
          exact ⟨_, rfl, ⟨A3, c3, rfl, RR.out, hc3, hsz⟩, below4 (pw_below_drewN BB.out _) (by omega)⟩
        | true =>
          rw [hm] at r1
          have hm2 : x2 ∈ vs := of_decide_eq_true hm
          rw [if_pos ⟨rfl, hm2⟩] at hK
          have HK : Hid _ := hK
          have RR : Hid _ := hr3
          have HB1 : Hid _ := hb1
          have HB2 : Hid _ := hb2
          have SS : Hid _ := hS
          have BB : Hid _ := hB
          clear hK hm hm2 hr3 hB hb1 hb2 hS
          go_wp2_with fail
          go_quiet (fail)
          have BD : Below wr.heap.size wr (wr.drewN nq) := pw_below_drewN (Below.refl _ _) nq
          clear q0 q1 q2 q3 p0 p1 p2 p3 c0 c1 r1
          generalize wr.drewN nq = w1 at *
          have B1 : Hid _ := below_after BB.out BD
          have S1 : Hid _ := SS.out.below BD
          have hb1 := (BD.block _ (Array.getElem?_eq_some_iff.1 HB1.out).1).trans HB1.out
          have hb2 := (BD.block _ (Array.getElem?_eq_some_iff.1 HB2.out).1).trans HB2.out
          obtain ⟨q0, q1, q2, q3⟩ := cells4 hb1
          obtain ⟨p0, p1, p2, p3⟩ := cells4 hb2
          have c1 := S1.out.c1
          have H1 : Hid _ := hb1
          have H2 : Hid _ := hb2
          have hz1 : (zeroValue 24).run Tryz.prog w1.drew = .ok (formV 0 0 ⟨#[]⟩ none 0 0) w1.drew := by go_simp
          have hz2 : (zeroValue 24).run Tryz.prog (w1.alloc (Obj.cells #[.int .i64 0, .int .i64 0, .string ⟨#[]⟩, .slice none 0 0] 24)).drew = .ok (formV 0 0 ⟨#[]⟩ none 0 0) (w1.alloc (Obj.cells #[.int .i64 0, .int .i64 0, .string ⟨#[]⟩, .slice none 0 0] 24)).drew := by go_simp
          have r1 := run_lookup_at keyText' hu72 hu9 hz1 (show MapAt w1.drew tb _ from S1.out.tos) x2 true
          have r2 := run_lookup_at keyText' hu72 hu9 hz2 (show MapAt (w1.alloc (Obj.cells #[.int .i64 0, .int .i64 0, .string ⟨#[]⟩, .slice none 0 0] 24)).drew tb _ from (show MapAt (w1.alloc (Obj.cells #[.int .i64 0, .int .i64 0, .string ⟨#[]⟩, .slice none 0 0] 24)) tb _ from S1.out.tos.kept (World.grownBy_alloc _ _ none) (by simp))) x2 true
          rw [if_pos rfl] at r1 r2
          change (Instr.lookup 72 (.map (some tb)) (.string x2) true).run Tryz.prog _ = _ at r1
          change (Instr.lookup 72 (.map (some tb)) (.string x2) true).run Tryz.prog _ = _ at r2
          have q2' := pw_cell_below (below_alloc (Below.refl _ _) (Obj.cells #[.int .i64 0, .int .i64 0, .string ⟨#[]⟩, .slice none 0 0] 24)) q2
          have c1' := pw_cell_below (below_alloc (Below.refl _ _) (Obj.cells #[.int .i64 0, .int .i64 0, .string ⟨#[]⟩, .slice none 0 0] 24)) c1
          clear BD hb1 hb2 hz1 hz2
          rcases look_to HT.out x2 with ⟨e1, e2⟩ | ⟨y1, u1, e1, e2, e3⟩
          · have hK := HK.out
            rw [e1] at hK
            obtain rfl := Option.some.inj hK
            rw [e2] at r1 r2
            simp only [Option.getD_none, Option.isSome_none] at r1 r2
            clear hK e1 e2
            have al := fun {p v} h => pw_cell_below (a := p) (v := v) (below_alloc (Below.refl _ w1) (Obj.cells #[.int .i64 0, .int .i64 0, .string ⟨#[]⟩, .slice none 0 0] 24)) h
            have q0' := al q0
            have q1' := al q1
            have q3' := al q3
            have p0' := al p0
            have p1' := al p1
            have p2' := al p2
            have p3' := al p3
            have f0 := frozen4 (i := 0) H2.out
            have f1 := frozen4 (i := 1) H2.out
            have f2 := frozen4 (i := 2) H2.out
            have f3 := frozen4 (i := 3) H2.out
            have ha : (w1.alloc (Obj.cells #[.int .i64 0, .int .i64 0, .string ⟨#[]⟩, .slice none 0 0] 24)).heap[w.heap.size + 1]? = _ := (Below.heap_alloc w1 _ _ (Array.getElem?_eq_some_iff.1 H2.out).1).trans H2.out
            have HA : Hid _ := ha
            have f0' := frozen4 (i := 0) ha
            have f1' := frozen4 (i := 1) ha
            have f2' := frozen4 (i := 2) ha
            have f3' := frozen4 (i := 3) ha
            clear al ha
            go_wp2_with fail
            go_region
            all_goals
              go_wp2_with fail
              refine bodyPost_ret (results_cell_row rfl _ _ (w.heap.size + 1) 24 #[.int .i64 1, .int .i64 x1, .string x2, .slice A3 x3.length c3] (0, 0) _ rfl (set4 HA.out) Tryz.underlying24 rfl (by kernel_rfl)) rfl ?_
              exact ⟨_, rfl, ⟨A3, c3, rfl, RR.out, hc3, hsz⟩, below_drew (below4 (below_alloc B1.out _) (by omega))⟩
          · have hK := HK.out
            rw [e1] at hK
            simp only [] at hK
            obtain ⟨A5, c5, rfl, e4, e5, e6⟩ := e3
            rw [e2] at r1 r2
            simp only [Option.getD_some, Option.isSome_some] at r1 r2
            obtain ⟨y0, y1, y2, y3⟩ := y1
            have F4 : Hid _ := e4
            have K4 : Hid _ := hK
            have ha : (w1.alloc (Obj.cells #[.int .i64 y0, .int .i64 y1, .string y2, .slice A5 y3.length c5] 24)).heap[w.heap.size]? = _ := (Below.heap_alloc w1 _ _ (Array.getElem?_eq_some_iff.1 H1.out).1).trans H1.out
            have ha2 : (w1.alloc (Obj.cells #[.int .i64 y0, .int .i64 y1, .string y2, .slice A5 y3.length c5] 24)).heap[w.heap.size + 1]? = _ := (Below.heap_alloc w1 _ _ (Array.getElem?_eq_some_iff.1 H2.out).1).trans H2.out
            have HA : Hid _ := ha
            have HA2 : Hid _ := ha2
            have f0' := frozen4 (i := 0) ha
            have f1' := frozen4 (i := 1) ha
            have f2' := frozen4 (i := 2) ha
            have f3' := frozen4 (i := 3) ha
            obtain ⟨t0, t1, t2, t3⟩ := cells4 ha
            clear e1 e2 e4 hK ha ha2 p0 p1 p2 p3 q0 q1 q3
            go_wp2_with fail
            go_region
            all_goals
              go_wp2_with fail
              go_roundg g
              case measure => omega
              case rel => exact ⟨⟨y0, y1, y2, y3⟩, A5, c5, set4 HA.out, (stay4 (by omega)).trans HA2.out, F4.out, e5, below_drew (below4 (below_alloc B1.out _) (Nat.le_refl _)), e6, K4.out⟩
      · have b0 : (x0 == 1) = false := beq_eq_false_iff_ne.mpr h0
        rw [if_neg (fun e => h0 e.1)] at hK
        obtain rfl := Option.some.inj hK
        clear hK r1
        go_wp2_with fail
        go_quiet (fail)
        have f0 := frozen4 (i := 0) hb2
        have f1 := frozen4 (i := 1) hb2
        have f2 := frozen4 (i := 2) hb2
        have f3 := frozen4 (i := 3) hb2
        go_wp2_with fail
        refine bodyPost_ret (results_cell_row rfl _ _ (w.heap.size + 1) 24 #[.int .i64 x0, .int .i64 x1, .string x2, .slice A3 x3.length c3] (0, 0) _ rfl (set4 ((heap_drewN _ _ _).trans hb2)) Tryz.underlying24 rfl (by kernel_rfl)) rfl ?_
        exact ⟨_, rfl, ⟨A3, c3, rfl, hr3, hc3, hsz⟩, below4 (pw_below_drewN hB _) (by omega)⟩

end Go.Proofs.YtcjmplpfebpfpaaGreatDoor

namespace Go.Proofs.YtcjmplpfebpfpaaGreatDoor
open Go.RowKit Go.Proofs Go.Proofs.YtcjmplpfebpfpaaGreatDoorW.PrintWords Go.Proofs.YtcjmplpfebpfpaaGreatDoorW.PrintLast Go.Proofs.YtcjmplpfebpfpaaGreatDoorW.PrintMore PKindInstances
set_option linter.unusedVariables false
set_option linter.unusedSimpArgs false

/-- Whether a rune may not stand in a text. -/
def badR (x : Nat) : Bool := !(x == 10) && (decide (x < 32) || decide (126 < x))

theorem badR_any (x : Nat) (hx : x ≤ 1114111) (w : World) : Calls Tryz.prog 169 #[.int .i32 (x : Int)] w fun e w' => e = .returned (.bool (badR x)) ∧ ∃ q, w' = w.drewN q := by
  unfold badR
  by_cases h1 : x = 10
  · subst h1
    go_enter Tryz.func169, Tryz.ntmps169
    go_wp2_with fail
    go_ret
    exact ⟨rfl, 0, rfl⟩
  · have b1 : (x == 10) = false := beq_eq_false_iff_ne.mpr h1
    have b2 : (((x : Int)) != 10) = true := bne_iff_ne.mpr (by omega)
    rw [b1]
    by_cases h2 : x < 32
    · have c1 : decide (x < 32) = true := decide_eq_true h2
      have c2 : decide ((x : Int) < 32) = true := decide_eq_true (by omega)
      rw [c1]
      clear h1 h2 b1 c1
      go_enter Tryz.func169, Tryz.ntmps169
      go_wp2_with fail
      go_ret
      exact ⟨rfl, 0, rfl⟩
    · have c1 : decide (x < 32) = false := decide_eq_false h2
      have c2 : decide ((x : Int) < 32) = false := decide_eq_false (by omega)
      have c3 : decide (126 < (x : Int)) = decide (126 < x) := by
        by_cases h : 126 < x
        · rw [decide_eq_true h, decide_eq_true (by omega)]
        · rw [decide_eq_false h, decide_eq_false (by omega)]
      rw [c1, ← c3]
      clear h1 h2 b1 c1 c3
      go_enter Tryz.func169, Tryz.ntmps169
      go_wp2_with fail
      go_ret
      exact ⟨by simp, 0, rfl⟩

theorem decode_low {s : ByteArray} {i : Nat} (h : (s.get! i).toNat < 128) : Utf8.decode s i = ((s.get! i).toNat, 1) := by
  unfold Utf8.decode
  simp only [Nat.add_zero]
  rw [if_pos (by simpa using h)]
theorem decode_high {s : ByteArray} {i : Nat} (h : ¬ (s.get! i).toNat < 128) : 128 ≤ (Utf8.decode s i).1 := by
  unfold Utf8.decode
  simp only [Nat.add_zero]
  rw [if_neg (by simpa using h)]
  repeat' split
  all_goals first | (simp [Utf8.runeError]; done) | omega | (rename_i h9; simp only [Bool.and_eq_true, decide_eq_true_eq, ge_iff_le] at h9; omega)

def goodB (c : Int) : Bool := c == 10 || (decide (32 ≤ c) && decide (c ≤ 126))
theorem byte_at {s : ByteArray} {pos : Nat} (h : pos < s.size) : (bytesI s).drop pos = ((s.get! pos).toNat : Int) :: (bytesI s).drop (pos + 1) := by
  have hl : pos < (bytesI s).length := by simpa [bytesI] using h
  rw [List.drop_eq_getElem_cons hl]
  congr 1
  simp [bytesI, ByteArray.get!, h]
theorem idx_text (s : ByteArray) : ∀ (f pos : Nat), s.size ≤ f + pos → decide (0 ≤ Lib.idxFuncFrom badR true s f pos) = !(((bytesI s).drop pos).all goodB)
  | 0, pos, h => by
    have e : (bytesI s).drop pos = [] := List.drop_eq_nil_of_le (by simp [bytesI]; omega)
    rw [e]
    simp [Lib.idxFuncFrom]
  | f + 1, pos, h => by
    unfold Lib.idxFuncFrom
    by_cases hp : pos < s.size
    · rw [if_pos hp, byte_at hp, List.all_cons]
      by_cases hl : (s.get! pos).toNat < 128
      · rw [decode_low hl]
        have e : badR (s.get! pos).toNat = !(goodB ((s.get! pos).toNat : Int)) := by
          unfold badR goodB
          rw [Bool.eq_iff_iff]
          simp
          omega
        cases hg : goodB ((s.get! pos).toNat : Int) with
        | true =>
          rw [hg] at e
          simp only [e]
          rw [if_neg (by simp), idx_text s f (pos + 1) (by omega)]
          simp
        | false =>
          rw [hg] at e
          simp only [e]
          rw [if_pos (by simp), decide_eq_true (by omega)]
          simp
      · have h1 := decode_high hl
        have e : badR (Utf8.decode s pos).1 = true := by
          unfold badR
          simp
          omega
        have e2 : goodB ((s.get! pos).toNat : Int) = false := by
          unfold goodB
          simp
          omega
        rw [if_pos e, e2, decide_eq_true (by omega)]
        simp
    · have e : (bytesI s).drop pos = [] := List.drop_eq_nil_of_le (by simp [bytesI]; omega)
      rw [if_neg hp, e]
      simp
theorem textM_idx (s : ByteArray) : textM s = (decide (s.size ≤ 2000) && !(decide (0 ≤ Lib.idxFunc badR true s))) := by
  unfold Lib.idxFunc
  rw [idx_text s s.size 0 (by omega)]
  simp [textM]
  rfl

theorem ContainsBad_any (s : ByteArray) (w : World) : Calls Tryz.prog 170 #[.string s, .func (.func 169) #[] #[]] w fun e w' => e = .returned (.bool (decide (0 ≤ Lib.idxFunc badR true s))) ∧ Below w.heap.size w w' := by
  refine Tryz.strings_ContainsFunc_runes 169 #[] (enters_of Tryz.func169 (by kernel_rfl) rfl) badR s w ?_
  intro W x hx _
  exact badR_any x hx W

/-- A number's own fields. -/
theorem leaf_num (b : Int) (s : ByteArray) (A : Option Addr) (n c : Nat) (w : World) :
    Calls Tryz.prog 146 #[formV 0 b s A n c] w fun e w' => e = .returned (.bool (((s.toList == []) && ((n : Int) == 0)) && (decide (-1152921504606846976 ≤ b) && decide (b ≤ 1152921504606846976)))) ∧ Below w.heap.size w w' := by
  have hu24 := Tryz.underlying24
  cases h1 : (s.toList == []) with
  | false =>
    go_enter Tryz.func146, Tryz.ntmps146
    go_wp2_with fail
    go_ret
    exact ⟨rfl, by (repeat (first | assumption | exact Below.refl _ _ | apply below_alloc | apply pw_below_drewN | apply below_drew1))⟩
  | true =>
    cases h2 : ((n : Int) == 0) with
    | false =>
      go_enter Tryz.func146, Tryz.ntmps146
      go_wp2_with fail
      go_ret
      exact ⟨rfl, by (repeat (first | assumption | exact Below.refl _ _ | apply below_alloc | apply pw_below_drewN | apply below_drew1))⟩
    | true =>
      cases h3 : decide (-1152921504606846976 ≤ b) with
      | false =>
        go_enter Tryz.func146, Tryz.ntmps146
        go_wp2_with fail
        go_ret
        exact ⟨rfl, by (repeat (first | assumption | exact Below.refl _ _ | apply below_alloc | apply pw_below_drewN | apply below_drew1))⟩
      | true =>
        go_enter Tryz.func146, Tryz.ntmps146
        go_wp2_with fail
        go_ret
        exact ⟨rfl, by (repeat (first | assumption | exact Below.refl _ _ | apply below_alloc | apply pw_below_drewN | apply below_drew1))⟩

set_option maxRecDepth 100000 in
/-- A word that is none. -/
theorem leaf_noword (b : Int) (s : ByteArray) (A : Option Addr) (n c : Nat) (w : World) (hs : (s.toList == []) = true ∨ (s.toList == []) = false ∧ ¬ s.size ≤ 30) :
    Calls Tryz.prog 146 #[formV 1 b s A n c] w fun e w' => e = .returned (.bool false) ∧ Below w.heap.size w w' := by
  have hu24 := Tryz.underlying24
  rcases hs with h1 | ⟨h1, h2⟩
  · go_enter Tryz.func146, Tryz.ntmps146
    go_wp2_with fail
    go_loopg [3, 4] 0 (fun k x3 x4 wr => x3 = .bool false ∧ x4 = .int .i64 ((0 : Nat) : Int) ∧ wr = w.alloc (Obj.cells #[.int .i64 1, .int .i64 b, .string s, .slice A n c] 24))
    case atStart => exact ⟨rfl, rfl, rfl⟩
    case round =>
      obtain ⟨rfl, rfl, rfl⟩ := hrel
      by_cases hlt : 0 < s.size
      · have e1 : decide (0 < s.size) = true := decide_eq_true hlt
        go_wp2_with fail
        go_ret
        exact ⟨rfl, below_alloc (Below.refl _ _) _⟩
      · have e1 : decide (0 < s.size) = false := decide_eq_false hlt
        go_wp2_with fail
        go_ret
        exact ⟨rfl, below_alloc (Below.refl _ _) _⟩
  · have h3 : decide (s.size ≤ 30) = false := decide_eq_false h2
    go_enter Tryz.func146, Tryz.ntmps146
    go_wp2_with fail
    go_loopg [3, 4] 0 (fun k x3 x4 wr => x3 = .bool false ∧ x4 = .int .i64 ((0 : Nat) : Int) ∧ wr = w.alloc (Obj.cells #[.int .i64 1, .int .i64 b, .string s, .slice A n c] 24))
    case atStart => exact ⟨rfl, rfl, rfl⟩
    case round =>
      obtain ⟨rfl, rfl, rfl⟩ := hrel
      by_cases hlt : 0 < s.size
      · have e1 : decide (0 < s.size) = true := decide_eq_true hlt
        go_wp2_with fail
        go_ret
        exact ⟨rfl, below_alloc (Below.refl _ _) _⟩
      · exact absurd (by omega : 0 < s.size) hlt

set_option maxRecDepth 100000 in
/-- A text's own fields. -/
theorem leaf_text (b : Int) (s : ByteArray) (A : Option Addr) (n c : Nat) (w : World) :
    Calls Tryz.prog 146 #[formV 2 b s A n c] w fun e w' => e = .returned (.bool (textM s && (b == 0) && ((n : Int) == 0))) ∧ Below w.heap.size w w' := by
  have hu24 := Tryz.underlying24
  have hmf : ∀ (fn : Fn) (first cap : Array Value) (w : World), (Instr.makeFunc fn first cap).run Tryz.prog w = .ok (.func fn first cap) w := fun _ _ _ _ => rfl
  rw [textM_idx]
  obtain ⟨q, hq⟩ : ∃ q, q = decide (0 ≤ Lib.idxFunc badR true s) := ⟨_, rfl⟩
  have CB : Hid (∀ w, Calls Tryz.prog 170 #[.string s, .func (.func 169) #[] #[]] w fun e w' => e = .returned (.bool q) ∧ Below w.heap.size w w') := by rw [hq]; exact fun w => ContainsBad_any s w
  rw [← hq]
  clear hq
  cases h1 : decide (s.size ≤ 2000) with
  | false =>
    have h1' := of_decide_eq_false h1
    go_enter Tryz.func146, Tryz.ntmps146
    go_wp2_with fail
    go_ret
    exact ⟨rfl, by (repeat (first | assumption | exact Below.refl _ _ | apply below_alloc | apply pw_below_drewN | apply below_drew1))⟩
  | true =>
    have h1' := of_decide_eq_true h1
    cases q with
    | true =>
      go_enter Tryz.func146, Tryz.ntmps146
      go_wp2_with fail
      refine (CB.out _).mono ?_
      rintro e w1 ⟨rfl, B1⟩
      have B2 : Hid _ := below_after (below_alloc (Below.refl w.heap.size w) (Obj.cells #[.int .i64 2, .int .i64 b, .string s, .slice A n c] 24)) B1
      clear B1
      go_wp2_with fail
      go_ret
      exact ⟨rfl, B2.out⟩
    | false =>
      go_enter Tryz.func146, Tryz.ntmps146
      go_wp2_with fail
      refine (CB.out _).mono ?_
      rintro e w1 ⟨rfl, B1⟩
      have B2 : Hid _ := below_after (below_alloc (Below.refl w.heap.size w) (Obj.cells #[.int .i64 2, .int .i64 b, .string s, .slice A n c] 24)) B1
      obtain ⟨q0, q1, q2, q3⟩ := box_at B1
      clear B1
      cases h2 : (b == 0) with
      | false =>
        go_wp2_with fail
        go_ret
        exact ⟨by rw [h2]; rfl, B2.out⟩
      | true =>
        go_wp2_with fail
        go_ret
        exact ⟨by rw [h2]; rfl, B2.out⟩
theorem leaf_other (a b : Int) (s : ByteArray) (A : Option Addr) (n c : Nat) (w : World) (h0 : a ≠ 0) (h1 : a ≠ 1) (h2 : a ≠ 2) (h3 : a ≠ 3) :
    Calls Tryz.prog 146 #[formV a b s A n c] w fun e w' => e = .returned (.bool false) ∧ Below w.heap.size w w' := by
  have hu24 := Tryz.underlying24
  have b0 : (a == 0) = false := beq_eq_false_iff_ne.mpr h0
  have b1 : (a == 1) = false := beq_eq_false_iff_ne.mpr h1
  have b2 : (a == 2) = false := beq_eq_false_iff_ne.mpr h2
  have b3 : (a == 3) = false := beq_eq_false_iff_ne.mpr h3
  go_enter Tryz.func146, Tryz.ntmps146
  go_wp2_with fail
  go_ret
  exact ⟨rfl, by (repeat (first | assumption | exact Below.refl _ _ | apply below_alloc | apply pw_below_drewN | apply below_drew1))⟩

/-- What the call on a form's own fields does, whatever the form. -/
theorem leafC_all (x : S24) : LeafC x := by
  obtain ⟨a, b, s, l⟩ := x
  intro A c w
  unfold leafM
  simp only []
  by_cases h0 : a = 0
  · subst h0
    rw [if_pos rfl]
    exact leaf_num b s A l.length c w
  rw [if_neg h0]
  by_cases h1 : a = 1
  · subst h1
    rw [if_pos rfl]
    by_cases hs : (s.toList == []) = false ∧ s.size ≤ 30
    · exact leaf_word b s A l.length c w hs.2 hs.1
    · have hw : wordM s = false := by
        unfold wordM
        by_cases h : (s.toList == []) = false
        · have : ¬ s.size ≤ 30 := fun h2 => hs ⟨h, h2⟩
          rw [decide_eq_false this]
          simp
        · have : (s.toList == []) = true := by simpa using h
          rw [this]
          simp
      rw [hw]
      refine leaf_noword b s A l.length c w ?_
      by_cases h : (s.toList == []) = false
      · exact .inr ⟨h, fun h2 => hs ⟨h, h2⟩⟩
      · exact .inl (by simpa using h)
  rw [if_neg h1]
  by_cases h2 : a = 2
  · subst h2
    rw [if_pos rfl]
    exact leaf_text b s A l.length c w
  rw [if_neg h2]
  by_cases h3 : a = 3
  · subst h3
    rw [if_pos rfl]
    exact leaf_list b s A l.length c w
  rw [if_neg h3]
  exact leaf_other a b s A l.length c w h0 h1 h2 h3
mutual
theorem allC_all : ∀ x : S24, allC x
  | ⟨a, b, s, l⟩ => ⟨leafC_all _, allCs_all l⟩
theorem allCs_all : ∀ l : List S24, allCs l
  | [] => trivial
  | x :: l => ⟨allC_all x, allCs_all l⟩
end

end Go.Proofs.YtcjmplpfebpfpaaGreatDoor

namespace Go.Proofs.YtcjmplpfebpfpaaGreatDoor
open Go.RowKit Go.Proofs Go.Proofs.YtcjmplpfebpfpaaGreatDoorW.PrintWords Go.Proofs.YtcjmplpfebpfpaaGreatDoorW.PrintLast Go.Proofs.YtcjmplpfebpfpaaGreatDoorW.PrintMore PKindInstances
set_option linter.unusedVariables false
set_option linter.unusedSimpArgs false

def rowV (r : S114) : Value := .agg #[.string r.f0, .int .i64 r.f1, .int .i64 r.f2, .bool r.f3, .bool r.f4]
/-- The rows by name, as the map holds them. -/
def tabV (tb : List S114) : List (ByteArray × Value) := tb.map fun r => (r.f0, rowV r)
def mostM (k : Int) : Int := if k ≤ 2 then 4 else 0
/-- Whether a table is one. -/
def tabM : List ByteArray → List S114 → Bool
  | _, [] => true
  | seen, r :: l => if decide (r.f0 ∈ seen) || !isNameM r.f0 || decide (r.f1 < 1) || decide (6 < r.f1) || decide (r.f2 < 0) || decide (mostM r.f1 < r.f2) then false else tabM (seen ++ [r.f0]) l
theorem tab_bad {seen : List ByteArray} {r : S114} {l : List S114} (h : r.f0 ∈ seen ∨ isNameM r.f0 = false ∨ r.f1 < 1 ∨ 6 < r.f1 ∨ r.f2 < 0 ∨ mostM r.f1 < r.f2) : tabM seen (r :: l) = false := by
  simp only [tabM]
  rw [if_pos]
  rcases h with h | h | h | h | h | h <;> simp [h]
theorem tab_good {seen : List ByteArray} {r : S114} {l : List S114} (h1 : r.f0 ∉ seen) (h2 : isNameM r.f0 = true) (h3 : ¬ r.f1 < 1) (h4 : ¬ 6 < r.f1) (h5 : ¬ r.f2 < 0) (h6 : ¬ mostM r.f1 < r.f2) : tabM seen (r :: l) = tabM (seen ++ [r.f0]) l := by
  simp only [tabM]
  rw [if_neg]
  simp [h1, h2, h3, h4, h5, h6]
theorem look_tab : ∀ (tb : List S114) (s : ByteArray), (look (tabV tb) s = none ∧ s ∉ tb.map (·.f0)) ∨ (∃ r, look (tabV tb) s = some (rowV r) ∧ s ∈ tb.map (·.f0))
  | [], s => .inl ⟨rfl, by simp⟩
  | r :: l, s => by
    simp only [tabV, List.map_cons, look]
    by_cases h : s = r.f0
    · subst h
      exact .inr ⟨r, by simp, by simp⟩
    · rw [if_neg h]
      rcases look_tab l s with ⟨h1, h2⟩ | ⟨q, h1, h2⟩
      · exact .inl ⟨h1, by simp only [List.mem_cons, not_or]; exact ⟨h, h2⟩⟩
      · exact .inr ⟨q, h1, List.mem_cons_of_mem _ h2⟩
theorem put_tab (tb : List S114) (r : S114) (h : r.f0 ∉ tb.map (·.f0)) : putM (tabV tb) r.f0 (rowV r) = tabV (tb ++ [r]) := by
  induction tb with
  | nil => rfl
  | cons x l ih =>
    simp only [List.map_cons, List.mem_cons, not_or] at h
    simp only [tabV, List.map_cons, putM, List.cons_append]
    rw [if_neg h.1]
    congr 1
    exact ih h.2
theorem row_at114 {w : World} {A : Option Addr} {n : Nat} {l : List S114} (h : Kd.C k114 w A n l) {i : Nat} (hi : i < n) {x : S114} (hx : l[i]? = some x) :
    ∃ ad, A = some ad ∧ w.cell? (ad.add (i * 5)) = some (.string x.f0) ∧ w.cell? ⟨(ad.add (i * 5)).block, (ad.add (i * 5)).off + 1, none⟩ = some (.int .i64 x.f1) ∧
      w.cell? ⟨(ad.add (i * 5)).block, (ad.add (i * 5)).off + 2, none⟩ = some (.int .i64 x.f2) ∧ w.cell? ⟨(ad.add (i * 5)).block, (ad.add (i * 5)).off + 3, none⟩ = some (.bool x.f3) ∧ w.cell? ⟨(ad.add (i * 5)).block, (ad.add (i * 5)).off + 4, none⟩ = some (.bool x.f4) := by
  obtain ⟨ad, e, g0, g1, g2, g3, g4⟩ := at_T114 h (i : Int) (by omega) (by omega)
  have er : rd_T114 l (i : Int) = x := by unfold rd_T114; rw [Int.toNat_natCast, List.getD_eq_getElem?_getD, hx]; rfl
  rw [er] at g0 g1 g2 g3 g4
  rw [Int.toNat_natCast] at g0 g1 g2 g3 g4
  exact ⟨ad, e, g0, g1, g2, g3, g4⟩
theorem drop_at114 {l : List S114} {i : Nat} {x : S114} (hx : l[i]? = some x) : l.drop i = x :: l.drop (i + 1) := by
  obtain ⟨h, e⟩ := List.getElem?_eq_some_iff.1 hx
  rw [List.drop_eq_getElem_cons h, e]
theorem cells5 {w : World} {b : Nat} {v0 v1 v2 v3 v4 : Value} {t : TypeId} (h : w.heap[b]? = some (.cells #[v0, v1, v2, v3, v4] t (0, 0))) :
    w.cell? ⟨b, 0, none⟩ = some v0 ∧ w.cell? ⟨b, 1, none⟩ = some v1 ∧ w.cell? ⟨b, 2, none⟩ = some v2 ∧ w.cell? ⟨b, 3, none⟩ = some v3 ∧ w.cell? ⟨b, 4, none⟩ = some v4 := by
  refine ⟨?_, ?_, ?_, ?_, ?_⟩ <;> simp [World.cell?, h]
/-- What names answers. -/
def NmPost (w : World) (tb : List S114) (e : Ending) (w' : World) : Prop :=
  ((tabM [] tb = true ∧ ∃ b, e = .returned (.tuple #[.map (some b), .bool true]) ∧ w.heap.size ≤ b ∧ MapAt w' b (kvs textV (tabV tb))) ∨ (tabM [] tb = false ∧ e = .returned (.tuple #[.map none, .bool false]))) ∧ Below w.heap.size w w'
/-- What holds of the loop. -/
def NmRel (w : World) (b : Nat) (tb : List S114) (R : Bool) (k : Nat) (x13 : Value) (wr : World) : Prop :=
  ∃ (i : Nat), x13 = .int .i64 (i : Int) ∧ k + i = tb.length ∧ Below w.heap.size w wr ∧ MapAt wr b (kvs textV (tabV (tb.take i))) ∧ tabM ((tb.take i).map (·.f0)) (tb.drop i) = R
set_option maxRecDepth 100000 in
set_option maxHeartbeats 16000000 in
theorem names_any (tb : List S114) (A : Option Addr) (c : Nat) (w : World) (hr : Kd.C k114 w A tb.length tb) (hc : tb.length ≤ c) (hn : tb.length < 9000000) (hz : ∀ r ∈ tb, r.f0.size < 8000000) :
    Calls Tryz.prog 72 #[.slice A tb.length c] w (NmPost w tb) := by
  have hu114 := Tryz.underlying114
  have hu := Tryz.underlying116
  have hk := Tryz.underlying9
  have hu60 := Tryz.underlying60
  obtain ⟨R, hR⟩ : ∃ R, R = tabM [] tb := ⟨_, rfl⟩
  have HT : Hid (tabM [] tb = R) := hR.symm
  have HR : Hid _ := hr
  have HZ : Hid _ := hz
  clear hr hz
  go_enter Tryz.func72, Tryz.ntmps72
  go_wp2
  simp only [run_makeMap]
  have m0 : MapAt (w.alloc (.map #[] 0)) w.heap.size (kvs textV []) := MapAt.made w
  have B0 : Below w.heap.size w (w.alloc (.map #[] 0)) := below_alloc (Below.refl _ _) _
  have start : Hid (NmRel w w.heap.size tb R tb.length (.int .i64 ((0 : Nat) : Int)) (w.alloc (.map #[] 0))) := ⟨0, rfl, rfl, B0, m0, HT.out⟩
  clear m0 B0 hR
  go_wp2_with fail
  go_loopg [13] tb.length (fun k x13 wr => NmRel w w.heap.size tb R k x13 wr)
  case atStart => exact start.out
  case round =>
    clear start
    obtain ⟨i, rfl, hki, hB, hM, hV⟩ := hrel
    by_cases hlt : i < tb.length
    · obtain ⟨g, rfl⟩ : ∃ g, gk = g + 1 := ⟨gk - 1, by omega⟩
      have e1 : decide (i < tb.length) = true := decide_eq_true hlt
      obtain ⟨r, hx⟩ : ∃ x, tb[i]? = some x := ⟨tb[i]'hlt, List.getElem?_eq_getElem _⟩
      have htk : tb.take (i + 1) = tb.take i ++ [r] := by rw [List.take_add_one, hx]; rfl
      obtain ⟨ad, rfl, g0, g1, g2, g3, g4⟩ := row_at114 (Kd.C_below HR.out hB) hlt hx
      rw [drop_at114 hx] at hV
      have hsz := HZ.out r (List.mem_of_getElem? hx)
      have IN : Hid (∀ W, _) := fun W => isName_any r.f0 W (leafC_all _) hsz
      have HB : Hid _ := hB
      have HM : Hid _ := hM
      have HV : Hid _ := hV
      have HTK : Hid _ := htk
      clear hB hM hV htk hx hsz
      obtain ⟨nm, k, n, eq, nw⟩ := r
      simp only [] at g0 g1 g2 g3 g4 IN
      go_upto_region 5 with fail
      have b5 : Below wr.heap.size wr (wr.alloc (Obj.cells #[.string nm, .int .i64 k, .int .i64 n, .bool eq, .bool nw] 114)) := below_alloc (Below.refl _ _) _
      have y5 := (MapKept.heap_alloc wr (Obj.cells #[.string nm, .int .i64 k, .int .i64 n, .bool eq, .bool nw] 114)).1
      have HB5 : Hid (Below w.heap.size w (wr.alloc (Obj.cells #[.string nm, .int .i64 k, .int .i64 n, .bool eq, .bool nw] 114))) := below_after HB.out b5
      have HM5 := MapAt.kept HM.out (grown_of_below b5 none) (by simp)
      clear b5 g0 g1 g2 g3 g4 HB HM
      generalize wr.alloc (Obj.cells #[.string nm, .int .i64 k, .int .i64 n, .bool eq, .bool nw] 114) = M at *
      generalize wr.heap.size = bR at *
      have hzv : (zeroValue 114).run Tryz.prog M = .ok (.agg #[.string ⟨#[]⟩, .int .i64 0, .int .i64 0, .bool false, .bool false]) M := by go_simp
      have r2 := run_lookup_at keyText' hu hk hzv HM5 nm true
      rw [if_pos rfl] at r2
      change (Instr.lookup 116 (.map (some w.heap.size)) (.string nm) true).run Tryz.prog M = _ at r2
      have HMM : Hid _ := HM5
      have Y5 : Hid _ := y5
      obtain ⟨q0, q1, q2, q3, q4⟩ := cells5 y5
      rcases look_tab (tb.take i) nm with ⟨hl, hnd⟩ | ⟨rx, hl, hd⟩
      · rw [hl] at r2
        simp only [Option.getD_none, Option.isSome_none] at r2
        have HND : Hid _ := hnd
        clear hl hzv HM5 hnd y5
        go_upto_region 6 with fail
        have b6 : Below M.heap.size M (M.alloc (Obj.cells #[.string ⟨#[]⟩, .int .i64 0, .int .i64 0, .bool false, .bool false] 114)) := below_alloc (Below.refl _ _) _
        have HB6 : Hid (Below w.heap.size w (M.alloc (Obj.cells #[.string ⟨#[]⟩, .int .i64 0, .int .i64 0, .bool false, .bool false] 114))) := below_after HB5.out b6
        have HM6 : Hid _ := MapAt.kept HMM.out (grown_of_below b6 none) (by simp)
        have y6 := blk_below Y5.out b6
        clear b6 q0 q1 q2 q3 q4
        generalize M.alloc (Obj.cells #[.string ⟨#[]⟩, .int .i64 0, .int .i64 0, .bool false, .bool false] 114) = M2 at *
        generalize M.heap.size = bR2 at *
        obtain ⟨q0, q1, q2, q3, q4⟩ := cells5 y6
        have Y6 : Hid _ := y6
        clear y6
        by_cases k2 : k ≤ 2
        · have kk : decide (k ≤ 2) = true := decide_eq_true k2
          have K2 : Hid _ := k2
          clear k2
          obtain ⟨vn, hvn⟩ : ∃ vn, vn = isNameM nm := ⟨_, rfl⟩
          rw [← hvn] at IN
          have HVN : Hid _ := hvn
          clear hvn
          go_wp2_with fail
          refine Calls.mono (IN.out _) ?_
          rintro e w7 ⟨rfl, B7⟩
          have y7 := blk_below Y6.out B7
          have HB7 : Hid (Below w.heap.size w w7) := below_after HB6.out B7
          have HM7 : Hid _ := MapAt.kept HM6.out (grown_of_below B7 none) (by simp)
          clear q0 q1 q2 q3 q4 B7
          obtain ⟨q0, q1, q2, q3, q4⟩ := cells5 y7
          have HB6 : Hid _ := HB7
          clear y7
          cases vn with
          | false =>
            have hR : R = false := by rw [← HV.out]; exact tab_bad (.inr (.inl HVN.out.symm))
            go_wp2_with fail
            go_ret2
            exact ⟨.inr ⟨by rw [HT.out]; exact hR, rfl⟩, HB6.out⟩
          | true =>
            by_cases c1 : k < 1
            · have d1 : decide (k < 1) = true := decide_eq_true c1
              have hR : R = false := by rw [← HV.out]; exact tab_bad (.inr (.inr (.inl c1)))
              go_wp2_with fail
              go_ret2
              exact ⟨.inr ⟨by rw [HT.out]; exact hR, rfl⟩, HB6.out⟩
            · have d1 : decide (k < 1) = false := decide_eq_false c1
              by_cases c2 : 6 < k
              · have d2 : decide (6 < k) = true := decide_eq_true c2
                have hR : R = false := by rw [← HV.out]; exact tab_bad (.inr (.inr (.inr (.inl c2))))
                go_wp2_with fail
                go_ret2
                exact ⟨.inr ⟨by rw [HT.out]; exact hR, rfl⟩, HB6.out⟩
              · have d2 : decide (6 < k) = false := decide_eq_false c2
                by_cases c3 : n < 0
                · have d3 : decide (n < 0) = true := decide_eq_true c3
                  have hR : R = false := by rw [← HV.out]; exact tab_bad (.inr (.inr (.inr (.inr (.inl c3)))))
                  go_wp2_with fail
                  go_ret2
                  exact ⟨.inr ⟨by rw [HT.out]; exact hR, rfl⟩, HB6.out⟩
                · have d3 : decide (n < 0) = false := decide_eq_false c3
                  by_cases c4 : 4 < n
                  · have d4 : decide (4 < n) = true := decide_eq_true c4
                    have hR : R = false := by rw [← HV.out]; exact tab_bad (.inr (.inr (.inr (.inr (.inr (by show mostM k < n; unfold mostM; (first | rw [if_pos K2.out] | rw [if_neg K2.out]); exact c4))))))
                    go_wp2_with fail
                    go_ret2
                    exact ⟨.inr ⟨by rw [HT.out]; exact hR, rfl⟩, HB6.out⟩
                  · have d4 : decide (4 < n) = false := decide_eq_false c4
                    have hV9 : Hid (tabM ((tb.take (i + 1)).map (·.f0)) (tb.drop (i + 1)) = R) := by
                      have h9 := HV.out
                      rw [tab_good HND.out HVN.out.symm c1 c2 c3 (by show ¬ mostM k < n; unfold mostM; (first | rw [if_pos K2.out] | rw [if_neg K2.out]); exact c4)] at h9
                      rw [HTK.out, List.map_append, List.map_cons, List.map_nil]
                      exact h9
                    have hput := put_tab (tb.take i) ⟨nm, k, n, eq, nw⟩ HND.out
                    rw [← HTK.out] at hput
                    have HP : Hid _ := hput
                    clear hput c1 c2 c3 c4
                    go_wp2_with (first | (refine law_update keyText' rfl _ _ _ (.inl rfl) hu hk HM7.out nm (rowV ⟨nm, k, n, eq, nw⟩) rfl rfl rfl ?_; intro w9 m9 hg9; have B9 : Hid (Below w.heap.size w w9) := below_grown1 HB7.out hg9 (Nat.le_refl _); have M9 : Hid _ := m9; clear hg9 m9))
                    go_roundg g
                    case measure => omega
                    case rel => exact ⟨i + 1, by go_num, by omega, B9.out, by rw [← HP.out]; exact M9.out, hV9.out⟩
        · have kk : decide (k ≤ 2) = false := decide_eq_false k2
          have K2 : Hid _ := k2
          clear k2
          obtain ⟨vn, hvn⟩ : ∃ vn, vn = isNameM nm := ⟨_, rfl⟩
          rw [← hvn] at IN
          have HVN : Hid _ := hvn
          clear hvn
          go_wp2_with fail
          refine Calls.mono (IN.out _) ?_
          rintro e w7 ⟨rfl, B7⟩
          have y7 := blk_below Y6.out B7
          have HB7 : Hid (Below w.heap.size w w7) := below_after HB6.out B7
          have HM7 : Hid _ := MapAt.kept HM6.out (grown_of_below B7 none) (by simp)
          clear q0 q1 q2 q3 q4 B7
          obtain ⟨q0, q1, q2, q3, q4⟩ := cells5 y7
          have HB6 : Hid _ := HB7
          clear y7
          cases vn with
          | false =>
            have hR : R = false := by rw [← HV.out]; exact tab_bad (.inr (.inl HVN.out.symm))
            go_wp2_with fail
            go_ret2
            exact ⟨.inr ⟨by rw [HT.out]; exact hR, rfl⟩, HB6.out⟩
          | true =>
            by_cases c1 : k < 1
            · have d1 : decide (k < 1) = true := decide_eq_true c1
              have hR : R = false := by rw [← HV.out]; exact tab_bad (.inr (.inr (.inl c1)))
              go_wp2_with fail
              go_ret2
              exact ⟨.inr ⟨by rw [HT.out]; exact hR, rfl⟩, HB6.out⟩
            · have d1 : decide (k < 1) = false := decide_eq_false c1
              by_cases c2 : 6 < k
              · have d2 : decide (6 < k) = true := decide_eq_true c2
                have hR : R = false := by rw [← HV.out]; exact tab_bad (.inr (.inr (.inr (.inl c2))))
                go_wp2_with fail
                go_ret2
                exact ⟨.inr ⟨by rw [HT.out]; exact hR, rfl⟩, HB6.out⟩
              · have d2 : decide (6 < k) = false := decide_eq_false c2
                by_cases c3 : n < 0
                · have d3 : decide (n < 0) = true := decide_eq_true c3
                  have hR : R = false := by rw [← HV.out]; exact tab_bad (.inr (.inr (.inr (.inr (.inl c3)))))
                  go_wp2_with fail
                  go_ret2
                  exact ⟨.inr ⟨by rw [HT.out]; exact hR, rfl⟩, HB6.out⟩
                · have d3 : decide (n < 0) = false := decide_eq_false c3
                  by_cases c4 : 0 < n
                  · have d4 : decide (0 < n) = true := decide_eq_true c4
                    have hR : R = false := by rw [← HV.out]; exact tab_bad (.inr (.inr (.inr (.inr (.inr (by show mostM k < n; unfold mostM; (first | rw [if_pos K2.out] | rw [if_neg K2.out]); exact c4))))))
                    go_wp2_with fail
                    go_ret2
                    exact ⟨.inr ⟨by rw [HT.out]; exact hR, rfl⟩, HB6.out⟩
                  · have d4 : decide (0 < n) = false := decide_eq_false c4
                    have hV9 : Hid (tabM ((tb.take (i + 1)).map (·.f0)) (tb.drop (i + 1)) = R) := by
                      have h9 := HV.out
                      rw [tab_good HND.out HVN.out.symm c1 c2 c3 (by show ¬ mostM k < n; unfold mostM; (first | rw [if_pos K2.out] | rw [if_neg K2.out]); exact c4)] at h9
                      rw [HTK.out, List.map_append, List.map_cons, List.map_nil]
                      exact h9
                    have hput := put_tab (tb.take i) ⟨nm, k, n, eq, nw⟩ HND.out
                    rw [← HTK.out] at hput
                    have HP : Hid _ := hput
                    clear hput c1 c2 c3 c4
                    go_wp2_with (first | (refine law_update keyText' rfl _ _ _ (.inl rfl) hu hk HM7.out nm (rowV ⟨nm, k, n, eq, nw⟩) rfl rfl rfl ?_; intro w9 m9 hg9; have B9 : Hid (Below w.heap.size w w9) := below_grown1 HB7.out hg9 (Nat.le_refl _); have M9 : Hid _ := m9; clear hg9 m9))
                    go_roundg g
                    case measure => omega
                    case rel => exact ⟨i + 1, by go_num, by omega, B9.out, by rw [← HP.out]; exact M9.out, hV9.out⟩
      · rw [hl] at r2
        simp only [Option.getD_some, Option.isSome_some] at r2
        have d1 : decide (nm ∈ (tb.take i).map (·.f0)) = true := decide_eq_true hd
        have HD1 : Hid _ := d1
        clear hl hzv HM5 hd y5 d1
        obtain ⟨rn, rk, rm, re, rw9⟩ := rx
        simp only [rowV] at r2
        go_upto_region 6 with fail
        have b6 : Below M.heap.size M (M.alloc (Obj.cells #[.string rn, .int .i64 rk, .int .i64 rm, .bool re, .bool rw9] 114)) := below_alloc (Below.refl _ _) _
        have HB6 : Hid (Below w.heap.size w (M.alloc (Obj.cells #[.string rn, .int .i64 rk, .int .i64 rm, .bool re, .bool rw9] 114))) := below_after HB5.out b6
        have HM6 : Hid _ := MapAt.kept HMM.out (grown_of_below b6 none) (by simp)
        have y6 := blk_below Y5.out b6
        clear b6 q0 q1 q2 q3 q4
        generalize M.alloc (Obj.cells #[.string rn, .int .i64 rk, .int .i64 rm, .bool re, .bool rw9] 114) = M2 at *
        generalize M.heap.size = bR2 at *
        obtain ⟨q0, q1, q2, q3, q4⟩ := cells5 y6
        have Y6 : Hid _ := y6
        clear y6
        by_cases k2 : k ≤ 2
        · have kk : decide (k ≤ 2) = true := decide_eq_true k2
          have K2 : Hid _ := k2
          clear k2
          have hR : R = false := by rw [← HV.out]; exact tab_bad (.inl (of_decide_eq_true HD1.out))
          go_wp2_with fail
          go_ret2
          exact ⟨.inr ⟨by rw [HT.out]; exact hR, rfl⟩, HB6.out⟩
        · have kk : decide (k ≤ 2) = false := decide_eq_false k2
          have K2 : Hid _ := k2
          clear k2
          have hR : R = false := by rw [← HV.out]; exact tab_bad (.inl (of_decide_eq_true HD1.out))
          go_wp2_with fail
          go_ret2
          exact ⟨.inr ⟨by rw [HT.out]; exact hR, rfl⟩, HB6.out⟩
    · have e1 : decide (i < tb.length) = false := decide_eq_false hlt
      rw [List.take_of_length_le (by omega)] at hM
      rw [List.drop_eq_nil_of_le (by omega)] at hV
      have HB : Hid _ := hB
      have HM : Hid _ := hM
      have hRt : Hid (R = true) := by rw [← hV]; rfl
      clear hB hM hV
      go_wp2_with fail
      go_ret2
      exact ⟨.inl ⟨by rw [HT.out]; exact hRt.out, _, rfl, Nat.le_refl _, HM.out⟩, HB.out⟩

end Go.Proofs.YtcjmplpfebpfpaaGreatDoor

namespace Go.Proofs.YtcjmplpfebpfpaaGreatDoor
open Go.RowKit Go.Proofs Go.Proofs.YtcjmplpfebpfpaaGreatDoorW.PrintWords Go.Proofs.YtcjmplpfebpfpaaGreatDoorW.PrintLast Go.Proofs.YtcjmplpfebpfpaaGreatDoorW.PrintMore PKindInstances
set_option linter.unusedVariables false
set_option linter.unusedSimpArgs false

def bitsB : ByteArray := ⟨#[98, 105, 116, 115]⟩
def seqB : ByteArray := ⟨#[115, 101, 113]⟩
def setB : ByteArray := ⟨#[115, 101, 116]⟩
def bagB : ByteArray := ⟨#[98, 97, 103]⟩
def maybeB : ByteArray := ⟨#[109, 97, 121, 98, 101]⟩
def mapB : ByteArray := ⟨#[109, 97, 112]⟩
def imapB : ByteArray := ⟨#[105, 109, 97, 112]⟩
def funB : ByteArray := ⟨#[102, 117, 110]⟩
def intB : ByteArray := ⟨#[105, 110, 116]⟩
def boolB : ByteArray := ⟨#[98, 111, 111, 108]⟩
/-- How many types stand behind a reserved head. -/
def manyM (h : ByteArray) : Option Int :=
  if h = bitsB then some 1 else
  if h = seqB then some 1 else
  if h = setB then some 1 else
  if h = bagB then some 1 else
  if h = maybeB then some 1 else
  if h = mapB then some 2 else
  if h = imapB then some 2 else
  if h = funB then some 2 else none
theorem look_many (h : ByteArray) : look headsM h = (manyM h).map fun n => .int .i64 n := by
  unfold manyM headsM
  simp only [look]
  by_cases h_bits : h = bitsB
  · rw [if_pos h_bits, if_pos (show h = (⟨#[98, 105, 116, 115]⟩ : ByteArray) from h_bits)]; rfl
  rw [if_neg h_bits, if_neg (show ¬ h = (⟨#[98, 105, 116, 115]⟩ : ByteArray) from h_bits)]
  by_cases h_seq : h = seqB
  · rw [if_pos h_seq, if_pos (show h = (⟨#[115, 101, 113]⟩ : ByteArray) from h_seq)]; rfl
  rw [if_neg h_seq, if_neg (show ¬ h = (⟨#[115, 101, 113]⟩ : ByteArray) from h_seq)]
  by_cases h_set : h = setB
  · rw [if_pos h_set, if_pos (show h = (⟨#[115, 101, 116]⟩ : ByteArray) from h_set)]; rfl
  rw [if_neg h_set, if_neg (show ¬ h = (⟨#[115, 101, 116]⟩ : ByteArray) from h_set)]
  by_cases h_bag : h = bagB
  · rw [if_pos h_bag, if_pos (show h = (⟨#[98, 97, 103]⟩ : ByteArray) from h_bag)]; rfl
  rw [if_neg h_bag, if_neg (show ¬ h = (⟨#[98, 97, 103]⟩ : ByteArray) from h_bag)]
  by_cases h_maybe : h = maybeB
  · rw [if_pos h_maybe, if_pos (show h = (⟨#[109, 97, 121, 98, 101]⟩ : ByteArray) from h_maybe)]; rfl
  rw [if_neg h_maybe, if_neg (show ¬ h = (⟨#[109, 97, 121, 98, 101]⟩ : ByteArray) from h_maybe)]
  by_cases h_map : h = mapB
  · rw [if_pos h_map, if_pos (show h = (⟨#[109, 97, 112]⟩ : ByteArray) from h_map)]; rfl
  rw [if_neg h_map, if_neg (show ¬ h = (⟨#[109, 97, 112]⟩ : ByteArray) from h_map)]
  by_cases h_imap : h = imapB
  · rw [if_pos h_imap, if_pos (show h = (⟨#[105, 109, 97, 112]⟩ : ByteArray) from h_imap)]; rfl
  rw [if_neg h_imap, if_neg (show ¬ h = (⟨#[105, 109, 97, 112]⟩ : ByteArray) from h_imap)]
  by_cases h_fun : h = funB
  · rw [if_pos h_fun, if_pos (show h = (⟨#[102, 117, 110]⟩ : ByteArray) from h_fun)]; rfl
  rw [if_neg h_fun, if_neg (show ¬ h = (⟨#[102, 117, 110]⟩ : ByteArray) from h_fun)]
  rfl
def kindAt (l : List S24) (i : Nat) : Int := ((l[i]?).map (·.f0)).getD 0
def shapeH (h : ByteArray) (l : List S24) : Bool :=
  if h.toList = [105, 110, 116] ∨ h.toList = [98, 111, 111, 108] ∨ h.toList = [] then false else
  match manyM h with
  | none => decide ((2 : Int) ≤ (l.length : Int))
  | some m => if (l.length : Int) = m + 1 then (if h = bitsB then kindAt l 1 == 0 else if h = maybeB then kindAt l 1 == 1 else if h = funB then kindAt l 1 == 3 else true) else false
/-- Whether a form has a type's outermost shape. -/
def shapedM (x : S24) : Bool := if x.f0 = 1 then true else shapeH (headOf x.f0 x.f3) x.f3
theorem shapeH_no {h : ByteArray} {l : List S24} {m : Int} (hm : manyM h = some m) (hl : ¬ (l.length : Int) = m + 1) : shapeH h l = false := by
  unfold shapeH
  split
  · rfl
  · rw [hm]; simp only []; rw [if_neg hl]
theorem shapeH_yes {h : ByteArray} {l : List S24} {m : Int} (hm : manyM h = some m) (hn : ¬ (h.toList = [105, 110, 116] ∨ h.toList = [98, 111, 111, 108] ∨ h.toList = [])) (hl : (l.length : Int) = m + 1) :
    shapeH h l = (if h = bitsB then kindAt l 1 == 0 else if h = maybeB then kindAt l 1 == 1 else if h = funB then kindAt l 1 == 3 else true) := by
  unfold shapeH
  rw [if_neg hn, hm]; simp only []; rw [if_pos hl]
theorem head_cases (h : ByteArray) : h = (⟨#[98, 105, 116, 115]⟩ : ByteArray) ∨ h = (⟨#[115, 101, 113]⟩ : ByteArray) ∨ h = (⟨#[115, 101, 116]⟩ : ByteArray) ∨ h = (⟨#[98, 97, 103]⟩ : ByteArray) ∨ h = (⟨#[109, 97, 121, 98, 101]⟩ : ByteArray) ∨ h = (⟨#[109, 97, 112]⟩ : ByteArray) ∨ h = (⟨#[105, 109, 97, 112]⟩ : ByteArray) ∨ h = (⟨#[102, 117, 110]⟩ : ByteArray) ∨ manyM h = none := by
  by_cases h_bits : h = (⟨#[98, 105, 116, 115]⟩ : ByteArray)
  · exact .inl h_bits
  by_cases h_seq : h = (⟨#[115, 101, 113]⟩ : ByteArray)
  · exact .inr (.inl h_seq)
  by_cases h_set : h = (⟨#[115, 101, 116]⟩ : ByteArray)
  · exact .inr (.inr (.inl h_set))
  by_cases h_bag : h = (⟨#[98, 97, 103]⟩ : ByteArray)
  · exact .inr (.inr (.inr (.inl h_bag)))
  by_cases h_maybe : h = (⟨#[109, 97, 121, 98, 101]⟩ : ByteArray)
  · exact .inr (.inr (.inr (.inr (.inl h_maybe))))
  by_cases h_map : h = (⟨#[109, 97, 112]⟩ : ByteArray)
  · exact .inr (.inr (.inr (.inr (.inr (.inl h_map)))))
  by_cases h_imap : h = (⟨#[105, 109, 97, 112]⟩ : ByteArray)
  · exact .inr (.inr (.inr (.inr (.inr (.inr (.inl h_imap))))))
  by_cases h_fun : h = (⟨#[102, 117, 110]⟩ : ByteArray)
  · exact .inr (.inr (.inr (.inr (.inr (.inr (.inr (.inl h_fun)))))))
  refine .inr (.inr (.inr (.inr (.inr (.inr (.inr (.inr (?_))))))))
  unfold manyM
  rw [if_neg (show ¬ h = bitsB from h_bits), if_neg (show ¬ h = seqB from h_seq), if_neg (show ¬ h = setB from h_set), if_neg (show ¬ h = bagB from h_bag), if_neg (show ¬ h = maybeB from h_maybe), if_neg (show ¬ h = mapB from h_map), if_neg (show ¬ h = imapB from h_imap), if_neg (show ¬ h = funB from h_fun)]
set_option maxRecDepth 100000 in
set_option maxHeartbeats 16000000 in
theorem shaped_any (x : S24) (A : Option Addr) (c : Nat) (w : World) (hr : Kd.C k24 w A x.f3.length x.f3) (hc : x.f3.length ≤ c) (hw : wid x < 9000000) :
    Calls Tryz.prog 117 #[formV x.f0 x.f1 x.f2 A x.f3.length c] w fun e w' => e = .returned (.bool (shapedM x)) ∧ Below w.heap.size w w' := by
  have hu24 := Tryz.underlying24
  have hu := Tryz.underlying132
  have hk := Tryz.underlying9
  have hll : x.f3.length < 9000000 := by have := wids_len x.f3; have := wid_kids x; omega
  obtain ⟨a, n, s, l⟩ := x
  simp only [] at hr hc hll
  have x1 := (MapKept.heap_alloc w (Obj.cells #[.int .i64 a, .int .i64 n, .string s, .slice A l.length c] 24)).1
  have b1 : Below w.heap.size w (w.alloc (Obj.cells #[.int .i64 a, .int .i64 n, .string s, .slice A l.length c] 24)) := below_alloc (Below.refl _ _) _
  have X1 : Hid _ := x1
  have B1 : Hid _ := b1
  have HR : Hid _ := hr
  have HHD : Hid (∀ W, Below w.heap.size w W → _) := fun W h => Head_any a n s c W (Kd.C_below hr h)
  clear x1 b1 hr hw
  by_cases h1 : a = 1
  · subst h1
    have e : shapedM ⟨1, n, s, l⟩ = true := by simp [shapedM]
    rw [e]
    clear e
    go_enter Tryz.func117, Tryz.ntmps117
    go_wp2_with fail
    go_ret
    exact ⟨rfl, B1.out⟩
  · have b1 : (a == 1) = false := beq_eq_false_iff_ne.mpr h1
    have e : shapedM ⟨a, n, s, l⟩ = shapeH (headOf a l) l := by simp [shapedM, h1]
    rw [e]
    obtain ⟨h, hh⟩ : ∃ h, h = headOf a l := ⟨_, rfl⟩
    rw [← hh] at HHD ⊢
    clear e hh h1
    obtain ⟨R, hR⟩ : ∃ R, R = shapeH h l := ⟨_, rfl⟩
    rw [← hR]
    have HRR : Hid _ := hR
    clear hR
    go_enter Tryz.func117, Tryz.ntmps117
    go_upto_region 1 with fail
    generalize w.alloc (Obj.cells #[.int .i64 a, .int .i64 n, .string s, .slice A l.length c] 24) = X at *
    obtain ⟨p0, p1, p2, p3⟩ := cells4 X1.out
    go_wp2_with fail
    refine Calls.mono (HHD.out _ B1.out) ?_
    rintro e w2 ⟨rfl, B2⟩
    have HB2 : Hid (Below w.heap.size w w2) := below_after B1.out B2
    have x2 := blk_below X1.out B2
    clear p0 p1 p2 p3 B2
    go_wp2_with fail
    refine (heads_any _).mono ?_
    rintro e w3 ⟨b, rfl, hb, hm, B3⟩
    have HB3 : Hid (Below w.heap.size w w3) := below_after HB2.out B3
    have x3 := blk_below x2 B3
    obtain ⟨p0, p1, p2, p3⟩ := cells4 x3
    clear x2 x3 B3
    have hz : (zeroValue 3).run Tryz.prog w3 = .ok (.int .i64 0) w3 := by go_simp
    have r2 := run_lookup_at keyText' hu hk hz hm h true
    rw [if_pos rfl, look_many] at r2
    change (Instr.lookup 132 (.map (some b)) (.string h) true).run Tryz.prog w3 = _ at r2
    clear hm hz
    have LC : Hid (∀ x, l[1]? = some x → ∃ ad, A = some ad ∧ w3.cell? ⟨ad.block, ad.off + 4, none⟩ = some (.int .i64 x.f0)) := fun x hx => by
      obtain ⟨ad, A3, c3, e, g0, _⟩ := row_at (Kd.C_below HR.out HB3.out) (List.getElem?_eq_some_iff.1 hx).1 hx
      exact ⟨ad, e, g0⟩
    rcases head_cases h with hcase | hcase | hcase | hcase | hcase | hcase | hcase | hcase | hcase
    · subst hcase
      simp only [show manyM (⟨#[98, 105, 116, 115]⟩ : ByteArray) = some 1 from by simp [manyM, bitsB, seqB, setB, bagB, maybeB, mapB, imapB, funB], Option.map_some, Option.getD_some, Option.isSome_some] at r2
      by_cases hlen : l.length = 2
      · have l1 : ((l.length : Int) != 2) = false := bne_eq_false_iff_eq.mpr (by omega)
        have HL : Hid _ := hlen
        obtain ⟨k1, hk1⟩ : ∃ x, l[1]? = some x := ⟨l[1]'(by omega), List.getElem?_eq_getElem _⟩
        obtain ⟨ad, rfl, g0⟩ := LC.out k1 hk1
        have l2 : 1 < l.length := by omega
        have HK1 : Hid (kindAt l 1 = k1.f0) := by unfold kindAt; rw [hk1]; rfl
        clear hlen hk1
        obtain ⟨y0, y1, y2, y3⟩ := k1
        simp only [] at g0
        go_wp2_with fail
        go_ret
        exact ⟨by rw [HRR.out, shapeH_yes (l := l) (m := 1) (by simp [manyM, bitsB, seqB, setB, bagB, maybeB, mapB, imapB, funB]) (by simp [ByteArray.toList_eq]) (by have := HL.out; omega)]; simp [bitsB, seqB, setB, bagB, maybeB, mapB, imapB, funB, HK1.out], HB3.out⟩
      · have l1 : ((l.length : Int) != 2) = true := bne_iff_ne.mpr (by omega)
        have HL : Hid _ := hlen
        clear hlen
        go_wp2_with fail
        go_ret
        exact ⟨by rw [HRR.out, shapeH_no (l := l) (m := 1) (by simp [manyM, bitsB, seqB, setB, bagB, maybeB, mapB, imapB, funB]) (fun e => HL.out (by omega))]; rfl, HB3.out⟩
    · subst hcase
      simp only [show manyM (⟨#[115, 101, 113]⟩ : ByteArray) = some 1 from by simp [manyM, bitsB, seqB, setB, bagB, maybeB, mapB, imapB, funB], Option.map_some, Option.getD_some, Option.isSome_some] at r2
      by_cases hlen : l.length = 2
      · have l1 : ((l.length : Int) != 2) = false := bne_eq_false_iff_eq.mpr (by omega)
        have HL : Hid _ := hlen
        clear hlen
        go_wp2_with fail
        go_ret
        exact ⟨by rw [HRR.out, shapeH_yes (l := l) (m := 1) (by simp [manyM, bitsB, seqB, setB, bagB, maybeB, mapB, imapB, funB]) (by simp [ByteArray.toList_eq]) (by have := HL.out; omega)]; simp [bitsB, seqB, setB, bagB, maybeB, mapB, imapB, funB], HB3.out⟩
      · have l1 : ((l.length : Int) != 2) = true := bne_iff_ne.mpr (by omega)
        have HL : Hid _ := hlen
        clear hlen
        go_wp2_with fail
        go_ret
        exact ⟨by rw [HRR.out, shapeH_no (l := l) (m := 1) (by simp [manyM, bitsB, seqB, setB, bagB, maybeB, mapB, imapB, funB]) (fun e => HL.out (by omega))]; rfl, HB3.out⟩
    · subst hcase
      simp only [show manyM (⟨#[115, 101, 116]⟩ : ByteArray) = some 1 from by simp [manyM, bitsB, seqB, setB, bagB, maybeB, mapB, imapB, funB], Option.map_some, Option.getD_some, Option.isSome_some] at r2
      by_cases hlen : l.length = 2
      · have l1 : ((l.length : Int) != 2) = false := bne_eq_false_iff_eq.mpr (by omega)
        have HL : Hid _ := hlen
        clear hlen
        go_wp2_with fail
        go_ret
        exact ⟨by rw [HRR.out, shapeH_yes (l := l) (m := 1) (by simp [manyM, bitsB, seqB, setB, bagB, maybeB, mapB, imapB, funB]) (by simp [ByteArray.toList_eq]) (by have := HL.out; omega)]; simp [bitsB, seqB, setB, bagB, maybeB, mapB, imapB, funB], HB3.out⟩
      · have l1 : ((l.length : Int) != 2) = true := bne_iff_ne.mpr (by omega)
        have HL : Hid _ := hlen
        clear hlen
        go_wp2_with fail
        go_ret
        exact ⟨by rw [HRR.out, shapeH_no (l := l) (m := 1) (by simp [manyM, bitsB, seqB, setB, bagB, maybeB, mapB, imapB, funB]) (fun e => HL.out (by omega))]; rfl, HB3.out⟩
    · subst hcase
      simp only [show manyM (⟨#[98, 97, 103]⟩ : ByteArray) = some 1 from by simp [manyM, bitsB, seqB, setB, bagB, maybeB, mapB, imapB, funB], Option.map_some, Option.getD_some, Option.isSome_some] at r2
      by_cases hlen : l.length = 2
      · have l1 : ((l.length : Int) != 2) = false := bne_eq_false_iff_eq.mpr (by omega)
        have HL : Hid _ := hlen
        clear hlen
        go_wp2_with fail
        go_ret
        exact ⟨by rw [HRR.out, shapeH_yes (l := l) (m := 1) (by simp [manyM, bitsB, seqB, setB, bagB, maybeB, mapB, imapB, funB]) (by simp [ByteArray.toList_eq]) (by have := HL.out; omega)]; simp [bitsB, seqB, setB, bagB, maybeB, mapB, imapB, funB], HB3.out⟩
      · have l1 : ((l.length : Int) != 2) = true := bne_iff_ne.mpr (by omega)
        have HL : Hid _ := hlen
        clear hlen
        go_wp2_with fail
        go_ret
        exact ⟨by rw [HRR.out, shapeH_no (l := l) (m := 1) (by simp [manyM, bitsB, seqB, setB, bagB, maybeB, mapB, imapB, funB]) (fun e => HL.out (by omega))]; rfl, HB3.out⟩
    · subst hcase
      simp only [show manyM (⟨#[109, 97, 121, 98, 101]⟩ : ByteArray) = some 1 from by simp [manyM, bitsB, seqB, setB, bagB, maybeB, mapB, imapB, funB], Option.map_some, Option.getD_some, Option.isSome_some] at r2
      by_cases hlen : l.length = 2
      · have l1 : ((l.length : Int) != 2) = false := bne_eq_false_iff_eq.mpr (by omega)
        have HL : Hid _ := hlen
        obtain ⟨k1, hk1⟩ : ∃ x, l[1]? = some x := ⟨l[1]'(by omega), List.getElem?_eq_getElem _⟩
        obtain ⟨ad, rfl, g0⟩ := LC.out k1 hk1
        have l2 : 1 < l.length := by omega
        have HK1 : Hid (kindAt l 1 = k1.f0) := by unfold kindAt; rw [hk1]; rfl
        clear hlen hk1
        obtain ⟨y0, y1, y2, y3⟩ := k1
        simp only [] at g0
        go_wp2_with fail
        go_ret
        exact ⟨by rw [HRR.out, shapeH_yes (l := l) (m := 1) (by simp [manyM, bitsB, seqB, setB, bagB, maybeB, mapB, imapB, funB]) (by simp [ByteArray.toList_eq]) (by have := HL.out; omega)]; simp [bitsB, seqB, setB, bagB, maybeB, mapB, imapB, funB, HK1.out], HB3.out⟩
      · have l1 : ((l.length : Int) != 2) = true := bne_iff_ne.mpr (by omega)
        have HL : Hid _ := hlen
        clear hlen
        go_wp2_with fail
        go_ret
        exact ⟨by rw [HRR.out, shapeH_no (l := l) (m := 1) (by simp [manyM, bitsB, seqB, setB, bagB, maybeB, mapB, imapB, funB]) (fun e => HL.out (by omega))]; rfl, HB3.out⟩
    · subst hcase
      simp only [show manyM (⟨#[109, 97, 112]⟩ : ByteArray) = some 2 from by simp [manyM, bitsB, seqB, setB, bagB, maybeB, mapB, imapB, funB], Option.map_some, Option.getD_some, Option.isSome_some] at r2
      by_cases hlen : l.length = 3
      · have l1 : ((l.length : Int) != 3) = false := bne_eq_false_iff_eq.mpr (by omega)
        have HL : Hid _ := hlen
        clear hlen
        go_wp2_with fail
        go_ret
        exact ⟨by rw [HRR.out, shapeH_yes (l := l) (m := 2) (by simp [manyM, bitsB, seqB, setB, bagB, maybeB, mapB, imapB, funB]) (by simp [ByteArray.toList_eq]) (by have := HL.out; omega)]; simp [bitsB, seqB, setB, bagB, maybeB, mapB, imapB, funB], HB3.out⟩
      · have l1 : ((l.length : Int) != 3) = true := bne_iff_ne.mpr (by omega)
        have HL : Hid _ := hlen
        clear hlen
        go_wp2_with fail
        go_ret
        exact ⟨by rw [HRR.out, shapeH_no (l := l) (m := 2) (by simp [manyM, bitsB, seqB, setB, bagB, maybeB, mapB, imapB, funB]) (fun e => HL.out (by omega))]; rfl, HB3.out⟩
    · subst hcase
      simp only [show manyM (⟨#[105, 109, 97, 112]⟩ : ByteArray) = some 2 from by simp [manyM, bitsB, seqB, setB, bagB, maybeB, mapB, imapB, funB], Option.map_some, Option.getD_some, Option.isSome_some] at r2
      by_cases hlen : l.length = 3
      · have l1 : ((l.length : Int) != 3) = false := bne_eq_false_iff_eq.mpr (by omega)
        have HL : Hid _ := hlen
        clear hlen
        go_wp2_with fail
        go_ret
        exact ⟨by rw [HRR.out, shapeH_yes (l := l) (m := 2) (by simp [manyM, bitsB, seqB, setB, bagB, maybeB, mapB, imapB, funB]) (by simp [ByteArray.toList_eq]) (by have := HL.out; omega)]; simp [bitsB, seqB, setB, bagB, maybeB, mapB, imapB, funB], HB3.out⟩
      · have l1 : ((l.length : Int) != 3) = true := bne_iff_ne.mpr (by omega)
        have HL : Hid _ := hlen
        clear hlen
        go_wp2_with fail
        go_ret
        exact ⟨by rw [HRR.out, shapeH_no (l := l) (m := 2) (by simp [manyM, bitsB, seqB, setB, bagB, maybeB, mapB, imapB, funB]) (fun e => HL.out (by omega))]; rfl, HB3.out⟩
    · subst hcase
      simp only [show manyM (⟨#[102, 117, 110]⟩ : ByteArray) = some 2 from by simp [manyM, bitsB, seqB, setB, bagB, maybeB, mapB, imapB, funB], Option.map_some, Option.getD_some, Option.isSome_some] at r2
      by_cases hlen : l.length = 3
      · have l1 : ((l.length : Int) != 3) = false := bne_eq_false_iff_eq.mpr (by omega)
        have HL : Hid _ := hlen
        obtain ⟨k1, hk1⟩ : ∃ x, l[1]? = some x := ⟨l[1]'(by omega), List.getElem?_eq_getElem _⟩
        obtain ⟨ad, rfl, g0⟩ := LC.out k1 hk1
        have l2 : 1 < l.length := by omega
        have HK1 : Hid (kindAt l 1 = k1.f0) := by unfold kindAt; rw [hk1]; rfl
        clear hlen hk1
        obtain ⟨y0, y1, y2, y3⟩ := k1
        simp only [] at g0
        go_wp2_with fail
        go_ret
        exact ⟨by rw [HRR.out, shapeH_yes (l := l) (m := 2) (by simp [manyM, bitsB, seqB, setB, bagB, maybeB, mapB, imapB, funB]) (by simp [ByteArray.toList_eq]) (by have := HL.out; omega)]; simp [bitsB, seqB, setB, bagB, maybeB, mapB, imapB, funB, HK1.out], HB3.out⟩
      · have l1 : ((l.length : Int) != 3) = true := bne_iff_ne.mpr (by omega)
        have HL : Hid _ := hlen
        clear hlen
        go_wp2_with fail
        go_ret
        exact ⟨by rw [HRR.out, shapeH_no (l := l) (m := 2) (by simp [manyM, bitsB, seqB, setB, bagB, maybeB, mapB, imapB, funB]) (fun e => HL.out (by omega))]; rfl, HB3.out⟩
    · rw [hcase] at r2
      simp only [Option.map_none, Option.getD_none, Option.isSome_none] at r2
      have HC : Hid _ := hcase
      clear hcase
      by_cases h_int : h.toList = [105, 110, 116]
      · have t_int : (h.toList == [105, 110, 116]) = true := beq_iff_eq.mpr h_int
        have HE : Hid _ := h_int
        clear h_int
        go_wp2_with fail
        go_ret
        exact ⟨by rw [HRR.out]; unfold shapeH; rw [if_pos (by simp [HE.out])]; rfl, HB3.out⟩
      have t_int : (h.toList == [105, 110, 116]) = false := beq_eq_false_iff_ne.mpr h_int
      have N_int : Hid _ := h_int
      clear h_int
      by_cases h_bool : h.toList = [98, 111, 111, 108]
      · have t_bool : (h.toList == [98, 111, 111, 108]) = true := beq_iff_eq.mpr h_bool
        have HE : Hid _ := h_bool
        clear h_bool
        go_wp2_with fail
        go_ret
        exact ⟨by rw [HRR.out]; unfold shapeH; rw [if_pos (by simp [HE.out])]; rfl, HB3.out⟩
      have t_bool : (h.toList == [98, 111, 111, 108]) = false := beq_eq_false_iff_ne.mpr h_bool
      have N_bool : Hid _ := h_bool
      clear h_bool
      by_cases h_e : h.toList = []
      · have t_e : (h.toList == []) = true := beq_iff_eq.mpr h_e
        have t_e2 : h.toList.isEmpty = true := by rw [h_e]; rfl
        have HE : Hid _ := h_e
        clear h_e
        go_wp2_with fail
        go_ret
        exact ⟨by rw [HRR.out]; unfold shapeH; rw [if_pos (by simp [HE.out])]; rfl, HB3.out⟩
      have t_e : (h.toList == []) = false := beq_eq_false_iff_ne.mpr h_e
      have t_e2 : h.toList.isEmpty = false := by cases hq : h.toList with | nil => exact absurd hq h_e | cons _ _ => rfl
      have N_e : Hid _ := h_e
      clear h_e
      go_wp2_with fail
      go_ret
      exact ⟨by rw [HRR.out]; unfold shapeH; rw [if_neg (fun e => by rcases e with e | e | e; exact N_int.out e; exact N_bool.out e; exact N_e.out e), HC.out]; first | rfl | simp, HB3.out⟩

end Go.Proofs.YtcjmplpfebpfpaaGreatDoor

namespace Go.Proofs.YtcjmplpfebpfpaaGreatDoor
open Go.RowKit Go.Proofs Go.Proofs.YtcjmplpfebpfpaaGreatDoorW.PrintWords Go.Proofs.YtcjmplpfebpfpaaGreatDoorW.PrintLast Go.Proofs.YtcjmplpfebpfpaaGreatDoorW.PrintMore PKindInstances
set_option linter.unusedVariables false
set_option linter.unusedSimpArgs false

theorem lit_none {w : World} (o : Nat → Prop) (h : ∀ k, w.heap.size ≤ k → o k) : Kd.N k24 24 (w.alloc (.cells #[] 24)) w.heap.size o (.slice (some ⟨w.heap.size, 0, none⟩) 0 0) [] := by
  refine Kd.R_N ⟨fun k hk => ?_, [], ?_, ?_⟩
  · have : w.heap.size = k := by simpa [Value.ownBlock] using hk
    exact h k (by omega)
  · exact World.ownsRow_lit (base := w.heap.size) (e := 24) (size := 4) w #[] 0 (Nat.le_refl _) (by decide) rfl
  · exact ⟨rfl, fun j p hj => by simp at hj⟩
set_option maxRecDepth 100000 in
/-- slices.Clone: a row of one's own; what the forms lead to is what came in. -/
theorem Clone_any (l : List S24) (A : Option Addr) (c : Nat) (w : World) (ok : Nat → Prop) (hr : Kd.F k24 w ok A l.length l) (hc : l.length ≤ c) (hn : l.length < 9000000) :
    Calls Tryz.prog 82 #[.slice A l.length c] w fun e w' => ∃ v, e = .returned v ∧ Kd.N k24 24 w' w.heap.size (fun k => ok k ∧ k < w.heap.size ∨ w.heap.size ≤ k) v l ∧ Below w.heap.size w w' := by
  have hu24 := Tryz.underlying24
  have hu22 := Tryz.underlying22
  have q22 : ∀ (w : World) (a : Option Addr) (n c n' c' : Nat), (binOp .eql 22 (.slice a n c) (.slice none n' c')).run Tryz.prog w = .ok (.bool a.isNone) w := fun w a n c n' c' => Lib.run_eql_slice_nil w _ _ a n c n' c' Tryz.underlying22
  have HR : Hid _ := Kd.F_bound hr
  have hlen : Hid (A = none → l = []) := fun h => by
    cases l with
    | nil => rfl
    | cons x l => obtain ⟨ad, e, _⟩ := (Kd.F_now hr).2.2 (by simp); rw [h] at e; cases e
  clear hr
  obtain ⟨n, hl⟩ : ∃ n, n = l.length := ⟨_, rfl⟩
  rw [← hl] at hc hn HR ⊢
  have HL : Hid _ := hl
  clear hl
  have Z0 : Hid (Kd.N k24 24 (w.alloc (.cells #[] 24)) w.heap.size (fun k => ok k ∧ k < w.heap.size ∨ w.heap.size ≤ k) (.slice (some ⟨w.heap.size, 0, none⟩) 0 0) []) := lit_none _ (fun k hk => .inr hk)
  have B0 : Hid (Below w.heap.size w (w.alloc (.cells #[] 24))) := below_alloc (Below.refl _ _) _
  cases A with
  | none =>
    obtain rfl := hlen.out rfl
    go_enter Tryz.func82, Tryz.ntmps82
    go_wp2_with fail
    go_ret
    exact ⟨_, rfl, by rw [HL.out]; exact Kd.N_nil _ _ _ _ _, Below.refl _ _⟩
  | some ad =>
    go_enter Tryz.func82, Tryz.ntmps82
    go_wp2_with (at_builtin; refine Kd.N_append_rows k24 (w0 := w) w.heap.size rfl (.tmp 5) (.tmp 6) 22 24 (.agg #[(.int .i64 0), (.int .i64 0), (.string ⟨#[]⟩), (.slice none 0 0)]) 56 rfl hu22 info24 rfl (by decide) (by decide) _ [] l (some ad) n c (fun k => ok k ∧ k < w.heap.size ∨ w.heap.size ≤ k) (fun k => ok k ∧ k < w.heap.size) rfl rfl ?n1 ?n2 ?n3 ?n4 ?n5 ?n6 ?n7 ?n8)
    case n1 => exact Kd.N_below Z0.out (by first | exact Below.refl _ _ | (repeat (first | exact Below.refl _ _ | apply below_alloc | apply pw_below_drewN | apply below_drew1)))
    case n2 => exact Kd.F_below HR.out (by (repeat (first | exact Below.refl _ _ | apply below_alloc | apply pw_below_drewN | apply below_drew1)))
    case n3 => exact fun k hk => ⟨.inl hk, fun he => by have h2 := hk.2; have he2 : some k = some w.heap.size := he; have he3 := Option.some.inj he2; omega⟩
    case n4 => exact fun k hk => .inr (Nat.le_trans (below_size (below_alloc (Below.refl _ _) (Obj.cells #[] 24))) hk)
    case n5 => exact (by (repeat (first | exact Below.refl _ _ | apply below_alloc | apply pw_below_drewN | apply below_drew1)))
    case n6 => simp
    case n7 => simp; omega
    case n8 =>
      intro v1 w1 hN hB hg hat
      have HN : Hid _ := hN
      have HB : Hid _ := hB
      clear hN hB hg hat
      go_wp2_with fail
      go_ret
      exact ⟨_, rfl, HN.out, HB.out⟩
end Go.Proofs.YtcjmplpfebpfpaaGreatDoor

namespace Go.Proofs.YtcjmplpfebpfpaaGreatDoor
open Go.RowKit Go.Proofs Go.Proofs.YtcjmplpfebpfpaaGreatDoorW.PrintWords Go.Proofs.YtcjmplpfebpfpaaGreatDoorW.PrintLast Go.Proofs.YtcjmplpfebpfpaaGreatDoorW.PrintMore PKindInstances
set_option linter.unusedVariables false
set_option linter.unusedSimpArgs false

def withinL (f : S24 → Bool → Option Bool) (fn : Bool) : Bool → List S24 → Option Bool
  | _, [] => some false
  | first, k :: l => match f k (fn && first && (k.f0 == 3)) with | none => none | some true => some true | some false => withinL f fn false l
/-- Whether a variable stands in a type. -/
def withinM (vs : List ByteArray) (mt : List (ByteArray × S24)) : Nat → ByteArray → S24 → Bool → Option Bool
  | 0, _, _, _ => none
  | n + 1, name, x, bare =>
    match (if bare then some x else knownM vs mt n x) with
    | none => none
    | some t => if t.f0 = 1 then some (!bare && t.f2.toList == name.toList) else withinL (withinM vs mt n name) (!bare && isFunW (headOf t.f0 t.f3)) true (typesL t.f0 t.f3 bare)

theorem FormAt.below {W w : World} {v : Value} {x : S24} (h : FormAt W v x) (hb : Below W.heap.size W w) : FormAt w v x := by
  obtain ⟨A, c, e, h1, h2, h3⟩ := h
  exact ⟨A, c, e, Kd.C_below h1 hb, h2, h3⟩
theorem ToAt.below {W w : World} (hb : Below W.heap.size W w) : ∀ {m : List (ByteArray × S24)} {n : List (ByteArray × Value)}, ToAt W m n → ToAt w m n
  | [], [], _ => trivial
  | (a, x) :: m, (b, v) :: n, h => ⟨h.1, h.2.1.below hb, ToAt.below hb h.2.2⟩

def WithinOk (vs : List ByteArray) (mt : List (ByteArray × S24)) (mtv : List (ByteArray × Value)) (n : Nat) : Prop :=
  ∀ (base sp vb tb : Nat) (w : World) (name : ByteArray) (x : S24) (bare : Bool) (A : Option Addr) (c : Nat) (r : Bool), SolvAt base w sp vb tb (varsV vs) mtv → ToAt w mt mtv →
    Kd.C k24 w A x.f3.length x.f3 → x.f3.length ≤ c → wid x < 9000000 → withinM vs mt n name x bare = some r →
    Calls Tryz.prog 136 #[.pointer (some ⟨sp, 0, none⟩), .string name, formV x.f0 x.f1 x.f2 A x.f3.length c, .bool bare] w fun e w' => e = .returned (.bool r) ∧ Below w.heap.size w w'

/-- What holds of the loop. -/
def WiRel (W1 : World) (f : S24 → Bool → Option Bool) (fn : Bool) (ys : List S24) (r : Bool) (k : Nat) (x39 : Value) (wr : World) : Prop :=
  ∃ i, x39 = .int .i64 ((i : Nat) : Int) ∧ k + i = ys.length ∧ Below W1.heap.size W1 wr ∧ withinL f fn (decide (i = 0)) (ys.drop i) = some r

theorem drop_at3 {l : List S24} {i : Nat} {x : S24} (hx : l[i]? = some x) : l.drop i = x :: l.drop (i + 1) := by
  obtain ⟨h, e⟩ := List.getElem?_eq_some_iff.1 hx
  rw [List.drop_eq_getElem_cons h, e]
theorem below_self4 {w w1 : World} {a0 a1 a2 a3 : Value} (h : Below w.heap.size w w1) : Below w.heap.size w ((((w1.setCell ⟨w.heap.size, 0, none⟩ a0).setCell ⟨w.heap.size, 1, none⟩ a1).setCell ⟨w.heap.size, 2, none⟩ a2).setCell ⟨w.heap.size, 3, none⟩ a3) := below4 h (Nat.le_refl _)
theorem box_heap {w w1 : World} {o : Obj} (h : Below (w.alloc o).heap.size (w.alloc o) w1) : w1.heap[w.heap.size]? = some o :=
  (h.block _ (by rw [size_new]; omega)).trans (MapKept.heap_alloc w o).1

set_option maxRecDepth 100000 in
set_option maxHeartbeats 8000000 in
theorem within_step (vs : List ByteArray) (mt : List (ByteArray × S24)) (mtv : List (ByteArray × Value)) (n : Nat) (ih : WithinOk vs mt mtv n) : WithinOk vs mt mtv (n + 1) := by
  intro base sp vb tb w name x bare A c r hs ht hr hc hx hk
  have hu24 := Tryz.underlying24
  have IH : Hid _ := ih
  obtain ⟨x0, x1, x2, x3⟩ := x
  have B0 : Below w.heap.size w (w.alloc (Obj.cells #[.int .i64 x0, .int .i64 x1, .string x2, .slice A x3.length c] 24)) := below_alloc (Below.refl _ _) _
  simp only [withinM] at hk
  cases bare with
  | true =>
    simp only [if_true] at hk
    have hK := hk
    simp only [Bool.not_true, Bool.false_and] at hK
    have S2 : Hid _ := hs.below B0
    have T2 : Hid _ := ht.below B0
    have HT : Hid _ := Kd.C_below hr B0
    have HSZ : Hid _ := hx
    have B2 : Hid _ := B0
    clear hs ht hr hx hk B0 ih
    by_cases h1 : x0 = 1
    · subst h1
      rw [if_pos rfl] at hK
      obtain rfl := Option.some.inj hK
      clear hK
      go_enter Tryz.func136, Tryz.ntmps136
      go_wp2_with fail
      go_ret
      exact ⟨rfl, B2.out⟩
    · have b1 : (x0 == 1) = false := beq_eq_false_iff_ne.mpr h1
      rw [if_neg h1] at hK
      obtain ⟨ys, hy⟩ : ∃ ys, ys = typesL x0 x3 true := ⟨_, rfl⟩
      have hys : ∀ x ∈ ys, wid x < 9000000 := by
        intro x hx
        rw [hy] at hx
        have e1 := wid_mem (typesL_mem hx)
        have e2 := HSZ.out
        simp only [wid] at e2
        omega
      have hyl : ys.length < 9000000 := by
        rw [hy]
        have e1 := typesL_len x0 x3 true
        have e2 := wids_len x3
        have e3 := HSZ.out
        simp only [wid] at e3
        omega
      have YS : Hid _ := hys
      clear hys
      have TA := fun w h => types_any x0 x1 x2 (A := A) (l := x3) c true w h hc
      rw [← hy] at hK TA
      have TA : Hid _ := TA
      clear hy h1
      have HW : Hid (withinL (withinM vs mt n name) false true ys = some r) := hK
      clear hK
      go_enter Tryz.func136, Tryz.ntmps136
      go_wp2_with fail
      refine (TA.out _ HT.out).mono ?_
      rintro e w5 ⟨v5, rfl, ⟨A', c', rfl, hr5, hc5⟩, B5'⟩
      have B5 := below_after B2.out B5'
      have SS : Hid _ := S2.out.below B5'
      have TT : Hid _ := T2.out.below B5'
      clear B5'
      have R5 : Hid _ := hr5
      have BX : Hid _ := B5
      have start : Hid (WiRel w5 (withinM vs mt n name) false ys r ys.length (.int .i64 ((0 : Nat) : Int)) w5) := ⟨0, rfl, rfl, Below.refl _ _, HW.out⟩
      clear hr5 B5
      go_wp2_with fail
      go_loopg [39] ys.length (fun k x39 wr => WiRel w5 (withinM vs mt n name) false ys r k x39 wr)
      case atStart => exact start.out
      case round =>
        clear start
        obtain ⟨i, rfl, hki, hB, hV⟩ := hrel
        by_cases hlt : i < ys.length
        · obtain ⟨g, rfl⟩ : ∃ g, gk = g + 1 := ⟨gk - 1, by omega⟩
          have e1 : decide (i < ys.length) = true := decide_eq_true hlt
          obtain ⟨k, hk⟩ : ∃ k, ys[i]? = some k := ⟨ys[i], by simp [hlt]⟩
          obtain ⟨ad, A5, c5, rfl, g0, g1, g2, g3, g4, g5⟩ := row_at (Kd.C_below R5.out hB) hlt hk
          rw [drop_at3 hk] at hV
          simp only [withinL] at hV
          have SZ : Hid _ := YS.out k (List.mem_of_getElem? hk)
          have BL : Hid _ := hB
          have G5 : Hid _ := g5
          clear hB g5 hk
          obtain ⟨k0, k1, k2, k3⟩ := k
          rw [show (false && decide (i = 0) && (k0 == 3)) = false from rfl] at hV
          cases hq : withinM vs mt n name ⟨k0, k1, k2, k3⟩ false with
          | none => rw [hq] at hV; cases hV
          | some q =>
            rw [hq] at hV
            have OK : Hid _ := IH.out base sp vb tb (wr.alloc (Obj.cells #[.int .i64 k0, .int .i64 k1, .string k2, .slice A5 k3.length c5] 24)) name ⟨k0, k1, k2, k3⟩ false A5 c5 q ((SS.out.below BL.out).below (below_alloc (Below.refl _ _) _)) ((TT.out.below BL.out).below (below_alloc (Below.refl _ _) _)) (Kd.C_alloc G5.out _) g4 SZ.out hq
            clear hq
            cases q with
            | true =>
              simp only [Option.some.injEq] at hV
              subst hV
              go_wp2_with fail
              refine Calls.mono OK.out ?_
              rintro e w6 ⟨rfl, B6⟩
              have B7 : Hid _ := (below_after BX.out (below_after BL.out (below_after (below_alloc (Below.refl _ _) _) B6)))
              clear B6
              go_wp2_with fail
              go_ret
              exact ⟨rfl, B7.out⟩
            | false =>
              simp only [] at hV
              have HV : Hid _ := hV
              clear hV
              go_wp2_with fail
              refine Calls.mono OK.out ?_
              rintro e w6 ⟨rfl, B6⟩
              have B7 : Hid _ := (below_after BL.out (below_after (below_alloc (Below.refl _ _) _) B6))
              clear B6
              go_wp2_with fail
              go_roundg g
              case measure => omega
              case rel => exact ⟨i + 1, by go_num, by omega, B7.out, by simpa using HV.out⟩
        · have e1 : decide (i < ys.length) = false := decide_eq_false hlt
          have hge2 : ys.length ≤ i := by omega
          have e3 : ys.drop i = [] := List.drop_eq_nil_of_le (by omega)
          rw [e3] at hV
          simp only [withinL, Option.some.injEq] at hV
          subst hV
          have B7 : Hid _ := below_after BX.out hB
          clear hB e3
          go_wp2_with fail
          go_ret
          exact ⟨rfl, B7.out⟩
  | false =>
    simp only [Bool.false_eq_true, if_false] at hk
    cases hkn : knownM vs mt n ⟨x0, x1, x2, x3⟩ with
    | none => rw [hkn] at hk; cases hk
    | some t =>
      rw [hkn] at hk
      simp only [Bool.not_false, Bool.true_and] at hk
      have KN : Hid _ := known_any w (w.alloc (Obj.cells #[.int .i64 x0, .int .i64 x1, .string x2, .slice A x3.length c] 24)) base sp vb tb vs mt mtv (hs.below B0) ht B0 ⟨x0, x1, x2, x3⟩ A c hr hc hx n t hkn
      have S0 : Hid _ := hs
      have T0 : Hid _ := ht
      have HB0 : Hid _ := B0
      have HK : Hid _ := hk
      clear hs ht hr hx B0 ih hkn hk
      go_enter Tryz.func136, Tryz.ntmps136
      go_wp2_with fail
      refine Calls.mono KN.out ?_
      rintro e w1 ⟨u, rfl, ⟨A3, c3, rfl, hr3, hct, hsz⟩, B1⟩
      obtain ⟨t0, t1, t2, t3⟩ := t
      have hb1 := box_heap B1
      obtain ⟨p0, p1, p2, p3⟩ := cells4 hb1
      have f0 := frozen4 (i := 0) hb1
      have f1 := frozen4 (i := 1) hb1
      have f2 := frozen4 (i := 2) hb1
      have f3 := frozen4 (i := 3) hb1
      have hb2 := set4 (a0 := .int .i64 t0) (a1 := .int .i64 t1) (a2 := .string t2) (a3 := .slice A3 t3.length c3) hb1
      have B2' := below_self4 (a0 := .int .i64 t0) (a1 := .int .i64 t1) (a2 := .string t2) (a3 := .slice A3 t3.length c3) (below_after HB0.out B1)
      have S2 : Hid _ := S0.out.below B2'
      have T2 : Hid _ := T0.out.below B2'
      have HT : Hid _ := Kd.C_below hr3 B2'
      have B2 : Hid _ := B2'
      have HSZ : Hid _ := hsz
      have HB2 : Hid _ := hb2
      have hK := HK.out
      clear hb1 hb2 B1 B2' S0 T0 HB0 hr3 hsz HK KN
      by_cases h1 : t0 = 1
      · subst h1
        rw [if_pos rfl] at hK
        obtain rfl := Option.some.inj hK
        clear hK
        go_wp2_with fail
        go_ret
        exact ⟨rfl, B2.out⟩
      · have b1 : (t0 == 1) = false := beq_eq_false_iff_ne.mpr h1
        rw [if_neg h1] at hK
        obtain ⟨ys, hy⟩ : ∃ ys, ys = typesL t0 t3 false := ⟨_, rfl⟩
        have hys : ∀ x ∈ ys, wid x < 9000000 := by
          intro x hx
          rw [hy] at hx
          have e1 := wid_mem (typesL_mem hx)
          have e2 := HSZ.out
          simp only [wid] at e2
          omega
        have hyl : ys.length < 9000000 := by
          rw [hy]
          have e1 := typesL_len t0 t3 false
          have e2 := wids_len t3
          have e3 := HSZ.out
          simp only [wid] at e3
          omega
        have YS : Hid _ := hys
        clear hys
        have TA := fun w h => types_any t0 t1 t2 (A := A3) (l := t3) c3 false w h hct
        rw [← hy] at hK TA
        have TA : Hid _ := TA
        clear hy h1
        obtain ⟨fn, hfn⟩ : ∃ fn, fn = isFunW (headOf t0 t3) := ⟨_, rfl⟩
        have hf : ((headOf t0 t3).toList == [102, 117, 110]) = fn := hfn.symm
        rw [← hfn] at hK
        clear hfn
        try simp only [Bool.not_false, Bool.true_and] at hK
        have HA : Hid (∀ w, Kd.C k24 w A3 t3.length t3 → _) := fun w h => Head_any t0 t1 t2 c3 w h
        rcases (by cases fn <;> simp : fn = false ∨ fn = true) with hfv | hfv
        · obtain rfl : fn = false := hfv
          have HW : Hid (withinL (withinM vs mt n name) false true ys = some r) := hK
          clear hK
          go_wp2_with fail
          refine Calls.mono (HA.out _ HT.out) ?_
          rintro e w4 ⟨rfl, B4'⟩
          have hb4 := (B4'.block _ (Array.getElem?_eq_some_iff.1 HB2.out).1).trans HB2.out
          have B4 := below_after B2.out B4'
          have S4 : Hid _ := S2.out.below B4'
          have T4 : Hid _ := T2.out.below B4'
          have HT4 := Kd.C_below HT.out B4'
          obtain ⟨q0, q1, q2, q3⟩ := cells4 hb4
          clear hb4 B4'
          go_wp2_with fail
          refine (TA.out _ HT4).mono ?_
          rintro e w5 ⟨v5, rfl, ⟨A', c', rfl, hr5, hc5⟩, B5'⟩
          have B5 := below_after B4 B5'
          have SS : Hid _ := S4.out.below B5'
          have TT : Hid _ := T4.out.below B5'
          clear B5' HT4 B4
          have R5 : Hid _ := hr5
          have BX : Hid _ := B5
          have start : Hid (WiRel w5 (withinM vs mt n name) false ys r ys.length (.int .i64 ((0 : Nat) : Int)) w5) := ⟨0, rfl, rfl, Below.refl _ _, HW.out⟩
          clear hr5 B5
          go_wp2_with fail
          go_loopg [39] ys.length (fun k x39 wr => WiRel w5 (withinM vs mt n name) false ys r k x39 wr)
          case atStart => exact start.out
          case round =>
            clear start
            obtain ⟨i, rfl, hki, hB, hV⟩ := hrel
            by_cases hlt : i < ys.length
            · obtain ⟨g, rfl⟩ : ∃ g, gk = g + 1 := ⟨gk - 1, by omega⟩
              have e1 : decide (i < ys.length) = true := decide_eq_true hlt
              obtain ⟨k, hk⟩ : ∃ k, ys[i]? = some k := ⟨ys[i], by simp [hlt]⟩
              obtain ⟨ad, A5, c5, rfl, g0, g1, g2, g3, g4, g5⟩ := row_at (Kd.C_below R5.out hB) hlt hk
              rw [drop_at3 hk] at hV
              simp only [withinL] at hV
              have SZ : Hid _ := YS.out k (List.mem_of_getElem? hk)
              have BL : Hid _ := hB
              have G5 : Hid _ := g5
              clear hB g5 hk
              obtain ⟨k0, k1, k2, k3⟩ := k
              rw [show (false && decide (i = 0) && (k0 == 3)) = false from rfl] at hV
              cases hq : withinM vs mt n name ⟨k0, k1, k2, k3⟩ false with
              | none => rw [hq] at hV; cases hV
              | some q =>
                rw [hq] at hV
                have OK : Hid _ := IH.out base sp vb tb (wr.alloc (Obj.cells #[.int .i64 k0, .int .i64 k1, .string k2, .slice A5 k3.length c5] 24)) name ⟨k0, k1, k2, k3⟩ false A5 c5 q ((SS.out.below BL.out).below (below_alloc (Below.refl _ _) _)) ((TT.out.below BL.out).below (below_alloc (Below.refl _ _) _)) (Kd.C_alloc G5.out _) g4 SZ.out hq
                clear hq
                cases q with
                | true =>
                  simp only [Option.some.injEq] at hV
                  subst hV
                  go_wp2_with fail
                  refine Calls.mono OK.out ?_
                  rintro e w6 ⟨rfl, B6⟩
                  have B7 : Hid _ := (below_after BX.out (below_after BL.out (below_after (below_alloc (Below.refl _ _) _) B6)))
                  clear B6
                  go_wp2_with fail
                  go_ret
                  exact ⟨rfl, B7.out⟩
                | false =>
                  simp only [] at hV
                  have HV : Hid _ := hV
                  clear hV
                  go_wp2_with fail
                  refine Calls.mono OK.out ?_
                  rintro e w6 ⟨rfl, B6⟩
                  have B7 : Hid _ := (below_after BL.out (below_after (below_alloc (Below.refl _ _) _) B6))
                  clear B6
                  go_wp2_with fail
                  go_roundg g
                  case measure => omega
                  case rel => exact ⟨i + 1, by go_num, by omega, B7.out, by simpa using HV.out⟩
            · have e1 : decide (i < ys.length) = false := decide_eq_false hlt
              have hge2 : ys.length ≤ i := by omega
              have e3 : ys.drop i = [] := List.drop_eq_nil_of_le (by omega)
              rw [e3] at hV
              simp only [withinL, Option.some.injEq] at hV
              subst hV
              have B7 : Hid _ := below_after BX.out hB
              clear hB e3
              go_wp2_with fail
              go_ret
              exact ⟨rfl, B7.out⟩
        · obtain rfl : fn = true := hfv
          have HW : Hid (withinL (withinM vs mt n name) true true ys = some r) := hK
          clear hK
          go_wp2_with fail
          refine Calls.mono (HA.out _ HT.out) ?_
          rintro e w4 ⟨rfl, B4'⟩
          have hb4 := (B4'.block _ (Array.getElem?_eq_some_iff.1 HB2.out).1).trans HB2.out
          have B4 := below_after B2.out B4'
          have S4 : Hid _ := S2.out.below B4'
          have T4 : Hid _ := T2.out.below B4'
          have HT4 := Kd.C_below HT.out B4'
          obtain ⟨q0, q1, q2, q3⟩ := cells4 hb4
          clear hb4 B4'
          go_wp2_with fail
          refine (TA.out _ HT4).mono ?_
          rintro e w5 ⟨v5, rfl, ⟨A', c', rfl, hr5, hc5⟩, B5'⟩
          have B5 := below_after B4 B5'
          have SS : Hid _ := S4.out.below B5'
          have TT : Hid _ := T4.out.below B5'
          clear B5' HT4 B4
          have R5 : Hid _ := hr5
          have BX : Hid _ := B5
          have start : Hid (WiRel w5 (withinM vs mt n name) true ys r ys.length (.int .i64 ((0 : Nat) : Int)) w5) := ⟨0, rfl, rfl, Below.refl _ _, HW.out⟩
          clear hr5 B5
          go_wp2_with fail
          go_loopg [39] ys.length (fun k x39 wr => WiRel w5 (withinM vs mt n name) true ys r k x39 wr)
          case atStart => exact start.out
          case round =>
            clear start
            obtain ⟨i, rfl, hki, hB, hV⟩ := hrel
            by_cases hlt : i < ys.length
            · obtain ⟨g, rfl⟩ : ∃ g, gk = g + 1 := ⟨gk - 1, by omega⟩
              have e1 : decide (i < ys.length) = true := decide_eq_true hlt
              obtain ⟨k, hk⟩ : ∃ k, ys[i]? = some k := ⟨ys[i], by simp [hlt]⟩
              obtain ⟨ad, A5, c5, rfl, g0, g1, g2, g3, g4, g5⟩ := row_at (Kd.C_below R5.out hB) hlt hk
              rw [drop_at3 hk] at hV
              simp only [withinL] at hV
              have SZ : Hid _ := YS.out k (List.mem_of_getElem? hk)
              have BL : Hid _ := hB
              have G5 : Hid _ := g5
              clear hB g5 hk
              obtain ⟨k0, k1, k2, k3⟩ := k
              by_cases hi : i = 0
              · have hi1 : decide (i = 0) = true := decide_eq_true hi
                have hi2 : ((i : Int) == 0) = true := beq_iff_eq.mpr (by omega)
                clear hi
                by_cases h3 : k0 = 3
                · subst h3
                  rw [show (true && decide (i = 0) && ((3 : Int) == 3)) = true by rw [hi1]; rfl] at hV
                  cases hq : withinM vs mt n name ⟨3, k1, k2, k3⟩ true with
                  | none => rw [hq] at hV; cases hV
                  | some q =>
                    rw [hq] at hV
                    have OK : Hid _ := IH.out base sp vb tb (wr.alloc (Obj.cells #[.int .i64 3, .int .i64 k1, .string k2, .slice A5 k3.length c5] 24)) name ⟨3, k1, k2, k3⟩ true A5 c5 q ((SS.out.below BL.out).below (below_alloc (Below.refl _ _) _)) ((TT.out.below BL.out).below (below_alloc (Below.refl _ _) _)) (Kd.C_alloc G5.out _) g4 SZ.out hq
                    clear hq
                    cases q with
                    | true =>
                      simp only [Option.some.injEq] at hV
                      subst hV
                      go_wp2_with fail
                      refine Calls.mono OK.out ?_
                      rintro e w6 ⟨rfl, B6⟩
                      have B7 : Hid _ := (below_after BX.out (below_after BL.out (below_after (below_alloc (Below.refl _ _) _) B6)))
                      clear B6
                      go_wp2_with fail
                      go_ret
                      exact ⟨rfl, B7.out⟩
                    | false =>
                      simp only [] at hV
                      have HV : Hid _ := hV
                      clear hV
                      go_wp2_with fail
                      refine Calls.mono OK.out ?_
                      rintro e w6 ⟨rfl, B6⟩
                      have B7 : Hid _ := (below_after BL.out (below_after (below_alloc (Below.refl _ _) _) B6))
                      clear B6
                      go_wp2_with fail
                      go_roundg g
                      case measure => omega
                      case rel => exact ⟨i + 1, by go_num, by omega, B7.out, by simpa using HV.out⟩
                · have h4 : (k0 == 3) = false := beq_eq_false_iff_ne.mpr h3
                  rw [show (true && decide (i = 0) && (k0 == 3)) = false by rw [h4]; simp] at hV
                  cases hq : withinM vs mt n name ⟨k0, k1, k2, k3⟩ false with
                  | none => rw [hq] at hV; cases hV
                  | some q =>
                    rw [hq] at hV
                    have OK : Hid _ := IH.out base sp vb tb (wr.alloc (Obj.cells #[.int .i64 k0, .int .i64 k1, .string k2, .slice A5 k3.length c5] 24)) name ⟨k0, k1, k2, k3⟩ false A5 c5 q ((SS.out.below BL.out).below (below_alloc (Below.refl _ _) _)) ((TT.out.below BL.out).below (below_alloc (Below.refl _ _) _)) (Kd.C_alloc G5.out _) g4 SZ.out hq
                    clear hq
                    cases q with
                    | true =>
                      simp only [Option.some.injEq] at hV
                      subst hV
                      go_wp2_with fail
                      refine Calls.mono OK.out ?_
                      rintro e w6 ⟨rfl, B6⟩
                      have B7 : Hid _ := (below_after BX.out (below_after BL.out (below_after (below_alloc (Below.refl _ _) _) B6)))
                      clear B6
                      go_wp2_with fail
                      go_ret
                      exact ⟨rfl, B7.out⟩
                    | false =>
                      simp only [] at hV
                      have HV : Hid _ := hV
                      clear hV
                      go_wp2_with fail
                      refine Calls.mono OK.out ?_
                      rintro e w6 ⟨rfl, B6⟩
                      have B7 : Hid _ := (below_after BL.out (below_after (below_alloc (Below.refl _ _) _) B6))
                      clear B6
                      go_wp2_with fail
                      go_roundg g
                      case measure => omega
                      case rel => exact ⟨i + 1, by go_num, by omega, B7.out, by simpa using HV.out⟩
              · have hi1 : decide (i = 0) = false := decide_eq_false hi
                have hi2 : ((i : Int) == 0) = false := beq_eq_false_iff_ne.mpr (by omega)
                rw [show (true && decide (i = 0) && (k0 == 3)) = false by rw [hi1]; rfl] at hV
                cases hq : withinM vs mt n name ⟨k0, k1, k2, k3⟩ false with
                | none => rw [hq] at hV; cases hV
                | some q =>
                  rw [hq] at hV
                  have OK : Hid _ := IH.out base sp vb tb (wr.alloc (Obj.cells #[.int .i64 k0, .int .i64 k1, .string k2, .slice A5 k3.length c5] 24)) name ⟨k0, k1, k2, k3⟩ false A5 c5 q ((SS.out.below BL.out).below (below_alloc (Below.refl _ _) _)) ((TT.out.below BL.out).below (below_alloc (Below.refl _ _) _)) (Kd.C_alloc G5.out _) g4 SZ.out hq
                  clear hq
                  cases q with
                  | true =>
                    simp only [Option.some.injEq] at hV
                    subst hV
                    go_wp2_with fail
                    refine Calls.mono OK.out ?_
                    rintro e w6 ⟨rfl, B6⟩
                    have B7 : Hid _ := (below_after BX.out (below_after BL.out (below_after (below_alloc (Below.refl _ _) _) B6)))
                    clear B6
                    go_wp2_with fail
                    go_ret
                    exact ⟨rfl, B7.out⟩
                  | false =>
                    simp only [] at hV
                    have HV : Hid _ := hV
                    clear hV
                    go_wp2_with fail
                    refine Calls.mono OK.out ?_
                    rintro e w6 ⟨rfl, B6⟩
                    have B7 : Hid _ := (below_after BL.out (below_after (below_alloc (Below.refl _ _) _) B6))
                    clear B6
                    go_wp2_with fail
                    go_roundg g
                    case measure => omega
                    case rel => exact ⟨i + 1, by go_num, by omega, B7.out, by simpa using HV.out⟩
            · have e1 : decide (i < ys.length) = false := decide_eq_false hlt
              have hge2 : ys.length ≤ i := by omega
              have e3 : ys.drop i = [] := List.drop_eq_nil_of_le (by omega)
              rw [e3] at hV
              simp only [withinL, Option.some.injEq] at hV
              subst hV
              have B7 : Hid _ := below_after BX.out hB
              clear hB e3
              go_wp2_with fail
              go_ret
              exact ⟨rfl, B7.out⟩
theorem within_ok (vs : List ByteArray) (mt : List (ByteArray × S24)) (mtv : List (ByteArray × Value)) : ∀ n, WithinOk vs mt mtv n
  | 0 => fun _ _ _ _ _ _ _ _ _ _ _ _ _ _ _ _ h => by simp [withinM] at h
  | n + 1 => within_step vs mt mtv n (within_ok vs mt mtv n)

end Go.Proofs.YtcjmplpfebpfpaaGreatDoor

namespace Go.Proofs.YtcjmplpfebpfpaaGreatDoor
open Go.RowKit Go.Proofs Go.Proofs.YtcjmplpfebpfpaaGreatDoorW.PrintWords Go.Proofs.YtcjmplpfebpfpaaGreatDoorW.PrintLast Go.Proofs.YtcjmplpfebpfpaaGreatDoorW.PrintMore PKindInstances
set_option linter.unusedVariables false
set_option linter.unusedSimpArgs false

/-- What a call on the way ends with: what is known then, or an error that is thrown. -/
inductive URes where
  | ok (mt : List (ByteArray × S24))
  | stop (n : Int)

def stopE (n : Int) : PanicEntry := { v := .iface 88 (.agg #[.int .i64 n]), recovered := false }
/-- What holds behind such a call. -/
def UPost (W0 w : World) (base sp vb tb : Nat) (vs : List ByteArray) : URes → Ending → World → Prop
  | .ok mt, e, w' => e = .returned (.tuple #[]) ∧ w.grownBy w' (some tb) ∧ ∃ mtv, SolvAt base w' sp vb tb (varsV vs) mtv ∧ ToAt W0 mt mtv
  | .stop n, e, w' => e = .panicked [stopE n] ∧ w.grownBy w' (some tb)

def bindM (vs : List ByteArray) (mt : List (ByteArray × S24)) (n : Nat) (name : ByteArray) (x : S24) : Option URes :=
  match withinM vs mt n name x false with
  | none => none
  | some true => some (.stop 11)
  | some false => some (.ok (putT mt name x))

set_option maxRecDepth 100000 in
theorem bind_any (W0 w : World) (base sp vb tb : Nat) (vs : List ByteArray) (mt : List (ByteArray × S24)) (mtv : List (ByteArray × Value)) (hs : SolvAt base w sp vb tb (varsV vs) mtv) (ht : ToAt W0 mt mtv) (hw : Below W0.heap.size W0 w)
    (name : ByteArray) (x : S24) (A : Option Addr) (c : Nat) (hr : Kd.C k24 W0 A x.f3.length x.f3) (hc : x.f3.length ≤ c) (hx : wid x < 9000000) (n : Nat) (R : URes) (hk : bindM vs mt n name x = some R) :
    Calls Tryz.prog 95 #[.pointer (some ⟨sp, 0, none⟩), .string name, formV x.f0 x.f1 x.f2 A x.f3.length c] w (UPost W0 w base sp vb tb vs R) := by
  have hu24 := Tryz.underlying24
  have hfx : FormAt W0 (formV x.f0 x.f1 x.f2 A x.f3.length c) x := ⟨A, c, rfl, hr, hc, hx⟩
  obtain ⟨x0, x1, x2, x3⟩ := x
  have B0 : Below w.heap.size w (w.alloc (Obj.cells #[.int .i64 x0, .int .i64 x1, .string x2, .slice A x3.length c] 24)) := below_alloc (Below.refl _ _) _
  have BW : Below W0.heap.size W0 (w.alloc (Obj.cells #[.int .i64 x0, .int .i64 x1, .string x2, .slice A x3.length c] 24)) := below_alloc hw _
  unfold bindM at hk
  cases hq : withinM vs mt n name ⟨x0, x1, x2, x3⟩ false with
  | none => rw [hq] at hk; cases hk
  | some q =>
    rw [hq] at hk
    have WI : Hid _ := within_ok vs mt mtv n base sp vb tb _ name ⟨x0, x1, x2, x3⟩ false A c q (hs.below B0) (ToAt.below BW ht) (Kd.C_below hr BW) hc hx hq
    have HS : Hid _ := hs
    have HT : Hid _ := ht
    have HF : Hid _ := hfx
    have HB : Hid _ := B0
    clear hs ht hr hx hq B0 BW hfx hw
    cases q with
    | true =>
      simp only [Option.some.injEq] at hk
      subst hk
      go_enter Tryz.func95, Tryz.ntmps95
      go_wp2_with fail
      refine Calls.mono WI.out ?_
      rintro e w1 ⟨rfl, B1⟩
      have G1 : Hid _ := grown_of_below (below_after HB.out B1) (some tb)
      clear B1
      go_wp2_with fail
      exact ⟨rfl, rfl, G1.out⟩
    | false =>
      simp only [Option.some.injEq] at hk
      subst hk
      go_enter Tryz.func95, Tryz.ntmps95
      go_wp2_with fail
      refine Calls.mono WI.out ?_
      rintro e w1 ⟨rfl, B1⟩
      have G1 : Hid _ := grown_of_below (below_after HB.out B1) (some tb)
      have S1 := HS.out.below (below_after HB.out B1)
      obtain ⟨q0, q1, q2, q3⟩ := box_at B1
      have c1 := S1.c1
      obtain ⟨w9, hrun, M9, G9⟩ := run_update_at keyText' Tryz.underlying72 Tryz.underlying9 (show MapAt w1.drew tb _ from S1.tos) name (formV x0 x1 x2 A x3.length c)
      change (Instr.mapUpdate 72 (.map (some tb)) (.string name) _).run Tryz.prog _ = _ at hrun
      have S9 : Hid _ := SolvAt.putTo (show SolvAt base w1.drew sp vb tb (varsV vs) mtv from ⟨S1.blk, S1.vars, S1.tos, S1.bs, S1.bv, S1.bt, S1.ne⟩) M9 G9
      have GG : Hid (w.grownBy w9 (some tb)) := (G1.out.trans (grown_of_below (below_drew (Below.refl _ _)) (some tb))).trans G9
      clear B1 S1 M9 G9
      go_wp2_with fail
      go_region
      go_wp2_with fail
      go_end0
      exact ⟨rfl, GG.out, _, S9.out, put_to HT.out name HF.out⟩

end Go.Proofs.YtcjmplpfebpfpaaGreatDoor

namespace Go.Proofs.YtcjmplpfebpfpaaGreatDoor
open Go.RowKit Go.Proofs Go.Proofs.YtcjmplpfebpfpaaGreatDoorW.PrintWords Go.Proofs.YtcjmplpfebpfpaaGreatDoorW.PrintLast Go.Proofs.YtcjmplpfebpfpaaGreatDoorW.PrintMore PKindInstances
set_option linter.unusedVariables false
set_option linter.unusedSimpArgs false

def cmpStr (a b : ByteArray) : Int := if Op.bytesLess a.toList b.toList then -1 else if !(Op.bytesLess a.toList b.toList || a.toList == b.toList) then 1 else 0
mutual
/-- How two forms compare. -/
def cmpM : S24 → S24 → Int
  | ⟨a, n, s, l⟩, y =>
    if a ≠ y.f0 then Lib.compareInt a y.f0 else
    if a = 0 then Lib.compareInt n y.f1 else
    if a = 1 ∨ a = 2 then cmpStr s y.f2 else
    if a = 3 then cmpL l y.f3 else 0
def cmpL : List S24 → List S24 → Int
  | [], m => if 0 < m.length then -1 else 0
  | _ :: _, [] => 1
  | x :: l, y :: m => if cmpM x y ≠ 0 then cmpM x y else cmpL l m
end

theorem isNaN_any (a : ByteArray) (w : World) : Calls Tryz.prog 90 #[.string a] w fun e w' => e = .returned (.bool false) ∧ w = w' := by
  go_enter Tryz.func90, Tryz.ntmps90
  go_wp2
  go_ret
  exact ⟨by simp, rfl⟩

theorem cmpStr_any (a b : ByteArray) (w : World) : Calls Tryz.prog 47 #[.string a, .string b] w fun e w' => e = .returned (.int .i64 (cmpStr a b)) ∧ w = w' := by
  unfold cmpStr
  generalize hA : a.toList = A
  generalize hB : b.toList = B
  cases h1 : Op.bytesLess A B with
  | true =>
    rw [if_pos rfl]
    go_enter Tryz.func47, Tryz.ntmps47
    go_wp2_with (first | (go_at_call 90; refine (isNaN_any _ _).mono ?_; rintro e w' ⟨rfl, rfl⟩))
    go_ret
    exact ⟨rfl, rfl⟩
  | false =>
    rw [if_neg (by simp)]
    cases h2 : (A == B) with
    | true =>
      rw [if_neg (by simp)]
      go_enter Tryz.func47, Tryz.ntmps47
      go_wp2_with (first | (go_at_call 90; refine (isNaN_any _ _).mono ?_; rintro e w' ⟨rfl, rfl⟩))
      go_ret
      exact ⟨rfl, rfl⟩
    | false =>
      rw [if_pos (by simp)]
      go_enter Tryz.func47, Tryz.ntmps47
      go_wp2_with (first | (go_at_call 90; refine (isNaN_any _ _).mono ?_; rintro e w' ⟨rfl, rfl⟩))
      go_ret
      exact ⟨rfl, rfl⟩

theorem cmpInt_any (x y : Int) (w : World) : Calls Tryz.prog 154 #[.int .i64 x, .int .i64 y] w fun e w' => e = .returned (.int .i64 (Lib.compareInt x y)) ∧ w = w' := by
  refine (Tryz.cmp_Compare_int x y w).mono ?_
  rintro e w' ⟨rfl, rfl⟩
  exact ⟨rfl, rfl⟩

/-- What the call does on one form and whatever other. -/
def CmpOk (x : S24) : Prop :=
  ∀ (y : S24) (A B : Option Addr) (c d : Nat) (w : World), Kd.C k24 w A x.f3.length x.f3 → x.f3.length ≤ c → Kd.C k24 w B y.f3.length y.f3 → y.f3.length ≤ d → wid x < 9000000 → wid y < 9000000 →
    Calls Tryz.prog 137 #[formV x.f0 x.f1 x.f2 A x.f3.length c, formV y.f0 y.f1 y.f2 B y.f3.length d] w fun e w' => e = .returned (.int .i64 (cmpM x y)) ∧ Below w.heap.size w w'

/-- What holds of the loop. -/
def CmpRel (W0 : World) (l m : List S24) (R : Int) (k : Nat) (x13 : Value) (wr : World) : Prop :=
  ∃ (i : Nat), x13 = .int .i64 (i : Int) ∧ k + i = l.length ∧ i ≤ m.length ∧ Below W0.heap.size W0 wr ∧ cmpL (l.drop i) (m.drop i) = R

theorem drop_at' {l : List S24} {i : Nat} {x : S24} (hx : l[i]? = some x) : l.drop i = x :: l.drop (i + 1) := by
  obtain ⟨h, e⟩ := List.getElem?_eq_some_iff.1 hx
  rw [List.drop_eq_getElem_cons h, e]

set_option maxRecDepth 100000 in
set_option maxHeartbeats 4000000 in
theorem compareFunc_any (l m : List S24) (A B : Option Addr) (c d : Nat) (w : World) (hr : Kd.C k24 w A l.length l) (hc : l.length ≤ c) (hs : Kd.C k24 w B m.length m) (hd : m.length ≤ d) (hn : wids l < 9000000) (hm : wids m < 9000000)
    (hq : ∀ x ∈ l, CmpOk x) :
    Calls Tryz.prog 155 #[.slice A l.length c, .slice B m.length d, .func (.func 137) #[] #[]] w fun e w' => e = .returned (.int .i64 (cmpL l m)) ∧ Below w.heap.size w w' := by
  have hu24 := Tryz.underlying24
  have h1 := wids_len l
  have h2 := wids_len m
  obtain ⟨R, hR⟩ : ∃ R, R = cmpL l m := ⟨_, rfl⟩
  rw [← hR]
  have start : Hid (CmpRel w l m R l.length (.int .i64 ((0 : Nat) : Int)) w) := ⟨0, rfl, rfl, Nat.zero_le _, Below.refl _ _, hR.symm⟩
  have HR : Hid _ := hr
  have HS : Hid _ := hs
  have HQ : Hid _ := hq
  have HN : Hid (∀ x ∈ l, wid x < 9000000) := fun x hx => by have := wid_mem hx; omega
  have HM : Hid (∀ x ∈ m, wid x < 9000000) := fun x hx => by have := wid_mem hx; omega
  clear hr hs hq hR
  go_enter Tryz.func155, Tryz.ntmps155
  go_wp2_with fail
  go_loopg [13] l.length (fun k x13 wr => CmpRel w l m R k x13 wr)
  case atStart => exact start.out
  case round =>
    clear start
    obtain ⟨i, rfl, hki, him, Bl, hV⟩ := hrel
    by_cases hlt : i < l.length
    · obtain ⟨g, rfl⟩ : ∃ g, gk = g + 1 := ⟨gk - 1, by omega⟩
      have e1 : decide (i < l.length) = true := decide_eq_true hlt
      obtain ⟨x, hx⟩ : ∃ x, l[i]? = some x := ⟨l[i], by simp [hlt]⟩
      obtain ⟨ad, A3, c3, rfl, g0, g1, g2, g3, g4, g5⟩ := row_at (Kd.C_below HR.out Bl) hlt hx
      rw [drop_at' hx] at hV
      by_cases hlm : i < m.length
      · have e2 : decide (m.length ≤ i) = false := decide_eq_false (by omega)
        obtain ⟨y, hy⟩ : ∃ y, m[i]? = some y := ⟨m[i], by simp [hlm]⟩
        have bal : Below wr.heap.size wr (wr.alloc (Obj.cells #[.int .i64 x.f0, .int .i64 x.f1, .string x.f2, .slice A3 x.f3.length c3] 24)) := below_alloc (Below.refl _ _) _
        obtain ⟨ad', A4, c4, rfl, k0, k1, k2, k3, k4, k5⟩ := row_at (Kd.C_below (Kd.C_below HS.out Bl) bal) hlm hy
        rw [drop_at' hy] at hV
        simp only [cmpL] at hV
        have BL : Hid _ := Bl
        have OK : Hid _ := HQ.out x (List.mem_of_getElem? hx) y A3 A4 c3 c4 ((wr.alloc (Obj.cells #[.int .i64 x.f0, .int .i64 x.f1, .string x.f2, .slice A3 x.f3.length c3] 24)).alloc (Obj.cells #[.int .i64 y.f0, .int .i64 y.f1, .string y.f2, .slice A4 y.f3.length c4] 24)) (Kd.C_alloc (Kd.C_alloc g5 _) _) g4 (Kd.C_alloc k5 _) k4 (HN.out x (List.mem_of_getElem? hx)) (HM.out y (List.mem_of_getElem? hy))
        clear Bl g5 k5 hx hy bal
        obtain ⟨x0, x1, x2, x3⟩ := x
        obtain ⟨y0, y1, y2, y3⟩ := y
        obtain ⟨q, hq⟩ : ∃ q, q = cmpM ⟨x0, x1, x2, x3⟩ ⟨y0, y1, y2, y3⟩ := ⟨_, rfl⟩
        rw [← hq] at OK hV
        clear hq
        by_cases hz : q = 0
        · subst hz
          simp only [ne_eq, not_true_eq_false, if_false] at hV
          have HV : Hid _ := hV
          clear hV
          go_wp2_with fail
          refine Calls.mono OK.out ?_
          rintro e w2 ⟨rfl, B2⟩
          have B3 : Below w.heap.size w w2 := (below_alloc (below_alloc BL.out _) _).trans (B2.mono (below_size (below_alloc (below_alloc BL.out _) _)))
          have BH3 : Hid _ := B3
          clear B2 B3
          go_wp2_with fail
          go_roundg g
          case measure => omega
          case rel => exact ⟨i + 1, by go_num, by omega, by omega, BH3.out, HV.out⟩
        · have qz : (q == 0) = false := beq_eq_false_iff_ne.mpr hz
          have qn : (q != 0) = true := bne_iff_ne.mpr hz
          rw [if_pos hz] at hV
          subst hV
          clear hz
          go_wp2_with fail
          refine Calls.mono OK.out ?_
          rintro e w2 ⟨rfl, B2⟩
          have B3 : Below w.heap.size w w2 := (below_alloc (below_alloc BL.out _) _).trans (B2.mono (below_size (below_alloc (below_alloc BL.out _) _)))
          have BH3 : Hid _ := B3
          clear B2 B3
          go_wp2_with fail
          go_ret
          exact ⟨rfl, BH3.out⟩
      · have e2 : decide (m.length ≤ i) = true := decide_eq_true (by omega)
        have e3 : m.drop i = [] := List.drop_eq_nil_of_le (by omega)
        rw [e3] at hV
        simp only [cmpL] at hV
        subst hV
        have BL : Hid _ := below_alloc Bl (Obj.cells #[.int .i64 x.f0, .int .i64 x.f1, .string x.f2, .slice A3 x.f3.length c3] 24)
        clear Bl g5 hx e3
        obtain ⟨x0, x1, x2, x3⟩ := x
        have hge3 : m.length ≤ i := by omega
        go_wp2_with fail
        go_ret
        exact ⟨rfl, BL.out⟩
    · have e1 : decide (i < l.length) = false := decide_eq_false hlt
      have e3 : l.drop i = [] := List.drop_eq_nil_of_le (by omega)
      rw [e3] at hV
      have hil : i = l.length := by omega
      have BL : Hid _ := Bl
      clear e3 Bl
      by_cases hlm : l.length < m.length
      · have e2 : decide (l.length < m.length) = true := decide_eq_true hlm
        have e4 : (m.drop i).length = m.length - i := List.length_drop
        simp only [cmpL] at hV
        rw [if_pos (by omega)] at hV
        subst hV
        clear e4
        go_wp2_with fail
        go_ret
        exact ⟨rfl, BL.out⟩
      · have e2 : decide (l.length < m.length) = false := decide_eq_false hlm
        have e4 : (m.drop i).length = m.length - i := List.length_drop
        simp only [cmpL] at hV
        rw [if_neg (by omega)] at hV
        subst hV
        clear e4
        go_wp2_with fail
        go_ret
        exact ⟨rfl, BL.out⟩

set_option maxRecDepth 100000 in
set_option maxHeartbeats 4000000 in
theorem compare_x (a n : Int) (s : ByteArray) (l : List S24) (y0 y1 : Int) (y2 : ByteArray) (y3 : List S24) (A B : Option Addr) (c d : Nat) (w : World) (hr : Kd.C k24 w A l.length l) (hc : l.length ≤ c) (hs : Kd.C k24 w B y3.length y3) (hd : y3.length ≤ d)
    (hn : wids l < 9000000) (hm : wids y3 < 9000000) (hq : ∀ x ∈ l, CmpOk x) :
    Calls Tryz.prog 137 #[formV a n s A l.length c, formV y0 y1 y2 B y3.length d] w fun e w' => e = .returned (.int .i64 (cmpM ⟨a, n, s, l⟩ ⟨y0, y1, y2, y3⟩)) ∧ Below w.heap.size w w' := by
  have hu24 := Tryz.underlying24
  have HC : Hid _ := compareFunc_any l y3 A B c d ((w.alloc (Obj.cells #[.int .i64 a, .int .i64 n, .string s, .slice A l.length c] 24)).alloc (Obj.cells #[.int .i64 y0, .int .i64 y1, .string y2, .slice B y3.length d] 24)) (Kd.C_alloc (Kd.C_alloc hr _) _) hc (Kd.C_alloc (Kd.C_alloc hs _) _) hd hn hm hq
  clear hr hs hq
  by_cases h0 : a = y0
  · have b0 : (a != y0) = false := bne_eq_false_iff_eq.mpr h0
    subst h0
    by_cases h1 : a = 0
    · have e1 : cmpM ⟨a, n, s, l⟩ ⟨a, y1, y2, y3⟩ = Lib.compareInt n y1 := by simp [cmpM, h1]
      rw [e1]
      subst h1
      clear e1 HC
      go_enter Tryz.func137, Tryz.ntmps137
      go_wp2_with fail
      refine (cmpInt_any _ _ _).mono ?_
      rintro e w2 ⟨rfl, rfl⟩
      go_wp2_with fail
      go_ret
      exact ⟨rfl, by (repeat (first | assumption | exact Below.refl _ _ | apply below_alloc | apply pw_below_drewN | apply below_drew1))⟩
    · have b1 : (a == 0) = false := beq_eq_false_iff_ne.mpr h1
      by_cases h2 : a = 1
      · have e1 : cmpM ⟨a, n, s, l⟩ ⟨a, y1, y2, y3⟩ = cmpStr s y2 := by simp [cmpM, h2]
        rw [e1]
        subst h2
        clear e1 HC h1
        go_enter Tryz.func137, Tryz.ntmps137
        go_wp2_with fail
        refine (cmpStr_any _ _ _).mono ?_
        rintro e w2 ⟨rfl, rfl⟩
        go_wp2_with fail
        go_ret
        exact ⟨rfl, by (repeat (first | assumption | exact Below.refl _ _ | apply below_alloc | apply pw_below_drewN | apply below_drew1))⟩
      · have b2 : (a == 1) = false := beq_eq_false_iff_ne.mpr h2
        by_cases h3 : a = 2
        · have e1 : cmpM ⟨a, n, s, l⟩ ⟨a, y1, y2, y3⟩ = cmpStr s y2 := by simp [cmpM, h3]
          rw [e1]
          subst h3
          clear e1 HC h1 h2
          go_enter Tryz.func137, Tryz.ntmps137
          go_wp2_with fail
          refine (cmpStr_any _ _ _).mono ?_
          rintro e w2 ⟨rfl, rfl⟩
          go_wp2_with fail
          go_ret
          exact ⟨rfl, by (repeat (first | assumption | exact Below.refl _ _ | apply below_alloc | apply pw_below_drewN | apply below_drew1))⟩
        · have b3 : (a == 2) = false := beq_eq_false_iff_ne.mpr h3
          by_cases h4 : a = 3
          · have e1 : cmpM ⟨a, n, s, l⟩ ⟨a, y1, y2, y3⟩ = cmpL l y3 := by simp [cmpM, h4]
            rw [e1]
            subst h4
            clear e1 h1 h2 h3
            go_enter Tryz.func137, Tryz.ntmps137
            go_wp2_with fail
            refine Calls.mono HC.out ?_
            rintro e w2 ⟨rfl, B2⟩
            have B3 : Below w.heap.size w w2 := below_after (by (repeat (first | assumption | exact Below.refl _ _ | apply below_alloc | apply pw_below_drewN | apply below_drew1))) B2
            clear B2
            go_wp2_with fail
            go_ret
            exact ⟨rfl, B3⟩
          · have b4 : (a == 3) = false := beq_eq_false_iff_ne.mpr h4
            have e1 : cmpM ⟨a, n, s, l⟩ ⟨a, y1, y2, y3⟩ = 0 := by simp [cmpM, h1, h2, h3, h4]
            rw [e1]
            clear e1 HC h1 h2 h3 h4
            go_enter Tryz.func137, Tryz.ntmps137
            go_wp2_with fail
            go_ret
            exact ⟨rfl, by (repeat (first | assumption | exact Below.refl _ _ | apply below_alloc | apply pw_below_drewN | apply below_drew1))⟩
  · have b0 : (a != y0) = true := bne_iff_ne.mpr h0
    have e1 : cmpM ⟨a, n, s, l⟩ ⟨y0, y1, y2, y3⟩ = Lib.compareInt a y0 := by simp [cmpM, h0]
    rw [e1]
    clear e1 HC h0
    go_enter Tryz.func137, Tryz.ntmps137
    go_wp2_with fail
    refine (cmpInt_any _ _ _).mono ?_
    rintro e w2 ⟨rfl, rfl⟩
    go_wp2_with fail
    go_ret
    exact ⟨rfl, by (repeat (first | assumption | exact Below.refl _ _ | apply below_alloc | apply pw_below_drewN | apply below_drew1))⟩

mutual
theorem cmp_ok : ∀ x : S24, CmpOk x
  | ⟨a, n, s, l⟩ => by
    have hl := cmp_oks l
    intro y A B c d w hr hc hs hd hx hy
    obtain ⟨y0, y1, y2, y3⟩ := y
    simp only [wid] at hx hy
    exact compare_x a n s l y0 y1 y2 y3 A B c d w hr hc hs hd (by omega) (by omega) hl
theorem cmp_oks : ∀ (l : List S24), ∀ x ∈ l, CmpOk x
  | [], x, h => absurd h (List.not_mem_nil)
  | y :: l, x, h => by
    rcases List.mem_cons.1 h with h | h
    · rw [h]; exact cmp_ok y
    · exact cmp_oks l x h
end

def eqM (x y : S24) : Bool := cmpM x y == 0

set_option maxRecDepth 100000 in
theorem Equal_any (x y : S24) (A B : Option Addr) (c d : Nat) (w : World) (hr : Kd.C k24 w A x.f3.length x.f3) (hc : x.f3.length ≤ c) (hs : Kd.C k24 w B y.f3.length y.f3) (hd : y.f3.length ≤ d) (hx : wid x < 9000000) (hy : wid y < 9000000) :
    Calls Tryz.prog 96 #[formV x.f0 x.f1 x.f2 A x.f3.length c, formV y.f0 y.f1 y.f2 B y.f3.length d] w fun e w' => e = .returned (.bool (eqM x y)) ∧ Below w.heap.size w w' := by
  have hu24 := Tryz.underlying24
  have HC := fun w1 h1 h2 => cmp_ok x y A B c d w1 h1 hc h2 hd hx hy
  obtain ⟨a, n, s, l⟩ := x
  obtain ⟨y0, y1, y2, y3⟩ := y
  have HC : Hid _ := HC ((w.alloc (Obj.cells #[.int .i64 a, .int .i64 n, .string s, .slice A l.length c] 24)).alloc (Obj.cells #[.int .i64 y0, .int .i64 y1, .string y2, .slice B y3.length d] 24)) (Kd.C_alloc (Kd.C_alloc hr _) _) (Kd.C_alloc (Kd.C_alloc hs _) _)
  obtain ⟨q, hq⟩ : ∃ q, q = cmpM ⟨a, n, s, l⟩ ⟨y0, y1, y2, y3⟩ := ⟨_, rfl⟩
  unfold eqM
  rw [← hq] at HC ⊢
  clear hr hs hq hx hy
  go_enter Tryz.func96, Tryz.ntmps96
  go_wp2_with fail
  refine Calls.mono HC.out ?_
  rintro e w2 ⟨rfl, B2⟩
  have B3 : Below w.heap.size w w2 := below_after (by (repeat (first | assumption | exact Below.refl _ _ | apply below_alloc | apply pw_below_drewN | apply below_drew1))) B2
  clear B2
  go_wp2_with fail
  go_ret
  exact ⟨rfl, B3⟩

end Go.Proofs.YtcjmplpfebpfpaaGreatDoor
