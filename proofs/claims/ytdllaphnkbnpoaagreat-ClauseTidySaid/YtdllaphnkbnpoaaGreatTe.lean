/- Walks for ClauseTidy: slices.Concat of two rows, slices.DeleteFunc, Resolve of package clause. -/
import Derived.Test.YtdllaphnkbnpoaaGreatTd
import Derived.BigQuiet
namespace Go.Proofs.YtdllaphnkbnpoaaGreat
open Go.RowKit Go.Proofs

theorem ints_append (a b : List Int) : ints (a ++ b) = ints a ++ ints b := by simp [ints]
theorem growN_any (n : Nat) (w : World) (h0 : 0 < n) (h1 : n ≤ 60000) :
    Calls Tryz.prog 52 #[.slice none 0 0, .int .i64 (n : Int)] w fun e w' => ∃ v, e = .returned (.slice (ad v) 0 (cp v)) ∧ Holds w.heap.size w' (locs (.row v 3 (ints []))) ∧ Below w.heap.size w w' := by
  obtain ⟨i0, hi, hzz⟩ := Option.map_eq_some_iff.1 info3
  simp only [Prod.mk.injEq] at hzz
  obtain ⟨hz0, hz1, hz2⟩ := hzz
  refine (Tryz.slices_Grow_grow i0 _ hi hz0 (by omega) none 0 0 n [] w (Nat.le_refl _) (by omega) (by rw [hz2]; omega) (by omega) (by simp) (fun _ => rfl) (fun a h => by cases h)).mono ?_
  rintro e w' ⟨rfl, rfl⟩
  have hG := grownCap_le_maxLen w (0 + n) 0 3 (by unfold maxLen; omega)
  have hG2 := grownCap_ge w (0 + n) 0 3
  refine ⟨.slice (some ⟨w.heap.size, 0, none⟩) 0 (grownCap w (0 + n) 0 3), rfl, ?_, ((Below.refl _ _).drew).alloc (Nat.le_refl _) _⟩
  refine holds_locs (Nat.le_refl _) ⟨rfl, .inr ⟨w.heap.size, _, _, rfl, Nat.zero_le _, heap_alloc_new w.drew _, Nat.zero_le _, hG, ?_, ?_⟩⟩ rfl
  · rw [Array.size_append, Array.size_append]
    have e1 : ∀ m, (Builtin.zeroCells (Value.cells (.int .i64 0)) m).size = m := fun m => by simp [Builtin.zeroCells, Value.cells]
    rw [e1, e1]
    simp only [Nat.zero_add] at hG2 ⊢
    simp
    omega
  · simp

def Cc1Rel (w : World) (a b : List Int) (k : Nat) (x3 x11 : Value) (wr : World) : Prop :=
  wr = w ∧ ((k = 2 ∧ x11 = .int .i64 0 ∧ x3 = .int .i64 0) ∨ (k = 1 ∧ x11 = .int .i64 1 ∧ x3 = .int .i64 (a.length : Int)) ∨ (k = 0 ∧ x11 = .int .i64 2 ∧ x3 = .int .i64 ((a.length + b.length : Nat) : Int)))
def Cc2Rel (base : Nat) (w : World) (a b : List Int) (k : Nat) (x6 x27 : Value) (wr : World) : Prop :=
  ∃ (v : Value) (acc : List Int), x6 = .slice (ad v) acc.length (cp v) ∧ Holds base wr (locs (.row v 3 (ints acc))) ∧ Below base w wr ∧ ((k = 2 ∧ x27 = .int .i64 0 ∧ acc = []) ∨ (k = 1 ∧ x27 = .int .i64 1 ∧ acc = a) ∨ (k = 0 ∧ x27 = .int .i64 2 ∧ acc = a ++ b))

theorem cell_keep {w w' : World} {g i : Nat} {v : Value} (hg : g < w.heap.size) (B : Below w.heap.size w w') (h : w.cell? ⟨g, i, none⟩ = some v) : w'.cell? ⟨g, i, none⟩ = some v := by
  rw [World.cell?_of_block (a := ⟨g, i, none⟩) (B.block g hg)]; exact h

set_option maxRecDepth 100000 in
set_option maxHeartbeats 2000000 in
theorem concat_any {w : World} {g : Nat} {A A2 : Option Addr} {a b : List Int} {c c2 : Nat} (hg : g < w.heap.size) (h0 : w.cell? ⟨g, 0, none⟩ = some (.slice A a.length c)) (h1 : w.cell? ⟨g, 1, none⟩ = some (.slice A2 b.length c2))
    (hA : Lies w.heap.size w A a) (hA2 : Lies w.heap.size w A2 b) (ha : 0 < a.length) (hb : 0 < b.length) (ha3 : a.length ≤ 30) (hb3 : b.length ≤ 30) :
    Calls Tryz.prog 21 #[.slice (some ⟨g, 0, none⟩) 2 2] w fun e w' => ∃ v, e = .returned (.slice (ad v) (a ++ b).length (cp v)) ∧ Holds w.heap.size w' (locs (.row v 3 (ints (a ++ b)))) ∧ Below w.heap.size w w' := by
  have GR := growN_any (a.length + b.length) w (by omega) (by omega)
  obtain ⟨p, o, rfl, hp, _⟩ := lies_at hA (i := 0) ha
  obtain ⟨p2, o2, rfl, hp2, _⟩ := lies_at hA2 (i := 0) hb
  have RA : Hid (∀ W, Below w.heap.size w W → Reads W (some ⟨p, o, none⟩) (ints a)) := fun W B => by
    have := (Lies.below hA B).reads (m := a.length) (Nat.le_refl _) (fun h => by cases h)
    rwa [List.take_length] at this
  have RB : Hid (∀ W, Below w.heap.size w W → Reads W (some ⟨p2, o2, none⟩) (ints b)) := fun W B => by
    have := (Lies.below hA2 B).reads (m := b.length) (Nat.le_refl _) (fun h => by cases h)
    rwa [List.take_length] at this
  have C0 : Hid (∀ W, Below w.heap.size w W → W.cell? ⟨g, 0, none⟩ = some (.slice (some ⟨p, o, none⟩) a.length c)) := fun W B => cell_keep hg B h0
  have C1 : Hid (∀ W, Below w.heap.size w W → W.cell? ⟨g, 1, none⟩ = some (.slice (some ⟨p2, o2, none⟩) b.length c2)) := fun W B => cell_keep hg B h1
  have start : Hid (Cc1Rel w a b 2 (.int .i64 0) (.int .i64 0) w) := ⟨rfl, .inl ⟨rfl, rfl, rfl⟩⟩
  clear hA hA2 h0 h1
  go_enter Tryz.func21, Tryz.ntmps21
  go_wp2_with fail
  go_loopg [3, 11] 2 (fun k x3 x11 wr => Cc1Rel w a b k x3 x11 wr)
  case atStart => exact start.out
  case round =>
    clear start
    obtain ⟨rfl, alt⟩ := hrel
    rcases alt with ⟨rfl, rfl, rfl⟩ | ⟨rfl, rfl, rfl⟩ | ⟨rfl, rfl, rfl⟩
    · have c0 := C0.out wr (Below.refl _ _)
      clear GR
      go_wp2_with fail
      go_roundg 1
      case measure => omega
      case rel => exact ⟨rfl, .inr (.inl ⟨rfl, rfl, by first | rfl | go_num⟩)⟩
    · have c1 := C1.out wr (Below.refl _ _)
      clear GR
      go_wp2_with fail
      go_roundg 0
      case measure => omega
      case rel => exact ⟨rfl, .inr (.inr ⟨rfl, rfl, by first | rfl | go_num⟩)⟩
    · go_wp2_with fail
      refine GR.mono ?_
      rintro e w1 ⟨v, rfl, H1, B1⟩
      have start2 : Hid (Cc2Rel wr.heap.size wr a b 2 (.slice (ad v) 0 (cp v)) (.int .i64 0) w1) := ⟨v, [], rfl, H1, B1, .inl ⟨rfl, rfl, rfl⟩⟩
      clear GR H1 B1
      obtain ⟨base, hbase⟩ : ∃ base, base = wr.heap.size := ⟨_, rfl⟩
      rw [← hbase] at start2
      have HB : Hid _ := hbase
      clear hbase
      go_wp2_with fail
      go_loopg [6, 27] 2 (fun k x6 x27 w' => Cc2Rel base wr a b k x6 x27 w')
      case atStart => exact start2.out
      case round =>
        clear start2
        obtain ⟨v2, acc, rfl, H2, B2, alt⟩ := hrel
        rcases alt with ⟨rfl, rfl, rfl⟩ | ⟨rfl, rfl, rfl⟩ | ⟨rfl, rfl, rfl⟩
        · have cc := C0.out wr (by rw [← HB.out]; exact B2)
          have hsz : base ≤ wr.heap.size := by have := B2.size; have := HB.out; omega
          have RD : Hid _ := RA.out wr (by rw [← HB.out]; exact B2)
          have HL : Hid _ := H2
          have BL : Hid _ := B2
          have O1 : Hid (∀ u ∈ ints a, u.oneCell' = true) := ints_one _
          clear H2 B2
          go_wp2_with (at_builtin; refine law_many HL.out (.loc 0) rfl (.tmp 31) (.tmp 32) 23 3 (.int .i64 0) 8 rfl Tryz.underlying23 info3 rfl (by decide) 0 (ints a) rfl (ints_length _) rfl (some ⟨p, o, none⟩) a.length _ rfl (ints_length _) (fun h => by cases h) RD.out O1.out hsz (by omega) ?_)
          intro A' c' w3 H3 B3
          rw [upd_locs, ← ints_append] at H3
          have H3h : Hid _ := H3
          have B3h : Hid _ := BL.out.trans B3
          clear H3 B3 cc
          go_wp2_with fail
          go_roundg 1
          case measure => omega
          case rel => exact ⟨.slice A' a.length c', [] ++ a, by simp [ad, cp], H3h.out, B3h.out, .inr (.inl ⟨rfl, rfl, rfl⟩)⟩
        · have cc := C1.out wr (by rw [← HB.out]; exact B2)
          have hsz : base ≤ wr.heap.size := by have := B2.size; have := HB.out; omega
          have RD : Hid _ := RB.out wr (by rw [← HB.out]; exact B2)
          have HL : Hid _ := H2
          have BL : Hid _ := B2
          have O1 : Hid (∀ u ∈ ints b, u.oneCell' = true) := ints_one _
          clear H2 B2
          go_wp2_with (at_builtin; refine law_many HL.out (.loc 0) rfl (.tmp 31) (.tmp 32) 23 3 (.int .i64 0) 8 rfl Tryz.underlying23 info3 rfl (by decide) acc.length (ints b) rfl (ints_length _) rfl (some ⟨p2, o2, none⟩) b.length _ rfl (ints_length _) (fun h => by cases h) RD.out O1.out hsz (by omega) ?_)
          intro A' c' w3 H3 B3
          rw [upd_locs, ← ints_append] at H3
          have H3h : Hid _ := H3
          have B3h : Hid _ := BL.out.trans B3
          clear H3 B3 cc
          go_wp2_with fail
          go_roundg 0
          case measure => omega
          case rel => exact ⟨.slice A' (acc.length + b.length) c', acc ++ b, by simp [ad, cp], H3h.out, B3h.out, .inr (.inr ⟨rfl, rfl, rfl⟩)⟩
        · have HE : Hid _ := H2
          have BE : Hid _ := B2
          clear H2 B2
          go_wp2_with fail
          go_ret
          exact ⟨v2, rfl, by rw [← HB.out]; exact HE.out, by rw [← HB.out]; exact BE.out⟩

/-- Resolve's closure: the variable is that one. -/
theorem resIn_any {W : World} {B : Nat} {x on : Int} (hc : W.cell? ⟨B, 0, none⟩ = some (.int .i64 on)) (hx : -60000 ≤ x ∧ x ≤ 60000) (ho : -60000 ≤ on ∧ on ≤ 60000) :
    Calls Tryz.prog 22 #[.int .i64 x, .pointer (some ⟨B, 0, none⟩)] W fun e w' => e = .returned (.bool (decide (x.natAbs = on.natAbs))) ∧ ∃ q, w' = W.drewN q := by
  have SX : ∀ W : World, Calls Tryz.prog 23 #[.int .i64 x] W fun e w' => e = .returned (.int .i64 (x.natAbs : Int)) ∧ w' = W := fun W => (cvariable_any x W hx.1 hx.2).mono (fun _ _ h => ⟨h.1, h.2.symm⟩)
  have SO : ∀ W : World, Calls Tryz.prog 23 #[.int .i64 on] W fun e w' => e = .returned (.int .i64 (on.natAbs : Int)) ∧ w' = W := fun W => (cvariable_any on W ho.1 ho.2).mono (fun _ _ h => ⟨h.1, h.2.symm⟩)
  clear hx ho
  generalize x.natAbs = n1 at *
  generalize on.natAbs = n2 at *
  by_cases e : n1 = n2
  · subst e
    rw [decide_eq_true rfl]
    go_enter Tryz.func22, Tryz.ntmps22
    go_wp2_with fail
    go_quiet (first | (go_at_call_of 23 (Value.int .i64 x); refine Calls.quiet_of_same (SX _)) | (go_at_call_of 23 (Value.int .i64 on); refine Calls.quiet_of_same (SO _)))
    go_wp2_with fail
    go_ret
    exact ⟨rfl, _, rfl⟩
  · rw [decide_eq_false e]
    have g0 : ((n1 : Int) == (n2 : Int)) = false := by simp; omega
    clear e
    go_enter Tryz.func22, Tryz.ntmps22
    go_wp2_with fail
    go_quiet (first | (go_at_call_of 23 (Value.int .i64 x); refine Calls.quiet_of_same (SX _)) | (go_at_call_of 23 (Value.int .i64 on); refine Calls.quiet_of_same (SO _)))
    go_wp2_with fail
    go_ret
    exact ⟨rfl, _, rfl⟩

def dropM (on : Int) (xs : List Int) : List Int := xs.filter fun x => !decide (x.natAbs = on.natAbs)

/-- slices.DeleteFunc of a row that is owned: what is left, in its order. -/
theorem deleteF_own {base : Nat} {w : World} {B : Nat} {v : Value} {xs : List Int} {on : Int} (H : Holds base w (locs (.row v 3 (ints xs)))) (hp : 0 < xs.length) (h6 : xs.length ≤ 60000) (hb : ∀ x ∈ xs, -60000 ≤ x ∧ x ≤ 60000)
    (hB : B < base) (hbase : base ≤ w.heap.size) (hc : w.cell? ⟨B, 0, none⟩ = some (.int .i64 on)) (ho : -60000 ≤ on ∧ on ≤ 60000) :
    Calls Tryz.prog 20 #[.slice (ad v) xs.length (cp v), .func (.func 22) #[] #[.pointer (some ⟨B, 0, none⟩)]] w fun e w' => ∃ v', e = .returned (.slice (ad v') (dropM on xs).length (cp v')) ∧ Below base w w' ∧ Holds base w' (locs (.row v' 3 (ints (dropM on xs)))) := by
  have hm := toS_map xs hb
  have hlen : (toS xs hb).length = xs.length := by have := congrArg List.length hm; rwa [List.length_map] at this
  have ho' : w.ownsRow 0 3 1 v (ints xs).length (ints xs) := H.owns (k := .loc 0) rfl
  rw [ints_length] at ho'
  have hie : ints xs = (toS xs hb).map encS := by
    have : ints xs = ints ((toS xs hb).map (·.1)) := by rw [hm]
    rw [this]
    unfold ints
    rw [List.map_map]
    rfl
  rw [hie, ← hlen] at ho'
  have hne : v ≠ .slice none 0 0 := by
    intro e
    have := H.ad_ (k := .loc 0) (t := 3) (xs := ints xs) rfl (by rw [ints_length]; exact hp)
    rw [e] at this; cases this
  have hbk := H.base (.loc 0) (gb v) (H.gb_ (k := .loc 0) (t := 3) (xs := ints xs) rfl (by rw [ints_length]; exact hp))
  obtain ⟨g, cap, hv, _, hg, hcc, hmx, _, hh⟩ := Go.Lib.holds_of_ownsRow (enc := encS) (zs := toS xs hb) (by exact ho') hne
  have hgb : gb v = g := by rw [hv]; rfl
  rw [hgb] at hbk
  have hBw : B < w.heap.size := by omega
  have eg : ∀ args w, (callFunc 22 args).run Tryz.prog w = .ok (.enter 22 args) w := enters_of Tryz.func22 (by kernel_rfl) rfl
  have key : ∀ (W : World) (x : Sm), W.cell? ⟨B, 0, none⟩ = some (.int .i64 on) → FnGives Tryz.prog 22 #[.pointer (some ⟨B, 0, none⟩)] #[encS x] (.bool (decide (x.1.natAbs = on.natAbs))) W := fun W x h => resIn_any h x.2 ho
  have hD := Tryz.slices_DeleteFunc encS (fun _ => rfl) (fun x : Sm => decide (x.1.natAbs = on.natAbs)) 22 #[.pointer (some ⟨B, 0, none⟩)] eg ⟨0, by omega, by omega⟩ (fun w => by kernel_rfl) g 0 cap (toS xs hb).toArray w
    (fun W x hW => key W x (cell_keep hBw hW hc)) (fun n os dk x _ => key _ x (by rw [World.cell?_of_block (a := ⟨B, 0, none⟩) ((sortWorld_by encS w g n dk os).block B hBw (by intro e; injection e with e; omega))]; exact hc)) hh (by simp; omega) (by simpa [hlen] using hcc)
  have hsz : (toS xs hb).toArray.size = xs.length := by simp [hlen]
  have hav : ad v = some ⟨g, 0, none⟩ := by rw [hv]; rfl
  have hcv : cp v = cap := by rw [hv]; rfl
  rw [hsz] at hD
  rw [hav, hcv]
  refine hD.mono ?_
  rintro e w' ⟨rfl, q, rfl⟩
  have e1 : ((toS xs hb).toArray.toList.filter fun x => !decide (x.1.natAbs = on.natAbs)).map (·.1) = dropM on xs := by
    unfold dropM
    conv => rhs; rw [← hm]
    rw [List.filter_map]
    rfl
  have hle : ((toS xs hb).toArray.toList.filter fun x => !decide (x.1.natAbs = on.natAbs)).length ≤ xs.length := by
    have := List.length_filter_le (fun x : Sm => !decide (x.1.natAbs = on.natAbs)) (toS xs hb)
    simp only [List.toList_toArray]
    omega
  have el : ((toS xs hb).toArray.toList.filter fun x => !decide (x.1.natAbs = on.natAbs)).length = (dropM on xs).length := by rw [← e1, List.length_map]
  generalize ((toS xs hb).toArray.toList.filter fun x => !decide (x.1.natAbs = on.natAbs)) = zs at *
  rw [hv, hlen] at ho'
  have o2 := Go.Lib.ownsRow_putRow (enc := encS) (q := q) (k := zs.length) (ys := zs ++ List.replicate (xs.length - zs.length) (⟨0, by omega, by omega⟩ : Sm)) ho' (by simp; omega) hle
  rw [List.take_left] at o2
  have e2 : zs.map encS = (dropM on xs).map (Value.int .i64) := by rw [← e1, List.map_map]; rfl
  rw [e2] at o2
  exact ⟨_, by rw [el]; rfl, Go.Lib.below_putRow (Below.refl base w) hbk, holds_locs hbk o2 el⟩
end Go.Proofs.YtdllaphnkbnpoaaGreat
