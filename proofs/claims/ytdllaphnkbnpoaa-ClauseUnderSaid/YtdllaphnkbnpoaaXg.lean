/- Walks over the reference: sat, Sat. -/
import Derived.Test.YtdllaphnkbnpoaaPl
import Derived.Deep.RegionLaw
import Derived.Deep.RegionHeld3
namespace Go.Proofs.Ytdllaphnkbnpoaa
open Go.RowKit Go.Proofs

/-- A list of its own without elements, just made. -/
structure Rdy (W Wc : World) (g : Nat) : Prop where
  h : Holds W.heap.size Wc (locs (.row (.slice (some ⟨g, 0, none⟩) 0 0) 3 (ints [])))
  b : Below W.heap.size W Wc

section
variable {P : Program} {ops : Array Oper} {o : Oper} {a : Act} {Q : Exit → Act → World → Prop} {K : Act → World → Prop} {E : Prop}

theorem step_manyW {base : Nat} {W : World} {L : Key → Res} (H : Holds base W L) (k : Key) (hw : Region.wanted o (yielded ops a.tmps) = true) (s x : Operand) (t e : TypeId) (z : Value) (bytes : Nat)
    (ho : o.op = .call { callee := .builtin .append, args := #[s, x], argTypes := #[t, t] })
    (ht : P.underlying t = some (.slice e)) (hinfo : (P.info? e).map (fun i => (i.zero, i.size, i.bytes)) = some (some z, 1, bytes)) (hz : z.cells.size = 1) (hb0 : 0 < bytes)
    {v : Value} {xs : List Value} (n : Nat) (ys : List Value) (hk : L k = .row v e xs) (hn : xs.length = n) (hs : a.eval s = .slice (ad v) n (cp v)) (A : Option Addr) (m c : Nat) (hx : a.eval x = .slice A m c) (hm : ys.length = m) (hc0 : A = none → c = 0)
    (hy : Reads W A ys) (h1 : ∀ u ∈ ys, u.oneCell' = true) (hbase : base ≤ W.heap.size) (hl : (n + m) * bytes ≤ 140737488355328)
    (h : ∀ A' c' w1, Holds base w1 (upd L k (.row (.slice A' (n + m) c') e (xs ++ ys))) → Below base W w1 → W.grownBy w1 v.ownBlock → K (a.put o.dst (.slice A' (n + m) c')) w1) :
    if Region.wanted o (yielded ops a.tmps) = true then Oper.wp P o a W K Q else E := by
  rw [if_pos hw]
  obtain ⟨A', c', w1, hr, H1, B1, G1⟩ := run_many2 (P := P) H k t e o.type z bytes ht hinfo hz hb0 n ys hk hn A m c hm hc0 hy h1 hbase hl
  unfold Oper.wp
  simp [execOp, ho, resolve, invoke, builtin, hs, hx, hr, Result.andThen]
  exact h A' c' w1 H1 B1 G1

theorem step_pushG {base : Nat} {W : World} {L : Key → Res} (H : Holds base W L) (k : Key) (hw : Region.wanted o (yielded ops a.tmps) = true) (s x : Operand) (t e : TypeId) (z : Value) (bytes : Nat)
    (ho : o.op = .call { callee := .builtin .append, args := #[s, x], argTypes := #[t, t] })
    (ht : P.underlying t = some (.slice e)) (hinfo : (P.info? e).map (fun i => (i.zero, i.size, i.bytes)) = some (some z, 1, bytes)) (hz : z.cells.size = 1) (hb0 : 0 < bytes)
    {v : Value} {xs : List Value} (n : Nat) (y : Value) (hk : L k = .row v e xs) (hn : xs.length = n) (hs : a.eval s = .slice (ad v) n (cp v)) (b : Nat) (hx : a.eval x = .slice (some ⟨b, 0, none⟩) 1 1)
    (hy : W.cell? ⟨b, 0, none⟩ = some y) (h1 : y.oneCell' = true) (hbase : base ≤ W.heap.size) (hl : (n + 1) * bytes ≤ 140737488355328)
    (h : ∀ A c w1, Holds base w1 (upd L k (.row (.slice A (n + 1) c) e (xs ++ [y]))) → Below base W w1 → K (a.put o.dst (.slice A (n + 1) c)) w1) :
    if Region.wanted o (yielded ops a.tmps) = true then Oper.wp P o a W K Q else E := by
  refine step_manyW H k hw s x t e z bytes ho ht hinfo hz hb0 n [y] hk hn hs (some ⟨b, 0, none⟩) 1 1 hx rfl (fun h => by cases h) ⟨fun h => (by cases h), fun b' hb' j u hu => ?_⟩ (by simpa using h1) hbase hl (fun A c w1 h1 h2 _ => h A c w1 h1 h2)
  injection hb' with hb'
  subst hb'
  match j, hu with
  | 0, hu =>
    simp at hu
    subst hu
    simpa [Addr.add] using hy

/-- The first append of a half: what is told goes into a list of its own. -/
theorem stepA {W Wc : World} {g : Nat} {now : List Int} {A : Option Addr} {c : Nat} (R : Rdy W Wc g) (d : Option Tmp) (hd : o.dst = d) (s x : Operand)
    (ho : o.op = .call { callee := .builtin .append, args := #[s, x], argTypes := #[26, 26] }) (hw : Region.wanted o (yielded ops a.tmps) = true)
    (hs : a.eval s = .slice (some ⟨g, 0, none⟩) 0 0) (hx : a.eval x = .slice A now.length c) (hc0 : A = none → c = 0) (RD : Reads Wc A (ints now)) (hn : now.length ≤ 60000)
    (h : ∀ A' c' w1, Holds W.heap.size w1 (locs (.row (.slice A' now.length c') 3 (ints now))) → Below W.heap.size W w1 → Wc.grownBy w1 (some g) → Wc.heap.size ≤ w1.heap.size → K (a.put d (.slice A' now.length c')) w1) :
    if Region.wanted o (yielded ops a.tmps) = true then Oper.wp Try.prog o a Wc K Q else E := by
  subst hd
  refine step_manyW (P := Try.prog) R.h (.loc 0) hw s x 26 3 (.int .i64 0) 8 ho Try.underlying26 info3 rfl (by decide) 0 (ints now) (locs_0 _) rfl hs A now.length c hx (ints_length _) hc0 RD (ints_one _) R.b.size (by omega) ?_
  intro A' c' w1 H B G
  rw [upd_locs] at H
  rw [Nat.zero_add] at H ⊢
  exact h A' c' w1 H (R.b.trans B) G B.size

/-- The second one. -/
theorem stepB {W Wc : World} {A' : Option Addr} {c' : Nat} {now : List Int} {y : Int} {gx : Nat} (H : Holds W.heap.size Wc (locs (.row (.slice A' now.length c') 3 (ints now)))) (B : Below W.heap.size W Wc) (d : Option Tmp) (hd : o.dst = d) (s x : Operand)
    (ho : o.op = .call { callee := .builtin .append, args := #[s, x], argTypes := #[26, 26] }) (hw : Region.wanted o (yielded ops a.tmps) = true)
    (hs : a.eval s = .slice A' now.length c') (hx : a.eval x = .slice (some ⟨gx, 0, none⟩) 1 1) (hy : Wc.cell? ⟨gx, 0, none⟩ = some (.int .i64 y)) (hn : now.length ≤ 60000)
    (h : ∀ A9 c9 w9, Lies w9.heap.size w9 A9 (now ++ [y]) → Below W.heap.size W w9 → K (a.put d (.slice A9 (now.length + 1) c9)) w9) :
    if Region.wanted o (yielded ops a.tmps) = true then Oper.wp Try.prog o a Wc K Q else E := by
  subst hd
  refine step_pushG (P := Try.prog) H (.loc 0) hw s x 26 3 (.int .i64 0) 8 ho Try.underlying26 info3 rfl (by decide) now.length (.int .i64 y) (locs_0 _) (ints_length _) hs gx hx hy rfl B.size (by omega) ?_
  intro A9 c9 w9 H9 B9
  rw [ints_snoc, upd_locs] at H9
  exact h A9 c9 w9 (row_lies H9 (k := .loc 0) rfl) (B.trans B9)
end

theorem rdy1 (W : World) : Rdy W (W.alloc (.cells #[] 3)) W.heap.size :=
  ⟨Holds.lit0 (Holds.nothing _ W) (.loc 0) (Nat.le_refl _) 3, (Below.refl _ _).alloc (Nat.le_refl _) _⟩
theorem rdy2 (W : World) (x : Int) : Rdy W ((W.alloc (.cells #[] 3)).alloc (.cells #[.int .i64 x] 3)) W.heap.size :=
  ⟨(rdy1 W).h.alloc _, (rdy1 W).b.alloc (by rw [size_alloc]; omega) _⟩
theorem rdy3 (W : World) (x : Int) : Rdy W ((W.alloc (.cells #[.int .i64 x] 3)).alloc (.cells #[] 3)) (W.heap.size + 1) := by
  have h := Holds.lit0 (Holds.nothing W.heap.size (W.alloc (.cells #[.int .i64 x] 3))) (.loc 0) (by rw [size_alloc]; omega) 3
  rw [size_alloc] at h
  exact ⟨h, ((Below.refl _ _).alloc (Nat.le_refl _) _).alloc (by rw [size_alloc]; omega) _⟩

theorem Rdy.drew {W Wc : World} {g : Nat} (R : Rdy W Wc g) : Rdy W Wc.drew g := ⟨R.h.drew, R.b.drew⟩
theorem grown_keep {Wc w8 : World} {g gx : Nat} {v : Value} (G : Wc.grownBy w8 (some g)) (hne : gx ≠ g) (hlt : gx < Wc.heap.size) (hc : Wc.cell? ⟨gx, 0, none⟩ = some v) : w8.cell? ⟨gx, 0, none⟩ = some v := by
  rw [World.cell?_of_block (a := ⟨gx, 0, none⟩) (G.block gx hlt (by intro e; injection e with e; omega))]
  exact hc
theorem rdy2l (W : World) (x : Int) : W.heap.size + 1 < ((W.alloc (.cells #[] 3)).alloc (.cells #[.int .i64 x] 3)).heap.size := by rw [size_alloc, size_alloc]; omega
theorem rdy3l (W : World) (x : Int) : W.heap.size < ((W.alloc (.cells #[.int .i64 x] 3)).alloc (.cells #[] 3)).heap.size := by rw [size_alloc, size_alloc]; omega
theorem rdy2x (W : World) (x : Int) : ((W.alloc (.cells #[] 3)).alloc (.cells #[.int .i64 x] 3)).cell? ⟨W.heap.size + 1, 0, none⟩ = some (.int .i64 x) := cell_new _ _ _ _ (by rw [size_alloc])
theorem rdy3x (W : World) (x : Int) : ((W.alloc (.cells #[.int .i64 x] 3)).alloc (.cells #[] 3)).cell? ⟨W.heap.size, 0, none⟩ = some (.int .i64 x) := cell_alloc_keep _ _ _ _ (cell_new _ _ _ _ rfl)

/-- An operation taken first, its slot told. -/
theorem takeV {P : Program} {ops : Array Oper} {Q : Exit → Act → World → Prop} {md : Region.Mode} {S : World → Prop} (i : Nat) (d : Option Tmp) (v : Value) {oi : Oper} {fuel : Nat} {listed : Array Bool} {a : Act} {w : World} (hi : ops[i]? = some oi) (hd : oi.dst = d)
    (hs : Region.noSelect ops = true) (hf : Region.free md ops listed i = true) (hr : (Region.ready md ops listed).contains i = true)
    (hQ : ∀ c a w, Q (.panic c) (a.put d v) w → Q (.panic c) a w) (hy : YieldsIf P ops S oi v a) (hS : S w)
    (h : wpAnyH P md ops Q S fuel (listed.setIfInBounds i true) (a.put d v) w) : wpAnyH P md ops Q S (fuel + 1) listed a w := by
  subst hd
  exact wpAnyH_take hi hs hf hr hQ hy hS h

theorem lies_reads {base : Nat} {w : World} {A : Option Addr} {xs : List Int} (h : Lies base w A xs) : Reads w A (ints xs) := by
  have := Lies.reads h (m := xs.length) (Nat.le_refl _) (fun hA => by
    rcases h with h | ⟨b, o, h, _⟩
    · rw [h]; rfl
    · rw [hA] at h; cases h)
  rwa [List.take_length] at this

set_option maxRecDepth 100000 in
set_option maxHeartbeats 4000000 in
theorem sat_any {D : List (List Int)} (hD : D.length ≤ 60000) (hc : ∀ e ∈ D, e.length ≤ 60000) (hl : Lits D) (hall : (absAll D).length ≤ 60000) : ∀ (n : Nat) {w : World} {A A2 : Option Addr} {bs : List Int} {cc c2 : Nat}, untold D bs < n → LiesR w.heap.size w A D → Lies w.heap.size w A2 bs → (∀ x ∈ bs, x ≠ 0 ∧ x.natAbs ≤ 200) → bs.length ≤ 60000 →
    Calls Try.prog 35 #[.slice A D.length cc, .slice A2 bs.length c2] w fun e w' => e = .returned (.bool (satOf D bs)) ∧ Below w.heap.size w w' := by
  intro n
  induction n with
  | zero => intro w A A2 bs cc c2 h; omega
  | succ n IH =>
    intro w A A2 bs cc c2 hu hA hA2 hb hbl
    have PR := refProp_any (c2 := c2) (cc := cc) (Nat.le_refl _) hA hA2 hD hc hbl hl hb (propagateT_eq hl hb)
    cases hp : propagateT D bs with
    | none =>
      rw [hp] at PR
      rw [sat_none hl hb hp]
      clear IH hA hA2 hb hc hl hu hp
      go_enter Try.func35, Try.ntmps35
      go_wp2_with fail
      refine PR.mono ?_
      rintro e w1 ⟨B1, ⟨_, rfl⟩ | ⟨now, v, h, _⟩⟩
      · have BH : Hid _ := B1
        clear PR B1
        go_wp2_with fail
        go_ret
        exact ⟨rfl, BH.out⟩
      · cases h
    | some now =>
      rw [hp] at PR
      obtain ⟨f1, f2, f3, f4, f5⟩ := prop_facts hl hb hp
      rw [sat_now hl hb hp]
      have hnl := once_len f3
      have RV : Hid (∀ W : World, Below w.heap.size w W → Calls Try.prog 11 #[.slice A D.length cc] W fun e w' => ∃ v', e = .returned (.slice (ad v') (refVars D).length (cp v')) ∧ Below W.heap.size W w' ∧ Holds W.heap.size w' (locs (.row v' 3 (ints (refVars D))))) := fun W B =>
        refVars_any (Nat.le_refl _) ((hA.below B).mono B.size) hD (fun i hi => hc _ (row_ne D [] hi)) hall (fun e he x hx => by have := hl e he x hx; omega)
      have DONE : Hid ((∀ j, j < (refVars D).length → (now.contains ((refVars D).getD j 0) = true ∨ now.contains (-(refVars D).getD j 0) = true)) → satOf D now = true) := fun h => sat_done hl f1 f2 f5 (fun v hv => by
        obtain ⟨j, hj, rfl⟩ := List.getElem_of_mem hv
        have := h j hj
        have e1 : (refVars D).getD j 0 = (refVars D)[j] := by simp [hj]
        rw [e1] at this
        simpa using this)
      have REC : Hid (∀ (x s : Int) (W : World) (A9 : Option Addr) (c9 : Nat), x ∈ refVars D → now.contains x = false → now.contains (-x) = false → (s = x ∨ s = -x) → Below w.heap.size w W → Lies W.heap.size W A9 (now ++ [s]) →
          Calls Try.prog 35 #[.slice A D.length cc, .slice A9 (now.length + 1) c9] W fun e w' => e = .returned (.bool (satOf D (now ++ [s]))) ∧ Below W.heap.size W w') := fun x s W A9 c9 hx h1 h2 hs B L => by
        have hlt := untold_less (D := D) f4 hx (by simpa using h1) (by simpa using h2) hs
        obtain ⟨e, he, y, hy, hxy⟩ := refVars_mem.1 hx
        have hyl := hl e he y hy
        have := IH (cc := cc) (c2 := c9) (by omega) ((hA.below B).mono B.size) L (fun z hz => by
          rcases List.mem_append.1 hz with q | q
          · exact ⟨f2 z q, f3.2 z q⟩
          · rw [List.mem_singleton] at q; omega) (by rw [List.length_append, List.length_singleton]; omega)
        rwa [List.length_append, List.length_singleton] at this
      have SPL : Hid (∀ x, x ∈ refVars D → satOf D now = (satOf D (now ++ [x]) || satOf D (now ++ [-x])) ∧ -60000 ≤ x ∧ x ≤ 60000) := fun x hx => by
        obtain ⟨e, he, y, hy, hxy⟩ := refVars_mem.1 hx
        have hyl := hl e he y hy
        exact ⟨sat_split (by omega), by omega, by omega⟩
      have hn6 : now.length ≤ 60000 := by omega
      have hvl : (refVars D).length ≤ 60000 := by rw [← vars_same]; exact Nat.le_trans (varsOf_len D) hall
      generalize satOf D now = b0 at *
      clear IH hA hA2 hb hc hl hu hp f1 f2 f3 f4 f5 hbl hnl
      go_enter Try.func35, Try.ntmps35
      go_wp2_with fail
      refine PR.mono ?_
      rintro e w1 ⟨B1, ⟨h, _⟩ | ⟨now', v, h, rfl, H1⟩⟩
      · cases h
      · injection h with h
        subst h
        have RV1 := RV.out w1 B1
        have LN1 : Hid (Lies w1.heap.size w1 (ad v) now) := row_lies H1 (k := .loc 0) rfl
        have C0 : Hid (ad v = none → cp v = 0) := fun h => H1.cap0 (k := .loc 0) rfl h
        have B1H : Hid _ := B1
        generalize ad v = AV at *
        generalize cp v = CV at *
        clear PR RV B1 H1
        go_wp2_with fail
        refine RV1.mono ?_
        rintro e w2 ⟨v', rfl, B2, H2⟩
        have LN : Hid (Lies w2.heap.size w2 AV now) := (LN1.out.below B2).mono B2.size
        have LV : Hid (Lies w2.heap.size w2 (ad v') (refVars D)) := row_lies H2 (k := .loc 0) rfl
        have BH : Hid (Below w.heap.size w w2) := B1H.out.trans (B2.mono B1H.out.size)
        have VM : Hid (∀ i, i < (refVars D).length → (refVars D).getD i 0 ∈ refVars D) := fun i hi => row_ne _ 0 hi
        generalize ad v' = AV2 at *
        generalize cp v' = CV2 at *
        clear RV1 LN1 B1H B2 H2
        have start : Hid (CntRel w2 (refVars D).length (fun j => now.contains ((refVars D).getD j 0) = true ∨ now.contains (-(refVars D).getD j 0) = true) (refVars D).length (.int .i64 ((0 : Nat) : Int)) w2) := ⟨0, rfl, by omega, rfl, fun j hj => absurd hj (Nat.not_lt_zero _)⟩
        go_wp2_with fail
        go_loopg [8] (refVars D).length (fun k x8 wr => CntRel w2 (refVars D).length (fun j => now.contains ((refVars D).getD j 0) = true ∨ now.contains (-(refVars D).getD j 0) = true) k x8 wr)
        case atStart => exact start.out
        case round =>
          clear start
          obtain ⟨i, rfl, hki, rfl, hall⟩ := hrel
          by_cases hlt : i < (refVars D).length
          · obtain ⟨b, o, rfl, hbb, hcell⟩ := lies_at LV.out hlt
            have ex := hcell i hlt
            have hxm := VM.out i hlt
            have S3 := SPL.out _ hxm
            obtain ⟨hsp, hx1, hx2⟩ := S3
            have YES : Hid ((now.contains ((refVars D).getD i 0) = true ∨ now.contains (-(refVars D).getD i 0) = true) → ∀ j, j < i + 1 → now.contains ((refVars D).getD j 0) = true ∨ now.contains (-(refVars D).getD j 0) = true) := fun h j hj => by
              rcases Nat.lt_or_ge j i with q | q
              · exact hall j q
              · have : j = i := by omega
                subst this; exact h
            have RC2 : Hid (∀ (s : Int) (W : World) (A9 : Option Addr) (c9 : Nat), now.contains ((refVars D).getD i 0) = false → now.contains (-(refVars D).getD i 0) = false → (s = (refVars D).getD i 0 ∨ s = -(refVars D).getD i 0) → Below w.heap.size w W → Lies W.heap.size W A9 (now ++ [s]) →
              Calls Try.prog 35 #[.slice A D.length cc, .slice A9 (now.length + 1) c9] W fun e w' => e = .returned (.bool (satOf D (now ++ [s]))) ∧ Below W.heap.size W w') := fun s W A9 c9 => REC.out _ s W A9 c9 hxm
            clear hall hcell hxm SPL REC VM DONE
            generalize (refVars D).getD i 0 = x at *
            have H1 := has_any (c := CV) (x := x) LN.out (by omega)
            have H2 := has_any (c := CV) (x := -x) LN.out (by omega)
            cases hp : now.contains x with
            | true =>
              rw [hp] at H1
              have Y2 : Hid _ := YES.out (.inl hp)
              clear YES RC2 hsp hp H2
              go_wp2_with fail
              refine H1.mono ?_
              rintro e w' ⟨rfl, rfl⟩
              clear H1
              go_wp2_with fail
              go_roundg (gk - 1)
              case measure => omega
              case rel => exact ⟨i + 1, by go_num, by omega, rfl, Y2.out⟩
            | false =>
              rw [hp] at H1
              cases hq : now.contains (-x) with
              | true =>
                rw [hq] at H2
                have Y2 : Hid _ := YES.out (.inr hq)
                clear YES RC2 hsp hp hq
                go_wp2_with fail
                refine H1.mono ?_
                rintro e w' ⟨rfl, rfl⟩
                clear H1
                go_wp2_with fail
                refine H2.mono ?_
                rintro e w' ⟨rfl, rfl⟩
                clear H2
                go_wp2_with fail
                go_roundg (gk - 1)
                case measure => omega
                case rel => exact ⟨i + 1, by go_num, by omega, rfl, Y2.out⟩
              | false =>
                rw [hq] at H2
                have RD : Hid (∀ W, Below wr.heap.size wr W → Reads W AV (ints now)) := fun W B => lies_reads (LN.out.below B)
                have EX : Hid (∀ W, Below wr.heap.size wr W → W.cell? ⟨b, o + i, none⟩ = some (.int .i64 x)) := fun W B => (World.cell?_of_block (a := ⟨b, o + i, none⟩) (B.block b hbb)).trans ex
                have FIN : Hid (∀ W, Below wr.heap.size wr W → Below w.heap.size w W) := fun W B => BH.out.trans (B.mono BH.out.size)
                have R1 : Hid (∀ W A9 c9, Below wr.heap.size wr W → Lies W.heap.size W A9 (now ++ [x]) → Calls Try.prog 35 #[.slice A D.length cc, .slice A9 (now.length + 1) c9] W fun e w' => e = .returned (.bool (satOf D (now ++ [x]))) ∧ Below W.heap.size W w') := fun W A9 c9 B L => RC2.out x W A9 c9 hp hq (.inl rfl) (FIN.out W B) L
                have R2 : Hid (∀ W A9 c9, Below wr.heap.size wr W → Lies W.heap.size W A9 (now ++ [-x]) → Calls Try.prog 35 #[.slice A D.length cc, .slice A9 (now.length + 1) c9] W fun e w' => e = .returned (.bool (satOf D (now ++ [-x]))) ∧ Below W.heap.size W w') := fun W A9 c9 B L => RC2.out (-x) W A9 c9 hp hq (.inr rfl) (FIN.out W B) L
                clear hp hq YES RC2 LN LV BH
                generalize satOf D (now ++ [x]) = b1 at *
                generalize satOf D (now ++ [-x]) = b2 at *
                subst hsp
                have BN0 : Hid (Below wr.heap.size wr wr) := Below.refl _ _
                go_wp2_with fail
                refine H1.mono ?_
                rintro e w' ⟨rfl, rfl⟩
                clear H1
                go_wp2_with fail
                refine H2.mono ?_
                rintro e w' ⟨rfl, rfl⟩
                clear H2
                go_wp2_with fail
                refine wp_region_held_drew (S := fun W => W.cell? ⟨b, o + i, none⟩ = some (.int .i64 x)) (by kernel_rfl) ex (fun hHeld => ?_)
                have BD : Hid (Below w'.heap.size w' w'.drew) := (Below.refl _ w').drew
                generalize w'.drew = wd at *
                have hwx : IntKind.i64.wrap (-x) = -x := IntWalk.i64_in _ (by omega)
                refine takeV 0 (some 42) (.slice A D.length cc) rfl rfl (by kernel_rfl) (by kernel_rfl) (by kernel_rfl) (fun _ _ _ h => h) (Or.inl ⟨by kernel_rfl, fun W hSw => by (try dsimp only at hSw); go_simp⟩) (by assumption) ?_
                try simp only [Act.put, List.setIfInBounds_toArray, List.set_cons_zero, List.set_cons_succ]
                refine takeV 2 (some 44) (.slice AV now.length CV) rfl rfl (by kernel_rfl) (by kernel_rfl) (by kernel_rfl) (fun _ _ _ h => h) (Or.inl ⟨by kernel_rfl, fun W hSw => by (try dsimp only at hSw); go_simp⟩) (by assumption) ?_
                try simp only [Act.put, List.setIfInBounds_toArray, List.set_cons_zero, List.set_cons_succ]
                refine takeV 4 (some 46) (.slice (some ⟨b, o, none⟩) (refVars D).length CV2) rfl rfl (by kernel_rfl) (by kernel_rfl) (by kernel_rfl) (fun _ _ _ h => h) (Or.inl ⟨by kernel_rfl, fun W hSw => by (try dsimp only at hSw); go_simp⟩) (by assumption) ?_
                try simp only [Act.put, List.setIfInBounds_toArray, List.set_cons_zero, List.set_cons_succ]
                refine takeV 5 (some 47) (.int .i64 (i : Int)) rfl rfl (by kernel_rfl) (by kernel_rfl) (by kernel_rfl) (fun _ _ _ h => h) (Or.inl ⟨by kernel_rfl, fun W hSw => by (try dsimp only at hSw); go_simp⟩) (by assumption) ?_
                try simp only [Act.put, List.setIfInBounds_toArray, List.set_cons_zero, List.set_cons_succ]
                refine takeV 6 (some 48) (.pointer (some ⟨b, o + i, none⟩)) rfl rfl (by kernel_rfl) (by kernel_rfl) (by kernel_rfl) (fun _ _ _ h => h) (Or.inl ⟨by kernel_rfl, fun W hSw => by (try dsimp only at hSw); go_simp⟩) (by assumption) ?_
                try simp only [Act.put, List.setIfInBounds_toArray, List.set_cons_zero, List.set_cons_succ]
                refine takeV 7 (some 49) (.int .i64 x) rfl rfl (by kernel_rfl) (by kernel_rfl) (by kernel_rfl) (fun _ _ _ h => h) (Or.inl ⟨by kernel_rfl, fun W hSw => by (try dsimp only at hSw); go_simp⟩) (by assumption) ?_
                try simp only [Act.put, List.setIfInBounds_toArray, List.set_cons_zero, List.set_cons_succ]
                refine wpAnyH_ready (rs := [1, 8]) (by kernel_rfl) (by simp) ?_
                refine AllReadyH.cons rfl (fun K hK => ?_) (AllReadyH.cons rfl (fun K hK => ?_) AllReadyH.nil)
                · go_simp
                  refine hK.out _ _ (EX.out _ ((BD.out).trans (Below.mono (rdy1 wd).b (BD.out).size))) (fun hHeld => ?_)
                  clear hK K
                  try simp only [Act.put, List.setIfInBounds_toArray, List.set_cons_zero, List.set_cons_succ]
                  refine wpAnyH_ready (rs := [3, 8]) (by kernel_rfl) (by simp) ?_
                  refine AllReadyH.cons rfl (fun K hK => ?_) (AllReadyH.cons rfl (fun K hK => ?_) AllReadyH.nil)
                  · skip
                    refine stepA (rdy1 wd) (some 45) rfl (.tmp 43) (.tmp 44) (by rfl) (by kernel_rfl) (by rfl) (by rfl) C0.out (RD.out _ ((BD.out).trans (Below.mono (rdy1 wd).b (BD.out).size))) hn6 ?_
                    intro A8 c8 w8 H8 B8 G8 S8
                    have e8 := EX.out w8 ((BD.out).trans (Below.mono B8 (BD.out).size))
                    have H8h : Hid _ := H8
                    have B8h : Hid _ := B8
                    clear H8 B8 G8 S8
                    refine hK.out _ _ e8 (fun hHeld => ?_)
                    clear hK K
                    try simp only [Act.put, List.setIfInBounds_toArray, List.set_cons_zero, List.set_cons_succ]
                    refine wpAnyH_ready (rs := [8]) (by kernel_rfl) (by simp) ?_
                    refine AllReadyH.cons rfl (fun K hK => ?_) AllReadyH.nil
                    go_simp
                    refine hK.out _ _ (EX.out _ ((BD.out).trans (Below.mono (B8h.out.alloc B8h.out.size _) (BD.out).size))) (fun hHeld => ?_)
                    clear hK K
                    try simp only [Act.put, List.setIfInBounds_toArray, List.set_cons_zero, List.set_cons_succ]
                    refine wpAnyH_ready (rs := [9]) (by kernel_rfl) (by simp) ?_
                    refine AllReadyH.cons rfl (fun K hK => ?_) AllReadyH.nil
                    refine stepB (gx := w8.heap.size) (H := (H8h.out.alloc (.cells #[.int .i64 (x)] 3))) (B := (B8h.out.alloc B8h.out.size (.cells #[.int .i64 (x)] 3))) (some 51) rfl (.tmp 45) (.tmp 50) (by rfl) (by kernel_rfl) (by rfl) (by rfl) (cell_new _ _ _ _ rfl) hn6 ?_
                    intro A9 c9 w9 L9 B9
                    have e9 := EX.out w9 ((BD.out).trans (Below.mono B9 (BD.out).size))
                    have L9h : Hid _ := L9
                    have B9h : Hid _ := ((BD.out).trans (Below.mono B9 (BD.out).size))
                    clear L9 B9
                    refine hK.out _ _ e9 (fun hHeld => ?_)
                    clear hK K
                    try simp only [Act.put, List.setIfInBounds_toArray, List.set_cons_zero, List.set_cons_succ]
                    refine wpAnyH_ready (rs := [10]) (by kernel_rfl) (by simp) ?_
                    refine AllReadyH.cons rfl (fun K hK => ?_) AllReadyH.nil
                    go_simp
                    go_at_call 35
                    refine (R1.out _ A9 c9 B9h.out L9h.out).mono ?_
                    rintro e wp ⟨rfl, BB⟩
                    have Bp : Hid _ := B9h.out.trans (BB.mono B9h.out.size)
                    have ep := EX.out wp Bp.out
                    clear BB
                    go_wp2_with fail
                    refine hK.out _ _ ep (fun hHeld => ?_)
                    clear hK K
                    try simp only [Act.put, List.setIfInBounds_toArray, List.set_cons_zero, List.set_cons_succ]
                    refine takeV 11 (some 53) (.bool b1) rfl rfl (by kernel_rfl) (by kernel_rfl) (by kernel_rfl) (fun _ _ _ h => h) (Or.inl ⟨by kernel_rfl, fun W hSw => by (try dsimp only at hSw); go_simp⟩) (by assumption) ?_
                    try simp only [Act.put, List.setIfInBounds_toArray, List.set_cons_zero, List.set_cons_succ]
                    cases b1 with
                    | true =>
                      refine takeV 12 (some 54) undef rfl rfl (by kernel_rfl) (by kernel_rfl) (by kernel_rfl) (fun _ _ _ h => h) (Or.inr ⟨by kernel_rfl, rfl⟩) (by assumption) ?_
                      try simp only [Act.put, List.setIfInBounds_toArray, List.set_cons_zero, List.set_cons_succ]
                      refine takeV 13 (some 55) undef rfl rfl (by kernel_rfl) (by kernel_rfl) (by kernel_rfl) (fun _ _ _ h => h) (Or.inr ⟨by kernel_rfl, rfl⟩) (by assumption) ?_
                      try simp only [Act.put, List.setIfInBounds_toArray, List.set_cons_zero, List.set_cons_succ]
                      refine takeV 14 (some 56) undef rfl rfl (by kernel_rfl) (by kernel_rfl) (by kernel_rfl) (fun _ _ _ h => h) (Or.inr ⟨by kernel_rfl, rfl⟩) (by assumption) ?_
                      try simp only [Act.put, List.setIfInBounds_toArray, List.set_cons_zero, List.set_cons_succ]
                      refine takeV 15 (some 57) undef rfl rfl (by kernel_rfl) (by kernel_rfl) (by kernel_rfl) (fun _ _ _ h => h) (Or.inr ⟨by kernel_rfl, rfl⟩) (by assumption) ?_
                      try simp only [Act.put, List.setIfInBounds_toArray, List.set_cons_zero, List.set_cons_succ]
                      refine takeV 16 (some 58) undef rfl rfl (by kernel_rfl) (by kernel_rfl) (by kernel_rfl) (fun _ _ _ h => h) (Or.inr ⟨by kernel_rfl, rfl⟩) (by assumption) ?_
                      try simp only [Act.put, List.setIfInBounds_toArray, List.set_cons_zero, List.set_cons_succ]
                      refine takeV 17 (some 59) undef rfl rfl (by kernel_rfl) (by kernel_rfl) (by kernel_rfl) (fun _ _ _ h => h) (Or.inr ⟨by kernel_rfl, rfl⟩) (by assumption) ?_
                      try simp only [Act.put, List.setIfInBounds_toArray, List.set_cons_zero, List.set_cons_succ]
                      refine takeV 18 (some 60) undef rfl rfl (by kernel_rfl) (by kernel_rfl) (by kernel_rfl) (fun _ _ _ h => h) (Or.inr ⟨by kernel_rfl, rfl⟩) (by assumption) ?_
                      try simp only [Act.put, List.setIfInBounds_toArray, List.set_cons_zero, List.set_cons_succ]
                      refine takeV 19 (some 61) undef rfl rfl (by kernel_rfl) (by kernel_rfl) (by kernel_rfl) (fun _ _ _ h => h) (Or.inr ⟨by kernel_rfl, rfl⟩) (by assumption) ?_
                      try simp only [Act.put, List.setIfInBounds_toArray, List.set_cons_zero, List.set_cons_succ]
                      refine takeV 20 (some 62) undef rfl rfl (by kernel_rfl) (by kernel_rfl) (by kernel_rfl) (fun _ _ _ h => h) (Or.inr ⟨by kernel_rfl, rfl⟩) (by assumption) ?_
                      try simp only [Act.put, List.setIfInBounds_toArray, List.set_cons_zero, List.set_cons_succ]
                      refine takeV 21 (some 63) undef rfl rfl (by kernel_rfl) (by kernel_rfl) (by kernel_rfl) (fun _ _ _ h => h) (Or.inr ⟨by kernel_rfl, rfl⟩) (by assumption) ?_
                      try simp only [Act.put, List.setIfInBounds_toArray, List.set_cons_zero, List.set_cons_succ]
                      refine takeV 22 (some 64) undef rfl rfl (by kernel_rfl) (by kernel_rfl) (by kernel_rfl) (fun _ _ _ h => h) (Or.inr ⟨by kernel_rfl, rfl⟩) (by assumption) ?_
                      try simp only [Act.put, List.setIfInBounds_toArray, List.set_cons_zero, List.set_cons_succ]
                      refine takeV 23 (some 65) undef rfl rfl (by kernel_rfl) (by kernel_rfl) (by kernel_rfl) (fun _ _ _ h => h) (Or.inr ⟨by kernel_rfl, rfl⟩) (by assumption) ?_
                      try simp only [Act.put, List.setIfInBounds_toArray, List.set_cons_zero, List.set_cons_succ]
                      refine takeV 24 (some 66) (.bool true) rfl rfl (by kernel_rfl) (by kernel_rfl) (by kernel_rfl) (fun _ _ _ h => h) (Or.inl ⟨by kernel_rfl, fun W hSw => by (try dsimp only at hSw); go_simp⟩) (by assumption) ?_
                      try simp only [Act.put, List.setIfInBounds_toArray, List.set_cons_zero, List.set_cons_succ]
                      refine takeV 25 (some 4) (.bool true) rfl rfl (by kernel_rfl) (by kernel_rfl) (by kernel_rfl) (fun _ _ _ h => h) (Or.inl ⟨by kernel_rfl, fun W hSw => by (try dsimp only at hSw); go_simp⟩) (by assumption) ?_
                      try simp only [Act.put, List.setIfInBounds_toArray, List.set_cons_zero, List.set_cons_succ]
                      refine wpAnyH_done (by kernel_rfl) ?_ _
                      go_wp2_with fail
                      go_ret
                      exact ⟨rfl, FIN.out _ Bp.out⟩
                    | false =>
                      refine takeV 12 (some 54) (.slice A D.length cc) rfl rfl (by kernel_rfl) (by kernel_rfl) (by kernel_rfl) (fun _ _ _ h => h) (Or.inl ⟨by kernel_rfl, fun W hSw => by (try dsimp only at hSw); go_simp⟩) (by assumption) ?_
                      try simp only [Act.put, List.setIfInBounds_toArray, List.set_cons_zero, List.set_cons_succ]
                      refine takeV 14 (some 56) (.slice AV now.length CV) rfl rfl (by kernel_rfl) (by kernel_rfl) (by kernel_rfl) (fun _ _ _ h => h) (Or.inl ⟨by kernel_rfl, fun W hSw => by (try dsimp only at hSw); go_simp⟩) (by assumption) ?_
                      try simp only [Act.put, List.setIfInBounds_toArray, List.set_cons_zero, List.set_cons_succ]
                      refine takeV 16 (some 58) (.slice (some ⟨b, o, none⟩) (refVars D).length CV2) rfl rfl (by kernel_rfl) (by kernel_rfl) (by kernel_rfl) (fun _ _ _ h => h) (Or.inl ⟨by kernel_rfl, fun W hSw => by (try dsimp only at hSw); go_simp⟩) (by assumption) ?_
                      try simp only [Act.put, List.setIfInBounds_toArray, List.set_cons_zero, List.set_cons_succ]
                      refine takeV 17 (some 59) (.int .i64 (i : Int)) rfl rfl (by kernel_rfl) (by kernel_rfl) (by kernel_rfl) (fun _ _ _ h => h) (Or.inl ⟨by kernel_rfl, fun W hSw => by (try dsimp only at hSw); go_simp⟩) (by assumption) ?_
                      try simp only [Act.put, List.setIfInBounds_toArray, List.set_cons_zero, List.set_cons_succ]
                      refine takeV 18 (some 60) (.pointer (some ⟨b, o + i, none⟩)) rfl rfl (by kernel_rfl) (by kernel_rfl) (by kernel_rfl) (fun _ _ _ h => h) (Or.inl ⟨by kernel_rfl, fun W hSw => by (try dsimp only at hSw); go_simp⟩) (by assumption) ?_
                      try simp only [Act.put, List.setIfInBounds_toArray, List.set_cons_zero, List.set_cons_succ]
                      refine takeV 19 (some 61) (.int .i64 x) rfl rfl (by kernel_rfl) (by kernel_rfl) (by kernel_rfl) (fun _ _ _ h => h) (Or.inl ⟨by kernel_rfl, fun W hSw => by (try dsimp only at hSw); go_simp⟩) (by assumption) ?_
                      try simp only [Act.put, List.setIfInBounds_toArray, List.set_cons_zero, List.set_cons_succ]
                      refine takeV 20 (some 62) (.int .i64 (-x)) rfl rfl (by kernel_rfl) (by kernel_rfl) (by kernel_rfl) (fun _ _ _ h => h) (Or.inl ⟨by kernel_rfl, fun W hSw => by (try dsimp only at hSw); go_simp⟩) (by assumption) ?_
                      try simp only [Act.put, List.setIfInBounds_toArray, List.set_cons_zero, List.set_cons_succ]
                      refine wpAnyH_ready (rs := [13, 21]) (by kernel_rfl) (by simp) ?_
                      refine AllReadyH.cons rfl (fun K hK => ?_) (AllReadyH.cons rfl (fun K hK => ?_) AllReadyH.nil)
                      · go_simp
                        refine hK.out _ _ (EX.out _ ((Bp.out).trans (Below.mono (rdy1 wp).b (Bp.out).size))) (fun hHeld => ?_)
                        clear hK K
                        try simp only [Act.put, List.setIfInBounds_toArray, List.set_cons_zero, List.set_cons_succ]
                        refine wpAnyH_ready (rs := [15, 21]) (by kernel_rfl) (by simp) ?_
                        refine AllReadyH.cons rfl (fun K hK => ?_) (AllReadyH.cons rfl (fun K hK => ?_) AllReadyH.nil)
                        · skip
                          refine stepA (rdy1 wp) (some 57) rfl (.tmp 55) (.tmp 56) (by rfl) (by kernel_rfl) (by rfl) (by rfl) C0.out (RD.out _ ((Bp.out).trans (Below.mono (rdy1 wp).b (Bp.out).size))) hn6 ?_
                          intro A8 c8 w8 H8 B8 G8 S8
                          have e8 := EX.out w8 ((Bp.out).trans (Below.mono B8 (Bp.out).size))
                          have H8h : Hid _ := H8
                          have B8h : Hid _ := B8
                          clear H8 B8 G8 S8
                          refine hK.out _ _ e8 (fun hHeld => ?_)
                          clear hK K
                          try simp only [Act.put, List.setIfInBounds_toArray, List.set_cons_zero, List.set_cons_succ]
                          refine wpAnyH_ready (rs := [21]) (by kernel_rfl) (by simp) ?_
                          refine AllReadyH.cons rfl (fun K hK => ?_) AllReadyH.nil
                          go_simp
                          refine hK.out _ _ (EX.out _ ((Bp.out).trans (Below.mono (B8h.out.alloc B8h.out.size _) (Bp.out).size))) (fun hHeld => ?_)
                          clear hK K
                          try simp only [Act.put, List.setIfInBounds_toArray, List.set_cons_zero, List.set_cons_succ]
                          refine wpAnyH_ready (rs := [22]) (by kernel_rfl) (by simp) ?_
                          refine AllReadyH.cons rfl (fun K hK => ?_) AllReadyH.nil
                          refine stepB (gx := w8.heap.size) (H := (H8h.out.alloc (.cells #[.int .i64 (-x)] 3))) (B := (B8h.out.alloc B8h.out.size (.cells #[.int .i64 (-x)] 3))) (some 64) rfl (.tmp 57) (.tmp 63) (by rfl) (by kernel_rfl) (by rfl) (by rfl) (cell_new _ _ _ _ rfl) hn6 ?_
                          intro A9 c9 w9 L9 B9
                          have e9 := EX.out w9 ((Bp.out).trans (Below.mono B9 (Bp.out).size))
                          have L9h : Hid _ := L9
                          have B9h : Hid _ := ((Bp.out).trans (Below.mono B9 (Bp.out).size))
                          clear L9 B9
                          refine hK.out _ _ e9 (fun hHeld => ?_)
                          clear hK K
                          try simp only [Act.put, List.setIfInBounds_toArray, List.set_cons_zero, List.set_cons_succ]
                          refine wpAnyH_ready (rs := [23]) (by kernel_rfl) (by simp) ?_
                          refine AllReadyH.cons rfl (fun K hK => ?_) AllReadyH.nil
                          go_simp
                          go_at_call 35
                          refine (R2.out _ A9 c9 B9h.out L9h.out).mono ?_
                          rintro e wq ⟨rfl, BB⟩
                          have Bq : Hid _ := B9h.out.trans (BB.mono B9h.out.size)
                          have eq := EX.out wq Bq.out
                          clear BB
                          go_wp2_with fail
                          refine hK.out _ _ eq (fun hHeld => ?_)
                          clear hK K
                          try simp only [Act.put, List.setIfInBounds_toArray, List.set_cons_zero, List.set_cons_succ]
                          refine takeV 24 (some 66) (.bool b2) rfl rfl (by kernel_rfl) (by kernel_rfl) (by kernel_rfl) (fun _ _ _ h => h) (Or.inl ⟨by kernel_rfl, fun W hSw => by (try dsimp only at hSw); go_simp⟩) (by assumption) ?_
                          try simp only [Act.put, List.setIfInBounds_toArray, List.set_cons_zero, List.set_cons_succ]
                          refine takeV 25 (some 4) (.bool b2) rfl rfl (by kernel_rfl) (by kernel_rfl) (by kernel_rfl) (fun _ _ _ h => h) (Or.inl ⟨by kernel_rfl, fun W hSw => by (try dsimp only at hSw); go_simp⟩) (by assumption) ?_
                          try simp only [Act.put, List.setIfInBounds_toArray, List.set_cons_zero, List.set_cons_succ]
                          refine wpAnyH_done (by kernel_rfl) ?_ _
                          go_wp2_with fail
                          go_ret
                          exact ⟨rfl, FIN.out _ Bq.out⟩
                        · go_simp
                          refine hK.out _ _ (EX.out _ ((Bp.out).trans (Below.mono (rdy2 wp (-x)).b (Bp.out).size))) (fun hHeld => ?_)
                          clear hK K
                          try simp only [Act.put, List.setIfInBounds_toArray, List.set_cons_zero, List.set_cons_succ]
                          refine wpAnyH_ready (rs := [15]) (by kernel_rfl) (by simp) ?_
                          refine AllReadyH.cons rfl (fun K hK => ?_) AllReadyH.nil
                          refine stepA (rdy2 wp (-x)) (some 57) rfl (.tmp 55) (.tmp 56) (by rfl) (by kernel_rfl) (by rfl) (by rfl) C0.out (RD.out _ ((Bp.out).trans (Below.mono (rdy2 wp (-x)).b (Bp.out).size))) hn6 ?_
                          intro A8 c8 w8 H8 B8 G8 S8
                          have e8 := EX.out w8 ((Bp.out).trans (Below.mono B8 (Bp.out).size))
                          have k8 : w8.cell? ⟨(wp.heap.size + 1), 0, none⟩ = some (.int .i64 (-x)) := grown_keep G8 (by omega) (rdy2l wp (-x)) (rdy2x wp (-x))
                          have H8h : Hid _ := H8
                          have B8h : Hid _ := B8
                          clear H8 B8 G8 S8
                          refine hK.out _ _ e8 (fun hHeld => ?_)
                          clear hK K
                          try simp only [Act.put, List.setIfInBounds_toArray, List.set_cons_zero, List.set_cons_succ]
                          refine wpAnyH_ready (rs := [22]) (by kernel_rfl) (by simp) ?_
                          refine AllReadyH.cons rfl (fun K hK => ?_) AllReadyH.nil
                          refine stepB (gx := wp.heap.size + 1) (H := H8h.out) (B := B8h.out) (some 64) rfl (.tmp 57) (.tmp 63) (by rfl) (by kernel_rfl) (by rfl) (by rfl) k8 hn6 ?_
                          intro A9 c9 w9 L9 B9
                          have e9 := EX.out w9 ((Bp.out).trans (Below.mono B9 (Bp.out).size))
                          have L9h : Hid _ := L9
                          have B9h : Hid _ := ((Bp.out).trans (Below.mono B9 (Bp.out).size))
                          clear L9 B9
                          refine hK.out _ _ e9 (fun hHeld => ?_)
                          clear hK K
                          try simp only [Act.put, List.setIfInBounds_toArray, List.set_cons_zero, List.set_cons_succ]
                          refine wpAnyH_ready (rs := [23]) (by kernel_rfl) (by simp) ?_
                          refine AllReadyH.cons rfl (fun K hK => ?_) AllReadyH.nil
                          go_simp
                          go_at_call 35
                          refine (R2.out _ A9 c9 B9h.out L9h.out).mono ?_
                          rintro e wq ⟨rfl, BB⟩
                          have Bq : Hid _ := B9h.out.trans (BB.mono B9h.out.size)
                          have eq := EX.out wq Bq.out
                          clear BB
                          go_wp2_with fail
                          refine hK.out _ _ eq (fun hHeld => ?_)
                          clear hK K
                          try simp only [Act.put, List.setIfInBounds_toArray, List.set_cons_zero, List.set_cons_succ]
                          refine takeV 24 (some 66) (.bool b2) rfl rfl (by kernel_rfl) (by kernel_rfl) (by kernel_rfl) (fun _ _ _ h => h) (Or.inl ⟨by kernel_rfl, fun W hSw => by (try dsimp only at hSw); go_simp⟩) (by assumption) ?_
                          try simp only [Act.put, List.setIfInBounds_toArray, List.set_cons_zero, List.set_cons_succ]
                          refine takeV 25 (some 4) (.bool b2) rfl rfl (by kernel_rfl) (by kernel_rfl) (by kernel_rfl) (fun _ _ _ h => h) (Or.inl ⟨by kernel_rfl, fun W hSw => by (try dsimp only at hSw); go_simp⟩) (by assumption) ?_
                          try simp only [Act.put, List.setIfInBounds_toArray, List.set_cons_zero, List.set_cons_succ]
                          refine wpAnyH_done (by kernel_rfl) ?_ _
                          go_wp2_with fail
                          go_ret
                          exact ⟨rfl, FIN.out _ Bq.out⟩
                      · go_simp
                        refine hK.out _ _ (EX.out _ ((Bp.out).trans (Below.mono ((Below.refl wp.heap.size wp).alloc (Nat.le_refl _) _) (Bp.out).size))) (fun hHeld => ?_)
                        clear hK K
                        try simp only [Act.put, List.setIfInBounds_toArray, List.set_cons_zero, List.set_cons_succ]
                        refine wpAnyH_ready (rs := [13]) (by kernel_rfl) (by simp) ?_
                        refine AllReadyH.cons rfl (fun K hK => ?_) AllReadyH.nil
                        go_simp
                        refine hK.out _ _ (EX.out _ ((Bp.out).trans (Below.mono (rdy3 wp (-x)).b (Bp.out).size))) (fun hHeld => ?_)
                        clear hK K
                        try simp only [Act.put, List.setIfInBounds_toArray, List.set_cons_zero, List.set_cons_succ]
                        refine wpAnyH_ready (rs := [15]) (by kernel_rfl) (by simp) ?_
                        refine AllReadyH.cons rfl (fun K hK => ?_) AllReadyH.nil
                        refine stepA (rdy3 wp (-x)) (some 57) rfl (.tmp 55) (.tmp 56) (by rfl) (by kernel_rfl) (by rfl) (by rfl) C0.out (RD.out _ ((Bp.out).trans (Below.mono (rdy3 wp (-x)).b (Bp.out).size))) hn6 ?_
                        intro A8 c8 w8 H8 B8 G8 S8
                        have e8 := EX.out w8 ((Bp.out).trans (Below.mono B8 (Bp.out).size))
                        have k8 : w8.cell? ⟨wp.heap.size, 0, none⟩ = some (.int .i64 (-x)) := grown_keep G8 (by omega) (rdy3l wp (-x)) (rdy3x wp (-x))
                        have H8h : Hid _ := H8
                        have B8h : Hid _ := B8
                        clear H8 B8 G8 S8
                        refine hK.out _ _ e8 (fun hHeld => ?_)
                        clear hK K
                        try simp only [Act.put, List.setIfInBounds_toArray, List.set_cons_zero, List.set_cons_succ]
                        refine wpAnyH_ready (rs := [22]) (by kernel_rfl) (by simp) ?_
                        refine AllReadyH.cons rfl (fun K hK => ?_) AllReadyH.nil
                        refine stepB (gx := wp.heap.size) (H := H8h.out) (B := B8h.out) (some 64) rfl (.tmp 57) (.tmp 63) (by rfl) (by kernel_rfl) (by rfl) (by rfl) k8 hn6 ?_
                        intro A9 c9 w9 L9 B9
                        have e9 := EX.out w9 ((Bp.out).trans (Below.mono B9 (Bp.out).size))
                        have L9h : Hid _ := L9
                        have B9h : Hid _ := ((Bp.out).trans (Below.mono B9 (Bp.out).size))
                        clear L9 B9
                        refine hK.out _ _ e9 (fun hHeld => ?_)
                        clear hK K
                        try simp only [Act.put, List.setIfInBounds_toArray, List.set_cons_zero, List.set_cons_succ]
                        refine wpAnyH_ready (rs := [23]) (by kernel_rfl) (by simp) ?_
                        refine AllReadyH.cons rfl (fun K hK => ?_) AllReadyH.nil
                        go_simp
                        go_at_call 35
                        refine (R2.out _ A9 c9 B9h.out L9h.out).mono ?_
                        rintro e wq ⟨rfl, BB⟩
                        have Bq : Hid _ := B9h.out.trans (BB.mono B9h.out.size)
                        have eq := EX.out wq Bq.out
                        clear BB
                        go_wp2_with fail
                        refine hK.out _ _ eq (fun hHeld => ?_)
                        clear hK K
                        try simp only [Act.put, List.setIfInBounds_toArray, List.set_cons_zero, List.set_cons_succ]
                        refine takeV 24 (some 66) (.bool b2) rfl rfl (by kernel_rfl) (by kernel_rfl) (by kernel_rfl) (fun _ _ _ h => h) (Or.inl ⟨by kernel_rfl, fun W hSw => by (try dsimp only at hSw); go_simp⟩) (by assumption) ?_
                        try simp only [Act.put, List.setIfInBounds_toArray, List.set_cons_zero, List.set_cons_succ]
                        refine takeV 25 (some 4) (.bool b2) rfl rfl (by kernel_rfl) (by kernel_rfl) (by kernel_rfl) (fun _ _ _ h => h) (Or.inl ⟨by kernel_rfl, fun W hSw => by (try dsimp only at hSw); go_simp⟩) (by assumption) ?_
                        try simp only [Act.put, List.setIfInBounds_toArray, List.set_cons_zero, List.set_cons_succ]
                        refine wpAnyH_done (by kernel_rfl) ?_ _
                        go_wp2_with fail
                        go_ret
                        exact ⟨rfl, FIN.out _ Bq.out⟩
                  · go_simp
                    refine hK.out _ _ (EX.out _ ((BD.out).trans (Below.mono (rdy2 wd (x)).b (BD.out).size))) (fun hHeld => ?_)
                    clear hK K
                    try simp only [Act.put, List.setIfInBounds_toArray, List.set_cons_zero, List.set_cons_succ]
                    refine wpAnyH_ready (rs := [3]) (by kernel_rfl) (by simp) ?_
                    refine AllReadyH.cons rfl (fun K hK => ?_) AllReadyH.nil
                    refine stepA (rdy2 wd (x)) (some 45) rfl (.tmp 43) (.tmp 44) (by rfl) (by kernel_rfl) (by rfl) (by rfl) C0.out (RD.out _ ((BD.out).trans (Below.mono (rdy2 wd (x)).b (BD.out).size))) hn6 ?_
                    intro A8 c8 w8 H8 B8 G8 S8
                    have e8 := EX.out w8 ((BD.out).trans (Below.mono B8 (BD.out).size))
                    have k8 : w8.cell? ⟨(wd.heap.size + 1), 0, none⟩ = some (.int .i64 (x)) := grown_keep G8 (by omega) (rdy2l wd (x)) (rdy2x wd (x))
                    have H8h : Hid _ := H8
                    have B8h : Hid _ := B8
                    clear H8 B8 G8 S8
                    refine hK.out _ _ e8 (fun hHeld => ?_)
                    clear hK K
                    try simp only [Act.put, List.setIfInBounds_toArray, List.set_cons_zero, List.set_cons_succ]
                    refine wpAnyH_ready (rs := [9]) (by kernel_rfl) (by simp) ?_
                    refine AllReadyH.cons rfl (fun K hK => ?_) AllReadyH.nil
                    refine stepB (gx := wd.heap.size + 1) (H := H8h.out) (B := B8h.out) (some 51) rfl (.tmp 45) (.tmp 50) (by rfl) (by kernel_rfl) (by rfl) (by rfl) k8 hn6 ?_
                    intro A9 c9 w9 L9 B9
                    have e9 := EX.out w9 ((BD.out).trans (Below.mono B9 (BD.out).size))
                    have L9h : Hid _ := L9
                    have B9h : Hid _ := ((BD.out).trans (Below.mono B9 (BD.out).size))
                    clear L9 B9
                    refine hK.out _ _ e9 (fun hHeld => ?_)
                    clear hK K
                    try simp only [Act.put, List.setIfInBounds_toArray, List.set_cons_zero, List.set_cons_succ]
                    refine wpAnyH_ready (rs := [10]) (by kernel_rfl) (by simp) ?_
                    refine AllReadyH.cons rfl (fun K hK => ?_) AllReadyH.nil
                    go_simp
                    go_at_call 35
                    refine (R1.out _ A9 c9 B9h.out L9h.out).mono ?_
                    rintro e wp ⟨rfl, BB⟩
                    have Bp : Hid _ := B9h.out.trans (BB.mono B9h.out.size)
                    have ep := EX.out wp Bp.out
                    clear BB
                    go_wp2_with fail
                    refine hK.out _ _ ep (fun hHeld => ?_)
                    clear hK K
                    try simp only [Act.put, List.setIfInBounds_toArray, List.set_cons_zero, List.set_cons_succ]
                    refine takeV 11 (some 53) (.bool b1) rfl rfl (by kernel_rfl) (by kernel_rfl) (by kernel_rfl) (fun _ _ _ h => h) (Or.inl ⟨by kernel_rfl, fun W hSw => by (try dsimp only at hSw); go_simp⟩) (by assumption) ?_
                    try simp only [Act.put, List.setIfInBounds_toArray, List.set_cons_zero, List.set_cons_succ]
                    cases b1 with
                    | true =>
                      refine takeV 12 (some 54) undef rfl rfl (by kernel_rfl) (by kernel_rfl) (by kernel_rfl) (fun _ _ _ h => h) (Or.inr ⟨by kernel_rfl, rfl⟩) (by assumption) ?_
                      try simp only [Act.put, List.setIfInBounds_toArray, List.set_cons_zero, List.set_cons_succ]
                      refine takeV 13 (some 55) undef rfl rfl (by kernel_rfl) (by kernel_rfl) (by kernel_rfl) (fun _ _ _ h => h) (Or.inr ⟨by kernel_rfl, rfl⟩) (by assumption) ?_
                      try simp only [Act.put, List.setIfInBounds_toArray, List.set_cons_zero, List.set_cons_succ]
                      refine takeV 14 (some 56) undef rfl rfl (by kernel_rfl) (by kernel_rfl) (by kernel_rfl) (fun _ _ _ h => h) (Or.inr ⟨by kernel_rfl, rfl⟩) (by assumption) ?_
                      try simp only [Act.put, List.setIfInBounds_toArray, List.set_cons_zero, List.set_cons_succ]
                      refine takeV 15 (some 57) undef rfl rfl (by kernel_rfl) (by kernel_rfl) (by kernel_rfl) (fun _ _ _ h => h) (Or.inr ⟨by kernel_rfl, rfl⟩) (by assumption) ?_
                      try simp only [Act.put, List.setIfInBounds_toArray, List.set_cons_zero, List.set_cons_succ]
                      refine takeV 16 (some 58) undef rfl rfl (by kernel_rfl) (by kernel_rfl) (by kernel_rfl) (fun _ _ _ h => h) (Or.inr ⟨by kernel_rfl, rfl⟩) (by assumption) ?_
                      try simp only [Act.put, List.setIfInBounds_toArray, List.set_cons_zero, List.set_cons_succ]
                      refine takeV 17 (some 59) undef rfl rfl (by kernel_rfl) (by kernel_rfl) (by kernel_rfl) (fun _ _ _ h => h) (Or.inr ⟨by kernel_rfl, rfl⟩) (by assumption) ?_
                      try simp only [Act.put, List.setIfInBounds_toArray, List.set_cons_zero, List.set_cons_succ]
                      refine takeV 18 (some 60) undef rfl rfl (by kernel_rfl) (by kernel_rfl) (by kernel_rfl) (fun _ _ _ h => h) (Or.inr ⟨by kernel_rfl, rfl⟩) (by assumption) ?_
                      try simp only [Act.put, List.setIfInBounds_toArray, List.set_cons_zero, List.set_cons_succ]
                      refine takeV 19 (some 61) undef rfl rfl (by kernel_rfl) (by kernel_rfl) (by kernel_rfl) (fun _ _ _ h => h) (Or.inr ⟨by kernel_rfl, rfl⟩) (by assumption) ?_
                      try simp only [Act.put, List.setIfInBounds_toArray, List.set_cons_zero, List.set_cons_succ]
                      refine takeV 20 (some 62) undef rfl rfl (by kernel_rfl) (by kernel_rfl) (by kernel_rfl) (fun _ _ _ h => h) (Or.inr ⟨by kernel_rfl, rfl⟩) (by assumption) ?_
                      try simp only [Act.put, List.setIfInBounds_toArray, List.set_cons_zero, List.set_cons_succ]
                      refine takeV 21 (some 63) undef rfl rfl (by kernel_rfl) (by kernel_rfl) (by kernel_rfl) (fun _ _ _ h => h) (Or.inr ⟨by kernel_rfl, rfl⟩) (by assumption) ?_
                      try simp only [Act.put, List.setIfInBounds_toArray, List.set_cons_zero, List.set_cons_succ]
                      refine takeV 22 (some 64) undef rfl rfl (by kernel_rfl) (by kernel_rfl) (by kernel_rfl) (fun _ _ _ h => h) (Or.inr ⟨by kernel_rfl, rfl⟩) (by assumption) ?_
                      try simp only [Act.put, List.setIfInBounds_toArray, List.set_cons_zero, List.set_cons_succ]
                      refine takeV 23 (some 65) undef rfl rfl (by kernel_rfl) (by kernel_rfl) (by kernel_rfl) (fun _ _ _ h => h) (Or.inr ⟨by kernel_rfl, rfl⟩) (by assumption) ?_
                      try simp only [Act.put, List.setIfInBounds_toArray, List.set_cons_zero, List.set_cons_succ]
                      refine takeV 24 (some 66) (.bool true) rfl rfl (by kernel_rfl) (by kernel_rfl) (by kernel_rfl) (fun _ _ _ h => h) (Or.inl ⟨by kernel_rfl, fun W hSw => by (try dsimp only at hSw); go_simp⟩) (by assumption) ?_
                      try simp only [Act.put, List.setIfInBounds_toArray, List.set_cons_zero, List.set_cons_succ]
                      refine takeV 25 (some 4) (.bool true) rfl rfl (by kernel_rfl) (by kernel_rfl) (by kernel_rfl) (fun _ _ _ h => h) (Or.inl ⟨by kernel_rfl, fun W hSw => by (try dsimp only at hSw); go_simp⟩) (by assumption) ?_
                      try simp only [Act.put, List.setIfInBounds_toArray, List.set_cons_zero, List.set_cons_succ]
                      refine wpAnyH_done (by kernel_rfl) ?_ _
                      go_wp2_with fail
                      go_ret
                      exact ⟨rfl, FIN.out _ Bp.out⟩
                    | false =>
                      refine takeV 12 (some 54) (.slice A D.length cc) rfl rfl (by kernel_rfl) (by kernel_rfl) (by kernel_rfl) (fun _ _ _ h => h) (Or.inl ⟨by kernel_rfl, fun W hSw => by (try dsimp only at hSw); go_simp⟩) (by assumption) ?_
                      try simp only [Act.put, List.setIfInBounds_toArray, List.set_cons_zero, List.set_cons_succ]
                      refine takeV 14 (some 56) (.slice AV now.length CV) rfl rfl (by kernel_rfl) (by kernel_rfl) (by kernel_rfl) (fun _ _ _ h => h) (Or.inl ⟨by kernel_rfl, fun W hSw => by (try dsimp only at hSw); go_simp⟩) (by assumption) ?_
                      try simp only [Act.put, List.setIfInBounds_toArray, List.set_cons_zero, List.set_cons_succ]
                      refine takeV 16 (some 58) (.slice (some ⟨b, o, none⟩) (refVars D).length CV2) rfl rfl (by kernel_rfl) (by kernel_rfl) (by kernel_rfl) (fun _ _ _ h => h) (Or.inl ⟨by kernel_rfl, fun W hSw => by (try dsimp only at hSw); go_simp⟩) (by assumption) ?_
                      try simp only [Act.put, List.setIfInBounds_toArray, List.set_cons_zero, List.set_cons_succ]
                      refine takeV 17 (some 59) (.int .i64 (i : Int)) rfl rfl (by kernel_rfl) (by kernel_rfl) (by kernel_rfl) (fun _ _ _ h => h) (Or.inl ⟨by kernel_rfl, fun W hSw => by (try dsimp only at hSw); go_simp⟩) (by assumption) ?_
                      try simp only [Act.put, List.setIfInBounds_toArray, List.set_cons_zero, List.set_cons_succ]
                      refine takeV 18 (some 60) (.pointer (some ⟨b, o + i, none⟩)) rfl rfl (by kernel_rfl) (by kernel_rfl) (by kernel_rfl) (fun _ _ _ h => h) (Or.inl ⟨by kernel_rfl, fun W hSw => by (try dsimp only at hSw); go_simp⟩) (by assumption) ?_
                      try simp only [Act.put, List.setIfInBounds_toArray, List.set_cons_zero, List.set_cons_succ]
                      refine takeV 19 (some 61) (.int .i64 x) rfl rfl (by kernel_rfl) (by kernel_rfl) (by kernel_rfl) (fun _ _ _ h => h) (Or.inl ⟨by kernel_rfl, fun W hSw => by (try dsimp only at hSw); go_simp⟩) (by assumption) ?_
                      try simp only [Act.put, List.setIfInBounds_toArray, List.set_cons_zero, List.set_cons_succ]
                      refine takeV 20 (some 62) (.int .i64 (-x)) rfl rfl (by kernel_rfl) (by kernel_rfl) (by kernel_rfl) (fun _ _ _ h => h) (Or.inl ⟨by kernel_rfl, fun W hSw => by (try dsimp only at hSw); go_simp⟩) (by assumption) ?_
                      try simp only [Act.put, List.setIfInBounds_toArray, List.set_cons_zero, List.set_cons_succ]
                      refine wpAnyH_ready (rs := [13, 21]) (by kernel_rfl) (by simp) ?_
                      refine AllReadyH.cons rfl (fun K hK => ?_) (AllReadyH.cons rfl (fun K hK => ?_) AllReadyH.nil)
                      · go_simp
                        refine hK.out _ _ (EX.out _ ((Bp.out).trans (Below.mono (rdy1 wp).b (Bp.out).size))) (fun hHeld => ?_)
                        clear hK K
                        try simp only [Act.put, List.setIfInBounds_toArray, List.set_cons_zero, List.set_cons_succ]
                        refine wpAnyH_ready (rs := [15, 21]) (by kernel_rfl) (by simp) ?_
                        refine AllReadyH.cons rfl (fun K hK => ?_) (AllReadyH.cons rfl (fun K hK => ?_) AllReadyH.nil)
                        · skip
                          refine stepA (rdy1 wp) (some 57) rfl (.tmp 55) (.tmp 56) (by rfl) (by kernel_rfl) (by rfl) (by rfl) C0.out (RD.out _ ((Bp.out).trans (Below.mono (rdy1 wp).b (Bp.out).size))) hn6 ?_
                          intro A8 c8 w8 H8 B8 G8 S8
                          have e8 := EX.out w8 ((Bp.out).trans (Below.mono B8 (Bp.out).size))
                          have H8h : Hid _ := H8
                          have B8h : Hid _ := B8
                          clear H8 B8 G8 S8
                          refine hK.out _ _ e8 (fun hHeld => ?_)
                          clear hK K
                          try simp only [Act.put, List.setIfInBounds_toArray, List.set_cons_zero, List.set_cons_succ]
                          refine wpAnyH_ready (rs := [21]) (by kernel_rfl) (by simp) ?_
                          refine AllReadyH.cons rfl (fun K hK => ?_) AllReadyH.nil
                          go_simp
                          refine hK.out _ _ (EX.out _ ((Bp.out).trans (Below.mono (B8h.out.alloc B8h.out.size _) (Bp.out).size))) (fun hHeld => ?_)
                          clear hK K
                          try simp only [Act.put, List.setIfInBounds_toArray, List.set_cons_zero, List.set_cons_succ]
                          refine wpAnyH_ready (rs := [22]) (by kernel_rfl) (by simp) ?_
                          refine AllReadyH.cons rfl (fun K hK => ?_) AllReadyH.nil
                          refine stepB (gx := w8.heap.size) (H := (H8h.out.alloc (.cells #[.int .i64 (-x)] 3))) (B := (B8h.out.alloc B8h.out.size (.cells #[.int .i64 (-x)] 3))) (some 64) rfl (.tmp 57) (.tmp 63) (by rfl) (by kernel_rfl) (by rfl) (by rfl) (cell_new _ _ _ _ rfl) hn6 ?_
                          intro A9 c9 w9 L9 B9
                          have e9 := EX.out w9 ((Bp.out).trans (Below.mono B9 (Bp.out).size))
                          have L9h : Hid _ := L9
                          have B9h : Hid _ := ((Bp.out).trans (Below.mono B9 (Bp.out).size))
                          clear L9 B9
                          refine hK.out _ _ e9 (fun hHeld => ?_)
                          clear hK K
                          try simp only [Act.put, List.setIfInBounds_toArray, List.set_cons_zero, List.set_cons_succ]
                          refine wpAnyH_ready (rs := [23]) (by kernel_rfl) (by simp) ?_
                          refine AllReadyH.cons rfl (fun K hK => ?_) AllReadyH.nil
                          go_simp
                          go_at_call 35
                          refine (R2.out _ A9 c9 B9h.out L9h.out).mono ?_
                          rintro e wq ⟨rfl, BB⟩
                          have Bq : Hid _ := B9h.out.trans (BB.mono B9h.out.size)
                          have eq := EX.out wq Bq.out
                          clear BB
                          go_wp2_with fail
                          refine hK.out _ _ eq (fun hHeld => ?_)
                          clear hK K
                          try simp only [Act.put, List.setIfInBounds_toArray, List.set_cons_zero, List.set_cons_succ]
                          refine takeV 24 (some 66) (.bool b2) rfl rfl (by kernel_rfl) (by kernel_rfl) (by kernel_rfl) (fun _ _ _ h => h) (Or.inl ⟨by kernel_rfl, fun W hSw => by (try dsimp only at hSw); go_simp⟩) (by assumption) ?_
                          try simp only [Act.put, List.setIfInBounds_toArray, List.set_cons_zero, List.set_cons_succ]
                          refine takeV 25 (some 4) (.bool b2) rfl rfl (by kernel_rfl) (by kernel_rfl) (by kernel_rfl) (fun _ _ _ h => h) (Or.inl ⟨by kernel_rfl, fun W hSw => by (try dsimp only at hSw); go_simp⟩) (by assumption) ?_
                          try simp only [Act.put, List.setIfInBounds_toArray, List.set_cons_zero, List.set_cons_succ]
                          refine wpAnyH_done (by kernel_rfl) ?_ _
                          go_wp2_with fail
                          go_ret
                          exact ⟨rfl, FIN.out _ Bq.out⟩
                        · go_simp
                          refine hK.out _ _ (EX.out _ ((Bp.out).trans (Below.mono (rdy2 wp (-x)).b (Bp.out).size))) (fun hHeld => ?_)
                          clear hK K
                          try simp only [Act.put, List.setIfInBounds_toArray, List.set_cons_zero, List.set_cons_succ]
                          refine wpAnyH_ready (rs := [15]) (by kernel_rfl) (by simp) ?_
                          refine AllReadyH.cons rfl (fun K hK => ?_) AllReadyH.nil
                          refine stepA (rdy2 wp (-x)) (some 57) rfl (.tmp 55) (.tmp 56) (by rfl) (by kernel_rfl) (by rfl) (by rfl) C0.out (RD.out _ ((Bp.out).trans (Below.mono (rdy2 wp (-x)).b (Bp.out).size))) hn6 ?_
                          intro A8 c8 w8 H8 B8 G8 S8
                          have e8 := EX.out w8 ((Bp.out).trans (Below.mono B8 (Bp.out).size))
                          have k8 : w8.cell? ⟨(wp.heap.size + 1), 0, none⟩ = some (.int .i64 (-x)) := grown_keep G8 (by omega) (rdy2l wp (-x)) (rdy2x wp (-x))
                          have H8h : Hid _ := H8
                          have B8h : Hid _ := B8
                          clear H8 B8 G8 S8
                          refine hK.out _ _ e8 (fun hHeld => ?_)
                          clear hK K
                          try simp only [Act.put, List.setIfInBounds_toArray, List.set_cons_zero, List.set_cons_succ]
                          refine wpAnyH_ready (rs := [22]) (by kernel_rfl) (by simp) ?_
                          refine AllReadyH.cons rfl (fun K hK => ?_) AllReadyH.nil
                          refine stepB (gx := wp.heap.size + 1) (H := H8h.out) (B := B8h.out) (some 64) rfl (.tmp 57) (.tmp 63) (by rfl) (by kernel_rfl) (by rfl) (by rfl) k8 hn6 ?_
                          intro A9 c9 w9 L9 B9
                          have e9 := EX.out w9 ((Bp.out).trans (Below.mono B9 (Bp.out).size))
                          have L9h : Hid _ := L9
                          have B9h : Hid _ := ((Bp.out).trans (Below.mono B9 (Bp.out).size))
                          clear L9 B9
                          refine hK.out _ _ e9 (fun hHeld => ?_)
                          clear hK K
                          try simp only [Act.put, List.setIfInBounds_toArray, List.set_cons_zero, List.set_cons_succ]
                          refine wpAnyH_ready (rs := [23]) (by kernel_rfl) (by simp) ?_
                          refine AllReadyH.cons rfl (fun K hK => ?_) AllReadyH.nil
                          go_simp
                          go_at_call 35
                          refine (R2.out _ A9 c9 B9h.out L9h.out).mono ?_
                          rintro e wq ⟨rfl, BB⟩
                          have Bq : Hid _ := B9h.out.trans (BB.mono B9h.out.size)
                          have eq := EX.out wq Bq.out
                          clear BB
                          go_wp2_with fail
                          refine hK.out _ _ eq (fun hHeld => ?_)
                          clear hK K
                          try simp only [Act.put, List.setIfInBounds_toArray, List.set_cons_zero, List.set_cons_succ]
                          refine takeV 24 (some 66) (.bool b2) rfl rfl (by kernel_rfl) (by kernel_rfl) (by kernel_rfl) (fun _ _ _ h => h) (Or.inl ⟨by kernel_rfl, fun W hSw => by (try dsimp only at hSw); go_simp⟩) (by assumption) ?_
                          try simp only [Act.put, List.setIfInBounds_toArray, List.set_cons_zero, List.set_cons_succ]
                          refine takeV 25 (some 4) (.bool b2) rfl rfl (by kernel_rfl) (by kernel_rfl) (by kernel_rfl) (fun _ _ _ h => h) (Or.inl ⟨by kernel_rfl, fun W hSw => by (try dsimp only at hSw); go_simp⟩) (by assumption) ?_
                          try simp only [Act.put, List.setIfInBounds_toArray, List.set_cons_zero, List.set_cons_succ]
                          refine wpAnyH_done (by kernel_rfl) ?_ _
                          go_wp2_with fail
                          go_ret
                          exact ⟨rfl, FIN.out _ Bq.out⟩
                      · go_simp
                        refine hK.out _ _ (EX.out _ ((Bp.out).trans (Below.mono ((Below.refl wp.heap.size wp).alloc (Nat.le_refl _) _) (Bp.out).size))) (fun hHeld => ?_)
                        clear hK K
                        try simp only [Act.put, List.setIfInBounds_toArray, List.set_cons_zero, List.set_cons_succ]
                        refine wpAnyH_ready (rs := [13]) (by kernel_rfl) (by simp) ?_
                        refine AllReadyH.cons rfl (fun K hK => ?_) AllReadyH.nil
                        go_simp
                        refine hK.out _ _ (EX.out _ ((Bp.out).trans (Below.mono (rdy3 wp (-x)).b (Bp.out).size))) (fun hHeld => ?_)
                        clear hK K
                        try simp only [Act.put, List.setIfInBounds_toArray, List.set_cons_zero, List.set_cons_succ]
                        refine wpAnyH_ready (rs := [15]) (by kernel_rfl) (by simp) ?_
                        refine AllReadyH.cons rfl (fun K hK => ?_) AllReadyH.nil
                        refine stepA (rdy3 wp (-x)) (some 57) rfl (.tmp 55) (.tmp 56) (by rfl) (by kernel_rfl) (by rfl) (by rfl) C0.out (RD.out _ ((Bp.out).trans (Below.mono (rdy3 wp (-x)).b (Bp.out).size))) hn6 ?_
                        intro A8 c8 w8 H8 B8 G8 S8
                        have e8 := EX.out w8 ((Bp.out).trans (Below.mono B8 (Bp.out).size))
                        have k8 : w8.cell? ⟨wp.heap.size, 0, none⟩ = some (.int .i64 (-x)) := grown_keep G8 (by omega) (rdy3l wp (-x)) (rdy3x wp (-x))
                        have H8h : Hid _ := H8
                        have B8h : Hid _ := B8
                        clear H8 B8 G8 S8
                        refine hK.out _ _ e8 (fun hHeld => ?_)
                        clear hK K
                        try simp only [Act.put, List.setIfInBounds_toArray, List.set_cons_zero, List.set_cons_succ]
                        refine wpAnyH_ready (rs := [22]) (by kernel_rfl) (by simp) ?_
                        refine AllReadyH.cons rfl (fun K hK => ?_) AllReadyH.nil
                        refine stepB (gx := wp.heap.size) (H := H8h.out) (B := B8h.out) (some 64) rfl (.tmp 57) (.tmp 63) (by rfl) (by kernel_rfl) (by rfl) (by rfl) k8 hn6 ?_
                        intro A9 c9 w9 L9 B9
                        have e9 := EX.out w9 ((Bp.out).trans (Below.mono B9 (Bp.out).size))
                        have L9h : Hid _ := L9
                        have B9h : Hid _ := ((Bp.out).trans (Below.mono B9 (Bp.out).size))
                        clear L9 B9
                        refine hK.out _ _ e9 (fun hHeld => ?_)
                        clear hK K
                        try simp only [Act.put, List.setIfInBounds_toArray, List.set_cons_zero, List.set_cons_succ]
                        refine wpAnyH_ready (rs := [23]) (by kernel_rfl) (by simp) ?_
                        refine AllReadyH.cons rfl (fun K hK => ?_) AllReadyH.nil
                        go_simp
                        go_at_call 35
                        refine (R2.out _ A9 c9 B9h.out L9h.out).mono ?_
                        rintro e wq ⟨rfl, BB⟩
                        have Bq : Hid _ := B9h.out.trans (BB.mono B9h.out.size)
                        have eq := EX.out wq Bq.out
                        clear BB
                        go_wp2_with fail
                        refine hK.out _ _ eq (fun hHeld => ?_)
                        clear hK K
                        try simp only [Act.put, List.setIfInBounds_toArray, List.set_cons_zero, List.set_cons_succ]
                        refine takeV 24 (some 66) (.bool b2) rfl rfl (by kernel_rfl) (by kernel_rfl) (by kernel_rfl) (fun _ _ _ h => h) (Or.inl ⟨by kernel_rfl, fun W hSw => by (try dsimp only at hSw); go_simp⟩) (by assumption) ?_
                        try simp only [Act.put, List.setIfInBounds_toArray, List.set_cons_zero, List.set_cons_succ]
                        refine takeV 25 (some 4) (.bool b2) rfl rfl (by kernel_rfl) (by kernel_rfl) (by kernel_rfl) (fun _ _ _ h => h) (Or.inl ⟨by kernel_rfl, fun W hSw => by (try dsimp only at hSw); go_simp⟩) (by assumption) ?_
                        try simp only [Act.put, List.setIfInBounds_toArray, List.set_cons_zero, List.set_cons_succ]
                        refine wpAnyH_done (by kernel_rfl) ?_ _
                        go_wp2_with fail
                        go_ret
                        exact ⟨rfl, FIN.out _ Bq.out⟩
                · go_simp
                  refine hK.out _ _ (EX.out _ ((BD.out).trans (Below.mono ((Below.refl wd.heap.size wd).alloc (Nat.le_refl _) _) (BD.out).size))) (fun hHeld => ?_)
                  clear hK K
                  try simp only [Act.put, List.setIfInBounds_toArray, List.set_cons_zero, List.set_cons_succ]
                  refine wpAnyH_ready (rs := [1]) (by kernel_rfl) (by simp) ?_
                  refine AllReadyH.cons rfl (fun K hK => ?_) AllReadyH.nil
                  go_simp
                  refine hK.out _ _ (EX.out _ ((BD.out).trans (Below.mono (rdy3 wd (x)).b (BD.out).size))) (fun hHeld => ?_)
                  clear hK K
                  try simp only [Act.put, List.setIfInBounds_toArray, List.set_cons_zero, List.set_cons_succ]
                  refine wpAnyH_ready (rs := [3]) (by kernel_rfl) (by simp) ?_
                  refine AllReadyH.cons rfl (fun K hK => ?_) AllReadyH.nil
                  refine stepA (rdy3 wd (x)) (some 45) rfl (.tmp 43) (.tmp 44) (by rfl) (by kernel_rfl) (by rfl) (by rfl) C0.out (RD.out _ ((BD.out).trans (Below.mono (rdy3 wd (x)).b (BD.out).size))) hn6 ?_
                  intro A8 c8 w8 H8 B8 G8 S8
                  have e8 := EX.out w8 ((BD.out).trans (Below.mono B8 (BD.out).size))
                  have k8 : w8.cell? ⟨wd.heap.size, 0, none⟩ = some (.int .i64 (x)) := grown_keep G8 (by omega) (rdy3l wd (x)) (rdy3x wd (x))
                  have H8h : Hid _ := H8
                  have B8h : Hid _ := B8
                  clear H8 B8 G8 S8
                  refine hK.out _ _ e8 (fun hHeld => ?_)
                  clear hK K
                  try simp only [Act.put, List.setIfInBounds_toArray, List.set_cons_zero, List.set_cons_succ]
                  refine wpAnyH_ready (rs := [9]) (by kernel_rfl) (by simp) ?_
                  refine AllReadyH.cons rfl (fun K hK => ?_) AllReadyH.nil
                  refine stepB (gx := wd.heap.size) (H := H8h.out) (B := B8h.out) (some 51) rfl (.tmp 45) (.tmp 50) (by rfl) (by kernel_rfl) (by rfl) (by rfl) k8 hn6 ?_
                  intro A9 c9 w9 L9 B9
                  have e9 := EX.out w9 ((BD.out).trans (Below.mono B9 (BD.out).size))
                  have L9h : Hid _ := L9
                  have B9h : Hid _ := ((BD.out).trans (Below.mono B9 (BD.out).size))
                  clear L9 B9
                  refine hK.out _ _ e9 (fun hHeld => ?_)
                  clear hK K
                  try simp only [Act.put, List.setIfInBounds_toArray, List.set_cons_zero, List.set_cons_succ]
                  refine wpAnyH_ready (rs := [10]) (by kernel_rfl) (by simp) ?_
                  refine AllReadyH.cons rfl (fun K hK => ?_) AllReadyH.nil
                  go_simp
                  go_at_call 35
                  refine (R1.out _ A9 c9 B9h.out L9h.out).mono ?_
                  rintro e wp ⟨rfl, BB⟩
                  have Bp : Hid _ := B9h.out.trans (BB.mono B9h.out.size)
                  have ep := EX.out wp Bp.out
                  clear BB
                  go_wp2_with fail
                  refine hK.out _ _ ep (fun hHeld => ?_)
                  clear hK K
                  try simp only [Act.put, List.setIfInBounds_toArray, List.set_cons_zero, List.set_cons_succ]
                  refine takeV 11 (some 53) (.bool b1) rfl rfl (by kernel_rfl) (by kernel_rfl) (by kernel_rfl) (fun _ _ _ h => h) (Or.inl ⟨by kernel_rfl, fun W hSw => by (try dsimp only at hSw); go_simp⟩) (by assumption) ?_
                  try simp only [Act.put, List.setIfInBounds_toArray, List.set_cons_zero, List.set_cons_succ]
                  cases b1 with
                  | true =>
                    refine takeV 12 (some 54) undef rfl rfl (by kernel_rfl) (by kernel_rfl) (by kernel_rfl) (fun _ _ _ h => h) (Or.inr ⟨by kernel_rfl, rfl⟩) (by assumption) ?_
                    try simp only [Act.put, List.setIfInBounds_toArray, List.set_cons_zero, List.set_cons_succ]
                    refine takeV 13 (some 55) undef rfl rfl (by kernel_rfl) (by kernel_rfl) (by kernel_rfl) (fun _ _ _ h => h) (Or.inr ⟨by kernel_rfl, rfl⟩) (by assumption) ?_
                    try simp only [Act.put, List.setIfInBounds_toArray, List.set_cons_zero, List.set_cons_succ]
                    refine takeV 14 (some 56) undef rfl rfl (by kernel_rfl) (by kernel_rfl) (by kernel_rfl) (fun _ _ _ h => h) (Or.inr ⟨by kernel_rfl, rfl⟩) (by assumption) ?_
                    try simp only [Act.put, List.setIfInBounds_toArray, List.set_cons_zero, List.set_cons_succ]
                    refine takeV 15 (some 57) undef rfl rfl (by kernel_rfl) (by kernel_rfl) (by kernel_rfl) (fun _ _ _ h => h) (Or.inr ⟨by kernel_rfl, rfl⟩) (by assumption) ?_
                    try simp only [Act.put, List.setIfInBounds_toArray, List.set_cons_zero, List.set_cons_succ]
                    refine takeV 16 (some 58) undef rfl rfl (by kernel_rfl) (by kernel_rfl) (by kernel_rfl) (fun _ _ _ h => h) (Or.inr ⟨by kernel_rfl, rfl⟩) (by assumption) ?_
                    try simp only [Act.put, List.setIfInBounds_toArray, List.set_cons_zero, List.set_cons_succ]
                    refine takeV 17 (some 59) undef rfl rfl (by kernel_rfl) (by kernel_rfl) (by kernel_rfl) (fun _ _ _ h => h) (Or.inr ⟨by kernel_rfl, rfl⟩) (by assumption) ?_
                    try simp only [Act.put, List.setIfInBounds_toArray, List.set_cons_zero, List.set_cons_succ]
                    refine takeV 18 (some 60) undef rfl rfl (by kernel_rfl) (by kernel_rfl) (by kernel_rfl) (fun _ _ _ h => h) (Or.inr ⟨by kernel_rfl, rfl⟩) (by assumption) ?_
                    try simp only [Act.put, List.setIfInBounds_toArray, List.set_cons_zero, List.set_cons_succ]
                    refine takeV 19 (some 61) undef rfl rfl (by kernel_rfl) (by kernel_rfl) (by kernel_rfl) (fun _ _ _ h => h) (Or.inr ⟨by kernel_rfl, rfl⟩) (by assumption) ?_
                    try simp only [Act.put, List.setIfInBounds_toArray, List.set_cons_zero, List.set_cons_succ]
                    refine takeV 20 (some 62) undef rfl rfl (by kernel_rfl) (by kernel_rfl) (by kernel_rfl) (fun _ _ _ h => h) (Or.inr ⟨by kernel_rfl, rfl⟩) (by assumption) ?_
                    try simp only [Act.put, List.setIfInBounds_toArray, List.set_cons_zero, List.set_cons_succ]
                    refine takeV 21 (some 63) undef rfl rfl (by kernel_rfl) (by kernel_rfl) (by kernel_rfl) (fun _ _ _ h => h) (Or.inr ⟨by kernel_rfl, rfl⟩) (by assumption) ?_
                    try simp only [Act.put, List.setIfInBounds_toArray, List.set_cons_zero, List.set_cons_succ]
                    refine takeV 22 (some 64) undef rfl rfl (by kernel_rfl) (by kernel_rfl) (by kernel_rfl) (fun _ _ _ h => h) (Or.inr ⟨by kernel_rfl, rfl⟩) (by assumption) ?_
                    try simp only [Act.put, List.setIfInBounds_toArray, List.set_cons_zero, List.set_cons_succ]
                    refine takeV 23 (some 65) undef rfl rfl (by kernel_rfl) (by kernel_rfl) (by kernel_rfl) (fun _ _ _ h => h) (Or.inr ⟨by kernel_rfl, rfl⟩) (by assumption) ?_
                    try simp only [Act.put, List.setIfInBounds_toArray, List.set_cons_zero, List.set_cons_succ]
                    refine takeV 24 (some 66) (.bool true) rfl rfl (by kernel_rfl) (by kernel_rfl) (by kernel_rfl) (fun _ _ _ h => h) (Or.inl ⟨by kernel_rfl, fun W hSw => by (try dsimp only at hSw); go_simp⟩) (by assumption) ?_
                    try simp only [Act.put, List.setIfInBounds_toArray, List.set_cons_zero, List.set_cons_succ]
                    refine takeV 25 (some 4) (.bool true) rfl rfl (by kernel_rfl) (by kernel_rfl) (by kernel_rfl) (fun _ _ _ h => h) (Or.inl ⟨by kernel_rfl, fun W hSw => by (try dsimp only at hSw); go_simp⟩) (by assumption) ?_
                    try simp only [Act.put, List.setIfInBounds_toArray, List.set_cons_zero, List.set_cons_succ]
                    refine wpAnyH_done (by kernel_rfl) ?_ _
                    go_wp2_with fail
                    go_ret
                    exact ⟨rfl, FIN.out _ Bp.out⟩
                  | false =>
                    refine takeV 12 (some 54) (.slice A D.length cc) rfl rfl (by kernel_rfl) (by kernel_rfl) (by kernel_rfl) (fun _ _ _ h => h) (Or.inl ⟨by kernel_rfl, fun W hSw => by (try dsimp only at hSw); go_simp⟩) (by assumption) ?_
                    try simp only [Act.put, List.setIfInBounds_toArray, List.set_cons_zero, List.set_cons_succ]
                    refine takeV 14 (some 56) (.slice AV now.length CV) rfl rfl (by kernel_rfl) (by kernel_rfl) (by kernel_rfl) (fun _ _ _ h => h) (Or.inl ⟨by kernel_rfl, fun W hSw => by (try dsimp only at hSw); go_simp⟩) (by assumption) ?_
                    try simp only [Act.put, List.setIfInBounds_toArray, List.set_cons_zero, List.set_cons_succ]
                    refine takeV 16 (some 58) (.slice (some ⟨b, o, none⟩) (refVars D).length CV2) rfl rfl (by kernel_rfl) (by kernel_rfl) (by kernel_rfl) (fun _ _ _ h => h) (Or.inl ⟨by kernel_rfl, fun W hSw => by (try dsimp only at hSw); go_simp⟩) (by assumption) ?_
                    try simp only [Act.put, List.setIfInBounds_toArray, List.set_cons_zero, List.set_cons_succ]
                    refine takeV 17 (some 59) (.int .i64 (i : Int)) rfl rfl (by kernel_rfl) (by kernel_rfl) (by kernel_rfl) (fun _ _ _ h => h) (Or.inl ⟨by kernel_rfl, fun W hSw => by (try dsimp only at hSw); go_simp⟩) (by assumption) ?_
                    try simp only [Act.put, List.setIfInBounds_toArray, List.set_cons_zero, List.set_cons_succ]
                    refine takeV 18 (some 60) (.pointer (some ⟨b, o + i, none⟩)) rfl rfl (by kernel_rfl) (by kernel_rfl) (by kernel_rfl) (fun _ _ _ h => h) (Or.inl ⟨by kernel_rfl, fun W hSw => by (try dsimp only at hSw); go_simp⟩) (by assumption) ?_
                    try simp only [Act.put, List.setIfInBounds_toArray, List.set_cons_zero, List.set_cons_succ]
                    refine takeV 19 (some 61) (.int .i64 x) rfl rfl (by kernel_rfl) (by kernel_rfl) (by kernel_rfl) (fun _ _ _ h => h) (Or.inl ⟨by kernel_rfl, fun W hSw => by (try dsimp only at hSw); go_simp⟩) (by assumption) ?_
                    try simp only [Act.put, List.setIfInBounds_toArray, List.set_cons_zero, List.set_cons_succ]
                    refine takeV 20 (some 62) (.int .i64 (-x)) rfl rfl (by kernel_rfl) (by kernel_rfl) (by kernel_rfl) (fun _ _ _ h => h) (Or.inl ⟨by kernel_rfl, fun W hSw => by (try dsimp only at hSw); go_simp⟩) (by assumption) ?_
                    try simp only [Act.put, List.setIfInBounds_toArray, List.set_cons_zero, List.set_cons_succ]
                    refine wpAnyH_ready (rs := [13, 21]) (by kernel_rfl) (by simp) ?_
                    refine AllReadyH.cons rfl (fun K hK => ?_) (AllReadyH.cons rfl (fun K hK => ?_) AllReadyH.nil)
                    · go_simp
                      refine hK.out _ _ (EX.out _ ((Bp.out).trans (Below.mono (rdy1 wp).b (Bp.out).size))) (fun hHeld => ?_)
                      clear hK K
                      try simp only [Act.put, List.setIfInBounds_toArray, List.set_cons_zero, List.set_cons_succ]
                      refine wpAnyH_ready (rs := [15, 21]) (by kernel_rfl) (by simp) ?_
                      refine AllReadyH.cons rfl (fun K hK => ?_) (AllReadyH.cons rfl (fun K hK => ?_) AllReadyH.nil)
                      · skip
                        refine stepA (rdy1 wp) (some 57) rfl (.tmp 55) (.tmp 56) (by rfl) (by kernel_rfl) (by rfl) (by rfl) C0.out (RD.out _ ((Bp.out).trans (Below.mono (rdy1 wp).b (Bp.out).size))) hn6 ?_
                        intro A8 c8 w8 H8 B8 G8 S8
                        have e8 := EX.out w8 ((Bp.out).trans (Below.mono B8 (Bp.out).size))
                        have H8h : Hid _ := H8
                        have B8h : Hid _ := B8
                        clear H8 B8 G8 S8
                        refine hK.out _ _ e8 (fun hHeld => ?_)
                        clear hK K
                        try simp only [Act.put, List.setIfInBounds_toArray, List.set_cons_zero, List.set_cons_succ]
                        refine wpAnyH_ready (rs := [21]) (by kernel_rfl) (by simp) ?_
                        refine AllReadyH.cons rfl (fun K hK => ?_) AllReadyH.nil
                        go_simp
                        refine hK.out _ _ (EX.out _ ((Bp.out).trans (Below.mono (B8h.out.alloc B8h.out.size _) (Bp.out).size))) (fun hHeld => ?_)
                        clear hK K
                        try simp only [Act.put, List.setIfInBounds_toArray, List.set_cons_zero, List.set_cons_succ]
                        refine wpAnyH_ready (rs := [22]) (by kernel_rfl) (by simp) ?_
                        refine AllReadyH.cons rfl (fun K hK => ?_) AllReadyH.nil
                        refine stepB (gx := w8.heap.size) (H := (H8h.out.alloc (.cells #[.int .i64 (-x)] 3))) (B := (B8h.out.alloc B8h.out.size (.cells #[.int .i64 (-x)] 3))) (some 64) rfl (.tmp 57) (.tmp 63) (by rfl) (by kernel_rfl) (by rfl) (by rfl) (cell_new _ _ _ _ rfl) hn6 ?_
                        intro A9 c9 w9 L9 B9
                        have e9 := EX.out w9 ((Bp.out).trans (Below.mono B9 (Bp.out).size))
                        have L9h : Hid _ := L9
                        have B9h : Hid _ := ((Bp.out).trans (Below.mono B9 (Bp.out).size))
                        clear L9 B9
                        refine hK.out _ _ e9 (fun hHeld => ?_)
                        clear hK K
                        try simp only [Act.put, List.setIfInBounds_toArray, List.set_cons_zero, List.set_cons_succ]
                        refine wpAnyH_ready (rs := [23]) (by kernel_rfl) (by simp) ?_
                        refine AllReadyH.cons rfl (fun K hK => ?_) AllReadyH.nil
                        go_simp
                        go_at_call 35
                        refine (R2.out _ A9 c9 B9h.out L9h.out).mono ?_
                        rintro e wq ⟨rfl, BB⟩
                        have Bq : Hid _ := B9h.out.trans (BB.mono B9h.out.size)
                        have eq := EX.out wq Bq.out
                        clear BB
                        go_wp2_with fail
                        refine hK.out _ _ eq (fun hHeld => ?_)
                        clear hK K
                        try simp only [Act.put, List.setIfInBounds_toArray, List.set_cons_zero, List.set_cons_succ]
                        refine takeV 24 (some 66) (.bool b2) rfl rfl (by kernel_rfl) (by kernel_rfl) (by kernel_rfl) (fun _ _ _ h => h) (Or.inl ⟨by kernel_rfl, fun W hSw => by (try dsimp only at hSw); go_simp⟩) (by assumption) ?_
                        try simp only [Act.put, List.setIfInBounds_toArray, List.set_cons_zero, List.set_cons_succ]
                        refine takeV 25 (some 4) (.bool b2) rfl rfl (by kernel_rfl) (by kernel_rfl) (by kernel_rfl) (fun _ _ _ h => h) (Or.inl ⟨by kernel_rfl, fun W hSw => by (try dsimp only at hSw); go_simp⟩) (by assumption) ?_
                        try simp only [Act.put, List.setIfInBounds_toArray, List.set_cons_zero, List.set_cons_succ]
                        refine wpAnyH_done (by kernel_rfl) ?_ _
                        go_wp2_with fail
                        go_ret
                        exact ⟨rfl, FIN.out _ Bq.out⟩
                      · go_simp
                        refine hK.out _ _ (EX.out _ ((Bp.out).trans (Below.mono (rdy2 wp (-x)).b (Bp.out).size))) (fun hHeld => ?_)
                        clear hK K
                        try simp only [Act.put, List.setIfInBounds_toArray, List.set_cons_zero, List.set_cons_succ]
                        refine wpAnyH_ready (rs := [15]) (by kernel_rfl) (by simp) ?_
                        refine AllReadyH.cons rfl (fun K hK => ?_) AllReadyH.nil
                        refine stepA (rdy2 wp (-x)) (some 57) rfl (.tmp 55) (.tmp 56) (by rfl) (by kernel_rfl) (by rfl) (by rfl) C0.out (RD.out _ ((Bp.out).trans (Below.mono (rdy2 wp (-x)).b (Bp.out).size))) hn6 ?_
                        intro A8 c8 w8 H8 B8 G8 S8
                        have e8 := EX.out w8 ((Bp.out).trans (Below.mono B8 (Bp.out).size))
                        have k8 : w8.cell? ⟨(wp.heap.size + 1), 0, none⟩ = some (.int .i64 (-x)) := grown_keep G8 (by omega) (rdy2l wp (-x)) (rdy2x wp (-x))
                        have H8h : Hid _ := H8
                        have B8h : Hid _ := B8
                        clear H8 B8 G8 S8
                        refine hK.out _ _ e8 (fun hHeld => ?_)
                        clear hK K
                        try simp only [Act.put, List.setIfInBounds_toArray, List.set_cons_zero, List.set_cons_succ]
                        refine wpAnyH_ready (rs := [22]) (by kernel_rfl) (by simp) ?_
                        refine AllReadyH.cons rfl (fun K hK => ?_) AllReadyH.nil
                        refine stepB (gx := wp.heap.size + 1) (H := H8h.out) (B := B8h.out) (some 64) rfl (.tmp 57) (.tmp 63) (by rfl) (by kernel_rfl) (by rfl) (by rfl) k8 hn6 ?_
                        intro A9 c9 w9 L9 B9
                        have e9 := EX.out w9 ((Bp.out).trans (Below.mono B9 (Bp.out).size))
                        have L9h : Hid _ := L9
                        have B9h : Hid _ := ((Bp.out).trans (Below.mono B9 (Bp.out).size))
                        clear L9 B9
                        refine hK.out _ _ e9 (fun hHeld => ?_)
                        clear hK K
                        try simp only [Act.put, List.setIfInBounds_toArray, List.set_cons_zero, List.set_cons_succ]
                        refine wpAnyH_ready (rs := [23]) (by kernel_rfl) (by simp) ?_
                        refine AllReadyH.cons rfl (fun K hK => ?_) AllReadyH.nil
                        go_simp
                        go_at_call 35
                        refine (R2.out _ A9 c9 B9h.out L9h.out).mono ?_
                        rintro e wq ⟨rfl, BB⟩
                        have Bq : Hid _ := B9h.out.trans (BB.mono B9h.out.size)
                        have eq := EX.out wq Bq.out
                        clear BB
                        go_wp2_with fail
                        refine hK.out _ _ eq (fun hHeld => ?_)
                        clear hK K
                        try simp only [Act.put, List.setIfInBounds_toArray, List.set_cons_zero, List.set_cons_succ]
                        refine takeV 24 (some 66) (.bool b2) rfl rfl (by kernel_rfl) (by kernel_rfl) (by kernel_rfl) (fun _ _ _ h => h) (Or.inl ⟨by kernel_rfl, fun W hSw => by (try dsimp only at hSw); go_simp⟩) (by assumption) ?_
                        try simp only [Act.put, List.setIfInBounds_toArray, List.set_cons_zero, List.set_cons_succ]
                        refine takeV 25 (some 4) (.bool b2) rfl rfl (by kernel_rfl) (by kernel_rfl) (by kernel_rfl) (fun _ _ _ h => h) (Or.inl ⟨by kernel_rfl, fun W hSw => by (try dsimp only at hSw); go_simp⟩) (by assumption) ?_
                        try simp only [Act.put, List.setIfInBounds_toArray, List.set_cons_zero, List.set_cons_succ]
                        refine wpAnyH_done (by kernel_rfl) ?_ _
                        go_wp2_with fail
                        go_ret
                        exact ⟨rfl, FIN.out _ Bq.out⟩
                    · go_simp
                      refine hK.out _ _ (EX.out _ ((Bp.out).trans (Below.mono ((Below.refl wp.heap.size wp).alloc (Nat.le_refl _) _) (Bp.out).size))) (fun hHeld => ?_)
                      clear hK K
                      try simp only [Act.put, List.setIfInBounds_toArray, List.set_cons_zero, List.set_cons_succ]
                      refine wpAnyH_ready (rs := [13]) (by kernel_rfl) (by simp) ?_
                      refine AllReadyH.cons rfl (fun K hK => ?_) AllReadyH.nil
                      go_simp
                      refine hK.out _ _ (EX.out _ ((Bp.out).trans (Below.mono (rdy3 wp (-x)).b (Bp.out).size))) (fun hHeld => ?_)
                      clear hK K
                      try simp only [Act.put, List.setIfInBounds_toArray, List.set_cons_zero, List.set_cons_succ]
                      refine wpAnyH_ready (rs := [15]) (by kernel_rfl) (by simp) ?_
                      refine AllReadyH.cons rfl (fun K hK => ?_) AllReadyH.nil
                      refine stepA (rdy3 wp (-x)) (some 57) rfl (.tmp 55) (.tmp 56) (by rfl) (by kernel_rfl) (by rfl) (by rfl) C0.out (RD.out _ ((Bp.out).trans (Below.mono (rdy3 wp (-x)).b (Bp.out).size))) hn6 ?_
                      intro A8 c8 w8 H8 B8 G8 S8
                      have e8 := EX.out w8 ((Bp.out).trans (Below.mono B8 (Bp.out).size))
                      have k8 : w8.cell? ⟨wp.heap.size, 0, none⟩ = some (.int .i64 (-x)) := grown_keep G8 (by omega) (rdy3l wp (-x)) (rdy3x wp (-x))
                      have H8h : Hid _ := H8
                      have B8h : Hid _ := B8
                      clear H8 B8 G8 S8
                      refine hK.out _ _ e8 (fun hHeld => ?_)
                      clear hK K
                      try simp only [Act.put, List.setIfInBounds_toArray, List.set_cons_zero, List.set_cons_succ]
                      refine wpAnyH_ready (rs := [22]) (by kernel_rfl) (by simp) ?_
                      refine AllReadyH.cons rfl (fun K hK => ?_) AllReadyH.nil
                      refine stepB (gx := wp.heap.size) (H := H8h.out) (B := B8h.out) (some 64) rfl (.tmp 57) (.tmp 63) (by rfl) (by kernel_rfl) (by rfl) (by rfl) k8 hn6 ?_
                      intro A9 c9 w9 L9 B9
                      have e9 := EX.out w9 ((Bp.out).trans (Below.mono B9 (Bp.out).size))
                      have L9h : Hid _ := L9
                      have B9h : Hid _ := ((Bp.out).trans (Below.mono B9 (Bp.out).size))
                      clear L9 B9
                      refine hK.out _ _ e9 (fun hHeld => ?_)
                      clear hK K
                      try simp only [Act.put, List.setIfInBounds_toArray, List.set_cons_zero, List.set_cons_succ]
                      refine wpAnyH_ready (rs := [23]) (by kernel_rfl) (by simp) ?_
                      refine AllReadyH.cons rfl (fun K hK => ?_) AllReadyH.nil
                      go_simp
                      go_at_call 35
                      refine (R2.out _ A9 c9 B9h.out L9h.out).mono ?_
                      rintro e wq ⟨rfl, BB⟩
                      have Bq : Hid _ := B9h.out.trans (BB.mono B9h.out.size)
                      have eq := EX.out wq Bq.out
                      clear BB
                      go_wp2_with fail
                      refine hK.out _ _ eq (fun hHeld => ?_)
                      clear hK K
                      try simp only [Act.put, List.setIfInBounds_toArray, List.set_cons_zero, List.set_cons_succ]
                      refine takeV 24 (some 66) (.bool b2) rfl rfl (by kernel_rfl) (by kernel_rfl) (by kernel_rfl) (fun _ _ _ h => h) (Or.inl ⟨by kernel_rfl, fun W hSw => by (try dsimp only at hSw); go_simp⟩) (by assumption) ?_
                      try simp only [Act.put, List.setIfInBounds_toArray, List.set_cons_zero, List.set_cons_succ]
                      refine takeV 25 (some 4) (.bool b2) rfl rfl (by kernel_rfl) (by kernel_rfl) (by kernel_rfl) (fun _ _ _ h => h) (Or.inl ⟨by kernel_rfl, fun W hSw => by (try dsimp only at hSw); go_simp⟩) (by assumption) ?_
                      try simp only [Act.put, List.setIfInBounds_toArray, List.set_cons_zero, List.set_cons_succ]
                      refine wpAnyH_done (by kernel_rfl) ?_ _
                      go_wp2_with fail
                      go_ret
                      exact ⟨rfl, FIN.out _ Bq.out⟩
          · have hge : decide (i < (refVars D).length) = false := decide_eq_false (by omega)
            have hge2 : (refVars D).length ≤ i := by omega
            have hT : Hid _ := DONE.out (fun j hj => hall j (by omega))
            clear hall hlt DONE SPL REC
            go_wp2_with fail
            go_ret
            exact ⟨by rw [hT.out]; rfl, BH.out⟩

theorem Sat_any {D : List (List Int)} (hD : D.length ≤ 60000) (hc : ∀ e ∈ D, e.length ≤ 60000) (hl : Lits D) (hall : (absAll D).length ≤ 60000) {w : World} {A : Option Addr} {cc : Nat} (hA : LiesR w.heap.size w A D) :
    Calls Try.prog 14 #[.slice A D.length cc] w fun e w' => e = .returned (.bool (satOf D [])) ∧ Below w.heap.size w w' := by
  have C := sat_any hD hc hl hall (untold D [] + 1) (A := A) (A2 := none) (bs := []) (cc := cc) (c2 := 0) (Nat.lt_succ_self _) hA (.inl rfl) (by simp) (by simp)
  rw [List.length_nil] at C
  generalize satOf D [] = b at *
  clear hD hc hl hall hA
  go_enter Try.func14, Try.ntmps14
  go_wp2_with fail
  refine C.mono ?_
  rintro e w1 ⟨rfl, B⟩
  have BH : Hid _ := B
  clear C B
  go_wp2_with fail
  go_ret
  exact ⟨rfl, BH.out⟩
end Go.Proofs.Ytdllaphnkbnpoaa
