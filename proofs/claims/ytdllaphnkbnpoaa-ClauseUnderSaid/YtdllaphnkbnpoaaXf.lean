/- Walks over the reference: IsLog, Refutes. -/
import Derived.Test.YtdllaphnkbnpoaaXe
namespace Go.Proofs.Ytdllaphnkbnpoaa
open Go.RowKit Go.Proofs

/-- Good literals. -/
def Lits (D : List (List Int)) : Prop := ∀ e ∈ D, ∀ x ∈ e, x ≠ 0 ∧ x.natAbs ≤ 200

/-- What propagation answers, total. -/
def propagateT (D : List (List Int)) (bs : List Int) : Option (List Int) := (propagateM D bs).getD none

theorem propagateT_eq {D : List (List Int)} {bs : List Int} (h0 : Lits D) (ha : ∀ x ∈ bs, x ≠ 0 ∧ x.natAbs ≤ 200) : propagateM D bs = some (propagateT D bs) := by
  obtain ⟨R, h, _⟩ := propagate_end (A := fun _ => true) h0 ha
  unfold propagateT
  rw [h]; rfl

def isLogM : List (List Int) → List (List Int) → Nat
  | _, [] => 0
  | E, e :: es => match propagateT E (negL e) with
    | none => isLogM (E ++ [e]) es + 1
    | some _ => 0

theorem neg_lits {e : List Int} (h : ∀ x ∈ e, x ≠ 0 ∧ x.natAbs ≤ 200) : ∀ x ∈ negL e, x ≠ 0 ∧ x.natAbs ≤ 200 := by
  intro x hx
  obtain ⟨y, hy, rfl⟩ := List.mem_map.1 hx
  have := h y hy
  omega

/-- Cells that are slices which lie below a base. -/
def Cells (base : Nat) (w : World) (cs : List Value) (E : List (List Int)) : Prop :=
  cs.length = E.length ∧ ∀ i, i < E.length → ∃ A c, cs[i]? = some (.slice A (E.getD i []).length c) ∧ (E.getD i []).length ≤ c ∧ Lies base w A (E.getD i [])

theorem Cells.below {base : Nat} {w w' : World} {cs : List Value} {E : List (List Int)} (h : Cells base w cs E) (B : Below base w w') : Cells base w' cs E :=
  ⟨h.1, fun i hi => by obtain ⟨A, c, h1, h2, h3⟩ := h.2 i hi; exact ⟨A, c, h1, h2, h3.below B⟩⟩

theorem Cells.snoc {base : Nat} {w : World} {cs : List Value} {E : List (List Int)} (h : Cells base w cs E) {e : List Int} {A : Option Addr} {c : Nat} (hc : e.length ≤ c) (hl : Lies base w A e) : Cells base w (cs ++ [.slice A e.length c]) (E ++ [e]) := by
  refine ⟨by simp [h.1], fun i hi => ?_⟩
  rcases Nat.lt_or_ge i E.length with q | q
  · obtain ⟨A', c', h1, h2, h3⟩ := h.2 i q
    have e1 : (E ++ [e]).getD i [] = E.getD i [] := by grind
    rw [e1]
    exact ⟨A', c', by rw [List.getElem?_append_left (by rw [h.1]; exact q)]; exact h1, h2, h3⟩
  · have hi2 : i = E.length := by simp at hi; omega
    subst hi2
    have e1 : (E ++ [e]).getD E.length [] = e := by simp
    rw [e1]
    exact ⟨A, c, by rw [← h.1]; simp, hc, hl⟩

theorem Cells.one {base : Nat} {w : World} {cs : List Value} {E : List (List Int)} (h : Cells base w cs E) : ∀ u ∈ cs, u.oneCell' = true := by
  intro u hu
  obtain ⟨i, hi, rfl⟩ := List.getElem_of_mem hu
  obtain ⟨A, c, h1, _⟩ := h.2 i (by rw [← h.1]; exact hi)
  rw [List.getElem?_eq_getElem hi] at h1
  injection h1 with h1
  rw [h1]; rfl

theorem cells_of {base : Nat} {w : World} {A : Option Addr} {D : List (List Int)} (h : LiesR base w A D) : ∃ cs, Cells base w cs D ∧ Reads w A cs := by
  rcases h with rfl | ⟨b, o, rfl, hb, hc⟩
  · exact ⟨[], ⟨rfl, fun i hi => absurd hi (Nat.not_lt_zero _)⟩, fun _ => rfl, fun b _ j u hu => by simp at hu⟩
  · have hat : ∀ i, i < D.length → ((List.range D.length).map fun i => (w.cell? ⟨b, o + i, none⟩).getD (.bool false))[i]? = w.cell? ⟨b, o + i, none⟩ := by
      intro i hi
      obtain ⟨A', c', h1, _⟩ := hc i hi
      simp [hi, h1]
    refine ⟨(List.range D.length).map fun i => (w.cell? ⟨b, o + i, none⟩).getD (.bool false), ⟨by simp, fun i hi => ?_⟩, fun h => (by cases h), fun a ha j u hu => ?_⟩
    · obtain ⟨A', c', h1, h2, h3⟩ := hc i hi
      exact ⟨A', c', by rw [hat i hi]; exact h1, h2, h3⟩
    · injection ha with ha
      subst ha
      have hj : j < D.length := by
        have := (List.getElem?_eq_some_iff.1 hu).1
        simpa using this
      rw [hat j hj] at hu
      rw [addr_add]
      exact hu

theorem cells_liesR {base : Nat} {w : World} {v : Value} {cs : List Value} {E : List (List Int)} (H : Holds base w (locs (.row v 26 cs))) (h : Cells base w cs E) (hb : base ≤ w.heap.size) : LiesR w.heap.size w (ad v) E := by
  rcases Nat.eq_zero_or_pos E.length with h0 | hp
  · exact .inl (List.eq_nil_of_length_eq_zero h0)
  · right
    have hp' : 0 < cs.length := by rw [h.1]; exact hp
    have hk : locs (.row v 26 cs) (.loc 0) = .row v 26 cs := rfl
    refine ⟨gb v, 0, H.ad_ hk hp', (H.lt (.loc 0) (H.gb_ hk hp')).2, fun i hi => ?_⟩
    rw [Nat.zero_add]
    obtain ⟨A, c, h1, h2, h3⟩ := h.2 i hi
    exact ⟨A, c, H.elem hk h1, h2, h3.mono hb⟩

def isLogR (D log : List (List Int)) : Int × Int := if logErrM D log ≠ 0 then (0, logErrM D log) else ((isLogM D log : Nat), 0)

def IlRel (base : Nat) (w : World) (D log : List (List Int)) (T : Nat) (k : Nat) (x7 x8 : Value) (wr : World) : Prop :=
  ∃ (i : Nat) (E : List (List Int)) (v : Value) (cs : List Value), x8 = .int .i64 (i : Int) ∧ x7 = .slice (ad v) E.length (cp v) ∧ k + i = log.length ∧ Holds base wr (locs (.row v 26 cs)) ∧ Cells base wr cs E ∧ Below base w wr ∧ Lits E ∧ (∀ e ∈ E, e.length ≤ 60000) ∧ E.length = D.length + i ∧ isLogM E (log.drop i) + i = T

theorem refM_zero {D : List (List Int)} (hr : refM D = 0) : D.length ≤ 600 ∧ (∀ e ∈ D, e.length ≤ 30) ∧ Lits D := by
  unfold refM at hr
  split at hr
  · omega
  · split at hr
    · omega
    · split at hr
      · omega
      · rename_i q1 q2 q3
        refine ⟨by omega, fun e he => ?_, fun e he => ?_⟩
        · have : (D.all fun c => decide (c.length ≤ 30)) = true := by simpa using q2
          have := List.all_eq_true.1 this e he
          simpa using this
        · have : (D.all fun c => c.all isLit) = true := by simpa using q3
          exact lit_small (List.all_eq_true.1 this e he)

theorem logErr_zero {D log : List (List Int)} (h : logErrM D log = 0) : refM D = 0 ∧ log.length ≤ 4000 ∧ Lits log := by
  unfold logErrM at h
  split at h
  · omega
  · split at h
    · omega
    · split at h
      · omega
      · split at h
        · omega
        · rename_i q1 q2 q3 q4
          refine ⟨by simpa using q3, by omega, fun e he => ?_⟩
          have : (log.all fun c => c.all isLit) = true := by simpa using q4
          exact lit_small (List.all_eq_true.1 this e he)

set_option maxRecDepth 100000 in
set_option maxHeartbeats 1000000 in
theorem isLog_any {base : Nat} {w : World} (hbase : base ≤ w.heap.size) {A A2 : Option Addr} {D log : List (List Int)} {c c2 : Nat} (h : LiesR base w A D) (h2 : LiesR base w A2 log) (hc0 : A = none → c = 0) (hn : D.length ≤ 9223372036854775807) (hm : ∀ e ∈ D, e.length ≤ 9223372036854775807) (hw : ∀ e ∈ D, ∀ x ∈ e, -9223372036854775808 ≤ x ∧ x ≤ 9223372036854775807)
    (hn2 : log.length ≤ 9223372036854775807) (hm2 : ∀ e ∈ log, e.length ≤ 60000) (hw2 : ∀ e ∈ log, ∀ x ∈ e, -9223372036854775808 ≤ x ∧ x ≤ 9223372036854775807) :
    Calls Try.prog 21 #[.slice A D.length c, .slice A2 log.length c2] w fun e w' => e = .returned (.tuple #[.int .i64 (isLogR D log).1, .int .i64 (isLogR D log).2]) ∧ Below base w w' := by
  have C := logError_any (c := c) (c2 := c2) h h2 hn hm hw hn2 (fun e he => by have := hm2 e he; omega) hw2
  unfold isLogR
  by_cases he : logErrM D log = 0
  · rw [if_neg (by simp [he])]
    obtain ⟨r0, l4, ll⟩ := logErr_zero he
    obtain ⟨d6, dr, dl⟩ := refM_zero r0
    rw [he] at C
    obtain ⟨cs, hcs, hrd⟩ := cells_of h
    generalize hTT : isLogM D log = T
    have TH : Hid _ := hTT
    clear hTT
    have HL : Hid _ := (Holds.lit0 (Holds.nothing base w) (.loc 0) hbase 26)
    have RD : Hid (Reads (w.alloc (.cells #[] 26)) A cs) := hrd.keep (fun a v hv => cell_alloc_keep w _ a v hv)
    have hcl : cs.length = D.length := hcs.1
    have ONE : Hid _ := hcs.one
    have BA : Hid _ := (Below.refl base w).alloc hbase (.cells #[] 26)
    have CS : Hid _ := hcs
    have LD : Hid _ := dl
    have DR : Hid (∀ e ∈ D, e.length ≤ 60000) := fun e he => by have := dr e he; omega
    have LL : Hid _ := ll
    have L2 : Hid _ := h2
    have LM : Hid _ := hm2
    have HC0 : Hid _ := hc0
    have hsz : base ≤ (w.alloc (.cells #[] 26)).heap.size := by rw [size_alloc]; omega
    clear h h2 hc0 hm hw hm2 hw2 he r0 ll dr dl hcs hrd
    go_enter Try.func21, Try.ntmps21
    go_wp2_with fail
    refine C.mono ?_
    rintro e w' ⟨rfl, rfl⟩
    clear C
    go_wp2_with (at_builtin; refine law_many HL.out (.loc 0) rfl (.tmp 17) (.tmp 18) 22 26 (.slice none 0 0) 24 rfl Try.underlying22 info26 rfl (by decide) 0 cs rfl rfl rfl A D.length c rfl hcl HC0.out RD.out ONE.out hsz (by omega) ?_)
    intro A3 c3 w6 H6 B6
    have e1 : upd (upd (fun _ => Res.non) (.loc 0) (.row (.slice (some ⟨w'.heap.size, 0, none⟩) 0 0) 26 [])) (.loc 0) (.row (.slice A3 D.length c3) 26 cs) = locs (.row (.slice A3 D.length c3) 26 cs) := by
      funext k; unfold upd locs; split <;> rfl
    rw [e1] at H6
    have B7 := BA.out.trans B6
    have start : Hid (IlRel base w' D log T log.length (.slice A3 D.length c3) (.int .i64 ((0 : Nat) : Int)) w6) := ⟨0, D, .slice A3 D.length c3, cs, rfl, rfl, rfl, H6, Cells.below CS.out B7, B7, LD.out, DR.out, rfl, by simpa using TH.out⟩
    clear e1 B6 H6 B7 CS RD ONE HL BA
    go_wp2_with fail
    go_loopg [7, 8] log.length (fun k x7 x8 wr => IlRel base w' D log T k x7 x8 wr)
    case atStart => exact start.out
    case round =>
      clear start
      obtain ⟨i, E, v, cs, rfl, rfl, hki, H, CC, B, hE, hE6, hEl, hT⟩ := hrel
      by_cases hlt : i < log.length
      · have hL2 := LiesR.below L2.out B
        obtain ⟨b, o, rfl, hbb, hcell⟩ := liesR_at hL2 hlt
        obtain ⟨A', c', ei, hc', hli⟩ := hcell i hlt
        have hd : log.drop i = log.getD i [] :: log.drop (i + 1) := by
          rw [List.drop_eq_getElem_cons hlt]; simp [hlt]
        have hlm := LM.out _ (row_ne log [] hlt)
        have hll := LL.out _ (row_ne log [] hlt)
        rw [hd] at hT
        unfold isLogM at hT
        generalize log.getD i [] = el at *
        have hbz : base ≤ wr.heap.size := Nat.le_trans hbase B.size
        have EI : Hid (∀ W : World, Below wr.heap.size wr W → W.cell? ⟨b, o + i, none⟩ = some (.slice A' el.length c')) := fun W hW => (World.cell?_of_block (a := ⟨b, o + i, none⟩) (hW.block b (Nat.lt_of_lt_of_le hbb hbz))).trans ei
        have OP := opposites_any (base := wr.heap.size) (Nat.le_refl _) (cc := c') (hli.mono hbz) hlm (fun x hx => by have := hll x hx; omega)
        have PR : Hid (∀ (w2 : World) (v' : Value), Below wr.heap.size wr w2 → Holds wr.heap.size w2 (locs (.row v' 3 (ints (negL el)))) → Calls Try.prog 44 #[.slice (ad v) E.length (cp v), .slice (ad v') (negL el).length (cp v')] w2 (PropRes w2.heap.size w2 (propagateT E (negL el)))) := fun w2 v' B2 H2 => by
          have hsz := B2.size
          have hA := ((cells_liesR H CC hbz).below B2).mono hsz
          have hlen : (negL el).length = el.length := by simp [negL]
          exact refProp_any (base := w2.heap.size) (Nat.le_refl _) hA (row_lies H2 (k := .loc 0) rfl) (by omega) hE6 (by omega) hE (neg_lits hll) (propagateT_eq hE (neg_lits hll))
        have NX : Hid (∀ w3 : World, Below wr.heap.size wr w3 → Holds base w3 (locs (.row v 26 cs)) ∧ Cells base w3 (cs ++ [.slice A' el.length c']) (E ++ [el]) ∧ Below base w' w3) := fun w3 B3 =>
          ⟨H.other (fun b _ hb => B3.block b hb), (CC.snoc hc' hli).below (B3.mono hbz), B.trans (B3.mono hbz)⟩
        have hE2 : Hid (Lits (E ++ [el])) := fun e he => by
          rcases List.mem_append.1 he with z | z
          · exact hE e z
          · rw [List.mem_singleton] at z; rw [z]; exact hll
        have hE62 : Hid (∀ e ∈ E ++ [el], e.length ≤ 60000) := fun e he => by
          rcases List.mem_append.1 he with z | z
          · exact hE6 e z
          · rw [List.mem_singleton] at z; rw [z]; exact hlm
        have hcsl : cs.length = E.length := CC.1
        have hE9 : E.length ≤ 60000 := by omega
        have EL : Hid _ := hEl
        have BH : Hid _ := B
        clear H CC B hE hE6 hd hcell hL2 hli hlm hll hEl
        generalize propagateT E (negL el) = R at *
        go_wp2_with fail
        refine OP.mono ?_
        rintro e w2 ⟨v', rfl, B2, H2⟩
        have PC := PR.out w2 v' B2 H2
        have B2H : Hid _ := B2
        clear OP PR B2 H2 ei
        go_wp2_with fail
        refine PC.mono ?_
        clear PC
        rintro e w3 ⟨B3, ⟨hRn, rfl⟩ | ⟨now, vn, hRs, rfl, _⟩⟩
        · have B4 : Below wr.heap.size wr w3 := B2H.out.trans (B3.mono B2H.out.size)
          obtain ⟨n1, n2, n3⟩ := NX.out w3 B4
          have ei := EI.out w3 B4
          have hT2 : Hid (isLogM (E ++ [el]) (log.drop (i + 1)) + (i + 1) = T) := by
            rw [hRn] at hT
            rw [← hT]
            show _ = isLogM (E ++ [el]) (log.drop (i + 1)) + 1 + i
            omega
          have hb3 : base ≤ w3.heap.size := Nat.le_trans hbz B4.size
          have LS : Hid _ := n1.alloc (.cells #[.slice A' el.length c'] 26)
          have BL : Hid _ := n3.alloc hb3 (.cells #[.slice A' el.length c'] 26)
          have CN : Hid (∀ W : World, Below base w3 W → Cells base W (cs ++ [.slice A' el.length c']) (E ++ [el])) := fun W hW => n2.below hW
          have BA2 : Hid _ := (Below.refl base w3).alloc hb3 (.cells #[.slice A' el.length c'] 26)
          clear hRn hT n1 n2 n3 B4 B3 B2H NX EI
          go_wp2_with (at_builtin; refine law_pushAt LS.out (.loc 0) rfl (.tmp 38) (.tmp 43) 22 26 (.slice none 0 0) 24 rfl Try.underlying22 info26 rfl (by decide) E.length (.slice A' el.length c') rfl hcsl rfl w3.heap.size rfl ?hy rfl ?hb ?hl ?_)
          try (case hy => first | exact cell_new _ _ _ _ (by simp) | exact cell_new_drew _ _ _ _ (by simp))
          case hb => simp; omega
          case hl => omega
          intro A4 c4 w6 H6 B6 _
          rw [upd_locs] at H6
          have H6H : Hid _ := H6
          have C6 : Hid (Cells base w6 (cs ++ [.slice A' el.length c']) (E ++ [el])) := CN.out w6 (BA2.out.trans B6)
          have B6H : Hid _ := BL.out.trans B6
          clear H6 B6 CN BA2 BL LS
          go_wp2_with fail
          go_roundg (gk - 1)
          case measure => omega
          case rel => exact ⟨i + 1, E ++ [el], .slice A4 (E.length + 1) c4, cs ++ [.slice A' el.length c'], by go_num, by simp [ad, cp], by omega, H6H.out, C6.out, B6H.out, hE2.out, hE62.out, by have := EL.out; simp; omega, hT2.out⟩
        · have hT2 : T = i := by
            rw [hRs] at hT
            rw [← hT]
            show 0 + i = i
            omega
          subst hT2
          have B5 : Hid _ := (NX.out w3 (B2H.out.trans (B3.mono B2H.out.size))).2.2
          clear hRs hT B3 B2H NX EI hE2 hE62
          go_wp2_with fail
          go_ret2
          exact ⟨rfl, B5.out⟩
      · have hnil : log.drop i = [] := List.drop_eq_nil_of_le (by omega)
        have hge : decide (i < log.length) = false := decide_eq_false (by omega)
        have hge2 : log.length ≤ i := by omega
        rw [hnil] at hT
        have hT2 : T = log.length := by rw [← hT]; unfold isLogM; omega
        subst hT2
        have BH : Hid _ := B
        clear hlt hnil hT H CC B hE hEl
        go_wp2_with fail
        go_ret2
        exact ⟨rfl, BH.out⟩
  · rw [if_pos he]
    have g1 : (logErrM D log != 0) = true := by simp [he]
    clear he
    generalize logErrM D log = r at *
    go_enter Try.func21, Try.ntmps21
    go_wp2_with fail
    refine C.mono ?_
    rintro e w' ⟨rfl, rfl⟩
    go_wp2_with fail
    go_ret2
    exact ⟨rfl, Below.refl _ _⟩

theorem isLogM_le : ∀ (log D : List (List Int)), isLogM D log ≤ log.length
  | [], D => by unfold isLogM; simp
  | e :: es, D => by
    unfold isLogM
    split
    · have := isLogM_le es (D ++ [e]); simp; omega
    · simp

def refutesM (D log : List (List Int)) : Bool := decide (isLogM D log = log.length) && decide (0 < isLogM D log) && decide ((log.getD (isLogM D log - 1) []).length = 0)
def refutesR (D log : List (List Int)) : Bool × Int := if logErrM D log ≠ 0 then (false, logErrM D log) else (refutesM D log, 0)

set_option maxRecDepth 100000 in
set_option maxHeartbeats 2000000 in
theorem refutes_any {base : Nat} {w : World} (hbase : base ≤ w.heap.size) {A A2 : Option Addr} {D log : List (List Int)} {c c2 : Nat} (h : LiesR base w A D) (h2 : LiesR base w A2 log) (hc0 : A = none → c = 0) (hn : D.length ≤ 9223372036854775807) (hm : ∀ e ∈ D, e.length ≤ 9223372036854775807) (hw : ∀ e ∈ D, ∀ x ∈ e, -9223372036854775808 ≤ x ∧ x ≤ 9223372036854775807)
    (hn2 : log.length ≤ 9223372036854775807) (hm2 : ∀ e ∈ log, e.length ≤ 60000) (hw2 : ∀ e ∈ log, ∀ x ∈ e, -9223372036854775808 ≤ x ∧ x ≤ 9223372036854775807) :
    Calls Try.prog 16 #[.slice A D.length c, .slice A2 log.length c2] w fun e w' => e = .returned (.tuple #[.bool (refutesR D log).1, .int .i64 (refutesR D log).2]) ∧ Below base w w' := by
  have C := isLog_any (c := c) (c2 := c2) hbase h h2 hc0 hn hm hw hn2 hm2 hw2
  have hle := isLogM_le log D
  unfold isLogR at C
  unfold refutesR refutesM
  have L2 : Hid _ := h2
  clear h h2 hc0 hm hw hm2 hw2
  by_cases he : logErrM D log = 0
  · rw [if_neg (by simp [he])] at C
    rw [if_neg (by simp [he])]
    clear he
    generalize isLogM D log = n at *
    simp only at C
    by_cases h1 : n = log.length
    · rw [decide_eq_true h1, Bool.true_and]
      by_cases hp : 0 < n
      · rw [decide_eq_true hp, Bool.true_and]
        obtain ⟨m, rfl⟩ : ∃ m, n = m + 1 := ⟨n - 1, by omega⟩
        rw [Nat.add_sub_cancel]
        have hlt : m < log.length := by omega
        have g2 : (0 : Int) < ((m + 1 : Nat) : Int) := by omega
        have g3 : (((m + 1 : Nat) : Int) == (log.length : Int)) = true := by simp; omega
        have g4 : ((m + 1 : Nat) : Int) - 1 = (m : Int) := by omega
        generalize hk : (log.getD m []).length = k at *
        have HK : Hid _ := hk
        have HN : Hid _ := h1
        clear hk h1 hp
        generalize hz : ((m + 1 : Nat) : Int) = z at *
        by_cases hk0 : k = 0
        · subst hk0
          go_enter Try.func16, Try.ntmps16
          go_wp2_with fail
          refine C.mono ?_
          rintro e w' ⟨rfl, B⟩
          obtain ⟨b, o, rfl, hbb, hcell⟩ := liesR_at (LiesR.below L2.out B) hlt
          obtain ⟨A', c', ei, hc', hli⟩ := hcell m hlt
          rw [HK.out] at ei
          have BH : Hid _ := B
          clear B hcell hli hc' C
          go_wp2_with fail
          go_ret2
          exact ⟨rfl, BH.out⟩
        · have g5 : ((k : Int) == 0) = false := by simp; omega
          rw [decide_eq_false hk0]
          go_enter Try.func16, Try.ntmps16
          go_wp2_with fail
          refine C.mono ?_
          rintro e w' ⟨rfl, B⟩
          obtain ⟨b, o, rfl, hbb, hcell⟩ := liesR_at (LiesR.below L2.out B) hlt
          obtain ⟨A', c', ei, hc', hli⟩ := hcell m hlt
          rw [HK.out] at ei
          have BH : Hid _ := B
          clear B hcell hli hc' C
          go_wp2_with fail
          go_ret2
          exact ⟨rfl, BH.out⟩
      · rw [decide_eq_false hp, Bool.false_and]
        obtain rfl : n = 0 := by omega
        have g3 : ((0 : Int) == (log.length : Int)) = true := by simp; omega
        clear h1 hp
        go_enter Try.func16, Try.ntmps16
        go_wp2_with fail
        refine C.mono ?_
        rintro e w' ⟨rfl, B⟩
        have BH : Hid _ := B
        clear B C
        go_wp2_with fail
        go_ret2
        exact ⟨rfl, BH.out⟩
    · rw [decide_eq_false h1, Bool.false_and, Bool.false_and]
      have g3 : ((n : Int) == (log.length : Int)) = false := by simp; omega
      clear h1
      go_enter Try.func16, Try.ntmps16
      go_wp2_with fail
      refine C.mono ?_
      rintro e w' ⟨rfl, B⟩
      have BH : Hid _ := B
      clear B C
      go_wp2_with fail
      go_ret2
      exact ⟨rfl, BH.out⟩
  · rw [if_pos he] at C
    rw [if_pos he]
    have g1 : (logErrM D log != 0) = true := by simp [he]
    clear he
    generalize logErrM D log = r at *
    go_enter Try.func16, Try.ntmps16
    go_wp2_with fail
    refine C.mono ?_
    rintro e w' ⟨rfl, B⟩
    have BH : Hid _ := B
    clear B C
    go_wp2_with fail
    go_ret2
    exact ⟨rfl, BH.out⟩
end Go.Proofs.Ytdllaphnkbnpoaa
