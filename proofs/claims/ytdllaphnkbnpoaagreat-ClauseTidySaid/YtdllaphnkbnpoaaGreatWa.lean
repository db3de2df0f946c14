/- Walks over package search: variable, of, set, Value. -/
import Derived.Test.YtdllaphnkbnpoaaGreatProg
import Derived.Test.YtdllaphnkbnpoaaGreatSol
import Derived.BigRegion
import Derived.BigQuiet
namespace Go.Proofs.YtdllaphnkbnpoaaGreat
open Go.RowKit Go.Proofs

theorem ret_int {k : IntKind} {a b : Int} (h : a = b) : Ending.returned (.int k a) = .returned (.int k b) := by rw [h]

theorem variable_any (l : Int) (w : World) (h0 : -60000 ≤ l) (h1 : l ≤ 60000) :
    Calls Tryz.prog 84 #[.int .i64 l] w fun e w' => e = .returned (.int .i64 (l.natAbs : Int)) ∧ w = w' := by
  by_cases h : 0 ≤ l
  · have hm : -l ≤ l := by omega
    have e : l = (l.natAbs : Int) := by omega
    have H : Hid (l = (l.natAbs : Int)) := e
    clear e
    go_enter Tryz.func84, Tryz.ntmps84
    go_wp2_with fail
    go_ret
    exact ⟨ret_int (by omega), rfl⟩
  · go_enter Tryz.func84, Tryz.ntmps84
    go_wp2_with fail
    go_ret
    exact ⟨ret_int (by omega), rfl⟩

theorem variable_is {l : Int} {v : Nat} (hv : v = l.natAbs) (w : World) (h0 : -60000 ≤ l) (h1 : l ≤ 60000) :
    Calls Tryz.prog 84 #[.int .i64 l] w fun e w' => e = .returned (.int .i64 (v : Int)) ∧ w = w' := by subst hv; exact variable_any l w h0 h1

theorem ofO_eq {σ : S} {l x : Int} (h : σ.ofO l = some x) : l ≠ 0 ∧ l.natAbs < σ.value.length ∧ σ.value.length ≤ 60000 ∧ -1 ≤ at0 σ.value l.natAbs ∧ at0 σ.value l.natAbs ≤ 1 ∧ x = σ.of l := by
  unfold S.ofO at h
  split at h
  · rename_i hc
    injection h with h
    exact ⟨hc.1.1, hc.1.2.1, hc.1.2.2, hc.2.1, hc.2.2, h.symm⟩
  · cases h

set_option maxHeartbeats 400000 in
theorem of_any {base p fuel : Nat} {σ : S} {μ : Vals} {loc : Nat → Res} {w : World} (H : Holds base w (full p fuel σ μ loc)) {l x : Int} (hx : σ.ofO l = some x) :
    Calls Tryz.prog 85 #[.pointer (some ⟨p, 0, none⟩), .int .i64 l] w fun e w' => e = .returned (.int .i8 x) ∧ w = w' := by
  obtain ⟨h0, h1, h2, h3, h4, rfl⟩ := ofO_eq hx
  clear hx
  have c6 := full_c6 H (by omega)
  have cl := full_v6 H h1
  clear H
  by_cases hn : l < 0
  · have e : S.of σ l = -(at0 σ.value l.natAbs) := by simp [S.of, hn]
    rw [e]
    obtain ⟨n, hnn⟩ : ∃ n : Nat, n = l.natAbs := ⟨_, rfl⟩
    rw [← hnn] at h1 h3 h4 cl ⊢
    obtain rfl : l = -(n : Int) := by omega
    clear hnn e
    generalize at0 σ.value n = x at h3 h4 cl ⊢
    go_enter Tryz.func85, Tryz.ntmps85
    go_wp2_with fail
    go_ret
    exact ⟨rfl, rfl⟩
  · have e : S.of σ l = at0 σ.value l.natAbs := by simp [S.of, hn]
    rw [e]
    obtain ⟨n, hnn⟩ : ∃ n : Nat, n = l.natAbs := ⟨_, rfl⟩
    rw [← hnn] at h1 h3 h4 cl ⊢
    obtain rfl : l = (n : Int) := by omega
    clear hnn e
    generalize at0 σ.value n = x at h3 h4 cl ⊢
    go_enter Tryz.func85, Tryz.ntmps85
    go_wp2_with fail
    go_ret
    exact ⟨rfl, rfl⟩

theorem setO_eq {σ σ' : S} {l r : Int} (h : σ.setO l r = some σ') : l ≠ 0 ∧ l.natAbs < σ.value.length ∧ σ.value.length ≤ 60000 ∧ σ.even ∧ σ.trail.length < 60000 ∧ σ.steps < 60000 ∧ σ.marks.length ≤ 60000 ∧ σ' = σ.set l r := by
  unfold S.setO at h
  split at h
  · rename_i hc
    injection h with h
    exact ⟨hc.1.1, hc.1.2.1, hc.1.2.2, hc.2.1, hc.2.2.1, hc.2.2.2.1, hc.2.2.2.2, h.symm⟩
  · cases h

theorem info3 : (Tryz.prog.info? 3).map (fun i => (i.zero, i.size, i.bytes)) = some (some (.int .i64 0), 1, 8) := by kernel_rfl

/-- What the stores of 'set' leave, the last two aside. -/
def set1 (σ : S) (n : Nat) (x r : Int) : S := { σ with value := σ.value.set n x, level := σ.level.set n σ.marks.length, reason := σ.reason.set n r }
theorem set_eq_pos (σ : S) (n : Nat) (r : Int) : σ.set (n : Int) r = { { set1 σ n 1 r with trail := σ.trail ++ [(n : Int)] } with steps := σ.steps + 1 } := by
  have h : ¬ ((n : Int) < 0) := by omega
  simp [S.set, sgn, set1, h]
theorem set_eq_neg (σ : S) (n : Nat) (r : Int) (h0 : 0 < n) : σ.set (-(n : Int)) r = { { set1 σ n (-1) r with trail := σ.trail ++ [-(n : Int)] } with steps := σ.steps + 1 } := by
  simp [S.set, sgn, set1, h0]
theorem set_stores {base p fuel : Nat} {σ : S} {μ : Vals} {loc : Nat → Res} {w : World} (H : Holds base w (full p fuel σ μ loc)) {n : Nat} {x r : Int} (h1 : n < σ.value.length) (he : σ.even) :
    Holds base (((w.setCell ⟨gb μ.val, n, none⟩ (.int .i8 x)).setCell ⟨gb μ.lev, n, none⟩ (.int .i64 (σ.marks.length : Nat))).setCell ⟨gb μ.rea, n, none⟩ (.int .i64 r)) (full p fuel (set1 σ n x r) μ loc) := by
  obtain ⟨e1, e2, e3, e4⟩ := he
  have H1 := H.store (k := .fld 6) rfl (i := n) (by rw [i8s_length]; exact h1) (.int .i8 x) (full_base H)
  rw [i8s_set, abs_6] at H1
  have H2 := H1.store (k := .fld 7) rfl (i := n) (by rw [nats_length]; show _ < σ.level.length; omega) (.int .i64 (σ.marks.length : Nat)) (full_base H1)
  rw [nats_set, abs_7] at H2
  have H3 := H2.store (k := .fld 8) rfl (i := n) (by rw [ints_length]; show _ < σ.reason.length; omega) (.int .i64 r) (full_base H2)
  rw [ints_set, abs_8] at H3
  exact H3
theorem below_stores {base : Nat} {w : World} {a b c : Addr} {x y z : Value} (ha : base ≤ a.block) (hb : base ≤ b.block) (hc : base ≤ c.block) : Below base w (((w.setCell a x).setCell b y).setCell c z) :=
  (((Below.refl base w).setCell ha x).setCell hb y).setCell hc z

theorem set_stores2 {base p fuel : Nat} {σ : S} {μ : Vals} {loc : Nat → Res} {w : World} (H : Holds base w (full p fuel σ μ loc)) {n : Nat} {r : Int} (h1 : n < σ.value.length) (he : σ.even) :
    Holds base ((((w.setCell ⟨gb μ.val, n, none⟩ (.int .i8 1)).setCell ⟨gb μ.val, n, none⟩ (.int .i8 (-1))).setCell ⟨gb μ.lev, n, none⟩ (.int .i64 (σ.marks.length : Nat))).setCell ⟨gb μ.rea, n, none⟩ (.int .i64 r)) (full p fuel (set1 σ n (-1) r) μ loc) := by
  have H1 := H.store (k := .fld 6) rfl (i := n) (by rw [i8s_length]; exact h1) (.int .i8 1) (full_base H)
  rw [i8s_set, abs_6] at H1
  have H2 := set_stores H1 (n := n) (x := -1) (r := r) (by simpa using h1) (by obtain ⟨e1, e2, e3, e4⟩ := he; exact ⟨by simpa using e1, by simpa using e2, by simpa using e3, by simpa using e4⟩)
  simpa [set1] using H2
theorem below_stores2 {base : Nat} {w : World} {a b c d : Addr} {x y z u : Value} (ha : base ≤ a.block) (hb : base ≤ b.block) (hc : base ≤ c.block) (hd : base ≤ d.block) : Below base w ((((w.setCell a x).setCell b y).setCell c z).setCell d u) :=
  ((((Below.refl base w).setCell ha x).setCell hb y).setCell hc z).setCell hd u

set_option maxHeartbeats 1000000 in
theorem set_pos {base p fuel : Nat} {σ : S} {μ : Vals} {loc : Nat → Res} {w : World} (H : Holds base w (full p fuel σ μ loc)) (G : Good σ μ) {n : Nat} {r : Int}
    (h0 : 0 < n) (h1 : n < σ.value.length) (h2 : σ.value.length ≤ 60000) (he : σ.even) (h3 : σ.trail.length < 60000) (h4 : σ.steps < 60000) (h5 : σ.marks.length ≤ 60000) :
    Calls Tryz.prog 86 #[.pointer (some ⟨p, 0, none⟩), .int .i64 (n : Int), .int .i64 r] w fun e w' => e = .returned (.tuple #[]) ∧ PostK base w p fuel σ (σ.set n r) μ loc w' := by
  have HW := set_stores H (x := 1) (r := r) h1 he
  obtain ⟨e1, e2, e3, e4⟩ := he
  have c6 := full_c6 H (by omega)
  have c7 := full_c7 H (by omega)
  have c8 := full_c8 H (by omega)
  have c11 := full_c11 H
  have c12 := full_c12 H
  have f11 := full_free H 11
  have bv := full_b6 H (by omega)
  have bl := full_b7 H (by omega)
  have br := full_b8 H (by omega)
  have nv := H.ne (k := .fld 6) (k' := .st) (by simp) bv rfl
  have nl := H.ne (k := .fld 7) (k' := .st) (by simp) bl rfl
  have nr := H.ne (k := .fld 8) (k' := .st) (by simp) br rfl
  have nvl := H.ne (k := .fld 6) (k' := .fld 7) (by simp) bv bl
  have nvr := H.ne (k := .fld 6) (k' := .fld 8) (by simp) bv br
  have nlr := H.ne (k := .fld 7) (k' := .fld 8) (by simp) bl br
  have vv := full_v6 H h1
  have vl := full_v7 H (n := n) (by omega)
  have vr := full_v8 H (n := n) (by omega)
  have fv := full_f6 H (by omega) n
  have fl := full_f7 H (by omega) n
  have fr := full_f8 H (by omega) n
  have BB : Hid (Below base w (((w.setCell ⟨gb μ.val, n, none⟩ (.int .i8 1)).setCell ⟨gb μ.lev, n, none⟩ (.int .i64 (σ.marks.length : Nat))).setCell ⟨gb μ.rea, n, none⟩ (.int .i64 r))) := below_stores (H.lt _ bv).1 (H.lt _ bl).1 (H.lt _ br).1
  have HWH : Hid _ := HW
  have GG : Hid (Good σ μ) := G
  have i2 : n < σ.level.length := by omega
  have i3 : n < σ.reason.length := by omega
  have j2 : σ.level.length ≤ 60000 := by omega
  have j3 : σ.reason.length ≤ 60000 := by omega
  clear bv bl br HW G e1 e2 e3 e4
  clear H
  go_enter Tryz.func86, Tryz.ntmps86
  go_wp2_with (go_at_call 84; refine (variable_any _ _ (by omega) (by omega)).mono ?_; rintro e w' ⟨rfl, rfl⟩)
  go_region
  have HL := ((HWH.out).alloc (.cells #[.int .i64 (n : Int)] 3)).drew
  have HLH : Hid _ := HL
  clear HL
  go_wp2_with (at_builtin; refine law_pushAt HLH.out (.fld 11) rfl (.tmp 45) (.tmp 47) 23 3 (.int .i64 0) 8 rfl Tryz.underlying23 info3 rfl (by decide) σ.trail.length (.int .i64 (n : Int)) rfl (ints_length _) rfl w.heap.size rfl ?hy rfl ?hb ?hl ?_)
  case hy => exact cell_new_drew _ _ _ _ (by simp)
  case hb => exact full_base HLH.out
  case hl => omega
  intro A c w1 H1 B1 _
  have k0 : w1.cell? ⟨p, 0, none⟩ = some (.int .i64 (σ.steps : Nat)) := H1.cell (k := .st) (b := p) rfl 0 rfl
  have k11 := H1.cell (k := .st) (b := p) rfl 11 rfl
  have m0 := H1.cellFree (k := .st) (b := p) rfl 0
  have m11 := H1.cellFree (k := .st) (b := p) rfl 11
  have H1H : Hid _ := H1
  clear H1
  go_wp2
  go_end0
  refine ⟨rfl, { μ with tra := .slice A (σ.trail.length + 1) c }, ?_, ⟨GG.out.vcs, GG.out.vlogs, GG.out.wk, GG.out.not, GG.out.failed⟩, ?_, rfl, fun _ _ => rfl⟩
  · have H1 := H1H.out
    have hb := full_base HWH.out
    have hb1 : base ≤ w1.heap.size := Nat.le_trans (H1.lt .st rfl).1 (Nat.le_of_lt (H1.lt .st rfl).2)
    have H2 := H1.setCell (k := .st) (b := p) rfl 11 (.slice A (σ.trail.length + 1) c) hb1
    rw [ints_snoc, abs_11] at H2
    have H3 := H2.setCell (k := .st) (b := p) rfl 0 (.int .i64 ((σ.steps + 1 : Nat) : Int)) (full_base H2)
    rw [abs_steps] at H3
    rw [set_eq_pos]
    exact H3
  · have hp : base ≤ p := (full_lt HWH.out).1
    exact ((((BB.out.alloc (full_base HWH.out) _).drew).trans B1).setCell hp _).setCell hp _

set_option maxHeartbeats 1000000 in
theorem set_neg {base p fuel : Nat} {σ : S} {μ : Vals} {loc : Nat → Res} {w : World} (H : Holds base w (full p fuel σ μ loc)) (G : Good σ μ) {n : Nat} {r : Int}
    (h0 : 0 < n) (h1 : n < σ.value.length) (h2 : σ.value.length ≤ 60000) (he : σ.even) (h3 : σ.trail.length < 60000) (h4 : σ.steps < 60000) (h5 : σ.marks.length ≤ 60000) :
    Calls Tryz.prog 86 #[.pointer (some ⟨p, 0, none⟩), (.int .i64 (-(n : Int))), .int .i64 r] w fun e w' => e = .returned (.tuple #[]) ∧ PostK base w p fuel σ (σ.set (-(n : Int)) r) μ loc w' := by
  have HW := set_stores2 H (r := r) h1 he
  obtain ⟨e1, e2, e3, e4⟩ := he
  have c6 := full_c6 H (by omega)
  have c7 := full_c7 H (by omega)
  have c8 := full_c8 H (by omega)
  have c11 := full_c11 H
  have c12 := full_c12 H
  have f11 := full_free H 11
  have bv := full_b6 H (by omega)
  have bl := full_b7 H (by omega)
  have br := full_b8 H (by omega)
  have nv := H.ne (k := .fld 6) (k' := .st) (by simp) bv rfl
  have nl := H.ne (k := .fld 7) (k' := .st) (by simp) bl rfl
  have nr := H.ne (k := .fld 8) (k' := .st) (by simp) br rfl
  have nvl := H.ne (k := .fld 6) (k' := .fld 7) (by simp) bv bl
  have nvr := H.ne (k := .fld 6) (k' := .fld 8) (by simp) bv br
  have nlr := H.ne (k := .fld 7) (k' := .fld 8) (by simp) bl br
  have vv := full_v6 H h1
  have vl := full_v7 H (n := n) (by omega)
  have vr := full_v8 H (n := n) (by omega)
  have fv := full_f6 H (by omega) n
  have fl := full_f7 H (by omega) n
  have fr := full_f8 H (by omega) n
  have BB : Hid (Below base w ((((w.setCell ⟨gb μ.val, n, none⟩ (.int .i8 1)).setCell ⟨gb μ.val, n, none⟩ (.int .i8 (-1))).setCell ⟨gb μ.lev, n, none⟩ (.int .i64 (σ.marks.length : Nat))).setCell ⟨gb μ.rea, n, none⟩ (.int .i64 r))) := below_stores2 (H.lt _ bv).1 (H.lt _ bv).1 (H.lt _ bl).1 (H.lt _ br).1
  have HWH : Hid _ := HW
  have GG : Hid (Good σ μ) := G
  have i2 : n < σ.level.length := by omega
  have i3 : n < σ.reason.length := by omega
  have j2 : σ.level.length ≤ 60000 := by omega
  have j3 : σ.reason.length ≤ 60000 := by omega
  clear bv bl br HW G e1 e2 e3 e4
  clear H
  go_enter Tryz.func86, Tryz.ntmps86
  go_wp2_with (go_at_call 84; refine (variable_any _ _ (by omega) (by omega)).mono ?_; rintro e w' ⟨rfl, rfl⟩)
  go_region
  have HL := ((HWH.out).alloc (.cells #[.int .i64 (-(n : Int))] 3)).drew
  have HLH : Hid _ := HL
  clear HL
  go_wp2_with (at_builtin; refine law_pushAt HLH.out (.fld 11) rfl (.tmp 45) (.tmp 47) 23 3 (.int .i64 0) 8 rfl Tryz.underlying23 info3 rfl (by decide) σ.trail.length (.int .i64 (-(n : Int))) rfl (ints_length _) rfl w.heap.size rfl ?hy rfl ?hb ?hl ?_)
  case hy => exact cell_new_drew _ _ _ _ (by simp)
  case hb => exact full_base HLH.out
  case hl => omega
  intro A c w1 H1 B1 _
  have k0 : w1.cell? ⟨p, 0, none⟩ = some (.int .i64 (σ.steps : Nat)) := H1.cell (k := .st) (b := p) rfl 0 rfl
  have k11 := H1.cell (k := .st) (b := p) rfl 11 rfl
  have m0 := H1.cellFree (k := .st) (b := p) rfl 0
  have m11 := H1.cellFree (k := .st) (b := p) rfl 11
  have H1H : Hid _ := H1
  clear H1
  go_wp2
  go_end0
  refine ⟨rfl, { μ with tra := .slice A (σ.trail.length + 1) c }, ?_, ⟨GG.out.vcs, GG.out.vlogs, GG.out.wk, GG.out.not, GG.out.failed⟩, ?_, rfl, fun _ _ => rfl⟩
  · have H1 := H1H.out
    have hb := full_base HWH.out
    have hb1 : base ≤ w1.heap.size := Nat.le_trans (H1.lt .st rfl).1 (Nat.le_of_lt (H1.lt .st rfl).2)
    have H2 := H1.setCell (k := .st) (b := p) rfl 11 (.slice A (σ.trail.length + 1) c) hb1
    rw [ints_snoc, abs_11] at H2
    have H3 := H2.setCell (k := .st) (b := p) rfl 0 (.int .i64 ((σ.steps + 1 : Nat) : Int)) (full_base H2)
    rw [abs_steps] at H3
    rw [set_eq_neg _ _ _ h0]
    exact H3
  · have hp : base ≤ p := (full_lt HWH.out).1
    exact ((((BB.out.alloc (full_base HWH.out) _).drew).trans B1).setCell hp _).setCell hp _

theorem set_any {base p fuel : Nat} {σ σ' : S} {μ : Vals} {loc : Nat → Res} {w : World} (H : Holds base w (full p fuel σ μ loc)) (G : Good σ μ) {l r : Int} (h : σ.setO l r = some σ') :
    Calls Tryz.prog 86 #[.pointer (some ⟨p, 0, none⟩), .int .i64 l, .int .i64 r] w fun e w' => e = .returned (.tuple #[]) ∧ PostK base w p fuel σ σ' μ loc w' := by
  obtain ⟨h0, h1, h2, he, h3, h4, h5, rfl⟩ := setO_eq h
  by_cases hn : 0 < l
  · obtain ⟨n, rfl⟩ := Int.eq_ofNat_of_zero_le (Int.le_of_lt hn)
    exact set_pos H G (by omega) (by simpa using h1) h2 he h3 h4 h5
  · obtain ⟨n, hl⟩ := Int.eq_ofNat_of_zero_le (show 0 ≤ -l by omega)
    obtain rfl : l = -(n : Int) := by omega
    exact set_neg H G (by omega) (by simpa using h1) h2 he h3 h4 h5
end Go.Proofs.YtdllaphnkbnpoaaGreat
