/- Walks over package search: learn. -/
import Derived.Test.YtdllaphnkbnpoaaGreatWh
import Derived.Test.YtdllaphnkbnpoaaGreatMem2
namespace Go.Proofs.YtdllaphnkbnpoaaGreat
open Go.RowKit Go.Proofs

theorem info4 : (Tryz.prog.info? 4).map (fun i => (i.zero, i.size, i.bytes)) = some (some (.bool false), 1, 1) := by kernel_rfl

def loc3 (a b c : Res) : Nat → Res := fun i => if i = 0 then a else if i = 2 then b else if i = 3 then c else .non
theorem loc3_0 (a b c r : Res) : setLoc (loc3 a b c) 0 r = loc3 r b c := by funext i; simp only [setLoc, loc3]; split <;> simp_all
theorem loc3_2 (a b c r : Res) : setLoc (loc3 a b c) 2 r = loc3 a r c := by
  funext i; simp only [setLoc, loc3]
  by_cases h : i = 2
  · subst h; simp
  · simp [h]
theorem loc3_3 (a b c r : Res) : setLoc (loc3 a b c) 3 r = loc3 a b r := by
  funext i; simp only [setLoc, loc3]
  by_cases h : i = 3
  · subst h; simp
  · simp [h]
theorem loc3_non : loc3 .non .non .non = fun _ => .non := by funext i; simp [loc3]

theorem scanO_cons {now : Nat} {skip l : Int} {ls : List Int} {σ : S} {q : Scan} {R : S × Scan} (h : S.scanO now skip (l :: ls) σ q = some R) :
    σ.lit l ∧ σ.even ∧ q.seen.length = σ.value.length ∧ 0 ≤ q.opn ∧ q.opn ≤ 60000 ∧ q.rest.length < 60000 ∧ σ.weight.getD l.natAbs 0 < 60000 ∧
    (((l = skip ∨ q.seen.getD l.natAbs false = true ∨ σ.level.getD l.natAbs 0 = 0) ∧ S.scanO now skip ls σ q = some R) ∨
     (l ≠ skip ∧ q.seen.getD l.natAbs false = false ∧ σ.level.getD l.natAbs 0 ≠ 0 ∧ σ.level.getD l.natAbs 0 = now ∧ S.scanO now skip ls { σ with weight := σ.weight.set l.natAbs (σ.weight.getD l.natAbs 0 + 1) } { q with seen := q.seen.set l.natAbs true, opn := q.opn + 1 } = some R) ∨
     (l ≠ skip ∧ q.seen.getD l.natAbs false = false ∧ σ.level.getD l.natAbs 0 ≠ 0 ∧ σ.level.getD l.natAbs 0 ≠ now ∧ S.scanO now skip ls { σ with weight := σ.weight.set l.natAbs (σ.weight.getD l.natAbs 0 + 1) } { q with seen := q.seen.set l.natAbs true, rest := q.rest ++ [l] } = some R)) := by
  rw [S.scanO] at h
  split at h
  · rename_i hc
    refine ⟨hc.1, hc.2.1, hc.2.2.1, hc.2.2.2.1, hc.2.2.2.2.1, hc.2.2.2.2.2.1, hc.2.2.2.2.2.2, ?_⟩
    split at h
    · rename_i h0; exact .inl ⟨h0, h⟩
    · rename_i h0
      have h1 : l ≠ skip := fun e => h0 (.inl e)
      have h2 : q.seen.getD l.natAbs false = false := by
        cases hs : q.seen.getD l.natAbs false with
        | false => rfl
        | true => exact absurd (.inr (.inl hs)) h0
      have h3 : σ.level.getD l.natAbs 0 ≠ 0 := fun e => h0 (.inr (.inr e))
      split at h
      · rename_i h4; exact .inr (.inl ⟨h1, h2, h3, h4, h⟩)
      · rename_i h4; exact .inr (.inr ⟨h1, h2, h3, h4, h⟩)
  · cases h

theorem learnO_succ {now m n k : Nat} {σ : S} {q : Scan} {skip : Int} {R : S × List Int × Nat} (h : S.learnO now (m + 1) σ q n k skip = some R) :
    k < σ.clauses.length ∧ (σ.clause k).length ≤ 60000 ∧ ∃ τ r i, S.scanO now skip (σ.clause k) σ q = some (τ, r) ∧ τ.findO r.seen n = some i ∧ τ.steps < 60000 ∧ 0 ≤ r.opn ∧ r.opn ≤ 60000 ∧ r.rest.length < 60000 ∧
      ((r.opn = 1 ∧ ∃ c lev, ({ τ with steps := τ.steps + 1 } : S).placedO r.rest.length 1 0 (-(at0 τ.trail i) :: r.rest) = some (c, lev) ∧ R = ({ τ with steps := τ.steps + 1 }, c, lev)) ∨
       (r.opn ≠ 1 ∧ 0 ≤ at0 τ.reason (at0 τ.trail i).natAbs ∧ S.learnO now m { τ with steps := τ.steps + 1 } { r with opn := r.opn - 1 } i (at0 τ.reason (at0 τ.trail i).natAbs).toNat (at0 τ.trail i) = some R)) := by
  rw [S.learnO] at h
  split at h
  · rename_i hc
    obtain ⟨⟨τ, r⟩, hs, h⟩ := Option.bind_eq_some_iff.1 h
    obtain ⟨i, hi, h⟩ := Option.bind_eq_some_iff.1 h
    simp only [] at h
    split at h
    · rename_i hc2
      refine ⟨hc.1, hc.2, τ, r, i, hs, hi, hc2.1, hc2.2.1, hc2.2.2.1, hc2.2.2.2, ?_⟩
      split at h
      · rename_i h1
        obtain ⟨⟨c, lev⟩, hp, he⟩ := Option.map_eq_some_iff.1 h
        exact .inl ⟨h1, c, lev, hp, he.symm⟩
      · rename_i h1
        split at h
        · rename_i h2; exact .inr ⟨h1, h2, h⟩
        · cases h
    · cases h
  · cases h

theorem findO_succ {σ : S} {seen : List Bool} {n i : Nat} (h : σ.findO seen (n + 1) = some i) :
    σ.lit (at0 σ.trail n) ∧ n < σ.trail.length ∧ σ.trail.length ≤ 60000 ∧ seen.length = σ.value.length ∧ ((seen.getD (at0 σ.trail n).natAbs false = true ∧ n = i) ∨ (seen.getD (at0 σ.trail n).natAbs false = false ∧ σ.findO seen n = some i)) := by
  rw [S.findO] at h
  split at h
  · rename_i hc
    refine ⟨hc.1, hc.2.1, hc.2.2.1, hc.2.2.2, ?_⟩
    split at h
    · rename_i h1; injection h with h; exact .inl ⟨h1, h⟩
    · rename_i h1; exact .inr ⟨by simpa using h1, h⟩
  · cases h

section
variable {base p fuel : Nat} {w : World} {σ : S} {μ : Vals}

/-- A variable is seen, and its weight raised. -/
theorem see_one {loc : Nat → Res} (H : Holds base w (full p fuel σ μ loc)) {v : Nat} {vs : Value} {seen : List Bool} (hl : loc 2 = .row vs 4 (bools seen)) (hv : v < seen.length) (hw : v < σ.weight.length) (x : Nat) :
    Holds base ((w.setCell ⟨gb vs, v, none⟩ (.bool true)).setCell ⟨gb μ.wei, v, none⟩ (.int .i64 (x : Int))) (full p fuel { σ with weight := σ.weight.set v x } μ (setLoc loc 2 (.row vs 4 (bools (seen.set v true))))) := by
  have H1 := H.store (k := .loc 2) hl (i := v) (by rw [bools_length]; exact hv) (.bool true) (full_base H)
  rw [bools_set, upd_loc] at H1
  have H2 := H1.store (k := .fld 9) rfl (i := v) (by rw [nats_length]; exact hw) (.int .i64 (x : Int)) (full_base H1)
  rw [nats_set, abs_9] at H2
  exact H2
end

def LearnRel (base p fuel now N : Nat) (μ : Vals) (R : S × List Int × Nat) (w : World) (vsn : Value) (k : Nat) (x8 x9 x10 x11 x12 : Value) (wr : World) : Prop :=
  ∃ (τ : S) (q : Scan) (n kc : Nat) (skip a : Int) (vr vk : Value), x8 = .int .i64 q.opn ∧ x9 = .slice (ad vr) q.rest.length (cp vr) ∧ x10 = .int .i64 a ∧ a = (n : Int) - 1 ∧ x12 = .int .i64 skip ∧ μ.vcs[kc]? = some vk ∧ x11 = .slice (ad vk) (τ.clause kc).length (cp vk) ∧
    Holds base wr (full p fuel τ μ (loc3 .non (.row vsn 4 (bools q.seen)) (.row vr 3 (ints q.rest)))) ∧ Good τ μ ∧ Below base w wr ∧ S.learnO now k τ q n kc skip = some R ∧ q.seen.length = τ.value.length ∧ τ.value.length = N ∧ τ.reason.length = N

def ScanRel (base p fuel now N : Nat) (μ : Vals) (R : S × Scan) (cl : List Int) (kc : Nat) (skip : Int) (w : World) (vsn : Value) (k : Nat) (x8 x9 x43 : Value) (wr : World) : Prop :=
  ∃ (i : Nat) (τ : S) (q : Scan) (vr : Value), x43 = .int .i64 (i : Int) ∧ x8 = .int .i64 q.opn ∧ x9 = .slice (ad vr) q.rest.length (cp vr) ∧ k + i = cl.length ∧
    Holds base wr (full p fuel τ μ (loc3 .non (.row vsn 4 (bools q.seen)) (.row vr 3 (ints q.rest)))) ∧ Good τ μ ∧ Below base w wr ∧ S.scanO now skip (cl.drop i) τ q = some R ∧ τ.clause kc = cl ∧ kc < τ.clauses.length ∧ q.seen.length = τ.value.length ∧ τ.value.length = N ∧ τ.reason.length = N

def FindRel (τ : S) (seen : List Bool) (i0 : Nat) (w : World) (k : Nat) (x10 : Value) (wr : World) : Prop :=
  ∃ a : Int, x10 = .int .i64 a ∧ a = (k : Int) - 1 ∧ wr = w ∧ τ.findO seen k = some i0

theorem Good.wei {σ : S} {μ : Vals} (G : Good σ μ) (xs : List Nat) : Good { σ with weight := xs } μ := ⟨G.vcs, G.vlogs, G.wk, G.not, G.failed⟩

theorem ints_one (a : List Int) : ∀ u ∈ ints a, u.oneCell' = true := by
  intro u hu
  simp [ints] at hu
  obtain ⟨_, _, rfl⟩ := hu
  rfl

theorem scanO_value {now : Nat} {skip : Int} : ∀ {ls : List Int} {σ τ : S} {q r : Scan}, S.scanO now skip ls σ q = some (τ, r) → τ.value = σ.value := by
  intro ls
  induction ls with
  | nil => intro σ τ q r h; rw [S.scanO] at h; injection h with h; injection h with h1 h2; rw [← h1]
  | cons l ls ih =>
    intro σ τ q r h
    obtain ⟨_, _, _, _, _, _, _, h⟩ := scanO_cons h
    rcases h with ⟨_, h⟩ | ⟨_, _, _, _, h⟩ | ⟨_, _, _, _, h⟩
    · exact ih h
    · exact (ih h).trans rfl
    · exact (ih h).trans rfl
theorem findO_pos {σ : S} {seen : List Bool} {n i : Nat} (h : σ.findO seen n = some i) : 0 < σ.value.length := by
  cases n with
  | zero => rw [S.findO] at h; cases h
  | succ n => have := (findO_succ h).1.2.1; omega

def LearnPost (base : Nat) (w : World) (p fuel : Nat) (σ' : S) (c : List Int) (lev : Nat) (e : Ending) (w' : World) : Prop :=
  ∃ vc μ', e = .returned (.tuple #[.slice (some ⟨gb vc, 0, none⟩) c.length (cp vc), .int .i64 (lev : Int)]) ∧ Holds base w' (full p fuel σ' μ' (loc3 (.row vc 3 (ints c)) .non .non)) ∧ Good σ' μ' ∧ Below base w w'

set_option maxRecDepth 100000 in
set_option maxHeartbeats 2000000 in
theorem learn_any {base p fuel : Nat} {σ σ' : S} {μ : Vals} {w : World} {k lev : Nat} {c' : List Int} (H : Holds base w (full p fuel σ μ (fun _ => .non))) (G : Good σ μ) (h : σ.learnTopO k = some (σ', c', lev)) :
    Calls Tryz.prog 89 #[.pointer (some ⟨p, 0, none⟩), .int .i64 (k : Int)] w (LearnPost base w p fuel σ' c' lev) := by
  obtain ⟨hev, hN, hT, hM, hL⟩ : σ.even ∧ σ.value.length ≤ 60000 ∧ σ.trail.length ≤ 60000 ∧ σ.marks.length ≤ 60000 ∧ S.learnO σ.marks.length (σ.trail.length + 1) σ ⟨List.replicate σ.value.length false, 0, []⟩ σ.trail.length k 0 = some (σ', c', lev) := by
    unfold S.learnTopO at h
    split at h
    · rename_i hc; exact ⟨hc.1, hc.2.1, hc.2.2.1, hc.2.2.2, h⟩
    · cases h
  clear h
  obtain ⟨hk, hk6, hpos⟩ : k < σ.clauses.length ∧ (σ.clause k).length ≤ 60000 ∧ 0 < σ.value.length := by
    obtain ⟨h1, h2, τ, r, i, hs, hf, _⟩ := learnO_succ hL
    have := findO_pos hf
    rw [scanO_value hs] at this
    exact ⟨h1, h2, this⟩
  rw [← loc3_non] at H
  obtain ⟨w1, hmk, H1, B1⟩ := H.made (.loc 2) (full_base H) (P := Tryz.prog) 54 4 (.bool false) 1 Tryz.underlying54 info4 rfl σ.value.length hN (by omega)
  rw [bools_made, upd_loc, loc3_2] at H1
  have H2 := hold_nil H1 3 3
  rw [loc3_3] at H2
  have c6 := full_c6 H hpos
  have d12 := full_c12 H2
  have d11 := full_c11 H2
  have d4 := full_d4 H2 G.vcs (by omega)
  obtain ⟨vk, hvk, hrow⟩ := cls_row (p := p) (fuel := fuel) (loc := loc3 .non (.row (.slice (some ⟨w.heap.size, 0, none⟩) σ.value.length σ.value.length) 4 (bools (List.replicate σ.value.length false))) (.row (.slice none 0 0) 3 [])) G hk
  have e4 : w1.cell? ⟨gb μ.cl, k, none⟩ = some vk := H2.elem (k := .fld 4) rfl hvk
  have hvf : vk = .slice (ad vk) (σ.clause k).length (cp vk) := by have := H2.sl hrow; rwa [ints_length] at this
  rw [hvf] at e4
  obtain ⟨vsn, hvsn⟩ : ∃ v, v = Value.slice (some ⟨w.heap.size, 0, none⟩) σ.value.length σ.value.length := ⟨_, rfl⟩
  have start : Hid (LearnRel base p fuel σ.marks.length σ.value.length μ (σ', c', lev) w vsn (σ.trail.length + 1) (.int .i64 0) (.slice none 0 0) (.int .i64 ((σ.trail.length : Int) - 1)) (.slice (ad vk) (σ.clause k).length (cp vk)) (.int .i64 0) w1) :=
    ⟨σ, ⟨List.replicate σ.value.length false, 0, []⟩, σ.trail.length, k, 0, _, .slice none 0 0, vk, rfl, rfl, rfl, rfl, rfl, hvk, rfl, by rw [hvsn]; exact H2, G, B1, hL, by simp, rfl, hev.2.1⟩
  have VS : Hid (Value.slice (some ⟨gb vsn, 0, none⟩) σ.value.length σ.value.length = Value.slice (some ⟨w.heap.size, 0, none⟩) σ.value.length σ.value.length) := by rw [hvsn]; rfl
  clear H H1 H2 G hL hvk hrow hvf hvsn hev
  go_enter Tryz.func89, Tryz.ntmps89
  go_wp2_with fail
  have GS : Hid (gb vsn = w.heap.size) := by
    have := VS.out
    injection this with h1 h2 h3
    injection h1 with h1
    injection h1 with h1
  generalize w.heap.size = gs at *
  clear hmk c6 d12 d11 d4 e4 VS
  generalize hnow : σ.marks.length = now at *
  generalize hNN : σ.value.length = N at *
  go_loopg [8, 9, 10, 11, 12] (σ.trail.length + 1) (fun k x8 x9 x10 x11 x12 wr => LearnRel base p fuel now N μ (σ', c', lev) w vsn k x8 x9 x10 x11 x12 wr)
  case atStart => exact start.out
  case round =>
    clear start B1
    obtain ⟨τ, q, n, kc, skip, a, vr, vk1, rfl, rfl, rfl, ha, rfl, hvk, rfl, H, G, B, hL, hsl, hN1, hRs1⟩ := hrel
    obtain ⟨m, rfl⟩ : ∃ m, gk = m + 1 := by
      cases gk with
      | zero => rw [S.learnO] at hL; cases hL
      | succ m => exact ⟨m, rfl⟩
    obtain ⟨hkc, hk6c, τ1, r1, i0, hs, hf, hst, ho0, ho6, hr6, halt⟩ := learnO_succ hL
    obtain ⟨vk2, hvk2, hrow⟩ := cls_row (p := p) (fuel := fuel) (loc := loc3 .non (.row vsn 4 (bools q.seen)) (.row vr 3 (ints q.rest))) G hkc
    obtain rfl : vk2 = vk1 := by rw [hvk] at hvk2; injection hvk2 with h; exact h.symm
    obtain ⟨Ak, hAk⟩ : ∃ Ak, Ak = ad vk2 := ⟨_, rfl⟩
    have AK : Hid (0 < (τ.clause kc).length → Ak = some ⟨gb vk2, 0, none⟩) := fun hp => by rw [hAk]; exact H.ad_ hrow (by rw [ints_length]; exact hp)
    rw [← hAk]
    obtain ⟨cl, hcl⟩ : ∃ cl, cl = τ.clause kc := ⟨_, rfl⟩
    have istart : Hid (ScanRel base p fuel now N μ (τ1, r1) cl kc skip w vsn cl.length (.int .i64 q.opn) (.slice (ad vr) q.rest.length (cp vr)) (.int .i64 ((0 : Nat) : Int)) wr) :=
      ⟨0, τ, q, vr, rfl, rfl, rfl, by omega, H, G, B, by rw [List.drop_zero, hcl]; exact hs, hcl.symm, hkc, hsl, hN1, hRs1⟩
    rw [← hcl] at AK hk6c ⊢
    have AH : Hid _ := ha
    have FH : Hid _ := hf
    have HALT : Hid _ := halt
    have VK : Hid _ := hvk
    clear H G B hL hs hf halt hrow hvk hvk2 hAk hcl ha hsl hkc
    go_wp2_with fail
    go_loopg [43, 8, 9] cl.length (fun k x43 x8 x9 wr => ScanRel base p fuel now N μ (τ1, r1) cl kc skip w vsn k x8 x9 x43 wr)
    case atStart => exact istart.out
    case round =>
      clear istart
      obtain ⟨i, υ, u, vs, rfl, rfl, rfl, hki, H, G, B, hR, hcl, hkc, hsl2, hN2, hRs2⟩ := hrel
      by_cases hlt : i < cl.length
      · obtain rfl : Ak = some ⟨gb vk2, 0, none⟩ := AK.out (by omega)
        obtain ⟨vk3, hvk3, hrow⟩ := cls_row (p := p) (fuel := fuel) (loc := loc3 .non (.row vsn 4 (bools u.seen)) (.row vs 3 (ints u.rest))) G hkc
        obtain rfl : vk3 = vk2 := by have := VK.out; rw [this] at hvk3; injection hvk3 with h; exact h.symm
        rw [hcl] at hrow
        have ei := H.elem hrow (ints_at cl hlt)
        have hd : cl.drop i = at0 cl i :: cl.drop (i + 1) := by
          rw [List.drop_eq_getElem_cons hlt]; simp [at0, hlt]
        rw [hd] at hR
        generalize at0 cl i = x at *
        obtain ⟨⟨l0, l1, l2⟩, ⟨e1, e2, e3, e4⟩, e5, e6, e7, e8, e9, alt⟩ := scanO_cons hR
        have hL2 : loc3 .non (.row vsn 4 (bools u.seen)) (.row vs 3 (ints u.rest)) 2 = .row vsn 4 (bools u.seen) := rfl
        have c7 := full_c7 H (by omega)
        have v7 := full_v7 H (n := x.natAbs) (by omega)
        have c9 := full_c9 H (by omega)
        have v9 := full_v9 H (n := x.natAbs) (by omega)
        have f9 := full_f9 H (by omega) x.natAbs
        have es := H.elem (k := .loc 2) hL2 (bools_at u.seen (i := x.natAbs) (by omega))
        have fs := H.free (k := .loc 2) hL2 (by rw [bools_length]; omega) x.natAbs
        have bs := H.gb_ (k := .loc 2) hL2 (by rw [bools_length]; omega)
        have b9 := full_b9 H (by omega)
        have b7 := full_b7 H (by omega)
        have ns := H.ne (k := .loc 2) (k' := .st) (by simp) bs rfl
        have n9 := H.ne (k := .fld 9) (k' := .st) (by simp) b9 rfl
        have ns9 := H.ne (k := .loc 2) (k' := .fld 9) (by simp) bs b9
        have ns7 := H.ne (k := .loc 2) (k' := .fld 7) (by simp) bs b7
        have n97 := H.ne (k := .fld 9) (k' := .fld 7) (by simp) b9 b7
        have hb9 := (H.lt _ b9).1
        have hbs := (H.lt _ bs).1
        have HS : Hid _ := see_one H (v := x.natAbs) hL2 (by omega) (by omega) (υ.weight.getD x.natAbs 0 + 1)
        have BS : Hid _ := (B.setCell (p := ⟨gb vsn, x.natAbs, none⟩) hbs (.bool true)).setCell (p := ⟨gb μ.wei, x.natAbs, none⟩) hb9 (.int .i64 ((υ.weight.getD x.natAbs 0 + 1 : Nat) : Int))
        rw [GS.out] at es fs ns ns9 ns7
        rw [e1] at c7
        rw [e3] at c9
        have HH : Hid _ := H
        have GG : Hid _ := G
        have BB : Hid _ := B
        have CL : Hid _ := hcl
        have SL : Hid _ := hsl2
        have N2 : Hid _ := hN2
        have AL : Hid _ := alt
        have hla : -60000 ≤ x := by omega
        have hlb : x ≤ 60000 := by omega
        have hxv : x.natAbs < N := by omega
        rw [hN2] at c7 c9
        have hki1 : gk = 1 + (cl.length - (i + 1)) := by omega
        have KI : Hid _ := hki1
        have i3 : (x.natAbs : Int) < (N : Int) := by omega
        have hN6 : N ≤ 60000 := by omega
        clear H G B hR hcl hsl2 hN2 alt hd hrow hvk3 hL2 bs b9 b7 e1 e2 e3 e4 e5 hki hki1 l1 l2
        generalize hv : x.natAbs = v at *
        have VV : Hid _ := hv.symm
        clear hv
        generalize υ.weight.getD v 0 = wt at *
        generalize hlv : υ.level.getD v 0 = lv at *
        rcases AL.out with ⟨h0, hn⟩ | ⟨h1, h2, h3, h4, hn⟩ | ⟨h1, h2, h3, h4, hn⟩
        · have NH : Hid _ := hn
          have H0 : Hid _ := h0
          clear hn h0
          by_cases hx : x = skip
          · have g1 : (x == skip) = true := by simp [hx]
            have XS : Hid _ := hx
            clear hx
            go_wp2_with (go_at_call 84; refine (variable_is VV.out _ hla hlb).mono ?_; rintro e w' ⟨rfl, rfl⟩)
            go_roundg (gk - 1)
            case measure => have := KI.out; omega
            case rel => exact ⟨i + 1, υ, u, vs, by go_num, rfl, rfl, by have := KI.out; omega, HH.out, GG.out, BB.out, NH.out, CL.out, hkc, SL.out, N2.out, hRs2⟩
          · have g1 : (x == skip) = false := by simp [hx]
            by_cases hsn : u.seen.getD v false = true
            · rw [hsn] at es
              have SN : Hid _ := hsn
              clear hsn
              go_wp2_with (go_at_call 84; refine (variable_is VV.out _ hla hlb).mono ?_; rintro e w' ⟨rfl, rfl⟩)
              go_roundg (gk - 1)
              case measure => have := KI.out; omega
              case rel => exact ⟨i + 1, υ, u, vs, by go_num, rfl, rfl, by have := KI.out; omega, HH.out, GG.out, BB.out, NH.out, CL.out, hkc, SL.out, N2.out, hRs2⟩
            · have hsn2 : u.seen.getD v false = false := by simpa using hsn
              rw [hsn2] at es
              have hlv0 : lv = 0 := by
                rcases H0.out with h | h | h
                · exact absurd h hx
                · exact absurd h hsn
                · exact h
              subst hlv0
              have g3 : ((((0 : Nat) : Int)) == 0) = true := by simp
              have SN : Hid _ := hsn2
              clear hsn hsn2
              go_wp2_with (go_at_call 84; refine (variable_is VV.out _ hla hlb).mono ?_; rintro e w' ⟨rfl, rfl⟩)
              go_roundg (gk - 1)
              case measure => have := KI.out; omega
              case rel => exact ⟨i + 1, υ, u, vs, by go_num, rfl, rfl, by have := KI.out; omega, HH.out, GG.out, BB.out, NH.out, CL.out, hkc, SL.out, N2.out, hRs2⟩
        · have NH : Hid _ := hn
          have g1 : (x == skip) = false := by simp [h1]
          rw [h2] at es
          have g3 : ((lv : Int) == 0) = false := by simp [h3]
          have h3' : 0 < lv := by omega
          have g4 : ((lv : Int) == (now : Int)) = true := by simp [h4]
          subst h4
          have h1H : Hid _ := h1
          have h2H : Hid _ := h2
          clear h1 h2 h3 hn
          go_wp2_with (go_at_call 84; refine (variable_is VV.out _ hla hlb).mono ?_; rintro e w' ⟨rfl, rfl⟩)
          go_roundg (gk - 1)
          case measure => have := KI.out; omega
          case rel => exact ⟨i + 1, { υ with weight := υ.weight.set v (wt + 1) }, { u with seen := u.seen.set v true, opn := u.opn + 1 }, vs, by go_num, rfl, rfl, by have := KI.out; omega, by have := HS.out; rw [loc3_2, GS.out] at this; exact this, GG.out.wei _, by have := BS.out; rw [GS.out] at this; exact this, NH.out, CL.out, hkc, by have := SL.out; simpa using this, N2.out, hRs2⟩
        · have NH : Hid _ := hn
          have g1 : (x == skip) = false := by simp [h1]
          rw [h2] at es
          have g3 : ((lv : Int) == 0) = false := by simp [h3]
          have h3' : 0 < lv := by omega
          have g4 : ((lv : Int) == (now : Int)) = false := by simp; omega
          have h1H : Hid _ := h1
          have h2H : Hid _ := h2
          have h4H : Hid _ := h4
          have hw9 : ((wt : Int) + 1) = ((wt + 1 : Nat) : Int) := by omega
          have W9 : Hid _ := hw9
          have HS2 := HS.out
          have BS2 := BS.out
          rw [loc3_2, GS.out] at HS2
          rw [GS.out] at BS2
          have LS : Hid _ := HS2.alloc (.cells #[.int .i64 x] 3)
          have BL : Hid _ := BS2.alloc (full_base HS2) (.cells #[.int .i64 x] 3)
          clear h1 h2 h3 h4 hn hw9 HS2 BS2
          go_wp2_with (first | (go_at_call 84; refine (variable_is VV.out _ hla hlb).mono ?_; rintro e w' ⟨rfl, rfl⟩) | (at_builtin; refine law_pushAt LS.out (.loc 3) rfl (.tmp 91) (.tmp 93) 23 3 (.int .i64 0) 8 rfl Tryz.underlying23 info3 rfl (by decide) u.rest.length (.int .i64 x) rfl (ints_length _) rfl wr.heap.size rfl ?hy rfl ?hb ?hl ?_))
          try (case hy => first | exact cell_new _ _ _ _ (by simp) | exact cell_new_drew _ _ _ _ (by simp))
          case hb => first | exact full_base LS.out | simpa using full_base LS.out
          case hl => omega
          intro A c w6 H6 B6 _
          rw [ints_snoc, upd_loc, loc3_3] at H6
          have H6H : Hid _ := H6
          have B6H : Hid _ := BL.out.trans B6
          clear H6 B6
          go_wp2_with fail
          go_roundg (gk - 1)
          case measure => have := KI.out; omega
          case rel => exact ⟨i + 1, { υ with weight := υ.weight.set v (wt + 1) }, { u with seen := u.seen.set v true, rest := u.rest ++ [x] }, .slice A (u.rest.length + 1) c, by go_num, rfl, by simp [ad, cp], by have := KI.out; omega, H6H.out, GG.out.wei _, B6H.out, NH.out, CL.out, hkc, by have := SL.out; simpa using this, N2.out, hRs2⟩
      · have hnil : cl.drop i = [] := List.drop_eq_nil_of_le (by omega)
        rw [hnil, S.scanO] at hR
        injection hR with hR
        injection hR with hRa hRb
        subst hRa hRb
        have hge : decide (i < cl.length) = false := decide_eq_false (by omega)
        have hge2 : cl.length ≤ i := by omega
        have hpos2 := findO_pos FH.out
        have HH : Hid _ := H
        have GG : Hid _ := G
        have BB : Hid _ := B
        have SL : Hid _ := hsl2
        have N2 : Hid _ := hN2
        have fstart : Hid (FindRel υ u.seen i0 wr n (.int .i64 a) wr) := ⟨a, rfl, AH.out, rfl, FH.out⟩
        clear H G B hnil hlt hsl2 hN2 hcl FH
        go_wp2_with fail
        go_loopg [10] n (fun k x10 wr' => FindRel υ u.seen i0 wr k x10 wr')
        case atStart => exact fstart.out
        case round =>
          clear fstart
          obtain ⟨b, rfl, hb, rfl, hF⟩ := hrel
          obtain ⟨n1, rfl⟩ : ∃ m, gk = m + 1 := by
            cases gk with
            | zero => rw [S.findO] at hF; cases hF
            | succ m => exact ⟨m, rfl⟩
          obtain rfl : b = (n1 : Int) := by omega
          obtain ⟨⟨l0, l1, l2⟩, hn1, ht6, _, hcase⟩ := findO_succ hF
          have d11 := full_d11 HH.out (by omega)
          have v11 := full_v11 HH.out hn1
          have hL2 : loc3 .non (.row vsn 4 (bools u.seen)) (.row vs 3 (ints u.rest)) 2 = .row vsn 4 (bools u.seen) := rfl
          have es := HH.out.elem (k := .loc 2) hL2 (bools_at u.seen (i := (at0 υ.trail n1).natAbs) (by rw [SL.out]; exact l1))
          rw [GS.out] at es
          rw [N2.out] at l1 l2
          generalize hx : at0 υ.trail n1 = x at *
          have XX : Hid _ := hx
          have hla : -60000 ≤ x := by omega
          have hlb : x ≤ 60000 := by omega
          have i1 : (0 : Int) ≤ (n1 : Int) := by omega
          have i2 : (n1 : Int) < (υ.trail.length : Int) := by omega
          clear hx hF hL2 hb
          generalize hv : x.natAbs = v at *
          have VV : Hid _ := hv.symm
          have i3 : (v : Int) < (N : Int) := by omega
          have i4 : (0 : Int) ≤ (v : Int) := by omega
          clear hv
          rcases hcase with ⟨hsn, rfl⟩ | ⟨hsn, hF2⟩
          · rw [hsn] at es
            have SN : Hid _ := hsn
            clear hsn
            have k0 := full_cell HH.out 0 rfl
            have f0 := full_free HH.out 0
            have HS0 := HH.out.setCell (k := .st) (b := p) rfl 0 (.int .i64 ((υ.steps + 1 : Nat) : Int)) (full_base HH.out)
            rw [abs_steps] at HS0
            have HS : Hid _ := HS0
            have BS : Hid _ := BB.out.setCell (p := ⟨p, 0, none⟩) (full_lt HH.out).1 (.int .i64 ((υ.steps + 1 : Nat) : Int))
            have GSt : Hid (Good { υ with steps := υ.steps + 1 } μ) := ⟨GG.out.vcs, GG.out.vlogs, GG.out.wk, GG.out.not, GG.out.failed⟩
            clear HS0
            rcases HALT.out with ⟨ho1, c2, lev2, hpl, hRR⟩ | ⟨ho1, hr0, hL2⟩
            · have g5 : (u.opn - 1 == 0) = true := by rw [ho1]; rfl
              have PL : Hid _ := hpl
              have RR : Hid _ := hRR
              have O1 : Hid _ := ho1
              have hL3 : loc3 .non (.row vsn 4 (bools u.seen)) (.row vs 3 (ints u.rest)) 3 = .row vs 3 (ints u.rest) := rfl
              have hc0 : Hid (ad vs = none → cp vs = 0) := fun hA => HH.out.cap0 (k := .loc 3) hL3 hA
              have LI := HS.out.lit1 (.loc 0) (full_base HS.out) (.int .i64 (-x)) 3
              rw [upd_loc, loc3_0] at LI
              have hsz : (wr.setCell ⟨p, 0, none⟩ (.int .i64 ((υ.steps + 1 : Nat) : Int))).heap.size = wr.heap.size := by simp
              rw [hsz] at LI
              clear hsz
              have LIH : Hid _ := LI
              have RD : Hid _ := LI.reads (k := .loc 3) (v := vs) (t := 3) (xs := ints u.rest) rfl
              have BL : Hid _ := BS.out.alloc (full_base HS.out) (.cells #[.int .i64 (-x)] 3)
              clear hpl ho1 hL3 LI
              have hcl2 : c' = c2 := by injection hRR with _ h2; injection h2
              have hlv2 : lev = lev2 := by injection hRR with _ h2; injection h2
              have hsg2 : σ' = { υ with steps := υ.steps + 1 } := by injection hRR
              subst hcl2 hlv2 hsg2
              clear hRR
              go_wp2_with (first | (go_at_call 84; refine (variable_is VV.out _ hla hlb).mono ?_; rintro e w' ⟨rfl, rfl⟩) | (at_builtin; refine law_many LIH.out (.loc 0) rfl (.tmp 133) (.tmp 134) 23 3 (.int .i64 0) 8 rfl Tryz.underlying23 info3 rfl (by decide) 1 (ints u.rest) rfl rfl rfl (ad vs) u.rest.length (cp vs) rfl (ints_length _) hc0.out ?hy ?h1 ?hb ?hl ?_))
              case hy => exact RD.out
              case h1 => exact ints_one _
              case hb => first | exact full_base LIH.out | simpa using full_base LIH.out
              case hl => omega
              intro A' c3 w6 H6 B6
              rw [upd_loc, loc3_0] at H6
              have BB6 : Hid _ := (BL.out.trans B6)
              clear B6
              generalize hn6 : 1 + u.rest.length = n6 at *
              have hlen6 : (-x :: u.rest).length = n6 := by simp; omega
              obtain ⟨g6, rfl⟩ : ∃ g, A' = some ⟨g, 0, none⟩ := ⟨_, H6.ad_ (k := .loc 0) rfl (by simp [ints])⟩
              rw [XX.out] at PL
              have PA := placed_any (c := -x :: u.rest) (loc := loc3 (.row (.slice (some ⟨g6, 0, none⟩) n6 c3) 3 (ints (-x :: u.rest))) (.row vsn 4 (bools u.seen)) (.row vs 3 (ints u.rest))) H6 rfl (by simp) (by omega) PL.out
              rw [hlen6] at PA
              clear H6
              go_wp2_with fail
              refine PA.mono ?_
              rintro e w' ⟨rfl, H7, hlen7, B7⟩
              have H7H : Hid _ := H7
              have B7H : Hid _ := BB6.trans B7
              clear H7 B7 PA
              go_wp2_with fail
              go_ret2
              exact ⟨.slice (some ⟨g6, 0, none⟩) n6 c3, μ, by rw [show c'.length = n6 from hlen7]; rfl, by
                have := ((H7H.out.drop (.loc 2)).drop (.loc 3)); rw [loc3_0, upd_loc, loc3_2, upd_loc, loc3_3] at this; exact this, GSt.out, B7H.out⟩
            · have g5 : (u.opn - 1 == 0) = false := by simp; omega
              obtain ⟨m', rfl⟩ : ∃ m', m = m' + 1 := by
                cases m with
                | zero => rw [S.learnO] at hL2; cases hL2
                | succ m' => exact ⟨m', rfl⟩
              have hk' : (at0 υ.reason (at0 υ.trail n1).natAbs).toNat < υ.clauses.length := (learnO_succ hL2).1
              obtain ⟨vk4, hvk4, hrow4⟩ := cls_row (p := p) (fuel := fuel) (loc := loc3 .non (.row vsn 4 (bools u.seen)) (.row vs 3 (ints u.rest))) GSt.out hk'
              rw [XX.out] at hk' hvk4 hrow4 hL2 hr0
              rw [← VV.out] at hk' hvk4 hrow4 hL2 hr0
              have LL : Hid _ := hL2
              clear hL2
              have hvr : v < υ.reason.length := by have := hRs2; have := N2.out; omega
              have c8 := full_c8 HS.out (show 0 < υ.reason.length by omega)
              have v8 := full_v8 HS.out (n := v) hvr
              have d4 := full_d4 HS.out GSt.out.vcs (show 0 < υ.clauses.length by omega)
              have e4 := HS.out.elem (k := .fld 4) rfl hvk4
              have hvf : vk4 = .slice (ad vk4) (({ υ with steps := υ.steps + 1 } : S).clause (at0 υ.reason v).toNat).length (cp vk4) := by have := HS.out.sl hrow4; rwa [ints_length] at this
              rw [hvf] at e4
              have V4 : Hid _ := hvk4
              clear hvk4 hrow4 hvf
              generalize hrv : at0 υ.reason v = rv at *
              obtain ⟨k', rfl⟩ : ∃ k' : Nat, rv = (k' : Int) := ⟨rv.toNat, by omega⟩
              rw [Int.toNat_natCast] at *
              have i5 : (k' : Int) < (υ.clauses.length : Int) := by omega
              have i6 : (v : Int) < (υ.reason.length : Int) := by have := hRs2; have := N2.out; omega
              clear hk' hr0 hrv ho1
              generalize hcl' : ({ υ with steps := υ.steps + 1 } : S).clause k' = cl' at *
              have HS5 := HS.out
              have BS5 := BS.out
              clear HS BS
              go_wp2_with (go_at_call 84; refine (variable_is VV.out _ hla hlb).mono ?_; rintro e w' ⟨rfl, rfl⟩)
              have hcast : ((υ.steps + 1 : Nat) : Int) = (υ.steps : Int) + 1 := by omega
              rw [hcast] at c8 v8 d4 e4 HS5 BS5
              generalize hw5 : wr.setCell ⟨p, 0, none⟩ (.int .i64 ((υ.steps : Int) + 1)) = w5 at *
              clear hw5 k0 f0 hcast
              go_quiet ((go_at_call 84; exact Calls.quiet_of_same (variable_q VV.out _ hla hlb)))
              go_wp2_with fail
              go_roundg (m' + 1)
              case measure => omega
              case rel => exact ⟨{ υ with steps := υ.steps + 1 }, ⟨u.seen, u.opn - 1, u.rest⟩, n1, k', x, (n1 : Int) - 1, vs, vk4, rfl, rfl, rfl, rfl, rfl, V4.out, by rw [hcl'], HS5.drewN _, GSt.out, below_drewN BS5 _, LL.out, SL.out, N2.out, hRs2⟩
          · rw [hsn] at es
            have SN : Hid _ := hsn
            have FF : Hid _ := hF2
            clear hsn hF2
            go_wp2_with (go_at_call 84; refine (variable_is VV.out _ hla hlb).mono ?_; rintro e w' ⟨rfl, rfl⟩)
            go_roundg n1
            case measure => omega
            case rel => exact ⟨(n1 : Int) - 1, rfl, rfl, rfl, FF.out⟩
end Go.Proofs.YtdllaphnkbnpoaaGreat
