/- Walks over the reference: Sorted. -/
import Derived.Test.YtdllaphnkbnpoaaGreatWw
import Derived.Deep.RegionLaw
namespace Go.Proofs.YtdllaphnkbnpoaaGreat
open Go.RowKit Go.Proofs

section
variable {P : Program} {ops : Array Oper} {o : Oper} {a : Act} {Q : Exit → Act → World → Prop} {K : Act → World → Prop} {E : Prop}

theorem run_many2 {base : Nat} {W : World} {L : Key → Res} (H : Holds base W L) (k : Key) (t e rt : TypeId) (z : Value) (bytes : Nat)
    (ht : P.underlying t = some (.slice e)) (hinfo : (P.info? e).map (fun i => (i.zero, i.size, i.bytes)) = some (some z, 1, bytes)) (hz : z.cells.size = 1) (hb0 : 0 < bytes)
    {v : Value} {xs : List Value} (n : Nat) (ys : List Value) (hk : L k = .row v e xs) (hn : xs.length = n) (A : Option Addr) (m c : Nat) (hm : ys.length = m) (hc0 : A = none → c = 0)
    (hy : Reads W A ys) (h1 : ∀ u ∈ ys, u.oneCell' = true) (hbase : base ≤ W.heap.size) (hl : (n + m) * bytes ≤ 140737488355328) :
    ∃ A' c' w1, (Builtin.append_ #[t, t] rt #[.slice (ad v) n (cp v), .slice A m c]).run P W = .ok (.slice A' (n + m) c') w1 ∧ Holds base w1 (upd L k (.row (.slice A' (n + m) c') e (xs ++ ys))) ∧ Below base W w1 ∧ W.grownBy w1 v.ownBlock := by
  subst hn hm
  obtain ⟨i0, hi, hzz⟩ := Option.map_eq_some_iff.1 hinfo
  simp only [Prod.mk.injEq] at hzz
  obtain ⟨hz0, hz1, hz2⟩ := hzz
  have hlen : xs.length + ys.length ≤ 140737488355328 := Nat.le_trans (Nat.le_mul_of_pos_right _ hb0) hl
  have hv := H.sl hk
  rw [← hv]
  have hbk : (L k).blk = v.ownBlock := by rw [hk]; rfl
  cases A with
  | none =>
    have hys := hy.1 rfl
    subst hys
    have hc := hc0 rfl
    subst hc
    refine ⟨ad v, cp v, W, ?_, ?_, Below.refl _ _, World.grownBy.refl _ _⟩
    · rw [show ([] : List Value).length = 0 from rfl, run_append_owned_none (P := P) (w := W) 0 t rt e i0 1 ht hi v xs.length xs (H.owns hk)]
      rw [Nat.add_zero, ← hv]
    · rw [List.append_nil, show ([] : List Value).length = 0 from rfl, Nat.add_zero, ← hv, ← hk, upd_id]
      exact H
  | some b =>
    obtain ⟨v1, w1, hr, ho1, hg, hn, hat⟩ := run_append_own_at (P := P) W 0 t rt e i0 z 1 bytes ht hi hz0 hz1 hz2 hz (by omega) v xs.length xs (H.owns hk) b ys.length c ys (by simp) (hy.2 b rfl) h1 (by simp only [maxLen]; omega) hl (Nat.zero_le _)
    have hform : ∃ A c, v1 = .slice A (xs.length + ys.length) c := by
      rcases ho1.2 with ⟨h', h0⟩ | ⟨g, cap, cur, rfl, _⟩
      · exact ⟨none, 0, by rw [h', h0]⟩
      · exact ⟨_, cap, rfl⟩
    obtain ⟨A, c', rfl⟩ := hform
    exact ⟨A, c', w1, hr, H.appended hbk ho1 (by simp) hg hat hbase, (Below.refl base W).grown hg hbase (fun b' hb' => H.base k b' (by rw [hbk]; exact hb')), hg⟩

theorem step_many2 {base : Nat} {W : World} {L : Key → Res} (H : Holds base W L) (k : Key) (hgd : o.guard = none) (s x : Operand) (t e : TypeId) (z : Value) (bytes : Nat)
    (ho : o.op = .call { callee := .builtin .append, args := #[s, x], argTypes := #[t, t] })
    (ht : P.underlying t = some (.slice e)) (hinfo : (P.info? e).map (fun i => (i.zero, i.size, i.bytes)) = some (some z, 1, bytes)) (hz : z.cells.size = 1) (hb0 : 0 < bytes)
    {v : Value} {xs : List Value} (n : Nat) (ys : List Value) (hk : L k = .row v e xs) (hn : xs.length = n) (hs : a.eval s = .slice (ad v) n (cp v)) (A : Option Addr) (m c : Nat) (hx : a.eval x = .slice A m c) (hm : ys.length = m) (hc0 : A = none → c = 0)
    (hy : Reads W A ys) (h1 : ∀ u ∈ ys, u.oneCell' = true) (hbase : base ≤ W.heap.size) (hl : (n + m) * bytes ≤ 140737488355328)
    (h : ∀ A' c' w1, Holds base w1 (upd L k (.row (.slice A' (n + m) c') e (xs ++ ys))) → Below base W w1 → K (a.put o.dst (.slice A' (n + m) c')) w1) :
    if Region.wanted o (yielded ops a.tmps) = true then Oper.wp P o a W K Q else E := by
  have hw : Region.wanted o (yielded ops a.tmps) = true := by simp [Region.wanted, hgd]
  rw [if_pos hw]
  obtain ⟨A', c', w1, hr, H1, B1, _⟩ := run_many2 (P := P) H k t e o.type z bytes ht hinfo hz hb0 n ys hk hn A m c hm hc0 hy h1 hbase hl
  unfold Oper.wp
  simp [execOp, ho, resolve, invoke, builtin, hs, hx, hr, Result.andThen]
  exact h A' c' w1 H1 B1
theorem step_many3 {base : Nat} {W : World} {L : Key → Res} (H : Holds base W L) (k : Key) (hgd : o.guard = none) (s x : Operand) (t e : TypeId) (z : Value) (bytes : Nat)
    (ho : o.op = .call { callee := .builtin .append, args := #[s, x], argTypes := #[t, t] })
    (ht : P.underlying t = some (.slice e)) (hinfo : (P.info? e).map (fun i => (i.zero, i.size, i.bytes)) = some (some z, 1, bytes)) (hz : z.cells.size = 1) (hb0 : 0 < bytes)
    {v : Value} {xs : List Value} (n : Nat) (ys : List Value) (hk : L k = .row v e xs) (hn : xs.length = n) (hs : a.eval s = .slice (ad v) n (cp v)) (A : Option Addr) (m c : Nat) (hx : a.eval x = .slice A m c) (hm : ys.length = m) (hc0 : A = none → c = 0)
    (hy : Reads W A ys) (h1 : ∀ u ∈ ys, u.oneCell' = true) (hbase : base ≤ W.heap.size) (hl : (n + m) * bytes ≤ 140737488355328)
    (h : ∀ A' c' w1, Holds base w1 (upd L k (.row (.slice A' (n + m) c') e (xs ++ ys))) → Below base W w1 → W.grownBy w1 v.ownBlock → K (a.put o.dst (.slice A' (n + m) c')) w1) :
    if Region.wanted o (yielded ops a.tmps) = true then Oper.wp P o a W K Q else E := by
  have hw : Region.wanted o (yielded ops a.tmps) = true := by simp [Region.wanted, hgd]
  rw [if_pos hw]
  obtain ⟨A', c', w1, hr, H1, B1, G1⟩ := run_many2 (P := P) H k t e o.type z bytes ht hinfo hz hb0 n ys hk hn A m c hm hc0 hy h1 hbase hl
  unfold Oper.wp
  simp [execOp, ho, resolve, invoke, builtin, hs, hx, hr, Result.andThen]
  exact h A' c' w1 H1 B1 G1
end

theorem reads_take {base : Nat} {w : World} {L : Key → Res} (H : Holds base w L) {k : Key} {v : Value} {out : List Int} (hk : L k = .row v 3 (ints out)) (q : Nat) : Reads w (some ⟨gb v, 0, none⟩) (ints (out.take q)) := by
  refine ⟨fun h => (by cases h), fun a ha j u hu => ?_⟩
  injection ha with ha
  subst ha
  have hj : j < (out.take q).length := by
    have := (List.getElem?_eq_some_iff.1 hu).1
    rwa [ints_length] at this
  have hu2 := ints_at (out.take q) hj
  rw [List.length_take] at hj
  rw [hu2] at hu
  rw [← hu, addr_add, Nat.zero_add, at0_take (by omega)]
  exact H.elem hk (ints_at out (by omega))
theorem reads_drop {base : Nat} {w : World} {L : Key → Res} (H : Holds base w L) {k : Key} {v : Value} {out : List Int} (hk : L k = .row v 3 (ints out)) (q : Nat) {a' : Addr} (ha' : q < out.length → a' = ⟨gb v, q, none⟩) : Reads w (some a') (ints (out.drop q)) := by
  refine ⟨fun h => (by cases h), fun a ha j u hu => ?_⟩
  injection ha with ha
  subst ha
  have hj : j < (out.drop q).length := by
    have := (List.getElem?_eq_some_iff.1 hu).1
    rwa [ints_length] at this
  have hu2 := ints_at (out.drop q) hj
  rw [List.length_drop] at hj
  rw [hu2] at hu
  have e : at0 (out.drop q) j = at0 out (q + j) := by unfold at0; simp
  rw [← hu, ha' (by omega), addr_add, e]
  exact H.elem hk (ints_at out (by omega))

theorem Holds.lit0 {base : Nat} {w : World} {L : Key → Res} (h : Holds base w L) (k : Key) (hbase : base ≤ w.heap.size) (e : TypeId) :
    Holds base (w.alloc (.cells #[] e)) (upd L k (.row (.slice (some ⟨w.heap.size, 0, none⟩) 0 0) e [])) := by
  refine h.put k _ (World.grownBy_alloc w _ none) (fun b hb => by cases hb) ?_ (fun b hb => ?_) hbase
  · exact World.ownsRow_lit w #[] 0 (Nat.zero_le _) (by simp) rfl
  · right
    have : some w.heap.size = some b := hb
    cases this; exact Nat.le_refl _

/-- The order of literals. -/
def bef (a b : Int) : Bool := if a.natAbs ≠ b.natAbs then decide (a.natAbs < b.natAbs) else decide (b < a)
def posM (x : Int) : List Int → Nat
  | [] => 0
  | y :: ys => if bef y x = true then posM x ys + 1 else 0
def insM (out : List Int) (x : Int) : List Int :=
  if posM x out < out.length ∧ out.getD (posM x out) 0 = x then out else out.take (posM x out) ++ [x] ++ out.drop (posM x out)
def sortedM (l : List Int) : List Int := l.foldl insM []

theorem posM_le (x : Int) : ∀ out : List Int, posM x out ≤ out.length
  | [] => Nat.le_refl _
  | y :: ys => by have := posM_le x ys; unfold posM; split <;> simp <;> omega
theorem posM_bef (x : Int) : ∀ (out : List Int) (j : Nat), j < posM x out → bef (out.getD j 0) x = true
  | [], j, h => by simp [posM] at h
  | y :: ys, j, h => by
    unfold posM at h
    split at h
    · rename_i hb
      cases j with
      | zero => simpa using hb
      | succ j => have := posM_bef x ys j (by omega); simpa using this
    · omega
theorem posM_stop (x : Int) : ∀ (out : List Int), posM x out < out.length → bef (out.getD (posM x out) 0) x = false
  | [], h => by simp [posM] at h
  | y :: ys, h => by
    unfold posM at h ⊢
    split
    · rename_i hb
      rw [if_pos hb] at h
      have := posM_stop x ys (by simpa using h)
      simpa using this
    · rename_i hb
      simpa using hb

theorem Lies.reads {base : Nat} {w : World} {A : Option Addr} {xs : List Int} (h : Lies base w A xs) {m : Nat} (hm : m ≤ xs.length) (hA : A = none → m = 0) : Reads w A (ints (xs.take m)) := by
  refine ⟨fun h0 => by rw [hA h0]; simp [ints], fun b hb j u hu => ?_⟩
  have hj : j < (xs.take m).length := by
    have := (List.getElem?_eq_some_iff.1 hu).1
    rwa [ints_length] at this
  rw [List.length_take] at hj
  obtain ⟨b', o, hA', _, hc⟩ := lies_at h (i := j) (by omega)
  rw [hA'] at hb
  injection hb with hb
  subst hb
  have e : (⟨b', o, none⟩ : Addr).add j = ⟨b', o + j, none⟩ := by unfold Addr.add; split <;> simp_all
  rw [e, hc j (by omega)]
  have hu2 := ints_at (xs.take m) (i := j) (by rw [List.length_take]; omega)
  rw [hu2] at hu
  rw [← hu, at0_take (by omega)]
  rfl

theorem before_q {a b : Int} {r : Bool} (hr : bef a b = r) (w : World) (a0 : -60000 ≤ a) (a1 : a ≤ 60000) (b0 : -60000 ≤ b) (b1 : b ≤ 60000) :
    Calls Tryz.prog 46 #[.int .i64 a, .int .i64 b] w fun e w' => e = .returned (.bool r) ∧ w' = w := by
  refine (before_any a b w a0 a1 b0 b1).mono ?_
  rintro e w' ⟨rfl, rfl⟩
  exact ⟨by rw [← hr]; rfl, rfl⟩

def env2 (v1 : Value) (out : List Int) : Key → Res := fun k => if k = .loc 0 then .row v1 3 (ints out) else .non

theorem sort_fin {base : Nat} {w : World} {r0 a b c r : Res} (H : Holds base w (upd (upd (upd (upd (locs r0) (.loc 1) a) (.loc 1) b) (.loc 1) c) (.loc 1) r)) : Holds base w (locs r) := by
  have := H.move (.loc 1) (.loc 0)
  refine holds_eq this ?_
  funext k
  unfold upd locs
  by_cases h0 : k = .loc 0
  · subst h0; simp
  · by_cases h1 : k = .loc 1
    · subst h1; simp
    · simp [h0, h1]
theorem ins_len {out : List Int} {x : Int} {q : Nat} (hq : q ≤ out.length) (h : insM out x = out.take q ++ [x] ++ out.drop q) : (insM out x).length = q + 1 + (out.length - q) := by
  rw [h]; simp; omega
theorem ins_row {out : List Int} {x : Int} {q : Nat} (h : insM out x = out.take q ++ [x] ++ out.drop q) : ([] ++ ints (out.take q)) ++ [.int .i64 x] ++ ints (out.drop q) = ints (insM out x) := by
  rw [h]; simp [ints]
theorem ins_mem {out : List Int} {x : Int} (h0 : -60000 ≤ x ∧ x ≤ 60000) (h : ∀ y ∈ out, -60000 ≤ y ∧ y ≤ 60000) : ∀ y ∈ insM out x, -60000 ≤ y ∧ y ≤ 60000 := by
  intro y hy
  unfold insM at hy
  split at hy
  · exact h y hy
  · rcases List.mem_append.1 hy with hy | hy
    · rcases List.mem_append.1 hy with hy | hy
      · exact h y (List.mem_of_mem_take hy)
      · rw [List.mem_singleton] at hy; rw [hy]; exact h0
    · exact h y (List.mem_of_mem_drop hy)

def SortRel (w : World) (base : Nat) (l : List Int) (k : Nat) (x3 x4 : Value) (wr : World) : Prop :=
  ∃ (i : Nat) (out : List Int) (v : Value), x4 = .int .i64 (i : Int) ∧ x3 = .slice (ad v) out.length (cp v) ∧ k + i = l.length ∧ Holds base wr (locs (.row v 3 (ints out))) ∧ Below base w wr ∧ (l.drop i).foldl insM out = sortedM l ∧ out.length ≤ i ∧ (∀ y ∈ out, -60000 ≤ y ∧ y ≤ 60000) ∧ (out.length = 0 → v = .slice none 0 0)
def AtRel (w : World) (base : Nat) (x : Int) (out : List Int) (k : Nat) (x5 : Value) (wr : World) : Prop :=
  ∃ j : Nat, x5 = .int .i64 (j : Int) ∧ k + j = posM x out ∧ Below base w wr

set_option maxRecDepth 100000 in
set_option maxHeartbeats 4000000 in
theorem sorted_any {base : Nat} {w : World} (hbase : base ≤ w.heap.size) {A : Option Addr} {l : List Int} {c : Nat} (hA : Lies base w A l) (hn : l.length ≤ 60000) (hl : ∀ x ∈ l, -60000 ≤ x ∧ x ≤ 60000) :
    Calls Tryz.prog 15 #[.slice A l.length c] w fun e w' => ∃ v', e = .returned (.slice (ad v') (sortedM l).length (cp v')) ∧ Below base w w' ∧ Holds base w' (locs (.row v' 3 (ints (sortedM l)))) := by
  have H0 : Holds base w (fun _ => Res.non) := Holds.nothing _ _
  have H1 := nil_put H0 hbase (.loc 0) 3
  have e1 : upd (fun _ => Res.non) (.loc 0) (.row (.slice none 0 0) 3 []) = locs (.row (.slice none 0 0) 3 (ints [])) := rfl
  rw [e1] at H1
  have start : Hid (SortRel w base l l.length (.slice none 0 0) (.int .i64 ((0 : Nat) : Int)) w) := ⟨0, [], .slice none 0 0, rfl, rfl, rfl, H1, Below.refl _ _, rfl, Nat.le_refl _, by simp, fun _ => rfl⟩
  have LA : Hid _ := hA
  have LL : Hid _ := hl
  clear H0 H1 e1 hA hl
  go_enter Tryz.func15, Tryz.ntmps15
  go_wp2_with fail
  go_loopg [3, 4] l.length (fun k x3 x4 wr => SortRel w base l k x3 x4 wr)
  case atStart => exact start.out
  case round =>
    clear start
    obtain ⟨i, out, v, rfl, rfl, hki, H, B, hT, hol, hob, hnv⟩ := hrel
    have NV : Hid _ := hnv
    clear hnv
    by_cases hlt : i < l.length
    · obtain ⟨m, rfl⟩ : ∃ m, gk = m + 1 := ⟨gk - 1, by omega⟩
      obtain ⟨b, o, rfl, hbb, hcell⟩ := lies_at (Lies.below LA.out B) hlt
      have ei := hcell i hlt
      have hd : l.drop i = l.getD i 0 :: l.drop (i + 1) := by
        rw [List.drop_eq_getElem_cons hlt]; simp [hlt]
      have hxb := LL.out _ (row_ne l 0 hlt)
      rw [hd, List.foldl_cons] at hT
      have LC : Hid _ := fun (W : World) (hW : Below base wr W) => (World.cell?_of_block (a := ⟨b, o + i, none⟩) (hW.block b hbb)).trans ei
      generalize l.getD i 0 = x at *
      obtain ⟨hx0, hx1⟩ := hxb
      generalize hav : ad v = AV at *
      have AVH : Hid (0 < out.length → AV = some ⟨gb v, 0, none⟩) := by
        intro hp
        rw [← hav]
        exact H.ad_ (k := .loc 0) (t := 3) (xs := ints out) rfl (by rw [ints_length]; exact hp)
      have AE : Hid _ := hav
      have start2 : Hid (AtRel wr wr.heap.size x out (posM x out) (.int .i64 ((0 : Nat) : Int)) wr) := ⟨0, rfl, by omega, Below.refl _ _⟩
      have HH : Hid _ := H
      have OB : Hid _ := B
      obtain ⟨wsz, hwsz⟩ : ∃ z, z = wr.heap.size := ⟨_, rfl⟩
      rw [← hwsz] at start2
      have WSZ : Hid _ := hwsz
      clear hwsz
      have TT : Hid _ := hT
      have OL : Hid _ := hob
      have hol6 : out.length ≤ 60000 := by omega
      clear hd hcell hav H B hT hob ei
      go_wp2_with fail
      go_loopg [5] (posM x out) (fun k x5 w' => AtRel wr wsz x out k x5 w')
      case atStart => exact start2.out
      case round =>
        clear start2
        obtain ⟨j, rfl, hkj, B2⟩ := hrel
        have hpl := posM_le x out
        have hbz : base ≤ wsz := by rw [WSZ.out]; exact Nat.le_trans hbase OB.out.size
        have ex := LC.out _ (B2.mono (B' := base) hbz)
        have H2 : Holds base wr (locs (.row v 3 (ints out))) := HH.out.other (fun b _ hb => B2.block b (by rw [WSZ.out]; exact hb))
        by_cases hlt2 : j < posM x out
        · have hjo : j < out.length := by omega
          obtain rfl : AV = some ⟨gb v, 0, none⟩ := AVH.out (by omega)
          have ey := H2.elem (k := .loc 0) rfl (ints_at out hjo)
          have hby := posM_bef x out j hlt2
          have hyb := OL.out _ (row_ne out 0 hjo)
          have eat : at0 out j = out.getD j 0 := rfl
          rw [eat] at ey
          generalize out.getD j 0 = y at *
          obtain ⟨hy0, hy1⟩ := hyb
          have hj2 : (j : Int) < (out.length : Int) := by omega
          have BQ := before_q hby (a0 := hy0) (a1 := hy1) (b0 := hx0) (b1 := hx1)
          have BH : Hid _ := B2
          clear H2 hby B2
          go_wp2_with fail
          go_quiet ((go_at_call 46; exact Calls.quiet_of_same (BQ _)))
          go_wp2_with fail
          go_roundg (gk - 1)
          case measure => omega
          case rel => exact ⟨j + 1, by go_num, by omega, below_drewN_ BH.out _⟩
        · obtain rfl : j = posM x out := by omega
          have H2H : Hid _ := H2
          have BW : Hid _ := OB.out.trans (B2.mono (B' := base) hbz)
          have hbw : base ≤ wr.heap.size := Nat.le_trans hbase BW.out.size
          have hb1 : b < wr.heap.size := by omega
          by_cases hjo : posM x out < out.length
          · obtain rfl : AV = some ⟨gb v, 0, none⟩ := AVH.out (by omega)
            have ey := H2.elem (k := .loc 0) rfl (ints_at out hjo)
            have hby := posM_stop x out hjo
            have hyb := OL.out _ (row_ne out 0 hjo)
            have eat : at0 out (posM x out) = out.getD (posM x out) 0 := rfl
            rw [eat] at ey
            have INS : Hid (insM out x = if out.getD (posM x out) 0 = x then out else out.take (posM x out) ++ [x] ++ out.drop (posM x out)) := by
              show insM out x = _
              unfold insM
              by_cases hyx : out.getD (posM x out) 0 = x
              · rw [if_pos ⟨hjo, hyx⟩, if_pos hyx]
              · rw [if_neg (fun h => hyx h.2), if_neg hyx]
            generalize out.getD (posM x out) 0 = y at *
            obtain ⟨hy0, hy1⟩ := hyb
            have hj2 : ((posM x out : Nat) : Int) < (out.length : Int) := by omega
            have BQ := before_q hby (a0 := hy0) (a1 := hy1) (b0 := hx0) (b1 := hx1)
            generalize hpq : posM x out = q at *
            have PQ : Hid _ := hpq
            clear H2 hby B2 hpq eat HH OB LC WSZ
            go_wp2_with fail
            go_quiet ((go_at_call 46; exact Calls.quiet_of_same (BQ _)))
            have H3 : Hid _ := H2H.out.drewN nq
            have B3 : Hid _ := below_drewN_ BW.out nq
            have ex3 : (wr.drewN nq).cell? ⟨b, o + i, none⟩ = some (.int .i64 x) := ex
            have ey3 : (wr.drewN nq).cell? ⟨gb v, q, none⟩ = some (.int .i64 y) := ey
            have hbw3 : base ≤ (wr.drewN nq).heap.size := hbw
            generalize wr.drewN nq = w3 at *
            clear H2H BW ex ey BQ
            by_cases hyx : y = x
            · have g2 : (y == x) = true := by simp [hyx]
              have I2 := INS.out
              rw [if_pos hyx] at I2
              have I3 : Hid _ := I2
              clear INS I2 hyx
              go_wp2_with fail
              go_quiet (fail)
              go_wp2_with fail
              go_roundg m
              case measure => omega
              case rel => exact ⟨i + 1, out, v, by go_num, by rw [AE.out], by omega, H3.out.drewN _, below_drewN_ B3.out _, by rw [← TT.out, I3.out], by omega, OL.out, NV.out⟩
            · have g2 : (y == x) = false := by simp [hyx]
              have I2 := INS.out
              rw [if_neg hyx] at I2
              have I3 : Hid _ := I2
              clear INS I2 hyx
              go_wp2_with fail
              go_quiet (fail)
              have H4 : Hid _ := H3.out.drewN nq
              have B4 : Hid _ := below_drewN_ B3.out nq
              have ex4 : (w3.drewN nq).cell? ⟨b, o + i, none⟩ = some (.int .i64 x) := ex3
              have hbw4 : base ≤ (w3.drewN nq).heap.size := hbw3
              generalize w3.drewN nq = w4 at *
              clear H3 B3 ex3 ey3
              have hcap : out.length ≤ cp v := by have := H4.out.cap (k := .loc 0) (t := 3) (xs := ints out) rfl; rwa [ints_length] at this
              have LQ : Hid (q ≤ out.length) := (by show _ ≤ _; omega)
              have hq1 : (0 : Int) ≤ (q : Int) := by omega
              have hq2 : (q : Int) ≤ (out.length : Int) := by omega
              have hq3 : (q : Int) ≤ (cp v : Int) := by omega
              have hq4 : q ≤ cp v := by omega
              have hq5 : ¬ cp v = q := by omega
              have HL0 : Hid _ := Holds.lit0 H4.out.drew (.loc 1) hbw4 3
              have RD : Hid (Reads (w4.drew.alloc (.cells #[] 3)) (some ⟨gb v, 0, none⟩) (ints (out.take q))) := reads_take (H4.out.drew.alloc (.cells #[] 3)) (k := .loc 0) rfl q
              have LT : Hid ((ints (out.take q)).length = q) := by show _ = _; rw [ints_length, List.length_take]; omega
              have BL0 : Hid _ := B4.out.drew.alloc hbw4 (.cells #[] 3)
              have ex5 := cell_alloc_keep w4.drew (.cells #[] 3) _ _ ex4
              have ex5b : (w4.alloc (.cells #[] 3)).drew.cell? ⟨b, o + i, none⟩ = some (.int .i64 x) := ex5
              have hbw5 : base ≤ (w4.drew.alloc (.cells #[] 3)).heap.size := by rw [size_alloc]; exact Nat.le_succ_of_le hbw4
              have HL0b : Hid _ := ((Holds.lit0 H4.out (.loc 1) hbw4 3).alloc (.cells #[.int .i64 x] 3)).drew
              have RDb : Hid (Reads ((w4.alloc (.cells #[] 3)).alloc (.cells #[.int .i64 x] 3)).drew (some ⟨gb v, 0, none⟩) (ints (out.take q))) := reads_take (((H4.out.alloc (.cells #[] 3)).alloc (.cells #[.int .i64 x] 3)).drew) (k := .loc 0) rfl q
              have BL0b : Hid _ := ((B4.out.alloc hbw4 (.cells #[] 3)).alloc (by rw [size_alloc]; exact Nat.le_succ_of_le hbw4) (.cells #[.int .i64 x] 3)).drew
              have hbw6 : base ≤ ((w4.alloc (.cells #[] 3)).alloc (.cells #[.int .i64 x] 3)).drew.heap.size := by
                show base ≤ ((w4.alloc (.cells #[] 3)).alloc (.cells #[.int .i64 x] 3)).heap.size
                rw [size_alloc, size_alloc]; omega
              have KXB : Hid (∀ w8 : World, ((w4.alloc (.cells #[] 3)).alloc (.cells #[.int .i64 x] 3)).drew.grownBy w8 (some w4.heap.size) → w8.cell? ⟨w4.heap.size + 1, 0, none⟩ = some (.int .i64 x)) := fun w8 G8 => by
                rw [World.cell?_of_block (a := ⟨w4.heap.size + 1, 0, none⟩) (G8.block (w4.heap.size + 1) (by show w4.heap.size + 1 < ((w4.alloc (.cells #[] 3)).alloc (.cells #[.int .i64 x] 3)).heap.size; rw [size_alloc, size_alloc]; omega) (by intro e; injection e with e; omega))]
                exact cell_new_drew _ _ _ _ (by rw [size_alloc])
              have HL0c : Hid (Holds base ((w4.alloc (.cells #[.int .i64 x] 3)).alloc (.cells #[] 3)).drew (upd (locs (.row v 3 (ints out))) (.loc 1) (.row (.slice (some ⟨w4.heap.size + 1, 0, none⟩) 0 0) 3 []))) := by
                have := (Holds.lit0 (H4.out.alloc (.cells #[.int .i64 x] 3)) (.loc 1) (by rw [size_alloc]; exact Nat.le_succ_of_le hbw4) 3).drew
                rw [size_alloc] at this
                exact this
              have RDc : Hid (Reads ((w4.alloc (.cells #[.int .i64 x] 3)).alloc (.cells #[] 3)).drew (some ⟨gb v, 0, none⟩) (ints (out.take q))) := reads_take (((H4.out.alloc (.cells #[.int .i64 x] 3)).alloc (.cells #[] 3)).drew) (k := .loc 0) rfl q
              have BL0c : Hid _ := ((B4.out.alloc hbw4 (.cells #[.int .i64 x] 3)).alloc (by rw [size_alloc]; exact Nat.le_succ_of_le hbw4) (.cells #[] 3)).drew
              have hbw7 : base ≤ ((w4.alloc (.cells #[.int .i64 x] 3)).alloc (.cells #[] 3)).drew.heap.size := by
                show base ≤ ((w4.alloc (.cells #[.int .i64 x] 3)).alloc (.cells #[] 3)).heap.size
                rw [size_alloc, size_alloc]; omega
              have KXC : Hid (∀ w8 : World, ((w4.alloc (.cells #[.int .i64 x] 3)).alloc (.cells #[] 3)).drew.grownBy w8 (some (w4.heap.size + 1)) → w8.cell? ⟨w4.heap.size, 0, none⟩ = some (.int .i64 x)) := fun w8 G8 => by
                rw [World.cell?_of_block (a := ⟨w4.heap.size, 0, none⟩) (G8.block w4.heap.size (by show w4.heap.size < ((w4.alloc (.cells #[.int .i64 x] 3)).alloc (.cells #[] 3)).heap.size; rw [size_alloc, size_alloc]; omega) (by intro e; injection e with e; omega))]
                exact cell_alloc_keep _ (.cells #[] 3) _ _ (cell_new w4 (.int .i64 x) 3 _ rfl)
              go_wp2_with fail
              go_region_law (first | (refine step_many2 HL0.out (.loc 1) (by rfl) _ _ 23 3 (.int .i64 0) 8 (by rfl) Tryz.underlying23 info3 rfl (by decide) 0 (ints (out.take q)) (upd_same _ _ _) (by rfl) (by rfl) (some ⟨gb v, 0, none⟩) q (cp v) (by rfl) LT.out (by simp) RD.out (ints_one _) hbw5 (by omega) ?_; intro A8 c8 w8 H8 B8; have e8 : w8.cell? ⟨b, o + i, none⟩ = some (.int .i64 x) := (World.cell?_of_block (a := ⟨b, o + i, none⟩) (B8.block b hbb)).trans ex5; have hz8 : base ≤ w8.heap.size := Nat.le_trans hbw5 B8.size; have LS8 : Hid _ := H8.alloc (.cells #[.int .i64 x] 3); have BL8 : Hid _ := (BL0.out.trans B8).alloc hz8 (.cells #[.int .i64 x] 3); clear H8 B8) | (refine step_pushAt LS8.out (.loc 1) (by rfl) _ _ 23 3 (.int .i64 0) 8 (by rfl) Tryz.underlying23 info3 rfl (by decide) q (.int .i64 x) (upd_same _ _ _) (by rw [List.length_append, LT.out]; exact Nat.zero_add q) (by rfl) w8.heap.size (by rfl) (cell_new _ _ _ _ rfl) (by rfl) (by rw [size_alloc]; exact Nat.le_succ_of_le hz8) (by omega) ?_; intro A9 c9 w9 H9 B9; have RD9 : Hid _ := reads_drop H9 (k := .loc 0) rfl q (a' := ⟨gb v, q, none⟩) (fun _ => rfl); have hz9 : base ≤ w9.heap.size := Nat.le_trans (by rw [size_alloc]; exact Nat.le_succ_of_le hz8) B9.size; have HH9 : Hid _ := H9; have BB9 : Hid _ := BL8.out.trans B9; clear H9 B9) | (refine step_many2 HH9.out (.loc 1) (by rfl) _ _ 23 3 (.int .i64 0) 8 (by rfl) Tryz.underlying23 info3 rfl (by decide) (q + 1) (ints (out.drop q)) (upd_same _ _ _) (by rw [List.length_append, List.length_append, LT.out, List.length_nil, Nat.zero_add]; rfl) (by rfl) (some ⟨gb v, q, none⟩) (out.length - q) _ (by rfl) (by rw [ints_length, List.length_drop]) (by simp) RD9.out (ints_one _) hz9 (by omega) ?_; intro A10 c10 w10 H10 B10; have HH10 : Hid _ := H10; have BB10 : Hid _ := BB9.out.trans B10; clear H10 B10) | (refine step_many3 HL0b.out (.loc 1) (by rfl) _ _ 23 3 (.int .i64 0) 8 (by rfl) Tryz.underlying23 info3 rfl (by decide) 0 (ints (out.take q)) (upd_same _ _ _) (by rfl) (by rfl) (some ⟨gb v, 0, none⟩) q (cp v) (by rfl) LT.out (by simp) RDb.out (ints_one _) hbw6 (by omega) ?_; intro A8 c8 w8 H8 B8 G8; have e8c : w8.cell? ⟨w4.heap.size + 1, 0, none⟩ = some (.int .i64 x) := KXB.out w8 G8; have hz8 : base ≤ w8.heap.size := Nat.le_trans hbw6 B8.size; have HH8 : Hid _ := H8; have BH8 : Hid _ := BL0b.out.trans B8; clear H8 B8 G8) | (refine step_pushAt HH8.out (.loc 1) (by rfl) _ _ 23 3 (.int .i64 0) 8 (by rfl) Tryz.underlying23 info3 rfl (by decide) q (.int .i64 x) (upd_same _ _ _) (by rw [List.length_append, LT.out]; exact Nat.zero_add q) (by rfl) (w4.heap.size + 1) (by rfl) e8c (by rfl) hz8 (by omega) ?_; intro A9 c9 w9 H9 B9; have RD9 : Hid _ := reads_drop H9 (k := .loc 0) rfl q (a' := ⟨gb v, q, none⟩) (fun _ => rfl); have hz9 : base ≤ w9.heap.size := Nat.le_trans hz8 B9.size; have HH9 : Hid _ := H9; have BB9 : Hid _ := BH8.out.trans B9; clear H9 B9) | (refine step_many3 HL0c.out (.loc 1) (by rfl) _ _ 23 3 (.int .i64 0) 8 (by rfl) Tryz.underlying23 info3 rfl (by decide) 0 (ints (out.take q)) (upd_same _ _ _) (by rfl) (by rfl) (some ⟨gb v, 0, none⟩) q (cp v) (by rfl) LT.out (by simp) RDc.out (ints_one _) hbw7 (by omega) ?_; intro A8 c8 w8 H8 B8 G8; have e8d : w8.cell? ⟨w4.heap.size, 0, none⟩ = some (.int .i64 x) := KXC.out w8 G8; have hz8 : base ≤ w8.heap.size := Nat.le_trans hbw7 B8.size; have HH8c : Hid _ := H8; have BH8c : Hid _ := BL0c.out.trans B8; clear H8 B8 G8) | (refine step_pushAt HH8c.out (.loc 1) (by rfl) _ _ 23 3 (.int .i64 0) 8 (by rfl) Tryz.underlying23 info3 rfl (by decide) q (.int .i64 x) (upd_same _ _ _) (by rw [List.length_append, LT.out]; exact Nat.zero_add q) (by rfl) w4.heap.size (by rfl) e8d (by rfl) hz8 (by omega) ?_; intro A9 c9 w9 H9 B9; have RD9 : Hid _ := reads_drop H9 (k := .loc 0) rfl q (a' := ⟨gb v, q, none⟩) (fun _ => rfl); have hz9 : base ≤ w9.heap.size := Nat.le_trans hz8 B9.size; have HH9 : Hid _ := H9; have BB9 : Hid _ := BH8c.out.trans B9; clear H9 B9) | (trace_state; fail))
              all_goals
                go_wp2_with fail
                go_roundg m
                case measure => omega
                case rel => exact ⟨i + 1, insM out x, .slice A10 (insM out x).length c10, by go_num, by rw [ins_len LQ.out I3.out]; rfl, by omega, (by have := sort_fin HH10.out; rw [ins_row I3.out] at this; rw [ins_len LQ.out I3.out]; exact this), BB10.out, TT.out, by rw [ins_len LQ.out I3.out]; omega, ins_mem ⟨hx0, hx1⟩ OL.out, fun h => by rw [ins_len LQ.out I3.out] at h; omega⟩
          · have hql : posM x out = out.length := by omega
            have I3 : Hid (insM out x = out.take (posM x out) ++ [x] ++ out.drop (posM x out)) := by
              show insM out x = _
              unfold insM
              rw [if_neg (fun h => hjo h.1)]
            rw [hql] at I3
            rw [hql]
            clear H2 HH OB LC WSZ hjo
            have hge : decide ((out.length : Int) < (out.length : Int)) = false := decide_eq_false (by omega)
            by_cases hz0 : 0 < out.length
            · obtain rfl : AV = some ⟨gb v, 0, none⟩ := AVH.out hz0
              go_wp2_with fail
              go_quiet (fail)
              have H3 : Hid _ := H2H.out.drewN nq
              have B3 : Hid _ := below_drewN_ BW.out nq
              have ex3 : (wr.drewN nq).cell? ⟨b, o + i, none⟩ = some (.int .i64 x) := ex
              have hbw3 : base ≤ (wr.drewN nq).heap.size := hbw
              generalize wr.drewN nq = w3 at *
              clear H2H BW ex
              go_wp2_with fail
              go_quiet (fail)
              have H4 : Hid _ := H3.out.drewN nq
              have B4 : Hid _ := below_drewN_ B3.out nq
              have ex4 : (w3.drewN nq).cell? ⟨b, o + i, none⟩ = some (.int .i64 x) := ex3
              have hbw4 : base ≤ (w3.drewN nq).heap.size := hbw3
              generalize w3.drewN nq = w4 at *
              clear H3 B3 ex3
              have hcq0 : Hid _ := (Classical.em (cp v = out.length))
              rcases hcq0.out with hcq | hcq
              · have hcap : out.length ≤ cp v := by have := H4.out.cap (k := .loc 0) (t := 3) (xs := ints out) rfl; rwa [ints_length] at this
                have LQ : Hid (out.length ≤ out.length) := (by show _ ≤ _; omega)
                have hq1 : (0 : Int) ≤ (out.length : Int) := by omega
                have hq2 : (out.length : Int) ≤ (out.length : Int) := by omega
                have hq3 : (out.length : Int) ≤ (cp v : Int) := by omega
                have hq4 : out.length ≤ cp v := by omega
                have hq5 : cp v = out.length := hcq
                have HL0 : Hid _ := Holds.lit0 H4.out.drew (.loc 1) hbw4 3
                have RD : Hid (Reads (w4.drew.alloc (.cells #[] 3)) (some ⟨gb v, 0, none⟩) (ints (out.take out.length))) := reads_take (H4.out.drew.alloc (.cells #[] 3)) (k := .loc 0) rfl out.length
                have LT : Hid ((ints (out.take out.length)).length = out.length) := by show _ = _; rw [ints_length, List.length_take]; omega
                have BL0 : Hid _ := B4.out.drew.alloc hbw4 (.cells #[] 3)
                have ex5 := cell_alloc_keep w4.drew (.cells #[] 3) _ _ ex4
                have ex5b : (w4.alloc (.cells #[] 3)).drew.cell? ⟨b, o + i, none⟩ = some (.int .i64 x) := ex5
                have hbw5 : base ≤ (w4.drew.alloc (.cells #[] 3)).heap.size := by rw [size_alloc]; exact Nat.le_succ_of_le hbw4
                have HL0b : Hid _ := ((Holds.lit0 H4.out (.loc 1) hbw4 3).alloc (.cells #[.int .i64 x] 3)).drew
                have RDb : Hid (Reads ((w4.alloc (.cells #[] 3)).alloc (.cells #[.int .i64 x] 3)).drew (some ⟨gb v, 0, none⟩) (ints (out.take out.length))) := reads_take (((H4.out.alloc (.cells #[] 3)).alloc (.cells #[.int .i64 x] 3)).drew) (k := .loc 0) rfl out.length
                have BL0b : Hid _ := ((B4.out.alloc hbw4 (.cells #[] 3)).alloc (by rw [size_alloc]; exact Nat.le_succ_of_le hbw4) (.cells #[.int .i64 x] 3)).drew
                have hbw6 : base ≤ ((w4.alloc (.cells #[] 3)).alloc (.cells #[.int .i64 x] 3)).drew.heap.size := by
                  show base ≤ ((w4.alloc (.cells #[] 3)).alloc (.cells #[.int .i64 x] 3)).heap.size
                  rw [size_alloc, size_alloc]; omega
                have KXB : Hid (∀ w8 : World, ((w4.alloc (.cells #[] 3)).alloc (.cells #[.int .i64 x] 3)).drew.grownBy w8 (some w4.heap.size) → w8.cell? ⟨w4.heap.size + 1, 0, none⟩ = some (.int .i64 x)) := fun w8 G8 => by
                  rw [World.cell?_of_block (a := ⟨w4.heap.size + 1, 0, none⟩) (G8.block (w4.heap.size + 1) (by show w4.heap.size + 1 < ((w4.alloc (.cells #[] 3)).alloc (.cells #[.int .i64 x] 3)).heap.size; rw [size_alloc, size_alloc]; omega) (by intro e; injection e with e; omega))]
                  exact cell_new_drew _ _ _ _ (by rw [size_alloc])
                have HL0c : Hid (Holds base ((w4.alloc (.cells #[.int .i64 x] 3)).alloc (.cells #[] 3)).drew (upd (locs (.row v 3 (ints out))) (.loc 1) (.row (.slice (some ⟨w4.heap.size + 1, 0, none⟩) 0 0) 3 []))) := by
                  have := (Holds.lit0 (H4.out.alloc (.cells #[.int .i64 x] 3)) (.loc 1) (by rw [size_alloc]; exact Nat.le_succ_of_le hbw4) 3).drew
                  rw [size_alloc] at this
                  exact this
                have RDc : Hid (Reads ((w4.alloc (.cells #[.int .i64 x] 3)).alloc (.cells #[] 3)).drew (some ⟨gb v, 0, none⟩) (ints (out.take out.length))) := reads_take (((H4.out.alloc (.cells #[.int .i64 x] 3)).alloc (.cells #[] 3)).drew) (k := .loc 0) rfl out.length
                have BL0c : Hid _ := ((B4.out.alloc hbw4 (.cells #[.int .i64 x] 3)).alloc (by rw [size_alloc]; exact Nat.le_succ_of_le hbw4) (.cells #[] 3)).drew
                have hbw7 : base ≤ ((w4.alloc (.cells #[.int .i64 x] 3)).alloc (.cells #[] 3)).drew.heap.size := by
                  show base ≤ ((w4.alloc (.cells #[.int .i64 x] 3)).alloc (.cells #[] 3)).heap.size
                  rw [size_alloc, size_alloc]; omega
                have KXC : Hid (∀ w8 : World, ((w4.alloc (.cells #[.int .i64 x] 3)).alloc (.cells #[] 3)).drew.grownBy w8 (some (w4.heap.size + 1)) → w8.cell? ⟨w4.heap.size, 0, none⟩ = some (.int .i64 x)) := fun w8 G8 => by
                  rw [World.cell?_of_block (a := ⟨w4.heap.size, 0, none⟩) (G8.block w4.heap.size (by show w4.heap.size < ((w4.alloc (.cells #[.int .i64 x] 3)).alloc (.cells #[] 3)).heap.size; rw [size_alloc, size_alloc]; omega) (by intro e; injection e with e; omega))]
                  exact cell_alloc_keep _ (.cells #[] 3) _ _ (cell_new w4 (.int .i64 x) 3 _ rfl)
                go_wp2_with fail
                go_region_law (first | (refine step_many2 HL0.out (.loc 1) (by rfl) _ _ 23 3 (.int .i64 0) 8 (by rfl) Tryz.underlying23 info3 rfl (by decide) 0 (ints (out.take out.length)) (upd_same _ _ _) (by rfl) (by rfl) (some ⟨gb v, 0, none⟩) out.length _ (by rfl) LT.out (by simp) RD.out (ints_one _) hbw5 (by omega) ?_; intro A8 c8 w8 H8 B8; have e8 : w8.cell? ⟨b, o + i, none⟩ = some (.int .i64 x) := (World.cell?_of_block (a := ⟨b, o + i, none⟩) (B8.block b hbb)).trans ex5; have hz8 : base ≤ w8.heap.size := Nat.le_trans hbw5 B8.size; have LS8 : Hid _ := H8.alloc (.cells #[.int .i64 x] 3); have BL8 : Hid _ := (BL0.out.trans B8).alloc hz8 (.cells #[.int .i64 x] 3); clear H8 B8) | (refine step_pushAt LS8.out (.loc 1) (by rfl) _ _ 23 3 (.int .i64 0) 8 (by rfl) Tryz.underlying23 info3 rfl (by decide) out.length (.int .i64 x) (upd_same _ _ _) (by rw [List.length_append, LT.out]; exact Nat.zero_add out.length) (by rfl) w8.heap.size (by rfl) (cell_new _ _ _ _ rfl) (by rfl) (by rw [size_alloc]; exact Nat.le_succ_of_le hz8) (by omega) ?_; intro A9 c9 w9 H9 B9; have RD9 : Hid _ := reads_drop H9 (k := .loc 0) rfl out.length (a' := ⟨gb v, 0, none⟩) (fun h => absurd h (Nat.lt_irrefl _)); have hz9 : base ≤ w9.heap.size := Nat.le_trans (by rw [size_alloc]; exact Nat.le_succ_of_le hz8) B9.size; have HH9 : Hid _ := H9; have BB9 : Hid _ := BL8.out.trans B9; clear H9 B9) | (refine step_many2 HH9.out (.loc 1) (by rfl) _ _ 23 3 (.int .i64 0) 8 (by rfl) Tryz.underlying23 info3 rfl (by decide) (out.length + 1) (ints (out.drop out.length)) (upd_same _ _ _) (by rw [List.length_append, List.length_append, LT.out, List.length_nil, Nat.zero_add]; rfl) (by rfl) (some ⟨gb v, 0, none⟩) 0 _ (by rfl) (by rw [ints_length, List.length_drop]; exact Nat.sub_self _) (by simp) RD9.out (ints_one _) hz9 (by omega) ?_; intro A10 c10 w10 H10 B10; have HH10 : Hid _ := H10; have BB10 : Hid _ := BB9.out.trans B10; clear H10 B10) | (refine step_many3 HL0b.out (.loc 1) (by rfl) _ _ 23 3 (.int .i64 0) 8 (by rfl) Tryz.underlying23 info3 rfl (by decide) 0 (ints (out.take out.length)) (upd_same _ _ _) (by rfl) (by rfl) (some ⟨gb v, 0, none⟩) out.length _ (by rfl) LT.out (by simp) RDb.out (ints_one _) hbw6 (by omega) ?_; intro A8 c8 w8 H8 B8 G8; have e8c : w8.cell? ⟨w4.heap.size + 1, 0, none⟩ = some (.int .i64 x) := KXB.out w8 G8; have hz8 : base ≤ w8.heap.size := Nat.le_trans hbw6 B8.size; have HH8 : Hid _ := H8; have BH8 : Hid _ := BL0b.out.trans B8; clear H8 B8 G8) | (refine step_pushAt HH8.out (.loc 1) (by rfl) _ _ 23 3 (.int .i64 0) 8 (by rfl) Tryz.underlying23 info3 rfl (by decide) out.length (.int .i64 x) (upd_same _ _ _) (by rw [List.length_append, LT.out]; exact Nat.zero_add out.length) (by rfl) (w4.heap.size + 1) (by rfl) e8c (by rfl) hz8 (by omega) ?_; intro A9 c9 w9 H9 B9; have RD9 : Hid _ := reads_drop H9 (k := .loc 0) rfl out.length (a' := ⟨gb v, 0, none⟩) (fun h => absurd h (Nat.lt_irrefl _)); have hz9 : base ≤ w9.heap.size := Nat.le_trans hz8 B9.size; have HH9 : Hid _ := H9; have BB9 : Hid _ := BH8.out.trans B9; clear H9 B9) | (refine step_many3 HL0c.out (.loc 1) (by rfl) _ _ 23 3 (.int .i64 0) 8 (by rfl) Tryz.underlying23 info3 rfl (by decide) 0 (ints (out.take out.length)) (upd_same _ _ _) (by rfl) (by rfl) (some ⟨gb v, 0, none⟩) out.length _ (by rfl) LT.out (by simp) RDc.out (ints_one _) hbw7 (by omega) ?_; intro A8 c8 w8 H8 B8 G8; have e8d : w8.cell? ⟨w4.heap.size, 0, none⟩ = some (.int .i64 x) := KXC.out w8 G8; have hz8 : base ≤ w8.heap.size := Nat.le_trans hbw7 B8.size; have HH8c : Hid _ := H8; have BH8c : Hid _ := BL0c.out.trans B8; clear H8 B8 G8) | (refine step_pushAt HH8c.out (.loc 1) (by rfl) _ _ 23 3 (.int .i64 0) 8 (by rfl) Tryz.underlying23 info3 rfl (by decide) out.length (.int .i64 x) (upd_same _ _ _) (by rw [List.length_append, LT.out]; exact Nat.zero_add out.length) (by rfl) w4.heap.size (by rfl) e8d (by rfl) hz8 (by omega) ?_; intro A9 c9 w9 H9 B9; have RD9 : Hid _ := reads_drop H9 (k := .loc 0) rfl out.length (a' := ⟨gb v, 0, none⟩) (fun h => absurd h (Nat.lt_irrefl _)); have hz9 : base ≤ w9.heap.size := Nat.le_trans hz8 B9.size; have HH9 : Hid _ := H9; have BB9 : Hid _ := BH8c.out.trans B9; clear H9 B9) | (trace_state; fail))
                all_goals
                  go_wp2_with fail
                  go_roundg m
                  case measure => omega
                  case rel => exact ⟨i + 1, insM out x, .slice A10 (insM out x).length c10, by go_num, by rw [ins_len LQ.out I3.out, Nat.sub_self]; rfl, by omega, (by have := sort_fin HH10.out; rw [ins_row I3.out] at this; rw [ins_len LQ.out I3.out, Nat.sub_self]; exact this), BB10.out, TT.out, by rw [ins_len LQ.out I3.out]; omega, ins_mem ⟨hx0, hx1⟩ OL.out, fun h => by rw [ins_len LQ.out I3.out] at h; omega⟩
              · have hcap : out.length ≤ cp v := by have := H4.out.cap (k := .loc 0) (t := 3) (xs := ints out) rfl; rwa [ints_length] at this
                have LQ : Hid (out.length ≤ out.length) := (by show _ ≤ _; omega)
                have hq1 : (0 : Int) ≤ (out.length : Int) := by omega
                have hq2 : (out.length : Int) ≤ (out.length : Int) := by omega
                have hq3 : (out.length : Int) ≤ (cp v : Int) := by omega
                have hq4 : out.length ≤ cp v := by omega
                have hq5 : ¬ cp v = out.length := hcq
                have HL0 : Hid _ := Holds.lit0 H4.out.drew (.loc 1) hbw4 3
                have RD : Hid (Reads (w4.drew.alloc (.cells #[] 3)) (some ⟨gb v, 0, none⟩) (ints (out.take out.length))) := reads_take (H4.out.drew.alloc (.cells #[] 3)) (k := .loc 0) rfl out.length
                have LT : Hid ((ints (out.take out.length)).length = out.length) := by show _ = _; rw [ints_length, List.length_take]; omega
                have BL0 : Hid _ := B4.out.drew.alloc hbw4 (.cells #[] 3)
                have ex5 := cell_alloc_keep w4.drew (.cells #[] 3) _ _ ex4
                have ex5b : (w4.alloc (.cells #[] 3)).drew.cell? ⟨b, o + i, none⟩ = some (.int .i64 x) := ex5
                have hbw5 : base ≤ (w4.drew.alloc (.cells #[] 3)).heap.size := by rw [size_alloc]; exact Nat.le_succ_of_le hbw4
                have HL0b : Hid _ := ((Holds.lit0 H4.out (.loc 1) hbw4 3).alloc (.cells #[.int .i64 x] 3)).drew
                have RDb : Hid (Reads ((w4.alloc (.cells #[] 3)).alloc (.cells #[.int .i64 x] 3)).drew (some ⟨gb v, 0, none⟩) (ints (out.take out.length))) := reads_take (((H4.out.alloc (.cells #[] 3)).alloc (.cells #[.int .i64 x] 3)).drew) (k := .loc 0) rfl out.length
                have BL0b : Hid _ := ((B4.out.alloc hbw4 (.cells #[] 3)).alloc (by rw [size_alloc]; exact Nat.le_succ_of_le hbw4) (.cells #[.int .i64 x] 3)).drew
                have hbw6 : base ≤ ((w4.alloc (.cells #[] 3)).alloc (.cells #[.int .i64 x] 3)).drew.heap.size := by
                  show base ≤ ((w4.alloc (.cells #[] 3)).alloc (.cells #[.int .i64 x] 3)).heap.size
                  rw [size_alloc, size_alloc]; omega
                have KXB : Hid (∀ w8 : World, ((w4.alloc (.cells #[] 3)).alloc (.cells #[.int .i64 x] 3)).drew.grownBy w8 (some w4.heap.size) → w8.cell? ⟨w4.heap.size + 1, 0, none⟩ = some (.int .i64 x)) := fun w8 G8 => by
                  rw [World.cell?_of_block (a := ⟨w4.heap.size + 1, 0, none⟩) (G8.block (w4.heap.size + 1) (by show w4.heap.size + 1 < ((w4.alloc (.cells #[] 3)).alloc (.cells #[.int .i64 x] 3)).heap.size; rw [size_alloc, size_alloc]; omega) (by intro e; injection e with e; omega))]
                  exact cell_new_drew _ _ _ _ (by rw [size_alloc])
                have HL0c : Hid (Holds base ((w4.alloc (.cells #[.int .i64 x] 3)).alloc (.cells #[] 3)).drew (upd (locs (.row v 3 (ints out))) (.loc 1) (.row (.slice (some ⟨w4.heap.size + 1, 0, none⟩) 0 0) 3 []))) := by
                  have := (Holds.lit0 (H4.out.alloc (.cells #[.int .i64 x] 3)) (.loc 1) (by rw [size_alloc]; exact Nat.le_succ_of_le hbw4) 3).drew
                  rw [size_alloc] at this
                  exact this
                have RDc : Hid (Reads ((w4.alloc (.cells #[.int .i64 x] 3)).alloc (.cells #[] 3)).drew (some ⟨gb v, 0, none⟩) (ints (out.take out.length))) := reads_take (((H4.out.alloc (.cells #[.int .i64 x] 3)).alloc (.cells #[] 3)).drew) (k := .loc 0) rfl out.length
                have BL0c : Hid _ := ((B4.out.alloc hbw4 (.cells #[.int .i64 x] 3)).alloc (by rw [size_alloc]; exact Nat.le_succ_of_le hbw4) (.cells #[] 3)).drew
                have hbw7 : base ≤ ((w4.alloc (.cells #[.int .i64 x] 3)).alloc (.cells #[] 3)).drew.heap.size := by
                  show base ≤ ((w4.alloc (.cells #[.int .i64 x] 3)).alloc (.cells #[] 3)).heap.size
                  rw [size_alloc, size_alloc]; omega
                have KXC : Hid (∀ w8 : World, ((w4.alloc (.cells #[.int .i64 x] 3)).alloc (.cells #[] 3)).drew.grownBy w8 (some (w4.heap.size + 1)) → w8.cell? ⟨w4.heap.size, 0, none⟩ = some (.int .i64 x)) := fun w8 G8 => by
                  rw [World.cell?_of_block (a := ⟨w4.heap.size, 0, none⟩) (G8.block w4.heap.size (by show w4.heap.size < ((w4.alloc (.cells #[.int .i64 x] 3)).alloc (.cells #[] 3)).heap.size; rw [size_alloc, size_alloc]; omega) (by intro e; injection e with e; omega))]
                  exact cell_alloc_keep _ (.cells #[] 3) _ _ (cell_new w4 (.int .i64 x) 3 _ rfl)
                go_wp2_with fail
                go_region_law (first | (refine step_many2 HL0.out (.loc 1) (by rfl) _ _ 23 3 (.int .i64 0) 8 (by rfl) Tryz.underlying23 info3 rfl (by decide) 0 (ints (out.take out.length)) (upd_same _ _ _) (by rfl) (by rfl) (some ⟨gb v, 0, none⟩) out.length _ (by rfl) LT.out (by simp) RD.out (ints_one _) hbw5 (by omega) ?_; intro A8 c8 w8 H8 B8; have e8 : w8.cell? ⟨b, o + i, none⟩ = some (.int .i64 x) := (World.cell?_of_block (a := ⟨b, o + i, none⟩) (B8.block b hbb)).trans ex5; have hz8 : base ≤ w8.heap.size := Nat.le_trans hbw5 B8.size; have LS8 : Hid _ := H8.alloc (.cells #[.int .i64 x] 3); have BL8 : Hid _ := (BL0.out.trans B8).alloc hz8 (.cells #[.int .i64 x] 3); clear H8 B8) | (refine step_pushAt LS8.out (.loc 1) (by rfl) _ _ 23 3 (.int .i64 0) 8 (by rfl) Tryz.underlying23 info3 rfl (by decide) out.length (.int .i64 x) (upd_same _ _ _) (by rw [List.length_append, LT.out]; exact Nat.zero_add out.length) (by rfl) w8.heap.size (by rfl) (cell_new _ _ _ _ rfl) (by rfl) (by rw [size_alloc]; exact Nat.le_succ_of_le hz8) (by omega) ?_; intro A9 c9 w9 H9 B9; have RD9 : Hid _ := reads_drop H9 (k := .loc 0) rfl out.length (a' := ⟨gb v, out.length, none⟩) (fun h => absurd h (Nat.lt_irrefl _)); have hz9 : base ≤ w9.heap.size := Nat.le_trans (by rw [size_alloc]; exact Nat.le_succ_of_le hz8) B9.size; have HH9 : Hid _ := H9; have BB9 : Hid _ := BL8.out.trans B9; clear H9 B9) | (refine step_many2 HH9.out (.loc 1) (by rfl) _ _ 23 3 (.int .i64 0) 8 (by rfl) Tryz.underlying23 info3 rfl (by decide) (out.length + 1) (ints (out.drop out.length)) (upd_same _ _ _) (by rw [List.length_append, List.length_append, LT.out, List.length_nil, Nat.zero_add]; rfl) (by rfl) (some ⟨gb v, out.length, none⟩) 0 _ (by rfl) (by rw [ints_length, List.length_drop]; exact Nat.sub_self _) (by simp) RD9.out (ints_one _) hz9 (by omega) ?_; intro A10 c10 w10 H10 B10; have HH10 : Hid _ := H10; have BB10 : Hid _ := BB9.out.trans B10; clear H10 B10) | (refine step_many3 HL0b.out (.loc 1) (by rfl) _ _ 23 3 (.int .i64 0) 8 (by rfl) Tryz.underlying23 info3 rfl (by decide) 0 (ints (out.take out.length)) (upd_same _ _ _) (by rfl) (by rfl) (some ⟨gb v, 0, none⟩) out.length _ (by rfl) LT.out (by simp) RDb.out (ints_one _) hbw6 (by omega) ?_; intro A8 c8 w8 H8 B8 G8; have e8c : w8.cell? ⟨w4.heap.size + 1, 0, none⟩ = some (.int .i64 x) := KXB.out w8 G8; have hz8 : base ≤ w8.heap.size := Nat.le_trans hbw6 B8.size; have HH8 : Hid _ := H8; have BH8 : Hid _ := BL0b.out.trans B8; clear H8 B8 G8) | (refine step_pushAt HH8.out (.loc 1) (by rfl) _ _ 23 3 (.int .i64 0) 8 (by rfl) Tryz.underlying23 info3 rfl (by decide) out.length (.int .i64 x) (upd_same _ _ _) (by rw [List.length_append, LT.out]; exact Nat.zero_add out.length) (by rfl) (w4.heap.size + 1) (by rfl) e8c (by rfl) hz8 (by omega) ?_; intro A9 c9 w9 H9 B9; have RD9 : Hid _ := reads_drop H9 (k := .loc 0) rfl out.length (a' := ⟨gb v, out.length, none⟩) (fun h => absurd h (Nat.lt_irrefl _)); have hz9 : base ≤ w9.heap.size := Nat.le_trans hz8 B9.size; have HH9 : Hid _ := H9; have BB9 : Hid _ := BH8.out.trans B9; clear H9 B9) | (refine step_many3 HL0c.out (.loc 1) (by rfl) _ _ 23 3 (.int .i64 0) 8 (by rfl) Tryz.underlying23 info3 rfl (by decide) 0 (ints (out.take out.length)) (upd_same _ _ _) (by rfl) (by rfl) (some ⟨gb v, 0, none⟩) out.length _ (by rfl) LT.out (by simp) RDc.out (ints_one _) hbw7 (by omega) ?_; intro A8 c8 w8 H8 B8 G8; have e8d : w8.cell? ⟨w4.heap.size, 0, none⟩ = some (.int .i64 x) := KXC.out w8 G8; have hz8 : base ≤ w8.heap.size := Nat.le_trans hbw7 B8.size; have HH8c : Hid _ := H8; have BH8c : Hid _ := BL0c.out.trans B8; clear H8 B8 G8) | (refine step_pushAt HH8c.out (.loc 1) (by rfl) _ _ 23 3 (.int .i64 0) 8 (by rfl) Tryz.underlying23 info3 rfl (by decide) out.length (.int .i64 x) (upd_same _ _ _) (by rw [List.length_append, LT.out]; exact Nat.zero_add out.length) (by rfl) w4.heap.size (by rfl) e8d (by rfl) hz8 (by omega) ?_; intro A9 c9 w9 H9 B9; have RD9 : Hid _ := reads_drop H9 (k := .loc 0) rfl out.length (a' := ⟨gb v, out.length, none⟩) (fun h => absurd h (Nat.lt_irrefl _)); have hz9 : base ≤ w9.heap.size := Nat.le_trans hz8 B9.size; have HH9 : Hid _ := H9; have BB9 : Hid _ := BH8c.out.trans B9; clear H9 B9) | (trace_state; fail))
                all_goals
                  go_wp2_with fail
                  go_roundg m
                  case measure => omega
                  case rel => exact ⟨i + 1, insM out x, .slice A10 (insM out x).length c10, by go_num, by rw [ins_len LQ.out I3.out, Nat.sub_self]; rfl, by omega, (by have := sort_fin HH10.out; rw [ins_row I3.out] at this; rw [ins_len LQ.out I3.out, Nat.sub_self]; exact this), BB10.out, TT.out, by rw [ins_len LQ.out I3.out]; omega, ins_mem ⟨hx0, hx1⟩ OL.out, fun h => by rw [ins_len LQ.out I3.out] at h; omega⟩
            · obtain rfl : out = [] := List.eq_nil_of_length_eq_zero (by omega)
              have hv := NV.out rfl
              subst hv
              obtain rfl : AV = none := AE.out.symm
              have RN : Hid (∀ W : World, Reads W none (ints [])) := fun W => ⟨fun _ => rfl, fun b h => by cases h⟩
              go_wp2_with fail
              go_quiet (fail)
              have H3 : Hid _ := H2H.out.drewN nq
              have B3 : Hid _ := below_drewN_ BW.out nq
              have ex3 : (wr.drewN nq).cell? ⟨b, o + i, none⟩ = some (.int .i64 x) := ex
              have hbw3 : base ≤ (wr.drewN nq).heap.size := hbw
              generalize wr.drewN nq = w3 at *
              clear H2H BW ex
              go_wp2_with fail
              go_quiet (fail)
              have H4 : Hid _ := H3.out.drewN nq
              have B4 : Hid _ := below_drewN_ B3.out nq
              have ex4 : (w3.drewN nq).cell? ⟨b, o + i, none⟩ = some (.int .i64 x) := ex3
              have hbw4 : base ≤ (w3.drewN nq).heap.size := hbw3
              generalize w3.drewN nq = w4 at *
              clear H3 B3 ex3
              have HL0 : Hid _ := Holds.lit0 H4.out.drew (.loc 1) hbw4 3
              have BL0 : Hid _ := B4.out.drew.alloc hbw4 (.cells #[] 3)
              have ex5 := cell_alloc_keep w4.drew (.cells #[] 3) _ _ ex4
              have ex5b : (w4.alloc (.cells #[] 3)).drew.cell? ⟨b, o + i, none⟩ = some (.int .i64 x) := ex5
              have hbw5 : base ≤ (w4.drew.alloc (.cells #[] 3)).heap.size := by rw [size_alloc]; exact Nat.le_succ_of_le hbw4
              have HL0b : Hid _ := ((Holds.lit0 H4.out (.loc 1) hbw4 3).alloc (.cells #[.int .i64 x] 3)).drew
              have BL0b : Hid _ := ((B4.out.alloc hbw4 (.cells #[] 3)).alloc (by rw [size_alloc]; exact Nat.le_succ_of_le hbw4) (.cells #[.int .i64 x] 3)).drew
              have hbw6 : base ≤ ((w4.alloc (.cells #[] 3)).alloc (.cells #[.int .i64 x] 3)).drew.heap.size := by
                show base ≤ ((w4.alloc (.cells #[] 3)).alloc (.cells #[.int .i64 x] 3)).heap.size
                rw [size_alloc, size_alloc]; omega
              have KXB : Hid (∀ w8 : World, ((w4.alloc (.cells #[] 3)).alloc (.cells #[.int .i64 x] 3)).drew.grownBy w8 (some w4.heap.size) → w8.cell? ⟨w4.heap.size + 1, 0, none⟩ = some (.int .i64 x)) := fun w8 G8 => by
                rw [World.cell?_of_block (a := ⟨w4.heap.size + 1, 0, none⟩) (G8.block (w4.heap.size + 1) (by show w4.heap.size + 1 < ((w4.alloc (.cells #[] 3)).alloc (.cells #[.int .i64 x] 3)).heap.size; rw [size_alloc, size_alloc]; omega) (by intro e; injection e with e; omega))]
                exact cell_new_drew _ _ _ _ (by rw [size_alloc])
              have HL0c : Hid (Holds base ((w4.alloc (.cells #[.int .i64 x] 3)).alloc (.cells #[] 3)).drew (upd (locs (.row (.slice none 0 0) 3 (ints []))) (.loc 1) (.row (.slice (some ⟨w4.heap.size + 1, 0, none⟩) 0 0) 3 []))) := by
                have := (Holds.lit0 (H4.out.alloc (.cells #[.int .i64 x] 3)) (.loc 1) (by rw [size_alloc]; exact Nat.le_succ_of_le hbw4) 3).drew
                rw [size_alloc] at this
                exact this
              have BL0c : Hid _ := ((B4.out.alloc hbw4 (.cells #[.int .i64 x] 3)).alloc (by rw [size_alloc]; exact Nat.le_succ_of_le hbw4) (.cells #[] 3)).drew
              have hbw7 : base ≤ ((w4.alloc (.cells #[.int .i64 x] 3)).alloc (.cells #[] 3)).drew.heap.size := by
                show base ≤ ((w4.alloc (.cells #[.int .i64 x] 3)).alloc (.cells #[] 3)).heap.size
                rw [size_alloc, size_alloc]; omega
              have KXC : Hid (∀ w8 : World, ((w4.alloc (.cells #[.int .i64 x] 3)).alloc (.cells #[] 3)).drew.grownBy w8 (some (w4.heap.size + 1)) → w8.cell? ⟨w4.heap.size, 0, none⟩ = some (.int .i64 x)) := fun w8 G8 => by
                rw [World.cell?_of_block (a := ⟨w4.heap.size, 0, none⟩) (G8.block w4.heap.size (by show w4.heap.size < ((w4.alloc (.cells #[.int .i64 x] 3)).alloc (.cells #[] 3)).heap.size; rw [size_alloc, size_alloc]; omega) (by intro e; injection e with e; omega))]
                exact cell_alloc_keep _ (.cells #[] 3) _ _ (cell_new w4 (.int .i64 x) 3 _ rfl)
              go_wp2_with fail
              go_region_law (first | (refine step_many2 HL0.out (.loc 1) (by rfl) _ _ 23 3 (.int .i64 0) 8 (by rfl) Tryz.underlying23 info3 rfl (by decide) 0 (ints []) (upd_same _ _ _) (by rfl) (by rfl) none 0 0 (by rfl) (by rfl) (fun _ => rfl) (RN.out _) (ints_one _) hbw5 (by omega) ?_; intro A8 c8 w8 H8 B8; have e8 : w8.cell? ⟨b, o + i, none⟩ = some (.int .i64 x) := (World.cell?_of_block (a := ⟨b, o + i, none⟩) (B8.block b hbb)).trans ex5; have hz8 : base ≤ w8.heap.size := Nat.le_trans hbw5 B8.size; have LS8 : Hid _ := H8.alloc (.cells #[.int .i64 x] 3); have BL8 : Hid _ := (BL0.out.trans B8).alloc hz8 (.cells #[.int .i64 x] 3); clear H8 B8) | (refine step_pushAt LS8.out (.loc 1) (by rfl) _ _ 23 3 (.int .i64 0) 8 (by rfl) Tryz.underlying23 info3 rfl (by decide) 0 (.int .i64 x) (upd_same _ _ _) (by rfl) (by rfl) w8.heap.size (by rfl) (cell_new _ _ _ _ rfl) (by rfl) (by rw [size_alloc]; exact Nat.le_succ_of_le hz8) (by omega) ?_; intro A9 c9 w9 H9 B9; have hz9 : base ≤ w9.heap.size := Nat.le_trans (by rw [size_alloc]; exact Nat.le_succ_of_le hz8) B9.size; have HH9 : Hid _ := H9; have BB9 : Hid _ := BL8.out.trans B9; clear H9 B9) | (refine step_many2 HH9.out (.loc 1) (by rfl) _ _ 23 3 (.int .i64 0) 8 (by rfl) Tryz.underlying23 info3 rfl (by decide) 1 (ints []) (upd_same _ _ _) (by rfl) (by rfl) none 0 0 (by rfl) (by rfl) (fun _ => rfl) (RN.out _) (ints_one _) hz9 (by omega) ?_; intro A10 c10 w10 H10 B10; have HH10 : Hid _ := H10; have BB10 : Hid _ := BB9.out.trans B10; clear H10 B10) | (refine step_many3 HL0b.out (.loc 1) (by rfl) _ _ 23 3 (.int .i64 0) 8 (by rfl) Tryz.underlying23 info3 rfl (by decide) 0 (ints []) (upd_same _ _ _) (by rfl) (by rfl) none 0 0 (by rfl) (by rfl) (fun _ => rfl) (RN.out _) (ints_one _) hbw6 (by omega) ?_; intro A8 c8 w8 H8 B8 G8; have e8c : w8.cell? ⟨w4.heap.size + 1, 0, none⟩ = some (.int .i64 x) := KXB.out w8 G8; have hz8 : base ≤ w8.heap.size := Nat.le_trans hbw6 B8.size; have HH8 : Hid _ := H8; have BH8 : Hid _ := BL0b.out.trans B8; clear H8 B8 G8) | (refine step_pushAt HH8.out (.loc 1) (by rfl) _ _ 23 3 (.int .i64 0) 8 (by rfl) Tryz.underlying23 info3 rfl (by decide) 0 (.int .i64 x) (upd_same _ _ _) (by rfl) (by rfl) (w4.heap.size + 1) (by rfl) e8c (by rfl) hz8 (by omega) ?_; intro A9 c9 w9 H9 B9; have hz9 : base ≤ w9.heap.size := Nat.le_trans hz8 B9.size; have HH9 : Hid _ := H9; have BB9 : Hid _ := BH8.out.trans B9; clear H9 B9) | (refine step_many3 HL0c.out (.loc 1) (by rfl) _ _ 23 3 (.int .i64 0) 8 (by rfl) Tryz.underlying23 info3 rfl (by decide) 0 (ints []) (upd_same _ _ _) (by rfl) (by rfl) none 0 0 (by rfl) (by rfl) (fun _ => rfl) (RN.out _) (ints_one _) hbw7 (by omega) ?_; intro A8 c8 w8 H8 B8 G8; have e8d : w8.cell? ⟨w4.heap.size, 0, none⟩ = some (.int .i64 x) := KXC.out w8 G8; have hz8 : base ≤ w8.heap.size := Nat.le_trans hbw7 B8.size; have HH8c : Hid _ := H8; have BH8c : Hid _ := BL0c.out.trans B8; clear H8 B8 G8) | (refine step_pushAt HH8c.out (.loc 1) (by rfl) _ _ 23 3 (.int .i64 0) 8 (by rfl) Tryz.underlying23 info3 rfl (by decide) 0 (.int .i64 x) (upd_same _ _ _) (by rfl) (by rfl) w4.heap.size (by rfl) e8d (by rfl) hz8 (by omega) ?_; intro A9 c9 w9 H9 B9; have hz9 : base ≤ w9.heap.size := Nat.le_trans hz8 B9.size; have HH9 : Hid _ := H9; have BB9 : Hid _ := BH8c.out.trans B9; clear H9 B9) | (trace_state; fail))
              all_goals
                go_wp2_with fail
                go_roundg m
                case measure => omega
                case rel => exact ⟨i + 1, insM [] x, .slice A10 1 c10, by go_num, rfl, by omega, sort_fin HH10.out, BB10.out, TT.out, by show 1 ≤ i + 1; omega, ins_mem ⟨hx0, hx1⟩ OL.out, fun h => by cases h⟩
    · have hnil : l.drop i = [] := List.drop_eq_nil_of_le (by omega)
      have hge : decide (i < l.length) = false := decide_eq_false (by omega)
      have hge2 : l.length ≤ i := by omega
      rw [hnil] at hT
      have hT5 : out = sortedM l := hT
      have HH : Hid _ := H
      have BH : Hid _ := B
      have TT : Hid _ := hT5
      clear hlt hnil hT H B hob hT5
      go_wp2_with fail
      go_ret
      exact ⟨v, by rw [← TT.out]; rfl, BH.out, by rw [← TT.out]; exact HH.out⟩
end Go.Proofs.YtdllaphnkbnpoaaGreat
