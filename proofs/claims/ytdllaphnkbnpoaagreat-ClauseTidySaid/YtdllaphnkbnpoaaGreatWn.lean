/- Walks over package search: Search. -/
import Derived.Test.YtdllaphnkbnpoaaGreatWm
import Derived.Deep.RegionLaw
namespace Go.Proofs.YtdllaphnkbnpoaaGreat
open Go.RowKit Go.Proofs

theorem list_set_same {α : Type} {l : List α} {i : Nat} {x : α} (h : l[i]? = some x) : l.set i x = l := by
  apply List.ext_getElem?
  intro j
  rw [List.getElem?_set]
  split
  · rename_i e; subst e; rw [h]; simp [(List.getElem?_eq_some_iff.1 h).1]
  · rfl

theorem failed_same {base p fuel : Nat} {σ : S} {μ : Vals} {loc : Nat → Res} {w : World} (H : Holds base w (full p fuel σ μ loc)) (G : Good σ μ) : Holds base (w.setCell ⟨p, 3, none⟩ (.slice none 0 0)) (full p fuel σ μ loc) := by
  have h := H.setCell (k := .st) (b := p) rfl 3 (.slice none 0 0) (full_base H)
  have e : (stCells fuel σ μ).set 3 (.slice none 0 0) = stCells fuel σ μ := list_set_same (by rw [← G.failed]; rfl)
  rw [e] at h
  have e2 : upd (full p fuel σ μ loc) .st (.cells p (stCells fuel σ μ) 75) = full p fuel σ μ loc := upd_id _ _
  rw [e2] at h
  exact h

theorem put_blk {p fuel : Nat} {σ : S} {μ : Vals} {loc : Nat → Res} {k : Key} {r : Res} (hk : k ≠ .st) : (upd (full p fuel σ μ loc) k r .st).blk = some p := by rw [put_st hk]; rfl

theorem loc1_clear (r : Res) : (fun i => if i = 1 then Res.non else setLoc (fun _ => Res.non) 1 r i) = fun _ => Res.non := by
  funext i; simp only [setLoc]; split
  · rfl
  · rfl

theorem take_set_drop {v q : List Int} {i : Nat} (hv : i < v.length) (hq : i < q.length) : (v.take i ++ q.drop i).set i (at0 v i) = v.take (i + 1) ++ q.drop (i + 1) := by
  have hl : (v.take i).length = i := by rw [List.length_take]; omega
  rw [List.set_append_right _ _ (by omega), hl, Nat.sub_self, List.drop_eq_getElem_cons hq]
  have : at0 v i = v[i] := by simp [at0, hv]
  have e : v.take (i + 1) = v.take i ++ [v[i]] := by rw [List.take_add_one]; simp [hv]
  rw [List.set_cons_zero, this, e, List.append_assoc]
  rfl

section
variable {P : Program} {ops : Array Oper} {o : Oper} {a : Act} {Q : Exit → Act → World → Prop} {K : Act → World → Prop} {E : Prop}
theorem step_pushAt {base : Nat} {W : World} {L : Key → Res} (H : Holds base W L) (k : Key) (hgd : o.guard = none) (s x : Operand) (t e : TypeId) (z : Value) (bytes : Nat)
    (ho : o.op = .call { callee := .builtin .append, args := #[s, x], argTypes := #[t, t] })
    (ht : P.underlying t = some (.slice e)) (hinfo : (P.info? e).map (fun i => (i.zero, i.size, i.bytes)) = some (some z, 1, bytes)) (hz : z.cells.size = 1) (hb0 : 0 < bytes)
    {v : Value} {xs : List Value} (n : Nat) (y : Value) (hk : L k = .row v e xs) (hn : xs.length = n) (hs : a.eval s = .slice (ad v) n (cp v)) (b : Nat) (hx : a.eval x = .slice (some ⟨b, 0, none⟩) 1 1)
    (hy : W.cell? ⟨b, 0, none⟩ = some y) (h1 : y.oneCell' = true) (hbase : base ≤ W.heap.size) (hl : (n + 1) * bytes ≤ 140737488355328)
    (h : ∀ A c w1, Holds base w1 (upd L k (.row (.slice A (n + 1) c) e (xs ++ [y]))) → Below base W w1 → K (a.put o.dst (.slice A (n + 1) c)) w1) :
    if Region.wanted o (yielded ops a.tmps) = true then Oper.wp P o a W K Q else E := by
  subst hn
  exact step_push H k hgd s x t e z bytes ho ht hinfo hz hb0 v xs y (by rw [hk]; rfl) (H.owns hk) (by rw [hs, ← H.sl hk]) b hx hy h1 hbase hl (fun A c w1 h1 h2 _ => h A c w1 h1 h2)
end

def PhRel (base p fuel : Nat) (σ : S) (μ : Vals) (w : World) (k : Nat) (x114 : Value) (wr : World) : Prop :=
  ∃ i : Nat, x114 = .int .i64 (i : Int) ∧ k + i = σ.value.length ∧ Holds base wr (full p fuel { σ with phase := σ.value.take i ++ σ.phase.drop i } μ (fun _ => .non)) ∧ Below base w wr

theorem roundO_nonneg {l : Int} : ∀ {ks stay : List Nat} {σ τ : S} {r : Int}, S.roundO l ks stay σ = some (τ, r) → r = -1 ∨ 0 ≤ r := by
  intro ks
  induction ks with
  | nil =>
    intro stay σ τ r h
    rw [S.roundO] at h
    injection h with h; injection h with _ h; exact .inl h.symm
  | cons k ks ih =>
    intro stay σ τ r h
    obtain ⟨_, _, _, _, x, _, h⟩ := roundO_cons h
    rcases h with ⟨_, h⟩ | ⟨_, υ, _, _, h⟩ | ⟨_, _, h⟩ | ⟨_, _, φ, _, h⟩
    · exact ih h
    · exact ih h
    · injection h with _ h; right; omega
    · exact ih h
theorem propO_nonneg : ∀ {n : Nat} {σ τ : S} {r : Int}, S.propO n σ = some (τ, r) → r = -1 ∨ 0 ≤ r := by
  intro n
  induction n with
  | zero => intro σ τ r h; rw [S.propO] at h; cases h
  | succ n ih =>
    intro σ τ r h
    rw [S.propO] at h
    split at h
    · injection h with h; injection h with _ h; exact .inl h.symm
    · simp only [] at h
      split at h
      · obtain ⟨⟨υ, q⟩, hr, h⟩ := Option.bind_eq_some_iff.1 h
        simp only [] at h
        split at h
        · exact ih h
        · injection h with h; injection h with _ h; subst h; exact roundO_nonneg hr
      · cases h

theorem loc3_clear1 (a b c r : Res) : (fun i => if i = 1 then Res.non else setLoc (loc3 a b c) 1 r i) = loc3 a b c := by
  funext i
  by_cases h : i = 1
  · subst h; rfl
  · simp [h, setLoc]

theorem scanO_log {now : Nat} {skip : Int} : ∀ {ls : List Int} {σ τ : S} {q r : Scan}, S.scanO now skip ls σ q = some (τ, r) → τ.log = σ.log := by
  intro ls
  induction ls with
  | nil => intro σ τ q r h; rw [S.scanO] at h; injection h with h; injection h with h1 h2; rw [← h1]
  | cons l ls ih =>
    intro σ τ q r h
    obtain ⟨_, _, _, _, _, _, _, h⟩ := scanO_cons h
    rcases h with ⟨_, h⟩ | ⟨_, _, _, _, h⟩ | ⟨_, _, _, _, h⟩
    · exact ih h
    · exact (ih h).trans rfl
    · exact (ih h).trans rfl
theorem learnO_log {now : Nat} : ∀ {m n k : Nat} {σ : S} {q : Scan} {skip : Int} {R : S × List Int × Nat}, S.learnO now m σ q n k skip = some R → R.1.log = σ.log := by
  intro m
  induction m with
  | zero => intro n k σ q skip R h; rw [S.learnO] at h; cases h
  | succ m ih =>
    intro n k σ q skip R h
    obtain ⟨_, _, τ, r, i, hs, _, _, _, _, _, h⟩ := learnO_succ h
    rcases h with ⟨_, c, lev, _, rfl⟩ | ⟨_, _, h⟩
    · exact (show τ.log = σ.log from scanO_log hs)
    · exact (ih h).trans (show τ.log = σ.log from scanO_log hs)
theorem learnTop_log {σ φ : S} {k lev : Nat} {c : List Int} (h : σ.learnTopO k = some (φ, c, lev)) : φ.log = σ.log := by
  unfold S.learnTopO at h
  split at h
  · exact learnO_log h
  · cases h

theorem loc3_clear0 (a : Res) : (fun i => if i = 0 then Res.non else loc3 a .non .non i) = fun _ => Res.non := by
  funext i
  by_cases h : i = 0
  · simp [h]
  · simp [h, loc3]

def SearchRel (base p fuel : Nat) (R : S × Int) (w : World) (k : Nat) (wr : World) : Prop :=
  ∃ σ μ, Holds base wr (full p fuel σ μ (fun _ => .non)) ∧ Good σ μ ∧ Below base w wr ∧ S.searchO fuel k σ = some R

set_option maxRecDepth 100000 in
set_option maxHeartbeats 2000000 in
theorem search_any {base p fuel m : Nat} {σ σ' : S} {μ : Vals} {w : World} {r : Int} (H : Holds base w (full p fuel σ μ (fun _ => .non))) (G : Good σ μ) (h : ((σ.backO 0).bind fun τ => S.searchO fuel m τ) = some (σ', r)) :
    Calls Tryz.prog 66 #[.pointer (some ⟨p, 0, none⟩), .slice none 0 0] w fun e w' => e = .returned (.int .i64 r) ∧ Post base w p fuel σ' (fun _ => .non) w' := by
  obtain ⟨σ0, hb, hS⟩ := Option.bind_eq_some_iff.1 h
  clear h
  have BK := back_any (n := 0) H G hb
  have HS : Hid _ := hS
  have P0 : 0 < p + 1 := by omega
  clear H G hb hS
  go_enter Tryz.func66, Tryz.ntmps66
  go_wp2_with fail
  refine BK.mono ?_
  rintro e w1 ⟨rfl, μ1, H1, G1, B1⟩
  have k3 := full_cell H1 3 rfl
  have f3 := full_free H1 3
  have F3 : Hid _ := failed_same H1 G1
  have B3 : Hid _ := B1.setCell (p := ⟨p, 3, none⟩) (full_lt H1).1 (.slice none 0 0)
  have G3 : Hid _ := G1
  clear H1 G1 B1 BK
  go_wp2_with fail
  generalize w1.setCell ⟨p, 3, none⟩ (.slice none 0 0) = w2 at *
  clear k3 f3
  go_loopg [20] 0 (fun k x20 wr => x20 = .int .i64 0 ∧ wr = w2)
  case atStart => exact ⟨rfl, rfl⟩
  case round =>
    obtain ⟨rfl, rfl⟩ := hrel
    go_wp2_with fail
    have start : Hid (SearchRel base p fuel (σ', r) w m wr) := ⟨σ0, μ1, F3.out, G3.out, B3.out, HS.out⟩
    clear F3 G3 B3 HS
    go_loopg [7] m (fun k x7 wr => SearchRel base p fuel (σ', r) w k wr)
    case atStart => exact start.out
    case round =>
      clear start
      obtain ⟨τ, μ2, H, G, B, hR⟩ := hrel
      obtain ⟨n, rfl⟩ : ∃ m, gk = m + 1 := by
        cases gk with
        | zero => rw [S.searchO] at hR; cases hR
        | succ m => exact ⟨m, rfl⟩
      have c14 := full_cell H 14 rfl
      rw [S.searchO] at hR
      by_cases hbr : τ.broken = true
      · rw [if_pos hbr] at hR
        rw [hbr] at c14
        split at hR
        · rename_i hlg
          injection hR with hR
          injection hR with hR1 hR2
          subst hR2
          have RE : Hid _ := hR1
          have c2 := full_c2 H G.vlogs
          have H1 := hold_nil H 1 3
          have L0 : Hid _ := H1.alloc (.cells #[.slice none 0 0] 23)
          have BL : Hid _ := B.alloc (full_base H) (.cells #[.slice none 0 0] 23)
          have GG : Hid _ := G
          clear H G B H1 hR1
          go_wp2_with (at_builtin; refine law_pushAt L0.out (.fld 2) rfl (.tmp 37) (.tmp 38) 22 23 (.slice none 0 0) 24 rfl Tryz.underlying22 info23 rfl (by decide) τ.log.length (.slice none 0 0) rfl GG.out.vlogs rfl wr.heap.size rfl ?hy rfl ?hb ?hl ?_)
          try (case hy => first | exact cell_new _ _ _ _ rfl | exact cell_new_drew _ _ _ _ rfl)
          case hb => exact full_base L0.out
          case hl => omega
          intro A cc w5 H5 B5 S5
          have k2 := put_cell (by simp) H5 2 rfl
          have m2 := put_free (by simp) H5 2
          have D : Hid _ := abs_log (vc := .slice none 0 0) (c := []) GG.out rfl H5
          have BD : Hid _ := (BL.out.trans B5).setCell (p := ⟨p, 2, none⟩) (H5.lt .st (put_blk (by simp))).1 (.slice A (τ.log.length + 1) cc)
          clear H5 B5 S5 BL L0 GG
          go_wp2_with fail
          go_ret
          obtain ⟨H6, G6⟩ := D.out
          refine ⟨rfl, _, ?_, by rw [← RE.out]; exact G6, BD.out⟩
          rw [← RE.out]
          rw [loc1_clear] at H6
          exact H6
        · cases hR
      · have hbf : τ.broken = false := by simpa using hbr
        rw [if_neg hbr] at hR
        rw [hbf] at c14
        obtain ⟨⟨υ, q⟩, hp, hR⟩ := Option.bind_eq_some_iff.1 hR
        have PR := propagate_any H G rfl hp
        have hqn := propO_nonneg hp
        simp only [] at hR
        split at hR
        · rename_i hc
          obtain ⟨hm6, ht6, hev, hv0, hv6, hl6⟩ := hc
          have RR : Hid _ := hR
          have EV : Hid _ := hev
          have BB : Hid _ := B
          clear H G B hp hR hev hbr hbf
          go_wp2_with fail
          refine PR.mono ?_
          rintro e w3 ⟨rfl, μ3, H3, G3, B3⟩
          have HH : Hid _ := H3
          have GG : Hid _ := G3
          have B3H : Hid _ := BB.out.trans B3
          have c12 := full_c12 H3
          clear H3 G3 B3 PR BB c14
          by_cases hq : q = -1
          · subst hq
            have RR2 := RR.out
            rw [if_neg (by simp)] at RR2
            clear RR
            have c0 := full_cell HH.out 0 rfl
            have c1 := full_cell HH.out 1 rfl
            by_cases hfu : fuel < υ.steps
            · rw [if_pos hfu] at RR2
              injection RR2 with RR2
              injection RR2 with hR1 hR2
              subst hR1 hR2
              have hfu2 : (fuel : Int) < (υ.steps : Int) := by omega
              clear hfu
              go_wp2_with fail
              go_quiet (fail)
              go_wp2_with fail
              go_ret
              exact ⟨rfl, μ3, HH.out.drewN _, GG.out, below_drewN B3H.out _⟩
            · rw [if_neg hfu] at RR2
              have hfu2 : decide (fuel < υ.steps) = false := decide_eq_false hfu
              have hfu3 : υ.steps ≤ fuel := by omega
              have RH : Hid _ := RR2
              clear RR2 hfu
              go_wp2_with fail
              go_quiet (fail)
              generalize hw4 : w3.drewN _ = w4 at *
              have H4 : Hid (Holds base w4 (full p fuel υ μ3 (fun _ => .non))) := by rw [← hw4]; exact HH.out.drewN _
              have B4 : Hid (Below base w w4) := by rw [← hw4]; exact below_drewN B3H.out _
              clear hw4 c0 c1 c12
              have NX := next_any H4.out EV.out hv0 hv6
              go_wp2_with fail
              refine NX.mono ?_
              rintro e w5' ⟨rfl, n5, hw5⟩
              have H5 : Hid (Holds base w5' (full p fuel υ μ3 (fun _ => .non))) := by rw [hw5]; exact H4.out.drewN _
              have B5 : Hid (Below base w w5') := by rw [hw5]; exact below_drewN B4.out _
              clear hw5 H4 B4 NX
              by_cases hd : υ.decide_ = 0
              · have RR3 := RH.out
                rw [if_pos hd] at RR3
                injection RR3 with RR3
                injection RR3 with hR1 hR2
                subst hR1 hR2
                rw [hd]
                obtain ⟨E1, E2, E3, E4⟩ := EV.out
                have E4H : Hid _ := E4
                have pstart : Hid (PhRel base p fuel υ μ3 w υ.value.length (.int .i64 ((0 : Nat) : Int)) w5') := ⟨0, rfl, rfl, by simpa using H5.out, B5.out⟩
                have c6 := full_c6 H5.out hv0
                clear RH E1 E2 E3 E4 EV H5 B5 hd HH B3H
                go_wp2_with fail
                clear c6
                go_loopg [114] υ.value.length (fun k x114 wr => PhRel base p fuel υ μ3 w k x114 wr)
                case atStart => exact pstart.out
                case round =>
                  clear pstart
                  obtain ⟨i, rfl, hki, H, B⟩ := hrel
                  have hpl : (υ.value.take i ++ υ.phase.drop i).length = υ.value.length := by
                    rw [List.length_append, List.length_take, List.length_drop, E4H.out]; omega
                  by_cases hlt : i < υ.value.length
                  · have c6 := full_c6 H hv0
                    have c10 := full_c10 H (by show 0 < (υ.value.take i ++ υ.phase.drop i).length; omega)
                    have v6 := full_v6 H hlt
                    have v10 := full_v10 H (n := i) (by show i < (υ.value.take i ++ υ.phase.drop i).length; omega)
                    have f10 := H.free (k := .fld 10) rfl (by rw [i8s_length]; show 0 < (υ.value.take i ++ υ.phase.drop i).length; omega) i
                    have b10 := full_b10 H (by show 0 < (υ.value.take i ++ υ.phase.drop i).length; omega)
                    have BS : Hid _ := (B.setCell (p := ⟨gb μ3.pha, i, none⟩) (H.lt _ b10).1 (.int .i8 (at0 υ.value i))).drew
                    have HS0 := H.store (k := .fld 10) rfl (i := i) (by rw [i8s_length]; show i < (υ.value.take i ++ υ.phase.drop i).length; omega) (.int .i8 (at0 υ.value i)) (full_base H)
                    rw [i8s_set, abs_10] at HS0
                    rw [take_set_drop hlt (by rw [E4H.out]; exact hlt)] at HS0
                    have HS : Hid _ := HS0.drew
                    rw [hpl] at c10
                    clear H B HS0 hpl
                    go_wp2_with fail
                    go_region
                    go_wp2_with fail
                    go_roundg (gk - 1)
                    case measure => omega
                    case rel => exact ⟨i + 1, by go_num, by omega, HS.out, BS.out⟩
                  · have hie : i = υ.value.length := by omega
                    have hge : υ.value.length ≤ i := by omega
                    have hge2 : decide (i < υ.value.length) = false := decide_eq_false (by omega)
                    have HH2 : Hid _ := H
                    have BB2 : Hid _ := B
                    have HIE : Hid _ := hie
                    clear H B hlt hie
                    go_wp2_with fail
                    go_ret
                    refine ⟨rfl, μ3, ?_, ⟨GG.out.vcs, GG.out.vlogs, GG.out.wk, GG.out.not, GG.out.failed⟩, BB2.out⟩
                    have := HH2.out
                    rw [HIE.out, List.take_length, ← E4H.out, List.drop_length, List.append_nil] at this
                    exact this
              · have RR3 := RH.out
                rw [if_neg hd] at RR3
                have g3 : (υ.decide_ == 0) = false := by simp [hd]
                have c11 := full_c11 H5.out
                have c12 := full_c12 H5.out
                have f12 := full_free H5.out 12
                have RR4 : Hid _ := RR3
                clear RH HH B3H RR3
                have MF : Hid (μ3.mar = .slice (ad μ3.mar) υ.marks.length (cp μ3.mar)) := by have := H5.out.sl (k := .fld 12) (v := μ3.mar) (t := 3) (xs := nats υ.marks) rfl; rwa [nats_length] at this
                have LH : Hid _ := (H5.out.alloc (.cells #[.int .i64 (υ.trail.length : Int)] 3)).drew
                have BL : Hid _ := (B5.out.alloc (full_base H5.out) (.cells #[.int .i64 (υ.trail.length : Int)] 3)).drew
                go_wp2_with fail
                have k12a := full_c12 LH.out
                go_region_law (first | (refine step_pushAt LH.out (.fld 12) (by rfl) _ _ 23 3 (.int .i64 0) 8 (by rfl) Tryz.underlying23 info3 rfl (by decide) υ.marks.length (.int .i64 (υ.trail.length : Int)) rfl (nats_length _) (by rfl) w5'.heap.size (by rfl) (cell_new_drew _ _ _ _ rfl) (by rfl) (full_base LH.out) (by omega) ?_; intro A4 c4 w6 H6 B6; have k12 : w6.cell? ⟨p, 12, none⟩ = some (.slice (ad μ3.mar) υ.marks.length (cp μ3.mar)) := (put_cell (by simp) H6 12 rfl).trans (congrArg some MF.out); have m12 := put_free (by simp) H6 12; have H6H : Hid _ := H6; have B6H : Hid _ := BL.out.trans B6; clear H6 B6))
                all_goals
                  clear k12a k12 m12 c11 c12 f12
                  obtain ⟨ψ, hs, hrest⟩ := Option.bind_eq_some_iff.1 RR4.out
                  have H7 : Holds base (w6.setCell ⟨p, 12, none⟩ (.slice A4 (υ.marks.length + 1) c4)) (full p fuel { υ with marks := υ.marks ++ [υ.trail.length] } { μ3 with mar := .slice A4 (υ.marks.length + 1) c4 } (fun _ => .non)) := by
                    have := H6H.out.setCell (k := .st) (put_st (by simp)) 12 (.slice A4 (υ.marks.length + 1) c4) (put_base (by simp) H6H.out).1
                    rw [nats_snoc, abs_12] at this
                    exact this
                  have B7 := B6H.out.setCell (p := ⟨p, 12, none⟩) (full_lt H5.out).1 (.slice A4 (υ.marks.length + 1) c4)
                  have ST := set_any H7 ⟨GG.out.vcs, GG.out.vlogs, GG.out.wk, GG.out.not, GG.out.failed⟩ hs
                  have B7H : Hid _ := B7
                  have RE : Hid _ := hrest
                  clear B7 H7 hs hrest H6H B6H LH BL MF RR4
                  generalize w6.setCell ⟨p, 12, none⟩ (.slice A4 (υ.marks.length + 1) c4) = w7 at *
                  go_wp2_with fail
                  refine ST.mono ?_
                  rintro e w8 ⟨rfl, PK⟩
                  have PH : Hid _ := PK.post
                  clear PK ST
                  go_wp2_with fail
                  go_roundg n
                  case measure => omega
                  case rel =>
                    obtain ⟨μ8, H8, G8, B8⟩ := PH.out
                    exact ⟨ψ, μ8, H8, G8, B7H.out.trans B8, RE.out⟩
          · have RR2 := RR.out
            rw [if_pos hq] at RR2
            clear RR
            by_cases hmk : υ.marks.length = 0
            · rw [if_pos hmk] at RR2
              rw [hmk] at c12
              have RH : Hid _ := RR2
              clear RR2
              have g1 : (q != -1) = true := by simp [hq]
              have g2 : (q == -1) = false := by simp [hq]
              have k14 := full_cell HH.out 14 rfl
              have f14 := full_free HH.out 14
              have H4 : Hid _ := HH.out.setCell (k := .st) (b := p) rfl 14 (.bool true) (full_base HH.out)
              have B4 : Hid _ := B3H.out.setCell (p := ⟨p, 14, none⟩) (full_lt HH.out).1 (.bool true)
              clear hmk
              go_wp2_with fail
              go_roundg n
              case measure => omega
              case rel => exact ⟨{ υ with broken := true }, μ3, by have := H4.out; rw [abs_broken] at this; exact this, ⟨GG.out.vcs, GG.out.vlogs, GG.out.wk, GG.out.not, GG.out.failed⟩, B4.out, RH.out⟩
            · rw [if_neg hmk] at RR2
              obtain ⟨k, rfl⟩ : ∃ k : Nat, q = (k : Int) := ⟨q.toNat, by rcases hqn with h | h <;> omega⟩
              rw [Int.toNat_natCast] at RR2
              obtain ⟨⟨φ, c, lev⟩, hle, RR3⟩ := Option.bind_eq_some_iff.1 RR2
              simp only [] at RR3
              have g1 : (((k : Int)) != -1) = true := by simp
              have g2 : (((υ.marks.length : Nat) : Int) == 0) = false := by simp [hmk]
              split at RR3
              · rename_i hcl
                obtain ⟨hc1, hc6, hlev⟩ := hcl
                have hlg6 : φ.log.length < 60000 := by rw [learnTop_log hle]; exact hl6
                have LN := learn_any HH.out GG.out hle
                have RH : Hid _ := RR3
                clear RR2 RR3 hle HH GG hqn hq hmk
                go_wp2_with fail
                refine LN.mono ?_
                rintro e w4 ⟨vc, μ4, rfl, H4, G4, B4⟩
                have H4H : Hid _ := H4
                have G4H : Hid _ := G4
                have B4H : Hid _ := B3H.out.trans B4
                clear H4 G4 B4 B3H LN c12
                go_wp2_with fail
                have k2 := full_c2 H4H.out G4H.out.vlogs
                have CN := clone_any (k := 0) H4H.out.drew rfl hc1 hc6 1
                go_region_law (first | (go_simp; go_at_call 53; refine CN.mono ?_; rintro e w6 ⟨v', rfl, H6, B6⟩; obtain ⟨Av, cv, rfl⟩ : ∃ A c0, v' = Value.slice A c.length c0 := (by have := H6.sl (k := .loc 1) (v := v') (t := 3) (xs := ints c) rfl; rw [ints_length] at this; exact ⟨_, _, this⟩); have k26 := full_c2 H6 G4H.out.vlogs; have k26a := full_c2 (H6.alloc (.cells #[.slice Av c.length cv] 23)) G4H.out.vlogs; have L6 : Hid _ := H6.alloc (.cells #[.slice Av c.length cv] 23); have BL : Hid _ := (B4H.out.drew.trans B6).alloc (full_base H6) (.cells #[.slice Av c.length cv] 23); clear H6 B6) | (refine step_pushAt L6.out (.fld 2) (by rfl) _ _ 22 23 (.slice none 0 0) 24 (by rfl) Tryz.underlying22 info23 rfl (by decide) φ.log.length (.slice Av c.length cv) rfl G4H.out.vlogs (by rfl) w6.heap.size (by rfl) (cell_new _ _ _ _ rfl) (by rfl) (full_base L6.out) (by omega) ?_; intro A4 c4 w7 H7 B7; have k27 := put_cell (by simp) H7 2 rfl; have m27 := put_free (by simp) H7 2; have H7H : Hid _ := H7; have B7H : Hid _ := BL.out.trans B7; clear H7 B7))
                all_goals
                  clear k2 k26 k26a k27 m27
                  obtain ⟨χ, hbk, RR5⟩ := Option.bind_eq_some_iff.1 RH.out
                  have D := abs_log (vc := .slice Av c.length cv) (c := c) G4H.out rfl H7H.out
                  rw [loc3_clear1] at D
                  have BK := back_any (n := lev) D.1 D.2 hbk
                  have BD : Hid _ := B7H.out.setCell (p := ⟨p, 2, none⟩) (full_lt H4H.out).1 (.slice A4 (φ.log.length + 1) c4)
                  have R5 : Hid _ := RR5
                  clear RH D hbk RR5 H7H B7H L6 BL CN
                  generalize w7.setCell ⟨p, 2, none⟩ (.slice A4 (φ.log.length + 1) c4) = w8 at *
                  go_wp2_with fail
                  refine BK.mono ?_
                  rintro e w9 ⟨rfl, μ9, H9, G9, B9⟩
                  have H9H : Hid _ := H9
                  have G9H : Hid _ := G9
                  have B9H : Hid _ := BD.out.trans B9
                  have e0 : w9.cell? ⟨gb vc, 0, none⟩ = some (.int .i64 (at0 c 0)) := H9.elem (k := .loc 0) rfl (ints_at c (by omega))
                  have i0 : (0 : Int) < (c.length : Int) := by omega
                  clear H9 G9 B9 BK BD
                  by_cases hone : c.length = 1
                  · have R6 := R5.out
                    rw [if_pos hone] at R6
                    obtain ⟨ψ, hs, hrest⟩ := Option.bind_eq_some_iff.1 R6
                    have ST := set_any H9H.out G9H.out hs
                    have RE : Hid _ := hrest
                    have g4 : ((c.length : Int) == 1) = true := by simp [hone]
                    clear R6 R5 hs hrest
                    go_wp2_with fail
                    refine ST.mono ?_
                    rintro e w10 ⟨rfl, PK⟩
                    have PH : Hid _ := PK.post
                    clear PK ST
                    go_wp2_with fail
                    go_roundg n
                    case measure => omega
                    case rel =>
                      obtain ⟨μ10, H10, G10, B10⟩ := PH.out
                      have H11 := H10.drop (.loc 0)
                      rw [upd_loc, loc3_0, loc3_non] at H11
                      exact ⟨ψ, μ10, H11, G10, B9H.out.trans B10, RE.out⟩
                  · have R6 := R5.out
                    rw [if_neg hone] at R6
                    obtain ⟨χ2, hk, R7⟩ := Option.bind_eq_some_iff.1 R6
                    obtain ⟨ψ, hs, hrest⟩ := Option.bind_eq_some_iff.1 R7
                    have KP := keep_cell H9H.out.drew G9H.out (vc := vc) (c := c) rfl hk
                    have had : ad vc = some ⟨gb vc, 0, none⟩ := H9H.out.ad_ (k := .loc 0) (t := 3) (xs := ints c) rfl (by rw [ints_length]; omega)
                    rw [had, loc3_clear0] at KP
                    have SS : Hid _ := hs
                    have RE : Hid _ := hrest
                    have g4 : ((c.length : Int) == 1) = false := by simp; omega
                    have i1 : 0 < c.length := by omega
                    clear R6 R5 R7 hk hs hrest had
                    go_wp2_with fail
                    go_region_law (first | (go_simp; go_at_call 88; refine KP.mono ?_; rintro e w10 ⟨rfl, e00, μ10, H10, G10, B10⟩; have ST := set_any H10 G10 SS.out; have B10H : Hid _ := B9H.out.drew.trans B10; clear H10 G10 B10) | (go_simp; go_at_call 86; refine ST.mono ?_; rintro e w11 ⟨rfl, PK⟩; have PH : Hid _ := PK.post; clear PK ST))
                    all_goals
                      go_wp2_with fail
                      go_roundg n
                      case measure => omega
                      case rel =>
                        obtain ⟨μ11, H11, G11, B11⟩ := PH.out
                        exact ⟨ψ, μ11, H11, G11, B10H.out.trans B11, RE.out⟩
              · cases RR3
        · cases hR
end Go.Proofs.YtdllaphnkbnpoaaGreat
