/- Walks over the reference: Satisfies, logError, IsLog, Refutes. -/
import Derived.Test.YtdllaphnkbnpoaaXd
namespace Go.Proofs.Ytdllaphnkbnpoaa
open Go.RowKit Go.Proofs

def satisfiesM (D : List (List Int)) (l : List Int) : Bool × Int :=
  if refM D ≠ 0 then (false, refM D) else if l.all isLit = false then (false, 1) else if twiceM l = true then (false, 1) else (holdsM D l, 0)

theorem lit_small {l : List Int} (h : l.all isLit = true) : ∀ x ∈ l, x ≠ 0 ∧ x.natAbs ≤ 200 := by
  intro x hx
  have := List.all_eq_true.1 h x hx
  unfold isLit at this
  simp at this
  omega

set_option maxHeartbeats 2000000 in
theorem satisfies_any {w : World} {A A2 : Option Addr} {D : List (List Int)} {l : List Int} {c c2 : Nat} (h : LiesR w.heap.size w A D) (h2 : Lies w.heap.size w A2 l) (hn : D.length ≤ 9223372036854775807) (hm : ∀ e ∈ D, e.length ≤ 9223372036854775807) (hw : ∀ e ∈ D, ∀ x ∈ e, -9223372036854775808 ≤ x ∧ x ≤ 9223372036854775807)
    (hl : l.length ≤ 9223372036854775807) (hlw : ∀ x ∈ l, -9223372036854775808 ≤ x ∧ x ≤ 9223372036854775807) :
    Calls Try.prog 15 #[.slice A D.length c, .slice A2 l.length c2] w fun e w' => e = .returned (.tuple #[.bool (satisfiesM D l).1, .int .i64 (satisfiesM D l).2]) ∧ Below w.heap.size w w' := by
  have C := refCheck_any (c := c) h hn hm hw
  have LI := literals_any (c := c2) h2 hl hlw
  have h60 : refM D = 0 → D.length ≤ 60000 ∧ ∀ e ∈ D, e.length ≤ 60000 := by
    intro hr
    unfold refM at hr
    split at hr
    · omega
    · split at hr
      · omega
      · rename_i q1 q2
        refine ⟨by omega, fun e he => ?_⟩
        have : (D.all fun c => decide (c.length ≤ 30)) = true := by simpa using q2
        have := List.all_eq_true.1 this e he
        simp at this; omega
  have TW : l.all isLit = true → Calls Try.prog 36 #[.slice A2 l.length c2] w fun e w' => e = .returned (.bool (twiceM l)) ∧ Below w.heap.size w w' := fun q =>
    twice_any h2 hl (fun x hx => by have := lit_small q x hx; omega)
  have HO : refM D = 0 → ∀ w', Below w.heap.size w w' → Calls Try.prog 37 #[.slice A D.length c, .slice A2 l.length c2] w' fun e w'' => e = .returned (.bool (holdsM D l)) ∧ w'' = w' := fun q w' B =>
    holds_any (h.below B) (h2.below B) (h60 q).1 (h60 q).2 hl
  have BR : Hid (Below w.heap.size w w) := Below.refl _ _
  unfold satisfiesM
  have TWH : Hid _ := TW
  have HOH : Hid _ := HO
  clear h h2 hm hw hlw h60 TW HO
  by_cases hr : refM D = 0
  · rw [if_neg (by simp [hr])]
    have HO2 : Hid _ := HOH.out hr
    rw [hr] at C
    clear hr HOH
    cases hq : l.all isLit with
    | false =>
      rw [if_pos rfl]
      rw [hq] at LI
      clear hq TWH HO2
      go_enter Try.func15, Try.ntmps15
      go_wp2_with fail
      refine C.mono ?_
      rintro e w' ⟨rfl, rfl⟩
      go_wp2_with fail
      refine LI.mono ?_
      rintro e w' ⟨rfl, rfl⟩
      go_wp2_with fail
      go_ret2
      exact ⟨rfl, BR.out⟩
    | true =>
      rw [if_neg (by simp)]
      have TW := TWH.out hq
      rw [hq] at LI
      clear hq TWH
      cases ht : twiceM l with
      | true =>
        rw [if_pos rfl]
        rw [ht] at TW
        clear ht
        go_enter Try.func15, Try.ntmps15
        go_wp2_with fail
        refine C.mono ?_
        rintro e w' ⟨rfl, rfl⟩
        go_wp2_with fail
        refine LI.mono ?_
        rintro e w' ⟨rfl, rfl⟩
        go_wp2_with fail
        refine TW.mono ?_
        rintro e w2 ⟨rfl, B2⟩
        have B2H : Hid _ := B2
        clear B2 TW LI C
        go_wp2_with fail
        go_ret2
        exact ⟨rfl, B2H.out⟩
      | false =>
        rw [if_neg (by simp)]
        rw [ht] at TW
        clear ht
        generalize holdsM D l = res at *
        go_enter Try.func15, Try.ntmps15
        go_wp2_with fail
        refine C.mono ?_
        rintro e w' ⟨rfl, rfl⟩
        go_wp2_with fail
        refine LI.mono ?_
        rintro e w' ⟨rfl, rfl⟩
        go_wp2_with fail
        refine TW.mono ?_
        rintro e w2 ⟨rfl, B2⟩
        have HO3 := HO2.out w2 B2
        have B2H : Hid _ := B2
        clear B2 TW LI C HO2
        go_wp2_with fail
        refine HO3.mono ?_
        rintro e w3 ⟨rfl, rfl⟩
        go_wp2_with fail
        go_ret2
        exact ⟨rfl, B2H.out⟩
  · rw [if_pos hr]
    have hr2 : (refM D != 0) = true := by simp [hr]
    clear TWH HOH hr
    generalize refM D = r at *
    go_enter Try.func15, Try.ntmps15
    go_wp2_with fail
    refine C.mono ?_
    rintro e w' ⟨rfl, rfl⟩
    go_wp2_with fail
    go_ret2
    exact ⟨rfl, BR.out⟩

def logErrM (D log : List (List Int)) : Int :=
  if refM D = 2 then 2 else if 4000 < log.length then 2 else if refM D ≠ 0 then refM D else if (log.all fun c => c.all isLit) = false then 1 else 0

set_option maxHeartbeats 2000000 in
theorem logError_any {base : Nat} {w : World} {A A2 : Option Addr} {D log : List (List Int)} {c c2 : Nat} (h : LiesR base w A D) (h2 : LiesR base w A2 log) (hn : D.length ≤ 9223372036854775807) (hm : ∀ e ∈ D, e.length ≤ 9223372036854775807) (hw : ∀ e ∈ D, ∀ x ∈ e, -9223372036854775808 ≤ x ∧ x ≤ 9223372036854775807)
    (hn2 : log.length ≤ 9223372036854775807) (hm2 : ∀ e ∈ log, e.length ≤ 9223372036854775807) (hw2 : ∀ e ∈ log, ∀ x ∈ e, -9223372036854775808 ≤ x ∧ x ≤ 9223372036854775807) :
    Calls Try.prog 43 #[.slice A D.length c, .slice A2 log.length c2] w fun e w' => e = .returned (.int .i64 (logErrM D log)) ∧ w' = w := by
  have C := refCheck_any (c := c) h hn hm hw
  have LI : Hid _ := fun (e : List Int) (he : e ∈ log) (B : Option Addr) (c' : Nat) (hl : Lies base w B e) => literals_any (c := c') hl (hm2 e he) (hw2 e he)
  have HH : Hid _ := h2
  unfold logErrM
  clear h h2 hm hw hm2 hw2
  generalize refM D = r at *
  by_cases hr2 : r = 2
  · rw [if_pos hr2]
    subst hr2
    go_enter Try.func43, Try.ntmps43
    go_wp2_with fail
    refine C.mono ?_
    rintro e w' ⟨rfl, rfl⟩
    go_wp2_with fail
    go_ret
    exact ⟨rfl, rfl⟩
  · rw [if_neg hr2]
    have g1 : (r == 2) = false := by simp [hr2]
    clear hr2
    by_cases hb : 4000 < log.length
    · rw [if_pos hb]
      have g2 : (4000 : Int) < (log.length : Int) := by omega
      go_enter Try.func43, Try.ntmps43
      go_wp2_with fail
      refine C.mono ?_
      rintro e w' ⟨rfl, rfl⟩
      go_wp2_with fail
      go_ret
      exact ⟨rfl, rfl⟩
    · rw [if_neg hb]
      have g2 : decide ((4000 : Int) < (log.length : Int)) = false := decide_eq_false (by omega)
      by_cases hr0 : r = 0
      · subst hr0
        rw [if_neg (by simp)]
        generalize hgoal : (if (log.all fun c => c.all isLit) = false then (1 : Int) else 0) = res
        have RES : Hid _ := hgoal
        have start2 : Hid (CntRel w log.length (fun j => (log.getD j []).all isLit = true) log.length (.int .i64 ((0 : Nat) : Int)) w) := ⟨0, rfl, by omega, rfl, fun j hj => absurd hj (Nat.not_lt_zero _)⟩
        clear hgoal
        go_enter Try.func43, Try.ntmps43
        go_wp2_with fail
        refine C.mono ?_
        rintro e w' ⟨rfl, rfl⟩
        clear C
        go_wp2_with fail
        go_loopg [6] log.length (fun k x4 wq => CntRel w' log.length (fun j => (log.getD j []).all isLit = true) k x4 wq)
        case atStart => exact start2.out
        case round =>
          clear start2
          obtain ⟨j, rfl, hkj, rfl, hall⟩ := hrel
          by_cases hlt : j < log.length
          · obtain ⟨b, o, rfl, _, hc⟩ := liesR_at HH.out hlt
            obtain ⟨A', c', e1, _, hli⟩ := hc j hlt
            have hin := row_ne log [] hlt
            have LI2 := LI.out _ hin _ c' hli
            have NO : Hid ((log.getD j []).all isLit = false → (log.all fun c => c.all isLit) = false) := fun h => all_not log [] (fun c => c.all isLit) hlt h
            have YES : Hid ((log.getD j []).all isLit = true → ∀ q, q < j + 1 → (log.getD q []).all isLit = true) := fun h q hq => by
              rcases Nat.lt_or_ge q j with z | z
              · exact hall q z
              · have : q = j := by omega
                subst this; exact h
            clear hall hc hin hli
            generalize (log.getD j []).all isLit = p at *
            generalize (log.getD j []).length = n at *
            cases p with
            | true =>
              have Y2 : Hid _ := YES.out rfl
              clear YES NO
              go_wp2_with fail
              refine LI2.mono ?_
              rintro e w' ⟨rfl, rfl⟩
              clear LI2
              go_wp2_with fail
              go_roundg (gk - 1)
              case measure => omega
              case rel => exact ⟨j + 1, by go_num, by omega, rfl, Y2.out⟩
            | false =>
              have hF : Hid _ := NO.out rfl
              clear YES NO
              go_wp2_with fail
              refine LI2.mono ?_
              rintro e w' ⟨rfl, rfl⟩
              clear LI2
              go_wp2_with fail
              go_ret
              have hR := RES.out
              rw [if_pos hF.out] at hR
              exact ⟨by rw [← hR]; rfl, rfl⟩
          · have hge3 : decide (j < log.length) = false := decide_eq_false (by omega)
            have hge4 : log.length ≤ j := by omega
            have hT := (all_getD log [] (fun c => c.all isLit)).1 (fun q hq => hall q (by omega))
            have hR := RES.out
            rw [hT, if_neg (by simp)] at hR
            have R3 : Hid _ := hR
            clear hT hall hlt hR RES
            go_wp2_with fail
            go_ret
            exact ⟨by rw [← R3.out]; rfl, rfl⟩
      · rw [if_pos hr0]
        have g3 : (r != 0) = true := by simp [hr0]
        go_enter Try.func43, Try.ntmps43
        go_wp2_with fail
        refine C.mono ?_
        rintro e w' ⟨rfl, rfl⟩
        go_wp2_with fail
        go_ret
        exact ⟨rfl, rfl⟩
end Go.Proofs.Ytdllaphnkbnpoaa
