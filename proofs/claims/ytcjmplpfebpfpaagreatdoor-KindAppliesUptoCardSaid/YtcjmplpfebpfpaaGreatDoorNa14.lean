/- KindApplies: at every form and every two rows of pairs of bulk at most 1048576 the law returns true, and all read afterwards as before; the listed package variables start as the program's text lays them. No other condition. -/
import Derived.Test.YtcjmplpfebpfpaaGreatDoorRows
import Derived.ChangeSame
import Derived.OpenShut
import Derived.Deep.Slices
import Derived.ChangeAt
import Derived.Test.YtcjmplpfebpfpaaGreatDoorCards
import Derived.Test.YtcjmplpfebpfpaaGreatDoorTie
import Derived.WalkKit
import Derived.ProofKit
import Derived.ChangeOld
import Derived.Below
import Derived.SizedLaws
import Derived.Deep.DeepHandedRow
import Derived.LaidMore
import Derived.Lay
import Derived.SevenTiedAt
import Derived.Test.YtcjmplpfebpfpaaGreatDoorNa13
namespace Go.Proofs.YtcjmplpfebpfpaaGreatDoor
open Go.RowKit Go.Proofs Go.Proofs.YtcjmplpfebpfpaaGreatDoorW.PrintWords Go.Proofs.YtcjmplpfebpfpaaGreatDoorW.PrintLast Go.Proofs.YtcjmplpfebpfpaaGreatDoorW.PrintMore PKindInstances
set_option linter.unusedVariables false
set_option linter.unusedSimpArgs false

theorem l2_ev (f g : List S71) (hf : SmallP f) (hg : SmallP g) (N : List ByteArray) (hN : N.length < 900000000) (hs : ∀ s ∈ N, s.size < 8000000) (d : Nat) :
    ∀ (i : Nat) (acc : List S71), d + i = N.length → acc.length ≤ i → Ev (fun k => plinthref03_Compose.l2 k f g N acc (i : Int)) (acc ++ rcompL f g (N.drop i)) := by
  induction d with
  | zero =>
    intro i acc h ha
    have e : N.drop i = [] := List.drop_eq_nil_of_le (by omega)
    rw [e]
    refine Ev.step (f := fun _ => some acc) (fun k => by simp only [plinthref03_Compose.l2]; rw [if_neg (by omega)]) ?_
    simp only [rcompL, List.append_nil]
    exact Ev.now _
  | succ d ih =>
    intro i acc h ha
    obtain ⟨x, hx⟩ : ∃ x, N[i]? = some x := ⟨N[i]'(by omega), List.getElem?_eq_getElem _⟩
    have hxm := List.mem_of_getElem? hx
    have hw1 := word_wid (hs x hxm)
    have e1 := Apply_ev f (by have := hf.1; omega) (fun p hp => by have := (hf.2 p hp).2; omega) (wordS x) hw1
    have hw2 := app_wid (findM f) 9000000 (findM_wid hf) (wordS x) false hw1
    have e2 := Apply_ev g (by have := hg.1; omega) (fun p hp => by have := (hg.2 p hp).2; omega) (appM (findM f) (wordS x) false) hw2
    have hw3 : wid (stepC f g x) < 9000000 := app_wid (findM g) 9000000 (findM_wid hg) _ false hw2
    have hw : wrap64 ((i : Int) + 1) = ((i + 1 : Nat) : Int) := by rw [wr64 (by omega) (by omega)]; omega
    rw [drop_at5 hx]
    simp only [rcompL]
    change Ev _ (tup (stepC f g x)) at e2
    generalize stepC f g x = Z at e2 hw3 ⊢
    obtain ⟨z0, z1, z2, z3⟩ := Z
    refine Ev.step (f := fun k => (plinthref03_Apply.f k 1 0 x [] f).bind fun b1 => (plinthref03_Apply.f k b1.1 b1.2.1 b1.2.2.1 b1.2.2.2 g).bind fun b2 => (plinthref01_Equal.f k b2.1 b2.2.1 b2.2.2.1 b2.2.2.2 1 0 x []).bind fun t => (if t = true then plinthref03_Compose.l2 k f g N acc ((i + 1 : Nat) : Int) else (if acc.length < 1954687338268 then plinthref03_Compose.l2 k f g N (acc ++ [(⟨x, (⟨b2.1, b2.2.1, b2.2.2.1, b2.2.2.2⟩ : S24)⟩ : S71)]) ((i + 1 : Nat) : Int) else none))) (fun k => ?_) ?_
    · simp only [plinthref03_Compose.l2]
      rw [if_pos (by omega), if_pos (by omega), rdOf_at hx, hw]
      rfl
    · refine Ev.bind e1 ?_
      refine Ev.bind e2 ?_
      have e3 : Ev (fun k => plinthref01_Equal.f k z0 z1 z2 z3 1 0 x []) (eqM ((⟨z0, z1, z2, z3⟩ : S24)) (wordS x)) := by
        refine ⟨0, fun k _ => ?_⟩
        show plinthref01_Equal.f k _ _ _ _ _ _ _ _ = _
        unfold plinthref01_Equal.f
        rw [if_pos ⟨hw3, hw1⟩]
        rfl
      refine Ev.bind e3 ?_
      cases he : eqM ((⟨z0, z1, z2, z3⟩ : S24)) (wordS x) with
      | true =>
        rw [if_pos rfl]
        exact Ev.congr (fun k => by rw [if_pos rfl]) (ih (i + 1) acc (by omega) (by omega))
      | false =>
        rw [if_neg (by simp)]
        have h9 := ih (i + 1) (acc ++ [⟨x, (⟨z0, z1, z2, z3⟩ : S24)⟩]) (by omega) (by simp; omega)
        rw [List.append_assoc, List.singleton_append] at h9
        refine Ev.congr (fun k => ?_) h9
        rw [if_neg (by simp), if_pos (by omega)]
        rfl
theorem l1_ev (f g : List S71) (hf : SmallP f) (hg : SmallP g) (d : Nat) : ∀ (i : Nat) (N : List ByteArray), d + i = g.length → N.length + d < 900000000 → (∀ s ∈ N, s.size < 8000000) →
    Ev (fun k => plinthref03_Compose.l1 k f g N (i : Int)) (rcompL f g (((g.drop i).map (·.f0)).foldl putL N)) := by
  induction d with
  | zero =>
    intro i N h hN hs
    have e : g.drop i = [] := List.drop_eq_nil_of_le (by omega)
    rw [e]
    refine Ev.step (f := fun k => plinthref03_Compose.l2 k f g N [] ((0 : Nat) : Int)) (fun k => by simp only [plinthref03_Compose.l1]; rw [if_neg (by omega)]; rfl) ?_
    have := l2_ev f g hf hg N (by omega) hs N.length 0 [] (by omega) (Nat.le_refl _)
    simpa using this
  | succ d ih =>
    intro i N h hN hs
    obtain ⟨x, hx⟩ : ∃ x, g[i]? = some x := ⟨g[i]'(by omega), List.getElem?_eq_getElem _⟩
    have hw : wrap64 ((i : Int) + 1) = ((i + 1 : Nat) : Int) := by rw [wr64 (by have := hg.1; omega) (by have := hg.1; omega)]; omega
    rw [drop_at71 hx, List.map_cons, List.foldl_cons]
    have hl := putL_len N x.f0
    refine Ev.step (f := fun k => (plinthref03_put.f k N x.f0).bind fun t => plinthref03_Compose.l1 k f g t ((i + 1 : Nat) : Int)) (fun k => by simp only [plinthref03_Compose.l1]; rw [if_pos (by omega), if_pos (by omega), rd71_at hx, hw]) ?_
    refine Ev.bind (put_ev N x.f0 (by omega)) (ih (i + 1) _ (by omega) (by omega) (fun s h9 => ?_))
    rcases (mem_putL N x.f0 s).1 h9 with h9 | h9
    · rw [h9]; exact (hg.2 x (List.mem_of_getElem? hx)).1
    · exact hs s h9
theorem l0_ev (f g : List S71) (hf : SmallP f) (hg : SmallP g) (d : Nat) : ∀ (i : Nat) (N : List ByteArray), d + i = f.length → N.length + d + g.length < 900000000 → (∀ s ∈ N, s.size < 8000000) →
    Ev (fun k => plinthref03_Compose.l0 k f g N (i : Int)) (rcompL f g ((g.map (·.f0)).foldl putL (((f.drop i).map (·.f0)).foldl putL N))) := by
  induction d with
  | zero =>
    intro i N h hN hs
    have e : f.drop i = [] := List.drop_eq_nil_of_le (by omega)
    rw [e]
    refine Ev.step (f := fun k => plinthref03_Compose.l1 k f g N ((0 : Nat) : Int)) (fun k => by simp only [plinthref03_Compose.l0]; rw [if_neg (by omega)]; rfl) ?_
    exact l1_ev f g hf hg g.length 0 N (by omega) (by omega) hs
  | succ d ih =>
    intro i N h hN hs
    obtain ⟨x, hx⟩ : ∃ x, f[i]? = some x := ⟨f[i]'(by omega), List.getElem?_eq_getElem _⟩
    have hw : wrap64 ((i : Int) + 1) = ((i + 1 : Nat) : Int) := by rw [wr64 (by have := hf.1; omega) (by have := hf.1; omega)]; omega
    rw [drop_at71 hx, List.map_cons, List.foldl_cons]
    have hl := putL_len N x.f0
    refine Ev.step (f := fun k => (plinthref03_put.f k N x.f0).bind fun t => plinthref03_Compose.l0 k f g t ((i + 1 : Nat) : Int)) (fun k => by simp only [plinthref03_Compose.l0]; rw [if_pos (by omega), if_pos (by omega), rd71_at hx, hw]) ?_
    refine Ev.bind (put_ev N x.f0 (by omega)) (ih (i + 1) _ (by omega) (by omega) (fun s h9 => ?_))
    rcases (mem_putL N x.f0 s).1 h9 with h9 | h9
    · rw [h9]; exact (hf.2 x (List.mem_of_getElem? hx)).1
    · exact hs s h9
theorem Compose_ev (f g : List S71) (hf : SmallP f) (hg : SmallP g) : Ev (fun k => plinthref03_Compose.f k f g) (rcompM f g) :=
  l0_ev f g hf hg f.length 0 [] (by omega) (by have := hf.1; have := hg.1; simp only [List.length_nil]; omega) (fun s h => absurd h List.not_mem_nil)
theorem RCompose_any (f g : List S71) (hf : SmallP f) (hg : SmallP g) (A B : Option Addr) (c d : Nat) (w : World) (hr : Kd.C k71 w A f.length f) (hc : f.length ≤ c) (hs : Kd.C k71 w B g.length g) (hd : g.length ≤ d) :
    Calls Tryz.prog 16 #[.slice A f.length c, .slice B g.length d] w fun e w' => ∃ A' c', e = .returned (.slice A' (rcompM f g).length c') ∧ (rcompM f g).length ≤ c' ∧ Kd.C k71 w' A' (rcompM f g).length (rcompM f g) ∧ Below w.heap.size w w' := by
  obtain ⟨k, hk⟩ := (Compose_ev f g hf hg).rounds
  refine (plinthref03_Compose.calls k (fun k => k < w.heap.size) A c f (fun k => k < w.heap.size) B d g _ w (Kd.V_mk hc (Kd.C_F k71_heap hr)) (Kd.V_mk hd (Kd.C_F k71_heap hs)) hk).mono ?_
  rintro e w' ⟨v, rfl, hN, hB⟩
  obtain ⟨A', c', rfl, h1, h2⟩ := Kd.N_reads hN
  exact ⟨A', c', rfl, h1, h2, hB⟩

end Go.Proofs.YtcjmplpfebpfpaaGreatDoor

namespace Go.Proofs.YtcjmplpfebpfpaaGreatDoor
open Go.RowKit Go.Proofs Go.Proofs.YtcjmplpfebpfpaaGreatDoorW.PrintWords Go.Proofs.YtcjmplpfebpfpaaGreatDoorW.PrintLast Go.Proofs.YtcjmplpfebpfpaaGreatDoorW.PrintMore PKindInstances
set_option linter.unusedVariables false
set_option linter.unusedSimpArgs false

theorem head_is (a n : Int) (s : ByteArray) (l : List S24) : plinthref01_Head.f a n s l = some (headOf a l) := by
  unfold plinthref01_Head.f headOf headL
  by_cases h3 : a = 3
  · rw [if_pos h3, if_pos h3]
    cases l with
    | nil => rfl
    | cons k l =>
      have e : rd_T24 (k :: l) 0 = k := rfl
      rw [if_neg (by simp only [List.length_cons]; omega), if_pos (by simp only [List.length_cons]; omega), e]
      by_cases h : k.f0 = 1
      · simp [h]
      · simp [h]
  · rw [if_neg h3, if_neg h3]
theorem lst_kid (x : S24) : lstM x = (!((x.f0 == 3) && isFunW (headL x.f3) && !(decide (x.f3.length = 3) && (match x.f3 with | _ :: k :: _ => k.f0 == 3 | _ => false))) && lstL x.f3) := by cases x; rfl
theorem listed_true : ∀ k : Nat, (∀ l : List S24, wids l < 9000000 → plinthlaw03_listed.f k l = some true → lstL l = true) ∧ (∀ (l : List S24) (i : Nat), wids l < 9000000 → plinthlaw03_listed.l0 k l (i : Int) = some true → lstL (l.drop i) = true)
  | 0 => ⟨fun l _ h => by simp [plinthlaw03_listed.f] at h, fun l i _ h => by simp [plinthlaw03_listed.l0] at h⟩
  | k + 1 => by
    obtain ⟨ih1, ih2⟩ := listed_true k
    refine ⟨fun l hw h => ?_, fun l i hw h => ?_⟩
    · simp only [plinthlaw03_listed.f] at h
      have := ih2 l 0 hw h
      simpa using this
    · have hl := wids_len l
      by_cases hi : i < l.length
      · obtain ⟨x, hx⟩ : ∃ x, l[i]? = some x := ⟨l[i]'hi, List.getElem?_eq_getElem _⟩
        have hxw : wids x.f3 < 9000000 := by
          have h1 := wid_kids x
          have h2 := wid_mem (List.mem_of_getElem? hx)
          omega
        have hwr : wrap64 ((i : Int) + 1) = ((i + 1 : Nat) : Int) := by rw [wr64 (by omega) (by omega)]; omega
        simp only [plinthlaw03_listed.l0] at h
        rw [if_pos (by omega), if_pos (by omega), rd_at hx, head_is, Option.bind_some, hwr] at h
        have hd : l.drop i = x :: l.drop (i + 1) := by obtain ⟨h9, h10⟩ := List.getElem?_eq_some_iff.1 hx; rw [← h10]; exact List.drop_eq_getElem_cons h9
        have tail : ((plinthlaw03_listed.f k x.f3).bind fun t => (if t = true then (plinthlaw03_listed.l0 k l ((i + 1 : Nat) : Int)) else (some false))) = some true → lstL x.f3 = true ∧ lstL (l.drop (i + 1)) = true := by
          intro h2
          cases hf : plinthlaw03_listed.f k x.f3 with
          | none => rw [hf] at h2; cases h2
          | some b =>
            rw [hf, Option.bind_some] at h2
            cases b with
            | false => simp at h2
            | true =>
              rw [if_pos rfl] at h2
              exact ⟨ih1 x.f3 hxw hf, ih2 l (i + 1) hw h2⟩
        rw [hd]
        simp only [lstL, lst_kid]
        by_cases c1 : (headOf x.f0 x.f3).toList = ([102, 117, 110] : List UInt8)
        · rw [if_pos c1] at h
          by_cases c2 : (x.f3.length : Int) = 3
          · rw [if_pos c2, if_pos (by omega)] at h
            by_cases c3 : (rd_T24 x.f3 1).f0 = 3
            · rw [if_pos c3] at h
              obtain ⟨t1, t2⟩ := tail h
              rw [t1, t2]
              have h3 : (match x.f3 with | _ :: k :: _ => k.f0 == 3 | _ => false) = true := by
                match hm : x.f3, c2, c3 with
                | a :: b :: r, _, c3 => simpa [rd_T24] using c3
                | [a], c2, _ => simp at c2
                | [], c2, _ => simp at c2
              rw [h3, decide_eq_true (by omega : x.f3.length = 3)]
              simp
            · rw [if_neg c3] at h; simp at h
          · rw [if_neg c2] at h; simp at h
        · rw [if_neg c1] at h
          obtain ⟨t1, t2⟩ := tail h
          rw [t1, t2]
          have : ((x.f0 == 3) && isFunW (headL x.f3)) = false := by
            by_cases h3 : x.f0 = 3
            · unfold headOf at c1
              rw [if_pos h3] at c1
              simp [isFunW, c1]
            · simp [h3]
          rw [this]
          rfl
      · rw [List.drop_eq_nil_of_le (by omega)]
        rfl
theorem listed_told (l : List S24) (A : Option Addr) (c : Nat) (w : World) (hr : Kd.C k24 w A l.length l) (hc : l.length ≤ c) (hw : wids l < 9000000) :
    Calls Tryz.prog 17 #[.slice A l.length c] w fun e w' => (∃ b, e = .returned (.bool b) ∧ (b = true → lstL l = true)) ∧ Below w.heap.size w w' := by
  have hl := wids_len l
  obtain ⟨b, K, h⟩ := listed_row l (by omega) (fun x hx => listed_ev x (by have := wid_mem hx; omega))
  refine (plinthlaw03_listed.calls K A c l b w hr hc (h K (Nat.le_refl _))).mono ?_
  rintro e w' ⟨rfl, hB⟩
  exact ⟨⟨b, rfl, fun hb => (listed_true K).1 l hw (by rw [← hb]; exact h K (Nat.le_refl _))⟩, hB⟩
end Go.Proofs.YtcjmplpfebpfpaaGreatDoor

namespace Go.Proofs.YtcjmplpfebpfpaaGreatDoor
open Go.RowKit Go.Proofs Go.Proofs.YtcjmplpfebpfpaaGreatDoorW.PrintWords Go.Proofs.YtcjmplpfebpfpaaGreatDoorW.PrintLast Go.Proofs.YtcjmplpfebpfpaaGreatDoorW.PrintMore PKindInstances
set_option linter.unusedVariables false
set_option linter.unusedSimpArgs false

/-- What holds of the loop. -/
def LpRel (W0 : World) (l : List S51) (k : Nat) (x3 : Value) (wr : World) : Prop :=
  ∃ (i : Nat), x3 = .int .i64 (i : Int) ∧ k + i = l.length ∧ Below W0.heap.size W0 wr
set_option maxRecDepth 100000 in
set_option maxHeartbeats 4000000 in
theorem listedPairs_any (l : List S51) (A : Option Addr) (c : Nat) (w : World) (hr : Kd.C k51 w A l.length l) (hn : l.length < 9000000) (hw : ∀ p ∈ l, wid p.f1 < 8000000) :
    Calls Tryz.prog 18 #[.slice A l.length c] w fun e w' => (∃ b, e = .returned (.bool b)) ∧ Below w.heap.size w w' := by
  have hu24 := Tryz.underlying24
  have hu51 := Tryz.underlying51
  have hu25 := Tryz.underlying25
  have start : Hid (LpRel w l l.length (.int .i64 ((0 : Nat) : Int)) w) := ⟨0, rfl, rfl, Below.refl _ _⟩
  have HR : Hid _ := Kd.C_F k51_heap hr
  have HW : Hid _ := hw
  clear hr hw
  go_enter Tryz.func18, Tryz.ntmps18
  go_wp2_with fail
  go_loopg [3] l.length (fun k x3 wr => LpRel w l k x3 wr)
  case atStart => exact start.out
  case round =>
    clear start
    obtain ⟨i, rfl, hki, Bl⟩ := hrel
    by_cases hlt : i < l.length
    · obtain ⟨g, rfl⟩ : ∃ g, gk = g + 1 := ⟨gk - 1, by omega⟩
      have e1 : decide (i < l.length) = true := decide_eq_true hlt
      obtain ⟨x, hx⟩ : ∃ x, l[i]? = some x := ⟨l[i]'hlt, List.getElem?_eq_getElem _⟩
      obtain ⟨ad, A3, c3, rfl, g0, g1, g2, g3, g4, g5, g6⟩ := row_at51 (Kd.F_below HR.out Bl) hlt hx
      have SZ := HW.out x (List.mem_of_getElem? hx)
      have BL : Hid _ := Bl
      have G6 : Hid _ := g6
      clear Bl hx g6
      obtain ⟨xn, ⟨x0, x1, x2, x3⟩⟩ := x
      simp only [] at g0 g1 g2 g3 g4 g5 G6 SZ
      have b1 : Below wr.heap.size wr (wr.alloc (Obj.cells #[.int .i64 x0, .int .i64 x1, .string x2, .slice A3 x3.length c3] 24)) := below_alloc (Below.refl _ _) _
      have OK : Hid _ := listed_told [(⟨x0, x1, x2, x3⟩ : S24)] (some ⟨wr.heap.size, 0, none⟩) 1 (wr.alloc (Obj.cells #[.int .i64 x0, .int .i64 x1, .string x2, .slice A3 x3.length c3] 24)) (one_row (MapKept.heap_alloc wr _).1 (Kd.C_below (Kd.F_now G6.out) b1) g5) (Nat.le_refl _) (by simp only [wids, List.length_nil]; omega)
      have BO : Hid _ := below_after BL.out b1
      clear b1
      go_wp2_with fail
      refine Calls.mono OK.out ?_
      rintro e w2 ⟨⟨b, rfl, _⟩, B2⟩
      have B3 : Hid _ := below_after BO.out B2
      clear B2
      cases b with
      | true =>
        go_wp2_with fail
        go_roundg g
        case measure => omega
        case rel => exact ⟨i + 1, by go_num, by omega, B3.out⟩
      | false =>
        go_wp2_with fail
        go_ret
        exact ⟨⟨_, rfl⟩, B3.out⟩
    · have e1 : decide (i < l.length) = false := decide_eq_false hlt
      have BL : Hid _ := Bl
      clear Bl
      go_wp2_with fail
      go_ret
      exact ⟨⟨_, rfl⟩, BL.out⟩
end Go.Proofs.YtcjmplpfebpfpaaGreatDoor

namespace Go.Proofs.YtcjmplpfebpfpaaGreatDoor.PKindInstances
open Go.RowKit Go.Proofs.YtcjmplpfebpfpaaGreatDoorW.PrintWords Go.Proofs.YtcjmplpfebpfpaaGreatDoorW.PrintLast Go.Proofs.YtcjmplpfebpfpaaGreatDoorW.PrintMore
attribute [local go_sem] max2_int min2_int max_two min_two max_three min_three max_four min_four   -- for this text's walks alone
set_option linter.unusedVariables false
set_option linter.unusedSimpArgs false

end Go.Proofs.YtcjmplpfebpfpaaGreatDoor.PKindInstances

namespace Go.Proofs.YtcjmplpfebpfpaaGreatDoor.PKindInstances
open Go.RowKit Go.Proofs.YtcjmplpfebpfpaaGreatDoorW.PrintWords Go.Proofs.YtcjmplpfebpfpaaGreatDoorW.PrintLast Go.Proofs.YtcjmplpfebpfpaaGreatDoorW.PrintMore
attribute [local go_sem] max2_int min2_int max_two min_two max_three min_three max_four min_four   -- for this text's walks alone
set_option linter.unusedVariables false
set_option linter.unusedSimpArgs false

end Go.Proofs.YtcjmplpfebpfpaaGreatDoor.PKindInstances

namespace Go.Proofs.YtcjmplpfebpfpaaGreatDoor
open Go.RowKit Go.Proofs Go.Proofs.YtcjmplpfebpfpaaGreatDoorW.PrintWords Go.Proofs.YtcjmplpfebpfpaaGreatDoorW.PrintLast Go.Proofs.YtcjmplpfebpfpaaGreatDoorW.PrintMore PKindInstances
set_option linter.unusedVariables false
set_option linter.unusedSimpArgs false
end Go.Proofs.YtcjmplpfebpfpaaGreatDoor

namespace Go.Proofs.YtcjmplpfebpfpaaGreatDoor
open Go.RowKit Go.Proofs Go.Proofs.YtcjmplpfebpfpaaGreatDoorW.PrintWords Go.Proofs.YtcjmplpfebpfpaaGreatDoorW.PrintLast Go.Proofs.YtcjmplpfebpfpaaGreatDoorW.PrintMore PKindInstances
set_option linter.unusedVariables false
set_option linter.unusedSimpArgs false

def SmallK (l : List S51) : Prop := l.length < 4000000 ∧ ∀ p ∈ l, p.f0.size < 8000000 ∧ wid p.f1 < 8000000
theorem SmallK.conv {l : List S51} (h : SmallK l) : SmallP (l.map conv) := by
  refine ⟨by rw [List.length_map]; have := h.1; omega, fun p hp => ?_⟩
  obtain ⟨q, hq, rfl⟩ := List.mem_map.1 hp
  exact h.2 q hq
theorem SmallK.find {l : List S51} (h : SmallK l) : ∀ s z, findK l s = some z → wid z < 8000000 := fun s z e => by
  obtain ⟨p, hp, _, rfl⟩ := findK_mem e
  exact (h.2 p hp).2
theorem comp_small {fi th out : List S51} (h : IsComp fi th out) (hf : SmallK fi) (ht : SmallK th) : out.length < 8000000 ∧ ∀ p ∈ out, wid p.f1 < 8000000 := by
  obtain ⟨hA, hM⟩ := h
  have hn : (out.map (·.f0)).Nodup := hA.imp (fun {a b} h e => by rw [e, lessB_irrefl] at h; cases h)
  constructor
  · have h1 := nodup_le hn (m := fi.map (·.f0) ++ th.map (·.f0)) (fun v hv => by
      obtain ⟨p, hp, rfl⟩ := List.mem_map.1 hv
      rw [List.mem_append]
      exact full_in ((hM p).1 hp).2.1)
    simp only [List.length_append, List.length_map] at h1
    have := hf.1; have := ht.1
    omega
  · intro p hp
    obtain ⟨_, h2, _⟩ := (hM p).1 hp
    unfold fullK at h2
    cases h1 : lookK fi p.f0 with
    | some z =>
      rw [h1] at h2
      obtain ⟨q, hq, _, rfl⟩ := lookK_mem h1
      rw [← Option.some.inj h2]
      exact app_wid _ _ ht.find _ false (hf.2 q hq).2
    | none =>
      rw [h1] at h2
      obtain ⟨q, hq, _, e⟩ := lookK_mem h2
      rw [← e]
      exact (ht.2 q hq).2
set_option maxRecDepth 100000 in
set_option maxHeartbeats 16000000 in
theorem KindApplies_any (x : S24) (by_ th : List S51) (w : World) (A AB AT : Option Addr) (c cb ct : Nat) (ha : Kd.C k24 w A x.f3.length x.f3) (hac : x.f3.length ≤ c) (haw : wid x < 8000000) (hab : Kd.C k51 w AB by_.length by_) (hbc : by_.length ≤ cb) (hbs : SmallK by_)
    (hat : Kd.C k51 w AT th.length th) (htc : th.length ≤ ct) (hts : SmallK th) :
    Calls Tryz.prog 3 #[formV x.f0 x.f1 x.f2 A x.f3.length c, .slice AB by_.length cb, .slice AT th.length ct] w fun e w' => e = .returned (.bool true) ∧ Below w.heap.size w w' := by
  have hu24 := Tryz.underlying24
  have hu51 := Tryz.underlying51
  have hu25 := Tryz.underlying25
  have hbn := hbs.1
  have htn := hts.1
  obtain ⟨Y, hY⟩ : ∃ Y, Y = appM (findK by_) x false := ⟨_, rfl⟩
  have hYw : wid Y < 8000000 := by rw [hY]; exact app_wid _ _ hbs.find x false haw
  have b0 : Below w.heap.size w (w.alloc (Obj.cells #[.int .i64 x.f0, .int .i64 x.f1, .string x.f2, .slice A x.f3.length c] 24)) := below_alloc (Below.refl _ _) _
  have x1 := (MapKept.heap_alloc w (Obj.cells #[.int .i64 x.f0, .int .i64 x.f1, .string x.f2, .slice A x.f3.length c] 24)).1
  have LI : Hid (∀ W, Below w.heap.size w W → Calls Tryz.prog 17 #[.slice (some ⟨W.heap.size, 0, none⟩) 1 1] (W.alloc (Obj.cells #[.int .i64 x.f0, .int .i64 x.f1, .string x.f2, .slice A x.f3.length c] 24)) fun e w' => (∃ b, e = .returned (.bool b) ∧ (b = true → lstM x = true)) ∧ Below W.heap.size W w') := fun W h => by
    have b1 : Below W.heap.size W (W.alloc (Obj.cells #[.int .i64 x.f0, .int .i64 x.f1, .string x.f2, .slice A x.f3.length c] 24)) := below_alloc (Below.refl _ _) _
    refine (listed_told [x] (some ⟨W.heap.size, 0, none⟩) 1 (W.alloc (Obj.cells #[.int .i64 x.f0, .int .i64 x.f1, .string x.f2, .slice A x.f3.length c] 24)) (one_row (MapKept.heap_alloc W _).1 (Kd.C_below (Kd.C_below ha h) b1) hac) (Nat.le_refl _) (by simp only [wids, List.length_nil]; omega)).mono ?_
    rintro e w' ⟨⟨b, rfl, hb⟩, hB⟩
    exact ⟨⟨b, rfl, fun h => by have := hb h; simpa [lstL] using this⟩, below_after b1 hB⟩
  have LB : Hid (∀ W, Below w.heap.size w W → _) := fun W h => listedPairs_any by_ AB cb W (Kd.C_below hab h) (by omega) (fun p hp => (hbs.2 p hp).2)
  have LT : Hid (∀ W, Below w.heap.size w W → _) := fun W h => listedPairs_any th AT ct W (Kd.C_below hat h) (by omega) (fun p hp => (hts.2 p hp).2)
  have PB : Hid (∀ W, Below w.heap.size w W → _) := fun W h => pairs_any by_ AB cb W (Kd.C_below hab h) hbc (by omega)
  have PT : Hid (∀ W, Below w.heap.size w W → _) := fun W h => pairs_any th AT ct W (Kd.C_below hat h) htc (by omega)
  have AP : Hid (∀ W, Below w.heap.size w W → Calls Tryz.prog 10 #[formV x.f0 x.f1 x.f2 A x.f3.length c, .slice AB by_.length cb] W (AppPost W (fun k => k < w.heap.size) Y)) := fun W h => by
    rw [hY]
    exact Apply_any x by_ W _ A AB c cb (Kd.F_below (Kd.C_F k24_heap ha) h) hac (by omega) (Kd.F_below (Kd.C_F k51_heap hab) h) hbc (by omega)
  have RA : Hid (∀ W B d, Below w.heap.size w W → Kd.C k71 W B (by_.map conv).length (by_.map conv) → (by_.map conv).length ≤ d → Calls Tryz.prog 12 #[formV x.f0 x.f1 x.f2 A x.f3.length c, .slice B (by_.map conv).length d] W fun e w' => ∃ A' c', e = .returned (formV Y.f0 Y.f1 Y.f2 A' Y.f3.length c') ∧ Y.f3.length ≤ c' ∧ Kd.C k24 w' A' Y.f3.length Y.f3 ∧ Below W.heap.size W w') := fun W B d h h1 h2 => by
    have h3 := RApply_any x (by_.map conv) A B c d W (Kd.C_below ha h) hac (by omega) h1 h2 (by have := hbs.conv.1; omega) (fun p hp => by have := (hbs.conv.2 p hp).2; omega)
    rw [findM_conv', ← hY] at h3
    exact h3
  have EY : Hid (∀ W B B' d d', Kd.C k24 W B Y.f3.length Y.f3 → Y.f3.length ≤ d → Kd.C k24 W B' Y.f3.length Y.f3 → Y.f3.length ≤ d' → Calls Tryz.prog 11 #[formV Y.f0 Y.f1 Y.f2 B Y.f3.length d, formV Y.f0 Y.f1 Y.f2 B' Y.f3.length d'] W fun e w' => e = .returned (.bool true) ∧ Below W.heap.size W w') := fun W B B' d d' h1 h2 h3 h4 => by
    have h5 := REqual_any Y Y B B' d d' W h1 h2 h3 h4 (by omega) (by omega)
    rw [eq_self] at h5
    exact h5
  have CO : Hid (∀ W, Below w.heap.size w W → _) := fun W h => Compose_any by_ th AB AT cb ct W (Kd.C_below hab h) hbc (fun p hp => (hbs.2 p hp).2) hbn (Kd.C_below hat h) htc (fun p hp => (hts.2 p hp).2) htn
  have RC : Hid (∀ W B B' d d', Kd.C k71 W B (by_.map conv).length (by_.map conv) → (by_.map conv).length ≤ d → Kd.C k71 W B' (th.map conv).length (th.map conv) → (th.map conv).length ≤ d' → _) := fun W B B' d d' h1 h2 h3 h4 => RCompose_any (by_.map conv) (th.map conv) hbs.conv hts.conv B B' d d' W h1 h2 h3 h4
  have SC : Hid (∀ out, IsComp by_ th out → out.length < 8000000 ∧ ∀ p ∈ out, wid p.f1 < 8000000) := fun out h => comp_small h hbs hts
  have ZZ : Hid (lstM x = true → ∀ out, IsComp by_ th out → eqM (appM (findK out) x false) (appM (findK th) Y false) = true) := fun hl out h => by rw [hY]; exact comp_form (comp_is h) x false (fun e => by cases e) hl
  have WZ : Hid (∀ out, IsComp by_ th out → wid (appM (findK out) x false) < 9000000 ∧ wid (appM (findK th) Y false) < 9000000) := fun out h => ⟨by
    have := app_wid (findK out) 8000000 (fun s z e => by obtain ⟨p, hp, _, rfl⟩ := findK_mem e; exact (comp_small h hbs hts).2 p hp) x false haw
    omega, by
    have := app_wid (findK th) 8000000 hts.find Y false hYw
    omega⟩
  obtain ⟨bl, hbl⟩ : ∃ bl, bl = by_.map conv := ⟨_, rfl⟩
  obtain ⟨tl, htl⟩ : ∃ tl, tl = th.map conv := ⟨_, rfl⟩
  have SM : Hid (∀ out, IsComp by_ th out → ∀ (W : World) (B B' : Option Addr) (d d' : Nat), Kd.C k71 W B (out.map conv).length (out.map conv) → Kd.C k71 W B' (rcompM bl tl).length (rcompM bl tl) → Calls Tryz.prog 15 #[.slice B (out.map conv).length d, .slice B' (rcompM bl tl).length d'] W fun e w' => e = .returned (.bool true) ∧ Below W.heap.size W w') := fun out h W B B' d d' h1 h2 => by
    have h3 := comp_same h
    rw [← hbl, ← htl] at h3
    have h4 := Same_any (out.map conv) (rcompM bl tl) B B' d d' W h1 h2 (fun p hp => by
      obtain ⟨q, hq, rfl⟩ := List.mem_map.1 hp
      have := (comp_small h hbs hts).2 q hq
      show wid q.f1 < 9000000
      omega) (fun p hp => by
      rw [← h3] at hp
      obtain ⟨q, hq, rfl⟩ := List.mem_map.1 hp
      have := (comp_small h hbs hts).2 q hq
      show wid q.f1 < 9000000
      omega) (by rw [List.length_map]; have := (comp_small h hbs hts).1; omega)
    rw [← h3, same_self] at h4
    rw [← h3]
    exact h4
  have PO : Hid (∀ out, IsComp by_ th out → ∀ (W : World) (B : Option Addr) (d : Nat), Kd.C k51 W B out.length out → out.length ≤ d → _) := fun out h W B d h1 h2 => pairs_any out B d W h1 h2 (by have := (comp_small h hbs hts).1; omega)
  rw [← hbl] at PB RA RC
  rw [← htl] at PT RC
  clear hbl htl
  have HAW : Hid (wid x < 9000000) := by show _ < _; omega
  have HYW : Hid (wid Y < 9000000) := by show _ < _; omega
  have HA : Hid _ := ha
  have HAT : Hid _ := hat
  have X1 : Hid _ := x1
  have B0 : Hid _ := b0
  clear ha hab hbs hY b0 x1 hat hts haw hYw
  obtain ⟨x0, x1, x2, x3⟩ := x
  simp only [] at hac LI AP RA ZZ WZ X1 B0 HA HAW
  go_enter Tryz.func3, Tryz.ntmps3
  go_upto_region 1 with fail
  generalize w.alloc (Obj.cells #[.int .i64 x0, .int .i64 x1, .string x2, .slice A x3.length c] 24) = X at *
  obtain ⟨p0, p1, p2, p3⟩ := cells4 X1.out
  go_wp2_with fail
  refine Calls.mono (AP.out _ B0.out) ?_
  rintro e w1 ⟨AY, cY, rfl, hcY, hFY, B1⟩
  go_upto_region 2 with fail
  have HB1 : Hid (Below w.heap.size w w1) := below_after B0.out B1
  have bm : Below w1.heap.size w1 (w1.alloc (Obj.cells #[.int .i64 Y.f0, .int .i64 Y.f1, .string Y.f2, .slice AY Y.f3.length cY] 24)) := below_alloc (Below.refl _ _) _
  have HM : Hid (Below w.heap.size w (w1.alloc (Obj.cells #[.int .i64 Y.f0, .int .i64 Y.f1, .string Y.f2, .slice AY Y.f3.length cY] 24))) := below_after HB1.out bm
  have CY : Hid (Kd.C k24 (w1.alloc (Obj.cells #[.int .i64 Y.f0, .int .i64 Y.f1, .string Y.f2, .slice AY Y.f3.length cY] 24)) AY Y.f3.length Y.f3) := Kd.C_below (Kd.F_now hFY) bm
  have yb := (MapKept.heap_alloc w1 (Obj.cells #[.int .i64 Y.f0, .int .i64 Y.f1, .string Y.f2, .slice AY Y.f3.length cY] 24)).1
  have xb := blk_below (blk_below X1.out B1) bm
  clear B1 bm hFY p0 p1 p2 p3
  generalize w1.alloc (Obj.cells #[.int .i64 Y.f0, .int .i64 Y.f1, .string Y.f2, .slice AY Y.f3.length cY] 24) = M at *
  generalize w1.heap.size = bY at *
  obtain ⟨y0, y1, y2, y3⟩ := Y
  simp only [] at hcY CY yb RA EY ZZ WZ AP HYW
  obtain ⟨q0, q1, q2, q3⟩ := cells4 yb
  obtain ⟨p0, p1, p2, p3⟩ := cells4 xb
  have GS : Hid (∀ W, Below M.heap.size M W → W.cell? ⟨w.heap.size, 0, none⟩ = some (.int .i64 x0) ∧ W.cell? ⟨w.heap.size, 1, none⟩ = some (.int .i64 x1) ∧ W.cell? ⟨w.heap.size, 2, none⟩ = some (.string x2) ∧ W.cell? ⟨w.heap.size, 3, none⟩ = some (.slice A x3.length c) ∧ W.cell? ⟨bY, 0, none⟩ = some (.int .i64 y0) ∧ W.cell? ⟨bY, 1, none⟩ = some (.int .i64 y1) ∧ W.cell? ⟨bY, 2, none⟩ = some (.string y2) ∧ W.cell? ⟨bY, 3, none⟩ = some (.slice AY y3.length cY)) := fun W h => ⟨pw_cell_below h p0, pw_cell_below h p1, pw_cell_below h p2, pw_cell_below h p3, pw_cell_below h q0, pw_cell_below h q1, pw_cell_below h q2, pw_cell_below h q3⟩
  have CYr : Hid (∀ W, Below M.heap.size M W → Kd.C k24 W AY y3.length y3) := fun W h => Kd.C_below CY.out h
  clear yb xb q0 q1 q2 q3 p0 p1 p2 p3 X1 B0 AP CY
  refine wp_region_held_drew (S := fun W => W.cell? ⟨w.heap.size, 0, none⟩ = some (.int .i64 x0) ∧ W.cell? ⟨w.heap.size, 1, none⟩ = some (.int .i64 x1) ∧ W.cell? ⟨w.heap.size, 2, none⟩ = some (.string x2) ∧ W.cell? ⟨w.heap.size, 3, none⟩ = some (.slice A x3.length c) ∧ W.cell? ⟨bY, 0, none⟩ = some (.int .i64 y0) ∧ W.cell? ⟨bY, 1, none⟩ = some (.int .i64 y1) ∧ W.cell? ⟨bY, 2, none⟩ = some (.string y2) ∧ W.cell? ⟨bY, 3, none⟩ = some (.slice AY y3.length cY)) (by kernel_rfl) (GS.out _ (below_drew (Below.refl _ _))) (fun hHeld => ?_)
  refine takeV 0 (some 12) (formV y0 y1 y2 AY y3.length cY) rfl rfl (by kernel_rfl) (by kernel_rfl) (by kernel_rfl) (fun _ _ _ h => h) (Or.inl ⟨by kernel_rfl, fun W hSw => by obtain ⟨s0, s1, s2, s3, s4, s5, s6, s7⟩ := hSw; go_simp⟩) hHeld ?_
  try simp only [Act.put, List.setIfInBounds_toArray, List.set_cons_zero, List.set_cons_succ]
  refine takeV 1 (some 13) (formV x0 x1 x2 A x3.length c) rfl rfl (by kernel_rfl) (by kernel_rfl) (by kernel_rfl) (fun _ _ _ h => h) (Or.inl ⟨by kernel_rfl, fun W hSw => by obtain ⟨s0, s1, s2, s3, s4, s5, s6, s7⟩ := hSw; go_simp⟩) hHeld ?_
  try simp only [Act.put, List.setIfInBounds_toArray, List.set_cons_zero, List.set_cons_succ]
  refine takeV 2 (some 14) (.slice AB by_.length cb) rfl rfl (by kernel_rfl) (by kernel_rfl) (by kernel_rfl) (fun _ _ _ h => h) (Or.inl ⟨by kernel_rfl, fun W hSw => by obtain ⟨s0, s1, s2, s3, s4, s5, s6, s7⟩ := hSw; go_simp⟩) hHeld ?_
  try simp only [Act.put, List.setIfInBounds_toArray, List.set_cons_zero, List.set_cons_succ]
  generalize hZ' : M.drew = Z0
  have H0 : Hid (Below M.heap.size M Z0) := (by subst hZ'; exact below_drew (Below.refl _ _))
  clear hZ'
  refine wpAnyH_ready (rs := [3]) (by kernel_rfl) (by simp) ?_
  refine AllReadyH.cons rfl (fun K hK => ?_) AllReadyH.nil
  clear hHeld
  go_simp
  go_at_call 13
  refine Calls.mono (PB.out Z0 (below_after HM.out H0.out)) ?_
  rintro e W1 ⟨B3, d3, rfl, hd3, hC3, B7⟩
  have H1 : Hid (Below M.heap.size M W1) := below_after H0.out B7
  have C3 : Hid _ := hC3
  clear B7 hC3
  go_wp2_with fail
  refine hK.out _ _ (GS.out _ H1.out) (fun hHeld => ?_)
  clear hK K
  try simp only [Act.put, List.setIfInBounds_toArray, List.set_cons_zero, List.set_cons_succ]
  refine wpAnyH_ready (rs := [4]) (by kernel_rfl) (by simp) ?_
  refine AllReadyH.cons rfl (fun K hK => ?_) AllReadyH.nil
  clear hHeld
  go_simp
  go_at_call 12
  refine Calls.mono (RA.out W1 B3 d3 (below_after HM.out H1.out) C3.out hd3) ?_
  rintro e W2 ⟨B4, d4, rfl, hd4, hC4, B8⟩
  have H2 : Hid (Below M.heap.size M W2) := below_after H1.out B8
  have C4 : Hid _ := hC4
  clear B8 hC4
  go_wp2_with fail
  refine hK.out _ _ (GS.out _ H2.out) (fun hHeld => ?_)
  clear hK K
  try simp only [Act.put, List.setIfInBounds_toArray, List.set_cons_zero, List.set_cons_succ]
  refine wpAnyH_ready (rs := [5]) (by kernel_rfl) (by simp) ?_
  refine AllReadyH.cons rfl (fun K hK => ?_) AllReadyH.nil
  clear hHeld
  go_simp
  go_at_call 11
  refine Calls.mono (EY.out W2 AY B4 cY d4 (CYr.out _ H2.out) hcY C4.out hd4) ?_
  rintro e W3 ⟨rfl, B9⟩
  have H3 : Hid (Below M.heap.size M W3) := below_after H2.out B9
  clear B9 C3 C4
  go_wp2_with fail
  refine hK.out _ _ (GS.out _ H3.out) (fun hHeld => ?_)
  clear hK K
  try simp only [Act.put, List.setIfInBounds_toArray, List.set_cons_zero, List.set_cons_succ]
  refine takeV 6 (some 18) (.bool false) rfl rfl (by kernel_rfl) (by kernel_rfl) (by kernel_rfl) (fun _ _ _ h => h) (Or.inl ⟨by kernel_rfl, fun W hSw => by obtain ⟨s0, s1, s2, s3, s4, s5, s6, s7⟩ := hSw; go_simp⟩) hHeld ?_
  try simp only [Act.put, List.setIfInBounds_toArray, List.set_cons_zero, List.set_cons_succ]
  refine wpAnyH_done (by kernel_rfl) ?_ _
  go_wp2_with fail
  refine Calls.mono (CO.out W3 (below_after HM.out H3.out)) ?_
  rintro e w4 ⟨A5, c5, out, rfl, hc5, hC5, hIC, B5⟩
  have H4 : Hid (Below M.heap.size M w4) := below_after H3.out B5
  have C5 : Hid _ := hC5
  have SMo : Hid _ := SM.out out hIC
  have POo : Hid _ := PO.out out hIC
  have hol := (SC.out out hIC).1
  obtain ⟨Z1, hZ1⟩ : ∃ Z1, Z1 = appM (findK out) ⟨x0, x1, x2, x3⟩ false := ⟨_, rfl⟩
  obtain ⟨Z2, hZ2⟩ : ∃ Z2, Z2 = appM (findK th) ⟨y0, y1, y2, y3⟩ false := ⟨_, rfl⟩
  have EZ : Hid (lstM ⟨x0, x1, x2, x3⟩ = true → ∀ (W : World) (B B' : Option Addr) (d d' : Nat), Kd.C k24 W B Z1.f3.length Z1.f3 → Z1.f3.length ≤ d → Kd.C k24 W B' Z2.f3.length Z2.f3 → Z2.f3.length ≤ d' → Calls Tryz.prog 11 #[formV Z1.f0 Z1.f1 Z1.f2 B Z1.f3.length d, formV Z2.f0 Z2.f1 Z2.f2 B' Z2.f3.length d'] W fun e w' => e = .returned (.bool true) ∧ Below W.heap.size W w') := fun hl W B B' d d' h1 h2 h3 h4 => by
    have hz := ZZ.out hl out hIC
    have hwz := WZ.out out hIC
    rw [← hZ1, ← hZ2] at hz hwz
    have h5 := REqual_any Z1 Z2 B B' d d' W h1 h2 h3 h4 hwz.1 hwz.2
    rw [hz] at h5
    exact h5
  have AO : Hid (∀ W, Below w4.heap.size w4 W → Calls Tryz.prog 10 #[formV x0 x1 x2 A x3.length c, .slice A5 out.length c5] W fun e w' => ∃ A' c', e = .returned (formV Z1.f0 Z1.f1 Z1.f2 A' Z1.f3.length c') ∧ Z1.f3.length ≤ c' ∧ Kd.C k24 w' A' Z1.f3.length Z1.f3 ∧ Below W.heap.size W w') := fun W h => by
    rw [hZ1]
    refine (Apply_any ⟨x0, x1, x2, x3⟩ out W (fun k => k < W.heap.size) A A5 c c5 (Kd.C_F k24_heap (Kd.C_below HA.out (below_after (below_after HM.out H4.out) h))) hac HAW.out (Kd.C_F k51_heap (Kd.C_below hC5 h)) hc5 (by omega)).mono ?_
    rintro e w' ⟨A', c', rfl, h1, h2, h3⟩
    exact ⟨A', c', rfl, h1, Kd.F_now h2, h3⟩
  have AT2 : Hid (∀ W, Below M.heap.size M W → Calls Tryz.prog 10 #[formV y0 y1 y2 AY y3.length cY, .slice AT th.length ct] W fun e w' => ∃ A' c', e = .returned (formV Z2.f0 Z2.f1 Z2.f2 A' Z2.f3.length c') ∧ Z2.f3.length ≤ c' ∧ Kd.C k24 w' A' Z2.f3.length Z2.f3 ∧ Below W.heap.size W w') := fun W h => by
    rw [hZ2]
    refine (Apply_any ⟨y0, y1, y2, y3⟩ th W (fun k => k < W.heap.size) AY AT cY ct (Kd.C_F k24_heap (CYr.out W h)) hcY HYW.out (Kd.C_F k51_heap (Kd.C_below HAT.out (below_after HM.out h))) htc (by omega)).mono ?_
    rintro e w' ⟨A', c', rfl, h1, h2, h3⟩
    exact ⟨A', c', rfl, h1, Kd.F_now h2, h3⟩
  obtain ⟨ol, hol2⟩ : ∃ ol, ol = out.map conv := ⟨_, rfl⟩
  rw [← hol2] at SMo POo
  obtain ⟨rl, hrl⟩ : ∃ rl, rl = rcompM bl tl := ⟨_, rfl⟩
  rw [← hrl] at SMo RC
  clear hC5 hIC B5 hol hol2 hrl hZ1 hZ2 SM PO SC ZZ WZ CO RA EY
  go_wp2_with fail
  refine Calls.mono (POo.out w4 A5 c5 C5.out hc5) ?_
  rintro e w5 ⟨B6, d6, rfl, hd6, hC6, B7⟩
  have H5 : Hid (Below w4.heap.size w4 w5) := B7
  have C6 : Hid _ := hC6
  clear B7 hC6
  go_wp2_with fail
  refine Calls.mono (PB.out w5 (below_after HM.out (below_after H4.out H5.out))) ?_
  rintro e w6 ⟨B8, d8, rfl, hd8, hC8, B9⟩
  have H6 : Hid (Below w4.heap.size w4 w6) := below_after H5.out B9
  have C6b : Hid _ := Kd.C_below C6.out B9
  have C8 : Hid _ := hC8
  clear B9 hC8 C6
  go_wp2_with fail
  refine Calls.mono (PT.out w6 (below_after HM.out (below_after H4.out H6.out))) ?_
  rintro e w7 ⟨B10, d10, rfl, hd10, hC10, B11⟩
  have H7 : Hid (Below w4.heap.size w4 w7) := below_after H6.out B11
  have C6c : Hid _ := Kd.C_below C6b.out B11
  have RCC : Hid _ := RC.out w7 B8 B10 d8 d10 (Kd.C_below C8.out B11) hd8 hC10 hd10
  clear B11 hC10 C6b C8
  go_wp2_with fail
  refine Calls.mono RCC.out ?_
  rintro e w8 ⟨B12, d12, rfl, hd12, hC12, B13⟩
  have H8 : Hid (Below w4.heap.size w4 w8) := below_after H7.out B13
  have SMM : Hid _ := SMo.out w8 B6 B12 d6 d12 (Kd.C_below C6c.out B13) hC12
  clear B13 hC12 RCC C6c
  go_wp2_with fail
  refine Calls.mono SMM.out ?_
  rintro e w9 ⟨rfl, B14⟩
  have H9 : Hid (Below w4.heap.size w4 w9) := below_after H8.out B14
  clear B14 SMM
  go_upto_region 7 with fail
  refine wp_region_held_drew (S := fun W => W.cell? ⟨w.heap.size, 0, none⟩ = some (.int .i64 x0) ∧ W.cell? ⟨w.heap.size, 1, none⟩ = some (.int .i64 x1) ∧ W.cell? ⟨w.heap.size, 2, none⟩ = some (.string x2) ∧ W.cell? ⟨w.heap.size, 3, none⟩ = some (.slice A x3.length c) ∧ W.cell? ⟨bY, 0, none⟩ = some (.int .i64 y0) ∧ W.cell? ⟨bY, 1, none⟩ = some (.int .i64 y1) ∧ W.cell? ⟨bY, 2, none⟩ = some (.string y2) ∧ W.cell? ⟨bY, 3, none⟩ = some (.slice AY y3.length cY)) (by kernel_rfl) (GS.out _ (below_after H4.out (below_after H9.out (below_drew (Below.refl _ _))))) (fun hHeld => ?_)
  refine takeV 0 (some 31) (formV x0 x1 x2 A x3.length c) rfl rfl (by kernel_rfl) (by kernel_rfl) (by kernel_rfl) (fun _ _ _ h => h) (Or.inl ⟨by kernel_rfl, fun W hSw => by obtain ⟨s0, s1, s2, s3, s4, s5, s6, s7⟩ := hSw; go_simp⟩) hHeld ?_
  try simp only [Act.put, List.setIfInBounds_toArray, List.set_cons_zero, List.set_cons_succ]
  generalize hZ' : w9.drew = Z0
  have I0 : Hid (Below w4.heap.size w4 Z0) := (by subst hZ'; exact below_after H9.out (below_drew (Below.refl _ _)))
  clear hZ'
  have GA : Hid (Below w4.heap.size w4 (Z0.alloc (Obj.cells #[.int .i64 x0, .int .i64 x1, .string x2, .slice A x3.length c] 24))) := below_after I0.out (below_alloc (Below.refl _ _) _)
  refine wpAnyH_ready (rs := [1]) (by kernel_rfl) (by simp) ?_
  refine AllReadyH.cons rfl (fun K hK => ?_) AllReadyH.nil
  clear hHeld
  go_simp
  go_wp2_with fail
  refine hK.out _ _ (GS.out _ (below_after H4.out GA.out)) (fun hHeld => ?_)
  clear hK K
  try simp only [Act.put, List.setIfInBounds_toArray, List.set_cons_zero, List.set_cons_succ]
  refine wpAnyH_ready (rs := [2]) (by kernel_rfl) (by simp) ?_
  refine AllReadyH.cons rfl (fun K hK => ?_) AllReadyH.nil
  clear hHeld
  go_simp
  go_at_call 17
  refine Calls.mono (LI.out Z0 (below_after HM.out (below_after H4.out I0.out))) ?_
  rintro e W1 ⟨⟨b1, rfl, hb1⟩, B⟩
  have I1 : Hid (Below w4.heap.size w4 W1) := below_after I0.out B
  have HB1 : Hid _ := hb1
  clear B hb1
  go_wp2_with fail
  refine hK.out _ _ (GS.out _ (below_after H4.out I1.out)) (fun hHeld => ?_)
  clear hK K
  try simp only [Act.put, List.setIfInBounds_toArray, List.set_cons_zero, List.set_cons_succ]
  cases b1 with
  | false =>
    refine takeV 3 (some 34) (.bool true) rfl rfl (by kernel_rfl) (by kernel_rfl) (by kernel_rfl) (fun _ _ _ h => h) (Or.inl ⟨by kernel_rfl, fun W hSw => by obtain ⟨s0, s1, s2, s3, s4, s5, s6, s7⟩ := hSw; go_simp⟩) hHeld ?_
    try simp only [Act.put, List.setIfInBounds_toArray, List.set_cons_zero, List.set_cons_succ]
    refine takeV 4 (some 35) (.bool true) rfl rfl (by kernel_rfl) (by kernel_rfl) (by kernel_rfl) (fun _ _ _ h => h) (Or.inl ⟨by kernel_rfl, fun W hSw => by obtain ⟨s0, s1, s2, s3, s4, s5, s6, s7⟩ := hSw; go_simp⟩) hHeld ?_
    try simp only [Act.put, List.setIfInBounds_toArray, List.set_cons_zero, List.set_cons_succ]
    refine takeV 5 (some 36) undef rfl rfl (by kernel_rfl) (by kernel_rfl) (by kernel_rfl) (fun _ _ _ h => h) (Or.inr ⟨by kernel_rfl, rfl⟩) hHeld ?_
    try simp only [Act.put, List.setIfInBounds_toArray, List.set_cons_zero, List.set_cons_succ]
    refine takeV 6 (some 37) undef rfl rfl (by kernel_rfl) (by kernel_rfl) (by kernel_rfl) (fun _ _ _ h => h) (Or.inr ⟨by kernel_rfl, rfl⟩) hHeld ?_
    try simp only [Act.put, List.setIfInBounds_toArray, List.set_cons_zero, List.set_cons_succ]
    refine takeV 7 (some 38) undef rfl rfl (by kernel_rfl) (by kernel_rfl) (by kernel_rfl) (fun _ _ _ h => h) (Or.inr ⟨by kernel_rfl, rfl⟩) hHeld ?_
    try simp only [Act.put, List.setIfInBounds_toArray, List.set_cons_zero, List.set_cons_succ]
    refine takeV 8 (some 39) (.bool true) rfl rfl (by kernel_rfl) (by kernel_rfl) (by kernel_rfl) (fun _ _ _ h => h) (Or.inl ⟨by kernel_rfl, fun W hSw => by obtain ⟨s0, s1, s2, s3, s4, s5, s6, s7⟩ := hSw; go_simp⟩) hHeld ?_
    try simp only [Act.put, List.setIfInBounds_toArray, List.set_cons_zero, List.set_cons_succ]
    refine takeV 9 (some 40) (.bool true) rfl rfl (by kernel_rfl) (by kernel_rfl) (by kernel_rfl) (fun _ _ _ h => h) (Or.inl ⟨by kernel_rfl, fun W hSw => by obtain ⟨s0, s1, s2, s3, s4, s5, s6, s7⟩ := hSw; go_simp⟩) hHeld ?_
    try simp only [Act.put, List.setIfInBounds_toArray, List.set_cons_zero, List.set_cons_succ]
    refine takeV 10 (some 41) undef rfl rfl (by kernel_rfl) (by kernel_rfl) (by kernel_rfl) (fun _ _ _ h => h) (Or.inr ⟨by kernel_rfl, rfl⟩) hHeld ?_
    try simp only [Act.put, List.setIfInBounds_toArray, List.set_cons_zero, List.set_cons_succ]
    refine takeV 11 (some 42) undef rfl rfl (by kernel_rfl) (by kernel_rfl) (by kernel_rfl) (fun _ _ _ h => h) (Or.inr ⟨by kernel_rfl, rfl⟩) hHeld ?_
    try simp only [Act.put, List.setIfInBounds_toArray, List.set_cons_zero, List.set_cons_succ]
    refine takeV 12 (some 43) undef rfl rfl (by kernel_rfl) (by kernel_rfl) (by kernel_rfl) (fun _ _ _ h => h) (Or.inr ⟨by kernel_rfl, rfl⟩) hHeld ?_
    try simp only [Act.put, List.setIfInBounds_toArray, List.set_cons_zero, List.set_cons_succ]
    refine takeV 13 (some 44) (.bool true) rfl rfl (by kernel_rfl) (by kernel_rfl) (by kernel_rfl) (fun _ _ _ h => h) (Or.inl ⟨by kernel_rfl, fun W hSw => by obtain ⟨s0, s1, s2, s3, s4, s5, s6, s7⟩ := hSw; go_simp⟩) hHeld ?_
    try simp only [Act.put, List.setIfInBounds_toArray, List.set_cons_zero, List.set_cons_succ]
    refine takeV 14 (some 45) (.bool true) rfl rfl (by kernel_rfl) (by kernel_rfl) (by kernel_rfl) (fun _ _ _ h => h) (Or.inl ⟨by kernel_rfl, fun W hSw => by obtain ⟨s0, s1, s2, s3, s4, s5, s6, s7⟩ := hSw; go_simp⟩) hHeld ?_
    try simp only [Act.put, List.setIfInBounds_toArray, List.set_cons_zero, List.set_cons_succ]
    refine takeV 15 (some 46) undef rfl rfl (by kernel_rfl) (by kernel_rfl) (by kernel_rfl) (fun _ _ _ h => h) (Or.inr ⟨by kernel_rfl, rfl⟩) hHeld ?_
    try simp only [Act.put, List.setIfInBounds_toArray, List.set_cons_zero, List.set_cons_succ]
    refine takeV 16 (some 47) undef rfl rfl (by kernel_rfl) (by kernel_rfl) (by kernel_rfl) (fun _ _ _ h => h) (Or.inr ⟨by kernel_rfl, rfl⟩) hHeld ?_
    try simp only [Act.put, List.setIfInBounds_toArray, List.set_cons_zero, List.set_cons_succ]
    refine takeV 17 (some 48) undef rfl rfl (by kernel_rfl) (by kernel_rfl) (by kernel_rfl) (fun _ _ _ h => h) (Or.inr ⟨by kernel_rfl, rfl⟩) hHeld ?_
    try simp only [Act.put, List.setIfInBounds_toArray, List.set_cons_zero, List.set_cons_succ]
    refine takeV 18 (some 49) undef rfl rfl (by kernel_rfl) (by kernel_rfl) (by kernel_rfl) (fun _ _ _ h => h) (Or.inr ⟨by kernel_rfl, rfl⟩) hHeld ?_
    try simp only [Act.put, List.setIfInBounds_toArray, List.set_cons_zero, List.set_cons_succ]
    refine takeV 19 (some 50) undef rfl rfl (by kernel_rfl) (by kernel_rfl) (by kernel_rfl) (fun _ _ _ h => h) (Or.inr ⟨by kernel_rfl, rfl⟩) hHeld ?_
    try simp only [Act.put, List.setIfInBounds_toArray, List.set_cons_zero, List.set_cons_succ]
    refine takeV 20 (some 51) undef rfl rfl (by kernel_rfl) (by kernel_rfl) (by kernel_rfl) (fun _ _ _ h => h) (Or.inr ⟨by kernel_rfl, rfl⟩) hHeld ?_
    try simp only [Act.put, List.setIfInBounds_toArray, List.set_cons_zero, List.set_cons_succ]
    refine takeV 21 (some 52) undef rfl rfl (by kernel_rfl) (by kernel_rfl) (by kernel_rfl) (fun _ _ _ h => h) (Or.inr ⟨by kernel_rfl, rfl⟩) hHeld ?_
    try simp only [Act.put, List.setIfInBounds_toArray, List.set_cons_zero, List.set_cons_succ]
    refine takeV 22 (some 53) (.bool true) rfl rfl (by kernel_rfl) (by kernel_rfl) (by kernel_rfl) (fun _ _ _ h => h) (Or.inl ⟨by kernel_rfl, fun W hSw => by obtain ⟨s0, s1, s2, s3, s4, s5, s6, s7⟩ := hSw; go_simp⟩) hHeld ?_
    try simp only [Act.put, List.setIfInBounds_toArray, List.set_cons_zero, List.set_cons_succ]
    refine takeV 23 (some 54) (.bool true) rfl rfl (by kernel_rfl) (by kernel_rfl) (by kernel_rfl) (fun _ _ _ h => h) (Or.inl ⟨by kernel_rfl, fun W hSw => by obtain ⟨s0, s1, s2, s3, s4, s5, s6, s7⟩ := hSw; go_simp⟩) hHeld ?_
    try simp only [Act.put, List.setIfInBounds_toArray, List.set_cons_zero, List.set_cons_succ]
    refine wpAnyH_ready (rs := [24]) (by kernel_rfl) (by simp) ?_
    refine AllReadyH.cons rfl (fun K hK => ?_) AllReadyH.nil
    clear hHeld
    go_simp
    go_at_call 19
    refine (sane_any _).mono ?_
    rintro e W9 ⟨rfl, B9⟩
    have HH9 : Hid (Below w4.heap.size w4 W9) := below_after I1.out B9
    clear B9
    go_wp2_with fail
    refine hK.out _ _ (GS.out _ (below_after H4.out HH9.out)) (fun hHeld => ?_)
    clear hK K
    try simp only [Act.put, List.setIfInBounds_toArray, List.set_cons_zero, List.set_cons_succ]
    refine takeV 25 (some 56) (.bool true) rfl rfl (by kernel_rfl) (by kernel_rfl) (by kernel_rfl) (fun _ _ _ h => h) (Or.inl ⟨by kernel_rfl, fun W hSw => by obtain ⟨s0, s1, s2, s3, s4, s5, s6, s7⟩ := hSw; go_simp⟩) hHeld ?_
    try simp only [Act.put, List.setIfInBounds_toArray, List.set_cons_zero, List.set_cons_succ]
    refine takeV 26 (some 6) (.bool true) rfl rfl (by kernel_rfl) (by kernel_rfl) (by kernel_rfl) (fun _ _ _ h => h) (Or.inl ⟨by kernel_rfl, fun W hSw => by obtain ⟨s0, s1, s2, s3, s4, s5, s6, s7⟩ := hSw; go_simp⟩) hHeld ?_
    try simp only [Act.put, List.setIfInBounds_toArray, List.set_cons_zero, List.set_cons_succ]
    refine wpAnyH_done (by kernel_rfl) ?_ _
    go_wp2_with fail
    go_ret
    exact ⟨rfl, below_after HM.out (below_after H4.out HH9.out)⟩
  | true =>
    have HLX : Hid _ := HB1.out rfl
    clear HB1
    refine takeV 3 (some 34) (.bool false) rfl rfl (by kernel_rfl) (by kernel_rfl) (by kernel_rfl) (fun _ _ _ h => h) (Or.inl ⟨by kernel_rfl, fun W hSw => by obtain ⟨s0, s1, s2, s3, s4, s5, s6, s7⟩ := hSw; go_simp⟩) hHeld ?_
    try simp only [Act.put, List.setIfInBounds_toArray, List.set_cons_zero, List.set_cons_succ]
    refine takeV 4 (some 35) (.bool false) rfl rfl (by kernel_rfl) (by kernel_rfl) (by kernel_rfl) (fun _ _ _ h => h) (Or.inl ⟨by kernel_rfl, fun W hSw => by obtain ⟨s0, s1, s2, s3, s4, s5, s6, s7⟩ := hSw; go_simp⟩) hHeld ?_
    try simp only [Act.put, List.setIfInBounds_toArray, List.set_cons_zero, List.set_cons_succ]
    refine takeV 5 (some 36) (.slice AB by_.length cb) rfl rfl (by kernel_rfl) (by kernel_rfl) (by kernel_rfl) (fun _ _ _ h => h) (Or.inl ⟨by kernel_rfl, fun W hSw => by obtain ⟨s0, s1, s2, s3, s4, s5, s6, s7⟩ := hSw; go_simp⟩) hHeld ?_
    try simp only [Act.put, List.setIfInBounds_toArray, List.set_cons_zero, List.set_cons_succ]
    refine wpAnyH_ready (rs := [6]) (by kernel_rfl) (by simp) ?_
    refine AllReadyH.cons rfl (fun K hK => ?_) AllReadyH.nil
    clear hHeld
    go_simp
    go_at_call 18
    refine Calls.mono (LB.out W1 (below_after HM.out (below_after H4.out I1.out))) ?_
    rintro e W2 ⟨⟨b2, rfl⟩, B⟩
    have I2 : Hid (Below w4.heap.size w4 W2) := below_after I1.out B
    clear B
    go_wp2_with fail
    refine hK.out _ _ (GS.out _ (below_after H4.out I2.out)) (fun hHeld => ?_)
    clear hK K
    try simp only [Act.put, List.setIfInBounds_toArray, List.set_cons_zero, List.set_cons_succ]
    cases b2 with
    | false =>
      refine takeV 7 (some 38) (.bool true) rfl rfl (by kernel_rfl) (by kernel_rfl) (by kernel_rfl) (fun _ _ _ h => h) (Or.inl ⟨by kernel_rfl, fun W hSw => by obtain ⟨s0, s1, s2, s3, s4, s5, s6, s7⟩ := hSw; go_simp⟩) hHeld ?_
      try simp only [Act.put, List.setIfInBounds_toArray, List.set_cons_zero, List.set_cons_succ]
      refine takeV 8 (some 39) (.bool true) rfl rfl (by kernel_rfl) (by kernel_rfl) (by kernel_rfl) (fun _ _ _ h => h) (Or.inl ⟨by kernel_rfl, fun W hSw => by obtain ⟨s0, s1, s2, s3, s4, s5, s6, s7⟩ := hSw; go_simp⟩) hHeld ?_
      try simp only [Act.put, List.setIfInBounds_toArray, List.set_cons_zero, List.set_cons_succ]
      refine takeV 9 (some 40) (.bool true) rfl rfl (by kernel_rfl) (by kernel_rfl) (by kernel_rfl) (fun _ _ _ h => h) (Or.inl ⟨by kernel_rfl, fun W hSw => by obtain ⟨s0, s1, s2, s3, s4, s5, s6, s7⟩ := hSw; go_simp⟩) hHeld ?_
      try simp only [Act.put, List.setIfInBounds_toArray, List.set_cons_zero, List.set_cons_succ]
      refine takeV 10 (some 41) undef rfl rfl (by kernel_rfl) (by kernel_rfl) (by kernel_rfl) (fun _ _ _ h => h) (Or.inr ⟨by kernel_rfl, rfl⟩) hHeld ?_
      try simp only [Act.put, List.setIfInBounds_toArray, List.set_cons_zero, List.set_cons_succ]
      refine takeV 11 (some 42) undef rfl rfl (by kernel_rfl) (by kernel_rfl) (by kernel_rfl) (fun _ _ _ h => h) (Or.inr ⟨by kernel_rfl, rfl⟩) hHeld ?_
      try simp only [Act.put, List.setIfInBounds_toArray, List.set_cons_zero, List.set_cons_succ]
      refine takeV 12 (some 43) undef rfl rfl (by kernel_rfl) (by kernel_rfl) (by kernel_rfl) (fun _ _ _ h => h) (Or.inr ⟨by kernel_rfl, rfl⟩) hHeld ?_
      try simp only [Act.put, List.setIfInBounds_toArray, List.set_cons_zero, List.set_cons_succ]
      refine takeV 13 (some 44) (.bool true) rfl rfl (by kernel_rfl) (by kernel_rfl) (by kernel_rfl) (fun _ _ _ h => h) (Or.inl ⟨by kernel_rfl, fun W hSw => by obtain ⟨s0, s1, s2, s3, s4, s5, s6, s7⟩ := hSw; go_simp⟩) hHeld ?_
      try simp only [Act.put, List.setIfInBounds_toArray, List.set_cons_zero, List.set_cons_succ]
      refine takeV 14 (some 45) (.bool true) rfl rfl (by kernel_rfl) (by kernel_rfl) (by kernel_rfl) (fun _ _ _ h => h) (Or.inl ⟨by kernel_rfl, fun W hSw => by obtain ⟨s0, s1, s2, s3, s4, s5, s6, s7⟩ := hSw; go_simp⟩) hHeld ?_
      try simp only [Act.put, List.setIfInBounds_toArray, List.set_cons_zero, List.set_cons_succ]
      refine takeV 15 (some 46) undef rfl rfl (by kernel_rfl) (by kernel_rfl) (by kernel_rfl) (fun _ _ _ h => h) (Or.inr ⟨by kernel_rfl, rfl⟩) hHeld ?_
      try simp only [Act.put, List.setIfInBounds_toArray, List.set_cons_zero, List.set_cons_succ]
      refine takeV 16 (some 47) undef rfl rfl (by kernel_rfl) (by kernel_rfl) (by kernel_rfl) (fun _ _ _ h => h) (Or.inr ⟨by kernel_rfl, rfl⟩) hHeld ?_
      try simp only [Act.put, List.setIfInBounds_toArray, List.set_cons_zero, List.set_cons_succ]
      refine takeV 17 (some 48) undef rfl rfl (by kernel_rfl) (by kernel_rfl) (by kernel_rfl) (fun _ _ _ h => h) (Or.inr ⟨by kernel_rfl, rfl⟩) hHeld ?_
      try simp only [Act.put, List.setIfInBounds_toArray, List.set_cons_zero, List.set_cons_succ]
      refine takeV 18 (some 49) undef rfl rfl (by kernel_rfl) (by kernel_rfl) (by kernel_rfl) (fun _ _ _ h => h) (Or.inr ⟨by kernel_rfl, rfl⟩) hHeld ?_
      try simp only [Act.put, List.setIfInBounds_toArray, List.set_cons_zero, List.set_cons_succ]
      refine takeV 19 (some 50) undef rfl rfl (by kernel_rfl) (by kernel_rfl) (by kernel_rfl) (fun _ _ _ h => h) (Or.inr ⟨by kernel_rfl, rfl⟩) hHeld ?_
      try simp only [Act.put, List.setIfInBounds_toArray, List.set_cons_zero, List.set_cons_succ]
      refine takeV 20 (some 51) undef rfl rfl (by kernel_rfl) (by kernel_rfl) (by kernel_rfl) (fun _ _ _ h => h) (Or.inr ⟨by kernel_rfl, rfl⟩) hHeld ?_
      try simp only [Act.put, List.setIfInBounds_toArray, List.set_cons_zero, List.set_cons_succ]
      refine takeV 21 (some 52) undef rfl rfl (by kernel_rfl) (by kernel_rfl) (by kernel_rfl) (fun _ _ _ h => h) (Or.inr ⟨by kernel_rfl, rfl⟩) hHeld ?_
      try simp only [Act.put, List.setIfInBounds_toArray, List.set_cons_zero, List.set_cons_succ]
      refine takeV 22 (some 53) (.bool true) rfl rfl (by kernel_rfl) (by kernel_rfl) (by kernel_rfl) (fun _ _ _ h => h) (Or.inl ⟨by kernel_rfl, fun W hSw => by obtain ⟨s0, s1, s2, s3, s4, s5, s6, s7⟩ := hSw; go_simp⟩) hHeld ?_
      try simp only [Act.put, List.setIfInBounds_toArray, List.set_cons_zero, List.set_cons_succ]
      refine takeV 23 (some 54) (.bool true) rfl rfl (by kernel_rfl) (by kernel_rfl) (by kernel_rfl) (fun _ _ _ h => h) (Or.inl ⟨by kernel_rfl, fun W hSw => by obtain ⟨s0, s1, s2, s3, s4, s5, s6, s7⟩ := hSw; go_simp⟩) hHeld ?_
      try simp only [Act.put, List.setIfInBounds_toArray, List.set_cons_zero, List.set_cons_succ]
      refine wpAnyH_ready (rs := [24]) (by kernel_rfl) (by simp) ?_
      refine AllReadyH.cons rfl (fun K hK => ?_) AllReadyH.nil
      clear hHeld
      go_simp
      go_at_call 19
      refine (sane_any _).mono ?_
      rintro e W9 ⟨rfl, B9⟩
      have HH9 : Hid (Below w4.heap.size w4 W9) := below_after I2.out B9
      clear B9
      go_wp2_with fail
      refine hK.out _ _ (GS.out _ (below_after H4.out HH9.out)) (fun hHeld => ?_)
      clear hK K
      try simp only [Act.put, List.setIfInBounds_toArray, List.set_cons_zero, List.set_cons_succ]
      refine takeV 25 (some 56) (.bool true) rfl rfl (by kernel_rfl) (by kernel_rfl) (by kernel_rfl) (fun _ _ _ h => h) (Or.inl ⟨by kernel_rfl, fun W hSw => by obtain ⟨s0, s1, s2, s3, s4, s5, s6, s7⟩ := hSw; go_simp⟩) hHeld ?_
      try simp only [Act.put, List.setIfInBounds_toArray, List.set_cons_zero, List.set_cons_succ]
      refine takeV 26 (some 6) (.bool true) rfl rfl (by kernel_rfl) (by kernel_rfl) (by kernel_rfl) (fun _ _ _ h => h) (Or.inl ⟨by kernel_rfl, fun W hSw => by obtain ⟨s0, s1, s2, s3, s4, s5, s6, s7⟩ := hSw; go_simp⟩) hHeld ?_
      try simp only [Act.put, List.setIfInBounds_toArray, List.set_cons_zero, List.set_cons_succ]
      refine wpAnyH_done (by kernel_rfl) ?_ _
      go_wp2_with fail
      go_ret
      exact ⟨rfl, below_after HM.out (below_after H4.out HH9.out)⟩
    | true =>
      refine takeV 7 (some 38) (.bool false) rfl rfl (by kernel_rfl) (by kernel_rfl) (by kernel_rfl) (fun _ _ _ h => h) (Or.inl ⟨by kernel_rfl, fun W hSw => by obtain ⟨s0, s1, s2, s3, s4, s5, s6, s7⟩ := hSw; go_simp⟩) hHeld ?_
      try simp only [Act.put, List.setIfInBounds_toArray, List.set_cons_zero, List.set_cons_succ]
      refine takeV 8 (some 39) (.bool false) rfl rfl (by kernel_rfl) (by kernel_rfl) (by kernel_rfl) (fun _ _ _ h => h) (Or.inl ⟨by kernel_rfl, fun W hSw => by obtain ⟨s0, s1, s2, s3, s4, s5, s6, s7⟩ := hSw; go_simp⟩) hHeld ?_
      try simp only [Act.put, List.setIfInBounds_toArray, List.set_cons_zero, List.set_cons_succ]
      refine takeV 9 (some 40) (.bool false) rfl rfl (by kernel_rfl) (by kernel_rfl) (by kernel_rfl) (fun _ _ _ h => h) (Or.inl ⟨by kernel_rfl, fun W hSw => by obtain ⟨s0, s1, s2, s3, s4, s5, s6, s7⟩ := hSw; go_simp⟩) hHeld ?_
      try simp only [Act.put, List.setIfInBounds_toArray, List.set_cons_zero, List.set_cons_succ]
      refine takeV 10 (some 41) (.slice AT th.length ct) rfl rfl (by kernel_rfl) (by kernel_rfl) (by kernel_rfl) (fun _ _ _ h => h) (Or.inl ⟨by kernel_rfl, fun W hSw => by obtain ⟨s0, s1, s2, s3, s4, s5, s6, s7⟩ := hSw; go_simp⟩) hHeld ?_
      try simp only [Act.put, List.setIfInBounds_toArray, List.set_cons_zero, List.set_cons_succ]
      refine wpAnyH_ready (rs := [11]) (by kernel_rfl) (by simp) ?_
      refine AllReadyH.cons rfl (fun K hK => ?_) AllReadyH.nil
      clear hHeld
      go_simp
      go_at_call 18
      refine Calls.mono (LT.out W2 (below_after HM.out (below_after H4.out I2.out))) ?_
      rintro e W3x ⟨⟨b3, rfl⟩, B⟩
      have I3 : Hid (Below w4.heap.size w4 W3x) := below_after I2.out B
      clear B
      go_wp2_with fail
      refine hK.out _ _ (GS.out _ (below_after H4.out I3.out)) (fun hHeld => ?_)
      clear hK K
      try simp only [Act.put, List.setIfInBounds_toArray, List.set_cons_zero, List.set_cons_succ]
      cases b3 with
      | false =>
        refine takeV 12 (some 43) (.bool true) rfl rfl (by kernel_rfl) (by kernel_rfl) (by kernel_rfl) (fun _ _ _ h => h) (Or.inl ⟨by kernel_rfl, fun W hSw => by obtain ⟨s0, s1, s2, s3, s4, s5, s6, s7⟩ := hSw; go_simp⟩) hHeld ?_
        try simp only [Act.put, List.setIfInBounds_toArray, List.set_cons_zero, List.set_cons_succ]
        refine takeV 13 (some 44) (.bool true) rfl rfl (by kernel_rfl) (by kernel_rfl) (by kernel_rfl) (fun _ _ _ h => h) (Or.inl ⟨by kernel_rfl, fun W hSw => by obtain ⟨s0, s1, s2, s3, s4, s5, s6, s7⟩ := hSw; go_simp⟩) hHeld ?_
        try simp only [Act.put, List.setIfInBounds_toArray, List.set_cons_zero, List.set_cons_succ]
        refine takeV 14 (some 45) (.bool true) rfl rfl (by kernel_rfl) (by kernel_rfl) (by kernel_rfl) (fun _ _ _ h => h) (Or.inl ⟨by kernel_rfl, fun W hSw => by obtain ⟨s0, s1, s2, s3, s4, s5, s6, s7⟩ := hSw; go_simp⟩) hHeld ?_
        try simp only [Act.put, List.setIfInBounds_toArray, List.set_cons_zero, List.set_cons_succ]
        refine takeV 15 (some 46) undef rfl rfl (by kernel_rfl) (by kernel_rfl) (by kernel_rfl) (fun _ _ _ h => h) (Or.inr ⟨by kernel_rfl, rfl⟩) hHeld ?_
        try simp only [Act.put, List.setIfInBounds_toArray, List.set_cons_zero, List.set_cons_succ]
        refine takeV 16 (some 47) undef rfl rfl (by kernel_rfl) (by kernel_rfl) (by kernel_rfl) (fun _ _ _ h => h) (Or.inr ⟨by kernel_rfl, rfl⟩) hHeld ?_
        try simp only [Act.put, List.setIfInBounds_toArray, List.set_cons_zero, List.set_cons_succ]
        refine takeV 17 (some 48) undef rfl rfl (by kernel_rfl) (by kernel_rfl) (by kernel_rfl) (fun _ _ _ h => h) (Or.inr ⟨by kernel_rfl, rfl⟩) hHeld ?_
        try simp only [Act.put, List.setIfInBounds_toArray, List.set_cons_zero, List.set_cons_succ]
        refine takeV 18 (some 49) undef rfl rfl (by kernel_rfl) (by kernel_rfl) (by kernel_rfl) (fun _ _ _ h => h) (Or.inr ⟨by kernel_rfl, rfl⟩) hHeld ?_
        try simp only [Act.put, List.setIfInBounds_toArray, List.set_cons_zero, List.set_cons_succ]
        refine takeV 19 (some 50) undef rfl rfl (by kernel_rfl) (by kernel_rfl) (by kernel_rfl) (fun _ _ _ h => h) (Or.inr ⟨by kernel_rfl, rfl⟩) hHeld ?_
        try simp only [Act.put, List.setIfInBounds_toArray, List.set_cons_zero, List.set_cons_succ]
        refine takeV 20 (some 51) undef rfl rfl (by kernel_rfl) (by kernel_rfl) (by kernel_rfl) (fun _ _ _ h => h) (Or.inr ⟨by kernel_rfl, rfl⟩) hHeld ?_
        try simp only [Act.put, List.setIfInBounds_toArray, List.set_cons_zero, List.set_cons_succ]
        refine takeV 21 (some 52) undef rfl rfl (by kernel_rfl) (by kernel_rfl) (by kernel_rfl) (fun _ _ _ h => h) (Or.inr ⟨by kernel_rfl, rfl⟩) hHeld ?_
        try simp only [Act.put, List.setIfInBounds_toArray, List.set_cons_zero, List.set_cons_succ]
        refine takeV 22 (some 53) (.bool true) rfl rfl (by kernel_rfl) (by kernel_rfl) (by kernel_rfl) (fun _ _ _ h => h) (Or.inl ⟨by kernel_rfl, fun W hSw => by obtain ⟨s0, s1, s2, s3, s4, s5, s6, s7⟩ := hSw; go_simp⟩) hHeld ?_
        try simp only [Act.put, List.setIfInBounds_toArray, List.set_cons_zero, List.set_cons_succ]
        refine takeV 23 (some 54) (.bool true) rfl rfl (by kernel_rfl) (by kernel_rfl) (by kernel_rfl) (fun _ _ _ h => h) (Or.inl ⟨by kernel_rfl, fun W hSw => by obtain ⟨s0, s1, s2, s3, s4, s5, s6, s7⟩ := hSw; go_simp⟩) hHeld ?_
        try simp only [Act.put, List.setIfInBounds_toArray, List.set_cons_zero, List.set_cons_succ]
        refine wpAnyH_ready (rs := [24]) (by kernel_rfl) (by simp) ?_
        refine AllReadyH.cons rfl (fun K hK => ?_) AllReadyH.nil
        clear hHeld
        go_simp
        go_at_call 19
        refine (sane_any _).mono ?_
        rintro e W9 ⟨rfl, B9⟩
        have HH9 : Hid (Below w4.heap.size w4 W9) := below_after I3.out B9
        clear B9
        go_wp2_with fail
        refine hK.out _ _ (GS.out _ (below_after H4.out HH9.out)) (fun hHeld => ?_)
        clear hK K
        try simp only [Act.put, List.setIfInBounds_toArray, List.set_cons_zero, List.set_cons_succ]
        refine takeV 25 (some 56) (.bool true) rfl rfl (by kernel_rfl) (by kernel_rfl) (by kernel_rfl) (fun _ _ _ h => h) (Or.inl ⟨by kernel_rfl, fun W hSw => by obtain ⟨s0, s1, s2, s3, s4, s5, s6, s7⟩ := hSw; go_simp⟩) hHeld ?_
        try simp only [Act.put, List.setIfInBounds_toArray, List.set_cons_zero, List.set_cons_succ]
        refine takeV 26 (some 6) (.bool true) rfl rfl (by kernel_rfl) (by kernel_rfl) (by kernel_rfl) (fun _ _ _ h => h) (Or.inl ⟨by kernel_rfl, fun W hSw => by obtain ⟨s0, s1, s2, s3, s4, s5, s6, s7⟩ := hSw; go_simp⟩) hHeld ?_
        try simp only [Act.put, List.setIfInBounds_toArray, List.set_cons_zero, List.set_cons_succ]
        refine wpAnyH_done (by kernel_rfl) ?_ _
        go_wp2_with fail
        go_ret
        exact ⟨rfl, below_after HM.out (below_after H4.out HH9.out)⟩
      | true =>
        refine takeV 12 (some 43) (.bool false) rfl rfl (by kernel_rfl) (by kernel_rfl) (by kernel_rfl) (fun _ _ _ h => h) (Or.inl ⟨by kernel_rfl, fun W hSw => by obtain ⟨s0, s1, s2, s3, s4, s5, s6, s7⟩ := hSw; go_simp⟩) hHeld ?_
        try simp only [Act.put, List.setIfInBounds_toArray, List.set_cons_zero, List.set_cons_succ]
        refine takeV 13 (some 44) (.bool false) rfl rfl (by kernel_rfl) (by kernel_rfl) (by kernel_rfl) (fun _ _ _ h => h) (Or.inl ⟨by kernel_rfl, fun W hSw => by obtain ⟨s0, s1, s2, s3, s4, s5, s6, s7⟩ := hSw; go_simp⟩) hHeld ?_
        try simp only [Act.put, List.setIfInBounds_toArray, List.set_cons_zero, List.set_cons_succ]
        refine takeV 14 (some 45) (.bool false) rfl rfl (by kernel_rfl) (by kernel_rfl) (by kernel_rfl) (fun _ _ _ h => h) (Or.inl ⟨by kernel_rfl, fun W hSw => by obtain ⟨s0, s1, s2, s3, s4, s5, s6, s7⟩ := hSw; go_simp⟩) hHeld ?_
        try simp only [Act.put, List.setIfInBounds_toArray, List.set_cons_zero, List.set_cons_succ]
        refine takeV 15 (some 46) (formV x0 x1 x2 A x3.length c) rfl rfl (by kernel_rfl) (by kernel_rfl) (by kernel_rfl) (fun _ _ _ h => h) (Or.inl ⟨by kernel_rfl, fun W hSw => by obtain ⟨s0, s1, s2, s3, s4, s5, s6, s7⟩ := hSw; go_simp⟩) hHeld ?_
        try simp only [Act.put, List.setIfInBounds_toArray, List.set_cons_zero, List.set_cons_succ]
        refine takeV 16 (some 47) (.slice A5 out.length c5) rfl rfl (by kernel_rfl) (by kernel_rfl) (by kernel_rfl) (fun _ _ _ h => h) (Or.inl ⟨by kernel_rfl, fun W hSw => by obtain ⟨s0, s1, s2, s3, s4, s5, s6, s7⟩ := hSw; go_simp⟩) hHeld ?_
        try simp only [Act.put, List.setIfInBounds_toArray, List.set_cons_zero, List.set_cons_succ]
        refine takeV 18 (some 49) (formV y0 y1 y2 AY y3.length cY) rfl rfl (by kernel_rfl) (by kernel_rfl) (by kernel_rfl) (fun _ _ _ h => h) (Or.inl ⟨by kernel_rfl, fun W hSw => by obtain ⟨s0, s1, s2, s3, s4, s5, s6, s7⟩ := hSw; go_simp⟩) hHeld ?_
        try simp only [Act.put, List.setIfInBounds_toArray, List.set_cons_zero, List.set_cons_succ]
        refine takeV 19 (some 50) (.slice AT th.length ct) rfl rfl (by kernel_rfl) (by kernel_rfl) (by kernel_rfl) (fun _ _ _ h => h) (Or.inl ⟨by kernel_rfl, fun W hSw => by obtain ⟨s0, s1, s2, s3, s4, s5, s6, s7⟩ := hSw; go_simp⟩) hHeld ?_
        try simp only [Act.put, List.setIfInBounds_toArray, List.set_cons_zero, List.set_cons_succ]
        refine wpAnyH_ready (rs := [17]) (by kernel_rfl) (by simp) ?_
        refine AllReadyH.cons rfl (fun K hK => ?_) AllReadyH.nil
        clear hHeld
        go_simp
        go_at_call 10
        refine Calls.mono (AO.out _ I3.out) ?_
        rintro e W4 ⟨A6, c6, rfl, hc6, hC6, B⟩
        have I4 : Hid (Below w4.heap.size w4 W4) := below_after I3.out B
        have C6 : Hid _ := hC6
        clear B hC6
        go_wp2_with fail
        refine hK.out _ _ (GS.out _ (below_after H4.out I4.out)) (fun hHeld => ?_)
        clear hK K
        try simp only [Act.put, List.setIfInBounds_toArray, List.set_cons_zero, List.set_cons_succ]
        refine wpAnyH_ready (rs := [20]) (by kernel_rfl) (by simp) ?_
        refine AllReadyH.cons rfl (fun K hK => ?_) AllReadyH.nil
        clear hHeld
        go_simp
        go_at_call 10
        refine Calls.mono (AT2.out _ (below_after H4.out I4.out)) ?_
        rintro e W5 ⟨A7, c7, rfl, hc7, hC7, B⟩
        have I5 : Hid (Below w4.heap.size w4 W5) := below_after I4.out B
        have EE : Hid _ := EZ.out HLX.out W5 A6 A7 c6 c7 (Kd.C_below C6.out B) hc6 hC7 hc7
        clear B hC7 C6
        go_wp2_with fail
        refine hK.out _ _ (GS.out _ (below_after H4.out I5.out)) (fun hHeld => ?_)
        clear hK K
        try simp only [Act.put, List.setIfInBounds_toArray, List.set_cons_zero, List.set_cons_succ]
        refine wpAnyH_ready (rs := [21]) (by kernel_rfl) (by simp) ?_
        refine AllReadyH.cons rfl (fun K hK => ?_) AllReadyH.nil
        clear hHeld
        go_simp
        go_at_call 11
        refine Calls.mono EE.out ?_
        rintro e W6 ⟨rfl, B⟩
        have I6 : Hid (Below w4.heap.size w4 W6) := below_after I5.out B
        clear B EE
        go_wp2_with fail
        refine hK.out _ _ (GS.out _ (below_after H4.out I6.out)) (fun hHeld => ?_)
        clear hK K
        try simp only [Act.put, List.setIfInBounds_toArray, List.set_cons_zero, List.set_cons_succ]
        refine takeV 22 (some 53) (.bool true) rfl rfl (by kernel_rfl) (by kernel_rfl) (by kernel_rfl) (fun _ _ _ h => h) (Or.inl ⟨by kernel_rfl, fun W hSw => by obtain ⟨s0, s1, s2, s3, s4, s5, s6, s7⟩ := hSw; go_simp⟩) hHeld ?_
        try simp only [Act.put, List.setIfInBounds_toArray, List.set_cons_zero, List.set_cons_succ]
        refine takeV 23 (some 54) (.bool true) rfl rfl (by kernel_rfl) (by kernel_rfl) (by kernel_rfl) (fun _ _ _ h => h) (Or.inl ⟨by kernel_rfl, fun W hSw => by obtain ⟨s0, s1, s2, s3, s4, s5, s6, s7⟩ := hSw; go_simp⟩) hHeld ?_
        try simp only [Act.put, List.setIfInBounds_toArray, List.set_cons_zero, List.set_cons_succ]
        refine wpAnyH_ready (rs := [24]) (by kernel_rfl) (by simp) ?_
        refine AllReadyH.cons rfl (fun K hK => ?_) AllReadyH.nil
        clear hHeld
        go_simp
        go_at_call 19
        refine (sane_any _).mono ?_
        rintro e W9 ⟨rfl, B9⟩
        have HH9 : Hid (Below w4.heap.size w4 W9) := below_after I6.out B9
        clear B9
        go_wp2_with fail
        refine hK.out _ _ (GS.out _ (below_after H4.out HH9.out)) (fun hHeld => ?_)
        clear hK K
        try simp only [Act.put, List.setIfInBounds_toArray, List.set_cons_zero, List.set_cons_succ]
        refine takeV 25 (some 56) (.bool true) rfl rfl (by kernel_rfl) (by kernel_rfl) (by kernel_rfl) (fun _ _ _ h => h) (Or.inl ⟨by kernel_rfl, fun W hSw => by obtain ⟨s0, s1, s2, s3, s4, s5, s6, s7⟩ := hSw; go_simp⟩) hHeld ?_
        try simp only [Act.put, List.setIfInBounds_toArray, List.set_cons_zero, List.set_cons_succ]
        refine takeV 26 (some 6) (.bool true) rfl rfl (by kernel_rfl) (by kernel_rfl) (by kernel_rfl) (fun _ _ _ h => h) (Or.inl ⟨by kernel_rfl, fun W hSw => by obtain ⟨s0, s1, s2, s3, s4, s5, s6, s7⟩ := hSw; go_simp⟩) hHeld ?_
        try simp only [Act.put, List.setIfInBounds_toArray, List.set_cons_zero, List.set_cons_succ]
        refine wpAnyH_done (by kernel_rfl) ?_ _
        go_wp2_with fail
        go_ret
        exact ⟨rfl, below_after HM.out (below_after H4.out HH9.out)⟩

end Go.Proofs.YtcjmplpfebpfpaaGreatDoor

namespace Go.Proofs.YtcjmplpfebpfpaaGreatDoor
open Go.RowKit Go.Proofs Go.ChangeShapes Go.WideShapes Go.ChangeAt Go.Deep Go.Proofs.YtcjmplpfebpfpaaGreatDoorW.PrintWords Go.Proofs.YtcjmplpfebpfpaaGreatDoorW.PrintLast Go.Proofs.YtcjmplpfebpfpaaGreatDoorW.PrintMore PKindInstances
set_option linter.unusedVariables false
set_option linter.unusedSimpArgs false

theorem cells24' : Tryz.prog.cellsOf 24 = 4 := by kernel_rfl
theorem cells3' : Tryz.prog.cellsOf 3 = 1 := by kernel_rfl
theorem cells9' : Tryz.prog.cellsOf 9 = 1 := by kernel_rfl
theorem cells22' : Tryz.prog.cellsOf 22 = 1 := by kernel_rfl

variable {H : Type} {enc : TypeId × Value → H}

theorem bulk_at {l : List (DataW H)} {d : DataW H} (h : d ∈ l) : Rows.uptoBulk d ≤ Rows.uptoBulkAll l := by
  induction l with
  | nil => cases h
  | cons x r ih =>
    simp only [Rows.uptoBulkAll]
    rcases List.mem_cons.1 h with e | e
    · subst e; omega
    · have := ih e; omega

theorem bulk_sum (r : List Nat) (D : Nat → DataW H) (g : Nat → S24) (h : ∀ i ∈ r, siz (g i) ≤ Rows.uptoBulk (D i)) : sizs (r.map g) ≤ Rows.uptoBulkAll (r.map D) := by
  induction r with
  | nil => simp [sizs, Rows.uptoBulkAll]
  | cons a r ih =>
    have h1 := h a List.mem_cons_self
    have h2 := ih fun i hi => h i (List.mem_cons_of_mem _ hi)
    simp only [List.map_cons, sizs, Rows.uptoBulkAll]
    omega

theorem list4 {α : Type} {l : List α} (h : l.length = 4) : ∃ a b c d, l = [a, b, c, d] := by
  match l, h with
  | [a, b, c, d], _ => exact ⟨a, b, c, d, rfl⟩
/-- What a form reads as. -/
def FormIn (w : World) (cs : List Value) (s : S24) (n : Nat) : Prop :=
  ∃ A c, cs = [.int .i64 s.f0, .int .i64 s.f1, .string s.f2, .slice A s.f3.length c] ∧ s.f3.length ≤ c ∧ Kd.C k24 w A s.f3.length s.f3 ∧ siz s ≤ n ∧ c ≤ maxLen

theorem row_mk {w : World} {a : Addr} {len : Nat} (g : Nat → S24) (cs : Nat → List Value) (hm : len ≤ maxLen) (h : ∀ i, i < len → w.cells? 0 (a.add (i * 4)) 4 = some (cs i) ∧ k24.K w (g i) (cs i)) :
    Kd.C k24 w (some a) len ((List.range len).map g) := by
  refine ⟨by simp, by simp [maxLen] at hm; omega, fun hn => ⟨a, rfl, fun j p hj => ?_⟩⟩
  have hjl : j < len := by
    have := (List.getElem?_eq_some_iff.1 hj).1
    simpa using this
  obtain rfl : g j = p := by simpa [hjl] using hj
  obtain ⟨h1, h2⟩ := h j hjl
  obtain ⟨_, hl, hc⟩ := World.cells?_some h1
  refine ⟨cs j, hl, h2, fun i u hu => ?_⟩
  have hil : i < 4 := by rw [← hl]; exact (List.getElem?_eq_some_iff.1 hu).1
  show w.cell? (a.add (j * 4 + i)) = some u
  rw [← Go.Deep.add_add, hc i hil, hu]

theorem open_form {w : World} (N : Nat) : ∀ {fuel : Nat} {cs : List Value} {x : DataW H × List MemPlace}, DataW.trod enc Tryz.prog w 0 (fun _ => true) true fuel 24 cs = some x → Rows.uptoBulk x.1 = N → ∃ s : S24, FormIn w cs s (Rows.uptoBulk x.1) := by
  induction N using Nat.strongRecOn with
  | _ N ih =>
  intro fuel cs x h hN
  obtain ⟨xs, n, rfl, rfl, hl, hlen, hf⟩ := DataW.trod_struct Tryz.underlying24 h
  rw [cells24'] at hl
  have hlen4 : xs.length = 4 := hlen
  obtain ⟨y0, y1, y2, y3, rfl⟩ := list4 hlen4
  obtain ⟨u0, u1, u2, u3, rfl⟩ := list4 hl
  have h0 := hf 0 _ rfl
  have h1 := hf 1 _ rfl
  have h2 := hf 2 _ rfl
  have h3 := hf 3 _ rfl
  change DataW.trod enc Tryz.prog w 0 (fun _ => true) true n 3 ([u0, u1, u2, u3].take (Tryz.prog.cellsOf 3)) = some y0 at h0
  change DataW.trod enc Tryz.prog w 0 (fun _ => true) true n 3 ([u1, u2, u3].take (Tryz.prog.cellsOf 3)) = some y1 at h1
  change DataW.trod enc Tryz.prog w 0 (fun _ => true) true n 9 ([u2, u3].take (Tryz.prog.cellsOf 9)) = some y2 at h2
  change DataW.trod enc Tryz.prog w 0 (fun _ => true) true n 22 ([u3].take (Tryz.prog.cellsOf 22)) = some y3 at h3
  rw [cells3'] at h0 h1
  rw [cells9'] at h2
  rw [cells22'] at h3
  simp only [List.take_succ_cons, List.take_zero] at h0 h1 h2 h3
  obtain ⟨z0, e0, f0, _⟩ := DataW.trod_int Tryz.underlying3 h0
  obtain ⟨z1, e1, f1, _⟩ := DataW.trod_int Tryz.underlying3 h1
  obtain ⟨z2, e2, f2, _⟩ := DataW.trod_string Tryz.underlying9 h2
  clear h hf hlen hlen4 hl h0 h1 h2
  simp only [List.cons.injEq, and_true] at e0 e1 e2
  subst e0 e1 e2 f0 f1 f2
  rcases open_slice Tryz.underlying22 h3 with ⟨e3, f3⟩ | ⟨a, len, cap, m, n', Dd, Pl, e3, _, hl, hm, hmm, f3, hall⟩
  · simp only [List.cons.injEq, and_true] at e3
    subst e3 f3
    refine ⟨⟨z0, z1, z2, []⟩, none, 0, rfl, Nat.le_refl _, Kd.C_nil _ _, ?_, Nat.zero_le _⟩
    have e : z2.data.toList.length = z2.size := Array.length_toList
    simp [siz, sizs, Rows.uptoBulk, Rows.uptoBulkAll]
    omega
  · simp only [List.cons.injEq, and_true] at e3
    simp only [if_true] at hmm
    subst e3 f3
    simp only [List.map_cons, List.map_nil, Rows.uptoBulk, Rows.uptoBulkAll] at hN
    have hbd : ∀ i, i < len → Rows.uptoBulk (Dd i) ≤ Rows.uptoBulkAll ((List.range len).map Dd) := fun i hi => bulk_at (List.mem_map.2 ⟨i, List.mem_range.2 hi, rfl⟩)
    have each : ∀ i, i < len → ∃ p : S24 × List Value, w.cells? 0 (a.add (i * 4)) 4 = some p.2 ∧ FormIn w p.2 p.1 (Rows.uptoBulk (Dd i)) := by
      intro i hi
      obtain ⟨cs', g1, g2⟩ := hall i (by omega)
      rw [cells24'] at g1
      obtain ⟨s, hs⟩ := ih _ (by have := hbd i hi; show Rows.uptoBulk (Dd i) < N; omega) g2 rfl
      exact ⟨(s, cs'), g1, hs⟩
    haveI : Inhabited (S24 × List Value) := ⟨(z24, [])⟩
    obtain ⟨f, hf⟩ := choose_lt (α := S24 × List Value) each
    have hlist : ((List.range len).map fun i => (f i).1).length = len := by simp
    refine ⟨⟨z0, z1, z2, (List.range len).map fun i => (f i).1⟩, some a, cap, by simp only [hlist], by simp only [hlist]; exact hl, ?_, ?_, hm⟩
    · simp only [hlist]
      exact row_mk (fun i => (f i).1) (fun i => (f i).2) (by omega) fun i hi => by
        obtain ⟨g1, A, c, g2, g3, g4, _⟩ := hf i hi
        exact ⟨g1, by rw [g2]; exact k24_mk w (f i).1 g3 g4⟩
    · have h5 := bulk_sum (List.range len) Dd (fun i => (f i).1) fun i hi => by
        obtain ⟨_, A, c, _, _, _, g5, _⟩ := hf i (List.mem_range.1 hi)
        exact g5
      have e : z2.data.toList.length = z2.size := Array.length_toList
      simp [siz, Rows.uptoBulk, Rows.uptoBulkAll]
      omega

end Go.Proofs.YtcjmplpfebpfpaaGreatDoor

namespace Go.Proofs.YtcjmplpfebpfpaaGreatDoor
open Go.RowKit Go.Proofs Go.ChangeShapes Go.WideShapes Go.ChangeAt Go.Deep Go.Proofs.YtcjmplpfebpfpaaGreatDoorW.PrintWords Go.Proofs.YtcjmplpfebpfpaaGreatDoorW.PrintLast Go.Proofs.YtcjmplpfebpfpaaGreatDoorW.PrintMore PKindInstances
set_option linter.unusedVariables false
set_option linter.unusedSimpArgs false

theorem cells51' : Tryz.prog.cellsOf 51 = 5 := by kernel_rfl
variable {H : Type} {enc : TypeId × Value → H}
theorem list5 {α : Type} {l : List α} (h : l.length = 5) : ∃ a b c d e, l = [a, b, c, d, e] := by
  match l, h with
  | [a, b, c, d, e], _ => exact ⟨a, b, c, d, e, rfl⟩
theorem list2 {α : Type} {l : List α} (h : l.length = 2) : ∃ a b, l = [a, b] := by
  match l, h with
  | [a, b], _ => exact ⟨a, b, rfl⟩
/-- What a pair reads as. -/
def PairIn (w : World) (cs : List Value) (p : S51) (n : Nat) : Prop := k51.K w p cs ∧ p.f0.size + siz p.f1 + 1 ≤ n
theorem open_pair {w : World} {fuel : Nat} {cs : List Value} {x : DataW H × List MemPlace} (h : DataW.trod enc Tryz.prog w 0 (fun _ => true) true fuel 51 cs = some x) : ∃ p : S51, PairIn w cs p (Rows.uptoBulk x.1) := by
  obtain ⟨xs, n, rfl, rfl, hl, hlen, hf⟩ := DataW.trod_struct Tryz.underlying51 h
  rw [cells51'] at hl
  have hlen2 : xs.length = 2 := hlen
  obtain ⟨y0, y1, rfl⟩ := list2 hlen2
  obtain ⟨u0, u1, u2, u3, u4, rfl⟩ := list5 hl
  have h0 := hf 0 _ rfl
  have h1 := hf 1 _ rfl
  change DataW.trod enc Tryz.prog w 0 (fun _ => true) true n 9 ([u0, u1, u2, u3, u4].take (Tryz.prog.cellsOf 9)) = some y0 at h0
  change DataW.trod enc Tryz.prog w 0 (fun _ => true) true n 24 ([u1, u2, u3, u4].take (Tryz.prog.cellsOf 24)) = some y1 at h1
  rw [cells9'] at h0
  rw [cells24'] at h1
  simp only [List.take_succ_cons, List.take_zero] at h0 h1
  obtain ⟨z0, e0, f0, _⟩ := DataW.trod_string Tryz.underlying9 h0
  obtain ⟨s, A, c, e1, g1, g2, g3, g4⟩ := open_form _ h1 rfl
  clear h hf hlen hlen2 hl h0 h1
  simp only [List.cons.injEq, and_true] at e0 e1
  obtain ⟨rfl, rfl, rfl, rfl⟩ := e1
  subst e0 f0
  refine ⟨⟨z0, s⟩, k51_mk w ⟨z0, s⟩ g1 g2, ?_⟩
  have e : z0.data.toList.length = z0.size := Array.length_toList
  simp only [List.map_cons, List.map_nil, Rows.uptoBulk, Rows.uptoBulkAll]
  omega
theorem prow_mk {w : World} {a : Addr} {len : Nat} (g : Nat → S51) (cs : Nat → List Value) (hm : len ≤ maxLen) (h : ∀ i, i < len → w.cells? 0 (a.add (i * 5)) 5 = some (cs i) ∧ k51.K w (g i) (cs i)) :
    Kd.C k51 w (some a) len ((List.range len).map g) := by
  refine ⟨by simp, by simp [maxLen] at hm; omega, fun hn => ⟨a, rfl, fun j p hj => ?_⟩⟩
  have hjl : j < len := by
    have := (List.getElem?_eq_some_iff.1 hj).1
    simpa using this
  obtain rfl : g j = p := by simpa [hjl] using hj
  obtain ⟨h1, h2⟩ := h j hjl
  obtain ⟨_, hl, hc⟩ := World.cells?_some h1
  refine ⟨cs j, hl, h2, fun i u hu => ?_⟩
  have hil : i < 5 := by rw [← hl]; exact (List.getElem?_eq_some_iff.1 hu).1
  show w.cell? (a.add (j * 5 + i)) = some u
  rw [← Go.Deep.add_add, hc i hil, hu]
theorem pbulk_sum (r : List Nat) (D : Nat → DataW H) (g : Nat → S51) (h : ∀ i ∈ r, (g i).f0.size + siz (g i).f1 + 1 ≤ Rows.uptoBulk (D i)) : sizp (r.map g) ≤ Rows.uptoBulkAll (r.map D) := by
  induction r with
  | nil => simp [sizp, Rows.uptoBulkAll]
  | cons a r ih =>
    have h1 := h a List.mem_cons_self
    have h2 := ih fun i hi => h i (List.mem_cons_of_mem _ hi)
    simp only [List.map_cons, sizp, Rows.uptoBulkAll]
    omega
theorem open_pairs {w : World} {fuel : Nat} {cs : List Value} {x : DataW H × List MemPlace} (h : DataW.trod enc Tryz.prog w 0 (fun _ => true) true fuel 25 cs = some x) :
    ∃ (l : List S51) (A : Option Addr) (c : Nat), cs = [.slice A l.length c] ∧ l.length ≤ c ∧ Kd.C k51 w A l.length l ∧ sizp l ≤ Rows.uptoBulk x.1 := by
  rcases open_slice Tryz.underlying25 h with ⟨e3, f3⟩ | ⟨a, len, cap, m, n', Dd, Pl, e3, _, hl, hm, hmm, f3, hall⟩
  · subst e3 f3
    exact ⟨[], none, 0, rfl, Nat.le_refl _, Kd.C_nil _ _, Nat.zero_le _⟩
  · simp only [if_true] at hmm
    subst e3 f3
    have each : ∀ i, i < len → ∃ p : S51 × List Value, w.cells? 0 (a.add (i * 5)) 5 = some p.2 ∧ PairIn w p.2 p.1 (Rows.uptoBulk (Dd i)) := by
      intro i hi
      obtain ⟨cs', g1, g2⟩ := hall i (by omega)
      rw [cells51'] at g1
      obtain ⟨p, hp⟩ := open_pair g2
      exact ⟨(p, cs'), g1, hp⟩
    haveI : Inhabited (S51 × List Value) := ⟨(z51, [])⟩
    obtain ⟨f, hf⟩ := choose_lt (α := S51 × List Value) each
    have hlist : ((List.range len).map fun i => (f i).1).length = len := by simp
    refine ⟨(List.range len).map fun i => (f i).1, some a, cap, by rw [hlist], by rw [hlist]; exact hl, ?_, ?_⟩
    · rw [hlist]
      exact prow_mk (fun i => (f i).1) (fun i => (f i).2) (by omega) fun i hi => ⟨(hf i hi).1, (hf i hi).2.1⟩
    · have h5 := pbulk_sum (List.range len) Dd (fun i => (f i).1) fun i hi => (hf i (List.mem_range.1 hi)).2.2
      simp only [Rows.uptoBulk]
      omega
end Go.Proofs.YtcjmplpfebpfpaaGreatDoor

namespace Go.Proofs.YtcjmplpfebpfpaaGreatDoor.kindApplies
open Go.ChangeShapes Go.WideShapes Go.ChangeAt Go.Deep Go.RowKit Go.Proofs Go.Proofs.YtcjmplpfebpfpaaGreatDoorW.PrintWords Go.Proofs.YtcjmplpfebpfpaaGreatDoorW.PrintLast Go.Proofs.YtcjmplpfebpfpaaGreatDoorW.PrintMore PKindInstances
open Go.ChangeMaps (open_string shut_string)
set_option linter.unusedVariables false
theorem own : ownKnob Tryz.prog.godebug = none := by kernel_rfl
theorem laidOut : laidOutB Tryz.prog = true := by kernel_rfl

mutual
theorem wid_siz : ∀ x : S24, wid x ≤ siz x + 1
  | ⟨a, n, s, l⟩ => by
    have := wids_siz l
    simp only [wid, siz]
    omega
theorem wids_siz : ∀ l : List S24, wids l ≤ sizs l + 1
  | [] => by simp [wids]
  | x :: l => by
    have h1 := wid_siz x
    have h2 := wids_siz l
    have h3 := sizs_len l
    have h4 := siz_pos x
    simp only [wids, sizs]
    omega
end

theorem form_agg {w : World} {cs : Array Value} {s : S24} {n : Nat} (h : FormIn w (Value.agg cs).cells.toList s n) : ∃ A c, Value.agg cs = formV s.f0 s.f1 s.f2 A s.f3.length c ∧ s.f3.length ≤ c ∧ Kd.C k24 w A s.f3.length s.f3 ∧ siz s ≤ n := by
  obtain ⟨A, c, e, h1, h2, h3, _⟩ := h
  refine ⟨A, c, ?_, h1, h2, h3⟩
  have e2 : cs.toList = [.int .i64 s.f0, .int .i64 s.f1, .string s.f2, .slice A s.f3.length c] := e
  have : cs = #[.int .i64 s.f0, .int .i64 s.f1, .string s.f2, .slice A s.f3.length c] := by
    rw [← Array.toList_inj]; exact e2
  rw [this]

theorem sizp_name : ∀ {l : List S51} {x : S51}, x ∈ l → x.f0.size ≤ sizp l
  | [], x, h => absurd h List.not_mem_nil
  | y :: l, x, h => by
    simp only [sizp]
    rcases List.mem_cons.1 h with h | h
    · rw [h]; omega
    · have := sizp_name h; omega
theorem small_of {l : List S51} (h : sizp l ≤ 1048576) : SmallK l :=
  ⟨by have := sizp_len l; omega, fun p hp => ⟨by have := sizp_name hp; omega, by have h1 := wid_siz p.f1; have h2 := sizp_mem hp; omega⟩⟩

set_option maxRecDepth 100000 in
theorem contract (H : Type) (enc : TypeId × Value → H) (W : World) (base : Nat) (args : Array Value) (ds gs : List (DataW H)) (before : List MemPlace)
    (hval : ∀ (j : Nat) t v, Tryz.f3.params[j]? = some t → args[j]? = some v → Value.okWide Tryz.prog W .any base t v)
    (hW : DataW.Whole enc Tryz.prog Tryz.f3.params.toList Rows.kindAppliesSpec.vars false W args.toList ds gs before) (hk : Rows.uptoSmall H (ds ++ gs) = true) :
    Calls Tryz.prog 3 args W fun e W' => ∃ v, e = .returned v ∧ Rows.kindAppliesSpec.post enc Tryz.prog Tryz.f3 false true false false W args v W' := by
  have hW' := hW
  obtain ⟨p, q, hA0, hV, rfl, hfz, hnd⟩ := hW
  have hA : DataW.TrodAll enc Tryz.prog W 0 (fun _ => true) true Tryz.f3.params.toList args.toList ds p := hA0
  rw [Tryz.params3] at hA hval
  obtain ⟨v0, vs0, d0, ds0, p0, q0, hargs, rfl, rfl, h0, r0⟩ := trodAll_cons hA
  obtain ⟨v1, vs1, d1, ds1, p1, q1, rfl, rfl, rfl, h1, r1⟩ := trodAll_cons r0
  obtain ⟨v2, vs2, d2, ds2, p2, q2, rfl, rfl, rfl, h2, r2⟩ := trodAll_cons r1
  obtain ⟨rfl, rfl, rfl⟩ := trodAll_nil r2
  obtain rfl : args = #[v0, v1, v2] := by cases args; simp_all
  obtain ⟨rfl, rfl⟩ := trodVars_none hV
  have k0 := h0
  have k1 := h1
  have k2 := h2
  have lt0 : ∀ x ∈ p0, x.block < W.heap.size := by obtain ⟨m, hm⟩ := k0; exact DataW.trod_lt m _ _ _ hm
  have lt1 : ∀ x ∈ p1, x.block < W.heap.size := by obtain ⟨m, hm⟩ := k1; exact DataW.trod_lt m _ _ _ hm
  have lt2 : ∀ x ∈ p2, x.block < W.heap.size := by obtain ⟨m, hm⟩ := k2; exact DataW.trod_lt m _ _ _ hm
  obtain ⟨cs, rfl, _⟩ := okWide_struct Tryz.underlying24 (hval 0 24 v0 rfl rfl)
  obtain ⟨s, A, c, hs, hc, hr, hz⟩ : ∃ s A c, Value.agg cs = formV s.f0 s.f1 s.f2 A s.f3.length c ∧ s.f3.length ≤ c ∧ Kd.C k24 W A s.f3.length s.f3 ∧ siz s ≤ Rows.uptoBulk d0 := by
    obtain ⟨fuel, hf⟩ := h0
    obtain ⟨s, hs⟩ := open_form _ hf rfl
    obtain ⟨A, c, h1, h2, h3, h4⟩ := form_agg hs
    exact ⟨s, A, c, h1, h2, h3, h4⟩
  obtain ⟨t, B, d, ht, hd, hrt, hzt⟩ : ∃ (l : List S51) (A : Option Addr) (c : Nat), v1 = .slice A l.length c ∧ l.length ≤ c ∧ Kd.C k51 W A l.length l ∧ sizp l ≤ Rows.uptoBulk d1 := by
    obtain ⟨fuel, hf⟩ := h1
    obtain ⟨l, A, c, e, g⟩ := open_pairs hf
    refine ⟨l, A, c, ?_, g⟩
    have h9 := hval 1 25 v1 rfl rfl
    obtain ⟨a9, n9, c9, rfl⟩ := okWide_slice Tryz.underlying25 h9
    have e9 : ([.slice a9 n9 c9] : List Value) = [.slice A l.length c] := e
    exact (List.cons.inj e9).1
  obtain ⟨l, V, cv, hv2, hvc, hvr, hvz⟩ : ∃ (l : List S51) (A : Option Addr) (c : Nat), v2 = .slice A l.length c ∧ l.length ≤ c ∧ Kd.C k51 W A l.length l ∧ sizp l ≤ Rows.uptoBulk d2 := by
    obtain ⟨fuel, hf⟩ := h2
    obtain ⟨l, A, c, e, g⟩ := open_pairs hf
    refine ⟨l, A, c, ?_, g⟩
    have h9 := hval 2 25 v2 rfl rfl
    obtain ⟨a9, n9, c9, rfl⟩ := okWide_slice Tryz.underlying25 h9
    have e9 : ([.slice a9 n9 c9] : List Value) = [.slice A l.length c] := e
    exact (List.cons.inj e9).1
  clear hA0
  have hb : Rows.uptoBulk d0 + Rows.uptoBulk d1 ≤ 1048576 ∧ Rows.uptoBulk d2 ≤ 1048576 := by
    simp only [List.append_nil, Rows.uptoSmall, Rows.uptoBulkAll, decide_eq_true_eq] at hk
    omega
  have hws := wid_siz s
  rw [hs, ht, hv2]
  refine (KindApplies_any s t l W A B V c d cv hr hc (by omega) hrt hd (small_of (by omega)) hvr hvc (small_of (by omega))).mono fun e W' ⟨he, bel⟩ => ?_
  subst he
  rw [← hs, ← ht, ← hv2]
  exact ⟨_, rfl, _, _, _, [], _, [], hW', trodAll_mk1 (shut_bool Tryz.underlying4 _), (trodAll_cons_mk (Below.trod laidOut (by kernel_rfl) (of_decide_eq_true (by kernel_rfl)) k0 bel lt0) (trodAll_cons_mk (Below.trod laidOut (by kernel_rfl) (of_decide_eq_true (by kernel_rfl)) k1 bel lt1) (trodAll_cons_mk (Below.trod laidOut (by kernel_rfl) (of_decide_eq_true (by kernel_rfl)) k2 bel lt2) trodAll_mk0))), rfl, bel.frame _, fun h => by cases h⟩

def arg0 : Value := .agg #[.int .i64 0, .int .i64 0, .string ⟨#[]⟩, .slice none 0 0]
theorem laid_met (os : Os) : laidMet Tryz.prog Rows.kindAppliesUptoRow.laid ((World.laidAll Tryz.prog os Rows.kindAppliesUptoRow.laid).forCall (fun _ _ => 0) ⟨#[], #[arg0, .slice none 0 0, .slice none 0 0], []⟩).memory :=
  laidMet_laidAll _ (by kernel_rfl) (by kernel_rfl)
theorem reads (os : Os) {H : Type} (enc : TypeId × Value → H) : ∃ places, DataW.whole enc Tryz.prog ((World.laidAll Tryz.prog os Rows.kindAppliesUptoRow.laid).forCall (fun _ _ => 0) ⟨#[], #[arg0, .slice none 0 0, .slice none 0 0], []⟩).memory Tryz.f3.params.toList Rows.kindAppliesSpec.vars false #[arg0, .slice none 0 0, .slice none 0 0].toList 8 = some ([.agg [.lit (.int .i64 0), .lit (.int .i64 0), .lit (.string []), .nil], .nil, .nil], [], places) :=
  ⟨[], by kernel_rfl⟩

set_option maxRecDepth 100000 in
theorem liftedUpto (os : Os) (started : os.Started) (H : Type) (enc : TypeId × Value → H) (F : Stop.Interp) :
    ReturnsInHanded {} Tryz.checked os 3 .any ((Rows.OpenSpec.upto Rows.kindAppliesSpec).preRow enc Tryz.prog Tryz.f3 Rows.kindAppliesUptoRow.domain false Rows.kindAppliesUptoRow.laid) (((Rows.OpenSpec.upto Rows.kindAppliesSpec).at F).post enc Tryz.prog Tryz.f3 false true false false) := by
  obtain ⟨places, hx⟩ := reads os enc
  refine returnsInHanded_of_row (C := Tryz.checked) (s := Rows.OpenSpec.upto Rows.kindAppliesSpec) own started (by kernel_rfl) Tryz.func3
    (witness_row_at (enc := enc) (C := Tryz.checked) false (World.laidAll Tryz.prog os Rows.kindAppliesUptoRow.laid) #[arg0, .slice none 0 0, .slice none 0 0] (World.laidAll_os _ _ _) (by kernel_rfl) (by kernel_rfl) (by kernel_rfl)
      (OpenSpec.preRow_of_cond 3 hx (by kernel_rfl) (fun k hk => by cases hk; kernel_rfl) (by kernel_rfl) (laid_met os))) ?_
  intro W base args ds gs before hval hW _ hk _ _ _ _
  exact contract H enc W base args ds gs before hval hW (hk _ rfl)

theorem saidUpto : Rows.KindAppliesUptoSaid :=
  OpenClaim.holds_of_cond 3 Tryz.f3 rfl rfl rfl rfl rfl rfl rfl ⟨rfl, rfl, rfl, rfl, rfl⟩ rfl rfl rfl rfl rfl (by kernel_rfl) Tryz.func3 (by kernel_rfl)
    (of_decide_eq_true (by kernel_rfl)) (by unfold Func.isWrapper; first | (rw [if_pos (by decide +kernel)]; kernel_rfl) | (rw [if_neg (by decide +kernel)]; exact ⟨rfl, rfl⟩))
    (fun os started H enc _ F => by rw [OpenClaim.pre_eq_preRow]; exact liftedUpto os started H enc F)

theorem plain (f : FuncId) (fn : Func) (hf : Tryz.pinned.checked.prog.funcNamed "plinth/plinthlaw03.KindApplies" = some f) (hfn : Tryz.pinned.checked.prog.funcs[f]? = some fn) :
    true = Tryz.pinned.checked.prog.looks [] ∧ ∀ (j : Nat) t, fn.params[j]? = some t → Tryz.pinned.checked.prog.wantsStandIn t = false := by
  obtain rfl : f = 3 := Option.some.inj ((show Tryz.prog.funcNamed "plinth/plinthlaw03.KindApplies" = some 3 by kernel_rfl).symm.trans hf) |>.symm
  obtain rfl : fn = Tryz.f3 := (Option.some.inj (Tryz.func3.symm.trans hfn)).symm
  refine ⟨by kernel_rfl, fun j t ht => ?_⟩
  rw [Tryz.params3] at ht
  have hm : t ∈ [24, 25, 25] := by simpa using Array.mem_of_getElem? ht
  have hall : ([24, 25, 25].all fun u => !Tryz.prog.wantsStandIn u) = true := by kernel_rfl
  exact (show Tryz.prog.wantsStandIn t = false by simpa using List.all_eq_true.1 hall t hm)

theorem cardUpto : Rows.KindAppliesUptoCardSaid :=
  Claim7.holds_tied_plain_at .later [] _ _ _ _ saidUpto (fun _ h => by cases h) (by kernel_rfl) (fun _ h => by cases h) kindAppliesUpto_row_tie rfl ⟨rfl, rfl⟩ (by kernel_rfl) rfl plain (by kernel_rfl)
#print axioms cardUpto
end Go.Proofs.YtcjmplpfebpfpaaGreatDoor.kindApplies
namespace Go.Proofs.YtcjmplpfebpfpaaGreatDoor
/-- The card, under a short name, for the claim. -/
theorem kindApplies_holds : Rows.KindAppliesUptoCardSaid := kindApplies.cardUpto
end Go.Proofs.YtcjmplpfebpfpaaGreatDoor
