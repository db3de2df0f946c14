/- Clauses under assumed literals, in plain words: which of these are left. What a run of the solver tells of clauses with one-literal clauses behind them. -/
import Derived.Test.YtdllaphnkbnpoaaPl
namespace Go.Proofs.Ytdllaphnkbnpoaa
open Go.RowKit Go.Proofs

/-- Clauses with literals as clauses of their own behind them. -/
def withM (c : List (List Int)) (l : List Int) : List (List Int) := c ++ l.map fun x => [x]

theorem withM_mem {c : List (List Int)} {l : List Int} {e : List Int} : e ∈ withM c l ↔ e ∈ c ∨ ∃ x ∈ l, e = [x] := by
  unfold withM
  rw [List.mem_append, List.mem_map]
  constructor
  · rintro (h | ⟨x, h1, h2⟩)
    · exact .inl h
    · exact .inr ⟨x, h1, h2.symm⟩
  · rintro (h | ⟨x, h1, h2⟩)
    · exact .inl h
    · exact .inr ⟨x, h1, h2.symm⟩

theorem satOf_sub {D E : List (List Int)} (h : ∀ e ∈ E, e ∈ D) (hs : satOf D [] = true) : satOf E [] = true := by
  obtain ⟨A, hA, _⟩ := satOf_true.1 hs
  exact satOf_true.2 ⟨A, fun e he => hA e (h e he), fun x hx => by cases hx⟩
theorem satOf_same {D E : List (List Int)} (h : ∀ e, e ∈ E ↔ e ∈ D) : satOf D [] = satOf E [] := by
  rw [Bool.eq_iff_iff]
  exact ⟨fun hs => satOf_sub (fun e he => (h e).1 he) hs, fun hs => satOf_sub (fun e he => (h e).2 he) hs⟩
theorem with_sub {c : List (List Int)} {l m : List Int} (h : ∀ x ∈ l, x ∈ m) : ∀ e ∈ withM c l, e ∈ withM c m := fun e he => by
  rcases withM_mem.1 he with z | ⟨x, hx, z⟩
  · exact withM_mem.2 (.inl z)
  · exact withM_mem.2 (.inr ⟨x, h x hx, z⟩)

/-- Which of the assumed literals are left. -/
noncomputable def undM (c : List (List Int)) : List Int → List Int → List Int
  | pre, [] => pre
  | pre, x :: post => if satOf (withM c (pre ++ post)) [] = true then undM c (pre ++ [x]) post else undM c pre post

theorem undM_sub (c : List (List Int)) : ∀ (post pre : List Int), (undM c pre post).Sublist (pre ++ post)
  | [], pre => by unfold undM; rw [List.append_nil]; exact List.Sublist.refl _
  | x :: post, pre => by
    unfold undM
    split
    · have := undM_sub c post (pre ++ [x])
      rwa [List.append_assoc] at this
    · exact (undM_sub c post pre).trans (List.Sublist.append (List.Sublist.refl pre) (List.sublist_cons_self x post))
theorem undM_pre (c : List (List Int)) : ∀ (post pre : List Int), ∃ q, undM c pre post = pre ++ q
  | [], pre => ⟨[], by unfold undM; simp⟩
  | x :: post, pre => by
    unfold undM
    split
    · obtain ⟨q, h⟩ := undM_pre c post (pre ++ [x])
      exact ⟨x :: q, by rw [h, List.append_assoc]; rfl⟩
    · exact undM_pre c post pre

/-- They do not hold together with the clauses. -/
theorem undM_false (c : List (List Int)) : ∀ (post pre : List Int), satOf (withM c (pre ++ post)) [] = false → satOf (withM c (undM c pre post)) [] = false
  | [], pre, h => by unfold undM; rwa [List.append_nil] at h
  | x :: post, pre, h => by
    unfold undM
    split
    · exact undM_false c post (pre ++ [x]) (by rwa [List.append_assoc])
    · rename_i hs
      exact undM_false c post pre (by simpa using hs)

/-- None of them can be left out. -/
theorem undM_least (c : List (List Int)) : ∀ (post pre : List Int),
    (∀ i, i < pre.length → satOf (withM c (pre.take i ++ pre.drop (i + 1) ++ post)) [] = true) →
    ∀ i, i < (undM c pre post).length → satOf (withM c ((undM c pre post).take i ++ (undM c pre post).drop (i + 1))) [] = true
  | [], pre, h => by
    unfold undM
    intro i hi
    have := h i hi
    rwa [List.append_nil] at this
  | x :: post, pre, h => by
    unfold undM
    split
    · rename_i hs
      refine undM_least c post (pre ++ [x]) (fun i hi => ?_)
      rw [List.length_append, List.length_singleton] at hi
      rcases Nat.lt_or_ge i pre.length with q | q
      · have := h i q
        rw [List.take_append_of_le_length (by omega), List.drop_append_of_le_length (by omega)]
        have e : pre.take i ++ (pre.drop (i + 1) ++ [x]) ++ post = pre.take i ++ pre.drop (i + 1) ++ x :: post := by simp
        rw [e]; exact this
      · obtain rfl : i = pre.length := by omega
        rw [List.take_left, List.drop_of_length_le (by simp), List.append_nil]
        exact hs
    · refine undM_least c post pre (fun i hi => ?_)
      refine satOf_sub ?_ (h i hi)
      refine with_sub (fun y hy => ?_)
      rcases List.mem_append.1 hy with z | z
      · exact List.mem_append.2 (.inl z)
      · exact List.mem_append.2 (.inr (by simp [z]))
end Go.Proofs.Ytdllaphnkbnpoaa
namespace Go.Proofs.Ytdllaphnkbnpoaa
open Go.RowKit Go.Proofs

/-- Right clauses, few; some of one literal over further variables. -/
structure Legal2 (D : List (List Int)) (occ : List Nat) : Prop where
  len : D.length ≤ 80
  row : ∀ e ∈ D, e.length ≤ 30
  lit : ∀ e ∈ D, ∀ x ∈ e, x ≠ 0 ∧ x.natAbs ≤ 200 ∧ (x.natAbs ∈ occ ∨ e = [x])
  o12 : occ.length ≤ 12
  oz : 0 ∉ occ
  ex : ∃ ex : List Nat, ex.length ≤ 12 ∧ ∀ t : Int, [t] ∈ D → t.natAbs ∈ occ ∨ t.natAbs ∈ ex

theorem Legal2.lits {D : List (List Int)} {occ : List Nat} (h : Legal2 D occ) : Lits D := fun e he x hx => ⟨(h.lit e he x hx).1, (h.lit e he x hx).2.1⟩
theorem Legal2.all {D : List (List Int)} {occ : List Nat} (h : Legal2 D occ) : (absAll D).length ≤ 60000 := by
  have h1 := absAll_len D 30 h.row
  have h2 := Nat.mul_le_mul_right 30 h.len
  omega
theorem Legal2.check {D : List (List Int)} {occ : List Nat} (h : Legal2 D occ) : refM D = 0 := by
  unfold refM
  have h1 : (D.all fun c => decide (c.length ≤ 30)) = true := List.all_eq_true.2 (fun c hc => decide_eq_true (h.row c hc))
  have h2 : (D.all fun c => c.all isLit) = true := List.all_eq_true.2 (fun c hc => lit_big (h.lits c hc))
  rw [if_neg (by have := h.len; omega), if_neg (by rw [h1]; simp), if_neg (by rw [h2]; simp)]

theorem legal2_with {c : List (List Int)} {occ : List Nat} {l : List Int} (h : Legal c occ) (hl : l.length ≤ 12) (hx : ∀ x ∈ l, x ≠ 0 ∧ x.natAbs ≤ 200) : Legal2 (withM c l) occ := by
  refine ⟨by unfold withM; rw [List.length_append, List.length_map]; have := h.len; omega, fun e he => ?_, fun e he x hxe => ?_, h.o12, h.oz, l.map Int.natAbs, by simpa using hl, fun t ht => ?_⟩
  · rcases withM_mem.1 he with z | ⟨x, _, rfl⟩
    · exact h.row e z
    · simp
  · rcases withM_mem.1 he with z | ⟨y, hy, rfl⟩
    · have := h.lit e z x hxe; exact ⟨this.1, this.2.1, .inl this.2.2⟩
    · rw [List.mem_singleton] at hxe
      subst hxe
      exact ⟨(hx x hy).1, (hx x hy).2, .inr rfl⟩
  · rcases withM_mem.1 ht with z | ⟨y, hy, e⟩
    · exact .inl (h.lit _ z t (by simp)).2.2
    · injection e with e
      subst e
      exact .inr (List.mem_map.2 ⟨t, hy, rfl⟩)

/-- An answer, in memory. -/
def AnsAt (D : List (List Int)) (w' : World) (a : Value) : Prop :=
  (satOf D [] = true ∧ ∃ (T : List Int) (A1 : Option Addr) (c1 : Nat) (st : Int), a = .agg #[.bool true, .slice A1 T.length c1, .slice none 0 0, .int .i64 st] ∧ Lies w'.heap.size w' A1 T ∧ (∀ x ∈ T, x ≠ 0 ∧ x.natAbs ≤ 200) ∧ T.length ≤ 60000 ∧ twiceM T = false ∧ holdsM D T = true) ∨
  (satOf D [] = false ∧ ∃ (log : List (List Int)) (A2 : Option Addr) (c2 : Nat) (st : Int), a = .agg #[.bool false, .slice none 0 0, .slice A2 log.length c2, .int .i64 st] ∧ LiesR w'.heap.size w' A2 log ∧ refutesR D log = (true, 0) ∧ log.length ≤ 2048 ∧ (∀ e ∈ log, e.length ≤ 12) ∧ Lits log)

/-- .. which stays as long as the blocks from 'lo' on stay. -/
def AnsK (D : List (List Int)) (lo : Nat) (w' : World) (a : Value) : Prop :=
  ∀ W : World, w'.heap.size ≤ W.heap.size → (∀ b, lo ≤ b → b < w'.heap.size → W.heap[b]? = w'.heap[b]?) → AnsAt D W a

def RunU (D : List (List Int)) (w : World) (e : Ending) (w' : World) : Prop :=
  Below w.heap.size w w' ∧ ∃ (A1 : Option Addr) (n1 c1 : Nat) (A2 : Option Addr) (n2 c2 : Nat) (st : Int), e = .returned (.tuple #[.agg #[.bool (satOf D []), .slice A1 n1 c1, .slice A2 n2 c2, .int .i64 st], .int .i64 0]) ∧ AnsK D w.heap.size w' (.agg #[.bool (satOf D []), .slice A1 n1 c1, .slice A2 n2 c2, .int .i64 st])

theorem run_u {D : List (List Int)} {occ : List Nat} (h : Legal2 D occ) (hocc : ∀ n ∈ occ, n ≤ 200) {w : World} {A : Option Addr} {c f : Nat} (hA : LiesR w.heap.size w A D) (hf : 100000 ≤ f) (hf2 : f ≤ 1000000) :
    Calls Try.prog 34 #[.slice A D.length c, .int .i64 (f : Int)] w (RunU D w) := by
  obtain ⟨σ, a1, a2, σ', r, e1, e2, e3, e4, e5⟩ := solve_ok h.len (fun e he => ⟨by have := h.row e he; omega, h.lit e he⟩) h.o12 h.oz h.ex
  have hs : ((σ.backO 0).bind fun τ => S.searchO f 60002 τ) = some (σ', r) := by
    rw [a2]
    simp only [Option.bind_some]
    exact e4 f (by omega)
  have hr01 : r = 0 ∨ r = 1 := by rcases e1 with ⟨z, _⟩ | ⟨z, _⟩ <;> simp [z]
  have hph : r = 1 → 0 < σ'.phase.length := by rcases e1 with ⟨z, _⟩ | ⟨z, y, _⟩ <;> intro q <;> first | omega | exact y
  refine (run_any (cc := c) (m := 60002) hA (by have := h.len; omega) (fun i hi => by have := h.row _ (row_ne D [] hi); omega) h.all (fun e he x hx => by have := h.lit e he x hx; omega) a1 hs (by omega) (by omega) hph).mono ?_
  rintro e w' ⟨B, alt⟩
  refine ⟨B, ?_⟩
  rcases alt with ⟨hc, _⟩ | ⟨q1, _, p, μ, he, HX, GX⟩ | ⟨q1, _, L, v, he, HX, hL⟩
  · omega
  · subst q1
    have hfin := e1
    rcases e1 with ⟨_, h1, h2, h3, h4⟩ | ⟨hh, _⟩
    · have hll : Lits σ'.log := fun e he x hx => by
        have := (h3 e he).1 x hx
        exact ⟨this.1, hocc _ this.2⟩
      rw [fin_none hfin]
      refine ⟨_, _, _, _, _, _, _, he, fun W hs hb => .inr ⟨fin_none hfin, σ'.log, _, _, _, rfl, ?_, refutes_ok h.check hll (by omega) h1 h2, h4, fun e he => (h3 e he).2, hll⟩⟩
      exact log_lies (HX.other (fun b h1 h2 => hb b h1 h2)) GX
    · exact absurd hh (by decide)
  · subst q1
    obtain ⟨g1, g2⟩ := fin_some e1
    rw [g2]
    refine ⟨_, _, _, _, _, _, _, he, fun W hs hb => .inl ⟨g2, truesOf σ' D, _, _, _, rfl, ?_, trues_lits h.lits, by unfold truesOf; rw [List.length_map]; exact Nat.le_trans (varsOf_len D) h.all, trues_twice, trues_holds g1⟩⟩
    exact row_lies (HX.other (fun b h1 h2 => hb b h1 h2)) hL
end Go.Proofs.Ytdllaphnkbnpoaa
