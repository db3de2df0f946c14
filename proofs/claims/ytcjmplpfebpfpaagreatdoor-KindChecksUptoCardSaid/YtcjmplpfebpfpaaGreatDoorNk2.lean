/- Part 2 of what the law's row leans on (Nk): the print's words and functions, cut to what is reached, and own texts. -/
import Derived.Laws.StructEq
import Derived.Test.YtcjmplpfebpfpaaGreatDoorProg
import Derived.Below
import Derived.Deep.Draws
import Derived.Deep.AppendLies
import Derived.Maps.AppendAt
import Derived.OwnWalk
import Derived.Laws.BytesArg
import Derived.Laws.MakeOwn
import Derived.Laws.OwnMore
import Derived.Deep.OwnRows
import Derived.Tactics
import Derived.Lib.ConvBytes
import Derived.Laws.Slices
import Derived.WalkKit
import Derived.KernelRfl
import Derived.RowKit3
import Derived.Deep.LoopGhost
import Derived.Deep.QuietTactic
import Derived.BigQuiet
import Derived.WideLaws
import Derived.Deep.DeepCutAuto
import Derived.Deep.CutBlock
import Derived.Deep.RegionHeld3
import Derived.Laws.Rows
import Derived.Lib.AppendStr
import Derived.ArgAppend
import Derived.Laws.IdiomCopy
import Derived.OrdersHeld
import Derived.Laws.BitsLemmas
import Derived.RowKit
import Derived.MapKept
import Derived.Maps.OwnOps
import Derived.Carry
import Derived.StringKeys
import Derived.Shelf.SlIter.Nil
import Derived.Shelf.SortM.Plain
import Derived.Shelf.SortM.SortNone
import Derived.Ground.GgzProg
import Derived.Ground.SlgmProg
import Derived.Shelf.Strings.SlTrimAscii
import Derived.Shelf.Strings.Trim
import Derived.Shelf.Small.Utf8
import Derived.Shelf.Small.Bits
import Derived.Shelf.Small.Strs
import Derived.Shelf.Small.Wraps
import Derived.Shelf.Strconv.Itoa0
import Derived.Shelf.Strings.Search1
import Derived.Shelf.Sort.Plain
import Derived.Shelf.GgClosure.StringsIndexFunc
import Derived.Ground.GgwProg
import Derived.Shelf.GgClosure.StringsIndexFuncTop
import Derived.Shelf.GgClosure.StringsRunes
import Derived.Shelf.Strings.Prefix
import Derived.Shelf.Unicode.Decode
import Derived.Shelf.Strings.Runes
import Derived.Shelf.Strings.AsciiSet
import Derived.Shelf.Unicode.DecodeSlow
import Derived.Shelf.Unicode.DecodeAny
import Derived.Shelf.Unicode.DecodeLast
import Derived.Shelf.Strings.FuncGrows
import Derived.Ground.Names2Prog
import Derived.Shelf.Slices.SearchI
import Derived.Shelf.Slices.In.SortNone
import Derived.Test.YtcjmplpfebpfpaaGreatDoorNk1
namespace Go.Proofs.YtcjmplpfebpfpaaGreatDoorW.PrintWords
open Go.RowKit
namespace Kd
section
variable {α : Type} {d : Kd α} {W : World} {g n : Nat} {S ok : Nat → Prop} {A : Option Addr} {ad : Addr} {xs : List α}
end
end Kd
end Go.Proofs.YtcjmplpfebpfpaaGreatDoorW.PrintWords

namespace Go.Proofs.YtcjmplpfebpfpaaGreatDoorW.PrintWords
open Go.RowKit
section
variable {w w' u : World} {m B g : Nat} {o : Obj} {row : Option Nat} {S : Nat → Prop} {a : Addr} {v : Value}
end
namespace Kd
section
variable {α : Type} {d : Kd α} {e base n m : Nat} {ok : Nat → Prop} {w w' : World} {v : Value} {A : Option Addr} {xs : List α}
end
end Kd
end Go.Proofs.YtcjmplpfebpfpaaGreatDoorW.PrintWords

namespace Go.Proofs.YtcjmplpfebpfpaaGreatDoorW.PrintWords
open Go.RowKit
section
variable {P : Program} {d : Nat} {xs ys : Array Value} {f : Field} {fs : List Field} {a b : Value} {r s : Bool} {w : World}
end
end Go.Proofs.YtcjmplpfebpfpaaGreatDoorW.PrintWords

namespace Go.Proofs.YtcjmplpfebpfpaaGreatDoorW.PrintWords
/-- One cell an element. -/
theorem Reps.one {α : Type} {R : α → List Value → Prop} {ps : List α} {cs : List Value} {p : α} {v : Value} (hp : R p [v]) (h : Reps R 1 ps cs) : Reps R 1 (p :: ps) (v :: cs) := by
  refine ⟨by simp [h.1], fun j q hq => ?_⟩
  cases j with
  | zero =>
    simp only [List.getElem?_cons_zero, Option.some.injEq] at hq
    subst hq
    simpa using hp
  | succ j =>
    simp only [List.getElem?_cons_succ] at hq
    have h1 := h.2 j q hq
    simpa [Nat.mul_one] using h1
end Go.Proofs.YtcjmplpfebpfpaaGreatDoorW.PrintWords

namespace Go.Proofs.YtcjmplpfebpfpaaGreatDoorW.PrintLast
/-- Number i is listed too. -/
def up (b : Nat → Bool) (i : Nat) : Nat → Bool := fun j => if j = i then true else b j
section
variable {P : Program} {ops : Array Oper} {Q : Exit → Act → World → Prop} {md : Region.Mode} {T : Bool × List (List Nat × List Nat)} {B : List Nat} {O : List Nat} {b : Nat → Bool} {i j n : Nat}
end
end Go.Proofs.YtcjmplpfebpfpaaGreatDoorW.PrintLast

namespace Go.Proofs.YtcjmplpfebpfpaaGreatDoorW.PrintWords
open Go.RowKit
end Go.Proofs.YtcjmplpfebpfpaaGreatDoorW.PrintWords
namespace Go.Proofs.YtcjmplpfebpfpaaGreatDoorW.PrintLast
section
variable {ops : Array Oper} {a : Act} {o og : Oper} {g : Nat} {t : Tmp} {u : Bool}
end
end Go.Proofs.YtcjmplpfebpfpaaGreatDoorW.PrintLast

namespace Go.Proofs.YtcjmplpfebpfpaaGreatDoorW.PrintWords
open Go.RowKit
section
variable {P : Program} {ops : Array Oper} {rest : List Oper} {o : Oper} {a : Act} {Q : Exit → Act → World → Prop} {W : World}
/-- The gate takes the guard off (hw: 'by rfl', 'by kernel_rfl': the guard's slot holds what is wanted). -/
theorem gate_guard (hw : Region.wanted o (yielded ops a.tmps) = true) (h : wpList P ops Q ({ o with guard := none } :: rest) a W) : wpList P ops Q (o :: rest) a W := by
  have h1 : Region.wanted { o with guard := none } (yielded ops a.tmps) = true := rfl
  unfold wpList at h ⊢
  rw [if_pos h1] at h
  rw [if_pos hw]
  exact h
end
end Go.Proofs.YtcjmplpfebpfpaaGreatDoorW.PrintWords

namespace Go.Proofs.YtcjmplpfebpfpaaGreatDoorW.PrintWords
open Go.RowKit
namespace Kd
section
variable {α : Type} {d : Kd α} {e base n cap g : Nat} {ok ok' okp : Nat → Prop} {w w1 W : World} {v v1 : Value} {xs ys : List α}
/-- Behind an append: the old elements and the new ones, moved. -/
theorem N_appended {rows news : List (List Value)} (h0 : ∀ k, v.ownBlock = some k → ok k) (hl : rows.length = xs.length) (hf : ∀ (j : Nat) (x : α) (c : List Value), xs[j]? = some x → rows[j]? = some c → FK d W (fun k => ok k ∧ some k ≠ v.ownBlock) x c)
    (hl2 : news.length = ys.length) (hf2 : ∀ (j : Nat) (x : α) (c : List Value), ys[j]? = some x → news[j]? = some c → FK d W okp x c) (hokp : ∀ k, okp k → ok k ∧ some k ≠ v.ownBlock) (hfresh : ∀ k, W.heap.size ≤ k → ok k)
    (hR : (raw d.sz).R e w1 base (fun _ => True) v1 (rows ++ news)) (hg : W.grownBy w1 v.ownBlock) (hat : v1.ownBlock = v.ownBlock ∨ ∃ b, v1.ownBlock = some b ∧ W.heap.size ≤ b) : N d e w1 base ok v1 (xs ++ ys) := by
  have hne : ∀ k, some k ≠ v.ownBlock → k < W.heap.size → some k ≠ v1.ownBlock := by
    intro k hk hlt
    rcases hat with hat | ⟨b, hb, hle⟩
    · rw [hat]; exact hk
    · rw [hb]
      intro he
      injection he with he
      omega
  have step : ∀ {x : α} {c : List Value} {o : Nat → Prop}, FK d W o x c → (∀ k, o k → ok k ∧ some k ≠ v.ownBlock) → FK d w1 (fun k => ok k ∧ some k ≠ v1.ownBlock) x c := by
    intro x c o hq ho
    exact FK_mono (FK_step (FK_bound hq) (fun k hk hlt => hg.block k hlt (ho k hk.1).2)) (fun k hk => ⟨(ho k hk.1).1, hne k (ho k hk.1).2 hk.2⟩)
  refine ⟨fun k hk => ?_, rows ++ news, by rw [List.length_append, List.length_append, hl, hl2], raw_tight hR, fun j x c hx hc => ?_⟩
  · rcases hat with hat | ⟨b, hb, hle⟩
    · exact h0 k (hat ▸ hk)
    · rw [hb] at hk
      injection hk with hk
      exact hfresh k (by omega)
  · rcases Nat.lt_or_ge j xs.length with hlt | hge
    · rw [List.getElem?_append_left hlt] at hx
      rw [List.getElem?_append_left (by omega)] at hc
      exact step (hf j x c hx hc) (fun _ hk => hk)
    · rw [List.getElem?_append_right hge] at hx
      rw [List.getElem?_append_right (by omega), hl] at hc
      exact step (hf2 _ x c hx hc) hokp
/-- What was made just now. -/
theorem N_made {rows : List (List Value)} (hR : (raw d.sz).R e w1 base (fun k => k = W.heap.size) v1 rows) (hg : W.grownBy w1 none) (hat : ∃ b, v1.ownBlock = some b ∧ W.heap.size ≤ b) (hl : rows.length = xs.length) (hf : ∀ (j : Nat) (x : α) (c : List Value), xs[j]? = some x → rows[j]? = some c → FK d W okp x c)
    (hok : ∀ k, okp k → ok k) (hfresh : ok W.heap.size) : N d e w1 base ok v1 xs := by
  obtain ⟨b, hb, hle⟩ := hat
  refine ⟨fun k hk => by rw [hR.1 k hk]; exact hfresh, rows, hl, raw_tight hR, fun j x c hx hc => ?_⟩
  refine FK_mono (FK_step (FK_bound (hf j x c hx hc)) (fun k hk hlt => hg.block k hlt (by simp))) (fun k hk => ⟨hok k hk.1, fun he => ?_⟩)
  rw [hb] at he
  injection he with he
  have := hk.2
  omega
/-- What is read as_ a row, as_ rows of cells. -/
theorem reads_raw {Rr : α → List Value → Prop} {sz m : Nat} {A : Option Addr} (h : ReadsRow Rr sz W A m ys) (hR : ∀ x c, Rr x c → c.length = sz ∧ ∀ u ∈ c, u.oneCell' = true) :
    ∃ news : List (List Value), news.length = ys.length ∧ ReadsRow (fun x cs => cs = x ∧ cs.length = sz ∧ ∀ u ∈ cs, u.oneCell' = true) sz W A m news ∧ ∀ (j : Nat) (x : α) (c : List Value), ys[j]? = some x → news[j]? = some c → Rr x c := by
  rcases Nat.eq_zero_or_pos m with h0 | hp
  · have hy : ys = [] := List.eq_nil_of_length_eq_zero (h.1.trans h0)
    subst hy
    exact ⟨[], rfl, ⟨h0 ▸ rfl, h.2.1, fun hp => by omega⟩, fun j x c hx => by simp at hx⟩
  · obtain ⟨ad, rfl, _⟩ := h.2.2 hp
    obtain ⟨inner, hr, hc⟩ := ReadsRow.inner_ h
    refine ⟨chunks sz ys.length inner, chunks_length _ _ _, ⟨by rw [chunks_length]; exact h.1, h.2.1, fun _ => ⟨ad, rfl, fun j p hj => ?_⟩⟩, fun j x c hx hcc => ?_⟩
    · have hjl : j < ys.length := by have := (List.getElem?_eq_some_iff.1 hj).1; rwa [chunks_length] at this
      have hpe := chunks_get hj
      have hq := hR _ _ (hr.2 j _ (List.getElem?_eq_getElem hjl))
      rw [← hpe] at hq
      refine ⟨p, hq.1, ⟨rfl, hq⟩, fun i u hu => ?_⟩
      have hu2 : inner[j * sz + i]? = some u := by
        rw [hpe, List.getElem?_take] at hu
        split at hu
        · rw [List.getElem?_drop] at hu
          exact hu
        · cases hu
      exact hc _ u hu2
    · rw [chunks_get hcc]
      exact hr.2 j x hx
end
section
variable {P : Program} {ops : Array Oper} {rest : List Oper} {o : Oper} {a : Act} {Q : Exit → Act → World → Prop} {Kc : Act → World → Prop} {α : Type}
/-- append(v, ys...): ys is read (F). -/
theorem N_append_rows (d : Kd α) {w0 W : World} (base : Nat) (hgd : o.guard = none) (s x : Operand) (t e : TypeId) (z : Value) (bytes : Nat)
    (ho : o.op = .call { callee := .builtin .append, args := #[s, x], argTypes := #[t, t] })
    (ht : P.underlying t = some (.slice e)) (hinfo : (P.info? e).map (fun i => (i.zero, i.size, i.bytes)) = some (some z, d.sz, bytes)) (hz : z.cells.size = d.sz) (hs0 : 0 < d.sz) (hb0 : 0 < bytes)
    (v : Value) (xs ys : List α) (A : Option Addr) (m c : Nat) (ok okp : Nat → Prop) (hs : a.eval s = v) (hx : a.eval x = .slice A m c)
    (HO : N d e W base ok v xs) (HR : F d W okp A m ys) (hokp : ∀ k, okp k → ok k ∧ some k ≠ v.ownBlock) (hfresh : ∀ k, W.heap.size ≤ k → ok k)
    (HB : Below base w0 W) (hbase : base ≤ W.heap.size) (hl : (xs.length + m) * bytes ≤ 140737488355328)
    (h : ∀ v1 w1, N d e w1 base ok v1 (xs ++ ys) → Below base w0 w1 → W.grownBy w1 v.ownBlock → (v1.ownBlock = v.ownBlock ∨ ∃ b, v1.ownBlock = some b ∧ W.heap.size ≤ b) → wpList P ops Q rest (a.put o.dst v1) w1) :
    wpList P ops Q (o :: rest) a W := by
  obtain ⟨h0, rows, hlr, hR, hf⟩ := HO
  obtain ⟨news, hnl, hnr, hnf⟩ := reads_raw (F_rows HR) (fun y c hk => ⟨d.K_len (FK_now hk), d.K_one (FK_now hk)⟩)
  refine R_append_rows (raw d.sz) base hgd s x t e z bytes ho ht hinfo hz hs0 hb0 v rows news A m c (fun _ => True) (fun _ => False) hs hx (raw_any hR) hnr (fun _ _ hk => hk) (fun _ hk => hk.elim) (fun _ _ => trivial) HB hbase (by rw [hlr]; exact hl) ?_
  intro v1 w1 hr hb hg hat
  exact h v1 w1 (N_appended h0 hlr hf hnl hnf hokp hfresh hr hg hat) hb hg hat
theorem N_append_rows_step (d : Kd α) {w0 W : World} (base : Nat) (hw : Region.wanted o (yielded ops a.tmps) = true) (s x : Operand) (t e : TypeId) (z : Value) (bytes : Nat)
    (ho : o.op = .call { callee := .builtin .append, args := #[s, x], argTypes := #[t, t] })
    (ht : P.underlying t = some (.slice e)) (hinfo : (P.info? e).map (fun i => (i.zero, i.size, i.bytes)) = some (some z, d.sz, bytes)) (hz : z.cells.size = d.sz) (hs0 : 0 < d.sz) (hb0 : 0 < bytes)
    (v : Value) (xs ys : List α) (A : Option Addr) (m c : Nat) (ok okp : Nat → Prop) (hs : a.eval s = v) (hx : a.eval x = .slice A m c)
    (HO : N d e W base ok v xs) (HR : F d W okp A m ys) (hokp : ∀ k, okp k → ok k ∧ some k ≠ v.ownBlock) (hfresh : ∀ k, W.heap.size ≤ k → ok k)
    (HB : Below base w0 W) (hbase : base ≤ W.heap.size) (hl : (xs.length + m) * bytes ≤ 140737488355328)
    (h : ∀ v1 w1, N d e w1 base ok v1 (xs ++ ys) → Below base w0 w1 → W.grownBy w1 v.ownBlock → (v1.ownBlock = v.ownBlock ∨ ∃ b, v1.ownBlock = some b ∧ W.heap.size ≤ b) → Kc (a.put o.dst v1) w1) :
    if Region.wanted o (yielded ops a.tmps) = true then Oper.wp P o a W Kc Q else Kc (a.put o.dst undef) W := by
  obtain ⟨h0, rows, hlr, hR, hf⟩ := HO
  obtain ⟨news, hnl, hnr, hnf⟩ := reads_raw (F_rows HR) (fun y c hk => ⟨d.K_len (FK_now hk), d.K_one (FK_now hk)⟩)
  refine R_append_rows_step (raw d.sz) base hw s x t e z bytes ho ht hinfo hz hs0 hb0 v rows news A m c (fun _ => True) (fun _ => False) hs hx (raw_any hR) hnr (fun _ _ hk => hk) (fun _ hk => hk.elim) (fun _ _ => trivial) HB hbase (by rw [hlr]; exact hl) ?_
  intro v1 w1 hr hb hg hat
  exact h v1 w1 (N_appended h0 hlr hf hnl hnf hokp hfresh hr hg hat) hb hg hat
theorem N_lit_step (d : Kd α) {w0 W : World} (base e : Nat) (hw : Region.wanted o (yielded ops a.tmps) = true) {N' : Tmp} (_hd : o.dst = some N') {xs : List α} {inner : List Value} {ok okp : Nat → Prop}
    (hrun : (execOp a.eval o).run P W = .ok (.value (.slice (some ⟨W.heap.size, 0, none⟩) xs.length xs.length)) (W.alloc (.cells inner.toArray e)))
    (hrep : Reps (FK d W okp) d.sz xs inner) (hok : ∀ k, okp k → ok k) (hfresh : ok W.heap.size) (HB : Below base w0 W) (hbase : base ≤ W.heap.size) (hm : xs.length ≤ 9223372036854775807)
    (h : ∀ v1 w1, N d e w1 base ok v1 xs → Below base w0 w1 → W.grownBy w1 none → (∃ b, v1.ownBlock = some b ∧ W.heap.size ≤ b) → Kc (a.put o.dst v1) w1) :
    if Region.wanted o (yielded ops a.tmps) = true then Oper.wp P o a W Kc Q else Kc (a.put o.dst undef) W := by
  refine R_lit_step (raw d.sz) base e hw _hd (xs := chunks d.sz xs.length inner) (inner := inner) (ok := fun k => k = W.heap.size) (okp := fun _ => False) (by rw [chunks_length]; exact hrun) (reps_raw hrep (fun y c hk => ⟨d.K_len (FK_now hk), d.K_one (FK_now hk)⟩)) (fun _ hk => hk.elim) rfl HB hbase (by rw [chunks_length]; exact hm) ?_
  intro v1 w1 hr hb hg hat
  exact h v1 w1 (N_made hr hg hat (chunks_length _ _ _) (fun j y c hy hc => by rw [chunks_get hc]; exact hrep.2 j y hy) hok hfresh) hb hg hat
end
end Kd
end Go.Proofs.YtcjmplpfebpfpaaGreatDoorW.PrintWords

namespace Go.Proofs.YtcjmplpfebpfpaaGreatDoorW.PrintMore
open Go.RowKit Go.Proofs.YtcjmplpfebpfpaaGreatDoorW.PrintWords
namespace Kd
open Go.Proofs.YtcjmplpfebpfpaaGreatDoorW.PrintWords.Kd
end Kd

namespace Kd
open Go.Proofs.YtcjmplpfebpfpaaGreatDoorW.PrintWords.Kd
section
variable {α : Type} {d : Kd α} {e base g N : Nat} {ok : Nat → Prop} {W w1 : World} {u v : Value} {xs : List α}
end
end Kd
/-- 'max' and 'min' of two whole numbers. -/
theorem max2_int (k k' : IntKind) (x y : Int) : Builtin.max2 (.int k x) (.int k' y) = pure (.int k (if x < y then y else x)) := by simp only [Builtin.max2, gt_iff_lt]
theorem min2_int (k k' : IntKind) (x y : Int) : Builtin.min2 (.int k x) (.int k' y) = pure (.int k (if y < x then y else x)) := by simp only [Builtin.min2]
theorem max_two (ats : Array TypeId) (ty : TypeId) (a b : Value) : Builtin.max_ ats ty #[a, b] = (Builtin.max2 a b >>= fun s => pure s) := by simp only [Builtin.max_, List.foldlM_cons, List.foldlM_nil]
theorem min_two (ats : Array TypeId) (ty : TypeId) (a b : Value) : Builtin.min_ ats ty #[a, b] = (Builtin.min2 a b >>= fun s => pure s) := by simp only [Builtin.min_, List.foldlM_cons, List.foldlM_nil]
theorem max_three (ats : Array TypeId) (ty : TypeId) (a b c : Value) : Builtin.max_ ats ty #[a, b, c] = (Builtin.max2 a b >>= fun s => Builtin.max2 s c >>= fun s => pure s) := by simp only [Builtin.max_, List.foldlM_cons, List.foldlM_nil]
theorem min_three (ats : Array TypeId) (ty : TypeId) (a b c : Value) : Builtin.min_ ats ty #[a, b, c] = (Builtin.min2 a b >>= fun s => Builtin.min2 s c >>= fun s => pure s) := by simp only [Builtin.min_, List.foldlM_cons, List.foldlM_nil]
theorem max_four (ats : Array TypeId) (ty : TypeId) (a b c d : Value) : Builtin.max_ ats ty #[a, b, c, d] = (Builtin.max2 a b >>= fun s => Builtin.max2 s c >>= fun s => Builtin.max2 s d >>= fun s => pure s) := by simp only [Builtin.max_, List.foldlM_cons, List.foldlM_nil]
theorem min_four (ats : Array TypeId) (ty : TypeId) (a b c d : Value) : Builtin.min_ ats ty #[a, b, c, d] = (Builtin.min2 a b >>= fun s => Builtin.min2 s c >>= fun s => Builtin.min2 s d >>= fun s => pure s) := by simp only [Builtin.min_, List.foldlM_cons, List.foldlM_nil]
end Go.Proofs.YtcjmplpfebpfpaaGreatDoorW.PrintMore
namespace Go.Proofs.YtcjmplpfebpfpaaGreatDoorW.PrintWords
open Go.RowKit
section
variable {P : Program} {ops : Array Oper} {rest : List Oper} {o : Oper} {a : Act} {Q : Exit → Act → World → Prop} {W : World}
/-- The operation is a call of this function (a cheap look ahead of a dear step). -/
theorem gate_callee {f : FuncId} {as_ : Array Operand} {ts : Array TypeId} (_ho : o.op = .call { callee := .value (.func f), args := as_, argTypes := ts }) (h : wpList P ops Q (o :: rest) a W) : wpList P ops Q (o :: rest) a W := h
end
/-- The greater of two whole numbers, as_ Go's max tells it. -/
def mx (a b : Int) : Int := if a < b then b else a
namespace Kd
section
variable {α : Type} {d : Kd α} {e base : Nat} {ok : Nat → Prop} {W w1 : World} {v : Value} {xs : List α}
end
section
variable {α : Type} {d : Kd α} {e base g n cap : Nat} {ok oki okp : Nat → Prop} {W : World} {xs : List α} {i : Int} {c : List Value}
end
section
variable {α : Type} {d : Kd α} {e base b b' g N : Nat} {ok ok1 : Nat → Prop} {W W2 w1 : World} {u v : Value} {xs ys : List α} {S : Nat → Prop}
end
end Kd
end Go.Proofs.YtcjmplpfebpfpaaGreatDoorW.PrintWords
namespace Go.Proofs.YtcjmplpfebpfpaaGreatDoorW.PrintWords
open Go.RowKit
namespace Kd
/-- A row that is only read, told by its value: its form, its length, what it leads to (in ok). e and base say nothing; they make it as_ the others are. -/
def V {α : Type} (d : Kd α) (_e : Nat) (W : World) (_base : Nat) (ok : Nat → Prop) (v : Value) (xs : List α) : Prop := ∃ A c, v = .slice A xs.length c ∧ xs.length ≤ c ∧ F d W ok A xs.length xs
section
variable {α β : Type} {d : Kd α} {e base base' n m c g N' lo hi : Nat} {ok ok' S : Nat → Prop} {w W w1 : World} {A : Option Addr} {ad : Addr} {u v v1 : Value} {xs : List α}
theorem V_nil (d : Kd α) (e : Nat) (W : World) (base : Nat) (ok : Nat → Prop) : V d e W base ok (.slice none 0 0) [] := ⟨none, 0, rfl, Nat.le_refl _, F_nil d W ok⟩
end
end Kd
end Go.Proofs.YtcjmplpfebpfpaaGreatDoorW.PrintWords

namespace Go.Proofs.YtcjmplpfebpfpaaGreatDoor.PKindInstances
open Go.RowKit Go.Proofs.YtcjmplpfebpfpaaGreatDoorW.PrintWords Go.Proofs.YtcjmplpfebpfpaaGreatDoorW.PrintLast Go.Proofs.YtcjmplpfebpfpaaGreatDoorW.PrintMore
attribute [local go_sem] max2_int min2_int max_two min_two max_three min_three max_four min_four   -- for this text's walks alone
set_option linter.unusedVariables false
set_option linter.unusedSimpArgs false

theorem info24 : (Tryz.prog.info? 24).map (fun i => (i.zero, i.size, i.bytes)) = some (some (.agg #[(.int .i64 0), (.int .i64 0), (.string ⟨#[]⟩), (.slice none 0 0)]), 4, 56) := by kernel_rfl
-- the values' own types
structure S24 where
  f0 : Int
  f1 : Int
  f2 : ByteArray
  f3 : (List S24)
def z24 : S24 := ⟨(0 : Int), (0 : Int), (⟨#[]⟩ : ByteArray), ([] : List S24)⟩
def F24 (d : Kd S24) : Kd S24 := Kd.iso (Kd.pair (Kd.int .i64) (Kd.pair (Kd.int .i64) (Kd.pair Kd.string (Kd.slice 24 d)))) (fun x : S24 => (x.f0, x.f1, x.f2, x.f3))
theorem mono24 : Kd.Mono F24 := Kd.mono_iso _ (Kd.mono_pair (Kd.mono_const _) (Kd.mono_pair (Kd.mono_const _) (Kd.mono_pair (Kd.mono_const _) (Kd.mono_slice 24 Kd.mono_id))))
theorem sub24 : Kd.Sub F24 [24] := Kd.sub_iso _ (Kd.sub_pair (Kd.sub_const _ (by decide)) (Kd.sub_pair (Kd.sub_const _ (by decide)) (Kd.sub_pair (Kd.sub_const _ (by decide)) (Kd.sub_slice 24 (by decide) Kd.sub_id))))
theorem sz24 : ∀ n, (Kd.upto F24 4 [24] n).sz = 4 := Kd.upto_sz (fun _ => rfl)
def k24 : Kd S24 := Kd.fix F24 4 [24] sz24 (Kd.upto_E sub24)
theorem k24_heap : Kd.Heap k24 := Kd.heap_fix (fun _ h_ => Kd.heap_iso _ (Kd.heap_pair (Kd.heap_int .i64) (Kd.heap_pair (Kd.heap_int .i64) (Kd.heap_pair Kd.heap_string (Kd.heap_slice 24 h_)))))
theorem k24_open {w : World} {x : S24} {cs : List Value} (h : k24.K w x cs) : ∃ A3 c3, cs = [.int .i64 x.f0, .int .i64 x.f1, .string x.f2, .slice A3 x.f3.length c3] ∧ x.f3.length ≤ c3 ∧ k24.C w A3 x.f3.length x.f3 := by
  obtain ⟨n, h⟩ := h
  cases n with
  | zero => exact h.elim
  | succ n =>
    obtain ⟨_, _, rfl, rfl, ⟨_, _, rfl, rfl, ⟨_, _, rfl, rfl, ⟨A3, c3, rfl, l3, g3⟩⟩⟩⟩ := h
    exact ⟨A3, c3, rfl, l3, Kd.fix_C g3⟩
theorem k24_mk (w : World) (x : S24) {A3 : Option Addr} {c3 : Nat} (l3 : x.f3.length ≤ c3) (g3 : k24.C w A3 x.f3.length x.f3) : k24.K w x [.int .i64 x.f0, .int .i64 x.f1, .string x.f2, .slice A3 x.f3.length c3] := by
  obtain ⟨n3, q3⟩ := Kd.fix_C_back mono24 g3
  have r3 := Kd.upto_C_le mono24 sz24 (show n3 ≤ n3 by omega) q3
  exact ⟨n3 + 1, ⟨[.int .i64 x.f0], [.int .i64 x.f1, .string x.f2, .slice A3 x.f3.length c3], rfl, rfl, ⟨[.int .i64 x.f1], [.string x.f2, .slice A3 x.f3.length c3], rfl, rfl, ⟨[.string x.f2], [.slice A3 x.f3.length c3], rfl, rfl, ⟨A3, c3, rfl, l3, r3⟩⟩⟩⟩⟩
theorem k24_mkF (W : World) (ok : Nat → Prop) (x : S24) {A3 : Option Addr} {c3 : Nat} (l3 : x.f3.length ≤ c3) (g3 : Kd.F k24 W ok A3 x.f3.length x.f3) : Kd.FK k24 W ok x [.int .i64 x.f0, .int .i64 x.f1, .string x.f2, .slice A3 x.f3.length c3] := fun W2 hW => k24_mk W2 x l3 (g3 W2 hW)
def rd_T24 (xs : List S24) (i : Int) : S24 := xs.getD i.toNat z24
theorem at_T24 {w : World} {A : Option Addr} {n : Nat} {xs : List S24} (h : Kd.C k24 w A n xs) (i : Int) (h0 : 0 ≤ i) (h1 : i < n) : ∃ ad A3 c3, A = some ad ∧ w.cell? (ad.add (i.toNat * 4)) = some (.int .i64 (rd_T24 xs i).f0) ∧ w.cell? ⟨(ad.add (i.toNat * 4)).block, (ad.add (i.toNat * 4)).off + 1, none⟩ = some (.int .i64 (rd_T24 xs i).f1) ∧ w.cell? ⟨(ad.add (i.toNat * 4)).block, (ad.add (i.toNat * 4)).off + 2, none⟩ = some (.string (rd_T24 xs i).f2) ∧ w.cell? ⟨(ad.add (i.toNat * 4)).block, (ad.add (i.toNat * 4)).off + 3, none⟩ = some (.slice A3 (rd_T24 xs i).f3.length c3) ∧ (rd_T24 xs i).f3.length ≤ c3 ∧ k24.C w A3 (rd_T24 xs i).f3.length (rd_T24 xs i).f3 := by
  obtain ⟨ad, c, e, _, hK, hc0⟩ := Kd.C_get h z24 i h0 h1
  have hc : ∀ j u, c[j]? = some u → w.cell? (ad.add (i.toNat * 4 + j)) = some u := hc0
  obtain ⟨A3, c3, rfl, l3, g3⟩ := k24_open hK
  exact ⟨ad, A3, c3, e, hc 0 _ rfl, by rw [← add_field _ _ 1 (by omega)]; exact hc 1 _ rfl, by rw [← add_field _ _ 2 (by omega)]; exact hc 2 _ rfl, by rw [← add_field _ _ 3 (by omega)]; exact hc 3 _ rfl, l3, g3⟩

end Go.Proofs.YtcjmplpfebpfpaaGreatDoor.PKindInstances

namespace Go.Proofs.YtcjmplpfebpfpaaGreatDoor.PKindInstances
open Go.RowKit Go.Proofs.YtcjmplpfebpfpaaGreatDoorW.PrintWords Go.Proofs.YtcjmplpfebpfpaaGreatDoorW.PrintLast Go.Proofs.YtcjmplpfebpfpaaGreatDoorW.PrintMore
set_option linter.unusedVariables false
set_option linter.unusedSimpArgs false
theorem info115 : (Tryz.prog.info? 115).map (fun i => (i.zero, i.size, i.bytes)) = some (some (.agg #[(.string ⟨#[]⟩), (.int .i64 0), (.int .i64 0), (.bool false), (.bool false)]), 5, 40) := by kernel_rfl
structure S114 where
  f0 : ByteArray
  f1 : Int
  f2 : Int
  f3 : Bool
  f4 : Bool
def z114 : S114 := ⟨(⟨#[]⟩ : ByteArray), (0 : Int), (0 : Int), false, false⟩
def k114 : Kd S114 := Kd.iso (Kd.pair Kd.string (Kd.pair (Kd.int .i64) (Kd.pair (Kd.int .i64) (Kd.pair Kd.bool Kd.bool)))) (fun x : S114 => (x.f0, x.f1, x.f2, x.f3, x.f4))
theorem k114_open {w : World} {x : S114} {cs : List Value} (h : k114.K w x cs) : cs = [.string x.f0, .int .i64 x.f1, .int .i64 x.f2, .bool x.f3, .bool x.f4] := by
  obtain ⟨_, _, rfl, rfl, ⟨_, _, rfl, rfl, ⟨_, _, rfl, rfl, ⟨_, _, rfl, rfl, rfl⟩⟩⟩⟩ := h
  exact rfl
theorem k114_mk (w : World) (x : S114)  : k114.K w x [.string x.f0, .int .i64 x.f1, .int .i64 x.f2, .bool x.f3, .bool x.f4] := ⟨[.string x.f0], [.int .i64 x.f1, .int .i64 x.f2, .bool x.f3, .bool x.f4], rfl, rfl, ⟨[.int .i64 x.f1], [.int .i64 x.f2, .bool x.f3, .bool x.f4], rfl, rfl, ⟨[.int .i64 x.f2], [.bool x.f3, .bool x.f4], rfl, rfl, ⟨[.bool x.f3], [.bool x.f4], rfl, rfl, rfl⟩⟩⟩⟩
def rd_T114 (xs : List S114) (i : Int) : S114 := xs.getD i.toNat z114
theorem at_T114 {w : World} {A : Option Addr} {n : Nat} {xs : List S114} (h : Kd.C k114 w A n xs) (i : Int) (h0 : 0 ≤ i) (h1 : i < n) : ∃ ad , A = some ad ∧ w.cell? (ad.add (i.toNat * 5)) = some (.string (rd_T114 xs i).f0) ∧ w.cell? ⟨(ad.add (i.toNat * 5)).block, (ad.add (i.toNat * 5)).off + 1, none⟩ = some (.int .i64 (rd_T114 xs i).f1) ∧ w.cell? ⟨(ad.add (i.toNat * 5)).block, (ad.add (i.toNat * 5)).off + 2, none⟩ = some (.int .i64 (rd_T114 xs i).f2) ∧ w.cell? ⟨(ad.add (i.toNat * 5)).block, (ad.add (i.toNat * 5)).off + 3, none⟩ = some (.bool (rd_T114 xs i).f3) ∧ w.cell? ⟨(ad.add (i.toNat * 5)).block, (ad.add (i.toNat * 5)).off + 4, none⟩ = some (.bool (rd_T114 xs i).f4) := by
  obtain ⟨ad, c, e, _, hK, hc0⟩ := Kd.C_get h z114 i h0 h1
  have hc : ∀ j u, c[j]? = some u → w.cell? (ad.add (i.toNat * 5 + j)) = some u := hc0
  obtain rfl := k114_open hK
  exact ⟨ad, e, hc 0 _ rfl, by rw [← add_field _ _ 1 (by omega)]; exact hc 1 _ rfl, by rw [← add_field _ _ 2 (by omega)]; exact hc 2 _ rfl, by rw [← add_field _ _ 3 (by omega)]; exact hc 3 _ rfl, by rw [← add_field _ _ 4 (by omega)]; exact hc 4 _ rfl⟩

structure S115 where
  f0 : ByteArray
  f1 : Int
  f2 : Int
  f3 : Bool
  f4 : Bool
def z115 : S115 := ⟨(⟨#[]⟩ : ByteArray), (0 : Int), (0 : Int), false, false⟩
def k115 : Kd S115 := Kd.iso (Kd.pair Kd.string (Kd.pair (Kd.int .i64) (Kd.pair (Kd.int .i64) (Kd.pair Kd.bool Kd.bool)))) (fun x : S115 => (x.f0, x.f1, x.f2, x.f3, x.f4))
theorem k115_open {w : World} {x : S115} {cs : List Value} (h : k115.K w x cs) : cs = [.string x.f0, .int .i64 x.f1, .int .i64 x.f2, .bool x.f3, .bool x.f4] := by
  obtain ⟨_, _, rfl, rfl, ⟨_, _, rfl, rfl, ⟨_, _, rfl, rfl, ⟨_, _, rfl, rfl, rfl⟩⟩⟩⟩ := h
  exact rfl
theorem k115_mkM (w : World) (base : Nat) (ok : Nat → Prop) (x : S115)  : k115.M w base ok x [.string x.f0, .int .i64 x.f1, .int .i64 x.f2, .bool x.f3, .bool x.f4] := ⟨[.string x.f0], [.int .i64 x.f1, .int .i64 x.f2, .bool x.f3, .bool x.f4], rfl, rfl, ⟨[.int .i64 x.f1], [.int .i64 x.f2, .bool x.f3, .bool x.f4], rfl, rfl, ⟨[.int .i64 x.f2], [.bool x.f3, .bool x.f4], rfl, rfl, ⟨[.bool x.f3], [.bool x.f4], rfl, rfl, rfl⟩⟩⟩⟩
def rd_T115 (xs : List S115) (i : Int) : S115 := xs.getD i.toNat z115
theorem at_T115 {w : World} {A : Option Addr} {n : Nat} {xs : List S115} (h : Kd.C k115 w A n xs) (i : Int) (h0 : 0 ≤ i) (h1 : i < n) : ∃ ad , A = some ad ∧ w.cell? (ad.add (i.toNat * 5)) = some (.string (rd_T115 xs i).f0) ∧ w.cell? ⟨(ad.add (i.toNat * 5)).block, (ad.add (i.toNat * 5)).off + 1, none⟩ = some (.int .i64 (rd_T115 xs i).f1) ∧ w.cell? ⟨(ad.add (i.toNat * 5)).block, (ad.add (i.toNat * 5)).off + 2, none⟩ = some (.int .i64 (rd_T115 xs i).f2) ∧ w.cell? ⟨(ad.add (i.toNat * 5)).block, (ad.add (i.toNat * 5)).off + 3, none⟩ = some (.bool (rd_T115 xs i).f3) ∧ w.cell? ⟨(ad.add (i.toNat * 5)).block, (ad.add (i.toNat * 5)).off + 4, none⟩ = some (.bool (rd_T115 xs i).f4) := by
  obtain ⟨ad, c, e, _, hK, hc0⟩ := Kd.C_get h z115 i h0 h1
  have hc : ∀ j u, c[j]? = some u → w.cell? (ad.add (i.toNat * 5 + j)) = some u := hc0
  obtain rfl := k115_open hK
  exact ⟨ad, e, hc 0 _ rfl, by rw [← add_field _ _ 1 (by omega)]; exact hc 1 _ rfl, by rw [← add_field _ _ 2 (by omega)]; exact hc 2 _ rfl, by rw [← add_field _ _ 3 (by omega)]; exact hc 3 _ rfl, by rw [← add_field _ _ 4 (by omega)]; exact hc 4 _ rfl⟩

end Go.Proofs.YtcjmplpfebpfpaaGreatDoor.PKindInstances

namespace Go.Proofs.YtcjmplpfebpfpaaGreatDoor
open Go.RowKit Go.Proofs Go.Proofs.YtcjmplpfebpfpaaGreatDoorW.PrintWords Go.Proofs.YtcjmplpfebpfpaaGreatDoorW.PrintLast Go.Proofs.YtcjmplpfebpfpaaGreatDoorW.PrintMore PKindInstances
set_option linter.unusedVariables false
set_option linter.unusedSimpArgs false

/-- A form as a value. -/
@[reducible] def formV (a b : Int) (s : ByteArray) (A : Option Addr) (n c : Nat) : Value := .agg #[.int .i64 a, .int .i64 b, .string s, .slice A n c]

theorem kids_three (b : Int) (s : ByteArray) (A : Option Addr) (n c : Nat) (w : World) :
    Calls Tryz.prog 122 #[formV 3 b s A n c] w fun e w' => e = .returned (.slice A n c) ∧ Below w.heap.size w w' := by
  have hu24 := Tryz.underlying24
  go_enter Tryz.func122, Tryz.ntmps122
  go_wp2
  go_ret
  exact ⟨rfl, by repeat (first | exact Below.refl _ _ | apply below_alloc | apply pw_below_drewN | apply below_drew1)⟩

theorem kids_other {a : Int} (h : a ≠ 3) (b : Int) (s : ByteArray) (A : Option Addr) (n c : Nat) (w : World) :
    Calls Tryz.prog 122 #[formV a b s A n c] w fun e w' => e = .returned (.slice none 0 0) ∧ Below w.heap.size w w' := by
  have hu24 := Tryz.underlying24
  have h1 : (a == 3) = false := beq_eq_false_iff_ne.mpr h
  go_enter Tryz.func122, Tryz.ntmps122
  go_wp2
  go_ret
  exact ⟨rfl, by repeat (first | exact Below.refl _ _ | apply below_alloc | apply pw_below_drewN | apply below_drew1)⟩

/-- The head of a form. -/
def headL (l : List S24) : ByteArray := match l with | [] => ⟨#[]⟩ | k :: _ => if k.f0 = 1 then k.f2 else ⟨#[]⟩
def headOf (a : Int) (l : List S24) : ByteArray := if a = 3 then headL l else ⟨#[]⟩

theorem below_after {w X w1 : World} (h : Below w.heap.size w X) (hb : Below X.heap.size X w1) : Below w.heap.size w w1 := h.trans (hb.mono (below_size h))

theorem Head_other {a : Int} (ha : a ≠ 3) (b : Int) (s : ByteArray) (A : Option Addr) (n c : Nat) (w : World) :
    Calls Tryz.prog 79 #[formV a b s A n c] w fun e w' => e = .returned (.string (⟨#[]⟩ : ByteArray)) ∧ Below w.heap.size w w' := by
  have hu24 := Tryz.underlying24
  go_enter Tryz.func79, Tryz.ntmps79
  go_wp2_with fail
  refine (kids_other ha _ _ _ _ _ _).mono ?_
  rintro e w1 ⟨rfl, hb⟩
  have B1 : Below w.heap.size w w1 := below_after (by (repeat (first | assumption | exact Below.refl _ _ | apply below_alloc | apply pw_below_drewN | apply below_drew1))) hb
  go_wp2
  go_ret
  exact ⟨rfl, by (repeat (first | assumption | exact Below.refl _ _ | apply below_alloc | apply pw_below_drewN | apply below_drew1))⟩

theorem add_none (ad : Addr) : ad.add 0 = ad := by cases ad; rfl
/-- The cells of the first of a row of forms. -/
theorem first_at {w : World} {A : Option Addr} {n : Nat} {k : S24} {l : List S24} (h : Kd.C k24 w A n (k :: l)) (hn : 0 < n) :
    ∃ ad A3 c3, A = some ad ∧ w.cell? ad = some (.int .i64 k.f0) ∧ w.cell? ⟨ad.block, ad.off + 1, none⟩ = some (.int .i64 k.f1) ∧ w.cell? ⟨ad.block, ad.off + 2, none⟩ = some (.string k.f2) ∧
      w.cell? ⟨ad.block, ad.off + 3, none⟩ = some (.slice A3 k.f3.length c3) ∧ k.f3.length ≤ c3 ∧ k24.C w A3 k.f3.length k.f3 := by
  obtain ⟨ad, A3, c3, e, g0, g1, g2, g3, g4, g5⟩ := at_T24 h 0 (by omega) (by omega)
  have e0 : rd_T24 (k :: l) 0 = k := rfl
  have e1 : ad.add (Int.toNat 0 * 4) = ad := add_none ad
  rw [e1, e0] at g0 g1 g2 g3
  rw [e0] at g4 g5
  exact ⟨ad, A3, c3, e, g0, g1, g2, g3, g4, g5⟩

theorem rd_at {l : List S24} {k : Nat} {x : S24} (h : l[k]? = some x) : rd_T24 l (k : Int) = x := by
  simp [rd_T24, List.getD, h]

set_option maxRecDepth 100000 in
theorem Head_three (b : Int) (s : ByteArray) {A : Option Addr} {l : List S24} (c : Nat) (w : World) (hr : Kd.C k24 w A l.length l) :
    Calls Tryz.prog 79 #[formV 3 b s A l.length c] w fun e w' => e = .returned (.string (headL l)) ∧ Below w.heap.size w w' := by
  have hu24 := Tryz.underlying24
  cases l with
  | nil =>
    go_enter Tryz.func79, Tryz.ntmps79
    go_wp2_with fail
    refine (kids_three _ _ _ _ _ _).mono ?_
    rintro e w1 ⟨rfl, hb⟩
    have B1 : Below w.heap.size w w1 := below_after (by (repeat (first | assumption | exact Below.refl _ _ | apply below_alloc | apply pw_below_drewN | apply below_drew1))) hb
    go_wp2
    go_ret
    exact ⟨rfl, by (repeat (first | assumption | exact Below.refl _ _ | apply below_alloc | apply pw_below_drewN | apply below_drew1))⟩
  | cons k l =>
    obtain ⟨n, hn⟩ : ∃ n, (k :: l).length = n := ⟨_, rfl⟩
    have hn0 : 0 < n := by rw [← hn]; simp
    have hn1 : decide ((0 : Int) < n) = true := decide_eq_true (by omega)
    rw [hn] at hr ⊢
    by_cases hk : k.f0 = 1
    · have e1 : headL (k :: l) = k.f2 := by simp [headL, hk]
      rw [e1]; clear e1
      go_enter Tryz.func79, Tryz.ntmps79
      go_wp2_with fail
      refine (kids_three _ _ _ _ _ _).mono ?_
      rintro e w1 ⟨rfl, hb⟩
      have B1 : Below w.heap.size w w1 := below_after (by (repeat (first | assumption | exact Below.refl _ _ | apply below_alloc | apply pw_below_drewN | apply below_drew1))) hb
      obtain ⟨ad, A3, c3, rfl, g0, g1, g2, g3, _, _⟩ := first_at (Kd.C_below hr B1) hn0
      clear hr
      go_wp2
      go_ret
      exact ⟨rfl, by (repeat (first | assumption | exact Below.refl _ _ | apply below_alloc | apply pw_below_drewN | apply below_drew1))⟩
    · have hk1 : (k.f0 == 1) = false := beq_eq_false_iff_ne.mpr hk
      have e1 : headL (k :: l) = (⟨#[]⟩ : ByteArray) := by simp [headL, hk]
      rw [e1]; clear e1
      go_enter Tryz.func79, Tryz.ntmps79
      go_wp2_with fail
      refine (kids_three _ _ _ _ _ _).mono ?_
      rintro e w1 ⟨rfl, hb⟩
      have B1 : Below w.heap.size w w1 := below_after (by (repeat (first | assumption | exact Below.refl _ _ | apply below_alloc | apply pw_below_drewN | apply below_drew1))) hb
      obtain ⟨ad, A3, c3, rfl, g0, g1, g2, g3, _, _⟩ := first_at (Kd.C_below hr B1) hn0
      clear hr
      go_wp2
      go_ret
      exact ⟨rfl, by (repeat (first | assumption | exact Below.refl _ _ | apply below_alloc | apply pw_below_drewN | apply below_drew1))⟩

/-- The parts of a form that stand as types. -/
def typesL (a : Int) (l : List S24) (bare : Bool) : List S24 :=
  if a = 3 then (match l with | [] => [] | k :: r => if bare = false ∧ k.f0 = 1 then r else k :: r) else []

/-- What the cut of a row by one is. -/
def TypesR (w : World) (v : Value) (ys : List S24) : Prop := ∃ A c, v = .slice A ys.length c ∧ Kd.C k24 w A ys.length ys ∧ ys.length ≤ c

theorem TypesR_nil (w : World) : TypesR w (.slice none 0 0) [] := ⟨none, 0, rfl, Kd.C_nil _ _, Nat.le_refl _⟩

theorem types_cut {w : World} {ad : Addr} {n c : Nat} {k : S24} {l : List S24} (hr : Kd.C k24 w (some ad) (k :: l).length (k :: l)) (hc : (k :: l).length ≤ c) (hn : (k :: l).length = n) (h1 : c ≠ 1) :
    TypesR w (.slice (some ⟨ad.block, ad.off + 4, none⟩) (n - 1) (c - 1)) l := by
  have h := Kd.C_drop (m := 1) hr (by simp) hc
  rw [if_neg h1] at h
  have e : (k :: l).drop 1 = l := rfl
  rw [e] at h
  have hl : n - 1 = l.length := by rw [← hn]; simp
  rw [hl]
  exact ⟨some ⟨ad.block, ad.off + 4, none⟩, c - 1, rfl, h, by rw [← hl, ← hn]; omega⟩
theorem types_cut1 {w : World} {ad : Addr} {n : Nat} {k : S24} {l : List S24} (hr : Kd.C k24 w (some ad) (k :: l).length (k :: l)) (hc : (k :: l).length ≤ 1) (hn : (k :: l).length = n) :
    TypesR w (.slice (some ad) (n - 1) 0) l := by
  have h := Kd.C_drop (m := 1) (c := 1) hr (by simp) hc
  rw [if_pos rfl] at h
  have e : (k :: l).drop 1 = l := rfl
  rw [e] at h
  have hl : n - 1 = l.length := by rw [← hn]; simp
  rw [hl]
  exact ⟨some ad, 0, rfl, h, by simp at hc ⊢; simp [hc]⟩

set_option maxRecDepth 100000 in
theorem types_any (a b : Int) (s : ByteArray) {A : Option Addr} {l : List S24} (c : Nat) (bare : Bool) (w : World) (hr : Kd.C k24 w A l.length l) (hc : l.length ≤ c) :
    Calls Tryz.prog 111 #[formV a b s A l.length c, .bool bare] w fun e w' => ∃ v, e = .returned v ∧ TypesR w' v (typesL a l bare) ∧ Below w.heap.size w w' := by
  have hu24 := Tryz.underlying24
  by_cases ha : a = 3
  · subst ha
    have h1 : ((3 : Int) != 3) = false := by decide
    cases bare with
    | true =>
      have e1 : typesL 3 l true = l := by cases l <;> simp [typesL]
      rw [e1]; clear e1
      go_enter Tryz.func111, Tryz.ntmps111
      go_wp2
      go_ret
      have B : Below w.heap.size w (w.alloc (Obj.cells #[Value.int IntKind.i64 3, Value.int IntKind.i64 b, Value.string s, Value.slice A l.length c] 24)) := by (repeat (first | assumption | exact Below.refl _ _ | apply below_alloc | apply pw_below_drewN | apply below_drew1))
      exact ⟨_, rfl, ⟨A, c, rfl, Kd.C_below hr B, hc⟩, B⟩
    | false =>
      cases l with
      | nil =>
        go_enter Tryz.func111, Tryz.ntmps111
        go_wp2
        go_ret
        have B : Below w.heap.size w (w.alloc (Obj.cells #[Value.int IntKind.i64 3, Value.int IntKind.i64 b, Value.string s, Value.slice A 0 c] 24)) := by (repeat (first | assumption | exact Below.refl _ _ | apply below_alloc | apply pw_below_drewN | apply below_drew1))
        exact ⟨_, rfl, ⟨A, c, rfl, Kd.C_below hr B, hc⟩, B⟩
      | cons k l =>
        obtain ⟨n, hn⟩ : ∃ n, (k :: l).length = n := ⟨_, rfl⟩
        have hn0 : 0 < n := by rw [← hn]; simp
        have hn1 : decide ((0 : Int) < n) = true := decide_eq_true (by omega)
        have hr0 := hr
        rw [hn] at hr ⊢
        obtain ⟨ad, A3, c3, rfl, g0, g1, g2, g3, _, _⟩ := first_at (Kd.C_alloc hr (Obj.cells #[Value.int IntKind.i64 3, Value.int IntKind.i64 b, Value.string s, Value.slice A n c] 24)) hn0
        by_cases hk : k.f0 = 1
        · have e1 : typesL 3 (k :: l) false = l := by simp [typesL, hk]
          rw [e1]; clear e1
          have hnc : n ≤ c := by rw [← hn]; exact hc
          go_enter Tryz.func111, Tryz.ntmps111
          go_wp2
          all_goals go_ret
          · exact ⟨_, rfl, types_cut1 (Kd.C_alloc hr0 _) (by omega) hn, by (repeat (first | assumption | exact Below.refl _ _ | apply below_alloc | apply pw_below_drewN | apply below_drew1))⟩
          · exact ⟨_, rfl, types_cut (Kd.C_alloc hr0 _) hc hn (by assumption), by (repeat (first | assumption | exact Below.refl _ _ | apply below_alloc | apply pw_below_drewN | apply below_drew1))⟩
        · have hk1 : (k.f0 == 1) = false := beq_eq_false_iff_ne.mpr hk
          have e1 : typesL 3 (k :: l) false = k :: l := by simp [typesL, hk]
          rw [e1]; clear e1
          go_enter Tryz.func111, Tryz.ntmps111
          go_wp2
          go_ret
          have B : Below w.heap.size w (w.alloc (Obj.cells #[Value.int IntKind.i64 3, Value.int IntKind.i64 b, Value.string s, Value.slice (some ad) n c] 24)) := by (repeat (first | assumption | exact Below.refl _ _ | apply below_alloc | apply pw_below_drewN | apply below_drew1))
          exact ⟨.slice (some ad) n c, rfl, ⟨some ad, c, by rw [hn], Kd.C_below hr0 B, hc⟩, B⟩
  · have h1 : (a != 3) = true := bne_iff_ne.mpr ha
    have e1 : typesL a l bare = [] := by simp [typesL, ha]
    rw [e1]; clear e1
    go_enter Tryz.func111, Tryz.ntmps111
    go_wp2
    go_ret
    exact ⟨_, rfl, TypesR_nil _, by (repeat (first | assumption | exact Below.refl _ _ | apply below_alloc | apply pw_below_drewN | apply below_drew1))⟩
end Go.Proofs.YtcjmplpfebpfpaaGreatDoor

namespace Go.Proofs.YtcjmplpfebpfpaaGreatDoor
open Go.RowKit Go.MapKept

def MapAt (w : World) (b : Nat) (kvs : List (Value × Value)) : Prop :=
  ∃ es c, w.heap[b]? = some (.map es c) ∧ es.toList.map (fun e => (e.key, e.val)) = kvs ∧ MapKept.Stamped es c

theorem MapAt.lt {w : World} {b : Nat} {m : List (Value × Value)} (h : MapAt w b m) : b < w.heap.size := by
  obtain ⟨es, c, hb, _⟩ := h
  exact (Array.getElem?_eq_some_iff.1 hb).1
theorem MapAt.kept {w w' : World} {b : Nat} {m : List (Value × Value)} {row : Option Nat} (h : MapAt w b m) (hg : w.grownBy w' row) (hne : some b ≠ row) : MapAt w' b m := by
  have hlt := h.lt
  obtain ⟨es, c, hb, he⟩ := h
  exact ⟨es, c, (hg.block b hlt hne).trans hb, he⟩
theorem MapAt.made (w : World) : MapAt (w.alloc (.map #[] 0)) w.heap.size [] := ⟨#[], 0, (MapKept.heap_alloc w _).1, rfl, MapKept.stamped_empty 0⟩

/-- How keys of one kind stand as values. -/
structure KeyEnc {α : Type} [DecidableEq α] (d : TypeDesc) (kenc : α → Value) : Prop where
  is : ∀ a, IsKey d (kenc a)
  same : ∀ a b, Instr.sameNow d (kenc a) (kenc b) = some (decide (a = b))

theorem keyText : KeyEnc .string (fun s : ByteArray => Value.string s) := by
  refine ⟨fun a => trivial, fun a b => ?_⟩
  show some (a == b) = _
  congr 1
  rw [Bool.eq_iff_iff, decide_eq_true_iff]
  exact bytes_beq a b

section
variable {α : Type} [DecidableEq α]

def look : List (α × Value) → α → Option Value
  | [], _ => none
  | (a, v) :: m, k => if k = a then some v else look m k
def putM : List (α × Value) → α → Value → List (α × Value)
  | [], k, v => [(k, v)]
  | (a, u) :: m, k, v => if k = a then (a, v) :: m else (a, u) :: putM m k v
def kvs (kenc : α → Value) (m : List (α × Value)) : List (Value × Value) := m.map fun x => (kenc x.1, x.2)

theorem findNow_at {d : TypeDesc} {kenc : α → Value} (K : KeyEnc d kenc) (k : α) : ∀ (m : List (α × Value)) (es : List MapEntry) (i : Nat), es.map (fun e => (e.key, e.val)) = kvs kenc m →
    (look m k = none ∧ Instr.findNow d (kenc k) es i = some none) ∨
    ∃ j v e, look m k = some v ∧ Instr.findNow d (kenc k) es i = some (some (i + j, v)) ∧ es[j]? = some e ∧ e.key = kenc k ∧
      ∀ u, (es.modify j fun x => { x with key := kenc k, val := u }).map (fun x => (x.key, x.val)) = kvs kenc (putM m k u) := by
  intro m
  induction m with
  | nil =>
    intro es i h
    have : es = [] := by simpa [kvs] using h
    subst this
    exact .inl ⟨rfl, rfl⟩
  | cons p m ih =>
    obtain ⟨a, v⟩ := p
    intro es i h
    cases es with
    | nil => simp [kvs] at h
    | cons e es =>
      simp only [kvs, List.map_cons, List.cons.injEq, Prod.mk.injEq] at h
      obtain ⟨⟨hk, hv⟩, ht⟩ := h
      by_cases hka : k = a
      · subst hka
        refine .inr ⟨0, v, e, by simp [look], ?_, rfl, hk, fun u => ?_⟩
        · simp [Instr.findNow, hk, K.same, hv]
        · simp [putM, kvs, ht]
      · have hf : Instr.findNow d (kenc k) (e :: es) i = Instr.findNow d (kenc k) es (i + 1) := by simp [Instr.findNow, hk, K.same, hka]
        rcases ih es (i + 1) ht with ⟨h1, h2⟩ | ⟨j, u, e', h1, h2, h3, h4, h5⟩
        · exact .inl ⟨by simp [look, hka, h1], by rw [hf, h2]⟩
        · refine .inr ⟨j + 1, u, e', by simp [look, hka, h1], by rw [hf, h2]; congr 3; omega, by simpa using h3, h4, fun z => ?_⟩
          have := h5 z
          simp only [List.modify_succ_cons, List.map_cons, this, putM, if_neg hka, kvs, hk, hv]

variable {P : Program} {w : World}

theorem run_lookup_at {d : TypeDesc} {kenc : α → Value} (K : KeyEnc d kenc) {T kt et : TypeId} (hT : P.underlying T = some (.map kt et)) (hk : P.underlying kt = some d) {z : Value} (hz : (zeroValue et).run P w = .ok z w)
    {b : Nat} {m : List (α × Value)} (h : MapAt w b (kvs kenc m)) (k : α) (ok : Bool) :
    (Instr.lookup T (.map (some b)) (kenc k) ok).run P w = .ok (if ok then .tuple #[(look m k).getD z, .bool (look m k).isSome] else (look m k).getD z) w := by
  obtain ⟨es, c, hb, he, _⟩ := h
  have hc : ∀ e, (Instr.checkKey e 10000 kt (kenc k)).run P w = .ok () w := fun e => run_checkKey hk (K.is k) e 9999
  rcases findNow_at K k m es.toList 0 he with ⟨h1, h2⟩ | ⟨j, v, e, h1, h2, _⟩
  · cases ok <;> simp [Instr.lookup, run_underlying hT, MapKept.run_getObj_map hb, hc, run_findKey hk h2, hz, h1, Result.andThen]
  · cases ok <;> simp [Instr.lookup, run_underlying hT, MapKept.run_getObj_map hb, hc, run_findKey hk h2, h1, Result.andThen]

theorem look_none_ne {k : α} : ∀ {m : List (α × Value)}, look m k = none → ∀ {p : α × Value}, p ∈ m → p.1 ≠ k
  | [], _, p, hp => absurd hp List.not_mem_nil
  | (a, v) :: m, h, p, hp => by
    simp only [look] at h
    split at h
    · cases h
    · rename_i hne
      rcases List.mem_cons.1 hp with rfl | hp
      · exact fun e => hne e.symm
      · exact look_none_ne h hp
theorem run_update_at {d : TypeDesc} {kenc : α → Value} (K : KeyEnc d kenc) {T kt et : TypeId} (hT : P.underlying T = some (.map kt et)) (hk : P.underlying kt = some d)
    {b : Nat} {m : List (α × Value)} (h : MapAt w b (kvs kenc m)) (k : α) (v : Value) :
    ∃ w', (Instr.mapUpdate T (.map (some b)) (kenc k) v).run P w = .ok () w' ∧ MapAt w' b (kvs kenc (putM m k v)) ∧ w.grownBy w' (some b) := by
  obtain ⟨es, c, hb, he, hst⟩ := h
  have hc : ∀ e, (Instr.checkKey e 10000 kt (kenc k)).run P w = .ok () w := fun e => run_checkKey hk (K.is k) e 9999
  have hlt : b < w.heap.size := (Array.getElem?_eq_some_iff.1 hb).1
  have hgrow : ∀ o : Obj, w.grownBy { w with heap := w.heap.setIfInBounds b o } (some b) := fun o =>
    ⟨rfl, rfl, rfl, by simp, fun i hi hne => by
      show (w.heap.setIfInBounds b o)[i]? = _
      rw [Array.getElem?_setIfInBounds_ne (fun e => hne (by rw [e]))]⟩
  have hset : ∀ o : Obj, (w.heap.setIfInBounds b o)[b]? = some o := fun o => by simp [hlt]
  rcases findNow_at K k m es.toList 0 he with ⟨h1, h2⟩ | ⟨j, u, e, h1, h2, h3, h4, h5⟩
  · refine ⟨{ w with heap := w.heap.setIfInBounds b (.map (es.push { key := kenc k, val := v, born := c }) (c + 1)) }, ?_, ⟨_, _, hset _, ?_, ?_⟩, hgrow _⟩
    · simp [Instr.mapUpdate, run_underlying hT, MapKept.run_getObj_map hb, hc, run_findKey hk h2, MapKept.run_setObj_map _ hb, Result.andThen]
    · have hp : putM m k v = m ++ [(k, v)] := by
        clear h2 he
        induction m with
        | nil => rfl
        | cons p m ih =>
          obtain ⟨a, u⟩ := p
          simp only [look] at h1
          split at h1
          · cases h1
          · rename_i hne
            simp [putM, hne, ih h1]
      rw [hp]
      simp only [kvs] at he
      simp [kvs, he]
    · refine MapKept.stamped_push hst fun x hx e => ?_
      have hx2 : (x.key, x.val) ∈ kvs kenc m := by rw [← he]; exact List.mem_map.2 ⟨x, hx, rfl⟩
      obtain ⟨p, hp, hp2⟩ := List.mem_map.1 hx2
      have hk1 : kenc p.1 = kenc k := ((Prod.mk.inj hp2).1).trans e
      have hk2 := K.same p.1 k
      rw [hk1] at hk2
      have hk3 := K.same k k
      rw [hk3] at hk2
      have hk4 : p.1 = k := by simpa using hk2
      exact look_none_ne h1 hp hk4
  · have hj : es[j]? = some e := by simpa using h3
    refine ⟨{ w with heap := w.heap.setIfInBounds b (.map (es.modify j fun x => { x with key := kenc k, val := v }) c) }, ?_, ⟨_, _, hset _, ?_, ?_⟩, hgrow _⟩
    · simp [Instr.mapUpdate, run_underlying hT, MapKept.run_getObj_map hb, hc, run_findKey hk h2, MapKept.run_setObj_map _ hb, Result.andThen, hj, h4, run_keyThatStays (K.is k)]
    · rw [← h5 v]; simp
    · exact MapKept.stamped_modify hst j _ (fun _ _ => rfl) fun e' _ he' => by
        rw [hj] at he'
        obtain rfl := Option.some.inj he'
        exact h4.symm

end

section
variable {α : Type} [DecidableEq α] {P : Program} {ops : Array Oper} {rest : List Oper} {o : Oper} {a : Act} {Q : Exit → Act → World → Prop}

/-- 'm[k]' at the operation. -/
theorem law_lookup {d : TypeDesc} {kenc : α → Value} (K : KeyEnc d kenc) {W : World} (hgd : o.guard = none) (x i : Operand) {T kt et : TypeId} (ok : Bool) (ho : o.op = .lookup T x i ok)
    (hT : P.underlying T = some (.map kt et)) (hk : P.underlying kt = some d) {z : Value} (hz : (zeroValue et).run P W = .ok z W) {b : Nat} {m : List (α × Value)} (hm : MapAt W b (kvs kenc m)) (k : α)
    (hx : a.eval x = .map (some b)) (hi : a.eval i = kenc k)
    (h : wpList P ops Q rest (a.put o.dst (if ok then .tuple #[(look m k).getD z, .bool (look m k).isSome] else (look m k).getD z)) W) : wpList P ops Q (o :: rest) a W := by
  refine wpList_plain hgd fun K' hK' => ?_
  have hrun := run_lookup_at K hT hk hz hm k ok
  unfold Oper.wp
  simp [execOp, ho, hx, hi, hrun, Result.andThen]
  exact hK' _ _ h

/-- 'm[k] = v' at the operation. -/
theorem law_update {d : TypeDesc} {kenc : α → Value} (K : KeyEnc d kenc) {W : World} (hgd : o.guard = none) (x i y : Operand) {T kt et : TypeId} (ho : o.op = .mapUpdate T x i y ∨ o.op = .insert T x i y)
    (hT : P.underlying T = some (.map kt et)) (hk : P.underlying kt = some d) {b : Nat} {m : List (α × Value)} (hm : MapAt W b (kvs kenc m)) (k : α) (v : Value)
    (hx : a.eval x = .map (some b)) (hi : a.eval i = kenc k) (hy : a.eval y = v)
    (h : ∀ w1, MapAt w1 b (kvs kenc (putM m k v)) → W.grownBy w1 (some b) → wpList P ops Q rest (a.put o.dst undef) w1) : wpList P ops Q (o :: rest) a W := by
  obtain ⟨w1, hrun, h1, h2⟩ := run_update_at K hT hk hm k v
  refine wpList_plain hgd fun K' hK' => ?_
  unfold Oper.wp
  rcases ho with ho | ho <;>
  · simp [execOp, ho, hx, hi, hy, hrun, Result.andThen]
    exact hK' _ _ (h w1 h1 h2)
end

end Go.Proofs.YtcjmplpfebpfpaaGreatDoor

namespace Go.Proofs.YtcjmplpfebpfpaaGreatDoor
open Go.RowKit Go.Proofs Go.Proofs.YtcjmplpfebpfpaaGreatDoorW.PrintWords Go.Proofs.YtcjmplpfebpfpaaGreatDoorW.PrintLast Go.Proofs.YtcjmplpfebpfpaaGreatDoorW.PrintMore PKindInstances
set_option linter.unusedVariables false
set_option linter.unusedSimpArgs false

def textV (s : ByteArray) : Value := .string s
theorem keyText' : KeyEnc .string textV := keyText

def headsM : List (ByteArray × Value) :=
  [(⟨#[98, 105, 116, 115]⟩, .int .i64 1), (⟨#[115, 101, 113]⟩, .int .i64 1), (⟨#[115, 101, 116]⟩, .int .i64 1), (⟨#[98, 97, 103]⟩, .int .i64 1), (⟨#[109, 97, 121, 98, 101]⟩, .int .i64 1),
   (⟨#[109, 97, 112]⟩, .int .i64 2), (⟨#[105, 109, 97, 112]⟩, .int .i64 2), (⟨#[102, 117, 110]⟩, .int .i64 2)]

theorem below_grown1 {w W w1 : World} {b : Nat} (h : Below w.heap.size w W) (hg : W.grownBy w1 (some b)) (hb : w.heap.size ≤ b) : Below w.heap.size w w1 :=
  pw_below_grown h (some b) (below_size h) hg (fun k hk => by cases hk; exact hb)

set_option maxRecDepth 100000 in
theorem heads_any (w : World) : Calls Tryz.prog 87 #[] w fun e w' => ∃ b, e = .returned (.map (some b)) ∧ w.heap.size ≤ b ∧ MapAt w' b (kvs textV headsM) ∧ Below w.heap.size w w' := by
  have hu := Tryz.underlying132
  have hk := Tryz.underlying9
  go_enter Tryz.func87, Tryz.ntmps87
  go_wp2
  simp only [run_makeMap]
  have m0 : MapAt (w.alloc (.map #[] 0)) w.heap.size (kvs textV []) := MapAt.made w
  have B0 : Below w.heap.size w (w.alloc (.map #[] 0)) := by (repeat (first | assumption | exact Below.refl _ _ | apply below_alloc | apply pw_below_drewN | apply below_drew1))
  go_wp2_with (first | (refine law_update keyText' rfl _ _ _ (.inr rfl) hu hk (by assumption) _ _ rfl rfl rfl ?_; intro w1 m1 hg1; have B1 : Below w.heap.size w w1 := below_grown1 (by assumption) hg1 (Nat.le_refl _); clear hg1))
  have e8 : MapAt w1 w.heap.size (kvs textV headsM) := m1
  go_ret
  exact ⟨_, rfl, Nat.le_refl _, e8, B1⟩

/-- A word that is no name. -/
def resM (s : ByteArray) : Bool := (look headsM s).isSome || (s.toList == [105, 110, 116]) || (s.toList == [98, 111, 111, 108])

set_option maxRecDepth 100000 in
theorem reserved_any (s : ByteArray) (w : World) : Calls Tryz.prog 44 #[.string s] w fun e w' => e = .returned (.bool (resM s)) ∧ Below w.heap.size w w' := by
  have hu := Tryz.underlying132
  have hk := Tryz.underlying9
  obtain ⟨r, hR⟩ : ∃ r, r = resM s := ⟨_, rfl⟩
  rw [← hR]
  unfold resM at hR
  obtain ⟨v, hv⟩ : ∃ v, v = (look headsM s).getD (.int .i64 0) := ⟨_, rfl⟩
  cases hl : (look headsM s).isSome with
  | true =>
    rw [hl] at hR
    obtain rfl : r = true := by rw [hR]; rfl
    clear hR
    go_enter Tryz.func44, Tryz.ntmps44
    go_wp2_with fail
    refine (heads_any _).mono ?_
    rintro e w1 ⟨b, rfl, hb, hm, B⟩
    have hz : (zeroValue 3).run Tryz.prog w1 = .ok (.int .i64 0) w1 := by go_simp
    go_wp2_with (first | (refine law_lookup keyText' rfl _ _ true rfl hu hk hz hm s rfl rfl ?_; rw [hl, ← hv]))
    go_ret
    exact ⟨rfl, B⟩
  | false =>
    rw [hl] at hR
    cases hi : (s.toList == [105, 110, 116]) with
    | true =>
      rw [hi] at hR
      obtain rfl : r = true := by rw [hR]; rfl
      clear hR
      go_enter Tryz.func44, Tryz.ntmps44
      go_wp2_with fail
      refine (heads_any _).mono ?_
      rintro e w1 ⟨b, rfl, hb, hm, B⟩
      have hz : (zeroValue 3).run Tryz.prog w1 = .ok (.int .i64 0) w1 := by go_simp
      go_wp2_with (first | (refine law_lookup keyText' rfl _ _ true rfl hu hk hz hm s rfl rfl ?_; rw [hl, ← hv]))
      go_ret
      exact ⟨rfl, B⟩
    | false =>
      rw [hi] at hR
      obtain ⟨x, hx⟩ : ∃ x, x = (s.toList == [98, 111, 111, 108]) := ⟨_, rfl⟩
      rw [← hx] at hR
      obtain rfl : r = x := by rw [hR]; simp
      clear hR
      go_enter Tryz.func44, Tryz.ntmps44
      go_wp2_with fail
      refine (heads_any _).mono ?_
      rintro e w1 ⟨b, rfl, hb, hm, B⟩
      have hz : (zeroValue 3).run Tryz.prog w1 = .ok (.int .i64 0) w1 := by go_simp
      go_wp2_with (first | (refine law_lookup keyText' rfl _ _ true rfl hu hk hz hm s rfl rfl ?_; rw [hl, ← hv]))
      go_ret
      exact ⟨by simp [hi, hx], B⟩

end Go.Proofs.YtcjmplpfebpfpaaGreatDoor

namespace Go.Proofs.YtcjmplpfebpfpaaGreatDoor
open Go.RowKit Go.Proofs Go.Proofs.YtcjmplpfebpfpaaGreatDoorW.PrintWords Go.Proofs.YtcjmplpfebpfpaaGreatDoorW.PrintLast Go.Proofs.YtcjmplpfebpfpaaGreatDoorW.PrintMore PKindInstances
set_option linter.unusedVariables false
set_option linter.unusedSimpArgs false

mutual
/-- How many parts a form has. -/
def siz : S24 → Nat
  | ⟨_, _, s, l⟩ => 1 + s.size + sizs l
def sizs : List S24 → Nat
  | [] => 0
  | x :: l => siz x + sizs l
end
theorem sizs_len : ∀ l : List S24, l.length ≤ sizs l
  | [] => by simp [sizs]
  | x :: l => by have := sizs_len l; cases x; simp only [sizs, siz, List.length_cons]; omega

/-- The cells of a form in a row. -/
theorem row_at {w : World} {A : Option Addr} {n : Nat} {l : List S24} (h : Kd.C k24 w A n l) {i : Nat} (hi : i < n) {x : S24} (hx : l[i]? = some x) :
    ∃ ad A3 c3, A = some ad ∧ w.cell? (ad.add (i * 4)) = some (.int .i64 x.f0) ∧ w.cell? ⟨(ad.add (i * 4)).block, (ad.add (i * 4)).off + 1, none⟩ = some (.int .i64 x.f1) ∧
      w.cell? ⟨(ad.add (i * 4)).block, (ad.add (i * 4)).off + 2, none⟩ = some (.string x.f2) ∧ w.cell? ⟨(ad.add (i * 4)).block, (ad.add (i * 4)).off + 3, none⟩ = some (.slice A3 x.f3.length c3) ∧
      x.f3.length ≤ c3 ∧ k24.C w A3 x.f3.length x.f3 := by
  obtain ⟨ad, A3, c3, e, g0, g1, g2, g3, g4, g5⟩ := at_T24 h (i : Int) (by omega) (by omega)
  rw [rd_at hx] at g0 g1 g2 g3 g4 g5
  rw [Int.toNat_natCast] at g0 g1 g2 g3
  exact ⟨ad, A3, c3, e, g0, g1, g2, g3, g4, g5⟩

theorem size_new (w : World) (o : Obj) : (w.alloc o).heap.size = w.heap.size + 1 := Array.size_push ..
set_option maxRecDepth 100000 in
/-- What a form's own block holds later. -/
theorem box_at {w w1 : World} {a bb : Int} {s : ByteArray} {A : Option Addr} {m c : Nat} (h : Below (w.alloc (Obj.cells #[.int .i64 a, .int .i64 bb, .string s, .slice A m c] 24)).heap.size (w.alloc (Obj.cells #[.int .i64 a, .int .i64 bb, .string s, .slice A m c] 24)) w1) :
    w1.cell? ⟨w.heap.size, 0, none⟩ = some (.int .i64 a) ∧ w1.cell? ⟨w.heap.size, 1, none⟩ = some (.int .i64 bb) ∧ w1.cell? ⟨w.heap.size, 2, none⟩ = some (.string s) ∧ w1.cell? ⟨w.heap.size, 3, none⟩ = some (.slice A m c) := by
  refine ⟨pw_cell_below h ?_, pw_cell_below h ?_, pw_cell_below h ?_, pw_cell_below h ?_⟩ <;> go_simp

end Go.Proofs.YtcjmplpfebpfpaaGreatDoor

namespace Go.Proofs
open Go.Shelf
def Tryz.lays160_ren : Go.Shelf.Ren := ⟨fun | 160 => 178 | 232 => 184 | 231 => 183 | 227 => 185 | 234 => 187 | 233 => 186 | 236 => 189 | 235 => 188 | 228 => 193 | 271 => 196 | 151 => 195 | 197 => 194 | 120 => 200 | 152 => 199 | 260 => 198 | 137 => 179 | 119 => 201 | 224 => 202 | 225 => 203 | 217 => 190 | 266 => 197 | n => n, fun | 9 => 9 | 4 => 4 | 3 => 3 | 5 => 5 | 117 => 205 | 116 => 204 | 0 => 0 | 124 => 208 | 21 => 21 | 105 => 210 | 46 => 136 | 119 => 214 | 139 => 217 | 138 => 216 | n => n, fun | 3 => 1 | 4 => 2 | n => n⟩
theorem Tryz.lays160 : Go.Proofs.Lays.n160 Tryz.prog Tryz.lays160_ren := {
  mixed := by kernel_rfl
  f119 := Tryz.func201.trans (congrArg some (by kernel_rfl))
  f120 := Tryz.func200.trans (congrArg some (by kernel_rfl))
  f137 := Tryz.func179.trans (congrArg some (by kernel_rfl))
  f151 := Tryz.func195.trans (congrArg some (by kernel_rfl))
  f152 := Tryz.func199.trans (congrArg some (by kernel_rfl))
  f160 := Tryz.func178.trans (congrArg some (by kernel_rfl))
  f197 := Tryz.func194.trans (congrArg some (by kernel_rfl))
  f217 := Tryz.func190.trans (congrArg some (by kernel_rfl))
  f224 := Tryz.func202.trans (congrArg some (by kernel_rfl))
  f225 := Tryz.func203.trans (congrArg some (by kernel_rfl))
  f227 := Tryz.func185.trans (congrArg some (by kernel_rfl))
  f228 := Tryz.func193.trans (congrArg some (by kernel_rfl))
  f231 := Tryz.func183.trans (congrArg some (by kernel_rfl))
  f232 := Tryz.func184.trans (congrArg some (by kernel_rfl))
  f233 := Tryz.func186.trans (congrArg some (by kernel_rfl))
  f234 := Tryz.func187.trans (congrArg some (by kernel_rfl))
  f235 := Tryz.func188.trans (congrArg some (by kernel_rfl))
  f236 := Tryz.func189.trans (congrArg some (by kernel_rfl))
  f260 := Tryz.func198.trans (congrArg some (by kernel_rfl))
  f266 := Tryz.func197.trans (congrArg some (by kernel_rfl))
  f271 := Tryz.func196.trans (congrArg some (by kernel_rfl))
  t0 := Tryz.underlying0
  a0 := Tryz.isAgg0
  z0 := Tryz.sizeOf0
  v0 := Tryz.zeroValue0
  t3 := Tryz.underlying3
  a3 := Tryz.isAgg3
  z3 := Tryz.sizeOf3
  v3 := Tryz.zeroValue3
  t4 := Tryz.underlying4
  a4 := Tryz.isAgg4
  z4 := Tryz.sizeOf4
  v4 := Tryz.zeroValue4
  t5 := Tryz.underlying5
  a5 := Tryz.isAgg5
  z5 := Tryz.sizeOf5
  v5 := Tryz.zeroValue5
  t9 := Tryz.underlying9
  a9 := Tryz.isAgg9
  z9 := Tryz.sizeOf9
  v9 := Tryz.zeroValue9
  t21 := Tryz.underlying21
  a21 := Tryz.isAgg21
  z21 := Tryz.sizeOf21
  v21 := Tryz.zeroValue21
  t46 := Tryz.underlying136
  a46 := Tryz.isAgg136
  z46 := Tryz.sizeOf136
  v46 := Tryz.zeroValue136
  t105 := Tryz.underlying210
  a105 := Tryz.isAgg210
  z105 := Tryz.sizeOf210
  v105 := Tryz.zeroValue210
  t116 := Tryz.underlying204
  a116 := Tryz.isAgg204
  z116 := Tryz.sizeOf204
  t117 := Tryz.underlying205
  a117 := Tryz.isAgg205
  z117 := Tryz.sizeOf205
  v117 := Tryz.zeroValue205
  t119 := Tryz.underlying214
  a119 := Tryz.isAgg214
  z119 := Tryz.sizeOf214
  t124 := Tryz.underlying208
  a124 := Tryz.isAgg208
  z124 := Tryz.sizeOf208
  v124 := Tryz.zeroValue208
  t138 := Tryz.underlying216
  a138 := Tryz.isAgg216
  z138 := Tryz.sizeOf216
  v138 := Tryz.zeroValue216
  t139 := Tryz.underlying217
  a139 := Tryz.isAgg217
  z139 := Tryz.sizeOf217
  v139 := Tryz.zeroValue217
  g3 := by kernel_rfl
  g4 := by kernel_rfl }
def Tryz.lays137_ren : Go.Shelf.Ren := ⟨fun | 137 => 179 | 217 => 190 | 266 => 197 | n => n, fun | 9 => 9 | 5 => 5 | 3 => 3 | n => n, fun | n => n⟩
theorem Tryz.lays137 : Go.Proofs.Lays.n137 Tryz.prog Tryz.lays137_ren := {
  mixed := by kernel_rfl
  f137 := Tryz.func179.trans (congrArg some (by kernel_rfl))
  f217 := Tryz.func190.trans (congrArg some (by kernel_rfl))
  f266 := Tryz.func197.trans (congrArg some (by kernel_rfl))
  t3 := Tryz.underlying3
  a3 := Tryz.isAgg3
  z3 := Tryz.sizeOf3
  v3 := Tryz.zeroValue3
  t5 := Tryz.underlying5
  a5 := Tryz.isAgg5
  z5 := Tryz.sizeOf5
  v5 := Tryz.zeroValue5
  t9 := Tryz.underlying9
  a9 := Tryz.isAgg9
  z9 := Tryz.sizeOf9
  v9 := Tryz.zeroValue9 }
open Go.RowKit in
/-- strings.IndexByte: "IndexByte returns the index of the first instance of c in s, or -1 if c is not present in s.": IT RETURNS 'Lib.indexByte s c'; the world is as it was. (LAID: no walk: one application.) -/
theorem Tryz.strings_IndexByte (s : ByteArray) (c : Int) (w : World) :
    Calls Tryz.prog 179 #[.string s, .int .u8 c] w fun e w' => e = .returned (.int .i64 (Lib.indexByte s.data.toList c.toNat.toUInt8)) ∧ w' = w := Any.strings_IndexByte Tryz.lays137 s c w
def Tryz.lays122_ren : Go.Shelf.Ren := ⟨fun | 122 => 154 | 215 => 173 | n => n, fun | 3 => 3 | 4 => 4 | n => n, fun | n => n⟩
theorem Tryz.lays122 : Go.Proofs.Lays.n122 Tryz.prog Tryz.lays122_ren := {
  mixed := by kernel_rfl
  f122 := Tryz.func154.trans (congrArg some (by kernel_rfl))
  f215 := Tryz.func173.trans (congrArg some (by kernel_rfl))
  t3 := Tryz.underlying3
  a3 := Tryz.isAgg3
  z3 := Tryz.sizeOf3
  v3 := Tryz.zeroValue3
  t4 := Tryz.underlying4
  a4 := Tryz.isAgg4
  z4 := Tryz.sizeOf4
  v4 := Tryz.zeroValue4 }
open Go.RowKit in
/-- cmp.Compare at int: "Compare returns -1 if x is less than y, 0 if x equals y, +1 if x is greater than y.": IT RETURNS 'Lib.compareInt x y'; the world is as it was. (LAID: no walk: one application.) -/
theorem Tryz.cmp_Compare_int (x y : Int) (w : World) :
    Calls Tryz.prog 154 #[.int .i64 x, .int .i64 y] w fun e w' => e = .returned (.int .i64 (Lib.compareInt x y)) ∧ w' = w := Any.cmp_Compare_int Tryz.lays122 x y w
def Tryz.laysGw17_ren : Go.Shelf.Ren := ⟨fun | 17 => 170 | 15 => 180 | 20 => 191 | n => n, fun | 9 => 9 | 23 => 189 | 4 => 4 | 3 => 3 | 0 => 0 | 21 => 21 | n => n, fun | n => n⟩
theorem Tryz.laysGw17 : Go.Proofs.LaysGw.n17 Tryz.prog Tryz.laysGw17_ren := {
  mixed := by kernel_rfl
  f15 := Tryz.func180.trans (congrArg some (by kernel_rfl))
  f17 := Tryz.func170.trans (congrArg some (by kernel_rfl))
  f20 := Tryz.func191.trans (congrArg some (by kernel_rfl))
  t0 := Tryz.underlying0
  a0 := Tryz.isAgg0
  z0 := Tryz.sizeOf0
  v0 := Tryz.zeroValue0
  i0 := by kernel_rfl
  t3 := Tryz.underlying3
  a3 := Tryz.isAgg3
  z3 := Tryz.sizeOf3
  v3 := Tryz.zeroValue3
  i3 := by kernel_rfl
  t4 := Tryz.underlying4
  a4 := Tryz.isAgg4
  z4 := Tryz.sizeOf4
  v4 := Tryz.zeroValue4
  i4 := by kernel_rfl
  t9 := Tryz.underlying9
  a9 := Tryz.isAgg9
  z9 := Tryz.sizeOf9
  v9 := Tryz.zeroValue9
  i9 := by kernel_rfl
  t21 := Tryz.underlying21
  a21 := Tryz.isAgg21
  z21 := Tryz.sizeOf21
  v21 := Tryz.zeroValue21
  i21 := by kernel_rfl
  t23 := Tryz.underlying189
  a23 := Tryz.isAgg189
  z23 := Tryz.sizeOf189
  v23 := Tryz.zeroValue189
  i23 := by kernel_rfl }
open Go.RowKit Go.Lib in
theorem Tryz.strings_ContainsFunc_runes (g : Nat) (lb : Array Value) (eg : ∀ args w, (callFunc g args).run Tryz.prog w = .ok (.enter g args) w) (p : Nat → Bool) (s : ByteArray) (w : World) (hp : PredAtRunes Tryz.prog g lb p w) :
    Calls Tryz.prog 170 #[.string s, .func (.func g) #[] lb] w fun e w' => e = .returned (.bool (decide (0 ≤ Lib.idxFunc p true s))) ∧ Below w.heap.size w w' := Any.strings_ContainsFunc_runes Tryz.laysGw17 g lb eg p s w hp
def Tryz.lays101_ren : Go.Shelf.Ren := ⟨fun | 101 => 177 | 208 => 182 | 206 => 192 | n => n, fun | 9 => 9 | 4 => 4 | 3 => 3 | n => n, fun | n => n⟩
theorem Tryz.lays101 : Go.Proofs.Lays.n101 Tryz.prog Tryz.lays101_ren := {
  mixed := by kernel_rfl
  f101 := Tryz.func177.trans (congrArg some (by kernel_rfl))
  f206 := Tryz.func192.trans (congrArg some (by kernel_rfl))
  f208 := Tryz.func182.trans (congrArg some (by kernel_rfl))
  t3 := Tryz.underlying3
  a3 := Tryz.isAgg3
  z3 := Tryz.sizeOf3
  v3 := Tryz.zeroValue3
  t4 := Tryz.underlying4
  a4 := Tryz.isAgg4
  z4 := Tryz.sizeOf4
  v4 := Tryz.zeroValue4
  t9 := Tryz.underlying9
  a9 := Tryz.isAgg9
  z9 := Tryz.sizeOf9
  v9 := Tryz.zeroValue9 }
open Go.RowKit Go.Lib in
/-- strings.TrimPrefix: "TrimPrefix returns s without the provided leading prefix string. If s doesn't start with prefix, s is returned unchanged.": IT RETURNS 'Lib.trimPrefix s prefix'; the world is as it was. (LAID: no walk: one application.) -/
theorem Tryz.strings_TrimPrefix (s p : ByteArray) (w : World) :
    Calls Tryz.prog 177 #[.string s, .string p] w fun e w' => e = .returned (.string ⟨(Lib.trimPrefix s.data.toList p.data.toList).toArray⟩) ∧ w' = w := Any.strings_TrimPrefix Tryz.lays101 s p w
end Go.Proofs

namespace Go.Proofs.YtcjmplpfebpfpaaGreatDoor
open Go.RowKit Go.Proofs Go.Proofs.YtcjmplpfebpfpaaGreatDoorW.PrintWords Go.Proofs.YtcjmplpfebpfpaaGreatDoorW.PrintLast Go.Proofs.YtcjmplpfebpfpaaGreatDoorW.PrintMore PKindInstances
set_option linter.unusedVariables false
set_option linter.unusedSimpArgs false

def digitsB : List UInt8 := [48, 49, 50, 51, 52, 53, 54, 55, 56, 57]
def cutMinus (s : ByteArray) : List UInt8 := Lib.trimPrefix s.data.toList [45]
/-- Whether a text is digits, or - and digits. -/
def numM (s : ByteArray) : Bool := !(cutMinus s == []) && (Lib.trimS (cutMinus s) digitsB == [])

theorem trim_any (s : ByteArray) (w : World) (hs : s.size ≤ 9223372036854775807) :
    Calls Tryz.prog 178 #[.string s, .string ⟨#[48, 49, 50, 51, 52, 53, 54, 55, 56, 57]⟩] w fun e w' => e = .returned (.string ⟨(Lib.trimS s.data.toList digitsB).toArray⟩) ∧ Below w.heap.size w w' :=
  Any.strings_Trim_laid Tryz.lays160 (by kernel_rfl) s _ w hs (by decide) (ascii_of_all (by decide))

theorem bytes_toList (l : List UInt8) : (ByteArray.mk l.toArray).toList = l := by rw [ByteArray.toList_eq]
set_option maxRecDepth 100000 in
theorem numeric_any (s : ByteArray) (w : World) (hs : s.size ≤ 1000) : Calls Tryz.prog 167 #[.string s] w fun e w' => e = .returned (.bool (numM s)) ∧ Below w.heap.size w w' := by
  obtain ⟨t, ht⟩ : ∃ t, t = cutMinus s := ⟨_, rfl⟩
  have hl : t.length ≤ 1000 := by
    rw [ht]
    have := Lib.trimPrefix_le s.data.toList [45]
    rw [Lib.size_eq] at hs
    unfold cutMinus
    omega
  have hsz : (ByteArray.mk t.toArray).size ≤ 9223372036854775807 := by
    rw [Lib.size_eq]; simp; omega
  have e0 : numM s = (!(t == []) && (Lib.trimS t digitsB == [])) := by rw [ht]; rfl
  rw [e0]
  have PT : Hid (∀ w, Calls Tryz.prog 177 #[.string s, .string ⟨#[45]⟩] w fun e w' => e = .returned (.string ⟨t.toArray⟩) ∧ w = w') := by
    intro w
    refine (Tryz.strings_TrimPrefix s ⟨#[45]⟩ w).mono ?_
    rintro e w' ⟨rfl, rfl⟩
    exact ⟨by rw [ht]; rfl, rfl⟩
  have q1 := bytes_toList t
  clear ht e0
  cases t with
  | nil =>
    go_enter Tryz.func167, Tryz.ntmps167
    go_wp2_with fail
    refine (PT.out _).mono ?_
    rintro e w1 ⟨rfl, rfl⟩
    go_wp2_with fail
    go_ret
    exact ⟨rfl, Below.refl _ _⟩
  | cons c t =>
    have q2 : ((ByteArray.mk (c :: t).toArray).toList == ([] : List UInt8)) = false := by rw [q1]; rfl
    obtain ⟨v, hv⟩ : ∃ v, v = Lib.trimS (c :: t) digitsB := ⟨_, rfl⟩
    have TT : Hid (∀ w, Calls Tryz.prog 178 #[.string ⟨(c :: t).toArray⟩, .string ⟨#[48, 49, 50, 51, 52, 53, 54, 55, 56, 57]⟩] w fun e w' => e = .returned (.string ⟨v.toArray⟩) ∧ Below w.heap.size w w') := by
      rw [hv]; exact fun w => trim_any _ w hsz
    rw [← hv]
    have q3 := bytes_toList v
    clear hv hsz
    generalize hB : ByteArray.mk (c :: t).toArray = B at *
    go_enter Tryz.func167, Tryz.ntmps167
    go_wp2_with fail
    refine (PT.out _).mono ?_
    rintro e w1 ⟨rfl, rfl⟩
    go_wp2_with fail
    refine (TT.out _).mono ?_
    rintro e w1 ⟨rfl, B1⟩
    go_wp2_with fail
    go_ret
    exact ⟨by simp [q3], B1⟩

/-- Whether a byte ends a word. -/
def outM (c : Int) : Bool := decide (c < 33) || (decide (126 < c) || decide (0 ≤ Lib.indexByte [40, 41, 34, 59] c.toNat.toUInt8))

set_option maxRecDepth 100000 in
theorem outside_any (c : Int) (w : World) : Calls Tryz.prog 168 #[.int .u8 c] w fun e w' => e = .returned (.bool (outM c)) ∧ Below w.heap.size w w' := by
  by_cases h1 : c < 33
  · have q1 : decide (c < 33) = true := decide_eq_true h1
    have e1 : outM c = true := by simp [outM, h1]
    rw [e1]
    clear h1 e1
    go_enter Tryz.func168, Tryz.ntmps168
    go_wp2_with fail
    go_ret
    exact ⟨rfl, Below.refl _ _⟩
  · have q1 : decide (c < 33) = false := decide_eq_false h1
    by_cases h2 : 126 < c
    · have q2 : decide (126 < c) = true := decide_eq_true h2
      have e1 : outM c = true := by simp [outM, h2]
      rw [e1]
      clear h1 h2 e1
      go_enter Tryz.func168, Tryz.ntmps168
      go_wp2_with fail
      go_ret
      exact ⟨rfl, Below.refl _ _⟩
    · have q2 : decide (126 < c) = false := decide_eq_false h2
      obtain ⟨v, hv⟩ : ∃ v, v = Lib.indexByte [40, 41, 34, 59] c.toNat.toUInt8 := ⟨_, rfl⟩
      have e1 : outM c = decide (0 ≤ v) := by simp only [outM, q1, q2, hv, Bool.false_or]
      have PT : Hid (∀ w, Calls Tryz.prog 179 #[.string ⟨#[40, 41, 34, 59]⟩, .int .u8 c] w fun e w' => e = .returned (.int .i64 v) ∧ w = w') := by
        intro w
        refine (Tryz.strings_IndexByte ⟨#[40, 41, 34, 59]⟩ c w).mono ?_
        rintro e w' ⟨rfl, rfl⟩
        exact ⟨by rw [hv], rfl⟩
      rw [e1]
      clear h1 h2 e1 hv
      go_enter Tryz.func168, Tryz.ntmps168
      go_wp2_with fail
      refine (PT.out _).mono ?_
      rintro e w1 ⟨rfl, rfl⟩
      go_wp2_with fail
      go_ret
      exact ⟨rfl, Below.refl _ _⟩

/-- A list's own fields. -/
theorem leaf_list (b : Int) (s : ByteArray) (A : Option Addr) (n c : Nat) (w : World) :
    Calls Tryz.prog 146 #[formV 3 b s A n c] w fun e w' => e = .returned (.bool ((s.toList == []) && (b == 0))) ∧ Below w.heap.size w w' := by
  have hu24 := Tryz.underlying24
  cases h : (s.toList == []) with
  | false =>
    go_enter Tryz.func146, Tryz.ntmps146
    go_wp2_with fail
    go_ret
    exact ⟨rfl, by (repeat (first | assumption | exact Below.refl _ _ | apply below_alloc | apply pw_below_drewN | apply below_drew1))⟩
  | true =>
    go_enter Tryz.func146, Tryz.ntmps146
    go_wp2_with fail
    go_ret
    exact ⟨rfl, by (repeat (first | assumption | exact Below.refl _ _ | apply below_alloc | apply pw_below_drewN | apply below_drew1))⟩

def bytesI (s : ByteArray) : List Int := s.data.toList.map fun b => (b.toNat : Int)
/-- Whether a text may be a word's. -/
def wordM (s : ByteArray) : Bool := (!(s.toList == []) && (decide (s.size ≤ 30) && !numM s)) && (bytesI s).all fun c => !outM c

/-- What holds of the loop over a word's bytes. -/
def LeafRel (w : World) (s : ByteArray) (T : Bool) (k : Nat) (x3 x4 : Value) (wr : World) : Prop :=
  ∃ (i : Nat) (g : Bool), x3 = .bool g ∧ x4 = .int .i64 (i : Int) ∧ k + i = s.size ∧ Below w.heap.size w wr ∧ (g && ((bytesI s).drop i).all fun c => !outM c) = T

set_option maxRecDepth 100000 in
set_option maxHeartbeats 2000000 in
/-- A word's own fields. -/
theorem leaf_word (b : Int) (s : ByteArray) (A : Option Addr) (n c : Nat) (w : World) (hs : s.size ≤ 30) (hne : (s.toList == []) = false) :
    Calls Tryz.prog 146 #[formV 1 b s A n c] w fun e w' => e = .returned (.bool (wordM s && (b == 0) && ((n : Int) == 0))) ∧ Below w.heap.size w w' := by
  have hu24 := Tryz.underlying24
  obtain ⟨T, hT⟩ : ∃ T, T = wordM s := ⟨_, rfl⟩
  rw [← hT]
  have hT2 : T = (!numM s && (bytesI s).all fun c => !outM c) := by
    rw [hT]; unfold wordM; rw [hne]; simp [hs]
  have hs2 : decide (s.size ≤ 30) = true := decide_eq_true hs
  obtain ⟨g, hg⟩ : ∃ g, g = numM s := ⟨_, rfl⟩
  have NA : Hid (∀ w, Calls Tryz.prog 167 #[.string s] w fun e w' => e = .returned (.bool g) ∧ Below w.heap.size w w') := by
    rw [hg]; exact fun w => numeric_any s w (by omega)
  rw [← hg] at hT2
  have start : Hid (∀ w : World, LeafRel w s T s.size (.bool (!g)) (.int .i64 ((0 : Nat) : Int)) w) := fun w => ⟨0, !g, rfl, rfl, rfl, Below.refl _ _, by rw [hT2]; rfl⟩
  clear hT hT2 hg
  go_enter Tryz.func146, Tryz.ntmps146
  go_wp2_with fail
  refine (NA.out _).mono ?_
  rintro e w1 ⟨rfl, B1⟩
  obtain ⟨q0, q1, q2, q3⟩ := box_at B1
  have B2 : Below w.heap.size w w1 := below_after (by (repeat (first | assumption | exact Below.refl _ _ | apply below_alloc | apply pw_below_drewN | apply below_drew1))) B1
  have BH : Hid _ := B2
  clear B1 B2
  go_wp2_with fail
  go_loopg [3, 4] s.size (fun k x3 x4 wr => LeafRel w1 s T k x3 x4 wr)
  case atStart => exact start.out w1
  case round =>
    clear start
    obtain ⟨i, g2, rfl, rfl, hki, B, hV⟩ := hrel
    have p0 := pw_cell_below B q0
    have p1 := pw_cell_below B q1
    have p2 := pw_cell_below B q2
    have p3 := pw_cell_below B q3
    by_cases hlt : i < s.size
    · obtain ⟨m, rfl⟩ : ∃ m, gk = m + 1 := ⟨gk - 1, by omega⟩
      have e1 : decide (i < s.size) = true := decide_eq_true hlt
      cases g2 with
      | false =>
        have hT : T = false := by rw [← hV]; rfl
        subst hT
        have B9 : Below w.heap.size w wr := below_after BH.out B
        clear hV
        go_wp2_with fail
        go_ret
        exact ⟨by simp, B9⟩
      | true =>
        have hd : (bytesI s).drop i = ((s[i]'hlt).toNat : Int) :: (bytesI s).drop (i + 1) := by
          have hl : i < (bytesI s).length := by simpa [bytesI] using hlt
          rw [List.drop_eq_getElem_cons hl]
          congr 1
          simp [bytesI]; rfl
        rw [hd] at hV
        have B9 : Hid _ := B
        clear B hd
        go_wp2_with fail
        refine (outside_any _ _).mono ?_
        rintro e w2 ⟨rfl, B2⟩
        obtain ⟨o, ho⟩ : ∃ o, o = outM ((s[i]'hlt).toNat : Int) := ⟨_, rfl⟩
        rw [← ho]
        have hV2 : ((!o) && ((bytesI s).drop (i + 1)).all fun c => !outM c) = T := by rw [← hV, ho]; simp
        have B3 : Below w1.heap.size w1 w2 := below_after B9.out B2
        replace p0 := pw_cell_below B2 p0
        replace p1 := pw_cell_below B2 p1
        replace p2 := pw_cell_below B2 p2
        replace p3 := pw_cell_below B2 p3
        have BH3 : Hid _ := B3
        clear hV ho B2 B3
        go_wp2_with fail
        go_roundg m
        case measure => omega
        case rel => exact ⟨i + 1, !o, rfl, by go_num, by omega, BH3.out, hV2⟩
    · have hge : decide (i < s.size) = false := decide_eq_false (by omega)
      have hge2 : s.size ≤ i := by omega
      have hnil : (bytesI s).drop i = [] := List.drop_eq_nil_of_le (by simpa [bytesI] using hge2)
      rw [hnil] at hV
      have hT : g2 = T := by rw [← hV]; simp
      subst hT
      have B9 : Below w.heap.size w wr := below_after BH.out B
      clear hnil hV hlt B
      cases g2 with
      | false =>
        go_wp2_with fail
        go_ret
        exact ⟨by simp, B9⟩
      | true =>
        cases hb : (b == 0) with
        | false =>
          go_wp2_with fail
          go_ret
          exact ⟨by rw [hb]; rfl, B9⟩
        | true =>
          cases hn : ((n : Int) == 0) with
          | false =>
            go_wp2_with fail
            go_ret
            exact ⟨by rw [hb, hn]; rfl, B9⟩
          | true =>
            go_wp2_with fail
            go_ret
            exact ⟨by rw [hb, hn]; rfl, B9⟩

end Go.Proofs.YtcjmplpfebpfpaaGreatDoor

namespace Go.Proofs.YtcjmplpfebpfpaaGreatDoor
open Go.RowKit Go.Proofs Go.Proofs.YtcjmplpfebpfpaaGreatDoorW.PrintWords Go.Proofs.YtcjmplpfebpfpaaGreatDoorW.PrintLast Go.Proofs.YtcjmplpfebpfpaaGreatDoorW.PrintMore PKindInstances
set_option linter.unusedVariables false
set_option linter.unusedSimpArgs false

mutual
/-- How wide a form is: its texts, its rows. -/
def wid : S24 → Nat
  | ⟨_, _, s, l⟩ => max (s.size + 1) (wids l)
def wids : List S24 → Nat
  | [] => 0
  | x :: l => max (l.length + 1) (max (wid x) (wids l))
end
theorem wids_len : ∀ l : List S24, l.length ≤ wids l
  | [] => by simp [wids]
  | x :: l => by simp only [wids, List.length_cons]; omega
theorem wid_kids (x : S24) : wids x.f3 ≤ wid x := by
  obtain ⟨a, b, s, l⟩ := x
  simp only [wid]
  omega

def isFunW (s : ByteArray) : Bool := s.toList == [102, 117, 110]

theorem Head_any (a b : Int) (s : ByteArray) {A : Option Addr} {l : List S24} (c : Nat) (w : World) (hr : Kd.C k24 w A l.length l) :
    Calls Tryz.prog 79 #[formV a b s A l.length c] w fun e w' => e = .returned (.string (headOf a l)) ∧ Below w.heap.size w w' := by
  by_cases ha : a = 3
  · subst ha
    have e1 : headOf 3 l = headL l := by simp [headOf]
    rw [e1]
    exact Head_three b s c w hr
  · have e1 : headOf a l = ⟨#[]⟩ := by simp [headOf, ha]
    rw [e1]
    exact Head_other ha b s A l.length c w

theorem typesL_mem {a : Int} {l : List S24} {bare : Bool} {x : S24} (h : x ∈ typesL a l bare) : x ∈ l := by
  unfold typesL at h
  split at h
  · split at h
    · exact h
    · split at h
      · exact List.mem_cons_of_mem _ h
      · exact h
  · exact absurd h List.not_mem_nil
theorem typesL_len (a : Int) (l : List S24) (bare : Bool) : (typesL a l bare).length ≤ l.length := by
  unfold typesL
  split
  · split
    · simp
    · split <;> simp
  · simp
theorem wid_mem : ∀ {l : List S24} {x : S24}, x ∈ l → wid x ≤ wids l
  | [], x, h => absurd h List.not_mem_nil
  | y :: l, x, h => by
    rcases List.mem_cons.1 h with h | h
    · rw [h]; simp only [wids]; omega
    · have := wid_mem h; simp only [wids]; omega

end Go.Proofs.YtcjmplpfebpfpaaGreatDoor

namespace Go.Proofs.YtcjmplpfebpfpaaGreatDoor
open Go.RowKit Go.Proofs Go.Proofs.YtcjmplpfebpfpaaGreatDoorW.PrintWords Go.Proofs.YtcjmplpfebpfpaaGreatDoorW.PrintLast Go.Proofs.YtcjmplpfebpfpaaGreatDoorW.PrintMore PKindInstances
set_option linter.unusedVariables false
set_option linter.unusedSimpArgs false

def textM (s : ByteArray) : Bool := decide (s.size ≤ 2000) && (bytesI s).all fun c => c == 10 || (decide (32 ≤ c) && decide (c ≤ 126))
/-- Whether a form's own fields are as they must be. -/
def leafM (x : S24) : Bool :=
  if x.f0 = 0 then (x.f2.toList == []) && ((x.f3.length : Int) == 0) && (decide (-1152921504606846976 ≤ x.f1) && decide (x.f1 ≤ 1152921504606846976)) else
  if x.f0 = 1 then wordM x.f2 && (x.f1 == 0) && ((x.f3.length : Int) == 0) else
  if x.f0 = 2 then textM x.f2 && (x.f1 == 0) && ((x.f3.length : Int) == 0) else
  if x.f0 = 3 then (x.f2.toList == []) && (x.f1 == 0) else false
/-- What the call on a form's own fields does. -/
def LeafC (x : S24) : Prop :=
  ∀ (A : Option Addr) (c : Nat) (w : World), Calls Tryz.prog 146 #[formV x.f0 x.f1 x.f2 A x.f3.length c] w fun e w' => e = .returned (.bool (leafM x)) ∧ Below w.heap.size w w'

mutual
/-- Whether a form is valid, with so many parts and levels left; the parts left behind. -/
def validM : S24 → Int → Int → Bool × Int
  | ⟨a, b, s, l⟩, n, d => if decide (n - 1 < 0) || (d == 0) || !(leafM ⟨a, b, s, l⟩) then (false, n - 1) else validL l (n - 1) (d - 1)
def validL : List S24 → Int → Int → Bool × Int
  | [], n, _ => (true, n)
  | x :: l, n, d => if (validM x n d).1 then validL l (validM x n d).2 d else (false, (validM x n d).2)
end
mutual
def allC : S24 → Prop
  | ⟨a, b, s, l⟩ => LeafC ⟨a, b, s, l⟩ ∧ allCs l
def allCs : List S24 → Prop
  | [] => True
  | x :: l => allC x ∧ allCs l
end

def ValidOk (x : S24) : Prop :=
  ∀ (W0 : World) (A : Option Addr) (c : Nat) (w : World) (pb : Nat) (n d : Int), Kd.C k24 W0 A x.f3.length x.f3 → x.f3.length ≤ c → Below W0.heap.size W0 w → W0.heap.size ≤ pb →
    w.heap[pb]? = some (.cells #[.int .i64 n] 3 (0, 0)) → 0 ≤ n → n ≤ 20000 → 0 ≤ d → d ≤ 100 → allC x → wid x < 9000000 →
    Calls Tryz.prog 116 #[formV x.f0 x.f1 x.f2 A x.f3.length c, .pointer (some ⟨pb, 0, none⟩), .int .i64 d] w fun e w' => e = .returned (.bool (validM x n d).1) ∧
      w'.heap[pb]? = some (.cells #[.int .i64 (validM x n d).2] 3 (0, 0)) ∧ Below W0.heap.size W0 w'

mutual
theorem validM_bd : ∀ (x : S24) (n d : Int), 0 ≤ n → (validM x n d).1 = true → 0 ≤ (validM x n d).2 ∧ (validM x n d).2 ≤ n
  | ⟨a, b, s, l⟩, n, d, hn, h => by
    simp only [validM] at h ⊢
    split at h
    · cases h
    · rename_i hc
      rw [if_neg hc]
      have h1 : decide (n - 1 < 0) = false := by
        cases hh : decide (n - 1 < 0) with
        | false => rfl
        | true => simp [hh] at hc
      have h2 : ¬ (n - 1 < 0) := of_decide_eq_false h1
      have := validL_bd l (n - 1) (d - 1) (by omega) h
      omega
theorem validL_bd : ∀ (l : List S24) (n d : Int), 0 ≤ n → (validL l n d).1 = true → 0 ≤ (validL l n d).2 ∧ (validL l n d).2 ≤ n
  | [], n, d, hn, h => by simp only [validL]; omega
  | x :: l, n, d, hn, h => by
    simp only [validL] at h ⊢
    split at h
    · rename_i hc
      rw [if_pos hc]
      have h1 := validM_bd x n d hn hc
      have h2 := validL_bd l _ d h1.1 h
      omega
    · cases h
end

theorem allCs_mem : ∀ {l : List S24} {x : S24}, allCs l → x ∈ l → allC x
  | [], x, _, h => absurd h List.not_mem_nil
  | y :: l, x, hl, h => by
    simp only [allCs] at hl
    rcases List.mem_cons.1 h with h | h
    · rw [h]; exact hl.1
    · exact allCs_mem hl.2 h

/-- What holds of the loop. -/
def ValRel (W0 : World) (pb : Nat) (l : List S24) (d : Int) (R : Bool × Int) (k : Nat) (x30 : Value) (wr : World) : Prop :=
  ∃ (i : Nat) (m : Int), x30 = .int .i64 (i : Int) ∧ k + i = l.length ∧ wr.heap[pb]? = some (.cells #[.int .i64 m] 3 (0, 0)) ∧ 0 ≤ m ∧ m ≤ 20000 ∧ Below W0.heap.size W0 wr ∧ validL (l.drop i) m d = R

theorem cells_set {w : World} {pb : Nat} {n v : Value} (hp : w.heap[pb]? = some (.cells #[n] 3 (0, 0))) : (w.setCell ⟨pb, 0, none⟩ v).heap[pb]? = some (.cells #[v] 3 (0, 0)) := by
  have hlt : pb < w.heap.size := (Array.getElem?_eq_some_iff.1 hp).1
  exact heap_setCell_same w pb 0 #[n] 3 v hp

set_option maxRecDepth 100000 in
set_option maxHeartbeats 4000000 in
theorem valid_x (W0 : World) (a bb : Int) (s : ByteArray) (l : List S24) (A : Option Addr) (c : Nat) (w : World) (pb : Nat) (n d : Int) (hr : Kd.C k24 W0 A l.length l) (hc : l.length ≤ c) (hw : Below W0.heap.size W0 w) (hpb : W0.heap.size ≤ pb)
    (hp : w.heap[pb]? = some (.cells #[.int .i64 n] 3 (0, 0))) (hn0 : 0 ≤ n) (hn1 : n ≤ 20000) (hd0 : 0 ≤ d) (hd1 : d ≤ 100) (hleaf : LeafC ⟨a, bb, s, l⟩) (hq : ∀ x ∈ l, ValidOk x ∧ allC x ∧ wid x < 9000000) (hbig : l.length < 9000000) :
    Calls Tryz.prog 116 #[formV a bb s A l.length c, .pointer (some ⟨pb, 0, none⟩), .int .i64 d] w fun e w' => e = .returned (.bool (validM ⟨a, bb, s, l⟩ n d).1) ∧
      w'.heap[pb]? = some (.cells #[.int .i64 (validM ⟨a, bb, s, l⟩ n d).2] 3 (0, 0)) ∧ Below W0.heap.size W0 w' := by
  have hu24 := Tryz.underlying24
  have hcell0 : w.cell? ⟨pb, 0, none⟩ = some (.int .i64 n) := by simp [World.cell?, hp]
  have hcell := pw_cell_below (below_alloc (Below.refl _ _) (Obj.cells #[.int .i64 a, .int .i64 bb, .string s, .slice A l.length c] 24)) hcell0
  have hfz : w.frozen? ⟨pb, 0, none⟩ = false := by simp [World.frozen?, hp]
  have hlt : pb < w.heap.size := (Array.getElem?_eq_some_iff.1 hp).1
  have hX : ((w.setCell ⟨pb, 0, none⟩ (.int .i64 (n - 1))).alloc (Obj.cells #[.int .i64 a, .int .i64 bb, .string s, .slice A l.length c] 24)).heap[pb]? = some (.cells #[.int .i64 (n - 1)] 3 (0, 0)) := (Below.heap_alloc _ _ pb (Array.getElem?_eq_some_iff.1 (cells_set (v := .int .i64 (n - 1)) hp)).1).trans (cells_set hp)
  have BX : Below W0.heap.size W0 ((w.setCell ⟨pb, 0, none⟩ (.int .i64 (n - 1))).alloc (Obj.cells #[.int .i64 a, .int .i64 bb, .string s, .slice A l.length c] 24)) := below_alloc (hw.setCell hpb _) _
  have SZ : (w.setCell ⟨pb, 0, none⟩ (.int .i64 (n - 1))).heap.size = w.heap.size := by simp [World.setCell]
  have HX : Hid _ := hX
  have HB : Hid _ := BX
  have HR : Hid _ := hr
  have HL : Hid _ := hleaf
  have HQ : Hid _ := hq
  clear hX BX hr hleaf hq hw
  obtain ⟨R, hR⟩ : ∃ R, R = validM ⟨a, bb, s, l⟩ n d := ⟨_, rfl⟩
  rw [← hR]
  simp only [validM] at hR
  by_cases hn : n - 1 < 0
  · have b1 : decide (n - 1 < 0) = true := decide_eq_true hn
    rw [b1] at hR
    simp only [Bool.true_or, if_true] at hR
    subst hR
    clear hn
    go_enter Tryz.func116, Tryz.ntmps116
    go_wp2_with fail
    go_ret
    exact ⟨rfl, HX.out, HB.out⟩
  · have b1 : decide (n - 1 < 0) = false := decide_eq_false hn
    rw [b1] at hR
    by_cases hd : d = 0
    · have b2 : (d == 0) = true := beq_iff_eq.mpr hd
      rw [b2] at hR
      simp only [Bool.true_or, Bool.or_true, if_true] at hR
      subst hR
      subst hd
      clear hn
      go_enter Tryz.func116, Tryz.ntmps116
      go_wp2_with fail
      go_ret
      exact ⟨rfl, HX.out, HB.out⟩
    · have b2 : (d == 0) = false := beq_eq_false_iff_ne.mpr hd
      rw [b2] at hR
      clear hn
      cases hlf : leafM ⟨a, bb, s, l⟩ with
      | false =>
        rw [hlf] at hR
        simp only [Bool.false_or, Bool.not_false, if_true] at hR
        subst hR
        go_enter Tryz.func116, Tryz.ntmps116
        go_wp2_with fail
        refine (HL.out A c _).mono ?_
        rintro e w1 ⟨rfl, B1⟩
        rw [hlf]
        have h1 : w1.heap[pb]? = some (.cells #[.int .i64 (n - 1)] 3 (0, 0)) := (B1.block pb (Array.getElem?_eq_some_iff.1 HX.out).1).trans HX.out
        have B2 : Below W0.heap.size W0 w1 := HB.out.trans (B1.mono HB.out.size)
        have H1 : Hid _ := h1
        have H2 : Hid _ := B2
        clear h1 B2 B1
        go_wp2_with fail
        go_ret
        exact ⟨rfl, H1.out, H2.out⟩
      | true =>
        rw [hlf] at hR
        simp only [Bool.false_or, Bool.not_true, Bool.false_eq_true, if_false] at hR
        go_enter Tryz.func116, Tryz.ntmps116
        go_wp2_with fail
        refine (HL.out A c _).mono ?_
        rintro e w1 ⟨rfl, B1⟩
        rw [hlf]
        have h1 : w1.heap[pb]? = some (.cells #[.int .i64 (n - 1)] 3 (0, 0)) := (B1.block pb (Array.getElem?_eq_some_iff.1 HX.out).1).trans HX.out
        have B2 : Below W0.heap.size W0 w1 := HB.out.trans (B1.mono HB.out.size)
        obtain ⟨x0, x1, x2, x3⟩ := box_at B1
        rw [SZ] at x0 x1 x2 x3
        have hd1' : 1 ≤ d := by omega
        have start : Hid (ValRel W0 pb l (d - 1) R l.length (.int .i64 ((0 : Nat) : Int)) w1) := ⟨0, n - 1, rfl, rfl, h1, by have := of_decide_eq_false b1; omega, by omega, B2, hR.symm⟩
        clear h1 B2 B1 hR
        go_wp2_with fail
        go_loopg [30] l.length (fun k x30 wr => ValRel W0 pb l (d - 1) R k x30 wr)
        case atStart => exact start.out
        case round =>
          clear start
          obtain ⟨i, m, rfl, hki, hm, hm0, hm1, B, hV⟩ := hrel
          by_cases hli : i < l.length
          · obtain ⟨g, rfl⟩ : ∃ g, gk = g + 1 := ⟨gk - 1, by omega⟩
            have e1 : decide (i < l.length) = true := decide_eq_true hli
            obtain ⟨x, hx⟩ : ∃ x, l[i]? = some x := ⟨l[i], by simp [hli]⟩
            obtain ⟨ad, A3, c3, rfl, g0, g1, g2, g3, g4, g5⟩ := row_at HR.out hli hx
            replace g0 := pw_cell_below B g0
            replace g1 := pw_cell_below B g1
            replace g2 := pw_cell_below B g2
            replace g3 := pw_cell_below B g3
            obtain ⟨hok, hall, hsz⟩ := HQ.out x (List.mem_of_getElem? hx)
            have hdr : l.drop i = x :: l.drop (i + 1) := by
              rw [List.drop_eq_getElem_cons hli]; congr 1; simpa [hli] using hx
            rw [hdr] at hV
            simp only [validL] at hV
            have BH : Hid _ := B
            have G5 : Hid _ := g5
            have MH : Hid _ := hm
            have OK : Hid _ := hok W0 A3 c3 (wr.alloc (Obj.cells #[.int .i64 x.f0, .int .i64 x.f1, .string x.f2, .slice A3 x.f3.length c3] 24)) pb m (d - 1) g5 g4 (below_alloc B _) hpb ((Below.heap_alloc wr _ pb (Array.getElem?_eq_some_iff.1 hm).1).trans hm) hm0 hm1 (by omega) (by omega) hall hsz
            have BD : Hid _ := validM_bd x m (d - 1) hm0
            clear B g5 hok hall hsz hx hm hdr
            obtain ⟨x0', x1', x2', x3'⟩ := x
            obtain ⟨Q, hQ⟩ : ∃ Q, Q = validM ⟨x0', x1', x2', x3'⟩ m (d - 1) := ⟨_, rfl⟩
            rw [← hQ] at OK BD hV
            clear hQ
            obtain ⟨q, m2⟩ := Q
            cases q with
            | false =>
              simp only [Bool.false_eq_true, if_false] at hV
              subst hV
              go_wp2_with fail
              refine Calls.mono OK.out ?_
              rintro e w2 ⟨rfl, hm2, B2⟩
              have H1 : Hid _ := hm2
              have H2 : Hid _ := B2
              clear hm2 B2
              go_wp2_with fail
              go_ret
              exact ⟨rfl, H1.out, H2.out⟩
            | true =>
              simp only [if_true] at hV
              have hbd := BD.out rfl
              simp only [] at hbd
              go_wp2_with fail
              refine Calls.mono OK.out ?_
              rintro e w2 ⟨rfl, hm2, B2⟩
              have H1 : Hid _ := hm2
              have H2 : Hid _ := B2
              have HV : Hid _ := hV
              clear hm2 B2 hV
              go_wp2_with fail
              go_roundg g
              case measure => omega
              case rel => exact ⟨i + 1, m2, by go_num, by omega, H1.out, hbd.1, by omega, H2.out, HV.out⟩
          · have hnil : l.drop i = [] := List.drop_eq_nil_of_le (by omega)
            have hge : decide (i < l.length) = false := decide_eq_false (by omega)
            have hge2 : l.length ≤ i := by omega
            rw [hnil] at hV
            simp only [validL] at hV
            subst hV
            have H1 : Hid _ := hm
            have H2 : Hid _ := B
            clear hm B hnil hli
            go_wp2_with fail
            go_ret
            exact ⟨rfl, H1.out, H2.out⟩

mutual
theorem valid_ok : ∀ x : S24, ValidOk x
  | ⟨a, bb, s, l⟩ => by
    have hl := valid_oks l
    intro W0 A c w pb n d hr hc hw hpb hp hn0 hn1 hd0 hd1 hall hsz
    simp only [allC] at hall
    simp only [wid] at hsz
    have h1 := wids_len l
    exact valid_x W0 a bb s l A c w pb n d hr hc hw hpb hp hn0 hn1 hd0 hd1 hall.1 (fun x hx => ⟨hl x hx, allCs_mem hall.2 hx, by have := wid_mem hx; omega⟩) (by omega)
theorem valid_oks : ∀ (l : List S24), ∀ x ∈ l, ValidOk x
  | [], x, h => absurd h (List.not_mem_nil)
  | y :: l, x, h => by
    rcases List.mem_cons.1 h with h | h
    · rw [h]; exact valid_ok y
    · exact valid_oks l x h
end

def ValidM (x : S24) : Bool := (validM x 20000 100).1

set_option maxRecDepth 100000 in
theorem Valid_any (x : S24) (A : Option Addr) (c : Nat) (w : World) (hr : Kd.C k24 w A x.f3.length x.f3) (hc : x.f3.length ≤ c) (hall : allC x) (hn : wid x < 9000000) :
    Calls Tryz.prog 73 #[formV x.f0 x.f1 x.f2 A x.f3.length c] w fun e w' => e = .returned (.bool (ValidM x)) ∧ Below w.heap.size w w' := by
  have hu24 := Tryz.underlying24
  have hv := fun w1 hw hp => valid_ok x w A c w1 (w.heap.size + 1) 20000 100 hr hc hw (by omega) hp (by decide) (by decide) (by decide) (by decide) hall hn
  obtain ⟨a, bb, s, l⟩ := x
  obtain ⟨Q, hQ⟩ : ∃ Q, Q = validM ⟨a, bb, s, l⟩ 20000 100 := ⟨_, rfl⟩
  unfold ValidM
  rw [← hQ] at hv ⊢
  have B0 : Below w.heap.size w ((w.alloc (Obj.cells #[.int .i64 a, .int .i64 bb, .string s, .slice A l.length c] 24)).alloc (Obj.cells #[.int .i64 20000] 3)) := by (repeat (first | assumption | exact Below.refl _ _ | apply below_alloc | apply pw_below_drewN | apply below_drew1))
  have hp0 : ((w.alloc (Obj.cells #[.int .i64 a, .int .i64 bb, .string s, .slice A l.length c] 24)).alloc (Obj.cells #[.int .i64 20000] 3)).heap[w.heap.size + 1]? = some (Obj.cells #[.int .i64 20000] 3 (0, 0)) := by
    have h := (MapKept.heap_alloc (w.alloc (Obj.cells #[.int .i64 a, .int .i64 bb, .string s, .slice A l.length c] 24)) (Obj.cells #[.int .i64 20000] 3)).1
    rw [size_new] at h
    exact h
  have HV : Hid _ := hv _ B0 hp0
  clear hr hv hall hn hQ hp0
  go_enter Tryz.func73, Tryz.ntmps73
  go_wp2_with fail
  refine Calls.mono HV.out ?_
  rintro e w2 ⟨rfl, _, B2⟩
  have H2 : Hid _ := B2
  clear B2
  go_wp2_with fail
  go_ret
  exact ⟨rfl, H2.out⟩

end Go.Proofs.YtcjmplpfebpfpaaGreatDoor

namespace Go.Proofs.YtcjmplpfebpfpaaGreatDoor
open Go.RowKit Go.Proofs Go.Proofs.YtcjmplpfebpfpaaGreatDoorW.PrintWords Go.Proofs.YtcjmplpfebpfpaaGreatDoorW.PrintLast Go.Proofs.YtcjmplpfebpfpaaGreatDoorW.PrintMore PKindInstances
set_option linter.unusedVariables false
set_option linter.unusedSimpArgs false

def isNameM (s : ByteArray) : Bool := !resM s && ValidM ⟨1, 0, s, []⟩

set_option maxRecDepth 100000 in
theorem isName_any (s : ByteArray) (w : World) (hl : LeafC ⟨1, 0, s, []⟩) (hs : s.size < 8000000) : Calls Tryz.prog 91 #[.string s] w fun e w' => e = .returned (.bool (isNameM s)) ∧ Below w.heap.size w w' := by
  have hu24 := Tryz.underlying24
  have HV : Hid _ := fun w1 => Valid_any ⟨1, 0, s, []⟩ none 0 w1 (Kd.C_nil _ _) (Nat.le_refl _) ⟨hl, trivial⟩ (by simp [wid, wids]; omega)
  unfold isNameM
  cases hr : resM s with
  | true =>
    go_enter Tryz.func91, Tryz.ntmps91
    go_wp2_with fail
    refine (reserved_any _ _).mono ?_
    rintro e w1 ⟨rfl, B1⟩
    rw [hr]
    go_wp2_with fail
    go_ret
    exact ⟨rfl, B1⟩
  | false =>
    obtain ⟨v, hv⟩ : ∃ v, v = ValidM ⟨1, 0, s, []⟩ := ⟨_, rfl⟩
    rw [← hv] at HV ⊢
    clear hv
    go_enter Tryz.func91, Tryz.ntmps91
    go_wp2_with fail
    refine (reserved_any _ _).mono ?_
    rintro e w1 ⟨rfl, B1⟩
    rw [hr]
    go_wp2_with fail
    refine Calls.mono (HV.out _) ?_
    rintro e w2 ⟨rfl, B2⟩
    have B3 := below_after B1 B2
    clear B1 B2
    go_wp2_with fail
    go_ret
    exact ⟨rfl, B3⟩

set_option maxRecDepth 100000 in
theorem notValid_any (x : S24) (A : Option Addr) (c : Nat) (w : World) (hr : Kd.C k24 w A x.f3.length x.f3) (hc : x.f3.length ≤ c) (hall : allC x) (hn : wid x < 9000000) :
    Calls Tryz.prog 93 #[formV x.f0 x.f1 x.f2 A x.f3.length c] w fun e w' => e = .returned (.bool (!ValidM x)) ∧ Below w.heap.size w w' := by
  have hu24 := Tryz.underlying24
  have HV := fun w1 h1 => Valid_any x A c w1 h1 hc hall hn
  obtain ⟨a, n, s, l⟩ := x
  have HV : Hid _ := HV (w.alloc (Obj.cells #[.int .i64 a, .int .i64 n, .string s, .slice A l.length c] 24)) (Kd.C_alloc hr _)
  obtain ⟨v, hv⟩ : ∃ v, v = ValidM ⟨a, n, s, l⟩ := ⟨_, rfl⟩
  rw [← hv] at HV ⊢
  clear hv hr hall hn
  go_enter Tryz.func93, Tryz.ntmps93
  go_wp2_with fail
  refine Calls.mono HV.out ?_
  rintro e w2 ⟨rfl, B2⟩
  have B3 : Below w.heap.size w w2 := below_after (by (repeat (first | assumption | exact Below.refl _ _ | apply below_alloc | apply pw_below_drewN | apply below_drew1))) B2
  clear B2
  go_wp2_with fail
  go_ret
  exact ⟨rfl, B3⟩

/-- What holds of the loop. -/
def IdxRel (W0 : World) (l : List S24) (R : Bool) (k : Nat) (x8 : Value) (wr : World) : Prop :=
  ∃ (i : Nat), x8 = .int .i64 (i : Int) ∧ k + i = l.length ∧ Below W0.heap.size W0 wr ∧ (l.drop i).any (fun x => !ValidM x) = R

theorem drop_at2 {l : List S24} {i : Nat} {x : S24} (hx : l[i]? = some x) : l.drop i = x :: l.drop (i + 1) := by
  obtain ⟨h, e⟩ := List.getElem?_eq_some_iff.1 hx
  rw [List.drop_eq_getElem_cons h, e]

set_option maxRecDepth 100000 in
set_option maxHeartbeats 4000000 in
theorem indexBad_any (l : List S24) (A : Option Addr) (c : Nat) (w : World) (hr : Kd.C k24 w A l.length l) (hc : l.length ≤ c) (hn : l.length < 9000000) (hq : ∀ x ∈ l, allC x ∧ wid x < 9000000) :
    Calls Tryz.prog 135 #[.slice A l.length c, .func (.func 93) #[] #[]] w fun e w' => ∃ r, e = .returned (.int .i64 r) ∧ decide (0 ≤ r) = l.any (fun x => !ValidM x) ∧ Below w.heap.size w w' := by
  have hu24 := Tryz.underlying24
  obtain ⟨R, hR⟩ : ∃ R, R = l.any (fun x => !ValidM x) := ⟨_, rfl⟩
  rw [← hR]
  have start : Hid (IdxRel w l R l.length (.int .i64 ((0 : Nat) : Int)) w) := ⟨0, rfl, rfl, Below.refl _ _, hR.symm⟩
  have HR : Hid _ := hr
  have HQ : Hid _ := hq
  clear hr hq hR
  go_enter Tryz.func135, Tryz.ntmps135
  go_wp2_with fail
  go_loopg [8] l.length (fun k x8 wr => IdxRel w l R k x8 wr)
  case atStart => exact start.out
  case round =>
    clear start
    obtain ⟨i, rfl, hki, Bl, hV⟩ := hrel
    by_cases hlt : i < l.length
    · obtain ⟨g, rfl⟩ : ∃ g, gk = g + 1 := ⟨gk - 1, by omega⟩
      have e1 : decide (i < l.length) = true := decide_eq_true hlt
      obtain ⟨x, hx⟩ : ∃ x, l[i]? = some x := ⟨l[i], by simp [hlt]⟩
      obtain ⟨ad, A3, c3, rfl, g0, g1, g2, g3, g4, g5⟩ := row_at (Kd.C_below HR.out Bl) hlt hx
      rw [drop_at2 hx, List.any_cons] at hV
      have OK : Hid _ := notValid_any x A3 c3 wr g5 g4 (HQ.out x (List.mem_of_getElem? hx)).1 (HQ.out x (List.mem_of_getElem? hx)).2
      have BL : Hid _ := Bl
      clear Bl g5 hx
      obtain ⟨x0, x1, x2, x3⟩ := x
      cases hv : ValidM ⟨x0, x1, x2, x3⟩ with
      | true =>
        rw [hv] at OK hV
        have HV : Hid _ := hV
        clear hV hv
        go_wp2_with fail
        refine Calls.mono OK.out ?_
        rintro e w2 ⟨rfl, B2⟩
        have B3 : Hid _ := below_after BL.out B2
        clear B2
        go_wp2_with fail
        go_roundg g
        case measure => omega
        case rel => exact ⟨i + 1, by go_num, by omega, B3.out, by simpa using HV.out⟩
      | false =>
        rw [hv] at OK hV
        have HV : Hid _ := hV
        clear hV hv
        go_wp2_with fail
        refine Calls.mono OK.out ?_
        rintro e w2 ⟨rfl, B2⟩
        have B3 : Hid _ := below_after BL.out B2
        clear B2
        go_wp2_with fail
        go_ret
        exact ⟨_, rfl, by have h := HV.out; simp at h; rw [h]; exact decide_eq_true (Int.natCast_nonneg i), B3.out⟩
    · have e1 : decide (i < l.length) = false := decide_eq_false hlt
      have hge2 : l.length ≤ i := by omega
      have e3 : l.drop i = [] := List.drop_eq_nil_of_le (by omega)
      rw [e3] at hV
      have HV : Hid _ := hV
      have BL : Hid _ := Bl
      clear e3 Bl hV
      go_wp2_with fail
      go_ret
      exact ⟨_, rfl, by rw [← HV.out]; rfl, BL.out⟩

theorem anyBad_any (l : List S24) (A : Option Addr) (c : Nat) (w : World) (hr : Kd.C k24 w A l.length l) (hc : l.length ≤ c) (hn : l.length < 9000000) (hq : ∀ x ∈ l, allC x ∧ wid x < 9000000) :
    Calls Tryz.prog 92 #[.slice A l.length c, .func (.func 93) #[] #[]] w fun e w' => e = .returned (.bool (l.any (fun x => !ValidM x))) ∧ Below w.heap.size w w' := by
  have HI : Hid _ := indexBad_any l A c w hr hc hn hq
  obtain ⟨R, hR⟩ : ∃ R, R = l.any (fun x => !ValidM x) := ⟨_, rfl⟩
  rw [← hR] at HI ⊢
  clear hr hq hR
  go_enter Tryz.func92, Tryz.ntmps92
  go_wp2_with fail
  refine Calls.mono HI.out ?_
  rintro e w2 ⟨r, rfl, hr, B2⟩
  go_wp2_with fail
  go_ret
  exact ⟨by rw [← hr]; rfl, B2⟩

end Go.Proofs.YtcjmplpfebpfpaaGreatDoor

namespace Go.Proofs.YtcjmplpfebpfpaaGreatDoor
open Go.RowKit Go.Proofs

instance : LawfulBEq ByteArray where
  eq_of_beq h := (MapKept.bytes_beq _ _).1 h
  rfl := (MapKept.bytes_beq _ _).2 rfl

theorem bytes_inj {a b : ByteArray} (h : a.toList = b.toList) : a = b := by
  rw [ByteArray.toList_eq, ByteArray.toList_eq] at h
  cases a with
  | mk a =>
    cases b with
    | mk b =>
      have : a = b := Array.toList_inj.1 h
      rw [this]

end Go.Proofs.YtcjmplpfebpfpaaGreatDoor

namespace Go.Proofs.YtcjmplpfebpfpaaGreatDoor
open Go.RowKit Go.Proofs Go.Proofs.YtcjmplpfebpfpaaGreatDoorW.PrintWords Go.Proofs.YtcjmplpfebpfpaaGreatDoorW.PrintLast Go.Proofs.YtcjmplpfebpfpaaGreatDoorW.PrintMore PKindInstances
set_option linter.unusedVariables false
set_option linter.unusedSimpArgs false

/-- A solver in memory: its block, its two maps. -/
structure SolvAt (base : Nat) (w : World) (sp vb tb : Nat) (mv mt : List (ByteArray × Value)) : Prop where
  blk : w.heap[sp]? = some (.cells #[.map (some vb), .map (some tb)] 102 (0, 0))
  vars : MapAt w vb (kvs textV mv)
  tos : MapAt w tb (kvs textV mt)
  bs : base ≤ sp
  bv : base ≤ vb
  bt : base ≤ tb
  ne : vb ≠ tb

theorem blk_notMap {w : World} {sp vb : Nat} {cs : Array Value} {t : TypeId} {m : List (Value × Value)} (h : w.heap[sp]? = some (.cells cs t (0, 0))) (hm : MapAt w vb m) : sp ≠ vb := by
  rintro rfl
  obtain ⟨es, c, hb, _⟩ := hm
  rw [h] at hb
  cases hb

theorem SolvAt.lt {base : Nat} {w : World} {sp vb tb : Nat} {mv mt : List (ByteArray × Value)} (h : SolvAt base w sp vb tb mv mt) : sp < w.heap.size := (Array.getElem?_eq_some_iff.1 h.blk).1
theorem SolvAt.below {base : Nat} {w w1 : World} {sp vb tb : Nat} {mv mt : List (ByteArray × Value)} (h : SolvAt base w sp vb tb mv mt) (hb : Below w.heap.size w w1) : SolvAt base w1 sp vb tb mv mt :=
  ⟨(hb.block sp h.lt).trans h.blk, h.vars.kept (grown_of_below hb none) (by simp), h.tos.kept (grown_of_below hb none) (by simp), h.bs, h.bv, h.bt, h.ne⟩
theorem SolvAt.putVars {base : Nat} {w w1 : World} {sp vb tb : Nat} {mv mt mv' : List (ByteArray × Value)} (h : SolvAt base w sp vb tb mv mt) (hm : MapAt w1 vb (kvs textV mv')) (hg : w.grownBy w1 (some vb)) : SolvAt base w1 sp vb tb mv' mt :=
  ⟨(hg.block sp h.lt (by simp; exact blk_notMap h.blk h.vars)).trans h.blk, hm, h.tos.kept hg (by simp; exact fun e => h.ne e.symm), h.bs, h.bv, h.bt, h.ne⟩
theorem SolvAt.putTo {base : Nat} {w w1 : World} {sp vb tb : Nat} {mv mt mt' : List (ByteArray × Value)} (h : SolvAt base w sp vb tb mv mt) (hm : MapAt w1 tb (kvs textV mt')) (hg : w.grownBy w1 (some tb)) : SolvAt base w1 sp vb tb mv mt' :=
  ⟨(hg.block sp h.lt (by simp; exact blk_notMap h.blk h.tos)).trans h.blk, h.vars.kept hg (by simp; exact h.ne), hm, h.bs, h.bv, h.bt, h.ne⟩
theorem SolvAt.c0 {base : Nat} {w : World} {sp vb tb : Nat} {mv mt : List (ByteArray × Value)} (h : SolvAt base w sp vb tb mv mt) : w.cell? ⟨sp, 0, none⟩ = some (.map (some vb)) := by simp [World.cell?, h.blk]
theorem SolvAt.c1 {base : Nat} {w : World} {sp vb tb : Nat} {mv mt : List (ByteArray × Value)} (h : SolvAt base w sp vb tb mv mt) : w.cell? ⟨sp, 1, none⟩ = some (.map (some tb)) := by simp [World.cell?, h.blk]

/-- The variables as the map's entries. -/
def varsV (l : List ByteArray) : List (ByteArray × Value) := l.map fun v => (v, .bool true)
theorem look_vars : ∀ (l : List ByteArray) (v : ByteArray), look (varsV l) v = if v ∈ l then some (.bool true) else none
  | [], v => by simp [varsV, look]
  | a :: l, v => by
    have := look_vars l v
    simp only [varsV] at this
    simp only [varsV, List.map_cons, look, this, List.mem_cons]
    by_cases h : v = a <;> simp [h]
theorem look_bool (l : List ByteArray) (v : ByteArray) : (look (varsV l) v).getD (.bool false) = .bool (decide (v ∈ l)) := by
  rw [look_vars]
  by_cases h : v ∈ l <;> simp [h]
theorem put_vars : ∀ (l : List ByteArray) (v : ByteArray), v ∉ l → putM (varsV l) v (.bool true) = varsV (l ++ [v])
  | [], v, _ => rfl
  | a :: l, v, h => by
    have := put_vars l v (fun e => h (List.mem_cons_of_mem _ e))
    simp only [varsV] at this
    simp only [varsV, List.map_cons, List.cons_append, putM]
    rw [if_neg (fun e => h (by rw [e]; exact List.mem_cons_self)), this]

/-- Whether names are such, each once. -/
def namesM : List ByteArray → List ByteArray → Bool
  | _, [] => true
  | seen, v :: l => if decide (v ∈ seen) || !isNameM v then false else namesM (seen ++ [v]) l
def rowsM (rows : List (List S24)) : Bool := rows.all fun l => !(l.any fun x => !ValidM x)

/-- What holds of the loop over the names. -/
def OpenRel (w : World) (sp vb tb : Nat) (vars : List ByteArray) (R : Bool) (k : Nat) (x17 : Value) (wr : World) : Prop :=
  ∃ (i : Nat), x17 = .int .i64 (i : Int) ∧ k + i = vars.length ∧ SolvAt w.heap.size wr sp vb tb (varsV (vars.take i)) [] ∧ Below w.heap.size w wr ∧ namesM (vars.take i) (vars.drop i) = R

theorem text_at {w : World} {A : Option Addr} {l : List ByteArray} (h : Kd.C Kd.string w A l.length l) {i : Nat} {v : ByteArray} (hv : l[i]? = some v) : ∃ ad, A = some ad ∧ w.cell? (ad.add i) = some (.string v) := by
  have hi : i < l.length := (List.getElem?_eq_some_iff.1 hv).1
  obtain ⟨ad, e, g⟩ := Kd.at_string h (i : Int) (by omega) (by omega)
  refine ⟨ad, e, ?_⟩
  have : rdOf ByteArray.empty l (i : Int) = v := by simp [rdOf, List.getD, hv]
  rw [this] at g
  simpa using g

/-- What holds of the loop over the rows. -/
def OpenRel2 (w : World) (sp vb tb : Nat) (vars : List ByteArray) (rows : List (List S24)) (R : Bool) (k : Nat) (x40 : Value) (wr : World) : Prop :=
  ∃ (i : Nat), x40 = .int .i64 (i : Int) ∧ k + i = rows.length ∧ SolvAt w.heap.size wr sp vb tb (varsV vars) [] ∧ Below w.heap.size w wr ∧ rowsM (rows.drop i) = R

/-- What comes back. -/
def OpenPost (w : World) (sp vb tb : Nat) (vars : List ByteArray) (R : Bool) (e : Ending) (w' : World) : Prop :=
  e = .returned (if R then .tuple #[.pointer (some ⟨sp, 0, none⟩), .bool true] else .tuple #[.pointer none, .bool false]) ∧ (R = true → SolvAt w.heap.size w' sp vb tb (varsV vars) []) ∧ Below w.heap.size w w'

theorem SolvAt.made (w : World) : SolvAt w.heap.size (((w.alloc (.map #[] 0)).alloc (.map #[] 0)).alloc (.cells #[.map (some w.heap.size), .map (some (w.heap.size + 1))] 102)) (w.heap.size + 1 + 1) w.heap.size (w.heap.size + 1) [] [] := by
  have s1 : (w.alloc (.map #[] 0)).heap.size = w.heap.size + 1 := size_new _ _
  have s2 : ((w.alloc (.map #[] 0)).alloc (.map #[] 0)).heap.size = w.heap.size + 1 + 1 := by rw [size_new, s1]
  have h2 := MapAt.made (w.alloc (.map #[] 0))
  rw [s1] at h2
  have h3 := (MapKept.heap_alloc ((w.alloc (.map #[] 0)).alloc (.map #[] 0)) (.cells #[.map (some w.heap.size), .map (some (w.heap.size + 1))] 102)).1
  rw [s2] at h3
  refine ⟨h3, ?_, ?_, by omega, by omega, by omega, by omega⟩
  · exact ((MapAt.made w).kept (World.grownBy_alloc _ _ none) (by simp)).kept (World.grownBy_alloc _ _ none) (by simp)
  · exact h2.kept (World.grownBy_alloc _ _ none) (by simp)

theorem rows_at {w : World} {A : Option Addr} {rows : List (List S24)} (h : Kd.C (Kd.slice 22 k24) w A rows.length rows) {i : Nat} {l : List S24} (hl : rows[i]? = some l) :
    ∃ ad B d, A = some ad ∧ w.cell? (ad.add i) = some (.slice B l.length d) ∧ l.length ≤ d ∧ Kd.C k24 w B l.length l := by
  have hi : i < rows.length := (List.getElem?_eq_some_iff.1 hl).1
  obtain ⟨ad, cs, e, _, hK, hc⟩ := Kd.C_get h ([] : List S24) (i : Int) (by omega) (by omega)
  have e1 : rows.getD (i : Int).toNat [] = l := by simp [List.getD, hl]
  obtain ⟨B, d, rfl, h1, h2⟩ := hK
  rw [e1] at h1 h2 hc
  have := hc 0 _ rfl
  refine ⟨ad, B, d, e, ?_, h1, h2⟩
  have e2 : (i : Int).toNat * (Kd.slice 22 k24).sz + 0 = i := by simp [show (Kd.slice 22 k24).sz = 1 from rfl]
  rw [e2] at this
  exact this

set_option maxRecDepth 100000 in
set_option maxHeartbeats 4000000 in
theorem open_any (vars : List ByteArray) (rows : List (List S24)) (AN AL : Option Addr) (c d : Nat) (w : World) (hv : Kd.C Kd.string w AN vars.length vars) (hc : vars.length ≤ c) (hl : Kd.C (Kd.slice 22 k24) w AL rows.length rows) (hd : rows.length ≤ d)
    (hn : vars.length < 9000000) (hn2 : rows.length < 9000000) (hq : ∀ v ∈ vars, LeafC ⟨1, 0, v, []⟩ ∧ v.size < 8000000) (hr : ∀ l ∈ rows, l.length < 9000000 ∧ ∀ x ∈ l, allC x ∧ wid x < 9000000) :
    Calls Tryz.prog 53 #[.slice AN vars.length c, .slice AL rows.length d] w (OpenPost w (w.heap.size + 1 + 1) w.heap.size (w.heap.size + 1) vars (namesM [] vars && rowsM rows)) := by
  have hu := Tryz.underlying100
  have hu9 := Tryz.underlying9
  obtain ⟨R, hR⟩ : ∃ R, R = namesM [] vars := ⟨_, rfl⟩
  obtain ⟨T, hT⟩ : ∃ T, T = rowsM rows := ⟨_, rfl⟩
  rw [← hR, ← hT]
  have start : Hid (OpenRel w (w.heap.size + 1 + 1) w.heap.size (w.heap.size + 1) vars R vars.length (.int .i64 ((0 : Nat) : Int)) (((w.alloc (.map #[] 0)).alloc (.map #[] 0)).alloc (.cells #[.map (some w.heap.size), .map (some (w.heap.size + 1))] 102))) := ⟨0, rfl, rfl, SolvAt.made w, by (repeat (first | assumption | exact Below.refl _ _ | apply below_alloc | apply pw_below_drewN | apply below_drew1)), hR.symm⟩
  have HVV : Hid _ := hv
  have HLL : Hid _ := hl
  have HQ : Hid _ := hq
  have HR2 : Hid _ := hr
  have HT : Hid _ := hT
  clear hv hl hq hr hR hT
  go_enter Tryz.func53, Tryz.ntmps53
  go_wp2_with fail
  simp only [run_makeMap]
  go_wp2_with fail
  simp only [run_makeMap]
  go_wp2_with fail
  go_loopg [17] vars.length (fun k x17 wr => OpenRel w (w.heap.size + 1 + 1) w.heap.size (w.heap.size + 1) vars R k x17 wr)
  case atStart => exact start.out
  case round =>
    clear start
    obtain ⟨i, rfl, hki, hS, hB, hV⟩ := hrel
    by_cases hlt : i < vars.length
    · obtain ⟨g, rfl⟩ : ∃ g, gk = g + 1 := ⟨gk - 1, by omega⟩
      have e1 : decide (i < vars.length) = true := decide_eq_true hlt
      obtain ⟨v, hv⟩ : ∃ v, vars[i]? = some v := ⟨vars[i], by simp [hlt]⟩
      obtain ⟨ad, rfl, g0⟩ := text_at (Kd.C_below HVV.out hB) hv
      have hdr : vars.drop i = v :: vars.drop (i + 1) := by
        obtain ⟨h, e⟩ := List.getElem?_eq_some_iff.1 hv
        rw [List.drop_eq_getElem_cons h, e]
      have htk : vars.take (i + 1) = vars.take i ++ [v] := by rw [List.take_add_one, hv]; rfl
      rw [hdr] at hV
      have c0 := hS.c0
      have hz : (zeroValue 4).run Tryz.prog wr = .ok (.bool false) wr := by go_simp
      have NM : Hid (∀ w, Calls Tryz.prog 91 #[.string v] w fun e w' => e = .returned (.bool (isNameM v)) ∧ Below w.heap.size w w') := fun w => isName_any v w (HQ.out v (List.mem_of_getElem? hv)).1 (HQ.out v (List.mem_of_getElem? hv)).2
      have SH : Hid _ := hS
      have BH : Hid _ := hB
      have TK : Hid _ := htk
      clear hS hB hdr hv htk
      simp only [namesM] at hV
      cases hmem : decide (v ∈ vars.take i) with
      | true =>
        rw [hmem] at hV
        simp only [Bool.true_or, if_true] at hV
        subst hV
        go_wp2_with (first | (refine law_lookup keyText' rfl _ _ false rfl hu hu9 hz SH.out.vars v rfl rfl ?_; rw [if_neg (by simp), look_bool, hmem]))
        go_ret2
        exact ⟨rfl, fun h => absurd h (by simp), BH.out⟩
      | false =>
        rw [hmem] at hV
        have hmem2 : v ∉ vars.take i := of_decide_eq_false hmem
        obtain ⟨q, hq⟩ : ∃ q, q = isNameM v := ⟨_, rfl⟩
        rw [← hq] at hV NM
        clear hq
        cases q with
        | false =>
          simp only [Bool.false_or, Bool.not_false, if_true] at hV
          subst hV
          go_wp2_with (first | (refine law_lookup keyText' rfl _ _ false rfl hu hu9 hz SH.out.vars v rfl rfl ?_; rw [if_neg (by simp), look_bool, hmem]))
          refine Calls.mono (NM.out _) ?_
          rintro e w2 ⟨rfl, B2⟩
          have B3 : Hid _ := below_after BH.out B2
          clear B2
          go_wp2_with fail
          go_ret2
          exact ⟨rfl, fun h => absurd h (by simp), B3.out⟩
        | true =>
          simp only [Bool.false_or, Bool.not_true, Bool.false_eq_true, if_false] at hV
          go_wp2_with (first | (refine law_lookup keyText' rfl _ _ false rfl hu hu9 hz SH.out.vars v rfl rfl ?_; rw [if_neg (by simp), look_bool, hmem]))
          refine Calls.mono (NM.out _) ?_
          rintro e w2 ⟨rfl, B2⟩
          have S2 := SH.out.below B2
          have B3 : Hid _ := below_after BH.out B2
          have c02 := S2.c0
          have V2 : Hid _ := S2.vars
          have SH2 : Hid _ := S2
          clear B2 S2
          go_wp2_with (first | (refine law_update keyText' rfl _ _ _ (.inl rfl) hu hu9 V2.out v (.bool true) rfl rfl rfl ?_; intro w3 M3 G3))
          rw [put_vars _ _ hmem2, ← TK.out] at M3
          have S3 : Hid _ := SH2.out.putVars M3 G3
          have B4 : Hid _ := below_grown1 B3.out G3 (Nat.le_refl _)
          have HV : Hid _ := hV
          clear M3 G3 hV
          go_roundg g
          case measure => omega
          case rel => exact ⟨i + 1, by go_num, by omega, S3.out, B4.out, by rw [TK.out]; exact HV.out⟩
    · have e1 : decide (i < vars.length) = false := decide_eq_false hlt
      have hge2 : vars.length ≤ i := by omega
      have e3 : vars.drop i = [] := List.drop_eq_nil_of_le (by omega)
      have e4 : vars.take i = vars := List.take_of_length_le (by omega)
      rw [e3, e4] at hV
      rw [e4] at hS
      simp only [namesM] at hV
      subst hV
      have start2 : Hid (OpenRel2 w (w.heap.size + 1 + 1) w.heap.size (w.heap.size + 1) vars rows T rows.length (.int .i64 ((0 : Nat) : Int)) wr) := ⟨0, rfl, rfl, hS, hB, HT.out.symm⟩
      clear hS hB e3 e4
      go_wp2_with fail
      go_loopg [40] rows.length (fun k x40 w1 => OpenRel2 w (w.heap.size + 1 + 1) w.heap.size (w.heap.size + 1) vars rows T k x40 w1)
      case atStart => exact start2.out
      case round =>
        clear start2
        obtain ⟨j, rfl, hkj, hS, hB, hV⟩ := hrel
        by_cases hjt : j < rows.length
        · obtain ⟨g, rfl⟩ : ∃ g, gk = g + 1 := ⟨gk - 1, by omega⟩
          have e1 : decide (j < rows.length) = true := decide_eq_true hjt
          obtain ⟨l, hl⟩ : ∃ l, rows[j]? = some l := ⟨rows[j], by simp [hjt]⟩
          obtain ⟨ad, B, db, rfl, g0, g1, g2⟩ := rows_at (Kd.C_below HLL.out hB) hl
          have hdr : rows.drop j = l :: rows.drop (j + 1) := by
            obtain ⟨h, e⟩ := List.getElem?_eq_some_iff.1 hl
            rw [List.drop_eq_getElem_cons h, e]
          rw [hdr] at hV
          have hRl := HR2.out l (List.mem_of_getElem? hl)
          have AB : Hid _ := anyBad_any l B db _ g2 g1 hRl.1 hRl.2
          have SH : Hid _ := hS
          have BH : Hid _ := hB
          clear hS hB g2 hRl hdr hl
          simp only [rowsM, List.all_cons] at hV
          obtain ⟨q, hq⟩ : ∃ q, q = l.any (fun x => !ValidM x) := ⟨_, rfl⟩
          rw [← hq] at hV AB
          clear hq
          cases q with
          | true =>
            simp only [Bool.not_true, Bool.false_and] at hV
            subst hV
            go_wp2_with fail
            refine Calls.mono AB.out ?_
            rintro e w2 ⟨rfl, B2⟩
            have B3 : Hid _ := below_after BH.out B2
            clear B2
            go_wp2_with fail
            go_ret2
            exact ⟨rfl, fun h => absurd h (by simp), B3.out⟩
          | false =>
            simp only [Bool.not_false, Bool.true_and] at hV
            have HV : Hid (rowsM (rows.drop (j + 1)) = T) := hV
            clear hV
            go_wp2_with fail
            refine Calls.mono AB.out ?_
            rintro e w2 ⟨rfl, B2⟩
            have B3 : Hid _ := below_after BH.out B2
            have S3 : Hid _ := SH.out.below B2
            clear B2
            go_wp2_with fail
            go_roundg g
            case measure => omega
            case rel => exact ⟨j + 1, by go_num, by omega, S3.out, B3.out, HV.out⟩
        · have e1 : decide (j < rows.length) = false := decide_eq_false hjt
          have hge3 : rows.length ≤ j := by omega
          have e3 : rows.drop j = [] := List.drop_eq_nil_of_le (by omega)
          rw [e3] at hV
          have hT2 : T = true := by rw [← hV]; rfl
          subst hT2
          have SH : Hid _ := hS
          have BH : Hid _ := hB
          clear hS hB hV e3
          go_wp2_with fail
          go_ret2
          exact ⟨rfl, fun _ => SH.out, BH.out⟩

end Go.Proofs.YtcjmplpfebpfpaaGreatDoor
