/- How the solver lies in memory: its struct, its slices, its clauses, its log, its map of watched literals; what a walk reads off it. -/
import Derived.Test.YtdllaphnkbnpoaaGreatMap
import Derived.Test.YtdllaphnkbnpoaaGreatSat
namespace Go.Proofs.YtdllaphnkbnpoaaGreat
open Go.RowKit

def ints (xs : List Int) : List Value := xs.map (.int .i64 ·)
def nats (xs : List Nat) : List Value := xs.map fun (n : Nat) => Value.int .i64 (n : Int)
def i8s (xs : List Int) : List Value := xs.map (.int .i8 ·)

theorem ints_length (xs : List Int) : (ints xs).length = xs.length := by simp [ints]
theorem nats_length (xs : List Nat) : (nats xs).length = xs.length := by simp [nats]
theorem i8s_length (xs : List Int) : (i8s xs).length = xs.length := by simp [i8s]
theorem ints_at (xs : List Int) {i : Nat} (h : i < xs.length) : (ints xs)[i]? = some (.int .i64 (at0 xs i)) := by simp [ints, at0, h]
theorem nats_at (xs : List Nat) {i : Nat} (h : i < xs.length) : (nats xs)[i]? = some (.int .i64 (xs.getD i 0 : Nat)) := by simp [nats, h]
theorem i8s_at (xs : List Int) {i : Nat} (h : i < xs.length) : (i8s xs)[i]? = some (.int .i8 (at0 xs i)) := by simp [i8s, at0, h]
theorem ints_set (xs : List Int) (i : Nat) (x : Int) : (ints xs).set i (.int .i64 x) = ints (xs.set i x) := by simp [ints, List.map_set]
theorem nats_set (xs : List Nat) (i : Nat) (x : Nat) : (nats xs).set i (.int .i64 (x : Int)) = nats (xs.set i x) := by simp [nats, List.map_set]
theorem i8s_set (xs : List Int) (i : Nat) (x : Int) : (i8s xs).set i (.int .i8 x) = i8s (xs.set i x) := by simp [i8s, List.map_set]
theorem ints_snoc (xs : List Int) (x : Int) : ints xs ++ [.int .i64 x] = ints (xs ++ [x]) := by simp [ints]
theorem nats_snoc (xs : List Nat) (x : Nat) : nats xs ++ [.int .i64 (x : Int)] = nats (xs ++ [x]) := by simp [nats]
theorem nats_snoc0 (xs : List Nat) : nats xs ++ [.int .i64 0] = nats (xs ++ [0]) := by simp [nats]
theorem i8s_snoc (xs : List Int) (x : Int) : i8s xs ++ [.int .i8 x] = i8s (xs ++ [x]) := by simp [i8s]

/-- The values that lie in the solver's struct and in its slices of slices. -/
structure Vals where
  log : Value
  failed : Value
  cl : Value
  mb : Nat
  val : Value
  lev : Value
  rea : Value
  wei : Value
  pha : Value
  tra : Value
  mar : Value
  vcs : List Value
  vlogs : List Value
  wk : List Int
  wv : Int → Value

def ikey (n : Int) : Value := .int .i64 n
theorem keyI : KeyEnc (.int .i64) ikey := keyInt
def Vals.wkv (μ : Vals) : List (Int × Value) := μ.wk.map fun k => (k, μ.wv k)

def rowAt (vs : List Value) (t : TypeId) (xss : List (List Int)) (i : Nat) : Res :=
  match vs[i]?, xss[i]? with
  | some v, some xs => .row v t (ints xs)
  | _, _ => .non

def stCells (fuel : Nat) (σ : S) (μ : Vals) : List Value :=
  [.int .i64 (σ.steps : Nat), .int .i64 (fuel : Nat), μ.log, μ.failed, μ.cl, .map (some μ.mb), μ.val, μ.lev, μ.rea, μ.wei, μ.pha, μ.tra, μ.mar, .int .i64 (σ.head : Nat), .bool σ.broken]

/-- The solver at block p. -/
def full (p fuel : Nat) (σ : S) (μ : Vals) (loc : Nat → Res) : Key → Res
  | .st => .cells p (stCells fuel σ μ) 75
  | .fld 2 => .row μ.log 23 μ.vlogs
  | .fld 4 => .row μ.cl 23 μ.vcs
  | .fld 6 => .row μ.val 90 (i8s σ.value)
  | .fld 7 => .row μ.lev 3 (nats σ.level)
  | .fld 8 => .row μ.rea 3 (ints σ.reason)
  | .fld 9 => .row μ.wei 3 (nats σ.weight)
  | .fld 10 => .row μ.pha 90 (i8s σ.phase)
  | .fld 11 => .row μ.tra 3 (ints σ.trail)
  | .fld 12 => .row μ.mar 3 (nats σ.marks)
  | .fld _ => .non
  | .cls i => rowAt μ.vcs 3 σ.clauses i
  | .log i => rowAt μ.vlogs 3 σ.log i
  | .mp => .mapB μ.mb (kvs ikey μ.wkv)
  | .wt l => if l ∈ μ.wk then .row (μ.wv l) 3 (nats (σ.watch l)) else .non
  | .loc i => loc i

structure Good (σ : S) (μ : Vals) : Prop where
  vcs : μ.vcs.length = σ.clauses.length
  vlogs : μ.vlogs.length = σ.log.length
  wk : μ.wk.Nodup
  not : ∀ l, l ∉ μ.wk → σ.watch l = []
  failed : μ.failed = .slice none 0 0

/-- Behind a call on the solver: it lies there still, as σ; what else is owned is as it was. -/
def Post (base : Nat) (w : World) (p fuel : Nat) (σ : S) (loc : Nat → Res) (w' : World) : Prop :=
  ∃ μ, Holds base w' (full p fuel σ μ loc) ∧ Good σ μ ∧ Below base w w'

theorem Post.trans {base : Nat} {w w1 w2 : World} {p fuel : Nat} {σ : S} {loc : Nat → Res} (hb : Below base w w1) (h : Post base w1 p fuel σ loc w2) : Post base w p fuel σ loc w2 := by
  obtain ⟨μ, h1, h2, h3⟩ := h
  exact ⟨μ, h1, h2, hb.trans h3⟩

section
variable {base p fuel : Nat} {w : World} {σ : S} {μ : Vals} {loc : Nat → Res}

theorem full_lt (H : Holds base w (full p fuel σ μ loc)) : base ≤ p ∧ p < w.heap.size := H.lt .st rfl
theorem full_base (H : Holds base w (full p fuel σ μ loc)) : base ≤ w.heap.size := by have := full_lt H; omega
theorem full_cell (H : Holds base w (full p fuel σ μ loc)) (i : Nat) {v : Value} (hv : (stCells fuel σ μ)[i]? = some v) : w.cell? ⟨p, i, none⟩ = some v := H.cell (k := .st) rfl i hv
theorem full_free (H : Holds base w (full p fuel σ μ loc)) (i : Nat) : w.frozen? ⟨p, i, none⟩ = false := H.cellFree (k := .st) rfl i

/-- A field that is a slice: its cell in the struct. -/
theorem full_fld (H : Holds base w (full p fuel σ μ loc)) (i : Nat) {v : Value} {t : TypeId} {xs : List Value} (hv : (stCells fuel σ μ)[i]? = some v) (k : Key) (hk : full p fuel σ μ loc k = .row v t xs) {n : Nat} (hn : xs.length = n) :
    w.cell? ⟨p, i, none⟩ = some (.slice (ad v) n (cp v)) := by rw [full_cell H i hv, ← hn, ← H.sl hk]
theorem full_fld1 (H : Holds base w (full p fuel σ μ loc)) (i : Nat) {v : Value} {t : TypeId} {xs : List Value} (hv : (stCells fuel σ μ)[i]? = some v) (k : Key) (hk : full p fuel σ μ loc k = .row v t xs) {n : Nat} (hn : xs.length = n) (hp : 0 < n) :
    w.cell? ⟨p, i, none⟩ = some (.slice (some ⟨gb v, 0, none⟩) n (cp v)) := by rw [full_cell H i hv, ← hn, ← H.sl1 hk (by omega)]

theorem full_c6 (H : Holds base w (full p fuel σ μ loc)) (hp : 0 < σ.value.length) : w.cell? ⟨p, 6, none⟩ = some (.slice (some ⟨gb μ.val, 0, none⟩) σ.value.length (cp μ.val)) := full_fld1 H 6 rfl (.fld 6) rfl (i8s_length _) hp
theorem full_c7 (H : Holds base w (full p fuel σ μ loc)) (hp : 0 < σ.level.length) : w.cell? ⟨p, 7, none⟩ = some (.slice (some ⟨gb μ.lev, 0, none⟩) σ.level.length (cp μ.lev)) := full_fld1 H 7 rfl (.fld 7) rfl (nats_length _) hp
theorem full_c8 (H : Holds base w (full p fuel σ μ loc)) (hp : 0 < σ.reason.length) : w.cell? ⟨p, 8, none⟩ = some (.slice (some ⟨gb μ.rea, 0, none⟩) σ.reason.length (cp μ.rea)) := full_fld1 H 8 rfl (.fld 8) rfl (ints_length _) hp
theorem full_c9 (H : Holds base w (full p fuel σ μ loc)) (hp : 0 < σ.weight.length) : w.cell? ⟨p, 9, none⟩ = some (.slice (some ⟨gb μ.wei, 0, none⟩) σ.weight.length (cp μ.wei)) := full_fld1 H 9 rfl (.fld 9) rfl (nats_length _) hp
theorem full_c10 (H : Holds base w (full p fuel σ μ loc)) (hp : 0 < σ.phase.length) : w.cell? ⟨p, 10, none⟩ = some (.slice (some ⟨gb μ.pha, 0, none⟩) σ.phase.length (cp μ.pha)) := full_fld1 H 10 rfl (.fld 10) rfl (i8s_length _) hp
theorem full_c11 (H : Holds base w (full p fuel σ μ loc)) : w.cell? ⟨p, 11, none⟩ = some (.slice (ad μ.tra) σ.trail.length (cp μ.tra)) := full_fld H 11 rfl (.fld 11) rfl (ints_length _)
theorem full_d11 (H : Holds base w (full p fuel σ μ loc)) (hp : 0 < σ.trail.length) : w.cell? ⟨p, 11, none⟩ = some (.slice (some ⟨gb μ.tra, 0, none⟩) σ.trail.length (cp μ.tra)) := full_fld1 H 11 rfl (.fld 11) rfl (ints_length _) hp
theorem full_c12 (H : Holds base w (full p fuel σ μ loc)) : w.cell? ⟨p, 12, none⟩ = some (.slice (ad μ.mar) σ.marks.length (cp μ.mar)) := full_fld H 12 rfl (.fld 12) rfl (nats_length _)
theorem full_d12 (H : Holds base w (full p fuel σ μ loc)) (hp : 0 < σ.marks.length) : w.cell? ⟨p, 12, none⟩ = some (.slice (some ⟨gb μ.mar, 0, none⟩) σ.marks.length (cp μ.mar)) := full_fld1 H 12 rfl (.fld 12) rfl (nats_length _) hp
theorem full_c4 (H : Holds base w (full p fuel σ μ loc)) {n : Nat} (hn : μ.vcs.length = n) : w.cell? ⟨p, 4, none⟩ = some (.slice (ad μ.cl) n (cp μ.cl)) := full_fld H 4 rfl (.fld 4) rfl hn
theorem full_d4 (H : Holds base w (full p fuel σ μ loc)) {n : Nat} (hn : μ.vcs.length = n) (hp : 0 < n) : w.cell? ⟨p, 4, none⟩ = some (.slice (some ⟨gb μ.cl, 0, none⟩) n (cp μ.cl)) := full_fld1 H 4 rfl (.fld 4) rfl hn hp
theorem full_c2 (H : Holds base w (full p fuel σ μ loc)) {n : Nat} (hn : μ.vlogs.length = n) : w.cell? ⟨p, 2, none⟩ = some (.slice (ad μ.log) n (cp μ.log)) := full_fld H 2 rfl (.fld 2) rfl hn

theorem full_v6 (H : Holds base w (full p fuel σ μ loc)) {n : Nat} (hn : n < σ.value.length) : w.cell? ⟨gb μ.val, n, none⟩ = some (.int .i8 (at0 σ.value n)) := H.elem (k := .fld 6) rfl (i8s_at _ hn)
theorem full_v7 (H : Holds base w (full p fuel σ μ loc)) {n : Nat} (hn : n < σ.level.length) : w.cell? ⟨gb μ.lev, n, none⟩ = some (.int .i64 (σ.level.getD n 0 : Nat)) := H.elem (k := .fld 7) rfl (nats_at _ hn)
theorem full_v8 (H : Holds base w (full p fuel σ μ loc)) {n : Nat} (hn : n < σ.reason.length) : w.cell? ⟨gb μ.rea, n, none⟩ = some (.int .i64 (at0 σ.reason n)) := H.elem (k := .fld 8) rfl (ints_at _ hn)
theorem full_v9 (H : Holds base w (full p fuel σ μ loc)) {n : Nat} (hn : n < σ.weight.length) : w.cell? ⟨gb μ.wei, n, none⟩ = some (.int .i64 (σ.weight.getD n 0 : Nat)) := H.elem (k := .fld 9) rfl (nats_at _ hn)
theorem full_v10 (H : Holds base w (full p fuel σ μ loc)) {n : Nat} (hn : n < σ.phase.length) : w.cell? ⟨gb μ.pha, n, none⟩ = some (.int .i8 (at0 σ.phase n)) := H.elem (k := .fld 10) rfl (i8s_at _ hn)
theorem full_v11 (H : Holds base w (full p fuel σ μ loc)) {n : Nat} (hn : n < σ.trail.length) : w.cell? ⟨gb μ.tra, n, none⟩ = some (.int .i64 (at0 σ.trail n)) := H.elem (k := .fld 11) rfl (ints_at _ hn)
theorem full_v12 (H : Holds base w (full p fuel σ μ loc)) {n : Nat} (hn : n < σ.marks.length) : w.cell? ⟨gb μ.mar, n, none⟩ = some (.int .i64 (σ.marks.getD n 0 : Nat)) := H.elem (k := .fld 12) rfl (nats_at _ hn)
theorem full_f6 (H : Holds base w (full p fuel σ μ loc)) (hp : 0 < σ.value.length) (i : Nat) : w.frozen? ⟨gb μ.val, i, none⟩ = false := H.free (k := .fld 6) rfl (by rw [i8s_length]; exact hp) i
theorem full_f7 (H : Holds base w (full p fuel σ μ loc)) (hp : 0 < σ.level.length) (i : Nat) : w.frozen? ⟨gb μ.lev, i, none⟩ = false := H.free (k := .fld 7) rfl (by rw [nats_length]; exact hp) i
theorem full_f8 (H : Holds base w (full p fuel σ μ loc)) (hp : 0 < σ.reason.length) (i : Nat) : w.frozen? ⟨gb μ.rea, i, none⟩ = false := H.free (k := .fld 8) rfl (by rw [ints_length]; exact hp) i
theorem full_f9 (H : Holds base w (full p fuel σ μ loc)) (hp : 0 < σ.weight.length) (i : Nat) : w.frozen? ⟨gb μ.wei, i, none⟩ = false := H.free (k := .fld 9) rfl (by rw [nats_length]; exact hp) i
theorem full_f10 (H : Holds base w (full p fuel σ μ loc)) (hp : 0 < σ.phase.length) (i : Nat) : w.frozen? ⟨gb μ.pha, i, none⟩ = false := H.free (k := .fld 10) rfl (by rw [i8s_length]; exact hp) i

theorem full_b6 (H : Holds base w (full p fuel σ μ loc)) (hp : 0 < σ.value.length) : (full p fuel σ μ loc (.fld 6)).blk = some (gb μ.val) := H.gb_ rfl (by rw [i8s_length]; exact hp)
theorem full_b7 (H : Holds base w (full p fuel σ μ loc)) (hp : 0 < σ.level.length) : (full p fuel σ μ loc (.fld 7)).blk = some (gb μ.lev) := H.gb_ rfl (by rw [nats_length]; exact hp)
theorem full_b8 (H : Holds base w (full p fuel σ μ loc)) (hp : 0 < σ.reason.length) : (full p fuel σ μ loc (.fld 8)).blk = some (gb μ.rea) := H.gb_ rfl (by rw [ints_length]; exact hp)
theorem full_b9 (H : Holds base w (full p fuel σ μ loc)) (hp : 0 < σ.weight.length) : (full p fuel σ μ loc (.fld 9)).blk = some (gb μ.wei) := H.gb_ rfl (by rw [nats_length]; exact hp)
theorem full_b10 (H : Holds base w (full p fuel σ μ loc)) (hp : 0 < σ.phase.length) : (full p fuel σ μ loc (.fld 10)).blk = some (gb μ.pha) := H.gb_ rfl (by rw [i8s_length]; exact hp)
theorem full_b11 (H : Holds base w (full p fuel σ μ loc)) (hp : 0 < σ.trail.length) : (full p fuel σ μ loc (.fld 11)).blk = some (gb μ.tra) := H.gb_ rfl (by rw [ints_length]; exact hp)
end

/-! What is written is the solver again. -/
section
variable (p fuel : Nat) (σ : S) (μ : Vals) (loc : Nat → Res)

theorem abs_st {cs : List Value} {σ' : S} {μ' : Vals} (hc : cs = stCells fuel σ' μ') (h : ∀ k, k ≠ .st → full p fuel σ μ loc k = full p fuel σ' μ' loc k) : upd (full p fuel σ μ loc) .st (.cells p cs 75) = full p fuel σ' μ' loc := by
  funext k
  by_cases e : k = .st
  · subst e; rw [upd_same, hc]; rfl
  · rw [upd_other _ _ e]; exact h k e
theorem abs_6 (xs : List Int) : upd (full p fuel σ μ loc) (.fld 6) (.row μ.val 90 (i8s xs)) = full p fuel { σ with value := xs } μ loc := by
  funext k; unfold upd; split
  · rename_i h; subst h; rfl
  · unfold full; split <;> simp_all [stCells]
theorem abs_7 (xs : List Nat) : upd (full p fuel σ μ loc) (.fld 7) (.row μ.lev 3 (nats xs)) = full p fuel { σ with level := xs } μ loc := by
  funext k; unfold upd; split
  · rename_i h; subst h; rfl
  · unfold full; split <;> simp_all [stCells]
theorem abs_8 (xs : List Int) : upd (full p fuel σ μ loc) (.fld 8) (.row μ.rea 3 (ints xs)) = full p fuel { σ with reason := xs } μ loc := by
  funext k; unfold upd; split
  · rename_i h; subst h; rfl
  · unfold full; split <;> simp_all [stCells]
theorem abs_9 (xs : List Nat) : upd (full p fuel σ μ loc) (.fld 9) (.row μ.wei 3 (nats xs)) = full p fuel { σ with weight := xs } μ loc := by
  funext k; unfold upd; split
  · rename_i h; subst h; rfl
  · unfold full; split <;> simp_all [stCells]
theorem abs_10 (xs : List Int) : upd (full p fuel σ μ loc) (.fld 10) (.row μ.pha 90 (i8s xs)) = full p fuel { σ with phase := xs } μ loc := by
  funext k; unfold upd; split
  · rename_i h; subst h; rfl
  · unfold full; split <;> simp_all [stCells]
/-- A field's slice and its cell in the struct. -/
theorem abs_11 (v : Value) (xs : List Int) : upd (upd (full p fuel σ μ loc) (.fld 11) (.row v 3 (ints xs))) .st (.cells p ((stCells fuel σ μ).set 11 v) 75) = full p fuel { σ with trail := xs } { μ with tra := v } loc := by
  funext k; unfold upd; split
  · rename_i h; subst h; rfl
  · split
    · rename_i h; subst h; rfl
    · unfold full; split <;> simp_all [Vals.wkv]
theorem abs_12 (v : Value) (xs : List Nat) : upd (upd (full p fuel σ μ loc) (.fld 12) (.row v 3 (nats xs))) .st (.cells p ((stCells fuel σ μ).set 12 v) 75) = full p fuel { σ with marks := xs } { μ with mar := v } loc := by
  funext k; unfold upd; split
  · rename_i h; subst h; rfl
  · split
    · rename_i h; subst h; rfl
    · unfold full; split <;> simp_all [Vals.wkv]
theorem abs_steps (n : Nat) : upd (full p fuel σ μ loc) .st (.cells p ((stCells fuel σ μ).set 0 (.int .i64 (n : Int))) 75) = full p fuel { σ with steps := n } μ loc := by
  refine abs_st _ _ _ _ _ rfl fun k hk => ?_
  unfold full; split <;> simp_all
theorem abs_head (n : Nat) : upd (full p fuel σ μ loc) .st (.cells p ((stCells fuel σ μ).set 13 (.int .i64 (n : Int))) 75) = full p fuel { σ with head := n } μ loc := by
  refine abs_st _ _ _ _ _ rfl fun k hk => ?_
  unfold full; split <;> simp_all
theorem abs_broken (b : Bool) : upd (full p fuel σ μ loc) .st (.cells p ((stCells fuel σ μ).set 14 (.bool b)) 75) = full p fuel { σ with broken := b } μ loc := by
  refine abs_st _ _ _ _ _ rfl fun k hk => ?_
  unfold full; split <;> simp_all
theorem abs_h6 (v : Value) (xs : List Int) : upd (upd (full p fuel σ μ loc) (.fld 6) (.row v 90 (i8s xs))) .st (.cells p ((stCells fuel σ μ).set 6 v) 75) = full p fuel { σ with value := xs } { μ with val := v } loc := by
  funext k; unfold upd; split
  · rename_i h; subst h; rfl
  · split
    · rename_i h; subst h; rfl
    · unfold full; split <;> simp_all [Vals.wkv]
theorem abs_h7 (v : Value) (xs : List Nat) : upd (upd (full p fuel σ μ loc) (.fld 7) (.row v 3 (nats xs))) .st (.cells p ((stCells fuel σ μ).set 7 v) 75) = full p fuel { σ with level := xs } { μ with lev := v } loc := by
  funext k; unfold upd; split
  · rename_i h; subst h; rfl
  · split
    · rename_i h; subst h; rfl
    · unfold full; split <;> simp_all [Vals.wkv]
theorem abs_h8 (v : Value) (xs : List Int) : upd (upd (full p fuel σ μ loc) (.fld 8) (.row v 3 (ints xs))) .st (.cells p ((stCells fuel σ μ).set 8 v) 75) = full p fuel { σ with reason := xs } { μ with rea := v } loc := by
  funext k; unfold upd; split
  · rename_i h; subst h; rfl
  · split
    · rename_i h; subst h; rfl
    · unfold full; split <;> simp_all [Vals.wkv]
theorem abs_h9 (v : Value) (xs : List Nat) : upd (upd (full p fuel σ μ loc) (.fld 9) (.row v 3 (nats xs))) .st (.cells p ((stCells fuel σ μ).set 9 v) 75) = full p fuel { σ with weight := xs } { μ with wei := v } loc := by
  funext k; unfold upd; split
  · rename_i h; subst h; rfl
  · split
    · rename_i h; subst h; rfl
    · unfold full; split <;> simp_all [Vals.wkv]
theorem abs_h10 (v : Value) (xs : List Int) : upd (upd (full p fuel σ μ loc) (.fld 10) (.row v 90 (i8s xs))) .st (.cells p ((stCells fuel σ μ).set 10 v) 75) = full p fuel { σ with phase := xs } { μ with pha := v } loc := by
  funext k; unfold upd; split
  · rename_i h; subst h; rfl
  · split
    · rename_i h; subst h; rfl
    · unfold full; split <;> simp_all [Vals.wkv]
end

/-! A slice of the struct's that was appended to is stored back. -/
section
variable {base p fuel : Nat} {w : World} {σ : S} {μ : Vals} {loc : Nat → Res}
theorem put_base {k : Key} {r : Res} (hk : k ≠ .st) (H : Holds base w (upd (full p fuel σ μ loc) k r)) : base ≤ w.heap.size ∧ base ≤ p := by
  have h := H.lt .st (b := p) (by rw [upd_other _ _ (Ne.symm hk)]; rfl)
  omega
theorem put_st {k : Key} {r : Res} (hk : k ≠ .st) : upd (full p fuel σ μ loc) k r .st = .cells p (stCells fuel σ μ) 75 := by rw [upd_other _ _ (Ne.symm hk)]; rfl
theorem put_cell {k : Key} {r : Res} (hk : k ≠ .st) (H : Holds base w (upd (full p fuel σ μ loc) k r)) (i : Nat) {v : Value} (hv : (stCells fuel σ μ)[i]? = some v) : w.cell? ⟨p, i, none⟩ = some v := H.cell (k := .st) (put_st hk) i hv
theorem put_fld {k k' : Key} {r : Res} (hk : k ≠ .st) (hkk : k' ≠ k) (H : Holds base w (upd (full p fuel σ μ loc) k r)) (i : Nat) {v : Value} {t : TypeId} {xs : List Value} (hv : (stCells fuel σ μ)[i]? = some v) (hk' : full p fuel σ μ loc k' = .row v t xs) {n : Nat} (hn : xs.length = n) :
    w.cell? ⟨p, i, none⟩ = some (.slice (ad v) n (cp v)) := by
  rw [put_cell hk H i hv, ← hn, ← H.sl (k := k') (t := t) (xs := xs) (by rw [upd_other _ _ hkk]; exact hk')]
theorem put_free {k : Key} {r : Res} (hk : k ≠ .st) (H : Holds base w (upd (full p fuel σ μ loc) k r)) (i : Nat) : w.frozen? ⟨p, i, none⟩ = false := H.cellFree (k := .st) (put_st hk) i

theorem back_6 {v : Value} {xs : List Int} (H : Holds base w (upd (full p fuel σ μ loc) (.fld 6) (.row v 90 (i8s xs)))) (G : Good σ μ) :
    Holds base (w.setCell ⟨p, 6, none⟩ v) (full p fuel { σ with value := xs } { μ with val := v } loc) ∧ Good { σ with value := xs } { μ with val := v } := by
  have H1 := H.setCell (k := .st) (put_st (by simp)) 6 v (put_base (by simp) H).1
  rw [abs_h6] at H1
  exact ⟨H1, ⟨G.vcs, G.vlogs, G.wk, G.not, G.failed⟩⟩
theorem back_7 {v : Value} {xs : List Nat} (H : Holds base w (upd (full p fuel σ μ loc) (.fld 7) (.row v 3 (nats xs)))) (G : Good σ μ) :
    Holds base (w.setCell ⟨p, 7, none⟩ v) (full p fuel { σ with level := xs } { μ with lev := v } loc) ∧ Good { σ with level := xs } { μ with lev := v } := by
  have H1 := H.setCell (k := .st) (put_st (by simp)) 7 v (put_base (by simp) H).1
  rw [abs_h7] at H1
  exact ⟨H1, ⟨G.vcs, G.vlogs, G.wk, G.not, G.failed⟩⟩
theorem back_8 {v : Value} {xs : List Int} (H : Holds base w (upd (full p fuel σ μ loc) (.fld 8) (.row v 3 (ints xs)))) (G : Good σ μ) :
    Holds base (w.setCell ⟨p, 8, none⟩ v) (full p fuel { σ with reason := xs } { μ with rea := v } loc) ∧ Good { σ with reason := xs } { μ with rea := v } := by
  have H1 := H.setCell (k := .st) (put_st (by simp)) 8 v (put_base (by simp) H).1
  rw [abs_h8] at H1
  exact ⟨H1, ⟨G.vcs, G.vlogs, G.wk, G.not, G.failed⟩⟩
theorem back_9 {v : Value} {xs : List Nat} (H : Holds base w (upd (full p fuel σ μ loc) (.fld 9) (.row v 3 (nats xs)))) (G : Good σ μ) :
    Holds base (w.setCell ⟨p, 9, none⟩ v) (full p fuel { σ with weight := xs } { μ with wei := v } loc) ∧ Good { σ with weight := xs } { μ with wei := v } := by
  have H1 := H.setCell (k := .st) (put_st (by simp)) 9 v (put_base (by simp) H).1
  rw [abs_h9] at H1
  exact ⟨H1, ⟨G.vcs, G.vlogs, G.wk, G.not, G.failed⟩⟩
theorem back_10 {v : Value} {xs : List Int} (H : Holds base w (upd (full p fuel σ μ loc) (.fld 10) (.row v 90 (i8s xs)))) (G : Good σ μ) :
    Holds base (w.setCell ⟨p, 10, none⟩ v) (full p fuel { σ with phase := xs } { μ with pha := v } loc) ∧ Good { σ with phase := xs } { μ with pha := v } := by
  have H1 := H.setCell (k := .st) (put_st (by simp)) 10 v (put_base (by simp) H).1
  rw [abs_h10] at H1
  exact ⟨H1, ⟨G.vcs, G.vlogs, G.wk, G.not, G.failed⟩⟩
theorem back_11 {v : Value} {xs : List Int} (H : Holds base w (upd (full p fuel σ μ loc) (.fld 11) (.row v 3 (ints xs)))) (G : Good σ μ) :
    Holds base (w.setCell ⟨p, 11, none⟩ v) (full p fuel { σ with trail := xs } { μ with tra := v } loc) ∧ Good { σ with trail := xs } { μ with tra := v } := by
  have H1 := H.setCell (k := .st) (put_st (by simp)) 11 v (put_base (by simp) H).1
  rw [abs_11] at H1
  exact ⟨H1, ⟨G.vcs, G.vlogs, G.wk, G.not, G.failed⟩⟩
theorem back_12 {v : Value} {xs : List Nat} (H : Holds base w (upd (full p fuel σ μ loc) (.fld 12) (.row v 3 (nats xs)))) (G : Good σ μ) :
    Holds base (w.setCell ⟨p, 12, none⟩ v) (full p fuel { σ with marks := xs } { μ with mar := v } loc) ∧ Good { σ with marks := xs } { μ with mar := v } := by
  have H1 := H.setCell (k := .st) (put_st (by simp)) 12 v (put_base (by simp) H).1
  rw [abs_12] at H1
  exact ⟨H1, ⟨G.vcs, G.vlogs, G.wk, G.not, G.failed⟩⟩
end

/-! The map of watched literals. -/
def Vals.w0 (μ : Vals) (l : Int) : Value := if l ∈ μ.wk then μ.wv l else .slice none 0 0
def Vals.setW (μ : Vals) (l : Int) (v : Value) : Vals := { μ with wk := if l ∈ μ.wk then μ.wk else μ.wk ++ [l], wv := fun x => if x = l then v else μ.wv x }

theorem look_wkv (wk : List Int) (wv : Int → Value) (l : Int) : (look (wk.map fun k => (k, wv k)) l).getD (.slice none 0 0) = if l ∈ wk then wv l else .slice none 0 0 := by
  induction wk with
  | nil => simp [look]
  | cons a wk ih =>
    simp only [List.map_cons, look]
    by_cases h : l = a
    · subst h; simp
    · rw [if_neg h, ih]; simp [h]
theorem putM_wkv (wk : List Int) (wv : Int → Value) (l : Int) (v : Value) (hn : wk.Nodup) :
    putM (wk.map fun k => (k, wv k)) l v = (if l ∈ wk then wk else wk ++ [l]).map fun k => (k, if k = l then v else wv k) := by
  induction wk with
  | nil => simp [putM]
  | cons a wk ih =>
    simp only [List.map_cons, putM]
    rw [List.nodup_cons] at hn
    by_cases h : l = a
    · subst h
      simp only [if_true, List.mem_cons, true_or, List.map_cons]
      congr 1
      apply List.map_congr_left
      intro x hx
      rw [if_neg (fun (e : x = l) => hn.1 (e ▸ hx))]
    · rw [if_neg h, ih hn.2]
      by_cases hl : l ∈ wk
      · simp [h, hl, Ne.symm h]
      · simp [h, hl, Ne.symm h]

section
variable {base p fuel : Nat} {w : World} {σ : S} {μ : Vals} {loc : Nat → Res}

theorem w0_blk (l : Int) : (full p fuel σ μ loc (.wt l)).blk = (μ.w0 l).ownBlock := by
  show (if l ∈ μ.wk then Res.row (μ.wv l) 3 (nats (σ.watch l)) else .non).blk = _
  unfold Vals.w0
  split <;> rfl
theorem w0_owns (H : Holds base w (full p fuel σ μ loc)) (G : Good σ μ) (l : Int) : w.ownsRow 0 3 1 (μ.w0 l) (σ.watch l).length (nats (σ.watch l)) := by
  by_cases h : l ∈ μ.wk
  · have := H.owns (k := .wt l) (v := μ.wv l) (t := 3) (xs := nats (σ.watch l)) (by show (if l ∈ μ.wk then _ else _) = _; rw [if_pos h])
    rw [nats_length] at this
    simpa [Vals.w0, h] using this
  · rw [G.not l h]
    simp only [Vals.w0, if_neg h]
    exact World.ownsRow_nil w 0 3 1
theorem w0_form (H : Holds base w (full p fuel σ μ loc)) (G : Good σ μ) (l : Int) : μ.w0 l = .slice (ad (μ.w0 l)) (σ.watch l).length (cp (μ.w0 l)) := by
  rcases (w0_owns H G l).2 with ⟨h, h0⟩ | ⟨g, cap, cur, h, _⟩
  · rw [h, h0]; rfl
  · rw [h]; rfl
theorem w0_at (H : Holds base w (full p fuel σ μ loc)) (G : Good σ μ) (l : Int) (hp : 0 < (σ.watch l).length) : ad (μ.w0 l) = some ⟨gb (μ.w0 l), 0, none⟩ := by
  rcases (w0_owns H G l).2 with ⟨h, h0⟩ | ⟨g, cap, cur, h, _⟩
  · omega
  · rw [h]; rfl
theorem w0_elem (H : Holds base w (full p fuel σ μ loc)) (G : Good σ μ) (l : Int) {i : Nat} (hi : i < (σ.watch l).length) : w.cell? ⟨gb (μ.w0 l), i, none⟩ = some (.int .i64 ((σ.watch l).getD i 0 : Nat)) := by
  have ho := w0_owns H G l
  rw [w0_form H G l, w0_at H G l (by omega)] at ho
  have := ho.cellAt i (by omega)
  rw [this, nats_at _ hi]
theorem full_map (H : Holds base w (full p fuel σ μ loc)) : MapAt w μ.mb (kvs ikey μ.wkv) := H.holds .mp
theorem full_c5 (H : Holds base w (full p fuel σ μ loc)) : w.cell? ⟨p, 5, none⟩ = some (.map (some μ.mb)) := full_cell H 5 rfl

/-- A list of watchers that was written is stored into the map. -/
theorem abs_w (G : Good σ μ) (l : Int) (v : Value) (ks : List Nat) :
    upd (upd (full p fuel σ μ loc) (.wt l) (.row v 3 (nats ks))) .mp (.mapB μ.mb (kvs ikey (putM μ.wkv l v))) = full p fuel (σ.setWatch l ks) (μ.setW l v) loc := by
  have e : putM μ.wkv l v = (μ.setW l v).wkv := putM_wkv μ.wk μ.wv l v G.wk
  funext k
  by_cases h : k = .mp
  · subst h; rw [upd_same, e]; rfl
  · rw [upd_other _ _ h]
    by_cases h2 : k = .wt l
    · subst h2
      rw [upd_same]
      show _ = (if l ∈ (μ.setW l v).wk then Res.row ((μ.setW l v).wv l) 3 (nats ((σ.setWatch l ks).watch l)) else .non)
      rw [if_pos (by simp only [Vals.setW]; split <;> simp_all)]
      simp [Vals.setW, S.setWatch]
    · rw [upd_other _ _ h2]
      cases k with
      | wt x =>
        have hx : x ≠ l := fun e => h2 (by rw [e])
        show (if x ∈ μ.wk then Res.row (μ.wv x) 3 (nats (σ.watch x)) else .non) = (if x ∈ (μ.setW l v).wk then Res.row ((μ.setW l v).wv x) 3 (nats ((σ.setWatch l ks).watch x)) else .non)
        have hm : x ∈ (μ.setW l v).wk ↔ x ∈ μ.wk := by
          simp only [Vals.setW]; split <;> simp [hx]
        have e1 : (μ.setW l v).wv x = μ.wv x := by simp [Vals.setW, hx]
        have e2 : (σ.setWatch l ks).watch x = σ.watch x := by simp [S.setWatch, hx]
        rw [e1, e2]
        by_cases hxk : x ∈ μ.wk
        · rw [if_pos hxk, if_pos (hm.2 hxk)]
        · rw [if_neg hxk, if_neg (fun c => hxk (hm.1 c))]
      | mp => exact absurd rfl h
      | st => rfl
      | fld i => unfold full; split <;> simp_all [Vals.setW, S.setWatch]
      | cls i => rfl
      | log i => rfl
      | loc i => rfl
theorem good_w (G : Good σ μ) (l : Int) (v : Value) (ks : List Nat) : Good (σ.setWatch l ks) (μ.setW l v) := by
  refine ⟨G.vcs, G.vlogs, ?_, fun x hx => ?_, G.failed⟩
  · simp only [Vals.setW]
    split
    · exact G.wk
    · rename_i h
      rw [List.nodup_append]
      refine ⟨G.wk, by simp, ?_⟩
      intro a ha b hb e
      simp at hb; subst hb; subst e; exact h ha
  · have hx' : x ∉ μ.wk ∧ x ≠ l := by
      simp only [Vals.setW] at hx
      split at hx
      · rename_i h; exact ⟨hx, fun e => hx (e ▸ h)⟩
      · simp at hx; exact ⟨hx.1, hx.2⟩
    simp only [S.setWatch, if_neg hx'.2]
    exact G.not x hx'.1
end

/-! 'watch[l] = append(watch[l], k)'. -/
section
variable {base p fuel : Nat} {w w1 w2 : World} {σ : S} {μ : Vals} {loc : Nat → Res}
theorem push_map {l : Int} {v : Value} {xs : List Value} (H : Holds base w (upd (full p fuel σ μ loc) (.wt l) (.row v 3 xs))) : MapAt w μ.mb (kvs ikey μ.wkv) := by
  have := H.holds .mp
  rw [upd_other _ _ (by simp)] at this
  exact this
theorem push_done {l : Int} {v : Value} {k : Nat} (G : Good σ μ) (H : Holds base w1 (upd (full p fuel σ μ loc) (.wt l) (.row v 3 (nats (σ.watch l) ++ [.int .i64 (k : Int)])))) (hm : MapAt w2 μ.mb (kvs ikey (putM μ.wkv l v))) (hg : w1.grownBy w2 (some μ.mb)) :
    Holds base w2 (full p fuel (σ.watchMore l k) (μ.setW l v) loc) ∧ Good (σ.watchMore l k) (μ.setW l v) ∧ Below base w1 w2 := by
  have hmp : upd (full p fuel σ μ loc) (.wt l) (.row v 3 (nats (σ.watch l) ++ [.int .i64 (k : Int)])) .mp = .mapB μ.mb (kvs ikey μ.wkv) := by rw [upd_other _ _ (by simp)]; rfl
  have hb := (put_base (by simp) H).1
  have H2 := H.put .mp (.mapB μ.mb (kvs ikey (putM μ.wkv l v))) hg (fun b hb => .inl (by rw [hmp]; exact hb)) hm (fun b hb => .inl (by rw [hmp]; exact hb)) hb
  rw [nats_snoc, abs_w G] at H2
  exact ⟨H2, good_w G l v _, (Below.refl base w1).grown hg hb (fun b hb' => H.base .mp b (by rw [hmp]; exact hb'))⟩
/-- A new clause: its slice is stored, and it goes under the clauses' names. -/
theorem abs_keep {c : List Int} {vc v : Value} (G : Good σ μ) (hl : loc 0 = .row vc 3 (ints c)) (H : Holds base w (upd (full p fuel σ μ loc) (.fld 4) (.row v 23 (μ.vcs ++ [vc])))) :
    Holds base (w.setCell ⟨p, 4, none⟩ v) (full p fuel { σ with clauses := σ.clauses ++ [c] } { μ with cl := v, vcs := μ.vcs ++ [vc] } (fun i => if i = 0 then .non else loc i)) ∧
      Good { σ with clauses := σ.clauses ++ [c] } { μ with cl := v, vcs := μ.vcs ++ [vc] } := by
  have H1 := H.setCell (k := .st) (put_st (by simp)) 4 v (put_base (by simp) H).1
  have H2 := H1.move (.loc 0) (.cls σ.clauses.length)
  refine ⟨?_, ⟨by simp [G.vcs], G.vlogs, G.wk, G.not, G.failed⟩⟩
  have e : upd (upd (upd (upd (full p fuel σ μ loc) (.fld 4) (.row v 23 (μ.vcs ++ [vc]))) .st (.cells p ((stCells fuel σ μ).set 4 v) 75)) (.cls σ.clauses.length) (upd (upd (full p fuel σ μ loc) (.fld 4) (.row v 23 (μ.vcs ++ [vc]))) .st (.cells p ((stCells fuel σ μ).set 4 v) 75) (.loc 0))) (.loc 0) .non =
      full p fuel { σ with clauses := σ.clauses ++ [c] } { μ with cl := v, vcs := μ.vcs ++ [vc] } (fun i => if i = 0 then .non else loc i) := by
    funext k
    cases k with
    | st => rfl
    | fld i =>
      by_cases hi : i = 4
      · subst hi; rfl
      · rw [upd_other _ _ (by simp), upd_other _ _ (by simp), upd_other _ _ (by simp), upd_other _ _ (by simpa using hi)]
        unfold full; split <;> simp_all
    | cls i =>
      rw [upd_other _ _ (by simp)]
      by_cases hi : i = σ.clauses.length
      · subst hi
        rw [upd_same, upd_other _ _ (by simp), upd_other _ _ (by simp)]
        show loc 0 = rowAt (μ.vcs ++ [vc]) 3 (σ.clauses ++ [c]) σ.clauses.length
        rw [hl]
        have : μ.vcs.length = σ.clauses.length := G.vcs
        simp [rowAt, ← this]
      · rw [upd_other _ _ (by simpa using hi), upd_other _ _ (by simp), upd_other _ _ (by simp)]
        show rowAt μ.vcs 3 σ.clauses i = rowAt (μ.vcs ++ [vc]) 3 (σ.clauses ++ [c]) i
        have hv : μ.vcs.length = σ.clauses.length := G.vcs
        unfold rowAt
        by_cases h2 : i < σ.clauses.length
        · rw [List.getElem?_append_left (by omega), List.getElem?_append_left h2]
        · rw [List.getElem?_eq_none (by omega), List.getElem?_eq_none (l := μ.vcs ++ [vc]) (by simp; omega)]
    | log i => rfl
    | mp => rfl
    | wt x => rfl
    | loc i =>
      by_cases hi : i = 0
      · subst hi; rfl
      · rw [upd_other _ _ (by simpa using hi), upd_other _ _ (by simp), upd_other _ _ (by simp), upd_other _ _ (by simp)]
        show loc i = if i = 0 then .non else loc i
        rw [if_neg hi]
  rw [e] at H2
  exact H2
end

/-- 'append(watch[l], k)' within a region that draws its order. -/
theorem step_pushW {P : Program} {ops : Array Oper} {o : Oper} {a : Act} {Q : Exit → Act → World → Prop} {K : Act → World → Prop} {E : Prop}
    {base p fuel : Nat} {W : World} {σ : S} {μ : Vals} {loc : Nat → Res} (H : Holds base W (full p fuel σ μ loc)) (G : Good σ μ) (l : Int) (k : Nat) (hgd : o.guard = none) (s x : Operand)
    (ho : o.op = .call { callee := .builtin .append, args := #[s, x], argTypes := #[23, 23] })
    (ht : P.underlying 23 = some (.slice 3)) (hinfo : (P.info? 3).map (fun i => (i.zero, i.size, i.bytes)) = some (some (.int .i64 0), 1, 8))
    (hs : a.eval s = .slice (ad (μ.w0 l)) (σ.watch l).length (cp (μ.w0 l))) (b : Nat) (hx : a.eval x = .slice (some ⟨b, 0, none⟩) 1 1)
    (hy : W.cell? ⟨b, 0, none⟩ = some (.int .i64 (k : Int))) (hl : (σ.watch l).length < 60000)
    (h : ∀ A c w1, Holds base w1 (upd (full p fuel σ μ loc) (.wt l) (.row (.slice A ((σ.watch l).length + 1) c) 3 (nats (σ.watch l) ++ [.int .i64 (k : Int)]))) → Below base W w1 → K (a.put o.dst (.slice A ((σ.watch l).length + 1) c)) w1) :
    if Region.wanted o (yielded ops a.tmps) = true then Oper.wp P o a W K Q else E := by
  have hn := nats_length (σ.watch l)
  have hown : W.ownsRow 0 3 1 (μ.w0 l) (nats (σ.watch l)).length (nats (σ.watch l)) := by rw [hn]; exact w0_owns H G l
  refine step_push H (.wt l) hgd s x 23 3 (.int .i64 0) 8 ho ht hinfo rfl (by decide) (μ.w0 l) (nats (σ.watch l)) (.int .i64 (k : Int)) (w0_blk l) hown (by rw [hs, ← w0_form H G l]) b hx hy rfl (full_base H) (by rw [hn]; omega) ?_
  rw [hn]
  exact fun A c w1 h1 h2 _ => h A c w1 h1 h2

/-- 'Post', and the clauses' slices are where they were, and so are the lists of watchers that have not changed. -/
def PostK (base : Nat) (w : World) (p fuel : Nat) (σ σ' : S) (μ : Vals) (loc : Nat → Res) (w' : World) : Prop :=
  ∃ μ', Holds base w' (full p fuel σ' μ' loc) ∧ Good σ' μ' ∧ Below base w w' ∧ μ'.vcs = μ.vcs ∧ ∀ x, σ'.watch x = σ.watch x → μ'.w0 x = μ.w0 x
theorem PostK.post {base : Nat} {w w' : World} {p fuel : Nat} {σ σ' : S} {μ : Vals} {loc : Nat → Res} (h : PostK base w p fuel σ σ' μ loc w') : Post base w p fuel σ' loc w' := by
  obtain ⟨μ', h1, h2, h3, _⟩ := h
  exact ⟨μ', h1, h2, h3⟩

/-! A clause. -/
section
variable {base p fuel : Nat} {w : World} {σ : S} {μ : Vals} {loc : Nat → Res}
theorem cls_row (G : Good σ μ) {k : Nat} (hk : k < σ.clauses.length) : ∃ v, μ.vcs[k]? = some v ∧ full p fuel σ μ loc (.cls k) = .row v 3 (ints (σ.clause k)) := by
  have hv : k < μ.vcs.length := by rw [G.vcs]; exact hk
  refine ⟨μ.vcs[k], by simp [hv], ?_⟩
  show rowAt μ.vcs 3 σ.clauses k = _
  simp [rowAt, hv, hk, S.clause]
theorem abs_cls {k : Nat} {v : Value} (hv : μ.vcs[k]? = some v) (hk : k < σ.clauses.length) (c : List Int) : upd (full p fuel σ μ loc) (.cls k) (.row v 3 (ints c)) = full p fuel (σ.setClause k c) μ loc := by
  funext q
  by_cases h : q = .cls k
  · subst h
    rw [upd_same]
    show _ = rowAt μ.vcs 3 (σ.clauses.set k c) k
    simp [rowAt, hv, hk]
  · rw [upd_other _ _ h]
    cases q with
    | cls i =>
      have hi : k ≠ i := fun e => h (by rw [e])
      show rowAt μ.vcs 3 σ.clauses i = rowAt μ.vcs 3 (σ.clauses.set k c) i
      unfold rowAt
      rw [List.getElem?_set_ne hi]
    | st => rfl
    | fld i => unfold full; split <;> simp_all [S.setClause]
    | log i => rfl
    | mp => rfl
    | wt x => rfl
    | loc i => rfl
theorem good_cls (G : Good σ μ) (k : Nat) (c : List Int) : Good (σ.setClause k c) μ := ⟨by simp [S.setClause, G.vcs], G.vlogs, G.wk, G.not, G.failed⟩
theorem clause_set {k : Nat} (hk : k < σ.clauses.length) (c : List Int) : (σ.setClause k c).clause k = c := by simp [S.setClause, S.clause, hk]
theorem swap_length (c : List Int) (i j : Nat) : (swap c i j).length = c.length := by simp [swap]
theorem swap_at0 (c : List Int) (h1 : 1 < c.length) : at0 (swap c 0 1) 0 = at0 c 1 := by
  unfold swap at0
  rw [List.getD_eq_getElem?_getD, List.getElem?_set_ne (by omega)]
  simp [show 0 < c.length by omega]
theorem swap_at1 (c : List Int) {i : Nat} (h1 : 1 < c.length) (hi : 1 < i) : at0 (swap c 1 i) 1 = at0 c i := by
  unfold swap at0
  rw [List.getD_eq_getElem?_getD, List.getElem?_set_ne (by omega)]
  simp [h1]

/-- Two literals of a clause are exchanged. -/
theorem swap_cls (H : Holds base w (full p fuel σ μ loc)) (G : Good σ μ) {k a b : Nat} {v : Value} (hv : μ.vcs[k]? = some v) (hk : k < σ.clauses.length) (ha : a < (σ.clause k).length) (hb : b < (σ.clause k).length) :
    Holds base ((w.setCell ⟨gb v, a, none⟩ (.int .i64 (at0 (σ.clause k) b))).setCell ⟨gb v, b, none⟩ (.int .i64 (at0 (σ.clause k) a))) (full p fuel (σ.setClause k (swap (σ.clause k) a b)) μ loc) := by
  obtain ⟨v', hv', hrow⟩ := cls_row (p := p) (fuel := fuel) (loc := loc) G hk
  have e : v' = v := by rw [hv] at hv'; injection hv' with h; exact h.symm
  subst e
  have H1 := H.store (k := .cls k) hrow (i := a) (by rw [ints_length]; exact ha) (.int .i64 (at0 (σ.clause k) b)) (full_base H)
  rw [ints_set, abs_cls hv hk] at H1
  have G1 := good_cls G k ((σ.clause k).set a (at0 (σ.clause k) b))
  have hk1 : k < (σ.setClause k ((σ.clause k).set a (at0 (σ.clause k) b))).clauses.length := by simpa [S.setClause] using hk
  obtain ⟨v2, hv2, hrow2⟩ := cls_row (p := p) (fuel := fuel) (loc := loc) G1 hk1
  have e2 : v2 = v' := by rw [hv] at hv2; injection hv2 with h; exact h.symm
  subst e2
  rw [clause_set hk] at hrow2
  have H2 := H1.store (k := .cls k) hrow2 (i := b) (by rw [ints_length]; simpa using hb) (.int .i64 (at0 (σ.clause k) a)) (full_base H1)
  rw [ints_set, abs_cls hv hk1] at H2
  have e3 : (σ.setClause k ((σ.clause k).set a (at0 (σ.clause k) b))).setClause k (((σ.clause k).set a (at0 (σ.clause k) b)).set b (at0 (σ.clause k) a)) = σ.setClause k (swap (σ.clause k) a b) := by simp [S.setClause, swap]
  rw [e3] at H2
  exact H2
end
theorem setW_w0 (μ : Vals) (q : Int) (v : Value) {y : Int} (h : y ≠ q) : (μ.setW q v).w0 y = μ.w0 y := by
  unfold Vals.w0 Vals.setW
  simp only [if_neg h]
  by_cases hy : y ∈ μ.wk
  · rw [if_pos hy, if_pos (by split <;> simp [hy])]
  · rw [if_neg hy, if_neg (by split <;> simp [hy, h])]

end Go.Proofs.YtdllaphnkbnpoaaGreat
