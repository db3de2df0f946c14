/- What the solver of package search computes, as plain functions on lists and numbers: 'none' where Go would panic or a bound of ours is passed. No program in sight. -/
namespace Go.Proofs.YtdllaphnkbnpoaaGreat

/-- The solver's state. -/
structure S where
  steps : Nat
  log : List (List Int)
  clauses : List (List Int)
  watch : Int → List Nat
  value : List Int
  level : List Nat
  reason : List Int
  weight : List Nat
  phase : List Int
  trail : List Int
  marks : List Nat
  head : Nat
  broken : Bool

/-- A literal that the arrays reach. -/
def S.lit (σ : S) (l : Int) : Prop := l ≠ 0 ∧ l.natAbs < σ.value.length ∧ σ.value.length ≤ 60000
instance (σ : S) (l : Int) : Decidable (σ.lit l) := by unfold S.lit; infer_instance

/-- The number at a place. -/
def at0 (xs : List Int) (i : Nat) : Int := xs.getD i 0

def S.of (σ : S) (l : Int) : Int := if l < 0 then -(at0 σ.value l.natAbs) else at0 σ.value l.natAbs
def S.ofO (σ : S) (l : Int) : Option Int :=
  if σ.lit l ∧ -1 ≤ at0 σ.value l.natAbs ∧ at0 σ.value l.natAbs ≤ 1 then some (σ.of l) else none

def sgn (l : Int) : Int := if l < 0 then -1 else 1
def S.set (σ : S) (l r : Int) : S :=
  { σ with value := σ.value.set l.natAbs (sgn l), level := σ.level.set l.natAbs σ.marks.length, reason := σ.reason.set l.natAbs r, trail := σ.trail ++ [l], steps := σ.steps + 1 }
/-- All arrays are of one length. -/
def S.even (σ : S) : Prop := σ.level.length = σ.value.length ∧ σ.reason.length = σ.value.length ∧ σ.weight.length = σ.value.length ∧ σ.phase.length = σ.value.length
instance (σ : S) : Decidable σ.even := by unfold S.even; infer_instance
def S.setO (σ : S) (l r : Int) : Option S :=
  if σ.lit l ∧ σ.even ∧ σ.trail.length < 60000 ∧ σ.steps < 60000 ∧ σ.marks.length ≤ 60000 then some (σ.set l r) else none

/-- One literal is taken back. -/
def S.backOne (σ : S) (l : Int) : S := { σ with phase := σ.phase.set l.natAbs (at0 σ.value l.natAbs), value := σ.value.set l.natAbs 0 }
def S.backAll : List Int → S → Option S
  | [], σ => some σ
  | l :: ls, σ => if σ.lit l ∧ σ.even then S.backAll ls (σ.backOne l) else none
def S.backO (σ : S) (n : Nat) : Option S :=
  if σ.marks.length ≤ n then some σ
  else
    let to := σ.marks.getD n 0
    if to ≤ σ.trail.length ∧ σ.trail.length ≤ 60000 ∧ σ.marks.length ≤ 60000 then
      (S.backAll (σ.trail.drop to) σ).map fun σ' => { σ' with trail := σ'.trail.take to, marks := σ'.marks.take n, head := to }
    else none

def S.growOne (σ : S) : S :=
  { σ with value := σ.value ++ [0], level := σ.level ++ [0], reason := σ.reason ++ [-1], weight := σ.weight ++ [0], phase := σ.phase ++ [-1] }
/-- 'grow(v)': so many rounds. -/
def S.growN : Nat → S → S
  | 0, σ => σ
  | n + 1, σ => S.growN n σ.growOne
def S.growO (σ : S) (v : Nat) : Option S := if σ.even ∧ v < 60000 ∧ σ.value.length ≤ 60000 then some (S.growN (v + 1 - σ.value.length) σ) else none

/-- A list with two places exchanged. -/
def swap (c : List Int) (i j : Nat) : List Int := (c.set i (at0 c j)).set j (at0 c i)

def S.clause (σ : S) (k : Nat) : List Int := σ.clauses.getD k []
def S.setClause (σ : S) (k : Nat) (c : List Int) : S := { σ with clauses := σ.clauses.set k c }
def S.setWatch (σ : S) (l : Int) (ks : List Nat) : S := { σ with watch := fun x => if x = l then ks else σ.watch x }
def S.watchMore (σ : S) (l : Int) (k : Nat) : S := σ.setWatch l (σ.watch l ++ [k])

/-- 'keep(c)'; the number is that of the clause. -/
def S.keep (σ : S) (c : List Int) : S := (({ σ with clauses := σ.clauses ++ [c] } : S).watchMore (at0 c 0) σ.clauses.length).watchMore (at0 c 1) σ.clauses.length
def S.keepO (σ : S) (c : List Int) : Option S :=
  if 2 ≤ c.length ∧ c.length ≤ 60000 ∧ σ.clauses.length < 60000 ∧ (σ.watch (at0 c 0)).length + 1 < 60000 ∧ (σ.watch (at0 c 1)).length + 1 < 60000 then some (σ.keep c) else none

/-- 'moves': from place i on, with so many places left. -/
def S.movesO (σ : S) (k : Nat) : (n i : Nat) → Option (S × Bool)
  | 0, _ => some (σ, false)
  | n + 1, i =>
    (σ.ofO (at0 (σ.clause k) i)).bind fun x =>
      if 0 ≤ x then
        if (σ.watch (at0 (σ.clause k) i)).length < 60000 then some ((σ.setClause k (swap (σ.clause k) 1 i)).watchMore (at0 (σ.clause k) i) k, true) else none
      else S.movesO σ k n (i + 1)

/-- The watched literal l has become false: the clause's first two are put so that l is the second one. -/
def S.turned (σ : S) (l : Int) (k : Nat) : S := if at0 (σ.clause k) 0 = l then σ.setClause k (swap (σ.clause k) 0 1) else σ

/-- The round over the clauses that watch l; the number: a clause that is false, or -1. -/
def S.roundO (l : Int) : List Nat → List Nat → S → Option (S × Int)
  | [], stay, σ => some (σ.setWatch l stay, -1)
  | k :: ks, stay, σ =>
    if k < σ.clauses.length ∧ 2 ≤ (σ.clause k).length ∧ (σ.clause k).length ≤ 60000 ∧ stay.length + ks.length < 60000 then
      let τ := σ.turned l k
      let a := at0 (τ.clause k) 0
      (τ.ofO a).bind fun x =>
        if 0 < x then S.roundO l ks (stay ++ [k]) τ
        else (τ.movesO k ((τ.clause k).length - 2) 2).bind fun (υ, moved) =>
          if υ.watch l = τ.watch l then
            if moved then S.roundO l ks stay υ
            else if x < 0 then some (υ.setWatch l (stay ++ [k] ++ ks), (k : Int))
            else (υ.setO a (k : Int)).bind fun φ => S.roundO l ks (stay ++ [k]) φ
          else none
    else none

/-- 'propagate' with so many rounds at most. -/
def S.propO : Nat → S → Option (S × Int)
  | 0, _ => none
  | n + 1, σ =>
    if σ.trail.length ≤ σ.head then some (σ, -1)
    else
      let l := -(at0 σ.trail σ.head)
      if l ≠ 0 ∧ l.natAbs ≤ 60000 ∧ σ.trail.length ≤ 60000 ∧ (σ.watch l).length ≤ 60000 then
        (S.roundO l (σ.watch l) [] { σ with head := σ.head + 1 }).bind fun (τ, r) =>
          if r = -1 then S.propO n τ else some (τ, r)
      else none


/-- What 'learn' keeps beside the solver: the variables seen, how many of this level are open, the literals below. -/
structure Scan where
  seen : List Bool
  opn : Int
  rest : List Int

/-- The scan of a clause's literals. -/
def S.scanO (now : Nat) (skip : Int) : List Int → S → Scan → Option (S × Scan)
  | [], σ, q => some (σ, q)
  | l :: ls, σ, q =>
    if σ.lit l ∧ σ.even ∧ q.seen.length = σ.value.length ∧ 0 ≤ q.opn ∧ q.opn ≤ 60000 ∧ q.rest.length < 60000 ∧ σ.weight.getD l.natAbs 0 < 60000 then
      if l = skip ∨ q.seen.getD l.natAbs false = true ∨ σ.level.getD l.natAbs 0 = 0 then S.scanO now skip ls σ q
      else if σ.level.getD l.natAbs 0 = now then
        S.scanO now skip ls { σ with weight := σ.weight.set l.natAbs (σ.weight.getD l.natAbs 0 + 1) } { q with seen := q.seen.set l.natAbs true, opn := q.opn + 1 }
      else
        S.scanO now skip ls { σ with weight := σ.weight.set l.natAbs (σ.weight.getD l.natAbs 0 + 1) } { q with seen := q.seen.set l.natAbs true, rest := q.rest ++ [l] }
    else none

/-- The last place of the trail, below n, whose variable is seen. -/
def S.findO (σ : S) (seen : List Bool) : Nat → Option Nat
  | 0 => none
  | n + 1 =>
    if σ.lit (at0 σ.trail n) ∧ n < σ.trail.length ∧ σ.trail.length ≤ 60000 ∧ seen.length = σ.value.length then
      if seen.getD (at0 σ.trail n).natAbs false = true then some n else S.findO σ seen n
    else none

/-- 'placed': from place i on, with so many places left. -/
def S.placedO (σ : S) : (n i : Nat) → (lev : Nat) → (c : List Int) → Option (List Int × Nat)
  | 0, _, lev, c => some (c, lev)
  | n + 1, i, lev, c =>
    if σ.lit (at0 c i) ∧ σ.even then
      if lev < σ.level.getD (at0 c i).natAbs 0 then S.placedO σ n (i + 1) (σ.level.getD (at0 c i).natAbs 0) (swap c 1 i)
      else S.placedO σ n (i + 1) lev c
    else none

/-- The rounds of 'learn'; n: one more than where it stands in the trail. -/
def S.learnO (now : Nat) : Nat → S → Scan → (n k : Nat) → (skip : Int) → Option (S × List Int × Nat)
  | 0, _, _, _, _, _ => none
  | m + 1, σ, q, n, k, skip =>
    if k < σ.clauses.length ∧ (σ.clause k).length ≤ 60000 then
      (S.scanO now skip (σ.clause k) σ q).bind fun (τ, r) =>
        (τ.findO r.seen n).bind fun i =>
          let l := at0 τ.trail i
          if τ.steps < 60000 ∧ 0 ≤ r.opn ∧ r.opn ≤ 60000 ∧ r.rest.length < 60000 then
            let υ : S := { τ with steps := τ.steps + 1 }
            if r.opn = 1 then (υ.placedO r.rest.length 1 0 (-l :: r.rest)).map fun (c, lev) => (υ, c, lev)
            else if 0 ≤ at0 υ.reason l.natAbs then S.learnO now m υ { r with opn := r.opn - 1 } i (at0 υ.reason l.natAbs).toNat l
            else none
          else none
    else none

def S.learnTopO (σ : S) (k : Nat) : Option (S × List Int × Nat) :=
  if σ.even ∧ σ.value.length ≤ 60000 ∧ σ.trail.length ≤ 60000 ∧ σ.marks.length ≤ 60000 then
    S.learnO σ.marks.length (σ.trail.length + 1) σ ⟨List.replicate σ.value.length false, 0, []⟩ σ.trail.length k 0
  else none

/-- 'decide': the best variable, from v on, with so many left. -/
def S.bestN (σ : S) : (n v : Nat) → (best : Nat) → Nat
  | 0, _, best => best
  | n + 1, v, best =>
    if at0 σ.value v = 0 ∧ (best = 0 ∨ σ.weight.getD best 0 < σ.weight.getD v 0) then S.bestN σ n (v + 1) v else S.bestN σ n (v + 1) best
def S.decide_ (σ : S) : Int :=
  let b := σ.bestN (σ.value.length - 1) 1 0
  if 0 < b ∧ at0 σ.phase b < 0 then -(b : Int) else b

/-- The search; fuel is Go's, the number before it bounds the rounds. 0: it fails, 1: it holds, 2: tired. -/
def S.searchO (fuel : Nat) : Nat → S → Option (S × Int)
  | 0, _ => none
  | m + 1, σ =>
    if σ.broken then (if σ.log.length < 60000 then some ({ σ with log := σ.log ++ [[]] }, 0) else none)
    else (σ.propO (σ.value.length + 1)).bind fun (τ, r) =>
      if τ.marks.length < 60000 ∧ τ.trail.length < 60000 ∧ τ.even ∧ 0 < τ.value.length ∧ τ.value.length ≤ 60000 ∧ τ.log.length < 60000 then
        if r ≠ -1 then
          if τ.marks.length = 0 then S.searchO fuel m { τ with broken := true }
          else (τ.learnTopO r.toNat).bind fun (υ, c, lev) =>
            if 1 ≤ c.length ∧ c.length ≤ 60000 ∧ lev < 60000 then
              (({ υ with log := υ.log ++ [c] } : S).backO lev).bind fun φ =>
                if c.length = 1 then (φ.setO (at0 c 0) (-1)).bind fun ψ => S.searchO fuel m ψ
                else (φ.keepO c).bind fun χ => (χ.setO (at0 c 0) (φ.clauses.length : Int)).bind fun ψ => S.searchO fuel m ψ
            else none
        else if fuel < τ.steps then some (τ, 2)
        else if τ.decide_ = 0 then some ({ τ with phase := τ.value }, 1)
        else (({ τ with marks := τ.marks ++ [τ.trail.length] } : S).setO τ.decide_ (-1)).bind fun ψ => S.searchO fuel m ψ
      else none

/-- 'Add': the scan of a clause; 'none' inside: nothing is to be added. -/
def S.addScanO (whole : List Int) : List Int → S → List Int → Option (S × Option (List Int))
  | [], σ, c => some (σ, some c)
  | l :: ls, σ, c =>
    if l ≠ 0 ∧ l.natAbs < 1000 ∧ whole.length ≤ 60000 ∧ c.length < 60000 then
      (σ.growO l.natAbs).bind fun τ =>
        if whole.contains (-l) then some (τ, none)
        else (τ.ofO l).bind fun x =>
          if 0 < x then some (τ, none)
          else if x = 0 ∧ ¬ c.contains l = true then S.addScanO whole ls τ (c ++ [l])
          else S.addScanO whole ls τ c
    else none

def S.addO (σ : S) (clause : List Int) : Option S :=
  (σ.backO 0).bind fun σ0 =>
    (S.addScanO clause clause σ0 []).bind fun (τ, oc) =>
      match oc with
      | none => some τ
      | some [] => some { τ with broken := true }
      | some [l] => (τ.setO l (-1)).bind fun υ => (υ.propO (υ.value.length + 1)).map fun (φ, r) => if r ≠ -1 then { φ with broken := true } else φ
      | some c => τ.keepO c

def S.new : S :=
  { steps := 0, log := [], clauses := [], watch := fun _ => [], value := [0], level := [0], reason := [-1], weight := [0], phase := [-1], trail := [], marks := [], head := 0, broken := false }

def S.addAll : List (List Int) → S → Option S
  | [], σ => some σ
  | c :: cs, σ => (σ.addO c).bind fun τ => S.addAll cs τ

/-- 'Value(v)'. -/
def S.isTrue (σ : S) (v : Nat) : Bool := decide (v < σ.phase.length ∧ 0 < at0 σ.phase v)

end Go.Proofs.YtdllaphnkbnpoaaGreat
