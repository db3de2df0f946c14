/- Part 3 of what the law's row leans on (Na): the print's words and functions, cut to what is reached, and own texts. -/
import Derived.BigQuiet
import Derived.Deep.RegionLaw
import Derived.Deep.CutRange
import Derived.Deep.DeepCutAuto
import Derived.Deep.CutBlock
import Derived.Deep.RegionHeld3
import Derived.Lib.SliceRun
import Derived.Defers
import Derived.WalkLawsBesides
import Derived.Test.YtcjmplpfebpfpaaGreatDoorNa2
namespace Go.Proofs.YtcjmplpfebpfpaaGreatDoor
open Go.RowKit Go.Proofs Go.Proofs.YtcjmplpfebpfpaaGreatDoorW.PrintWords Go.Proofs.YtcjmplpfebpfpaaGreatDoorW.PrintLast Go.Proofs.YtcjmplpfebpfpaaGreatDoorW.PrintMore PKindInstances
set_option linter.unusedVariables false
set_option linter.unusedSimpArgs false

def digitsB : List UInt8 := [48, 49, 50, 51, 52, 53, 54, 55, 56, 57]
def cutMinus (s : ByteArray) : List UInt8 := Lib.trimPrefix s.data.toList [45]
/-- Whether a text is digits, or - and digits. -/
def numM (s : ByteArray) : Bool := !(cutMinus s == []) && (Lib.trimS (cutMinus s) digitsB == [])

theorem trim_any (s : ByteArray) (w : World) (hs : s.size ≤ 9223372036854775807) :
    Calls Tryz.prog 178 #[.string s, .string ⟨#[48, 49, 50, 51, 52, 53, 54, 55, 56, 57]⟩] w fun e w' => e = .returned (.string ⟨(Lib.trimS s.data.toList digitsB).toArray⟩) ∧ Below w.heap.size w w' :=
  Any.strings_Trim_laid Tryz.lays160 (by kernel_rfl) s _ w hs (by decide) (ascii_of_all (by decide))

theorem bytes_toList (l : List UInt8) : (ByteArray.mk l.toArray).toList = l := by rw [ByteArray.toList_eq]
set_option maxRecDepth 100000 in
theorem numeric_any (s : ByteArray) (w : World) (hs : s.size ≤ 1000) : Calls Tryz.prog 167 #[.string s] w fun e w' => e = .returned (.bool (numM s)) ∧ Below w.heap.size w w' := by
  obtain ⟨t, ht⟩ : ∃ t, t = cutMinus s := ⟨_, rfl⟩
  have hl : t.length ≤ 1000 := by
    rw [ht]
    have := Lib.trimPrefix_le s.data.toList [45]
    rw [Lib.size_eq] at hs
    unfold cutMinus
    omega
  have hsz : (ByteArray.mk t.toArray).size ≤ 9223372036854775807 := by
    rw [Lib.size_eq]; simp; omega
  have e0 : numM s = (!(t == []) && (Lib.trimS t digitsB == [])) := by rw [ht]; rfl
  rw [e0]
  have PT : Hid (∀ w, Calls Tryz.prog 177 #[.string s, .string ⟨#[45]⟩] w fun e w' => e = .returned (.string ⟨t.toArray⟩) ∧ w = w') := by
    intro w
    refine (Tryz.strings_TrimPrefix s ⟨#[45]⟩ w).mono ?_
    rintro e w' ⟨rfl, rfl⟩
    exact ⟨by rw [ht]; rfl, rfl⟩
  have q1 := bytes_toList t
  clear ht e0
  cases t with
  | nil =>
    go_enter Tryz.func167, Tryz.ntmps167
    go_wp2_with fail
    refine (PT.out _).mono ?_
    rintro e w1 ⟨rfl, rfl⟩
    go_wp2_with fail
    go_ret
    exact ⟨rfl, Below.refl _ _⟩
  | cons c t =>
    have q2 : ((ByteArray.mk (c :: t).toArray).toList == ([] : List UInt8)) = false := by rw [q1]; rfl
    obtain ⟨v, hv⟩ : ∃ v, v = Lib.trimS (c :: t) digitsB := ⟨_, rfl⟩
    have TT : Hid (∀ w, Calls Tryz.prog 178 #[.string ⟨(c :: t).toArray⟩, .string ⟨#[48, 49, 50, 51, 52, 53, 54, 55, 56, 57]⟩] w fun e w' => e = .returned (.string ⟨v.toArray⟩) ∧ Below w.heap.size w w') := by
      rw [hv]; exact fun w => trim_any _ w hsz
    rw [← hv]
    have q3 := bytes_toList v
    clear hv hsz
    generalize hB : ByteArray.mk (c :: t).toArray = B at *
    go_enter Tryz.func167, Tryz.ntmps167
    go_wp2_with fail
    refine (PT.out _).mono ?_
    rintro e w1 ⟨rfl, rfl⟩
    go_wp2_with fail
    refine (TT.out _).mono ?_
    rintro e w1 ⟨rfl, B1⟩
    go_wp2_with fail
    go_ret
    exact ⟨by simp [q3], B1⟩

/-- Whether a byte ends a word. -/
def outM (c : Int) : Bool := decide (c < 33) || (decide (126 < c) || decide (0 ≤ Lib.indexByte [40, 41, 34, 59] c.toNat.toUInt8))

set_option maxRecDepth 100000 in
theorem outside_any (c : Int) (w : World) : Calls Tryz.prog 168 #[.int .u8 c] w fun e w' => e = .returned (.bool (outM c)) ∧ Below w.heap.size w w' := by
  by_cases h1 : c < 33
  · have q1 : decide (c < 33) = true := decide_eq_true h1
    have e1 : outM c = true := by simp [outM, h1]
    rw [e1]
    clear h1 e1
    go_enter Tryz.func168, Tryz.ntmps168
    go_wp2_with fail
    go_ret
    exact ⟨rfl, Below.refl _ _⟩
  · have q1 : decide (c < 33) = false := decide_eq_false h1
    by_cases h2 : 126 < c
    · have q2 : decide (126 < c) = true := decide_eq_true h2
      have e1 : outM c = true := by simp [outM, h2]
      rw [e1]
      clear h1 h2 e1
      go_enter Tryz.func168, Tryz.ntmps168
      go_wp2_with fail
      go_ret
      exact ⟨rfl, Below.refl _ _⟩
    · have q2 : decide (126 < c) = false := decide_eq_false h2
      obtain ⟨v, hv⟩ : ∃ v, v = Lib.indexByte [40, 41, 34, 59] c.toNat.toUInt8 := ⟨_, rfl⟩
      have e1 : outM c = decide (0 ≤ v) := by simp only [outM, q1, q2, hv, Bool.false_or]
      have PT : Hid (∀ w, Calls Tryz.prog 179 #[.string ⟨#[40, 41, 34, 59]⟩, .int .u8 c] w fun e w' => e = .returned (.int .i64 v) ∧ w = w') := by
        intro w
        refine (Tryz.strings_IndexByte ⟨#[40, 41, 34, 59]⟩ c w).mono ?_
        rintro e w' ⟨rfl, rfl⟩
        exact ⟨by rw [hv], rfl⟩
      rw [e1]
      clear h1 h2 e1 hv
      go_enter Tryz.func168, Tryz.ntmps168
      go_wp2_with fail
      refine (PT.out _).mono ?_
      rintro e w1 ⟨rfl, rfl⟩
      go_wp2_with fail
      go_ret
      exact ⟨rfl, Below.refl _ _⟩

/-- A list's own fields. -/
theorem leaf_list (b : Int) (s : ByteArray) (A : Option Addr) (n c : Nat) (w : World) :
    Calls Tryz.prog 146 #[formV 3 b s A n c] w fun e w' => e = .returned (.bool ((s.toList == []) && (b == 0))) ∧ Below w.heap.size w w' := by
  have hu24 := Tryz.underlying24
  cases h : (s.toList == []) with
  | false =>
    go_enter Tryz.func146, Tryz.ntmps146
    go_wp2_with fail
    go_ret
    exact ⟨rfl, by (repeat (first | assumption | exact Below.refl _ _ | apply below_alloc | apply pw_below_drewN | apply below_drew1))⟩
  | true =>
    go_enter Tryz.func146, Tryz.ntmps146
    go_wp2_with fail
    go_ret
    exact ⟨rfl, by (repeat (first | assumption | exact Below.refl _ _ | apply below_alloc | apply pw_below_drewN | apply below_drew1))⟩

def bytesI (s : ByteArray) : List Int := s.data.toList.map fun b => (b.toNat : Int)
/-- Whether a text may be a word's. -/
def wordM (s : ByteArray) : Bool := (!(s.toList == []) && (decide (s.size ≤ 30) && !numM s)) && (bytesI s).all fun c => !outM c

/-- What holds of the loop over a word's bytes. -/
def LeafRel (w : World) (s : ByteArray) (T : Bool) (k : Nat) (x3 x4 : Value) (wr : World) : Prop :=
  ∃ (i : Nat) (g : Bool), x3 = .bool g ∧ x4 = .int .i64 (i : Int) ∧ k + i = s.size ∧ Below w.heap.size w wr ∧ (g && ((bytesI s).drop i).all fun c => !outM c) = T

set_option maxRecDepth 100000 in
set_option maxHeartbeats 2000000 in
/-- A word's own fields. -/
theorem leaf_word (b : Int) (s : ByteArray) (A : Option Addr) (n c : Nat) (w : World) (hs : s.size ≤ 30) (hne : (s.toList == []) = false) :
    Calls Tryz.prog 146 #[formV 1 b s A n c] w fun e w' => e = .returned (.bool (wordM s && (b == 0) && ((n : Int) == 0))) ∧ Below w.heap.size w w' := by
  have hu24 := Tryz.underlying24
  obtain ⟨T, hT⟩ : ∃ T, T = wordM s := ⟨_, rfl⟩
  rw [← hT]
  have hT2 : T = (!numM s && (bytesI s).all fun c => !outM c) := by
    rw [hT]; unfold wordM; rw [hne]; simp [hs]
  have hs2 : decide (s.size ≤ 30) = true := decide_eq_true hs
  obtain ⟨g, hg⟩ : ∃ g, g = numM s := ⟨_, rfl⟩
  have NA : Hid (∀ w, Calls Tryz.prog 167 #[.string s] w fun e w' => e = .returned (.bool g) ∧ Below w.heap.size w w') := by
    rw [hg]; exact fun w => numeric_any s w (by omega)
  rw [← hg] at hT2
  have start : Hid (∀ w : World, LeafRel w s T s.size (.bool (!g)) (.int .i64 ((0 : Nat) : Int)) w) := fun w => ⟨0, !g, rfl, rfl, rfl, Below.refl _ _, by rw [hT2]; rfl⟩
  clear hT hT2 hg
  go_enter Tryz.func146, Tryz.ntmps146
  go_wp2_with fail
  refine (NA.out _).mono ?_
  rintro e w1 ⟨rfl, B1⟩
  obtain ⟨q0, q1, q2, q3⟩ := box_at B1
  have B2 : Below w.heap.size w w1 := below_after (by (repeat (first | assumption | exact Below.refl _ _ | apply below_alloc | apply pw_below_drewN | apply below_drew1))) B1
  have BH : Hid _ := B2
  clear B1 B2
  go_wp2_with fail
  go_loopg [3, 4] s.size (fun k x3 x4 wr => LeafRel w1 s T k x3 x4 wr)
  case atStart => exact start.out w1
  case round =>
    clear start
    obtain ⟨i, g2, rfl, rfl, hki, B, hV⟩ := hrel
    have p0 := pw_cell_below B q0
    have p1 := pw_cell_below B q1
    have p2 := pw_cell_below B q2
    have p3 := pw_cell_below B q3
    by_cases hlt : i < s.size
    · obtain ⟨m, rfl⟩ : ∃ m, gk = m + 1 := ⟨gk - 1, by omega⟩
      have e1 : decide (i < s.size) = true := decide_eq_true hlt
      cases g2 with
      | false =>
        have hT : T = false := by rw [← hV]; rfl
        subst hT
        have B9 : Below w.heap.size w wr := below_after BH.out B
        clear hV
        go_wp2_with fail
        go_ret
        exact ⟨by simp, B9⟩
      | true =>
        have hd : (bytesI s).drop i = ((s[i]'hlt).toNat : Int) :: (bytesI s).drop (i + 1) := by
          have hl : i < (bytesI s).length := by simpa [bytesI] using hlt
          rw [List.drop_eq_getElem_cons hl]
          congr 1
          simp [bytesI]; rfl
        rw [hd] at hV
        have B9 : Hid _ := B
        clear B hd
        go_wp2_with fail
        refine (outside_any _ _).mono ?_
        rintro e w2 ⟨rfl, B2⟩
        obtain ⟨o, ho⟩ : ∃ o, o = outM ((s[i]'hlt).toNat : Int) := ⟨_, rfl⟩
        rw [← ho]
        have hV2 : ((!o) && ((bytesI s).drop (i + 1)).all fun c => !outM c) = T := by rw [← hV, ho]; simp
        have B3 : Below w1.heap.size w1 w2 := below_after B9.out B2
        replace p0 := pw_cell_below B2 p0
        replace p1 := pw_cell_below B2 p1
        replace p2 := pw_cell_below B2 p2
        replace p3 := pw_cell_below B2 p3
        have BH3 : Hid _ := B3
        clear hV ho B2 B3
        go_wp2_with fail
        go_roundg m
        case measure => omega
        case rel => exact ⟨i + 1, !o, rfl, by go_num, by omega, BH3.out, hV2⟩
    · have hge : decide (i < s.size) = false := decide_eq_false (by omega)
      have hge2 : s.size ≤ i := by omega
      have hnil : (bytesI s).drop i = [] := List.drop_eq_nil_of_le (by simpa [bytesI] using hge2)
      rw [hnil] at hV
      have hT : g2 = T := by rw [← hV]; simp
      subst hT
      have B9 : Below w.heap.size w wr := below_after BH.out B
      clear hnil hV hlt B
      cases g2 with
      | false =>
        go_wp2_with fail
        go_ret
        exact ⟨by simp, B9⟩
      | true =>
        cases hb : (b == 0) with
        | false =>
          go_wp2_with fail
          go_ret
          exact ⟨by rw [hb]; rfl, B9⟩
        | true =>
          cases hn : ((n : Int) == 0) with
          | false =>
            go_wp2_with fail
            go_ret
            exact ⟨by rw [hb, hn]; rfl, B9⟩
          | true =>
            go_wp2_with fail
            go_ret
            exact ⟨by rw [hb, hn]; rfl, B9⟩

end Go.Proofs.YtcjmplpfebpfpaaGreatDoor

namespace Go.Proofs.YtcjmplpfebpfpaaGreatDoor
open Go.RowKit Go.Proofs Go.Proofs.YtcjmplpfebpfpaaGreatDoorW.PrintWords Go.Proofs.YtcjmplpfebpfpaaGreatDoorW.PrintLast Go.Proofs.YtcjmplpfebpfpaaGreatDoorW.PrintMore PKindInstances
set_option linter.unusedVariables false
set_option linter.unusedSimpArgs false

mutual
/-- How wide a form is: its texts, its rows. -/
def wid : S24 → Nat
  | ⟨_, _, s, l⟩ => max (s.size + 1) (wids l)
def wids : List S24 → Nat
  | [] => 0
  | x :: l => max (l.length + 1) (max (wid x) (wids l))
end
theorem wids_len : ∀ l : List S24, l.length ≤ wids l
  | [] => by simp [wids]
  | x :: l => by simp only [wids, List.length_cons]; omega
theorem wid_kids (x : S24) : wids x.f3 ≤ wid x := by
  obtain ⟨a, b, s, l⟩ := x
  simp only [wid]
  omega

def isFunW (s : ByteArray) : Bool := s.toList == [102, 117, 110]

theorem Head_any (a b : Int) (s : ByteArray) {A : Option Addr} {l : List S24} (c : Nat) (w : World) (hr : Kd.C k24 w A l.length l) :
    Calls Tryz.prog 79 #[formV a b s A l.length c] w fun e w' => e = .returned (.string (headOf a l)) ∧ Below w.heap.size w w' := by
  by_cases ha : a = 3
  · subst ha
    have e1 : headOf 3 l = headL l := by simp [headOf]
    rw [e1]
    exact Head_three b s c w hr
  · have e1 : headOf a l = ⟨#[]⟩ := by simp [headOf, ha]
    rw [e1]
    exact Head_other ha b s A l.length c w

theorem typesL_mem {a : Int} {l : List S24} {bare : Bool} {x : S24} (h : x ∈ typesL a l bare) : x ∈ l := by
  unfold typesL at h
  split at h
  · split at h
    · exact h
    · split at h
      · exact List.mem_cons_of_mem _ h
      · exact h
  · exact absurd h List.not_mem_nil
theorem typesL_len (a : Int) (l : List S24) (bare : Bool) : (typesL a l bare).length ≤ l.length := by
  unfold typesL
  split
  · split
    · simp
    · split <;> simp
  · simp
theorem wid_mem : ∀ {l : List S24} {x : S24}, x ∈ l → wid x ≤ wids l
  | [], x, h => absurd h List.not_mem_nil
  | y :: l, x, h => by
    rcases List.mem_cons.1 h with h | h
    · rw [h]; simp only [wids]; omega
    · have := wid_mem h; simp only [wids]; omega

end Go.Proofs.YtcjmplpfebpfpaaGreatDoor

namespace Go.Proofs.YtcjmplpfebpfpaaGreatDoor
open Go.RowKit Go.Proofs Go.Proofs.YtcjmplpfebpfpaaGreatDoorW.PrintWords Go.Proofs.YtcjmplpfebpfpaaGreatDoorW.PrintLast Go.Proofs.YtcjmplpfebpfpaaGreatDoorW.PrintMore PKindInstances
set_option linter.unusedVariables false
set_option linter.unusedSimpArgs false

def textM (s : ByteArray) : Bool := decide (s.size ≤ 2000) && (bytesI s).all fun c => c == 10 || (decide (32 ≤ c) && decide (c ≤ 126))
/-- Whether a form's own fields are as they must be. -/
def leafM (x : S24) : Bool :=
  if x.f0 = 0 then (x.f2.toList == []) && ((x.f3.length : Int) == 0) && (decide (-1152921504606846976 ≤ x.f1) && decide (x.f1 ≤ 1152921504606846976)) else
  if x.f0 = 1 then wordM x.f2 && (x.f1 == 0) && ((x.f3.length : Int) == 0) else
  if x.f0 = 2 then textM x.f2 && (x.f1 == 0) && ((x.f3.length : Int) == 0) else
  if x.f0 = 3 then (x.f2.toList == []) && (x.f1 == 0) else false
/-- What the call on a form's own fields does. -/
def LeafC (x : S24) : Prop :=
  ∀ (A : Option Addr) (c : Nat) (w : World), Calls Tryz.prog 146 #[formV x.f0 x.f1 x.f2 A x.f3.length c] w fun e w' => e = .returned (.bool (leafM x)) ∧ Below w.heap.size w w'

mutual
/-- Whether a form is valid, with so many parts and levels left; the parts left behind. -/
def validM : S24 → Int → Int → Bool × Int
  | ⟨a, b, s, l⟩, n, d => if decide (n - 1 < 0) || (d == 0) || !(leafM ⟨a, b, s, l⟩) then (false, n - 1) else validL l (n - 1) (d - 1)
def validL : List S24 → Int → Int → Bool × Int
  | [], n, _ => (true, n)
  | x :: l, n, d => if (validM x n d).1 then validL l (validM x n d).2 d else (false, (validM x n d).2)
end
mutual
def allC : S24 → Prop
  | ⟨a, b, s, l⟩ => LeafC ⟨a, b, s, l⟩ ∧ allCs l
def allCs : List S24 → Prop
  | [] => True
  | x :: l => allC x ∧ allCs l
end

def ValidOk (x : S24) : Prop :=
  ∀ (W0 : World) (A : Option Addr) (c : Nat) (w : World) (pb : Nat) (n d : Int), Kd.C k24 W0 A x.f3.length x.f3 → x.f3.length ≤ c → Below W0.heap.size W0 w → W0.heap.size ≤ pb →
    w.heap[pb]? = some (.cells #[.int .i64 n] 3 (0, 0)) → 0 ≤ n → n ≤ 20000 → 0 ≤ d → d ≤ 100 → allC x → wid x < 9000000 →
    Calls Tryz.prog 116 #[formV x.f0 x.f1 x.f2 A x.f3.length c, .pointer (some ⟨pb, 0, none⟩), .int .i64 d] w fun e w' => e = .returned (.bool (validM x n d).1) ∧
      w'.heap[pb]? = some (.cells #[.int .i64 (validM x n d).2] 3 (0, 0)) ∧ Below W0.heap.size W0 w'

mutual
theorem validM_bd : ∀ (x : S24) (n d : Int), 0 ≤ n → (validM x n d).1 = true → 0 ≤ (validM x n d).2 ∧ (validM x n d).2 ≤ n
  | ⟨a, b, s, l⟩, n, d, hn, h => by
    simp only [validM] at h ⊢
    split at h
    · cases h
    · rename_i hc
      rw [if_neg hc]
      have h1 : decide (n - 1 < 0) = false := by
        cases hh : decide (n - 1 < 0) with
        | false => rfl
        | true => simp [hh] at hc
      have h2 : ¬ (n - 1 < 0) := of_decide_eq_false h1
      have := validL_bd l (n - 1) (d - 1) (by omega) h
      omega
theorem validL_bd : ∀ (l : List S24) (n d : Int), 0 ≤ n → (validL l n d).1 = true → 0 ≤ (validL l n d).2 ∧ (validL l n d).2 ≤ n
  | [], n, d, hn, h => by simp only [validL]; omega
  | x :: l, n, d, hn, h => by
    simp only [validL] at h ⊢
    split at h
    · rename_i hc
      rw [if_pos hc]
      have h1 := validM_bd x n d hn hc
      have h2 := validL_bd l _ d h1.1 h
      omega
    · cases h
end

theorem allCs_mem : ∀ {l : List S24} {x : S24}, allCs l → x ∈ l → allC x
  | [], x, _, h => absurd h List.not_mem_nil
  | y :: l, x, hl, h => by
    simp only [allCs] at hl
    rcases List.mem_cons.1 h with h | h
    · rw [h]; exact hl.1
    · exact allCs_mem hl.2 h

/-- What holds of the loop. -/
def ValRel (W0 : World) (pb : Nat) (l : List S24) (d : Int) (R : Bool × Int) (k : Nat) (x30 : Value) (wr : World) : Prop :=
  ∃ (i : Nat) (m : Int), x30 = .int .i64 (i : Int) ∧ k + i = l.length ∧ wr.heap[pb]? = some (.cells #[.int .i64 m] 3 (0, 0)) ∧ 0 ≤ m ∧ m ≤ 20000 ∧ Below W0.heap.size W0 wr ∧ validL (l.drop i) m d = R

theorem cells_set {w : World} {pb : Nat} {n v : Value} (hp : w.heap[pb]? = some (.cells #[n] 3 (0, 0))) : (w.setCell ⟨pb, 0, none⟩ v).heap[pb]? = some (.cells #[v] 3 (0, 0)) := by
  have hlt : pb < w.heap.size := (Array.getElem?_eq_some_iff.1 hp).1
  exact heap_setCell_same w pb 0 #[n] 3 v hp

set_option maxRecDepth 100000 in
set_option maxHeartbeats 4000000 in
theorem valid_x (W0 : World) (a bb : Int) (s : ByteArray) (l : List S24) (A : Option Addr) (c : Nat) (w : World) (pb : Nat) (n d : Int) (hr : Kd.C k24 W0 A l.length l) (hc : l.length ≤ c) (hw : Below W0.heap.size W0 w) (hpb : W0.heap.size ≤ pb)
    (hp : w.heap[pb]? = some (.cells #[.int .i64 n] 3 (0, 0))) (hn0 : 0 ≤ n) (hn1 : n ≤ 20000) (hd0 : 0 ≤ d) (hd1 : d ≤ 100) (hleaf : LeafC ⟨a, bb, s, l⟩) (hq : ∀ x ∈ l, ValidOk x ∧ allC x ∧ wid x < 9000000) (hbig : l.length < 9000000) :
    Calls Tryz.prog 116 #[formV a bb s A l.length c, .pointer (some ⟨pb, 0, none⟩), .int .i64 d] w fun e w' => e = .returned (.bool (validM ⟨a, bb, s, l⟩ n d).1) ∧
      w'.heap[pb]? = some (.cells #[.int .i64 (validM ⟨a, bb, s, l⟩ n d).2] 3 (0, 0)) ∧ Below W0.heap.size W0 w' := by
  have hu24 := Tryz.underlying24
  have hcell0 : w.cell? ⟨pb, 0, none⟩ = some (.int .i64 n) := by simp [World.cell?, hp]
  have hcell := pw_cell_below (below_alloc (Below.refl _ _) (Obj.cells #[.int .i64 a, .int .i64 bb, .string s, .slice A l.length c] 24)) hcell0
  have hfz : w.frozen? ⟨pb, 0, none⟩ = false := by simp [World.frozen?, hp]
  have hlt : pb < w.heap.size := (Array.getElem?_eq_some_iff.1 hp).1
  have hX : ((w.setCell ⟨pb, 0, none⟩ (.int .i64 (n - 1))).alloc (Obj.cells #[.int .i64 a, .int .i64 bb, .string s, .slice A l.length c] 24)).heap[pb]? = some (.cells #[.int .i64 (n - 1)] 3 (0, 0)) := (Below.heap_alloc _ _ pb (Array.getElem?_eq_some_iff.1 (cells_set (v := .int .i64 (n - 1)) hp)).1).trans (cells_set hp)
  have BX : Below W0.heap.size W0 ((w.setCell ⟨pb, 0, none⟩ (.int .i64 (n - 1))).alloc (Obj.cells #[.int .i64 a, .int .i64 bb, .string s, .slice A l.length c] 24)) := below_alloc (hw.setCell hpb _) _
  have SZ : (w.setCell ⟨pb, 0, none⟩ (.int .i64 (n - 1))).heap.size = w.heap.size := by simp [World.setCell]
  have HX : Hid _ := hX
  have HB : Hid _ := BX
  have HR : Hid _ := hr
  have HL : Hid _ := hleaf
  have HQ : Hid _ := hq
  clear hX BX hr hleaf hq hw
  obtain ⟨R, hR⟩ : ∃ R, R = validM ⟨a, bb, s, l⟩ n d := ⟨_, rfl⟩
  rw [← hR]
  simp only [validM] at hR
  by_cases hn : n - 1 < 0
  · have b1 : decide (n - 1 < 0) = true := decide_eq_true hn
    rw [b1] at hR
    simp only [Bool.true_or, if_true] at hR
    subst hR
    clear hn
    go_enter Tryz.func116, Tryz.ntmps116
    go_wp2_with fail
    go_ret
    exact ⟨rfl, HX.out, HB.out⟩
  · have b1 : decide (n - 1 < 0) = false := decide_eq_false hn
    rw [b1] at hR
    by_cases hd : d = 0
    · have b2 : (d == 0) = true := beq_iff_eq.mpr hd
      rw [b2] at hR
      simp only [Bool.true_or, Bool.or_true, if_true] at hR
      subst hR
      subst hd
      clear hn
      go_enter Tryz.func116, Tryz.ntmps116
      go_wp2_with fail
      go_ret
      exact ⟨rfl, HX.out, HB.out⟩
    · have b2 : (d == 0) = false := beq_eq_false_iff_ne.mpr hd
      rw [b2] at hR
      clear hn
      cases hlf : leafM ⟨a, bb, s, l⟩ with
      | false =>
        rw [hlf] at hR
        simp only [Bool.false_or, Bool.not_false, if_true] at hR
        subst hR
        go_enter Tryz.func116, Tryz.ntmps116
        go_wp2_with fail
        refine (HL.out A c _).mono ?_
        rintro e w1 ⟨rfl, B1⟩
        rw [hlf]
        have h1 : w1.heap[pb]? = some (.cells #[.int .i64 (n - 1)] 3 (0, 0)) := (B1.block pb (Array.getElem?_eq_some_iff.1 HX.out).1).trans HX.out
        have B2 : Below W0.heap.size W0 w1 := HB.out.trans (B1.mono HB.out.size)
        have H1 : Hid _ := h1
        have H2 : Hid _ := B2
        clear h1 B2 B1
        go_wp2_with fail
        go_ret
        exact ⟨rfl, H1.out, H2.out⟩
      | true =>
        rw [hlf] at hR
        simp only [Bool.false_or, Bool.not_true, Bool.false_eq_true, if_false] at hR
        go_enter Tryz.func116, Tryz.ntmps116
        go_wp2_with fail
        refine (HL.out A c _).mono ?_
        rintro e w1 ⟨rfl, B1⟩
        rw [hlf]
        have h1 : w1.heap[pb]? = some (.cells #[.int .i64 (n - 1)] 3 (0, 0)) := (B1.block pb (Array.getElem?_eq_some_iff.1 HX.out).1).trans HX.out
        have B2 : Below W0.heap.size W0 w1 := HB.out.trans (B1.mono HB.out.size)
        obtain ⟨x0, x1, x2, x3⟩ := box_at B1
        rw [SZ] at x0 x1 x2 x3
        have hd1' : 1 ≤ d := by omega
        have start : Hid (ValRel W0 pb l (d - 1) R l.length (.int .i64 ((0 : Nat) : Int)) w1) := ⟨0, n - 1, rfl, rfl, h1, by have := of_decide_eq_false b1; omega, by omega, B2, hR.symm⟩
        clear h1 B2 B1 hR
        go_wp2_with fail
        go_loopg [30] l.length (fun k x30 wr => ValRel W0 pb l (d - 1) R k x30 wr)
        case atStart => exact start.out
        case round =>
          clear start
          obtain ⟨i, m, rfl, hki, hm, hm0, hm1, B, hV⟩ := hrel
          by_cases hli : i < l.length
          · obtain ⟨g, rfl⟩ : ∃ g, gk = g + 1 := ⟨gk - 1, by omega⟩
            have e1 : decide (i < l.length) = true := decide_eq_true hli
            obtain ⟨x, hx⟩ : ∃ x, l[i]? = some x := ⟨l[i], by simp [hli]⟩
            obtain ⟨ad, A3, c3, rfl, g0, g1, g2, g3, g4, g5⟩ := row_at HR.out hli hx
            replace g0 := pw_cell_below B g0
            replace g1 := pw_cell_below B g1
            replace g2 := pw_cell_below B g2
            replace g3 := pw_cell_below B g3
            obtain ⟨hok, hall, hsz⟩ := HQ.out x (List.mem_of_getElem? hx)
            have hdr : l.drop i = x :: l.drop (i + 1) := by
              rw [List.drop_eq_getElem_cons hli]; congr 1; simpa [hli] using hx
            rw [hdr] at hV
            simp only [validL] at hV
            have BH : Hid _ := B
            have G5 : Hid _ := g5
            have MH : Hid _ := hm
            have OK : Hid _ := hok W0 A3 c3 (wr.alloc (Obj.cells #[.int .i64 x.f0, .int .i64 x.f1, .string x.f2, .slice A3 x.f3.length c3] 24)) pb m (d - 1) g5 g4 (below_alloc B _) hpb ((Below.heap_alloc wr _ pb (Array.getElem?_eq_some_iff.1 hm).1).trans hm) hm0 hm1 (by omega) (by omega) hall hsz
            have BD : Hid _ := validM_bd x m (d - 1) hm0
            clear B g5 hok hall hsz hx hm hdr
            obtain ⟨x0', x1', x2', x3'⟩ := x
            obtain ⟨Q, hQ⟩ : ∃ Q, Q = validM ⟨x0', x1', x2', x3'⟩ m (d - 1) := ⟨_, rfl⟩
            rw [← hQ] at OK BD hV
            clear hQ
            obtain ⟨q, m2⟩ := Q
            cases q with
            | false =>
              simp only [Bool.false_eq_true, if_false] at hV
              subst hV
              go_wp2_with fail
              refine Calls.mono OK.out ?_
              rintro e w2 ⟨rfl, hm2, B2⟩
              have H1 : Hid _ := hm2
              have H2 : Hid _ := B2
              clear hm2 B2
              go_wp2_with fail
              go_ret
              exact ⟨rfl, H1.out, H2.out⟩
            | true =>
              simp only [if_true] at hV
              have hbd := BD.out rfl
              simp only [] at hbd
              go_wp2_with fail
              refine Calls.mono OK.out ?_
              rintro e w2 ⟨rfl, hm2, B2⟩
              have H1 : Hid _ := hm2
              have H2 : Hid _ := B2
              have HV : Hid _ := hV
              clear hm2 B2 hV
              go_wp2_with fail
              go_roundg g
              case measure => omega
              case rel => exact ⟨i + 1, m2, by go_num, by omega, H1.out, hbd.1, by omega, H2.out, HV.out⟩
          · have hnil : l.drop i = [] := List.drop_eq_nil_of_le (by omega)
            have hge : decide (i < l.length) = false := decide_eq_false (by omega)
            have hge2 : l.length ≤ i := by omega
            rw [hnil] at hV
            simp only [validL] at hV
            subst hV
            have H1 : Hid _ := hm
            have H2 : Hid _ := B
            clear hm B hnil hli
            go_wp2_with fail
            go_ret
            exact ⟨rfl, H1.out, H2.out⟩

mutual
theorem valid_ok : ∀ x : S24, ValidOk x
  | ⟨a, bb, s, l⟩ => by
    have hl := valid_oks l
    intro W0 A c w pb n d hr hc hw hpb hp hn0 hn1 hd0 hd1 hall hsz
    simp only [allC] at hall
    simp only [wid] at hsz
    have h1 := wids_len l
    exact valid_x W0 a bb s l A c w pb n d hr hc hw hpb hp hn0 hn1 hd0 hd1 hall.1 (fun x hx => ⟨hl x hx, allCs_mem hall.2 hx, by have := wid_mem hx; omega⟩) (by omega)
theorem valid_oks : ∀ (l : List S24), ∀ x ∈ l, ValidOk x
  | [], x, h => absurd h (List.not_mem_nil)
  | y :: l, x, h => by
    rcases List.mem_cons.1 h with h | h
    · rw [h]; exact valid_ok y
    · exact valid_oks l x h
end

def ValidM (x : S24) : Bool := (validM x 20000 100).1

set_option maxRecDepth 100000 in
theorem Valid_any (x : S24) (A : Option Addr) (c : Nat) (w : World) (hr : Kd.C k24 w A x.f3.length x.f3) (hc : x.f3.length ≤ c) (hall : allC x) (hn : wid x < 9000000) :
    Calls Tryz.prog 73 #[formV x.f0 x.f1 x.f2 A x.f3.length c] w fun e w' => e = .returned (.bool (ValidM x)) ∧ Below w.heap.size w w' := by
  have hu24 := Tryz.underlying24
  have hv := fun w1 hw hp => valid_ok x w A c w1 (w.heap.size + 1) 20000 100 hr hc hw (by omega) hp (by decide) (by decide) (by decide) (by decide) hall hn
  obtain ⟨a, bb, s, l⟩ := x
  obtain ⟨Q, hQ⟩ : ∃ Q, Q = validM ⟨a, bb, s, l⟩ 20000 100 := ⟨_, rfl⟩
  unfold ValidM
  rw [← hQ] at hv ⊢
  have B0 : Below w.heap.size w ((w.alloc (Obj.cells #[.int .i64 a, .int .i64 bb, .string s, .slice A l.length c] 24)).alloc (Obj.cells #[.int .i64 20000] 3)) := by (repeat (first | assumption | exact Below.refl _ _ | apply below_alloc | apply pw_below_drewN | apply below_drew1))
  have hp0 : ((w.alloc (Obj.cells #[.int .i64 a, .int .i64 bb, .string s, .slice A l.length c] 24)).alloc (Obj.cells #[.int .i64 20000] 3)).heap[w.heap.size + 1]? = some (Obj.cells #[.int .i64 20000] 3 (0, 0)) := by
    have h := (MapKept.heap_alloc (w.alloc (Obj.cells #[.int .i64 a, .int .i64 bb, .string s, .slice A l.length c] 24)) (Obj.cells #[.int .i64 20000] 3)).1
    rw [size_new] at h
    exact h
  have HV : Hid _ := hv _ B0 hp0
  clear hr hv hall hn hQ hp0
  go_enter Tryz.func73, Tryz.ntmps73
  go_wp2_with fail
  refine Calls.mono HV.out ?_
  rintro e w2 ⟨rfl, _, B2⟩
  have H2 : Hid _ := B2
  clear B2
  go_wp2_with fail
  go_ret
  exact ⟨rfl, H2.out⟩

end Go.Proofs.YtcjmplpfebpfpaaGreatDoor

namespace Go.Proofs.YtcjmplpfebpfpaaGreatDoor
open Go.RowKit Go.Proofs Go.Proofs.YtcjmplpfebpfpaaGreatDoorW.PrintWords Go.Proofs.YtcjmplpfebpfpaaGreatDoorW.PrintLast Go.Proofs.YtcjmplpfebpfpaaGreatDoorW.PrintMore PKindInstances
set_option linter.unusedVariables false
set_option linter.unusedSimpArgs false

def isNameM (s : ByteArray) : Bool := !resM s && ValidM ⟨1, 0, s, []⟩

set_option maxRecDepth 100000 in
theorem isName_any (s : ByteArray) (w : World) (hl : LeafC ⟨1, 0, s, []⟩) (hs : s.size < 8000000) : Calls Tryz.prog 91 #[.string s] w fun e w' => e = .returned (.bool (isNameM s)) ∧ Below w.heap.size w w' := by
  have hu24 := Tryz.underlying24
  have HV : Hid _ := fun w1 => Valid_any ⟨1, 0, s, []⟩ none 0 w1 (Kd.C_nil _ _) (Nat.le_refl _) ⟨hl, trivial⟩ (by simp [wid, wids]; omega)
  unfold isNameM
  cases hr : resM s with
  | true =>
    go_enter Tryz.func91, Tryz.ntmps91
    go_wp2_with fail
    refine (reserved_any _ _).mono ?_
    rintro e w1 ⟨rfl, B1⟩
    rw [hr]
    go_wp2_with fail
    go_ret
    exact ⟨rfl, B1⟩
  | false =>
    obtain ⟨v, hv⟩ : ∃ v, v = ValidM ⟨1, 0, s, []⟩ := ⟨_, rfl⟩
    rw [← hv] at HV ⊢
    clear hv
    go_enter Tryz.func91, Tryz.ntmps91
    go_wp2_with fail
    refine (reserved_any _ _).mono ?_
    rintro e w1 ⟨rfl, B1⟩
    rw [hr]
    go_wp2_with fail
    refine Calls.mono (HV.out _) ?_
    rintro e w2 ⟨rfl, B2⟩
    have B3 := below_after B1 B2
    clear B1 B2
    go_wp2_with fail
    go_ret
    exact ⟨rfl, B3⟩

set_option maxRecDepth 100000 in
theorem notValid_any (x : S24) (A : Option Addr) (c : Nat) (w : World) (hr : Kd.C k24 w A x.f3.length x.f3) (hc : x.f3.length ≤ c) (hall : allC x) (hn : wid x < 9000000) :
    Calls Tryz.prog 93 #[formV x.f0 x.f1 x.f2 A x.f3.length c] w fun e w' => e = .returned (.bool (!ValidM x)) ∧ Below w.heap.size w w' := by
  have hu24 := Tryz.underlying24
  have HV := fun w1 h1 => Valid_any x A c w1 h1 hc hall hn
  obtain ⟨a, n, s, l⟩ := x
  have HV : Hid _ := HV (w.alloc (Obj.cells #[.int .i64 a, .int .i64 n, .string s, .slice A l.length c] 24)) (Kd.C_alloc hr _)
  obtain ⟨v, hv⟩ : ∃ v, v = ValidM ⟨a, n, s, l⟩ := ⟨_, rfl⟩
  rw [← hv] at HV ⊢
  clear hv hr hall hn
  go_enter Tryz.func93, Tryz.ntmps93
  go_wp2_with fail
  refine Calls.mono HV.out ?_
  rintro e w2 ⟨rfl, B2⟩
  have B3 : Below w.heap.size w w2 := below_after (by (repeat (first | assumption | exact Below.refl _ _ | apply below_alloc | apply pw_below_drewN | apply below_drew1))) B2
  clear B2
  go_wp2_with fail
  go_ret
  exact ⟨rfl, B3⟩

/-- What holds of the loop. -/
def IdxRel (W0 : World) (l : List S24) (R : Bool) (k : Nat) (x8 : Value) (wr : World) : Prop :=
  ∃ (i : Nat), x8 = .int .i64 (i : Int) ∧ k + i = l.length ∧ Below W0.heap.size W0 wr ∧ (l.drop i).any (fun x => !ValidM x) = R

theorem drop_at2 {l : List S24} {i : Nat} {x : S24} (hx : l[i]? = some x) : l.drop i = x :: l.drop (i + 1) := by
  obtain ⟨h, e⟩ := List.getElem?_eq_some_iff.1 hx
  rw [List.drop_eq_getElem_cons h, e]

set_option maxRecDepth 100000 in
set_option maxHeartbeats 4000000 in
theorem indexBad_any (l : List S24) (A : Option Addr) (c : Nat) (w : World) (hr : Kd.C k24 w A l.length l) (hc : l.length ≤ c) (hn : l.length < 9000000) (hq : ∀ x ∈ l, allC x ∧ wid x < 9000000) :
    Calls Tryz.prog 135 #[.slice A l.length c, .func (.func 93) #[] #[]] w fun e w' => ∃ r, e = .returned (.int .i64 r) ∧ decide (0 ≤ r) = l.any (fun x => !ValidM x) ∧ Below w.heap.size w w' := by
  have hu24 := Tryz.underlying24
  obtain ⟨R, hR⟩ : ∃ R, R = l.any (fun x => !ValidM x) := ⟨_, rfl⟩
  rw [← hR]
  have start : Hid (IdxRel w l R l.length (.int .i64 ((0 : Nat) : Int)) w) := ⟨0, rfl, rfl, Below.refl _ _, hR.symm⟩
  have HR : Hid _ := hr
  have HQ : Hid _ := hq
  clear hr hq hR
  go_enter Tryz.func135, Tryz.ntmps135
  go_wp2_with fail
  go_loopg [8] l.length (fun k x8 wr => IdxRel w l R k x8 wr)
  case atStart => exact start.out
  case round =>
    clear start
    obtain ⟨i, rfl, hki, Bl, hV⟩ := hrel
    by_cases hlt : i < l.length
    · obtain ⟨g, rfl⟩ : ∃ g, gk = g + 1 := ⟨gk - 1, by omega⟩
      have e1 : decide (i < l.length) = true := decide_eq_true hlt
      obtain ⟨x, hx⟩ : ∃ x, l[i]? = some x := ⟨l[i], by simp [hlt]⟩
      obtain ⟨ad, A3, c3, rfl, g0, g1, g2, g3, g4, g5⟩ := row_at (Kd.C_below HR.out Bl) hlt hx
      rw [drop_at2 hx, List.any_cons] at hV
      have OK : Hid _ := notValid_any x A3 c3 wr g5 g4 (HQ.out x (List.mem_of_getElem? hx)).1 (HQ.out x (List.mem_of_getElem? hx)).2
      have BL : Hid _ := Bl
      clear Bl g5 hx
      obtain ⟨x0, x1, x2, x3⟩ := x
      cases hv : ValidM ⟨x0, x1, x2, x3⟩ with
      | true =>
        rw [hv] at OK hV
        have HV : Hid _ := hV
        clear hV hv
        go_wp2_with fail
        refine Calls.mono OK.out ?_
        rintro e w2 ⟨rfl, B2⟩
        have B3 : Hid _ := below_after BL.out B2
        clear B2
        go_wp2_with fail
        go_roundg g
        case measure => omega
        case rel => exact ⟨i + 1, by go_num, by omega, B3.out, by simpa using HV.out⟩
      | false =>
        rw [hv] at OK hV
        have HV : Hid _ := hV
        clear hV hv
        go_wp2_with fail
        refine Calls.mono OK.out ?_
        rintro e w2 ⟨rfl, B2⟩
        have B3 : Hid _ := below_after BL.out B2
        clear B2
        go_wp2_with fail
        go_ret
        exact ⟨_, rfl, by have h := HV.out; simp at h; rw [h]; exact decide_eq_true (Int.natCast_nonneg i), B3.out⟩
    · have e1 : decide (i < l.length) = false := decide_eq_false hlt
      have hge2 : l.length ≤ i := by omega
      have e3 : l.drop i = [] := List.drop_eq_nil_of_le (by omega)
      rw [e3] at hV
      have HV : Hid _ := hV
      have BL : Hid _ := Bl
      clear e3 Bl hV
      go_wp2_with fail
      go_ret
      exact ⟨_, rfl, by rw [← HV.out]; rfl, BL.out⟩

theorem anyBad_any (l : List S24) (A : Option Addr) (c : Nat) (w : World) (hr : Kd.C k24 w A l.length l) (hc : l.length ≤ c) (hn : l.length < 9000000) (hq : ∀ x ∈ l, allC x ∧ wid x < 9000000) :
    Calls Tryz.prog 92 #[.slice A l.length c, .func (.func 93) #[] #[]] w fun e w' => e = .returned (.bool (l.any (fun x => !ValidM x))) ∧ Below w.heap.size w w' := by
  have HI : Hid _ := indexBad_any l A c w hr hc hn hq
  obtain ⟨R, hR⟩ : ∃ R, R = l.any (fun x => !ValidM x) := ⟨_, rfl⟩
  rw [← hR] at HI ⊢
  clear hr hq hR
  go_enter Tryz.func92, Tryz.ntmps92
  go_wp2_with fail
  refine Calls.mono HI.out ?_
  rintro e w2 ⟨r, rfl, hr, B2⟩
  go_wp2_with fail
  go_ret
  exact ⟨by rw [← hr]; rfl, B2⟩

end Go.Proofs.YtcjmplpfebpfpaaGreatDoor

namespace Go.Proofs.YtcjmplpfebpfpaaGreatDoor
open Go.RowKit Go.Proofs

instance : LawfulBEq ByteArray where
  eq_of_beq h := (MapKept.bytes_beq _ _).1 h
  rfl := (MapKept.bytes_beq _ _).2 rfl

theorem bytes_inj {a b : ByteArray} (h : a.toList = b.toList) : a = b := by
  rw [ByteArray.toList_eq, ByteArray.toList_eq] at h
  cases a with
  | mk a =>
    cases b with
    | mk b =>
      have : a = b := Array.toList_inj.1 h
      rw [this]

end Go.Proofs.YtcjmplpfebpfpaaGreatDoor

namespace Go.Proofs.YtcjmplpfebpfpaaGreatDoor
open Go.RowKit Go.Proofs Go.Proofs.YtcjmplpfebpfpaaGreatDoorW.PrintWords Go.Proofs.YtcjmplpfebpfpaaGreatDoorW.PrintLast Go.Proofs.YtcjmplpfebpfpaaGreatDoorW.PrintMore PKindInstances
set_option linter.unusedVariables false
set_option linter.unusedSimpArgs false

/-- A solver in memory: its block, its two maps. -/
structure SolvAt (base : Nat) (w : World) (sp vb tb : Nat) (mv mt : List (ByteArray × Value)) : Prop where
  blk : w.heap[sp]? = some (.cells #[.map (some vb), .map (some tb)] 102 (0, 0))
  vars : MapAt w vb (kvs textV mv)
  tos : MapAt w tb (kvs textV mt)
  bs : base ≤ sp
  bv : base ≤ vb
  bt : base ≤ tb
  ne : vb ≠ tb

theorem blk_notMap {w : World} {sp vb : Nat} {cs : Array Value} {t : TypeId} {m : List (Value × Value)} (h : w.heap[sp]? = some (.cells cs t (0, 0))) (hm : MapAt w vb m) : sp ≠ vb := by
  rintro rfl
  obtain ⟨es, c, hb, _⟩ := hm
  rw [h] at hb
  cases hb

theorem SolvAt.lt {base : Nat} {w : World} {sp vb tb : Nat} {mv mt : List (ByteArray × Value)} (h : SolvAt base w sp vb tb mv mt) : sp < w.heap.size := (Array.getElem?_eq_some_iff.1 h.blk).1
theorem SolvAt.below {base : Nat} {w w1 : World} {sp vb tb : Nat} {mv mt : List (ByteArray × Value)} (h : SolvAt base w sp vb tb mv mt) (hb : Below w.heap.size w w1) : SolvAt base w1 sp vb tb mv mt :=
  ⟨(hb.block sp h.lt).trans h.blk, h.vars.kept (grown_of_below hb none) (by simp), h.tos.kept (grown_of_below hb none) (by simp), h.bs, h.bv, h.bt, h.ne⟩
theorem SolvAt.putVars {base : Nat} {w w1 : World} {sp vb tb : Nat} {mv mt mv' : List (ByteArray × Value)} (h : SolvAt base w sp vb tb mv mt) (hm : MapAt w1 vb (kvs textV mv')) (hg : w.grownBy w1 (some vb)) : SolvAt base w1 sp vb tb mv' mt :=
  ⟨(hg.block sp h.lt (by simp; exact blk_notMap h.blk h.vars)).trans h.blk, hm, h.tos.kept hg (by simp; exact fun e => h.ne e.symm), h.bs, h.bv, h.bt, h.ne⟩
theorem SolvAt.putTo {base : Nat} {w w1 : World} {sp vb tb : Nat} {mv mt mt' : List (ByteArray × Value)} (h : SolvAt base w sp vb tb mv mt) (hm : MapAt w1 tb (kvs textV mt')) (hg : w.grownBy w1 (some tb)) : SolvAt base w1 sp vb tb mv mt' :=
  ⟨(hg.block sp h.lt (by simp; exact blk_notMap h.blk h.tos)).trans h.blk, h.vars.kept hg (by simp; exact h.ne), hm, h.bs, h.bv, h.bt, h.ne⟩
theorem SolvAt.c0 {base : Nat} {w : World} {sp vb tb : Nat} {mv mt : List (ByteArray × Value)} (h : SolvAt base w sp vb tb mv mt) : w.cell? ⟨sp, 0, none⟩ = some (.map (some vb)) := by simp [World.cell?, h.blk]
theorem SolvAt.c1 {base : Nat} {w : World} {sp vb tb : Nat} {mv mt : List (ByteArray × Value)} (h : SolvAt base w sp vb tb mv mt) : w.cell? ⟨sp, 1, none⟩ = some (.map (some tb)) := by simp [World.cell?, h.blk]

/-- The variables as the map's entries. -/
def varsV (l : List ByteArray) : List (ByteArray × Value) := l.map fun v => (v, .bool true)
theorem look_vars : ∀ (l : List ByteArray) (v : ByteArray), look (varsV l) v = if v ∈ l then some (.bool true) else none
  | [], v => by simp [varsV, look]
  | a :: l, v => by
    have := look_vars l v
    simp only [varsV] at this
    simp only [varsV, List.map_cons, look, this, List.mem_cons]
    by_cases h : v = a <;> simp [h]
theorem look_bool (l : List ByteArray) (v : ByteArray) : (look (varsV l) v).getD (.bool false) = .bool (decide (v ∈ l)) := by
  rw [look_vars]
  by_cases h : v ∈ l <;> simp [h]
theorem put_vars : ∀ (l : List ByteArray) (v : ByteArray), v ∉ l → putM (varsV l) v (.bool true) = varsV (l ++ [v])
  | [], v, _ => rfl
  | a :: l, v, h => by
    have := put_vars l v (fun e => h (List.mem_cons_of_mem _ e))
    simp only [varsV] at this
    simp only [varsV, List.map_cons, List.cons_append, putM]
    rw [if_neg (fun e => h (by rw [e]; exact List.mem_cons_self)), this]

/-- Whether names are such, each once. -/
def namesM : List ByteArray → List ByteArray → Bool
  | _, [] => true
  | seen, v :: l => if decide (v ∈ seen) || !isNameM v then false else namesM (seen ++ [v]) l
def rowsM (rows : List (List S24)) : Bool := rows.all fun l => !(l.any fun x => !ValidM x)

/-- What holds of the loop over the names. -/
def OpenRel (w : World) (sp vb tb : Nat) (vars : List ByteArray) (R : Bool) (k : Nat) (x17 : Value) (wr : World) : Prop :=
  ∃ (i : Nat), x17 = .int .i64 (i : Int) ∧ k + i = vars.length ∧ SolvAt w.heap.size wr sp vb tb (varsV (vars.take i)) [] ∧ Below w.heap.size w wr ∧ namesM (vars.take i) (vars.drop i) = R

theorem text_at {w : World} {A : Option Addr} {l : List ByteArray} (h : Kd.C Kd.string w A l.length l) {i : Nat} {v : ByteArray} (hv : l[i]? = some v) : ∃ ad, A = some ad ∧ w.cell? (ad.add i) = some (.string v) := by
  have hi : i < l.length := (List.getElem?_eq_some_iff.1 hv).1
  obtain ⟨ad, e, g⟩ := Kd.at_string h (i : Int) (by omega) (by omega)
  refine ⟨ad, e, ?_⟩
  have : rdOf ByteArray.empty l (i : Int) = v := by simp [rdOf, List.getD, hv]
  rw [this] at g
  simpa using g

/-- What holds of the loop over the rows. -/
def OpenRel2 (w : World) (sp vb tb : Nat) (vars : List ByteArray) (rows : List (List S24)) (R : Bool) (k : Nat) (x40 : Value) (wr : World) : Prop :=
  ∃ (i : Nat), x40 = .int .i64 (i : Int) ∧ k + i = rows.length ∧ SolvAt w.heap.size wr sp vb tb (varsV vars) [] ∧ Below w.heap.size w wr ∧ rowsM (rows.drop i) = R

/-- What comes back. -/
def OpenPost (w : World) (sp vb tb : Nat) (vars : List ByteArray) (R : Bool) (e : Ending) (w' : World) : Prop :=
  e = .returned (if R then .tuple #[.pointer (some ⟨sp, 0, none⟩), .bool true] else .tuple #[.pointer none, .bool false]) ∧ (R = true → SolvAt w.heap.size w' sp vb tb (varsV vars) []) ∧ Below w.heap.size w w'

theorem SolvAt.made (w : World) : SolvAt w.heap.size (((w.alloc (.map #[] 0)).alloc (.map #[] 0)).alloc (.cells #[.map (some w.heap.size), .map (some (w.heap.size + 1))] 102)) (w.heap.size + 1 + 1) w.heap.size (w.heap.size + 1) [] [] := by
  have s1 : (w.alloc (.map #[] 0)).heap.size = w.heap.size + 1 := size_new _ _
  have s2 : ((w.alloc (.map #[] 0)).alloc (.map #[] 0)).heap.size = w.heap.size + 1 + 1 := by rw [size_new, s1]
  have h2 := MapAt.made (w.alloc (.map #[] 0))
  rw [s1] at h2
  have h3 := (MapKept.heap_alloc ((w.alloc (.map #[] 0)).alloc (.map #[] 0)) (.cells #[.map (some w.heap.size), .map (some (w.heap.size + 1))] 102)).1
  rw [s2] at h3
  refine ⟨h3, ?_, ?_, by omega, by omega, by omega, by omega⟩
  · exact ((MapAt.made w).kept (World.grownBy_alloc _ _ none) (by simp)).kept (World.grownBy_alloc _ _ none) (by simp)
  · exact h2.kept (World.grownBy_alloc _ _ none) (by simp)

theorem rows_at {w : World} {A : Option Addr} {rows : List (List S24)} (h : Kd.C (Kd.slice 22 k24) w A rows.length rows) {i : Nat} {l : List S24} (hl : rows[i]? = some l) :
    ∃ ad B d, A = some ad ∧ w.cell? (ad.add i) = some (.slice B l.length d) ∧ l.length ≤ d ∧ Kd.C k24 w B l.length l := by
  have hi : i < rows.length := (List.getElem?_eq_some_iff.1 hl).1
  obtain ⟨ad, cs, e, _, hK, hc⟩ := Kd.C_get h ([] : List S24) (i : Int) (by omega) (by omega)
  have e1 : rows.getD (i : Int).toNat [] = l := by simp [List.getD, hl]
  obtain ⟨B, d, rfl, h1, h2⟩ := hK
  rw [e1] at h1 h2 hc
  have := hc 0 _ rfl
  refine ⟨ad, B, d, e, ?_, h1, h2⟩
  have e2 : (i : Int).toNat * (Kd.slice 22 k24).sz + 0 = i := by simp [show (Kd.slice 22 k24).sz = 1 from rfl]
  rw [e2] at this
  exact this

set_option maxRecDepth 100000 in
set_option maxHeartbeats 4000000 in
theorem open_any (vars : List ByteArray) (rows : List (List S24)) (AN AL : Option Addr) (c d : Nat) (w : World) (hv : Kd.C Kd.string w AN vars.length vars) (hc : vars.length ≤ c) (hl : Kd.C (Kd.slice 22 k24) w AL rows.length rows) (hd : rows.length ≤ d)
    (hn : vars.length < 9000000) (hn2 : rows.length < 9000000) (hq : ∀ v ∈ vars, LeafC ⟨1, 0, v, []⟩ ∧ v.size < 8000000) (hr : ∀ l ∈ rows, l.length < 9000000 ∧ ∀ x ∈ l, allC x ∧ wid x < 9000000) :
    Calls Tryz.prog 53 #[.slice AN vars.length c, .slice AL rows.length d] w (OpenPost w (w.heap.size + 1 + 1) w.heap.size (w.heap.size + 1) vars (namesM [] vars && rowsM rows)) := by
  have hu := Tryz.underlying100
  have hu9 := Tryz.underlying9
  obtain ⟨R, hR⟩ : ∃ R, R = namesM [] vars := ⟨_, rfl⟩
  obtain ⟨T, hT⟩ : ∃ T, T = rowsM rows := ⟨_, rfl⟩
  rw [← hR, ← hT]
  have start : Hid (OpenRel w (w.heap.size + 1 + 1) w.heap.size (w.heap.size + 1) vars R vars.length (.int .i64 ((0 : Nat) : Int)) (((w.alloc (.map #[] 0)).alloc (.map #[] 0)).alloc (.cells #[.map (some w.heap.size), .map (some (w.heap.size + 1))] 102))) := ⟨0, rfl, rfl, SolvAt.made w, by (repeat (first | assumption | exact Below.refl _ _ | apply below_alloc | apply pw_below_drewN | apply below_drew1)), hR.symm⟩
  have HVV : Hid _ := hv
  have HLL : Hid _ := hl
  have HQ : Hid _ := hq
  have HR2 : Hid _ := hr
  have HT : Hid _ := hT
  clear hv hl hq hr hR hT
  go_enter Tryz.func53, Tryz.ntmps53
  go_wp2_with fail
  simp only [run_makeMap]
  go_wp2_with fail
  simp only [run_makeMap]
  go_wp2_with fail
  go_loopg [17] vars.length (fun k x17 wr => OpenRel w (w.heap.size + 1 + 1) w.heap.size (w.heap.size + 1) vars R k x17 wr)
  case atStart => exact start.out
  case round =>
    clear start
    obtain ⟨i, rfl, hki, hS, hB, hV⟩ := hrel
    by_cases hlt : i < vars.length
    · obtain ⟨g, rfl⟩ : ∃ g, gk = g + 1 := ⟨gk - 1, by omega⟩
      have e1 : decide (i < vars.length) = true := decide_eq_true hlt
      obtain ⟨v, hv⟩ : ∃ v, vars[i]? = some v := ⟨vars[i], by simp [hlt]⟩
      obtain ⟨ad, rfl, g0⟩ := text_at (Kd.C_below HVV.out hB) hv
      have hdr : vars.drop i = v :: vars.drop (i + 1) := by
        obtain ⟨h, e⟩ := List.getElem?_eq_some_iff.1 hv
        rw [List.drop_eq_getElem_cons h, e]
      have htk : vars.take (i + 1) = vars.take i ++ [v] := by rw [List.take_add_one, hv]; rfl
      rw [hdr] at hV
      have c0 := hS.c0
      have hz : (zeroValue 4).run Tryz.prog wr = .ok (.bool false) wr := by go_simp
      have NM : Hid (∀ w, Calls Tryz.prog 91 #[.string v] w fun e w' => e = .returned (.bool (isNameM v)) ∧ Below w.heap.size w w') := fun w => isName_any v w (HQ.out v (List.mem_of_getElem? hv)).1 (HQ.out v (List.mem_of_getElem? hv)).2
      have SH : Hid _ := hS
      have BH : Hid _ := hB
      have TK : Hid _ := htk
      clear hS hB hdr hv htk
      simp only [namesM] at hV
      cases hmem : decide (v ∈ vars.take i) with
      | true =>
        rw [hmem] at hV
        simp only [Bool.true_or, if_true] at hV
        subst hV
        go_wp2_with (first | (refine law_lookup keyText' rfl _ _ false rfl hu hu9 hz SH.out.vars v rfl rfl ?_; rw [if_neg (by simp), look_bool, hmem]))
        go_ret2
        exact ⟨rfl, fun h => absurd h (by simp), BH.out⟩
      | false =>
        rw [hmem] at hV
        have hmem2 : v ∉ vars.take i := of_decide_eq_false hmem
        obtain ⟨q, hq⟩ : ∃ q, q = isNameM v := ⟨_, rfl⟩
        rw [← hq] at hV NM
        clear hq
        cases q with
        | false =>
          simp only [Bool.false_or, Bool.not_false, if_true] at hV
          subst hV
          go_wp2_with (first | (refine law_lookup keyText' rfl _ _ false rfl hu hu9 hz SH.out.vars v rfl rfl ?_; rw [if_neg (by simp), look_bool, hmem]))
          refine Calls.mono (NM.out _) ?_
          rintro e w2 ⟨rfl, B2⟩
          have B3 : Hid _ := below_after BH.out B2
          clear B2
          go_wp2_with fail
          go_ret2
          exact ⟨rfl, fun h => absurd h (by simp), B3.out⟩
        | true =>
          simp only [Bool.false_or, Bool.not_true, Bool.false_eq_true, if_false] at hV
          go_wp2_with (first | (refine law_lookup keyText' rfl _ _ false rfl hu hu9 hz SH.out.vars v rfl rfl ?_; rw [if_neg (by simp), look_bool, hmem]))
          refine Calls.mono (NM.out _) ?_
          rintro e w2 ⟨rfl, B2⟩
          have S2 := SH.out.below B2
          have B3 : Hid _ := below_after BH.out B2
          have c02 := S2.c0
          have V2 : Hid _ := S2.vars
          have SH2 : Hid _ := S2
          clear B2 S2
          go_wp2_with (first | (refine law_update keyText' rfl _ _ _ (.inl rfl) hu hu9 V2.out v (.bool true) rfl rfl rfl ?_; intro w3 M3 G3))
          rw [put_vars _ _ hmem2, ← TK.out] at M3
          have S3 : Hid _ := SH2.out.putVars M3 G3
          have B4 : Hid _ := below_grown1 B3.out G3 (Nat.le_refl _)
          have HV : Hid _ := hV
          clear M3 G3 hV
          go_roundg g
          case measure => omega
          case rel => exact ⟨i + 1, by go_num, by omega, S3.out, B4.out, by rw [TK.out]; exact HV.out⟩
    · have e1 : decide (i < vars.length) = false := decide_eq_false hlt
      have hge2 : vars.length ≤ i := by omega
      have e3 : vars.drop i = [] := List.drop_eq_nil_of_le (by omega)
      have e4 : vars.take i = vars := List.take_of_length_le (by omega)
      rw [e3, e4] at hV
      rw [e4] at hS
      simp only [namesM] at hV
      subst hV
      have start2 : Hid (OpenRel2 w (w.heap.size + 1 + 1) w.heap.size (w.heap.size + 1) vars rows T rows.length (.int .i64 ((0 : Nat) : Int)) wr) := ⟨0, rfl, rfl, hS, hB, HT.out.symm⟩
      clear hS hB e3 e4
      go_wp2_with fail
      go_loopg [40] rows.length (fun k x40 w1 => OpenRel2 w (w.heap.size + 1 + 1) w.heap.size (w.heap.size + 1) vars rows T k x40 w1)
      case atStart => exact start2.out
      case round =>
        clear start2
        obtain ⟨j, rfl, hkj, hS, hB, hV⟩ := hrel
        by_cases hjt : j < rows.length
        · obtain ⟨g, rfl⟩ : ∃ g, gk = g + 1 := ⟨gk - 1, by omega⟩
          have e1 : decide (j < rows.length) = true := decide_eq_true hjt
          obtain ⟨l, hl⟩ : ∃ l, rows[j]? = some l := ⟨rows[j], by simp [hjt]⟩
          obtain ⟨ad, B, db, rfl, g0, g1, g2⟩ := rows_at (Kd.C_below HLL.out hB) hl
          have hdr : rows.drop j = l :: rows.drop (j + 1) := by
            obtain ⟨h, e⟩ := List.getElem?_eq_some_iff.1 hl
            rw [List.drop_eq_getElem_cons h, e]
          rw [hdr] at hV
          have hRl := HR2.out l (List.mem_of_getElem? hl)
          have AB : Hid _ := anyBad_any l B db _ g2 g1 hRl.1 hRl.2
          have SH : Hid _ := hS
          have BH : Hid _ := hB
          clear hS hB g2 hRl hdr hl
          simp only [rowsM, List.all_cons] at hV
          obtain ⟨q, hq⟩ : ∃ q, q = l.any (fun x => !ValidM x) := ⟨_, rfl⟩
          rw [← hq] at hV AB
          clear hq
          cases q with
          | true =>
            simp only [Bool.not_true, Bool.false_and] at hV
            subst hV
            go_wp2_with fail
            refine Calls.mono AB.out ?_
            rintro e w2 ⟨rfl, B2⟩
            have B3 : Hid _ := below_after BH.out B2
            clear B2
            go_wp2_with fail
            go_ret2
            exact ⟨rfl, fun h => absurd h (by simp), B3.out⟩
          | false =>
            simp only [Bool.not_false, Bool.true_and] at hV
            have HV : Hid (rowsM (rows.drop (j + 1)) = T) := hV
            clear hV
            go_wp2_with fail
            refine Calls.mono AB.out ?_
            rintro e w2 ⟨rfl, B2⟩
            have B3 : Hid _ := below_after BH.out B2
            have S3 : Hid _ := SH.out.below B2
            clear B2
            go_wp2_with fail
            go_roundg g
            case measure => omega
            case rel => exact ⟨j + 1, by go_num, by omega, S3.out, B3.out, HV.out⟩
        · have e1 : decide (j < rows.length) = false := decide_eq_false hjt
          have hge3 : rows.length ≤ j := by omega
          have e3 : rows.drop j = [] := List.drop_eq_nil_of_le (by omega)
          rw [e3] at hV
          have hT2 : T = true := by rw [← hV]; rfl
          subst hT2
          have SH : Hid _ := hS
          have BH : Hid _ := hB
          clear hS hB hV e3
          go_wp2_with fail
          go_ret2
          exact ⟨rfl, fun _ => SH.out, BH.out⟩

end Go.Proofs.YtcjmplpfebpfpaaGreatDoor

namespace Go.Proofs.YtcjmplpfebpfpaaGreatDoor
open Go.RowKit Go.Proofs Go.Proofs.YtcjmplpfebpfpaaGreatDoorW.PrintWords Go.Proofs.YtcjmplpfebpfpaaGreatDoorW.PrintLast Go.Proofs.YtcjmplpfebpfpaaGreatDoorW.PrintMore PKindInstances
set_option linter.unusedVariables false
set_option linter.unusedSimpArgs false

/-- A form as a value whose parts lie in memory. -/
def FormAt (W0 : World) (v : Value) (x : S24) : Prop := ∃ A c, v = formV x.f0 x.f1 x.f2 A x.f3.length c ∧ Kd.C k24 W0 A x.f3.length x.f3 ∧ x.f3.length ≤ c ∧ wid x < 9000000

/-- What is known of the variables, and the map's entries. -/
def ToAt (W0 : World) : List (ByteArray × S24) → List (ByteArray × Value) → Prop
  | [], [] => True
  | (a, x) :: m, (b, v) :: n => a = b ∧ FormAt W0 v x ∧ ToAt W0 m n
  | _, _ => False

def lookT : List (ByteArray × S24) → ByteArray → Option S24
  | [], _ => none
  | (a, x) :: m, k => if k = a then some x else lookT m k
def putT : List (ByteArray × S24) → ByteArray → S24 → List (ByteArray × S24)
  | [], k, x => [(k, x)]
  | (a, y) :: m, k, x => if k = a then (a, x) :: m else (a, y) :: putT m k x

theorem look_to {W0 : World} : ∀ {m : List (ByteArray × S24)} {n : List (ByteArray × Value)}, ToAt W0 m n → ∀ k, (lookT m k = none ∧ look n k = none) ∨ ∃ x v, lookT m k = some x ∧ look n k = some v ∧ FormAt W0 v x
  | [], [], _, k => .inl ⟨rfl, rfl⟩
  | (a, x) :: m, (b, v) :: n, h, k => by
    obtain ⟨rfl, h1, h2⟩ := h
    by_cases hk : k = a
    · exact .inr ⟨x, v, by simp [lookT, hk], by simp [look, hk], h1⟩
    · rcases look_to h2 k with ⟨e1, e2⟩ | ⟨y, u, e1, e2, e3⟩
      · exact .inl ⟨by simp [lookT, hk, e1], by simp [look, hk, e2]⟩
      · exact .inr ⟨y, u, by simp [lookT, hk, e1], by simp [look, hk, e2], e3⟩
theorem put_to {W0 : World} : ∀ {m : List (ByteArray × S24)} {n : List (ByteArray × Value)}, ToAt W0 m n → ∀ (k : ByteArray) {x : S24} {v : Value}, FormAt W0 v x → ToAt W0 (putT m k x) (putM n k v)
  | [], [], _, k, x, v, h => ⟨rfl, h, trivial⟩
  | (a, y) :: m, (b, u) :: n, h, k, x, v, hx => by
    obtain ⟨rfl, h1, h2⟩ := h
    by_cases hk : k = a
    · simp only [putT, putM, hk, if_true]
      exact ⟨rfl, hx, h2⟩
    · simp only [putT, putM, if_neg hk]
      exact ⟨rfl, h1, put_to h2 k hx⟩

/-- A form with what is known of its outermost variable. -/
def knownM (vs : List ByteArray) (mt : List (ByteArray × S24)) : Nat → S24 → Option S24
  | 0, _ => none
  | n + 1, x => if x.f0 = 1 ∧ x.f2 ∈ vs then (match lookT mt x.f2 with | none => some x | some y => knownM vs mt n y) else some x

/-- What holds of the loop. -/
def KnRel (W0 w : World) (vs : List ByteArray) (mt : List (ByteArray × S24)) (y : S24) (k : Nat) (wr : World) : Prop :=
  ∃ (x : S24) (A : Option Addr) (c : Nat), wr.heap[w.heap.size]? = some (.cells #[.int .i64 x.f0, .int .i64 x.f1, .string x.f2, .slice A x.f3.length c] 24 (0, 0)) ∧
    wr.heap[w.heap.size + 1]? = some (.cells #[.int .i64 0, .int .i64 0, .string ⟨#[]⟩, .slice none 0 0] 24 (0, 0)) ∧
    Kd.C k24 W0 A x.f3.length x.f3 ∧ x.f3.length ≤ c ∧ Below w.heap.size w wr ∧ wid x < 9000000 ∧ knownM vs mt k x = some y

theorem cells4 {w : World} {b : Nat} {v0 v1 v2 v3 : Value} {t : TypeId} (h : w.heap[b]? = some (.cells #[v0, v1, v2, v3] t (0, 0))) :
    w.cell? ⟨b, 0, none⟩ = some v0 ∧ w.cell? ⟨b, 1, none⟩ = some v1 ∧ w.cell? ⟨b, 2, none⟩ = some v2 ∧ w.cell? ⟨b, 3, none⟩ = some v3 := by
  refine ⟨?_, ?_, ?_, ?_⟩ <;> simp [World.cell?, h]
theorem frozen4 {w : World} {b i : Nat} {cs : Array Value} {t : TypeId} (h : w.heap[b]? = some (.cells cs t (0, 0))) : w.frozen? ⟨b, i, none⟩ = false := by
  simp [World.frozen?, h]

theorem set4 {w : World} {b : Nat} {v0 v1 v2 v3 a0 a1 a2 a3 : Value} {t : TypeId} (h : w.heap[b]? = some (.cells #[v0, v1, v2, v3] t (0, 0))) :
    ((((w.setCell ⟨b, 0, none⟩ a0).setCell ⟨b, 1, none⟩ a1).setCell ⟨b, 2, none⟩ a2).setCell ⟨b, 3, none⟩ a3).heap[b]? = some (.cells #[a0, a1, a2, a3] t (0, 0)) :=
  heap_setCell_same _ b 3 #[a0, a1, a2, v3] t a3 (heap_setCell_same _ b 2 #[a0, a1, v2, v3] t a2 (heap_setCell_same _ b 1 #[a0, v1, v2, v3] t a1 (heap_setCell_same w b 0 #[v0, v1, v2, v3] t a0 h)))
theorem below4 {base : Nat} {w0 w : World} {b : Nat} {a0 a1 a2 a3 : Value} (h : Below base w0 w) (hb : base ≤ b) :
    Below base w0 ((((w.setCell ⟨b, 0, none⟩ a0).setCell ⟨b, 1, none⟩ a1).setCell ⟨b, 2, none⟩ a2).setCell ⟨b, 3, none⟩ a3) := (((h.setCell hb _).setCell hb _).setCell hb _).setCell hb _
theorem stay4 {w : World} {b k : Nat} {a0 a1 a2 a3 : Value} (h : k ≠ b) :
    ((((w.setCell ⟨b, 0, none⟩ a0).setCell ⟨b, 1, none⟩ a1).setCell ⟨b, 2, none⟩ a2).setCell ⟨b, 3, none⟩ a3).heap[k]? = w.heap[k]? :=
  (heap_setCell_other _ ⟨b, 3, none⟩ k _ h).trans ((heap_setCell_other _ ⟨b, 2, none⟩ k _ h).trans ((heap_setCell_other _ ⟨b, 1, none⟩ k _ h).trans (heap_setCell_other _ ⟨b, 0, none⟩ k _ h)))
theorem heap_drewN (w : World) (b n : Nat) : (w.drewN n).heap[b]? = w.heap[b]? := by
  induction n generalizing w with
  | zero => rfl
  | succ n ih => exact ih w.drew

theorem look_drewN {base : Nat} {w : World} {sp vb tb : Nat} {vs : List ByteArray} {mt : List (ByteArray × Value)} (h : SolvAt base w sp vb tb (varsV vs) mt) (x : ByteArray) (m : Nat) :
    (Instr.lookup 100 (.map (some vb)) (.string x) false).run Tryz.prog (w.drewN m) = .ok (.bool (decide (x ∈ vs))) (w.drewN m) := by
  have hz : (zeroValue 4).run Tryz.prog (w.drewN m) = .ok (.bool false) (w.drewN m) := by go_simp
  have hm : MapAt (w.drewN m) vb (kvs textV (varsV vs)) := by
    obtain ⟨es, c, hb, he⟩ := h.vars
    exact ⟨es, c, (heap_drewN _ _ _).trans hb, he⟩
  have r := run_lookup_at keyText' Tryz.underlying100 Tryz.underlying9 hz hm x false
  rw [if_neg (by simp), look_bool] at r
  exact r

set_option maxRecDepth 100000 in
set_option maxHeartbeats 4000000 in
theorem known_any (W0 w : World) (base sp vb tb : Nat) (vs : List ByteArray) (mt : List (ByteArray × S24)) (mtv : List (ByteArray × Value)) (hs : SolvAt base w sp vb tb (varsV vs) mtv) (ht : ToAt W0 mt mtv)
    (hw : Below W0.heap.size W0 w) (x : S24) (A : Option Addr) (c : Nat) (hr : Kd.C k24 W0 A x.f3.length x.f3) (hc : x.f3.length ≤ c) (hx : wid x < 9000000) (n : Nat) (y : S24) (hk : knownM vs mt n x = some y) :
    Calls Tryz.prog 94 #[.pointer (some ⟨sp, 0, none⟩), formV x.f0 x.f1 x.f2 A x.f3.length c] w fun e w' => ∃ u, e = .returned u ∧ FormAt W0 u y ∧ Below w.heap.size w w' := by
  have hu24 := Tryz.underlying24
  have hu := Tryz.underlying100
  have hu72 := Tryz.underlying72
  have hu9 := Tryz.underlying9
  obtain ⟨a, bb, s, l⟩ := x
  have h2 : ((w.alloc (Obj.cells #[.int .i64 a, .int .i64 bb, .string s, .slice A l.length c] 24)).alloc (Obj.cells #[.int .i64 0, .int .i64 0, .string ⟨#[]⟩, .slice none 0 0] 24)).heap[w.heap.size + 1]? = some (.cells #[.int .i64 0, .int .i64 0, .string ⟨#[]⟩, .slice none 0 0] 24 (0, 0)) := by
    have h := (MapKept.heap_alloc (w.alloc (Obj.cells #[.int .i64 a, .int .i64 bb, .string s, .slice A l.length c] 24)) (Obj.cells #[.int .i64 0, .int .i64 0, .string ⟨#[]⟩, .slice none 0 0] 24)).1
    rw [size_new] at h
    exact h
  have h1 : ((w.alloc (Obj.cells #[.int .i64 a, .int .i64 bb, .string s, .slice A l.length c] 24)).alloc (Obj.cells #[.int .i64 0, .int .i64 0, .string ⟨#[]⟩, .slice none 0 0] 24)).heap[w.heap.size]? = some (.cells #[.int .i64 a, .int .i64 bb, .string s, .slice A l.length c] 24 (0, 0)) := by
    refine (Below.heap_alloc _ _ _ ?_).trans (MapKept.heap_alloc w _).1
    rw [size_new]; omega
  have start : Hid (KnRel W0 w vs mt y n ((w.alloc (Obj.cells #[.int .i64 a, .int .i64 bb, .string s, .slice A l.length c] 24)).alloc (Obj.cells #[.int .i64 0, .int .i64 0, .string ⟨#[]⟩, .slice none 0 0] 24))) :=
    ⟨⟨a, bb, s, l⟩, A, c, h1, h2, hr, hc, by (repeat (first | assumption | exact Below.refl _ _ | apply below_alloc)), hx, hk⟩
  have HS : Hid _ := hs
  have HT : Hid _ := ht
  clear hs ht hr hk h1 h2
  go_enter Tryz.func94, Tryz.ntmps94
  go_wp2_with fail
  go_loopg [] n (fun k wr => KnRel W0 w vs mt y k wr)
  case atStart => exact start.out
  case round =>
    clear start
    obtain ⟨⟨x0, x1, x2, x3⟩, A3, c3, hb1, hb2, hr3, hc3, hB, hsz, hK⟩ := hrel
    have hS := SolvAt.below HS.out hB
    obtain ⟨q0, q1, q2, q3⟩ := cells4 hb1
    obtain ⟨p0, p1, p2, p3⟩ := cells4 hb2
    have c0 := hS.c0
    have c1 := hS.c1
    have r1 := fun m => look_drewN hS x2 m
    cases gk with
    | zero => simp [knownM] at hK
    | succ g =>
      simp only [knownM] at hK
      by_cases h0 : x0 = 1
      · subst h0
        cases hm : decide (x2 ∈ vs) with
        | false =>
          rw [hm] at r1
          have hm2 : x2 ∉ vs := of_decide_eq_false hm
          rw [if_neg (fun e => hm2 e.2)] at hK
          obtain rfl := Option.some.inj hK
          have HH2 : Hid _ := hb2
          have RR : Hid _ := hr3
          have BB : Hid _ := hB
          have f0 := frozen4 (i := 0) hb2
          have f1 := frozen4 (i := 1) hb2
          have f2 := frozen4 (i := 2) hb2
          have f3 := frozen4 (i := 3) hb2
          clear hK hm hm2 hr3 hB hb1 hb2 hS
          go_wp2_with fail
          go_quiet (fail)
          go_wp2_with fail
          refine bodyPost_ret (results_cell_row rfl _ _ (w.heap.size + 1) 24 #[.int .i64 1, .int .i64 x1, .string x2, .slice A3 x3.length c3] (0, 0) _ rfl (set4 ((heap_drewN _ _ _).trans HH2.out)) Tryz.underlying24 rfl (by kernel_rfl)) rfl ?_
          exact ⟨_, rfl, ⟨A3, c3, rfl, RR.out, hc3, hsz⟩, below4 (pw_below_drewN BB.out _) (by omega)⟩
        | true =>
          rw [hm] at r1
          have hm2 : x2 ∈ vs := of_decide_eq_true hm
          rw [if_pos ⟨rfl, hm2⟩] at hK
          have HK : Hid _ := hK
          have RR : Hid _ := hr3
          have HB1 : Hid _ := hb1
          have HB2 : Hid _ := hb2
          have SS : Hid _ := hS
          have BB : Hid _ := hB
          clear hK hm hm2 hr3 hB hb1 hb2 hS
          go_wp2_with fail
          go_quiet (fail)
          have BD : Below wr.heap.size wr (wr.drewN nq) := pw_below_drewN (Below.refl _ _) nq
          clear q0 q1 q2 q3 p0 p1 p2 p3 c0 c1 r1
          generalize wr.drewN nq = w1 at *
          have B1 : Hid _ := below_after BB.out BD
          have S1 : Hid _ := SS.out.below BD
          have hb1 := (BD.block _ (Array.getElem?_eq_some_iff.1 HB1.out).1).trans HB1.out
          have hb2 := (BD.block _ (Array.getElem?_eq_some_iff.1 HB2.out).1).trans HB2.out
          obtain ⟨q0, q1, q2, q3⟩ := cells4 hb1
          obtain ⟨p0, p1, p2, p3⟩ := cells4 hb2
          have c1 := S1.out.c1
          have H1 : Hid _ := hb1
          have H2 : Hid _ := hb2
          have hz1 : (zeroValue 24).run Tryz.prog w1.drew = .ok (formV 0 0 ⟨#[]⟩ none 0 0) w1.drew := by go_simp
          have hz2 : (zeroValue 24).run Tryz.prog (w1.alloc (Obj.cells #[.int .i64 0, .int .i64 0, .string ⟨#[]⟩, .slice none 0 0] 24)).drew = .ok (formV 0 0 ⟨#[]⟩ none 0 0) (w1.alloc (Obj.cells #[.int .i64 0, .int .i64 0, .string ⟨#[]⟩, .slice none 0 0] 24)).drew := by go_simp
          have r1 := run_lookup_at keyText' hu72 hu9 hz1 (show MapAt w1.drew tb _ from S1.out.tos) x2 true
          have r2 := run_lookup_at keyText' hu72 hu9 hz2 (show MapAt (w1.alloc (Obj.cells #[.int .i64 0, .int .i64 0, .string ⟨#[]⟩, .slice none 0 0] 24)).drew tb _ from (show MapAt (w1.alloc (Obj.cells #[.int .i64 0, .int .i64 0, .string ⟨#[]⟩, .slice none 0 0] 24)) tb _ from S1.out.tos.kept (World.grownBy_alloc _ _ none) (by simp))) x2 true
          rw [if_pos rfl] at r1 r2
          change (Instr.lookup 72 (.map (some tb)) (.string x2) true).run Tryz.prog _ = _ at r1
          change (Instr.lookup 72 (.map (some tb)) (.string x2) true).run Tryz.prog _ = _ at r2
          have q2' := pw_cell_below (below_alloc (Below.refl _ _) (Obj.cells #[.int .i64 0, .int .i64 0, .string ⟨#[]⟩, .slice none 0 0] 24)) q2
          have c1' := pw_cell_below (below_alloc (Below.refl _ _) (Obj.cells #[.int .i64 0, .int .i64 0, .string ⟨#[]⟩, .slice none 0 0] 24)) c1
          clear BD hb1 hb2 hz1 hz2
          rcases look_to HT.out x2 with ⟨e1, e2⟩ | ⟨y1, u1, e1, e2, e3⟩
          · have hK := HK.out
            rw [e1] at hK
            obtain rfl := Option.some.inj hK
            rw [e2] at r1 r2
            simp only [Option.getD_none, Option.isSome_none] at r1 r2
            clear hK e1 e2
            have al := fun {p v} h => pw_cell_below (a := p) (v := v) (below_alloc (Below.refl _ w1) (Obj.cells #[.int .i64 0, .int .i64 0, .string ⟨#[]⟩, .slice none 0 0] 24)) h
            have q0' := al q0
            have q1' := al q1
            have q3' := al q3
            have p0' := al p0
            have p1' := al p1
            have p2' := al p2
            have p3' := al p3
            have f0 := frozen4 (i := 0) H2.out
            have f1 := frozen4 (i := 1) H2.out
            have f2 := frozen4 (i := 2) H2.out
            have f3 := frozen4 (i := 3) H2.out
            have ha : (w1.alloc (Obj.cells #[.int .i64 0, .int .i64 0, .string ⟨#[]⟩, .slice none 0 0] 24)).heap[w.heap.size + 1]? = _ := (Below.heap_alloc w1 _ _ (Array.getElem?_eq_some_iff.1 H2.out).1).trans H2.out
            have HA : Hid _ := ha
            have f0' := frozen4 (i := 0) ha
            have f1' := frozen4 (i := 1) ha
            have f2' := frozen4 (i := 2) ha
            have f3' := frozen4 (i := 3) ha
            clear al ha
            go_wp2_with fail
            go_region
            all_goals
              go_wp2_with fail
              refine bodyPost_ret (results_cell_row rfl _ _ (w.heap.size + 1) 24 #[.int .i64 1, .int .i64 x1, .string x2, .slice A3 x3.length c3] (0, 0) _ rfl (set4 HA.out) Tryz.underlying24 rfl (by kernel_rfl)) rfl ?_
              exact ⟨_, rfl, ⟨A3, c3, rfl, RR.out, hc3, hsz⟩, below_drew (below4 (below_alloc B1.out _) (by omega))⟩
          · have hK := HK.out
            rw [e1] at hK
            simp only [] at hK
            obtain ⟨A5, c5, rfl, e4, e5, e6⟩ := e3
            rw [e2] at r1 r2
            simp only [Option.getD_some, Option.isSome_some] at r1 r2
            obtain ⟨y0, y1, y2, y3⟩ := y1
            have F4 : Hid _ := e4
            have K4 : Hid _ := hK
            have ha : (w1.alloc (Obj.cells #[.int .i64 y0, .int .i64 y1, .string y2, .slice A5 y3.length c5] 24)).heap[w.heap.size]? = _ := (Below.heap_alloc w1 _ _ (Array.getElem?_eq_some_iff.1 H1.out).1).trans H1.out
            have ha2 : (w1.alloc (Obj.cells #[.int .i64 y0, .int .i64 y1, .string y2, .slice A5 y3.length c5] 24)).heap[w.heap.size + 1]? = _ := (Below.heap_alloc w1 _ _ (Array.getElem?_eq_some_iff.1 H2.out).1).trans H2.out
            have HA : Hid _ := ha
            have HA2 : Hid _ := ha2
            have f0' := frozen4 (i := 0) ha
            have f1' := frozen4 (i := 1) ha
            have f2' := frozen4 (i := 2) ha
            have f3' := frozen4 (i := 3) ha
            obtain ⟨t0, t1, t2, t3⟩ := cells4 ha
            clear e1 e2 e4 hK ha ha2 p0 p1 p2 p3 q0 q1 q3
            go_wp2_with fail
            go_region
            all_goals
              go_wp2_with fail
              go_roundg g
              case measure => omega
              case rel => exact ⟨⟨y0, y1, y2, y3⟩, A5, c5, set4 HA.out, (stay4 (by omega)).trans HA2.out, F4.out, e5, below_drew (below4 (below_alloc B1.out _) (Nat.le_refl _)), e6, K4.out⟩
      · have b0 : (x0 == 1) = false := beq_eq_false_iff_ne.mpr h0
        rw [if_neg (fun e => h0 e.1)] at hK
        obtain rfl := Option.some.inj hK
        clear hK r1
        go_wp2_with fail
        go_quiet (fail)
        have f0 := frozen4 (i := 0) hb2
        have f1 := frozen4 (i := 1) hb2
        have f2 := frozen4 (i := 2) hb2
        have f3 := frozen4 (i := 3) hb2
        go_wp2_with fail
        refine bodyPost_ret (results_cell_row rfl _ _ (w.heap.size + 1) 24 #[.int .i64 x0, .int .i64 x1, .string x2, .slice A3 x3.length c3] (0, 0) _ rfl (set4 ((heap_drewN _ _ _).trans hb2)) Tryz.underlying24 rfl (by kernel_rfl)) rfl ?_
        exact ⟨_, rfl, ⟨A3, c3, rfl, hr3, hc3, hsz⟩, below4 (pw_below_drewN hB _) (by omega)⟩

end Go.Proofs.YtcjmplpfebpfpaaGreatDoor

namespace Go.Proofs.YtcjmplpfebpfpaaGreatDoor
open Go.RowKit Go.Proofs Go.Proofs.YtcjmplpfebpfpaaGreatDoorW.PrintWords Go.Proofs.YtcjmplpfebpfpaaGreatDoorW.PrintLast Go.Proofs.YtcjmplpfebpfpaaGreatDoorW.PrintMore PKindInstances
set_option linter.unusedVariables false
set_option linter.unusedSimpArgs false

def withinL (f : S24 → Bool → Option Bool) (fn : Bool) : Bool → List S24 → Option Bool
  | _, [] => some false
  | first, k :: l => match f k (fn && first && (k.f0 == 3)) with | none => none | some true => some true | some false => withinL f fn false l
/-- Whether a variable stands in a type. -/
def withinM (vs : List ByteArray) (mt : List (ByteArray × S24)) : Nat → ByteArray → S24 → Bool → Option Bool
  | 0, _, _, _ => none
  | n + 1, name, x, bare =>
    match (if bare then some x else knownM vs mt n x) with
    | none => none
    | some t => if t.f0 = 1 then some (!bare && t.f2.toList == name.toList) else withinL (withinM vs mt n name) (!bare && isFunW (headOf t.f0 t.f3)) true (typesL t.f0 t.f3 bare)

theorem FormAt.below {W w : World} {v : Value} {x : S24} (h : FormAt W v x) (hb : Below W.heap.size W w) : FormAt w v x := by
  obtain ⟨A, c, e, h1, h2, h3⟩ := h
  exact ⟨A, c, e, Kd.C_below h1 hb, h2, h3⟩
theorem ToAt.below {W w : World} (hb : Below W.heap.size W w) : ∀ {m : List (ByteArray × S24)} {n : List (ByteArray × Value)}, ToAt W m n → ToAt w m n
  | [], [], _ => trivial
  | (a, x) :: m, (b, v) :: n, h => ⟨h.1, h.2.1.below hb, ToAt.below hb h.2.2⟩

def WithinOk (vs : List ByteArray) (mt : List (ByteArray × S24)) (mtv : List (ByteArray × Value)) (n : Nat) : Prop :=
  ∀ (base sp vb tb : Nat) (w : World) (name : ByteArray) (x : S24) (bare : Bool) (A : Option Addr) (c : Nat) (r : Bool), SolvAt base w sp vb tb (varsV vs) mtv → ToAt w mt mtv →
    Kd.C k24 w A x.f3.length x.f3 → x.f3.length ≤ c → wid x < 9000000 → withinM vs mt n name x bare = some r →
    Calls Tryz.prog 136 #[.pointer (some ⟨sp, 0, none⟩), .string name, formV x.f0 x.f1 x.f2 A x.f3.length c, .bool bare] w fun e w' => e = .returned (.bool r) ∧ Below w.heap.size w w'

/-- What holds of the loop. -/
def WiRel (W1 : World) (f : S24 → Bool → Option Bool) (fn : Bool) (ys : List S24) (r : Bool) (k : Nat) (x39 : Value) (wr : World) : Prop :=
  ∃ i, x39 = .int .i64 ((i : Nat) : Int) ∧ k + i = ys.length ∧ Below W1.heap.size W1 wr ∧ withinL f fn (decide (i = 0)) (ys.drop i) = some r

theorem drop_at3 {l : List S24} {i : Nat} {x : S24} (hx : l[i]? = some x) : l.drop i = x :: l.drop (i + 1) := by
  obtain ⟨h, e⟩ := List.getElem?_eq_some_iff.1 hx
  rw [List.drop_eq_getElem_cons h, e]
theorem below_self4 {w w1 : World} {a0 a1 a2 a3 : Value} (h : Below w.heap.size w w1) : Below w.heap.size w ((((w1.setCell ⟨w.heap.size, 0, none⟩ a0).setCell ⟨w.heap.size, 1, none⟩ a1).setCell ⟨w.heap.size, 2, none⟩ a2).setCell ⟨w.heap.size, 3, none⟩ a3) := below4 h (Nat.le_refl _)
theorem box_heap {w w1 : World} {o : Obj} (h : Below (w.alloc o).heap.size (w.alloc o) w1) : w1.heap[w.heap.size]? = some o :=
  (h.block _ (by rw [size_new]; omega)).trans (MapKept.heap_alloc w o).1

set_option maxRecDepth 100000 in
set_option maxHeartbeats 8000000 in
theorem within_step (vs : List ByteArray) (mt : List (ByteArray × S24)) (mtv : List (ByteArray × Value)) (n : Nat) (ih : WithinOk vs mt mtv n) : WithinOk vs mt mtv (n + 1) := by
  intro base sp vb tb w name x bare A c r hs ht hr hc hx hk
  have hu24 := Tryz.underlying24
  have IH : Hid _ := ih
  obtain ⟨x0, x1, x2, x3⟩ := x
  have B0 : Below w.heap.size w (w.alloc (Obj.cells #[.int .i64 x0, .int .i64 x1, .string x2, .slice A x3.length c] 24)) := below_alloc (Below.refl _ _) _
  simp only [withinM] at hk
  cases bare with
  | true =>
    simp only [if_true] at hk
    have hK := hk
    simp only [Bool.not_true, Bool.false_and] at hK
    have S2 : Hid _ := hs.below B0
    have T2 : Hid _ := ht.below B0
    have HT : Hid _ := Kd.C_below hr B0
    have HSZ : Hid _ := hx
    have B2 : Hid _ := B0
    clear hs ht hr hx hk B0 ih
    by_cases h1 : x0 = 1
    · subst h1
      rw [if_pos rfl] at hK
      obtain rfl := Option.some.inj hK
      clear hK
      go_enter Tryz.func136, Tryz.ntmps136
      go_wp2_with fail
      go_ret
      exact ⟨rfl, B2.out⟩
    · have b1 : (x0 == 1) = false := beq_eq_false_iff_ne.mpr h1
      rw [if_neg h1] at hK
      obtain ⟨ys, hy⟩ : ∃ ys, ys = typesL x0 x3 true := ⟨_, rfl⟩
      have hys : ∀ x ∈ ys, wid x < 9000000 := by
        intro x hx
        rw [hy] at hx
        have e1 := wid_mem (typesL_mem hx)
        have e2 := HSZ.out
        simp only [wid] at e2
        omega
      have hyl : ys.length < 9000000 := by
        rw [hy]
        have e1 := typesL_len x0 x3 true
        have e2 := wids_len x3
        have e3 := HSZ.out
        simp only [wid] at e3
        omega
      have YS : Hid _ := hys
      clear hys
      have TA := fun w h => types_any x0 x1 x2 (A := A) (l := x3) c true w h hc
      rw [← hy] at hK TA
      have TA : Hid _ := TA
      clear hy h1
      have HW : Hid (withinL (withinM vs mt n name) false true ys = some r) := hK
      clear hK
      go_enter Tryz.func136, Tryz.ntmps136
      go_wp2_with fail
      refine (TA.out _ HT.out).mono ?_
      rintro e w5 ⟨v5, rfl, ⟨A', c', rfl, hr5, hc5⟩, B5'⟩
      have B5 := below_after B2.out B5'
      have SS : Hid _ := S2.out.below B5'
      have TT : Hid _ := T2.out.below B5'
      clear B5'
      have R5 : Hid _ := hr5
      have BX : Hid _ := B5
      have start : Hid (WiRel w5 (withinM vs mt n name) false ys r ys.length (.int .i64 ((0 : Nat) : Int)) w5) := ⟨0, rfl, rfl, Below.refl _ _, HW.out⟩
      clear hr5 B5
      go_wp2_with fail
      go_loopg [39] ys.length (fun k x39 wr => WiRel w5 (withinM vs mt n name) false ys r k x39 wr)
      case atStart => exact start.out
      case round =>
        clear start
        obtain ⟨i, rfl, hki, hB, hV⟩ := hrel
        by_cases hlt : i < ys.length
        · obtain ⟨g, rfl⟩ : ∃ g, gk = g + 1 := ⟨gk - 1, by omega⟩
          have e1 : decide (i < ys.length) = true := decide_eq_true hlt
          obtain ⟨k, hk⟩ : ∃ k, ys[i]? = some k := ⟨ys[i], by simp [hlt]⟩
          obtain ⟨ad, A5, c5, rfl, g0, g1, g2, g3, g4, g5⟩ := row_at (Kd.C_below R5.out hB) hlt hk
          rw [drop_at3 hk] at hV
          simp only [withinL] at hV
          have SZ : Hid _ := YS.out k (List.mem_of_getElem? hk)
          have BL : Hid _ := hB
          have G5 : Hid _ := g5
          clear hB g5 hk
          obtain ⟨k0, k1, k2, k3⟩ := k
          rw [show (false && decide (i = 0) && (k0 == 3)) = false from rfl] at hV
          cases hq : withinM vs mt n name ⟨k0, k1, k2, k3⟩ false with
          | none => rw [hq] at hV; cases hV
          | some q =>
            rw [hq] at hV
            have OK : Hid _ := IH.out base sp vb tb (wr.alloc (Obj.cells #[.int .i64 k0, .int .i64 k1, .string k2, .slice A5 k3.length c5] 24)) name ⟨k0, k1, k2, k3⟩ false A5 c5 q ((SS.out.below BL.out).below (below_alloc (Below.refl _ _) _)) ((TT.out.below BL.out).below (below_alloc (Below.refl _ _) _)) (Kd.C_alloc G5.out _) g4 SZ.out hq
            clear hq
            cases q with
            | true =>
              simp only [Option.some.injEq] at hV
              subst hV
              go_wp2_with fail
              refine Calls.mono OK.out ?_
              rintro e w6 ⟨rfl, B6⟩
              have B7 : Hid _ := (below_after BX.out (below_after BL.out (below_after (below_alloc (Below.refl _ _) _) B6)))
              clear B6
              go_wp2_with fail
              go_ret
              exact ⟨rfl, B7.out⟩
            | false =>
              simp only [] at hV
              have HV : Hid _ := hV
              clear hV
              go_wp2_with fail
              refine Calls.mono OK.out ?_
              rintro e w6 ⟨rfl, B6⟩
              have B7 : Hid _ := (below_after BL.out (below_after (below_alloc (Below.refl _ _) _) B6))
              clear B6
              go_wp2_with fail
              go_roundg g
              case measure => omega
              case rel => exact ⟨i + 1, by go_num, by omega, B7.out, by simpa using HV.out⟩
        · have e1 : decide (i < ys.length) = false := decide_eq_false hlt
          have hge2 : ys.length ≤ i := by omega
          have e3 : ys.drop i = [] := List.drop_eq_nil_of_le (by omega)
          rw [e3] at hV
          simp only [withinL, Option.some.injEq] at hV
          subst hV
          have B7 : Hid _ := below_after BX.out hB
          clear hB e3
          go_wp2_with fail
          go_ret
          exact ⟨rfl, B7.out⟩
  | false =>
    simp only [Bool.false_eq_true, if_false] at hk
    cases hkn : knownM vs mt n ⟨x0, x1, x2, x3⟩ with
    | none => rw [hkn] at hk; cases hk
    | some t =>
      rw [hkn] at hk
      simp only [Bool.not_false, Bool.true_and] at hk
      have KN : Hid _ := known_any w (w.alloc (Obj.cells #[.int .i64 x0, .int .i64 x1, .string x2, .slice A x3.length c] 24)) base sp vb tb vs mt mtv (hs.below B0) ht B0 ⟨x0, x1, x2, x3⟩ A c hr hc hx n t hkn
      have S0 : Hid _ := hs
      have T0 : Hid _ := ht
      have HB0 : Hid _ := B0
      have HK : Hid _ := hk
      clear hs ht hr hx B0 ih hkn hk
      go_enter Tryz.func136, Tryz.ntmps136
      go_wp2_with fail
      refine Calls.mono KN.out ?_
      rintro e w1 ⟨u, rfl, ⟨A3, c3, rfl, hr3, hct, hsz⟩, B1⟩
      obtain ⟨t0, t1, t2, t3⟩ := t
      have hb1 := box_heap B1
      obtain ⟨p0, p1, p2, p3⟩ := cells4 hb1
      have f0 := frozen4 (i := 0) hb1
      have f1 := frozen4 (i := 1) hb1
      have f2 := frozen4 (i := 2) hb1
      have f3 := frozen4 (i := 3) hb1
      have hb2 := set4 (a0 := .int .i64 t0) (a1 := .int .i64 t1) (a2 := .string t2) (a3 := .slice A3 t3.length c3) hb1
      have B2' := below_self4 (a0 := .int .i64 t0) (a1 := .int .i64 t1) (a2 := .string t2) (a3 := .slice A3 t3.length c3) (below_after HB0.out B1)
      have S2 : Hid _ := S0.out.below B2'
      have T2 : Hid _ := T0.out.below B2'
      have HT : Hid _ := Kd.C_below hr3 B2'
      have B2 : Hid _ := B2'
      have HSZ : Hid _ := hsz
      have HB2 : Hid _ := hb2
      have hK := HK.out
      clear hb1 hb2 B1 B2' S0 T0 HB0 hr3 hsz HK KN
      by_cases h1 : t0 = 1
      · subst h1
        rw [if_pos rfl] at hK
        obtain rfl := Option.some.inj hK
        clear hK
        go_wp2_with fail
        go_ret
        exact ⟨rfl, B2.out⟩
      · have b1 : (t0 == 1) = false := beq_eq_false_iff_ne.mpr h1
        rw [if_neg h1] at hK
        obtain ⟨ys, hy⟩ : ∃ ys, ys = typesL t0 t3 false := ⟨_, rfl⟩
        have hys : ∀ x ∈ ys, wid x < 9000000 := by
          intro x hx
          rw [hy] at hx
          have e1 := wid_mem (typesL_mem hx)
          have e2 := HSZ.out
          simp only [wid] at e2
          omega
        have hyl : ys.length < 9000000 := by
          rw [hy]
          have e1 := typesL_len t0 t3 false
          have e2 := wids_len t3
          have e3 := HSZ.out
          simp only [wid] at e3
          omega
        have YS : Hid _ := hys
        clear hys
        have TA := fun w h => types_any t0 t1 t2 (A := A3) (l := t3) c3 false w h hct
        rw [← hy] at hK TA
        have TA : Hid _ := TA
        clear hy h1
        obtain ⟨fn, hfn⟩ : ∃ fn, fn = isFunW (headOf t0 t3) := ⟨_, rfl⟩
        have hf : ((headOf t0 t3).toList == [102, 117, 110]) = fn := hfn.symm
        rw [← hfn] at hK
        clear hfn
        try simp only [Bool.not_false, Bool.true_and] at hK
        have HA : Hid (∀ w, Kd.C k24 w A3 t3.length t3 → _) := fun w h => Head_any t0 t1 t2 c3 w h
        rcases (by cases fn <;> simp : fn = false ∨ fn = true) with hfv | hfv
        · obtain rfl : fn = false := hfv
          have HW : Hid (withinL (withinM vs mt n name) false true ys = some r) := hK
          clear hK
          go_wp2_with fail
          refine Calls.mono (HA.out _ HT.out) ?_
          rintro e w4 ⟨rfl, B4'⟩
          have hb4 := (B4'.block _ (Array.getElem?_eq_some_iff.1 HB2.out).1).trans HB2.out
          have B4 := below_after B2.out B4'
          have S4 : Hid _ := S2.out.below B4'
          have T4 : Hid _ := T2.out.below B4'
          have HT4 := Kd.C_below HT.out B4'
          obtain ⟨q0, q1, q2, q3⟩ := cells4 hb4
          clear hb4 B4'
          go_wp2_with fail
          refine (TA.out _ HT4).mono ?_
          rintro e w5 ⟨v5, rfl, ⟨A', c', rfl, hr5, hc5⟩, B5'⟩
          have B5 := below_after B4 B5'
          have SS : Hid _ := S4.out.below B5'
          have TT : Hid _ := T4.out.below B5'
          clear B5' HT4 B4
          have R5 : Hid _ := hr5
          have BX : Hid _ := B5
          have start : Hid (WiRel w5 (withinM vs mt n name) false ys r ys.length (.int .i64 ((0 : Nat) : Int)) w5) := ⟨0, rfl, rfl, Below.refl _ _, HW.out⟩
          clear hr5 B5
          go_wp2_with fail
          go_loopg [39] ys.length (fun k x39 wr => WiRel w5 (withinM vs mt n name) false ys r k x39 wr)
          case atStart => exact start.out
          case round =>
            clear start
            obtain ⟨i, rfl, hki, hB, hV⟩ := hrel
            by_cases hlt : i < ys.length
            · obtain ⟨g, rfl⟩ : ∃ g, gk = g + 1 := ⟨gk - 1, by omega⟩
              have e1 : decide (i < ys.length) = true := decide_eq_true hlt
              obtain ⟨k, hk⟩ : ∃ k, ys[i]? = some k := ⟨ys[i], by simp [hlt]⟩
              obtain ⟨ad, A5, c5, rfl, g0, g1, g2, g3, g4, g5⟩ := row_at (Kd.C_below R5.out hB) hlt hk
              rw [drop_at3 hk] at hV
              simp only [withinL] at hV
              have SZ : Hid _ := YS.out k (List.mem_of_getElem? hk)
              have BL : Hid _ := hB
              have G5 : Hid _ := g5
              clear hB g5 hk
              obtain ⟨k0, k1, k2, k3⟩ := k
              rw [show (false && decide (i = 0) && (k0 == 3)) = false from rfl] at hV
              cases hq : withinM vs mt n name ⟨k0, k1, k2, k3⟩ false with
              | none => rw [hq] at hV; cases hV
              | some q =>
                rw [hq] at hV
                have OK : Hid _ := IH.out base sp vb tb (wr.alloc (Obj.cells #[.int .i64 k0, .int .i64 k1, .string k2, .slice A5 k3.length c5] 24)) name ⟨k0, k1, k2, k3⟩ false A5 c5 q ((SS.out.below BL.out).below (below_alloc (Below.refl _ _) _)) ((TT.out.below BL.out).below (below_alloc (Below.refl _ _) _)) (Kd.C_alloc G5.out _) g4 SZ.out hq
                clear hq
                cases q with
                | true =>
                  simp only [Option.some.injEq] at hV
                  subst hV
                  go_wp2_with fail
                  refine Calls.mono OK.out ?_
                  rintro e w6 ⟨rfl, B6⟩
                  have B7 : Hid _ := (below_after BX.out (below_after BL.out (below_after (below_alloc (Below.refl _ _) _) B6)))
                  clear B6
                  go_wp2_with fail
                  go_ret
                  exact ⟨rfl, B7.out⟩
                | false =>
                  simp only [] at hV
                  have HV : Hid _ := hV
                  clear hV
                  go_wp2_with fail
                  refine Calls.mono OK.out ?_
                  rintro e w6 ⟨rfl, B6⟩
                  have B7 : Hid _ := (below_after BL.out (below_after (below_alloc (Below.refl _ _) _) B6))
                  clear B6
                  go_wp2_with fail
                  go_roundg g
                  case measure => omega
                  case rel => exact ⟨i + 1, by go_num, by omega, B7.out, by simpa using HV.out⟩
            · have e1 : decide (i < ys.length) = false := decide_eq_false hlt
              have hge2 : ys.length ≤ i := by omega
              have e3 : ys.drop i = [] := List.drop_eq_nil_of_le (by omega)
              rw [e3] at hV
              simp only [withinL, Option.some.injEq] at hV
              subst hV
              have B7 : Hid _ := below_after BX.out hB
              clear hB e3
              go_wp2_with fail
              go_ret
              exact ⟨rfl, B7.out⟩
        · obtain rfl : fn = true := hfv
          have HW : Hid (withinL (withinM vs mt n name) true true ys = some r) := hK
          clear hK
          go_wp2_with fail
          refine Calls.mono (HA.out _ HT.out) ?_
          rintro e w4 ⟨rfl, B4'⟩
          have hb4 := (B4'.block _ (Array.getElem?_eq_some_iff.1 HB2.out).1).trans HB2.out
          have B4 := below_after B2.out B4'
          have S4 : Hid _ := S2.out.below B4'
          have T4 : Hid _ := T2.out.below B4'
          have HT4 := Kd.C_below HT.out B4'
          obtain ⟨q0, q1, q2, q3⟩ := cells4 hb4
          clear hb4 B4'
          go_wp2_with fail
          refine (TA.out _ HT4).mono ?_
          rintro e w5 ⟨v5, rfl, ⟨A', c', rfl, hr5, hc5⟩, B5'⟩
          have B5 := below_after B4 B5'
          have SS : Hid _ := S4.out.below B5'
          have TT : Hid _ := T4.out.below B5'
          clear B5' HT4 B4
          have R5 : Hid _ := hr5
          have BX : Hid _ := B5
          have start : Hid (WiRel w5 (withinM vs mt n name) true ys r ys.length (.int .i64 ((0 : Nat) : Int)) w5) := ⟨0, rfl, rfl, Below.refl _ _, HW.out⟩
          clear hr5 B5
          go_wp2_with fail
          go_loopg [39] ys.length (fun k x39 wr => WiRel w5 (withinM vs mt n name) true ys r k x39 wr)
          case atStart => exact start.out
          case round =>
            clear start
            obtain ⟨i, rfl, hki, hB, hV⟩ := hrel
            by_cases hlt : i < ys.length
            · obtain ⟨g, rfl⟩ : ∃ g, gk = g + 1 := ⟨gk - 1, by omega⟩
              have e1 : decide (i < ys.length) = true := decide_eq_true hlt
              obtain ⟨k, hk⟩ : ∃ k, ys[i]? = some k := ⟨ys[i], by simp [hlt]⟩
              obtain ⟨ad, A5, c5, rfl, g0, g1, g2, g3, g4, g5⟩ := row_at (Kd.C_below R5.out hB) hlt hk
              rw [drop_at3 hk] at hV
              simp only [withinL] at hV
              have SZ : Hid _ := YS.out k (List.mem_of_getElem? hk)
              have BL : Hid _ := hB
              have G5 : Hid _ := g5
              clear hB g5 hk
              obtain ⟨k0, k1, k2, k3⟩ := k
              by_cases hi : i = 0
              · have hi1 : decide (i = 0) = true := decide_eq_true hi
                have hi2 : ((i : Int) == 0) = true := beq_iff_eq.mpr (by omega)
                clear hi
                by_cases h3 : k0 = 3
                · subst h3
                  rw [show (true && decide (i = 0) && ((3 : Int) == 3)) = true by rw [hi1]; rfl] at hV
                  cases hq : withinM vs mt n name ⟨3, k1, k2, k3⟩ true with
                  | none => rw [hq] at hV; cases hV
                  | some q =>
                    rw [hq] at hV
                    have OK : Hid _ := IH.out base sp vb tb (wr.alloc (Obj.cells #[.int .i64 3, .int .i64 k1, .string k2, .slice A5 k3.length c5] 24)) name ⟨3, k1, k2, k3⟩ true A5 c5 q ((SS.out.below BL.out).below (below_alloc (Below.refl _ _) _)) ((TT.out.below BL.out).below (below_alloc (Below.refl _ _) _)) (Kd.C_alloc G5.out _) g4 SZ.out hq
                    clear hq
                    cases q with
                    | true =>
                      simp only [Option.some.injEq] at hV
                      subst hV
                      go_wp2_with fail
                      refine Calls.mono OK.out ?_
                      rintro e w6 ⟨rfl, B6⟩
                      have B7 : Hid _ := (below_after BX.out (below_after BL.out (below_after (below_alloc (Below.refl _ _) _) B6)))
                      clear B6
                      go_wp2_with fail
                      go_ret
                      exact ⟨rfl, B7.out⟩
                    | false =>
                      simp only [] at hV
                      have HV : Hid _ := hV
                      clear hV
                      go_wp2_with fail
                      refine Calls.mono OK.out ?_
                      rintro e w6 ⟨rfl, B6⟩
                      have B7 : Hid _ := (below_after BL.out (below_after (below_alloc (Below.refl _ _) _) B6))
                      clear B6
                      go_wp2_with fail
                      go_roundg g
                      case measure => omega
                      case rel => exact ⟨i + 1, by go_num, by omega, B7.out, by simpa using HV.out⟩
                · have h4 : (k0 == 3) = false := beq_eq_false_iff_ne.mpr h3
                  rw [show (true && decide (i = 0) && (k0 == 3)) = false by rw [h4]; simp] at hV
                  cases hq : withinM vs mt n name ⟨k0, k1, k2, k3⟩ false with
                  | none => rw [hq] at hV; cases hV
                  | some q =>
                    rw [hq] at hV
                    have OK : Hid _ := IH.out base sp vb tb (wr.alloc (Obj.cells #[.int .i64 k0, .int .i64 k1, .string k2, .slice A5 k3.length c5] 24)) name ⟨k0, k1, k2, k3⟩ false A5 c5 q ((SS.out.below BL.out).below (below_alloc (Below.refl _ _) _)) ((TT.out.below BL.out).below (below_alloc (Below.refl _ _) _)) (Kd.C_alloc G5.out _) g4 SZ.out hq
                    clear hq
                    cases q with
                    | true =>
                      simp only [Option.some.injEq] at hV
                      subst hV
                      go_wp2_with fail
                      refine Calls.mono OK.out ?_
                      rintro e w6 ⟨rfl, B6⟩
                      have B7 : Hid _ := (below_after BX.out (below_after BL.out (below_after (below_alloc (Below.refl _ _) _) B6)))
                      clear B6
                      go_wp2_with fail
                      go_ret
                      exact ⟨rfl, B7.out⟩
                    | false =>
                      simp only [] at hV
                      have HV : Hid _ := hV
                      clear hV
                      go_wp2_with fail
                      refine Calls.mono OK.out ?_
                      rintro e w6 ⟨rfl, B6⟩
                      have B7 : Hid _ := (below_after BL.out (below_after (below_alloc (Below.refl _ _) _) B6))
                      clear B6
                      go_wp2_with fail
                      go_roundg g
                      case measure => omega
                      case rel => exact ⟨i + 1, by go_num, by omega, B7.out, by simpa using HV.out⟩
              · have hi1 : decide (i = 0) = false := decide_eq_false hi
                have hi2 : ((i : Int) == 0) = false := beq_eq_false_iff_ne.mpr (by omega)
                rw [show (true && decide (i = 0) && (k0 == 3)) = false by rw [hi1]; rfl] at hV
                cases hq : withinM vs mt n name ⟨k0, k1, k2, k3⟩ false with
                | none => rw [hq] at hV; cases hV
                | some q =>
                  rw [hq] at hV
                  have OK : Hid _ := IH.out base sp vb tb (wr.alloc (Obj.cells #[.int .i64 k0, .int .i64 k1, .string k2, .slice A5 k3.length c5] 24)) name ⟨k0, k1, k2, k3⟩ false A5 c5 q ((SS.out.below BL.out).below (below_alloc (Below.refl _ _) _)) ((TT.out.below BL.out).below (below_alloc (Below.refl _ _) _)) (Kd.C_alloc G5.out _) g4 SZ.out hq
                  clear hq
                  cases q with
                  | true =>
                    simp only [Option.some.injEq] at hV
                    subst hV
                    go_wp2_with fail
                    refine Calls.mono OK.out ?_
                    rintro e w6 ⟨rfl, B6⟩
                    have B7 : Hid _ := (below_after BX.out (below_after BL.out (below_after (below_alloc (Below.refl _ _) _) B6)))
                    clear B6
                    go_wp2_with fail
                    go_ret
                    exact ⟨rfl, B7.out⟩
                  | false =>
                    simp only [] at hV
                    have HV : Hid _ := hV
                    clear hV
                    go_wp2_with fail
                    refine Calls.mono OK.out ?_
                    rintro e w6 ⟨rfl, B6⟩
                    have B7 : Hid _ := (below_after BL.out (below_after (below_alloc (Below.refl _ _) _) B6))
                    clear B6
                    go_wp2_with fail
                    go_roundg g
                    case measure => omega
                    case rel => exact ⟨i + 1, by go_num, by omega, B7.out, by simpa using HV.out⟩
            · have e1 : decide (i < ys.length) = false := decide_eq_false hlt
              have hge2 : ys.length ≤ i := by omega
              have e3 : ys.drop i = [] := List.drop_eq_nil_of_le (by omega)
              rw [e3] at hV
              simp only [withinL, Option.some.injEq] at hV
              subst hV
              have B7 : Hid _ := below_after BX.out hB
              clear hB e3
              go_wp2_with fail
              go_ret
              exact ⟨rfl, B7.out⟩
theorem within_ok (vs : List ByteArray) (mt : List (ByteArray × S24)) (mtv : List (ByteArray × Value)) : ∀ n, WithinOk vs mt mtv n
  | 0 => fun _ _ _ _ _ _ _ _ _ _ _ _ _ _ _ _ h => by simp [withinM] at h
  | n + 1 => within_step vs mt mtv n (within_ok vs mt mtv n)

end Go.Proofs.YtcjmplpfebpfpaaGreatDoor

namespace Go.Proofs.YtcjmplpfebpfpaaGreatDoor
open Go.RowKit Go.Proofs Go.Proofs.YtcjmplpfebpfpaaGreatDoorW.PrintWords Go.Proofs.YtcjmplpfebpfpaaGreatDoorW.PrintLast Go.Proofs.YtcjmplpfebpfpaaGreatDoorW.PrintMore PKindInstances
set_option linter.unusedVariables false
set_option linter.unusedSimpArgs false

theorem lit_none {w : World} (o : Nat → Prop) (h : ∀ k, w.heap.size ≤ k → o k) : Kd.N k24 24 (w.alloc (.cells #[] 24)) w.heap.size o (.slice (some ⟨w.heap.size, 0, none⟩) 0 0) [] := by
  refine Kd.R_N ⟨fun k hk => ?_, [], ?_, ?_⟩
  · have : w.heap.size = k := by simpa [Value.ownBlock] using hk
    exact h k (by omega)
  · exact World.ownsRow_lit (base := w.heap.size) (e := 24) (size := 4) w #[] 0 (Nat.le_refl _) (by decide) rfl
  · exact ⟨rfl, fun j p hj => by simp at hj⟩
set_option maxRecDepth 100000 in
/-- slices.Clone: a row of one's own; what the forms lead to is what came in. -/
theorem Clone_any (l : List S24) (A : Option Addr) (c : Nat) (w : World) (ok : Nat → Prop) (hr : Kd.F k24 w ok A l.length l) (hc : l.length ≤ c) (hn : l.length < 9000000) :
    Calls Tryz.prog 82 #[.slice A l.length c] w fun e w' => ∃ v, e = .returned v ∧ Kd.N k24 24 w' w.heap.size (fun k => ok k ∧ k < w.heap.size ∨ w.heap.size ≤ k) v l ∧ Below w.heap.size w w' := by
  have hu24 := Tryz.underlying24
  have hu22 := Tryz.underlying22
  have q22 : ∀ (w : World) (a : Option Addr) (n c n' c' : Nat), (binOp .eql 22 (.slice a n c) (.slice none n' c')).run Tryz.prog w = .ok (.bool a.isNone) w := fun w a n c n' c' => Lib.run_eql_slice_nil w _ _ a n c n' c' Tryz.underlying22
  have HR : Hid _ := Kd.F_bound hr
  have hlen : Hid (A = none → l = []) := fun h => by
    cases l with
    | nil => rfl
    | cons x l => obtain ⟨ad, e, _⟩ := (Kd.F_now hr).2.2 (by simp); rw [h] at e; cases e
  clear hr
  obtain ⟨n, hl⟩ : ∃ n, n = l.length := ⟨_, rfl⟩
  rw [← hl] at hc hn HR ⊢
  have HL : Hid _ := hl
  clear hl
  have Z0 : Hid (Kd.N k24 24 (w.alloc (.cells #[] 24)) w.heap.size (fun k => ok k ∧ k < w.heap.size ∨ w.heap.size ≤ k) (.slice (some ⟨w.heap.size, 0, none⟩) 0 0) []) := lit_none _ (fun k hk => .inr hk)
  have B0 : Hid (Below w.heap.size w (w.alloc (.cells #[] 24))) := below_alloc (Below.refl _ _) _
  cases A with
  | none =>
    obtain rfl := hlen.out rfl
    go_enter Tryz.func82, Tryz.ntmps82
    go_wp2_with fail
    go_ret
    exact ⟨_, rfl, by rw [HL.out]; exact Kd.N_nil _ _ _ _ _, Below.refl _ _⟩
  | some ad =>
    go_enter Tryz.func82, Tryz.ntmps82
    go_wp2_with (at_builtin; refine Kd.N_append_rows k24 (w0 := w) w.heap.size rfl (.tmp 5) (.tmp 6) 22 24 (.agg #[(.int .i64 0), (.int .i64 0), (.string ⟨#[]⟩), (.slice none 0 0)]) 56 rfl hu22 info24 rfl (by decide) (by decide) _ [] l (some ad) n c (fun k => ok k ∧ k < w.heap.size ∨ w.heap.size ≤ k) (fun k => ok k ∧ k < w.heap.size) rfl rfl ?n1 ?n2 ?n3 ?n4 ?n5 ?n6 ?n7 ?n8)
    case n1 => exact Kd.N_below Z0.out (by first | exact Below.refl _ _ | (repeat (first | exact Below.refl _ _ | apply below_alloc | apply pw_below_drewN | apply below_drew1)))
    case n2 => exact Kd.F_below HR.out (by (repeat (first | exact Below.refl _ _ | apply below_alloc | apply pw_below_drewN | apply below_drew1)))
    case n3 => exact fun k hk => ⟨.inl hk, fun he => by have h2 := hk.2; have he2 : some k = some w.heap.size := he; have he3 := Option.some.inj he2; omega⟩
    case n4 => exact fun k hk => .inr (Nat.le_trans (below_size (below_alloc (Below.refl _ _) (Obj.cells #[] 24))) hk)
    case n5 => exact (by (repeat (first | exact Below.refl _ _ | apply below_alloc | apply pw_below_drewN | apply below_drew1)))
    case n6 => simp
    case n7 => simp; omega
    case n8 =>
      intro v1 w1 hN hB hg hat
      have HN : Hid _ := hN
      have HB : Hid _ := hB
      clear hN hB hg hat
      go_wp2_with fail
      go_ret
      exact ⟨_, rfl, HN.out, HB.out⟩
end Go.Proofs.YtcjmplpfebpfpaaGreatDoor

namespace Go.Proofs.YtcjmplpfebpfpaaGreatDoor
open Go.RowKit Go.Proofs Go.Proofs.YtcjmplpfebpfpaaGreatDoorW.PrintWords Go.Proofs.YtcjmplpfebpfpaaGreatDoorW.PrintLast Go.Proofs.YtcjmplpfebpfpaaGreatDoorW.PrintMore PKindInstances
set_option linter.unusedVariables false
set_option linter.unusedSimpArgs false

theorem row_at51 {w : World} {A : Option Addr} {n : Nat} {l : List S51} {ok : Nat → Prop} (h : Kd.F k51 w ok A n l) {i : Nat} (hi : i < n) {x : S51} (hx : l[i]? = some x) :
    ∃ ad A4 c4, A = some ad ∧ w.cell? (ad.add (i * 5)) = some (.string x.f0) ∧ w.cell? ⟨(ad.add (i * 5)).block, (ad.add (i * 5)).off + 1, none⟩ = some (.int .i64 x.f1.f0) ∧
      w.cell? ⟨(ad.add (i * 5)).block, (ad.add (i * 5)).off + 2, none⟩ = some (.int .i64 x.f1.f1) ∧ w.cell? ⟨(ad.add (i * 5)).block, (ad.add (i * 5)).off + 3, none⟩ = some (.string x.f1.f2) ∧ w.cell? ⟨(ad.add (i * 5)).block, (ad.add (i * 5)).off + 4, none⟩ = some (.slice A4 x.f1.f3.length c4) ∧
      x.f1.f3.length ≤ c4 ∧ Kd.F k24 w ok A4 x.f1.f3.length x.f1.f3 := by
  obtain ⟨ad, c, rfl, hcl, hK, hcc, _⟩ := Kd.F_get h z51 (i : Int) (by omega) (by omega)
  rw [Int.toNat_natCast] at hK hcc
  rw [List.getD_eq_getElem?_getD, hx, Option.getD_some] at hK
  obtain ⟨A4, c4, rfl, h1, h2⟩ := k51_openF hK
  exact ⟨ad, A4, c4, rfl, hcc 0 _ rfl, by rw [← add_field _ _ 1 (by omega)]; exact hcc 1 _ rfl, by rw [← add_field _ _ 2 (by omega)]; exact hcc 2 _ rfl, by rw [← add_field _ _ 3 (by omega)]; exact hcc 3 _ rfl, by rw [← add_field _ _ 4 (by omega)]; exact hcc 4 _ rfl, h1, h2⟩

theorem twoB (w : World) (o1 o2 : Obj) : ((w.alloc o1).alloc o2).heap[w.heap.size]? = some o1 ∧ ((w.alloc o1).alloc o2).heap[w.heap.size + 1]? = some o2 ∧ Below w.heap.size w ((w.alloc o1).alloc o2) := by
  refine ⟨(Below.heap_alloc _ _ _ (by rw [size_new]; omega)).trans (MapKept.heap_alloc w _).1, ?_, below_alloc (below_alloc (Below.refl _ _) _) _⟩
  have h := (MapKept.heap_alloc (w.alloc o1) o2).1
  rw [size_new] at h
  exact h
def lookK : List S51 → ByteArray → Option S24
  | [], _ => none
  | x :: l, s => if (x.f0.toList == s.toList) = true then some x.f1 else lookK l s
/-- What a name stands for. -/
def findK (l : List S51) (s : ByteArray) : Option S24 := if resM s = true then none else lookK l s

set_option maxRecDepth 100000 in
theorem isName_is (x : S51) (A : Option Addr) (c b : Nat) (s : ByteArray) (w : World) (hb : w.heap[b]? = some (.cells #[.string s] 9 (0, 0))) :
    Calls Tryz.prog 124 #[.agg #[.string x.f0, .int .i64 x.f1.f0, .int .i64 x.f1.f1, .string x.f1.f2, .slice A x.f1.f3.length c], .pointer (some ⟨b, 0, none⟩)] w fun e w' => e = .returned (.bool (x.f0.toList == s.toList)) ∧ Below w.heap.size w w' := by
  have hu24 := Tryz.underlying24
  have hu51 := Tryz.underlying51
  have hlt := blk_lt hb
  have p0 : w.cell? ⟨b, 0, none⟩ = some (.string s) := by simp [World.cell?, hb]
  clear hb
  obtain ⟨xn, ⟨x0, x1, x2, x3⟩⟩ := x
  obtain ⟨r, hr⟩ : ∃ r, r = (xn.toList == s.toList) := ⟨_, rfl⟩
  show Calls _ _ _ _ (fun e w' => e = .returned (.bool (xn.toList == s.toList)) ∧ _)
  go_enter Tryz.func124, Tryz.ntmps124
  go_wp2_with fail
  go_ret
  exact ⟨rfl, (by (repeat (first | assumption | exact Below.refl _ _ | apply below_alloc | apply pw_below_drewN | apply below_drew1)))⟩

theorem drop_at51 {l : List S51} {i : Nat} {x : S51} (hx : l[i]? = some x) : l.drop i = x :: l.drop (i + 1) := by
  obtain ⟨h, e⟩ := List.getElem?_eq_some_iff.1 hx
  rw [List.drop_eq_getElem_cons h, e]
/-- Where a name stands. -/
def IxAt (w : World) (l : List S51) (s : ByteArray) (e : Ending) (w' : World) : Prop :=
  ∃ r : Int, e = .returned (.int .i64 r) ∧ Below w.heap.size w w' ∧ ((r = -1 ∧ lookK l s = none) ∨ ∃ (j : Nat) (x : S51), r = (j : Int) ∧ l[j]? = some x ∧ lookK l s = some x.f1)
/-- What holds of the loop. -/
def IxRel (W0 : World) (l : List S51) (s : ByteArray) (k : Nat) (x8 : Value) (wr : World) : Prop :=
  ∃ (i : Nat), x8 = .int .i64 (i : Int) ∧ k + i = l.length ∧ Below W0.heap.size W0 wr ∧ lookK l s = lookK (l.drop i) s

set_option maxRecDepth 100000 in
set_option maxHeartbeats 4000000 in
theorem IndexName_any (l : List S51) (A : Option Addr) (c b : Nat) (s : ByteArray) (w : World) (ok : Nat → Prop) (hr : Kd.F k51 w ok A l.length l) (hc : l.length ≤ c) (hn : l.length < 9000000) (hb : w.heap[b]? = some (.cells #[.string s] 9 (0, 0))) :
    Calls Tryz.prog 123 #[.slice A l.length c, .func (.func 124) #[] #[.pointer (some ⟨b, 0, none⟩)]] w (IxAt w l s) := by
  have hu24 := Tryz.underlying24
  have hu51 := Tryz.underlying51
  have hu25 := Tryz.underlying25
  have start : Hid (IxRel w l s l.length (.int .i64 ((0 : Nat) : Int)) w) := ⟨0, rfl, rfl, Below.refl _ _, rfl⟩
  have HR : Hid _ := hr
  have HB : Hid _ := hb
  clear hr hb
  go_enter Tryz.func123, Tryz.ntmps123
  go_wp2_with fail
  go_loopg [8] l.length (fun k x8 wr => IxRel w l s k x8 wr)
  case atStart => exact start.out
  case round =>
    clear start
    obtain ⟨i, rfl, hki, Bl, hV⟩ := hrel
    by_cases hlt : i < l.length
    · obtain ⟨g, rfl⟩ : ∃ g, gk = g + 1 := ⟨gk - 1, by omega⟩
      have e1 : decide (i < l.length) = true := decide_eq_true hlt
      obtain ⟨x, hx⟩ : ∃ x, l[i]? = some x := ⟨l[i]'hlt, List.getElem?_eq_getElem _⟩
      obtain ⟨ad, A3, c3, rfl, g0, g1, g2, g3, g4, g5, _⟩ := row_at51 (Kd.F_below HR.out Bl) hlt hx
      have OK : Hid _ := isName_is x A3 c3 b s wr (blk_below HB.out Bl)
      have BL : Hid _ := Bl
      rw [drop_at51 hx] at hV
      simp only [lookK] at hV
      have HX : Hid _ := hx
      clear Bl hx
      obtain ⟨xn, ⟨x0, x1, x2, x3⟩⟩ := x
      simp only [] at hV g0 g1 g2 g3 g4 g5 OK
      cases hv : (xn.toList == s.toList) with
      | true =>
        rw [hv] at OK
        rw [if_pos hv] at hV
        have HV : Hid _ := hV
        clear hV hv
        go_wp2_with fail
        refine Calls.mono OK.out ?_
        rintro e w2 ⟨rfl, B2⟩
        have B3 : Hid _ := below_after BL.out B2
        clear B2
        go_wp2_with fail
        go_ret
        exact ⟨i, rfl, B3.out, .inr ⟨i, _, rfl, HX.out, HV.out⟩⟩
      | false =>
        rw [hv] at OK
        rw [if_neg (by simp [hv])] at hV
        have HV : Hid _ := hV
        clear hV hv
        go_wp2_with fail
        refine Calls.mono OK.out ?_
        rintro e w2 ⟨rfl, B2⟩
        have B3 : Hid _ := below_after BL.out B2
        clear B2
        go_wp2_with fail
        go_roundg g
        case measure => omega
        case rel => exact ⟨i + 1, by go_num, by omega, B3.out, HV.out⟩
    · have e1 : decide (i < l.length) = false := decide_eq_false hlt
      have e3 : l.drop i = [] := List.drop_eq_nil_of_le (by omega)
      rw [e3] at hV
      have HV : Hid _ := hV
      have BL : Hid _ := Bl
      have hge : l.length ≤ i := by omega
      clear e3 Bl hV
      go_wp2_with fail
      go_ret
      exact ⟨-1, rfl, BL.out, .inl ⟨rfl, HV.out⟩⟩

/-- What find answers. -/
def FindKPost (w : World) (ok : Nat → Prop) (R : Option S24) (e : Ending) (w' : World) : Prop :=
  match R with
  | none => e = .returned (.tuple #[formV 0 0 ⟨#[]⟩ none 0 0, .bool false]) ∧ Below w.heap.size w w'
  | some x => ∃ A c, e = .returned (.tuple #[formV x.f0 x.f1 x.f2 A x.f3.length c, .bool true]) ∧ x.f3.length ≤ c ∧ Kd.F k24 w' ok A x.f3.length x.f3 ∧ Below w.heap.size w w'

set_option maxRecDepth 100000 in
set_option maxHeartbeats 8000000 in
theorem findK_any (l : List S51) (s : ByteArray) (A : Option Addr) (c : Nat) (w : World) (ok : Nat → Prop) (hr : Kd.F k51 w ok A l.length l) (hc : l.length ≤ c) (hn : l.length < 9000000) :
    Calls Tryz.prog 81 #[.slice A l.length c, .string s] w (FindKPost w ok (findK l s)) := by
  have hu24 := Tryz.underlying24
  have hu51 := Tryz.underlying51
  have hu25 := Tryz.underlying25
  have hmf : ∀ (fn : Fn) (first cap : Array Value) (w : World), (Instr.makeFunc fn first cap).run Tryz.prog w = .ok (.func fn first cap) w := fun _ _ _ _ => rfl
  obtain ⟨x1, x2, xb⟩ := twoB w (Obj.cells #[.string s] 9) (Obj.cells #[.int .i64 0, .int .i64 0, .string ⟨#[]⟩, .slice none 0 0] 24)
  have XB : Hid _ := xb
  have X1 : Hid _ := x1
  have X2 : Hid _ := x2
  have HR : Hid (Kd.F k51 w ok A l.length l) := hr
  clear hr xb x1 x2
  have RS : Hid _ := fun w1 => reserved_any s w1
  unfold findK
  cases hs : resM s with
  | true =>
    rw [hs] at RS
    rw [if_pos rfl]
    clear hs
    go_enter Tryz.func81, Tryz.ntmps81
    go_upto_region 1 with fail
    generalize (w.alloc (Obj.cells #[.string s] 9)).alloc (Obj.cells #[.int .i64 0, .int .i64 0, .string ⟨#[]⟩, .slice none 0 0] 24) = X at *
    have q0 : X.cell? ⟨w.heap.size, 0, none⟩ = some (.string s) := by simp [World.cell?, X1.out]
    go_wp2_with fail
    refine (RS.out _).mono ?_
    rintro e w2 ⟨rfl, B2⟩
    have hb := blk_below X2.out B2
    have f0 := frozen4 (i := 0) hb
    have f1 := frozen4 (i := 1) hb
    have f2 := frozen4 (i := 2) hb
    have f3 := frozen4 (i := 3) hb
    obtain ⟨p0, p1, p2, p3⟩ := cells4 hb
    have HB : Hid _ := hb
    have HB2 : Hid _ := below_after XB.out B2
    clear hb B2
    go_wp2_with fail
    refine bodyPost_ret (results_ct rfl _ _ (w.heap.size + 1) 24 #[.int .i64 0, .int .i64 0, .string ⟨#[]⟩, .slice none 0 0] (0, 0) _ rfl (set4 HB.out) Tryz.underlying24 rfl (by kernel_rfl)) rfl ?_
    exact ⟨rfl, below4 HB2.out (by omega)⟩
  | false =>
    rw [hs] at RS
    rw [if_neg (by simp)]
    clear hs
    go_enter Tryz.func81, Tryz.ntmps81
    go_upto_region 1 with fail
    generalize (w.alloc (Obj.cells #[.string s] 9)).alloc (Obj.cells #[.int .i64 0, .int .i64 0, .string ⟨#[]⟩, .slice none 0 0] 24) = X at *
    have q0 : X.cell? ⟨w.heap.size, 0, none⟩ = some (.string s) := by simp [World.cell?, X1.out]
    go_wp2_with fail
    refine (RS.out _).mono ?_
    rintro e w2 ⟨rfl, B2⟩
    have IX : Hid _ := IndexName_any l A c w.heap.size s w2 ok (Kd.F_below HR.out (below_after XB.out B2)) hc hn (blk_below X1.out B2)
    have HB2 : Hid _ := B2
    clear B2 q0
    go_wp2_with fail
    refine Calls.mono IX.out ?_
    rintro e w3 ⟨r, rfl, B3, hcase⟩
    have hb := blk_below (blk_below X2.out HB2.out) B3
    have f0 := frozen4 (i := 0) hb
    have f1 := frozen4 (i := 1) hb
    have f2 := frozen4 (i := 2) hb
    have f3 := frozen4 (i := 3) hb
    obtain ⟨p0, p1, p2, p3⟩ := cells4 hb
    have HB : Hid _ := hb
    have HB3 : Hid _ := below_after (below_after XB.out HB2.out) B3
    clear hb B3
    rcases hcase with ⟨rfl, hk⟩ | ⟨j, x, rfl, hx, hk⟩
    · have HK : Hid _ := hk
      clear hk
      go_wp2_with fail
      refine bodyPost_ret (results_ct rfl _ _ (w.heap.size + 1) 24 #[.int .i64 0, .int .i64 0, .string ⟨#[]⟩, .slice none 0 0] (0, 0) _ rfl (set4 HB.out) Tryz.underlying24 rfl (by kernel_rfl)) rfl ?_
      rw [HK.out]
      exact ⟨rfl, below4 HB3.out (by omega)⟩
    · have HK : Hid _ := hk
      clear hk
      have hjl : j < l.length := (List.getElem?_eq_some_iff.1 hx).1
      have e1 : decide ((j : Int) < 0) = false := decide_eq_false (by omega)
      obtain ⟨ad, A3, c3, rfl, g0, g1, g2, g3, g4, g5, g6⟩ := row_at51 HR.out hjl hx
      replace g0 := pw_cell_below HB3.out g0
      replace g1 := pw_cell_below HB3.out g1
      replace g2 := pw_cell_below HB3.out g2
      replace g3 := pw_cell_below HB3.out g3
      replace g4 := pw_cell_below HB3.out g4
      have H6 : Hid _ := g6
      clear hx g6
      obtain ⟨xn, ⟨x0, x1, x2, x3⟩⟩ := x
      simp only [] at g0 g1 g2 g3 g4 g5 H6
      go_wp2_with fail
      refine bodyPost_ret (results_ct rfl _ _ (w.heap.size + 1) 24 #[.int .i64 x0, .int .i64 x1, .string x2, .slice A3 x3.length c3] (0, 0) _ rfl (set4 HB.out) Tryz.underlying24 rfl (by kernel_rfl)) rfl ?_
      rw [HK.out]
      have B9 := below4 (a0 := .int .i64 x0) (a1 := .int .i64 x1) (a2 := .string x2) (a3 := .slice A3 x3.length c3) HB3.out (b := w.heap.size + 1) (by omega)
      refine ⟨A3, c3, rfl, g5, ?_, B9⟩
      exact Kd.F_below H6.out B9
end Go.Proofs.YtcjmplpfebpfpaaGreatDoor

namespace Go.Proofs.YtcjmplpfebpfpaaGreatDoor
open Go.RowKit Go.Proofs Go.Proofs.YtcjmplpfebpfpaaGreatDoorW.PrintWords Go.Proofs.YtcjmplpfebpfpaaGreatDoorW.PrintLast Go.Proofs.YtcjmplpfebpfpaaGreatDoorW.PrintMore PKindInstances
set_option linter.unusedVariables false
set_option linter.unusedSimpArgs false

mutual
/-- A form with what stands for its words. -/
def appM (fd : ByteArray → Option S24) : S24 → Bool → S24
  | ⟨a, n, s, l⟩, bare =>
    if a = 1 then (if bare then ⟨a, n, s, l⟩ else (fd s).getD ⟨a, n, s, l⟩) else
    if a = 3 then ⟨a, n, s, appL fd (!bare && isFunW (headL l)) bare 0 l⟩ else ⟨a, n, s, l⟩
def appL (fd : ByteArray → Option S24) (fn bare : Bool) : Nat → List S24 → List S24
  | _, [] => []
  | i, k :: l => (if i = 0 ∧ bare = false ∧ k.f0 = 1 then k else appM fd k (fn && decide (i = 1) && (k.f0 == 3))) :: appL fd fn bare (i + 1) l
end
theorem appL_len (fd : ByteArray → Option S24) (fn bare : Bool) : ∀ (l : List S24) (i : Nat), (appL fd fn bare i l).length = l.length
  | [], _ => rfl
  | k :: l, i => by simp only [appL, List.length_cons, appL_len fd fn bare l (i + 1)]

mutual
/-- Whether each fun has a list of arguments. -/
def lstM : S24 → Bool
  | ⟨a, _, _, l⟩ => !((a == 3) && isFunW (headL l) && !(decide (l.length = 3) && (match l with | _ :: k :: _ => k.f0 == 3 | _ => false))) && lstL l
def lstL : List S24 → Bool
  | [] => true
  | x :: l => lstM x && lstL l
end
theorem app_kind (fd : ByteArray → Option S24) (x : S24) (b : Bool) (h : x.f0 ≠ 1) : (appM fd x b).f0 = x.f0 := by
  obtain ⟨a, n, s, l⟩ := x
  have h : a ≠ 1 := h
  simp only [appM]
  rw [if_neg h]
  split <;> rfl
theorem app_word (fd : ByteArray → Option S24) (x : S24) (h : x.f0 = 1) : appM fd x false = (fd x.f2).getD x := by
  obtain ⟨a, n, s, l⟩ := x
  obtain rfl : a = 1 := h
  simp [appM]
/-- The head stays. -/
theorem app_head (fd : ByteArray → Option S24) (fn : Bool) (l : List S24) : headL (appL fd fn false 0 l) = headL l := by
  cases l with
  | nil => rfl
  | cons k l =>
    simp only [appL]
    by_cases h : k.f0 = 1
    · rw [if_pos (by simp [h])]
      rfl
    · rw [if_neg (fun h2 => h h2.2.2)]
      simp only [headL]
      rw [if_neg h, if_neg (by rw [app_kind fd k _ h]; exact h)]
theorem fun_kid {a n : Int} {s : ByteArray} {l : List S24} (h : lstM ⟨a, n, s, l⟩ = true) (ha : a = 3) (hf : isFunW (headL l) = true) : ∀ (j : Nat) (k : S24), l[j]? = some k → 0 + j = 1 → k.f0 = 3 := by
  intro j k hk hj
  simp only [lstM, hf, ha, Bool.and_eq_true, Bool.not_eq_true', Bool.and_eq_false_imp, beq_self_eq_true, true_implies, Bool.true_and, Bool.not_eq_false'] at h
  obtain rfl : j = 1 := by omega
  match l, hk with
  | _ :: k2 :: _, hk =>
    obtain rfl : k2 = k := by simpa using hk
    simpa using h.1.2

end Go.Proofs.YtcjmplpfebpfpaaGreatDoor

namespace Go.Proofs.YtcjmplpfebpfpaaGreatDoor
open Go.RowKit Go.Proofs Go.Proofs.YtcjmplpfebpfpaaGreatDoorW.PrintWords Go.Proofs.YtcjmplpfebpfpaaGreatDoorW.PrintLast Go.Proofs.YtcjmplpfebpfpaaGreatDoorW.PrintMore PKindInstances
set_option linter.unusedVariables false
set_option linter.unusedSimpArgs false

/-- What a call on the way ends with: what is known then, or an error that is thrown. -/
inductive URes where
  | ok (mt : List (ByteArray × S24))
  | stop (n : Int)

def stopE (n : Int) : PanicEntry := { v := .iface 88 (.agg #[.int .i64 n]), recovered := false }
/-- What holds behind such a call. -/
def UPost (W0 w : World) (base sp vb tb : Nat) (vs : List ByteArray) : URes → Ending → World → Prop
  | .ok mt, e, w' => e = .returned (.tuple #[]) ∧ w.grownBy w' (some tb) ∧ ∃ mtv, SolvAt base w' sp vb tb (varsV vs) mtv ∧ ToAt W0 mt mtv
  | .stop n, e, w' => e = .panicked [stopE n] ∧ w.grownBy w' (some tb)

def bindM (vs : List ByteArray) (mt : List (ByteArray × S24)) (n : Nat) (name : ByteArray) (x : S24) : Option URes :=
  match withinM vs mt n name x false with
  | none => none
  | some true => some (.stop 11)
  | some false => some (.ok (putT mt name x))

set_option maxRecDepth 100000 in
theorem bind_any (W0 w : World) (base sp vb tb : Nat) (vs : List ByteArray) (mt : List (ByteArray × S24)) (mtv : List (ByteArray × Value)) (hs : SolvAt base w sp vb tb (varsV vs) mtv) (ht : ToAt W0 mt mtv) (hw : Below W0.heap.size W0 w)
    (name : ByteArray) (x : S24) (A : Option Addr) (c : Nat) (hr : Kd.C k24 W0 A x.f3.length x.f3) (hc : x.f3.length ≤ c) (hx : wid x < 9000000) (n : Nat) (R : URes) (hk : bindM vs mt n name x = some R) :
    Calls Tryz.prog 95 #[.pointer (some ⟨sp, 0, none⟩), .string name, formV x.f0 x.f1 x.f2 A x.f3.length c] w (UPost W0 w base sp vb tb vs R) := by
  have hu24 := Tryz.underlying24
  have hfx : FormAt W0 (formV x.f0 x.f1 x.f2 A x.f3.length c) x := ⟨A, c, rfl, hr, hc, hx⟩
  obtain ⟨x0, x1, x2, x3⟩ := x
  have B0 : Below w.heap.size w (w.alloc (Obj.cells #[.int .i64 x0, .int .i64 x1, .string x2, .slice A x3.length c] 24)) := below_alloc (Below.refl _ _) _
  have BW : Below W0.heap.size W0 (w.alloc (Obj.cells #[.int .i64 x0, .int .i64 x1, .string x2, .slice A x3.length c] 24)) := below_alloc hw _
  unfold bindM at hk
  cases hq : withinM vs mt n name ⟨x0, x1, x2, x3⟩ false with
  | none => rw [hq] at hk; cases hk
  | some q =>
    rw [hq] at hk
    have WI : Hid _ := within_ok vs mt mtv n base sp vb tb _ name ⟨x0, x1, x2, x3⟩ false A c q (hs.below B0) (ToAt.below BW ht) (Kd.C_below hr BW) hc hx hq
    have HS : Hid _ := hs
    have HT : Hid _ := ht
    have HF : Hid _ := hfx
    have HB : Hid _ := B0
    clear hs ht hr hx hq B0 BW hfx hw
    cases q with
    | true =>
      simp only [Option.some.injEq] at hk
      subst hk
      go_enter Tryz.func95, Tryz.ntmps95
      go_wp2_with fail
      refine Calls.mono WI.out ?_
      rintro e w1 ⟨rfl, B1⟩
      have G1 : Hid _ := grown_of_below (below_after HB.out B1) (some tb)
      clear B1
      go_wp2_with fail
      exact ⟨rfl, rfl, G1.out⟩
    | false =>
      simp only [Option.some.injEq] at hk
      subst hk
      go_enter Tryz.func95, Tryz.ntmps95
      go_wp2_with fail
      refine Calls.mono WI.out ?_
      rintro e w1 ⟨rfl, B1⟩
      have G1 : Hid _ := grown_of_below (below_after HB.out B1) (some tb)
      have S1 := HS.out.below (below_after HB.out B1)
      obtain ⟨q0, q1, q2, q3⟩ := box_at B1
      have c1 := S1.c1
      obtain ⟨w9, hrun, M9, G9⟩ := run_update_at keyText' Tryz.underlying72 Tryz.underlying9 (show MapAt w1.drew tb _ from S1.tos) name (formV x0 x1 x2 A x3.length c)
      change (Instr.mapUpdate 72 (.map (some tb)) (.string name) _).run Tryz.prog _ = _ at hrun
      have S9 : Hid _ := SolvAt.putTo (show SolvAt base w1.drew sp vb tb (varsV vs) mtv from ⟨S1.blk, S1.vars, S1.tos, S1.bs, S1.bv, S1.bt, S1.ne⟩) M9 G9
      have GG : Hid (w.grownBy w9 (some tb)) := (G1.out.trans (grown_of_below (below_drew (Below.refl _ _)) (some tb))).trans G9
      clear B1 S1 M9 G9
      go_wp2_with fail
      go_region
      go_wp2_with fail
      go_end0
      exact ⟨rfl, GG.out, _, S9.out, put_to HT.out name HF.out⟩

end Go.Proofs.YtcjmplpfebpfpaaGreatDoor
