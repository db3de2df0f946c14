/- Part 10 of what the law's row leans on (Nk): the print's words and functions, cut to what is reached, and own texts. -/
import Derived.Test.YtcjmplpfebpfpaaGreatDoorNk9
namespace Go.Proofs.YtcjmplpfebpfpaaGreatDoor
open Go.RowKit Go.Proofs Go.Proofs.YtcjmplpfebpfpaaGreatDoorW.PrintWords Go.Proofs.YtcjmplpfebpfpaaGreatDoorW.PrintLast Go.Proofs.YtcjmplpfebpfpaaGreatDoorW.PrintMore PKindInstances
set_option linter.unusedVariables false
set_option linter.unusedSimpArgs false

theorem row_take {α : Type} {d : Kd α} {w : World} {A : Option Addr} {l : List α} (h : Kd.C d w A l.length l) (i : Nat) (hi : i ≤ l.length) : Kd.C d w A i (l.take i) := by
  obtain ⟨h1, h2, h3⟩ := h
  refine ⟨by simp [Nat.min_eq_left hi], by omega, fun hn => ?_⟩
  obtain ⟨ad, e, h4⟩ := h3 (by omega)
  refine ⟨ad, e, fun j p hj => h4 j p ?_⟩
  rw [List.getElem?_take] at hj
  split at hj
  · exact hj
  · cases hj
theorem RReserved_any (s : ByteArray) (w : World) : Calls Tryz.prog 62 #[.string s] w fun e w' => e = .returned (.bool (resM s)) ∧ Below w.heap.size w w' := by
  obtain ⟨k, hk⟩ := reserved_ev s
  exact plinthref03_Reserved.calls k s _ w (hk k (Nat.le_refl _))

def isNameR (s : ByteArray) : Bool := wordR s && !resM s
set_option maxRecDepth 100000 in
theorem RisName_any (s : ByteArray) (w : World) (hz : s.size < 9000000) : Calls Tryz.prog 101 #[.string s] w fun e w' => e = .returned (.bool (isNameR s)) ∧ Below w.heap.size w w' := by
  have IW : Hid _ := fun w1 => IsWord_any s w1 hz
  unfold isNameR
  cases hq : wordR s with
  | false =>
    rw [hq] at IW
    go_enter Tryz.func101, Tryz.ntmps101
    go_wp2_with fail
    refine (IW.out _).mono ?_
    rintro e w2 ⟨rfl, B2⟩
    go_wp2_with fail
    go_ret
    exact ⟨rfl, B2⟩
  | true =>
    rw [hq] at IW
    obtain ⟨r, hr⟩ : ∃ r, r = resM s := ⟨_, rfl⟩
    have IR : Hid _ := fun w1 => RReserved_any s w1
    rw [← hr] at IR ⊢
    clear hr
    go_enter Tryz.func101, Tryz.ntmps101
    go_wp2_with fail
    refine (IW.out _).mono ?_
    rintro e w2 ⟨rfl, B2⟩
    have HB : Hid _ := B2
    clear B2
    go_wp2_with fail
    refine (IR.out _).mono ?_
    rintro e w3 ⟨rfl, B3⟩
    have HB3 : Hid _ := below_after HB.out B3
    clear B3
    go_wp2_with fail
    go_ret
    exact ⟨rfl, HB3.out⟩

end Go.Proofs.YtcjmplpfebpfpaaGreatDoor

namespace Go.Proofs.YtcjmplpfebpfpaaGreatDoor
open Go.RowKit Go.Proofs Go.Proofs.YtcjmplpfebpfpaaGreatDoorW.PrintWords Go.Proofs.YtcjmplpfebpfpaaGreatDoorW.PrintLast Go.Proofs.YtcjmplpfebpfpaaGreatDoorW.PrintMore PKindInstances
set_option linter.unusedVariables false
set_option linter.unusedSimpArgs false

theorem dw_nil {α : Type} (p : α → Bool) : ∀ l : List α, l.dropWhile p = [] ↔ ∀ x ∈ l, p x = true
  | [] => by simp
  | a :: l => by
    by_cases h : p a = true
    · rw [List.dropWhile_cons_of_pos h, dw_nil p l]; simp [h]
    · rw [List.dropWhile_cons_of_neg h]; simp [h]
theorem dw_head {α : Type} (p : α → Bool) : ∀ (l : List α) (a : α) (r : List α), l.dropWhile p = a :: r → p a = false
  | [], a, r, h => by simp at h
  | b :: l, a, r, h => by
    by_cases hb : p b = true
    · rw [List.dropWhile_cons_of_pos hb] at h; exact dw_head p l a r h
    · rw [List.dropWhile_cons_of_neg hb] at h
      obtain ⟨rfl, _⟩ := List.cons.inj h
      simpa using hb
theorem trimS_nil (l cs : List UInt8) : (Lib.trimS l cs == []) = l.all (cs.contains ·) := by
  rw [Bool.eq_iff_iff, beq_iff_eq, List.all_eq_true]
  unfold Lib.trimS Lib.trimLeftS Lib.trimRightS
  rw [dw_nil]
  constructor
  · intro h
    cases hd : l.reverse.dropWhile (cs.contains ·) with
    | nil =>
      intro x hx
      exact (dw_nil _ _).1 hd x (List.mem_reverse.2 hx)
    | cons a r =>
      have h1 := dw_head _ _ _ _ hd
      have h2 := h a (by rw [hd]; simp)
      rw [h1] at h2; cases h2
  · intro h x hx
    have : l.reverse.dropWhile (cs.contains ·) = [] := (dw_nil _ _).2 fun y hy => h y (List.mem_reverse.1 hy)
    rw [this] at hx
    simp at hx
theorem dig_all : ∀ c : Fin 256, digitsB.contains (UInt8.ofNat c.val) = digI (c.val : Int) := by
  have h : (List.range 256).all (fun n => digitsB.contains (UInt8.ofNat n) == digI (n : Int)) = true := by kernel_rfl
  intro c
  exact eq_of_beq (List.all_eq_true.1 h c.val (List.mem_range.2 c.isLt))
theorem dig_one (b : UInt8) : digitsB.contains b = digI (b.toNat : Int) := by
  have := dig_all ⟨b.toNat, b.toNat_lt⟩
  simpa using this
theorem digits_list (l : List UInt8) : l.all (digitsB.contains ·) = (l.map fun b => (b.toNat : Int)).all digI := by
  induction l with
  | nil => rfl
  | cons a l ih => rw [List.all_cons, List.map_cons, List.all_cons, ih, dig_one]
theorem numM_digs (s : ByteArray) : numM s = digsM (unsigned s) := by
  have e0 : ∀ b : ByteArray, b.toList = b.data.toList := fun b => ByteArray.toList_eq b
  unfold numM digsM bytesI
  rw [trimS_nil, digits_list, e0]
  obtain ⟨⟨l⟩⟩ := s
  have hsz : (ByteArray.mk ⟨l⟩).size = l.length := rfl
  cases l with
  | nil => rfl
  | cons a r =>
    by_cases ha : a = 45
    · subst ha
      cases r with
      | nil => rfl
      | cons b r =>
        have h1 : cutMinus ⟨⟨45 :: b :: r⟩⟩ = b :: r := by
          unfold cutMinus Lib.trimPrefix Lib.hasPrefix
          simp
        have h2 : unsigned ⟨⟨45 :: b :: r⟩⟩ = (ByteArray.mk ⟨45 :: b :: r⟩).extract 1 (ByteArray.mk ⟨45 :: b :: r⟩).size := by
          unfold unsigned
          rw [if_pos]
          rw [hsz]; simp
        have h3 : ((ByteArray.mk ⟨45 :: b :: r⟩).extract 1 (ByteArray.mk ⟨45 :: b :: r⟩).size).data.toList = b :: r := by
          rw [ByteArray.data_extract, hsz]
          simp
        rw [h1, h2, h3]
    · have h1 : cutMinus ⟨⟨a :: r⟩⟩ = a :: r := by
        unfold cutMinus Lib.trimPrefix Lib.hasPrefix
        simp [ha]
        exact fun h => ha h.symm
      have h2 : unsigned ⟨⟨a :: r⟩⟩ = ⟨⟨a :: r⟩⟩ := by
        unfold unsigned
        rw [if_neg]
        simp [ha]
      rw [h1, h2]
theorem wordR_eq (s : ByteArray) : wordR s = wordM s := by
  unfold wordR wordM
  rw [numM_digs]
  have h : (!(s.toList == [])) = decide (1 ≤ s.size) := by
    rw [ByteArray.toList_eq]
    obtain ⟨⟨l⟩⟩ := s
    cases l with
    | nil => rfl
    | cons a r =>
      have : (ByteArray.mk ⟨a :: r⟩).size = (a :: r).length := rfl
      rw [this]
      simp
  rw [h]
  cases (bytesI s).all fun c => !outM c <;> cases decide (1 ≤ s.size) <;> cases decide (s.size ≤ 30) <;> simp
theorem leafR_eq (x : S24) : leafR x = leafM x := by unfold leafR leafM; rw [wordR_eq]

theorem leafM_kids {a n : Int} {s : ByteArray} {l : List S24} (h : leafM ⟨a, n, s, l⟩ = true) : a = 3 ∨ l = [] := by
  unfold leafM at h
  simp only [] at h
  by_cases h3 : a = 3
  · exact .inl h3
  · right
    split at h
    · simp only [Bool.and_eq_true, beq_iff_eq] at h
      exact List.length_eq_zero_iff.1 (by omega)
    · split at h
      · simp only [Bool.and_eq_true, beq_iff_eq] at h
        exact List.length_eq_zero_iff.1 (by omega)
      · split at h
        · simp only [Bool.and_eq_true, beq_iff_eq] at h
          exact List.length_eq_zero_iff.1 (by omega)
        · first | cases h | (rw [if_neg h3] at h; cases h)
mutual
theorem validM_is : ∀ (x : S24) (n d : Int), 0 ≤ n → 0 ≤ d → (validM x n d).1 = (fieldsM x && (decide ((cnt x : Int) ≤ n) && decide ((dep x : Int) ≤ d))) ∧ ((validM x n d).1 = true → (validM x n d).2 = n - cnt x)
  | ⟨a, b, s, l⟩, n, d, hn, hd => by
    simp only [validM, fieldsM, leafR_eq]
    cases hl : leafM ⟨a, b, s, l⟩ with
    | false =>
      simp
    | true =>
      have hk : cnt ⟨a, b, s, l⟩ = 1 + cnts l ∧ dep ⟨a, b, s, l⟩ = deps l + 1 := by
        rcases leafM_kids hl with h | h
        · subst h; simp [cnt, dep]
        · subst h; simp [cnt, dep, cnts, deps]
      rw [hk.1, hk.2]
      by_cases h1 : n - 1 < 0
      · have : decide (((1 + cnts l : Nat) : Int) ≤ n) = false := decide_eq_false (by omega)
        rw [decide_eq_true h1, this]
        simp
      · by_cases h2 : d = 0
        · have : decide (((deps l + 1 : Nat) : Int) ≤ d) = false := decide_eq_false (by omega)
          have h2' : (d == 0) = true := beq_iff_eq.2 h2
          rw [h2', this]
          simp
        · have h2' : (d == 0) = false := beq_eq_false_iff_ne.2 h2
          rw [decide_eq_false h1, h2']
          simp only [Bool.not_true, Bool.or_false, Bool.false_eq_true, if_false, Bool.true_and]
          obtain ⟨i1, i2⟩ := validL_is l (n - 1) (d - 1) (by omega) (by omega)
          refine ⟨?_, fun h => ?_⟩
          · rw [i1]
            congr 1
            congr 1
            · rw [decide_eq_decide]; omega
            · rw [decide_eq_decide]; omega
          · rw [i2 h]; omega
theorem validL_is : ∀ (l : List S24) (n d : Int), 0 ≤ n → 0 ≤ d → (validL l n d).1 = (fieldsL l && (decide ((cnts l : Int) ≤ n) && decide ((deps l : Int) ≤ d))) ∧ ((validL l n d).1 = true → (validL l n d).2 = n - cnts l)
  | [], n, d, hn, hd => by
    simp only [validL, fieldsL]
    rw [show cnts [] = 0 from rfl, show deps [] = 0 from rfl]
    refine ⟨?_, fun _ => by omega⟩
    rw [decide_eq_true (by omega), decide_eq_true (by omega)]
    rfl
  | x :: l, n, d, hn, hd => by
    simp only [validL, fieldsL]
    rw [show cnts (x :: l) = cnt x + cnts l from rfl, show deps (x :: l) = max (dep x) (deps l) from rfl]
    obtain ⟨i1, i2⟩ := validM_is x n d hn hd
    cases hx : (validM x n d).1 with
    | false =>
      rw [hx] at i1
      simp only [Bool.false_eq_true, if_false, false_implies, and_true]
      cases hf : fieldsM x with
      | false => simp
      | true =>
        rw [hf] at i1
        simp only [Bool.true_and] at i1 ⊢
        by_cases h1 : (cnt x : Int) ≤ n
        · rw [decide_eq_true h1] at i1
          have h2 : ¬ (dep x : Int) ≤ d := by simpa using i1.symm
          have : decide (((max (dep x) (deps l) : Nat) : Int) ≤ d) = false := decide_eq_false (by omega)
          rw [this]; simp
        · have : decide (((cnt x + cnts l : Nat) : Int) ≤ n) = false := decide_eq_false (by omega)
          rw [this]; simp
    | true =>
      rw [hx] at i1
      have e2 := i2 hx
      have i1' := i1.symm
      simp only [Bool.and_eq_true, decide_eq_true_eq] at i1'
      obtain ⟨hf, hc, hdp⟩ := i1'
      simp only [if_true]
      rw [e2, hf, Bool.true_and]
      obtain ⟨j1, j2⟩ := validL_is l (n - cnt x) d (by omega) hd
      refine ⟨?_, fun h => ?_⟩
      · rw [j1]
        congr 1
        congr 1
        · rw [decide_eq_decide]; omega
        · rw [decide_eq_decide]; omega
      · rw [j2 h]; omega
end
theorem ValidR_eq (x : S24) : ValidR x = ValidM x := by
  unfold ValidR ValidM smallM
  rw [(validM_is x 20000 100 (by decide) (by decide)).1]
  congr 1
  congr 1
  · rw [decide_eq_decide]; omega
  · rw [decide_eq_decide]; omega
theorem isName_eq (s : ByteArray) : isNameR s = isNameM s := by
  unfold isNameR isNameM
  rw [← ValidR_eq, wordR_eq, Bool.and_comm]
  congr 1
  unfold ValidR smallM
  simp [fieldsM, fieldsL, leafR, cnt, dep, wordR_eq]
end Go.Proofs.YtcjmplpfebpfpaaGreatDoor

namespace Go.Proofs.YtcjmplpfebpfpaaGreatDoor
open Go.RowKit Go.Proofs Go.Proofs.YtcjmplpfebpfpaaGreatDoorW.PrintWords Go.Proofs.YtcjmplpfebpfpaaGreatDoorW.PrintLast Go.Proofs.YtcjmplpfebpfpaaGreatDoorW.PrintMore PKindInstances
set_option linter.unusedVariables false
set_option linter.unusedSimpArgs false

theorem row_at115 {w : World} {A : Option Addr} {n : Nat} {l : List S115} (h : Kd.C k115 w A n l) {i : Nat} (hi : i < n) {x : S115} (hx : l[i]? = some x) :
    ∃ ad, A = some ad ∧ w.cell? (ad.add (i * 5)) = some (.string x.f0) ∧ w.cell? ⟨(ad.add (i * 5)).block, (ad.add (i * 5)).off + 1, none⟩ = some (.int .i64 x.f1) ∧
      w.cell? ⟨(ad.add (i * 5)).block, (ad.add (i * 5)).off + 2, none⟩ = some (.int .i64 x.f2) ∧ w.cell? ⟨(ad.add (i * 5)).block, (ad.add (i * 5)).off + 3, none⟩ = some (.bool x.f3) ∧ w.cell? ⟨(ad.add (i * 5)).block, (ad.add (i * 5)).off + 4, none⟩ = some (.bool x.f4) := by
  obtain ⟨ad, e, g0, g1, g2, g3, g4⟩ := at_T115 h (i : Int) (by omega) (by omega)
  rw [rd115 hx] at g0 g1 g2 g3 g4
  rw [Int.toNat_natCast] at g0 g1 g2 g3 g4
  exact ⟨ad, e, g0, g1, g2, g3, g4⟩
/-- row of a cut table, walked. -/
theorem row_any (T : List S114) (i : Nat) (nm : ByteArray) (A : Option Addr) (c : Nat) (hc : T.length ≤ c) (hn : T.length < 9000000) (hi : i ≤ T.length) :
    ∃ q0 q1 q2 q3 q4, ∀ w, Kd.C k115 w A T.length (T.map toS) → Calls Tryz.prog 80 #[.slice A i c, .string nm] w fun e w' => e = .returned (.tuple #[.agg #[.string q0, .int .i64 q1, .int .i64 q2, .bool q3, .bool q4], .bool (decide (nm ∈ (T.take i).map (·.f0)))]) ∧ Below w.heap.size w w' := by
  have hk := row_ev ((T.take i).map toS) nm (by simp; omega) ((T.take i).length + 1) (by simp)
  rw [look_toS] at hk
  have hlen : ((T.take i).map toS).length = i := by simp; omega
  have hC : ∀ w, Kd.C k115 w A T.length (T.map toS) → Kd.C k115 w A ((T.take i).map toS).length ((T.take i).map toS) := fun w hr => by
    rw [hlen, List.map_take]
    exact row_take (l := T.map toS) (by rw [List.length_map]; exact hr) i (by rw [List.length_map]; exact hi)
  cases hf : findT (T.take i) nm with
  | none =>
    rw [hf] at hk
    refine ⟨⟨#[]⟩, 0, 0, false, false, fun w hr => ?_⟩
    have hd : decide (nm ∈ (T.take i).map (·.f0)) = false := by
      rcases look_tab (T.take i) nm with ⟨_, h⟩ | ⟨r, h, _⟩
      · exact decide_eq_false h
      · rw [look_find, hf] at h; cases h
    rw [hd]
    have := plinthref03_row.calls _ A c _ nm _ _ _ _ _ _ w (hC w hr) (by rw [hlen]; omega) hk
    rw [hlen] at this
    exact this
  | some r =>
    rw [hf] at hk
    refine ⟨r.f0, r.f1, r.f2, r.f3, r.f4, fun w hr => ?_⟩
    have hd : decide (nm ∈ (T.take i).map (·.f0)) = true := by
      rcases look_tab (T.take i) nm with ⟨h, _⟩ | ⟨r, _, h⟩
      · rw [look_find, hf] at h; cases h
      · exact decide_eq_true h
    rw [hd]
    have := plinthref03_row.calls _ A c _ nm _ _ _ _ _ _ w (hC w hr) (by rw [hlen]; omega) hk
    rw [hlen] at this
    exact this
/-- What holds of the loop. -/
def TbRel (w : World) (T : List S114) (R : Bool) (k : Nat) (x3 : Value) (wr : World) : Prop :=
  ∃ (i : Nat), x3 = .int .i64 (i : Int) ∧ k + i = T.length ∧ Below w.heap.size w wr ∧ tabM ((T.take i).map (·.f0)) (T.drop i) = R
set_option maxRecDepth 100000 in
set_option maxHeartbeats 16000000 in
theorem tabled_any (T : List S114) (A : Option Addr) (c : Nat) (w : World) (hr : Kd.C k115 w A T.length (T.map toS)) (hc : T.length ≤ c) (hn : T.length < 9000000) (hz : ∀ r ∈ T, r.f0.size < 8000000) :
    Calls Tryz.prog 75 #[.slice A T.length c] w fun e w' => e = .returned (.bool (tabM [] T)) ∧ Below w.heap.size w w' := by
  have hu115 := Tryz.underlying115
  have hu61 := Tryz.underlying61
  obtain ⟨R, hR⟩ : ∃ R, R = tabM [] T := ⟨_, rfl⟩
  have HT : Hid (tabM [] T = R) := hR.symm
  have HR : Hid _ := hr
  have HZ : Hid _ := hz
  have HC : Hid _ := hc
  rw [← hR]
  clear hr hz hR
  have start : Hid (TbRel w T R T.length (.int .i64 ((0 : Nat) : Int)) w) := ⟨0, rfl, rfl, Below.refl _ _, HT.out⟩
  go_enter Tryz.func75, Tryz.ntmps75
  go_wp2_with fail
  go_loopg [3] T.length (fun k x3 wr => TbRel w T R k x3 wr)
  case atStart => exact start.out
  case round =>
    clear start
    obtain ⟨i, rfl, hki, hB, hV⟩ := hrel
    by_cases hlt : i < T.length
    · obtain ⟨g, rfl⟩ : ∃ g, gk = g + 1 := ⟨gk - 1, by omega⟩
      have e1 : decide (i < T.length) = true := decide_eq_true hlt
      obtain ⟨r, hx⟩ : ∃ x, T[i]? = some x := ⟨T[i]'hlt, List.getElem?_eq_getElem _⟩
      have htk : T.take (i + 1) = T.take i ++ [r] := by rw [List.take_add_one, hx]; rfl
      have hC0 := Kd.C_below HR.out hB
      have hHR : Hid (∀ W, Below wr.heap.size wr W → Kd.C k115 W A T.length (T.map toS)) := fun W h => Kd.C_below hC0 h
      obtain ⟨ad, rfl, g0, g1, g2, g3, g4⟩ := row_at115 hC0 hlt (x := toS r) (by rw [List.getElem?_map, hx]; rfl)
      rw [drop_at114 hx] at hV
      have hsz := HZ.out r (List.mem_of_getElem? hx)
      have IN : Hid (∀ W, _) := fun W => RisName_any r.f0 W (by omega)
      have HB : Hid _ := hB
      have HV : Hid _ := hV
      have HTK : Hid _ := htk
      clear hB hV htk hx hsz hC0
      obtain ⟨nm, k, n, eq, nw⟩ := r
      simp only [toS] at g0 g1 g2 g3 g4 IN
      rw [isName_eq] at IN
      go_upto_region 5 with fail
      have b5 : Below wr.heap.size wr (wr.alloc (Obj.cells #[.string nm, .int .i64 k, .int .i64 n, .bool eq, .bool nw] 115)) := below_alloc (Below.refl _ _) _
      have y5 := (MapKept.heap_alloc wr (Obj.cells #[.string nm, .int .i64 k, .int .i64 n, .bool eq, .bool nw] 115)).1
      have HB5 : Hid _ := below_after HB.out b5
      have HA5 : Hid (∀ W, Below (wr.alloc (Obj.cells #[.string nm, .int .i64 k, .int .i64 n, .bool eq, .bool nw] 115)).heap.size (wr.alloc (Obj.cells #[.string nm, .int .i64 k, .int .i64 n, .bool eq, .bool nw] 115)) W → Kd.C k115 W (some ad) T.length (T.map toS)) := fun W h => hHR.out W (below_after b5 h)
      clear b5 g0 g1 g2 g3 g4 HB hHR
      generalize wr.alloc (Obj.cells #[.string nm, .int .i64 k, .int .i64 n, .bool eq, .bool nw] 115) = M at *
      generalize wr.heap.size = bR at *
      have Y5 : Hid _ := y5
      obtain ⟨q0, q1, q2, q3, q4⟩ := cells5 y5
      clear y5
      obtain ⟨b, hb⟩ : ∃ b, b = decide (k = 1 ∨ k = 2) := ⟨_, rfl⟩
      have HBB : Hid _ := hb
      clear hb
      go_upto_region 6 with fail
      go_cut [25] from 8 to 63 (fun v25 wx => v25 = .bool b ∧ wx = M)
      case first =>
        by_cases k1 : k = 1
        · have t1 : (k == 1) = true := beq_iff_eq.mpr k1
          obtain rfl : b = true := by rw [HBB.out]; simp [k1]
          clear k1
          go_wp2_with fail
          go_meet
          case rel => exact ⟨rfl, rfl⟩
        · have t1 : (k == 1) = false := beq_eq_false_iff_ne.mpr k1
          by_cases k2 : k = 2
          · have t2 : (k == 2) = true := beq_iff_eq.mpr k2
            obtain rfl : b = true := by rw [HBB.out]; simp [k2]
            clear k1 k2
            go_wp2_with fail
            go_meet
            case rel => exact ⟨rfl, rfl⟩
          · have t2 : (k == 2) = false := beq_eq_false_iff_ne.mpr k2
            obtain rfl : b = false := by rw [HBB.out]; simp [k1, k2]
            clear k1 k2
            go_wp2_with fail
            go_meet
            case rel => exact ⟨rfl, rfl⟩
      case rest =>
        obtain ⟨rfl, hW⟩ := hcut
        rw [hW]
        clear hW
        obtain ⟨mo, hmo⟩ : ∃ mo : Int, mo = if b = true then 4 else 0 := ⟨_, rfl⟩
        have HMO : Hid _ := hmo
        clear hmo
        go_upto_if 25 with fail
        go_cut [5] from 8 to 63 (fun v5 wx => v5 = .int .i64 mo ∧ wx = M)
        case first =>
          cases b with
          | true =>
            obtain rfl : mo = 4 := HMO.out
            go_wp2_with fail
            go_meet
            case rel => exact ⟨rfl, rfl⟩
          | false =>
            obtain rfl : mo = 0 := HMO.out
            go_wp2_with fail
            go_meet
            case rel => exact ⟨rfl, rfl⟩
        case rest =>
          obtain ⟨rfl, hW⟩ := hcut
          rw [hW]
          clear hW
          have GS : Hid (∀ W, Below M.heap.size M W → W.cell? ⟨bR, 0, none⟩ = some (.string nm)) := fun W h => (cells5 (blk_below Y5.out h)).1
          obtain ⟨z0, z1, z2, z3, z4, hrow⟩ := row_any T i nm (some ad) c hc hn (by omega)
          have RW : Hid (∀ W, Below M.heap.size M W → _) := fun W h => hrow W (HA5.out W h)
          clear hrow q0 q1 q2 q3 q4
          obtain ⟨dn, hdn⟩ : ∃ dn, dn = decide (nm ∈ (T.take i).map (·.f0)) := ⟨_, rfl⟩
          rw [← hdn] at RW
          have HDN : Hid _ := hdn
          clear hdn
          go_upto_region 8 with fail
          go_cut [6, 7] from 8 to 63 (fun v6 v7 wx => v7 = .bool dn ∧ Below M.heap.size M wx)
          case first =>
            refine wp_region_held_drew (S := fun W => W.cell? ⟨bR, 0, none⟩ = some (.string nm)) (by kernel_rfl) (GS.out _ (below_drew (Below.refl _ _))) (fun hHeld => ?_)
            refine takeV 0 (some 27) (.slice (some ad) T.length c) rfl rfl (by kernel_rfl) (by kernel_rfl) (by kernel_rfl) (fun _ _ _ h => h) (Or.inl ⟨by kernel_rfl, fun W hSw => by obtain s0 := hSw; go_simp⟩) hHeld ?_
            try simp only [Act.put, List.setIfInBounds_toArray, List.set_cons_zero, List.set_cons_succ]
            refine takeV 1 (some 28) (.int .i64 (i : Int)) rfl rfl (by kernel_rfl) (by kernel_rfl) (by kernel_rfl) (fun _ _ _ h => h) (Or.inl ⟨by kernel_rfl, fun W hSw => by obtain s0 := hSw; go_simp⟩) hHeld ?_
            try simp only [Act.put, List.setIfInBounds_toArray, List.set_cons_zero, List.set_cons_succ]
            refine takeV 2 (some 29) (.slice (some ad) i c) rfl rfl (by kernel_rfl) (by kernel_rfl) (by kernel_rfl) (fun _ _ _ h => h) (Or.inl ⟨by kernel_rfl, fun W hSw => by obtain s0 := hSw; go_simp; first | done | (intro h9; exact absurd h9 (by omega))⟩) hHeld ?_
            try simp only [Act.put, List.setIfInBounds_toArray, List.set_cons_zero, List.set_cons_succ]
            refine takeV 3 (some 30) (.pointer (some ⟨bR, 0, none⟩)) rfl rfl (by kernel_rfl) (by kernel_rfl) (by kernel_rfl) (fun _ _ _ h => h) (Or.inl ⟨by kernel_rfl, fun W hSw => by obtain s0 := hSw; go_simp⟩) hHeld ?_
            try simp only [Act.put, List.setIfInBounds_toArray, List.set_cons_zero, List.set_cons_succ]
            refine takeV 4 (some 31) (.string nm) rfl rfl (by kernel_rfl) (by kernel_rfl) (by kernel_rfl) (fun _ _ _ h => h) (Or.inl ⟨by kernel_rfl, fun W hSw => by obtain s0 := hSw; go_simp⟩) hHeld ?_
            try simp only [Act.put, List.setIfInBounds_toArray, List.set_cons_zero, List.set_cons_succ]
            generalize hZ' : M.drew = W0
            have H0 : Hid (Below M.heap.size M W0) := (by subst hZ'; exact below_drew (Below.refl _ _))
            clear hZ'
            refine wpAnyH_ready (rs := [5, 9]) (by kernel_rfl) (by simp) ?_
            refine AllReadyH.cons rfl (fun K hK => ?_) (AllReadyH.cons rfl (fun K hK => ?_) AllReadyH.nil)
            · clear hHeld
              go_simp
              go_at_call 80
              refine Calls.mono (RW.out _ H0.out) ?_
              rintro e W1 ⟨rfl, B7⟩
              have H1 : Hid (Below M.heap.size M W1) := below_after H0.out B7
              clear B7
              go_wp2_with fail
              refine hK.out _ _ (GS.out _ H1.out) (fun hHeld => ?_)
              clear hK K
              try simp only [Act.put, List.setIfInBounds_toArray, List.set_cons_zero, List.set_cons_succ]
              refine takeV 6 (some 26) (.tuple #[.agg #[.string z0, .int .i64 z1, .int .i64 z2, .bool z3, .bool z4], .bool dn]) rfl rfl (by kernel_rfl) (by kernel_rfl) (by kernel_rfl) (fun _ _ _ h => h) (Or.inl ⟨by kernel_rfl, fun W hSw => by obtain s0 := hSw; go_simp⟩) hHeld ?_
              try simp only [Act.put, List.setIfInBounds_toArray, List.set_cons_zero, List.set_cons_succ]
              refine takeV 7 (some 33) (.agg #[.string z0, .int .i64 z1, .int .i64 z2, .bool z3, .bool z4]) rfl rfl (by kernel_rfl) (by kernel_rfl) (by kernel_rfl) (fun _ _ _ h => h) (Or.inl ⟨by kernel_rfl, fun W hSw => by obtain s0 := hSw; go_simp⟩) hHeld ?_
              try simp only [Act.put, List.setIfInBounds_toArray, List.set_cons_zero, List.set_cons_succ]
              refine takeV 8 (some 34) (.bool dn) rfl rfl (by kernel_rfl) (by kernel_rfl) (by kernel_rfl) (fun _ _ _ h => h) (Or.inl ⟨by kernel_rfl, fun W hSw => by obtain s0 := hSw; go_simp⟩) hHeld ?_
              try simp only [Act.put, List.setIfInBounds_toArray, List.set_cons_zero, List.set_cons_succ]
              refine wpAnyH_ready (rs := [9]) (by kernel_rfl) (by simp) ?_
              refine AllReadyH.cons rfl (fun K hK => ?_) AllReadyH.nil
              clear hHeld
              go_simp
              have x9 := (MapKept.heap_alloc W1 (Obj.cells #[.string ⟨#[]⟩, .int .i64 0, .int .i64 0, .bool false, .bool false] 115)).1
              have H2 : Hid (Below M.heap.size M (W1.alloc (Obj.cells #[.string ⟨#[]⟩, .int .i64 0, .int .i64 0, .bool false, .bool false] 115))) := below_after H1.out (below_alloc (Below.refl _ _) _)
              have BT : Hid (M.heap.size ≤ W1.heap.size) := H1.out.size
              refine hK.out _ _ (GS.out _ H2.out) (fun hHeld => ?_)
              clear hK K
              try simp only [Act.put, List.setIfInBounds_toArray, List.set_cons_zero, List.set_cons_succ]
              generalize W1.alloc (Obj.cells #[.string ⟨#[]⟩, .int .i64 0, .int .i64 0, .bool false, .bool false] 115) = W2 at *
              generalize W1.heap.size = bT at *
              have X9 : Hid _ := x9
              clear x9
              obtain ⟨y0, y1, y2, y3, y4⟩ := cells5 X9.out
              have f0 := blk_frozen X9.out 0
              have f1 := blk_frozen X9.out 1
              have f2 := blk_frozen X9.out 2
              have f3 := blk_frozen X9.out 3
              have f4 := blk_frozen X9.out 4
              refine wpAnyH_ready (rs := [10]) (by kernel_rfl) (by simp) ?_
              refine AllReadyH.cons rfl (fun K hK => ?_) AllReadyH.nil
              clear hHeld
              go_simp
              have HE : Hid (Below M.heap.size M (((((W2.setCell ⟨bT, 0, none⟩ (.string z0)).setCell ⟨bT, 1, none⟩ (.int .i64 z1)).setCell ⟨bT, 2, none⟩ (.int .i64 z2)).setCell ⟨bT, 3, none⟩ (.bool z3)).setCell ⟨bT, 4, none⟩ (.bool z4))) := (((((H2.out.setCell BT.out _).setCell BT.out _).setCell BT.out _).setCell BT.out _).setCell BT.out _)
              refine hK.out _ _ (GS.out _ HE.out) (fun hHeld => ?_)
              clear hK K
              try simp only [Act.put, List.setIfInBounds_toArray, List.set_cons_zero, List.set_cons_succ]
              generalize (((((W2.setCell ⟨bT, 0, none⟩ (.string z0)).setCell ⟨bT, 1, none⟩ (.int .i64 z1)).setCell ⟨bT, 2, none⟩ (.int .i64 z2)).setCell ⟨bT, 3, none⟩ (.bool z3)).setCell ⟨bT, 4, none⟩ (.bool z4)) = W9 at *
              clear y0 y1 y2 y3 y4 f0 f1 f2 f3 f4
              refine takeV 11 (some 7) (.bool dn) rfl rfl (by kernel_rfl) (by kernel_rfl) (by kernel_rfl) (fun _ _ _ h => h) (Or.inl ⟨by kernel_rfl, fun W hSw => by obtain s0 := hSw; go_simp⟩) hHeld ?_
              try simp only [Act.put, List.setIfInBounds_toArray, List.set_cons_zero, List.set_cons_succ]
              refine wpAnyH_done (by kernel_rfl) ?_ _
              go_wp2_with fail
              go_meet
              case rel => exact ⟨rfl, HE.out⟩
            · clear hHeld
              go_simp
              have x9 := (MapKept.heap_alloc W0 (Obj.cells #[.string ⟨#[]⟩, .int .i64 0, .int .i64 0, .bool false, .bool false] 115)).1
              have H1 : Hid (Below M.heap.size M (W0.alloc (Obj.cells #[.string ⟨#[]⟩, .int .i64 0, .int .i64 0, .bool false, .bool false] 115))) := below_after H0.out (below_alloc (Below.refl _ _) _)
              have BT : Hid (M.heap.size ≤ W0.heap.size) := H0.out.size
              refine hK.out _ _ (GS.out _ H1.out) (fun hHeld => ?_)
              clear hK K
              try simp only [Act.put, List.setIfInBounds_toArray, List.set_cons_zero, List.set_cons_succ]
              generalize W0.alloc (Obj.cells #[.string ⟨#[]⟩, .int .i64 0, .int .i64 0, .bool false, .bool false] 115) = W1 at *
              generalize W0.heap.size = bT at *
              have X9 : Hid _ := x9
              clear x9
              refine wpAnyH_ready (rs := [5]) (by kernel_rfl) (by simp) ?_
              refine AllReadyH.cons rfl (fun K hK => ?_) AllReadyH.nil
              clear hHeld
              go_simp
              go_at_call 80
              refine Calls.mono (RW.out _ H1.out) ?_
              rintro e W2 ⟨rfl, B7⟩
              have H2 : Hid (Below M.heap.size M W2) := below_after H1.out B7
              have XX : Hid _ := blk_below X9.out B7
              clear B7
              go_wp2_with fail
              refine hK.out _ _ (GS.out _ H2.out) (fun hHeld => ?_)
              clear hK K
              try simp only [Act.put, List.setIfInBounds_toArray, List.set_cons_zero, List.set_cons_succ]
              refine takeV 6 (some 26) (.tuple #[.agg #[.string z0, .int .i64 z1, .int .i64 z2, .bool z3, .bool z4], .bool dn]) rfl rfl (by kernel_rfl) (by kernel_rfl) (by kernel_rfl) (fun _ _ _ h => h) (Or.inl ⟨by kernel_rfl, fun W hSw => by obtain s0 := hSw; go_simp⟩) hHeld ?_
              try simp only [Act.put, List.setIfInBounds_toArray, List.set_cons_zero, List.set_cons_succ]
              refine takeV 7 (some 33) (.agg #[.string z0, .int .i64 z1, .int .i64 z2, .bool z3, .bool z4]) rfl rfl (by kernel_rfl) (by kernel_rfl) (by kernel_rfl) (fun _ _ _ h => h) (Or.inl ⟨by kernel_rfl, fun W hSw => by obtain s0 := hSw; go_simp⟩) hHeld ?_
              try simp only [Act.put, List.setIfInBounds_toArray, List.set_cons_zero, List.set_cons_succ]
              refine takeV 8 (some 34) (.bool dn) rfl rfl (by kernel_rfl) (by kernel_rfl) (by kernel_rfl) (fun _ _ _ h => h) (Or.inl ⟨by kernel_rfl, fun W hSw => by obtain s0 := hSw; go_simp⟩) hHeld ?_
              try simp only [Act.put, List.setIfInBounds_toArray, List.set_cons_zero, List.set_cons_succ]
              obtain ⟨y0, y1, y2, y3, y4⟩ := cells5 XX.out
              have f0 := blk_frozen XX.out 0
              have f1 := blk_frozen XX.out 1
              have f2 := blk_frozen XX.out 2
              have f3 := blk_frozen XX.out 3
              have f4 := blk_frozen XX.out 4
              refine wpAnyH_ready (rs := [10]) (by kernel_rfl) (by simp) ?_
              refine AllReadyH.cons rfl (fun K hK => ?_) AllReadyH.nil
              clear hHeld
              go_simp
              have HE : Hid (Below M.heap.size M (((((W2.setCell ⟨bT, 0, none⟩ (.string z0)).setCell ⟨bT, 1, none⟩ (.int .i64 z1)).setCell ⟨bT, 2, none⟩ (.int .i64 z2)).setCell ⟨bT, 3, none⟩ (.bool z3)).setCell ⟨bT, 4, none⟩ (.bool z4))) := (((((H2.out.setCell BT.out _).setCell BT.out _).setCell BT.out _).setCell BT.out _).setCell BT.out _)
              refine hK.out _ _ (GS.out _ HE.out) (fun hHeld => ?_)
              clear hK K
              try simp only [Act.put, List.setIfInBounds_toArray, List.set_cons_zero, List.set_cons_succ]
              generalize (((((W2.setCell ⟨bT, 0, none⟩ (.string z0)).setCell ⟨bT, 1, none⟩ (.int .i64 z1)).setCell ⟨bT, 2, none⟩ (.int .i64 z2)).setCell ⟨bT, 3, none⟩ (.bool z3)).setCell ⟨bT, 4, none⟩ (.bool z4)) = W9 at *
              clear y0 y1 y2 y3 y4 f0 f1 f2 f3 f4
              refine takeV 11 (some 7) (.bool dn) rfl rfl (by kernel_rfl) (by kernel_rfl) (by kernel_rfl) (fun _ _ _ h => h) (Or.inl ⟨by kernel_rfl, fun W hSw => by obtain s0 := hSw; go_simp⟩) hHeld ?_
              try simp only [Act.put, List.setIfInBounds_toArray, List.set_cons_zero, List.set_cons_succ]
              refine wpAnyH_done (by kernel_rfl) ?_ _
              go_wp2_with fail
              go_meet
              case rel => exact ⟨rfl, HE.out⟩
          case rest =>
            obtain ⟨rfl, hBM⟩ := hcut
            have HBM : Hid _ := hBM
            have HB9 : Hid _ := below_after HB5.out hBM
            obtain ⟨q0, q1, q2, q3, q4⟩ := cells5 (blk_below Y5.out hBM)
            clear hBM
            cases dn with
            | true =>
              have hR : R = false := by rw [← HV.out]; exact tab_bad (.inl (of_decide_eq_true HDN.out.symm))
              go_wp2_with fail
              go_ret
              exact ⟨by rw [hR]; rfl, HB9.out⟩
            | false =>
              obtain ⟨vn, hvn⟩ : ∃ vn, vn = isNameM nm := ⟨_, rfl⟩
              rw [← hvn] at IN
              have HVN : Hid _ := hvn
              clear hvn
              go_wp2_with fail
              refine Calls.mono (IN.out _) ?_
              rintro e w7 ⟨rfl, B7⟩
              have HB7 : Hid _ := below_after HB9.out B7
              have HM7 : Hid _ := below_after HBM.out B7
              clear q0 q1 q2 q3 q4 B7
              obtain ⟨q0, q1, q2, q3, q4⟩ := cells5 (blk_below Y5.out HM7.out)
              cases vn with
              | false =>
                have hR : R = false := by rw [← HV.out]; exact tab_bad (.inr (.inl HVN.out.symm))
                go_wp2_with fail
                go_ret
                exact ⟨by rw [hR]; rfl, HB7.out⟩
              | true =>
                by_cases c1 : k < 1
                · have d1 : decide (k < 1) = true := decide_eq_true c1
                  have hR : R = false := by rw [← HV.out]; exact tab_bad (.inr (.inr (.inl c1)))
                  go_wp2_with fail
                  go_ret
                  exact ⟨by rw [hR]; rfl, HB7.out⟩
                · have d1 : decide (k < 1) = false := decide_eq_false c1
                  by_cases c2 : 6 < k
                  · have d2 : decide (6 < k) = true := decide_eq_true c2
                    have hR : R = false := by rw [← HV.out]; exact tab_bad (.inr (.inr (.inr (.inl c2))))
                    go_wp2_with fail
                    go_ret
                    exact ⟨by rw [hR]; rfl, HB7.out⟩
                  · have d2 : decide (6 < k) = false := decide_eq_false c2
                    by_cases c3 : n < 0
                    · have d3 : decide (n < 0) = true := decide_eq_true c3
                      have hR : R = false := by rw [← HV.out]; exact tab_bad (.inr (.inr (.inr (.inr (.inl c3)))))
                      go_wp2_with fail
                      go_ret
                      exact ⟨by rw [hR]; rfl, HB7.out⟩
                    · have d3 : decide (n < 0) = false := decide_eq_false c3
                      have hmm : mostM k = mo := by
                        rw [HMO.out, HBB.out]
                        unfold mostM
                        by_cases kk : k = 1 ∨ k = 2
                        · rw [if_pos (by omega), if_pos (decide_eq_true kk)]
                        · rw [if_neg (by omega), if_neg (by rw [decide_eq_false kk]; simp)]
                      by_cases c4 : mo < n
                      · have d4 : decide (mo < n) = true := decide_eq_true c4
                        have hR : R = false := by rw [← HV.out]; exact tab_bad (.inr (.inr (.inr (.inr (.inr (by show mostM k < n; rw [hmm]; exact c4))))))
                        clear hmm
                        go_wp2_with fail
                        go_ret
                        exact ⟨by rw [hR]; rfl, HB7.out⟩
                      · have d4 : decide (mo < n) = false := decide_eq_false c4
                        have hV9 : Hid (tabM ((T.take (i + 1)).map (·.f0)) (T.drop (i + 1)) = R) := by
                          have h9 := HV.out
                          rw [tab_good (of_decide_eq_false HDN.out.symm) HVN.out.symm c1 c2 c3 (by show ¬ mostM k < n; rw [hmm]; exact c4)] at h9
                          rw [HTK.out, List.map_append, List.map_cons, List.map_nil]
                          exact h9
                        clear hmm c1 c2 c3 c4
                        go_wp2_with fail
                        go_roundg g
                        case measure => omega
                        case rel => exact ⟨i + 1, by go_num, by omega, HB7.out, hV9.out⟩
    · have e1 : decide (i < T.length) = false := decide_eq_false hlt
      rw [List.drop_eq_nil_of_le (by omega)] at hV
      have HVV : Hid _ := hV
      have HB : Hid _ := hB
      clear hV hB
      go_wp2_with fail
      go_ret
      exact ⟨by rw [← HVV.out]; rfl, HB.out⟩

end Go.Proofs.YtcjmplpfebpfpaaGreatDoor

namespace Go.Proofs.YtcjmplpfebpfpaaGreatDoor
open Go.RowKit Go.Proofs Go.Proofs.YtcjmplpfebpfpaaGreatDoorW.PrintWords Go.Proofs.YtcjmplpfebpfpaaGreatDoorW.PrintLast Go.Proofs.YtcjmplpfebpfpaaGreatDoorW.PrintMore PKindInstances
set_option linter.unusedVariables false
set_option linter.unusedSimpArgs false

theorem fld_word {m : Int} {s : ByteArray} {l : List S24} (h : fieldsM ⟨1, m, s, l⟩ = true) : l = [] ∧ ¬ s.toList = [] := by
  simp only [fieldsM, Bool.and_eq_true] at h
  have h1 := h.1
  unfold leafR at h1
  simp at h1
  obtain ⟨⟨h2, _⟩, h3⟩ := h1
  refine ⟨h3, fun e => ?_⟩
  rw [wordR_eq] at h2
  unfold wordM at h2
  rw [e] at h2
  simp at h2
theorem fieldsL_mem : ∀ {l : List S24} {x : S24}, fieldsL l = true → x ∈ l → fieldsM x = true
  | [], x, _, h => absurd h List.not_mem_nil
  | y :: l, x, h, hx => by
    simp only [fieldsL, Bool.and_eq_true] at h
    rcases List.mem_cons.1 hx with rfl | hx
    · exact h.1
    · exact fieldsL_mem h.2 hx
theorem fields_kids {x : S24} (h : fieldsM x = true) : fieldsL x.f3 = true := by
  obtain ⟨a, m, s, l⟩ := x
  simp only [fieldsM, Bool.and_eq_true] at h
  exact h.2
theorem parts_fields {x y : S24} (h : fieldsM x = true) (hy : y ∈ partsM x) : fieldsM y = true := by
  have hk := fields_kids h
  unfold partsM at hy
  split at hy
  · split at hy
    · cases hy
    · split at hy
      · split at hy
        · rename_i k0 k1 k2 he
          rw [he] at hk
          have f1 := fieldsL_mem hk (show k1 ∈ [k0, k1, k2] by simp)
          have f2 := fieldsL_mem hk (show k2 ∈ [k0, k1, k2] by simp)
          rcases List.mem_append.1 hy with hy | hy
          · exact fieldsL_mem (fields_kids f1) hy
          · obtain rfl := List.mem_singleton.1 hy
            exact f2
        · cases hy
      · exact fieldsL_mem hk (List.mem_of_mem_drop hy)
  · cases hy
theorem valid_fields {x : S24} (h : ValidM x = true) : fieldsM x = true := by
  rw [← ValidR_eq] at h
  simp only [ValidR, Bool.and_eq_true] at h
  exact h.1
theorem shape_short {h : ByteArray} {l : List S24} (hl : l.length < 2) : shapeH h l = false := by
  cases hs : shapeH h l with
  | false => rfl
  | true =>
    exfalso
    unfold shapeH at hs
    split at hs
    · cases hs
    · cases hm : manyM h with
      | none => rw [hm] at hs; simp only [] at hs; have := of_decide_eq_true hs; omega
      | some m =>
        rw [hm] at hs
        simp only [] at hs
        split at hs
        · rename_i hl2
          have : 1 ≤ m := by
            unfold manyM at hm
            repeat (split at hm; · (obtain rfl := Option.some.inj hm; decide))
            cases hm
          omega
        · cases hs
theorem shape_empty {l : List S24} : shapeH ⟨#[]⟩ l = false := by
  unfold shapeH; rw [if_pos (.inr (.inr (by simp [ByteArray.toList_eq])))]
/-- What the document's shaped answers. -/
def ShPost (w : World) (x : S24) (e : Ending) (w' : World) : Prop :=
  ∃ A' c' ps, e = .returned (.tuple #[.slice A' ps.length c', .bool (shapedM x)]) ∧ (shapedM x = true → ps = partsM x ∧ ps.length ≤ c' ∧ Kd.C k24 w' A' ps.length ps) ∧ Below w.heap.size w w'
theorem sh_no {w w' : World} {x : S24} (h : shapedM x = false) {A : Option Addr} {n c : Nat} (hB : Below w.heap.size w w') : ShPost w x (.returned (.tuple #[.slice A n c, .bool false])) w' :=
  ⟨A, c, List.replicate n z24, by rw [h, List.length_replicate], fun h2 => absurd (h.symm.trans h2) (by simp), hB⟩
theorem sh_yes {w w' : World} {x : S24} (h : shapedM x = true) {A : Option Addr} {c n : Nat} {ps : List S24} (hp : ps = partsM x) (hn : n = ps.length) (hc : n ≤ c) (hC : Kd.C k24 w' A n ps) (hB : Below w.heap.size w w') : ShPost w x (.returned (.tuple #[.slice A n c, .bool true])) w' := by
  subst hn
  exact ⟨A, c, ps, by rw [h], fun _ => ⟨hp, hc, hC⟩, hB⟩
theorem shaped_word (m : Int) (s : ByteArray) (l : List S24) : shapedM ⟨1, m, s, l⟩ = true := by simp [shapedM]
theorem shaped_three (m : Int) (s : ByteArray) (l : List S24) : shapedM ⟨3, m, s, l⟩ = shapeH (headL l) l := by simp [shapedM, headOf]
theorem shaped_other {a : Int} (h1 : a ≠ 1) (h3 : a ≠ 3) (m : Int) (s : ByteArray) (l : List S24) : shapedM ⟨a, m, s, l⟩ = false := by
  simp only [shapedM, headOf]
  rw [if_neg h1, if_neg h3]
  exact shape_empty
theorem rWord_any (x : S24) (A : Option Addr) (c : Nat) (w : World) (hr : Kd.C k24 w A x.f3.length x.f3) (hc : x.f3.length ≤ c) :
    Calls Tryz.prog 61 #[formV x.f0 x.f1 x.f2 A x.f3.length c] w fun e w' => e = .returned (.bool (x.f0 == 1)) ∧ Below w.heap.size w w' :=
  plinthref03_isWord.calls x.f0 x.f1 x.f2 A c x.f3 _ w hr hc rfl
theorem isWord_no {a : Int} (h1 : a ≠ 1) (m : Int) (s : ByteArray) (l : List S24) (A : Option Addr) (c : Nat) (w : World) (hr : Kd.C k24 w A l.length l) (hc : l.length ≤ c) :
    Calls Tryz.prog 61 #[formV a m s A l.length c] w fun e w' => e = .returned (.bool false) ∧ Below w.heap.size w w' := by
  have h := rWord_any ⟨a, m, s, l⟩ A c w hr hc
  simp only [beq_eq_false_iff_ne.mpr h1] at h
  exact h
theorem isWord_yes (m : Int) (s : ByteArray) (l : List S24) (A : Option Addr) (c : Nat) (w : World) (hr : Kd.C k24 w A l.length l) (hc : l.length ≤ c) :
    Calls Tryz.prog 61 #[formV 1 m s A l.length c] w fun e w' => e = .returned (.bool true) ∧ Below w.heap.size w w' := rWord_any ⟨1, m, s, l⟩ A c w hr hc
theorem sh_cut {w w' : World} {x : S24} {ad : Addr} {l : List S24} {c : Nat} {b : Bool} (hb : shapedM x = b) (hp : b = true → partsM x = l.drop 1) (hr : Kd.C k24 w' (some ad) l.length l) (h2 : 2 ≤ l.length) (hc : l.length ≤ c) (hB : Below w.heap.size w w') :
    ShPost w x (.returned (.tuple #[.slice (some ⟨ad.block, ad.off + 4, none⟩) (l.length - 1) (c - 1), .bool b])) w' := by
  obtain ⟨A', c', e', hC', hc'⟩ := types_cut_drop hr h2 hc
  rw [e']
  exact ⟨A', c', l.drop 1, by rw [hb], fun h => ⟨(hp (by rw [← hb]; exact h)).symm, hc', hC'⟩, hB⟩
theorem parts_cut {m : Int} {s : ByteArray} {l : List S24} (hb : ¬ headL l = bitsB) (hf : ¬ headL l = funB) : partsM ⟨3, m, s, l⟩ = l.drop 1 := parts_drop rfl hb hf
theorem lit_facts24 {w : World} {z g : Nat} {v : Value} {p : S24} (hN : Kd.N k24 24 w z (fun k => k < z ∨ k = g) v [p]) (hat : ∃ b, v.ownBlock = some b ∧ g ≤ b) (hz : z ≤ g) :
    ∃ A c, v = .slice A 1 c ∧ Kd.F k24 w (fun k => k < z ∨ k = g) A 1 [p] ∧ g < w.heap.size := by
  obtain ⟨A, c, rfl⟩ := Kd.N_slice hN
  refine ⟨A, c, rfl, Kd.N_F hN, ?_⟩
  obtain ⟨b, hb, hle⟩ := hat
  have h1 := Kd.N_lt hN b hb
  omega
set_option maxRecDepth 100000 in
set_option maxHeartbeats 4000000 in
theorem shR_word (m : Int) (s : ByteArray) (l : List S24) (A : Option Addr) (c : Nat) (w : World) (hr : Kd.C k24 w A l.length l) (hc : l.length ≤ c) :
    Calls Tryz.prog 147 #[formV 1 m s A l.length c] w (ShPost w ⟨1, m, s, l⟩) := by
  have hu24 := Tryz.underlying24
  have hu22 := Tryz.underlying22
  have x1 := (MapKept.heap_alloc w (Obj.cells #[.int .i64 1, .int .i64 m, .string s, .slice A l.length c] 24)).1
  have b1 : Below w.heap.size w (w.alloc (Obj.cells #[.int .i64 1, .int .i64 m, .string s, .slice A l.length c] 24)) := below_alloc (Below.refl _ _) _
  have X1 : Hid _ := x1
  have B1 : Hid _ := b1
  have IW : Hid (∀ W, Below w.heap.size w W → _) := fun W h => isWord_yes m s l A c W (Kd.C_below hr h) hc
  clear x1 b1 hr hc
  go_enter Tryz.func147, Tryz.ntmps147
  go_upto_region 1 with fail
  generalize w.alloc (Obj.cells #[.int .i64 1, .int .i64 m, .string s, .slice A l.length c] 24) = X at *
  obtain ⟨p0, p1, p2, p3⟩ := cells4 X1.out
  go_wp2_with fail
  refine Calls.mono (IW.out _ B1.out) ?_
  rintro e w2 ⟨rfl, B2⟩
  have HB2 : Hid _ := below_after B1.out B2
  have x2 : Hid _ := blk_below X1.out B2
  clear p0 p1 p2 p3 B2 B1 X1
  go_wp2_with fail
  go_ret2
  exact sh_yes (ps := []) (shaped_word m s l) (by simp [partsM]) rfl (Nat.le_refl _) (Kd.C_nil _ _) HB2.out
set_option maxRecDepth 100000 in
set_option maxHeartbeats 4000000 in
theorem shR_other (a : Int) (h1 : a ≠ 1) (h3 : a ≠ 3) (m : Int) (s : ByteArray) (l : List S24) (A : Option Addr) (c : Nat) (w : World) (hr : Kd.C k24 w A l.length l) (hc : l.length ≤ c) :
    Calls Tryz.prog 147 #[formV a m s A l.length c] w (ShPost w ⟨a, m, s, l⟩) := by
  have hu24 := Tryz.underlying24
  have hu22 := Tryz.underlying22
  have x1 := (MapKept.heap_alloc w (Obj.cells #[.int .i64 a, .int .i64 m, .string s, .slice A l.length c] 24)).1
  have b1 : Below w.heap.size w (w.alloc (Obj.cells #[.int .i64 a, .int .i64 m, .string s, .slice A l.length c] 24)) := below_alloc (Below.refl _ _) _
  have X1 : Hid _ := x1
  have B1 : Hid _ := b1
  have IW : Hid (∀ W, Below w.heap.size w W → _) := fun W h => isWord_no h1 m s l A c W (Kd.C_below hr h) hc
  have t3 : (a != 3) = true := bne_iff_ne.mpr h3
  have HS : Hid _ := shaped_other h1 h3 m s l
  clear x1 b1 hr hc h1 h3
  go_enter Tryz.func147, Tryz.ntmps147
  go_upto_region 1 with fail
  generalize w.alloc (Obj.cells #[.int .i64 a, .int .i64 m, .string s, .slice A l.length c] 24) = X at *
  obtain ⟨p0, p1, p2, p3⟩ := cells4 X1.out
  go_wp2_with fail
  refine Calls.mono (IW.out _ B1.out) ?_
  rintro e w2 ⟨rfl, B2⟩
  have HB2 : Hid _ := below_after B1.out B2
  have x2 : Hid _ := blk_below X1.out B2
  clear p0 p1 p2 p3 B2 B1 X1
  obtain ⟨p0, p1, p2, p3⟩ := cells4 x2.out
  go_wp2_with fail
  go_ret2
  exact sh_no HS.out HB2.out
set_option maxRecDepth 100000 in
set_option maxHeartbeats 4000000 in
theorem shR_short (m : Int) (s : ByteArray) (l : List S24) (A : Option Addr) (c : Nat) (w : World) (hr : Kd.C k24 w A l.length l) (hc : l.length ≤ c) (hl : l.length < 2) :
    Calls Tryz.prog 147 #[formV 3 m s A l.length c] w (ShPost w ⟨3, m, s, l⟩) := by
  have hu24 := Tryz.underlying24
  have hu22 := Tryz.underlying22
  have x1 := (MapKept.heap_alloc w (Obj.cells #[.int .i64 3, .int .i64 m, .string s, .slice A l.length c] 24)).1
  have b1 : Below w.heap.size w (w.alloc (Obj.cells #[.int .i64 3, .int .i64 m, .string s, .slice A l.length c] 24)) := below_alloc (Below.refl _ _) _
  have X1 : Hid _ := x1
  have B1 : Hid _ := b1
  have IW : Hid (∀ W, Below w.heap.size w W → _) := fun W h => isWord_no (show (3 : Int) ≠ 1 by decide) m s l A c W (Kd.C_below hr h) hc
  have HS : Hid (shapedM ⟨3, m, s, l⟩ = false) := by show _ = _; rw [shaped_three]; exact shape_short hl
  have t2 : decide ((l.length : Int) < 2) = true := decide_eq_true (by omega)
  clear x1 b1 hr hc hl
  go_enter Tryz.func147, Tryz.ntmps147
  go_upto_region 1 with fail
  generalize w.alloc (Obj.cells #[.int .i64 3, .int .i64 m, .string s, .slice A l.length c] 24) = X at *
  obtain ⟨p0, p1, p2, p3⟩ := cells4 X1.out
  go_wp2_with fail
  refine Calls.mono (IW.out _ B1.out) ?_
  rintro e w2 ⟨rfl, B2⟩
  have HB2 : Hid _ := below_after B1.out B2
  have x2 : Hid _ := blk_below X1.out B2
  clear p0 p1 p2 p3 B2 B1 X1
  obtain ⟨p0, p1, p2, p3⟩ := cells4 x2.out
  go_wp2_with fail
  go_ret2
  exact sh_no HS.out HB2.out
set_option maxRecDepth 100000 in
set_option maxHeartbeats 4000000 in
theorem shR_bare (m : Int) (s : ByteArray) (k0 : S24) (r : List S24) (A : Option Addr) (c : Nat) (w : World) (hr : Kd.C k24 w A (k0 :: r).length (k0 :: r)) (hc : (k0 :: r).length ≤ c) (hl : 2 ≤ (k0 :: r).length) (hk : k0.f0 ≠ 1) :
    Calls Tryz.prog 147 #[formV 3 m s A (k0 :: r).length c] w (ShPost w ⟨3, m, s, k0 :: r⟩) := by
  obtain ⟨l, hll⟩ : ∃ l, l = k0 :: r := ⟨_, rfl⟩
  obtain ⟨ad, A0, c0, rfl, _⟩ := first_at hr (by simp)
  have HS : Hid (shapedM ⟨3, m, s, k0 :: r⟩ = false) := by show _ = _; rw [shaped_three, show headL (k0 :: r) = ⟨#[]⟩ from by simp [headL, hk]]; exact shape_empty
  have HX : Hid (∀ W, Below w.heap.size w W → _) := fun W h => first_at (Kd.C_below hr h) (by simp)
  rw [← hll] at hr hc hl HS ⊢
  have HLL : Hid _ := hll
  clear hll
  have hu24 := Tryz.underlying24
  have hu22 := Tryz.underlying22
  have x1 := (MapKept.heap_alloc w (Obj.cells #[.int .i64 3, .int .i64 m, .string s, .slice (some ad) l.length c] 24)).1
  have b1 : Below w.heap.size w (w.alloc (Obj.cells #[.int .i64 3, .int .i64 m, .string s, .slice (some ad) l.length c] 24)) := below_alloc (Below.refl _ _) _
  have X1 : Hid _ := x1
  have B1 : Hid _ := b1
  have IW : Hid (∀ W, Below w.heap.size w W → _) := fun W h => isWord_no (show (3 : Int) ≠ 1 by decide) m s l (some ad) c W (Kd.C_below hr h) hc
  have t2 : decide ((l.length : Int) < 2) = false := decide_eq_false (by omega)
  have l0 : 0 < l.length := by omega
  clear x1 b1 hr hc hl
  go_enter Tryz.func147, Tryz.ntmps147
  go_upto_region 1 with fail
  generalize w.alloc (Obj.cells #[.int .i64 3, .int .i64 m, .string s, .slice (some ad) l.length c] 24) = X at *
  obtain ⟨p0, p1, p2, p3⟩ := cells4 X1.out
  go_wp2_with fail
  refine Calls.mono (IW.out _ B1.out) ?_
  rintro e w2 ⟨rfl, B2⟩
  have HB2 : Hid _ := below_after B1.out B2
  have x2 : Hid _ := blk_below X1.out B2
  clear p0 p1 p2 p3 B2 B1 X1
  obtain ⟨p0, p1, p2, p3⟩ := cells4 x2.out
  obtain ⟨ad9, A0, c0, e9, g0, g1, g2, g3, g4, g5⟩ := HX.out _ HB2.out
  obtain rfl := Option.some.inj e9
  have I0 : Hid _ := isWord_no hk k0.f1 k0.f2 k0.f3 A0 c0 w2 g5 g4
  clear e9 g4 g5
  go_wp2_with fail
  refine Calls.mono I0.out ?_
  rintro e w3 ⟨rfl, B3⟩
  have HB3 : Hid _ := below_after HB2.out B3
  have x3 : Hid _ := blk_below x2.out B3
  clear p0 p1 p2 p3 B3 g0 g1 g2 g3 x2 I0
  go_wp2_with fail
  go_ret2
  exact sh_no HS.out HB3.out

end Go.Proofs.YtcjmplpfebpfpaaGreatDoor

namespace Go.Proofs.YtcjmplpfebpfpaaGreatDoor
open Go.RowKit Go.Proofs Go.Proofs.YtcjmplpfebpfpaaGreatDoorW.PrintWords Go.Proofs.YtcjmplpfebpfpaaGreatDoorW.PrintLast Go.Proofs.YtcjmplpfebpfpaaGreatDoorW.PrintMore PKindInstances
set_option linter.unusedVariables false
set_option linter.unusedSimpArgs false

set_option maxRecDepth 100000 in
set_option maxHeartbeats 32000000 in
theorem shR_list (m : Int) (s : ByteArray) (k0 : S24) (r : List S24) (A : Option Addr) (c : Nat) (w : World) (hr : Kd.C k24 w A (k0 :: r).length (k0 :: r)) (hc : (k0 :: r).length ≤ c) (hl : 2 ≤ (k0 :: r).length) (hw : wids (k0 :: r) < 9000000) (hk : k0.f0 = 1) (hne : ¬ k0.f2.toList = []) :
    Calls Tryz.prog 147 #[formV 3 m s A (k0 :: r).length c] w (ShPost w ⟨3, m, s, k0 :: r⟩) := by
  obtain ⟨l, hll⟩ : ∃ l, l = k0 :: r := ⟨_, rfl⟩
  obtain ⟨ad, A0, c0, rfl, _⟩ := first_at hr (by simp)
  obtain ⟨h, hh⟩ : ∃ h, h = k0.f2 := ⟨_, rfl⟩
  have HS : Hid (shapedM ⟨3, m, s, k0 :: r⟩ = shapeH h (k0 :: r)) := by show _ = _; rw [shaped_three, show headL (k0 :: r) = h from by simp [headL, hk, hh]]
  have HH : Hid (headL (k0 :: r) = h) := by show _ = _; simp [headL, hk, hh]
  have HX : Hid (∀ W, Below w.heap.size w W → _) := fun W h => first_at (Kd.C_below hr h) (by simp)
  rw [← hll] at hr hc hl HS HH hw ⊢
  have HLL : Hid _ := hll
  clear hll
  have hu24 := Tryz.underlying24
  have hu22 := Tryz.underlying22
  have x1 := (MapKept.heap_alloc w (Obj.cells #[.int .i64 3, .int .i64 m, .string s, .slice (some ad) l.length c] 24)).1
  have b1 : Below w.heap.size w (w.alloc (Obj.cells #[.int .i64 3, .int .i64 m, .string s, .slice (some ad) l.length c] 24)) := below_alloc (Below.refl _ _) _
  have X1 : Hid _ := x1
  have B1 : Hid _ := b1
  have IW : Hid (∀ W, Below w.heap.size w W → _) := fun W h => isWord_no (show (3 : Int) ≠ 1 by decide) m s l (some ad) c W (Kd.C_below hr h) hc
  have t2 : decide ((l.length : Int) < 2) = false := decide_eq_false (by omega)
  have l0 : 0 < l.length := by omega
  rw [← hh] at hne
  have HH9 : Hid _ := hh
  clear hh
  have HR : Hid _ := hr
  have HC : Hid _ := hc
  have L2 : Hid _ := hl
  have HW : Hid _ := hw
  clear x1 b1 hr hc hl hw
  go_enter Tryz.func147, Tryz.ntmps147
  go_upto_region 1 with fail
  generalize w.alloc (Obj.cells #[.int .i64 3, .int .i64 m, .string s, .slice (some ad) l.length c] 24) = X at *
  obtain ⟨p0, p1, p2, p3⟩ := cells4 X1.out
  go_wp2_with fail
  refine Calls.mono (IW.out _ B1.out) ?_
  rintro e w2 ⟨rfl, B2⟩
  have HB2 : Hid _ := below_after B1.out B2
  have x2 : Hid _ := blk_below X1.out B2
  clear p0 p1 p2 p3 B2 B1 X1
  obtain ⟨p0, p1, p2, p3⟩ := cells4 x2.out
  obtain ⟨ad9, A0, c0, e9, g0, g1, g2, g3, g4, g5⟩ := HX.out _ HB2.out
  obtain rfl := Option.some.inj e9
  have I0 : Hid _ := isWord_yes k0.f1 k0.f2 k0.f3 A0 c0 w2 g5 g4
  rw [hk] at g0
  clear e9 g4 g5
  go_wp2_with fail
  refine Calls.mono I0.out ?_
  rintro e w3 ⟨rfl, B3⟩
  have HB3 : Hid _ := below_after HB2.out B3
  have x3 : Hid _ := blk_below x2.out B3
  clear p0 p1 p2 p3 B3 g0 g1 g2 g3 x2 I0
  obtain ⟨p0, p1, p2, p3⟩ := cells4 x3.out
  obtain ⟨ad9, A0, c0, e9, g0, g1, g2, g3, g4, g5⟩ := HX.out _ HB3.out
  obtain rfl := Option.some.inj e9
  rw [← HH9.out] at g2
  clear e9 g4 g5 g0 g1 g3 hk HX
  go_upto_region 7 with fail
  clear g2 HH9 HLL
  have h1c : 1 ≤ c := by have := HC.out; have := L2.out; omega
  have hc1 : ¬ c = 1 := by have := HC.out; have := L2.out; omega
  by_cases h_int : h = intB
  · subst h_int
    unfold intB at *
    have HSV : Hid (shapedM ⟨3, m, s, l⟩ = false) := by show _ = _; rw [HS.out]; unfold shapeH; rw [if_pos (by simp [ByteArray.toList_eq])]
    go_wp2_with fail
    go_ret2
    exact sh_no HSV.out HB3.out
  have t_int : (h.toList == [105, 110, 116]) = false := byt_ne (by simp [ByteArray.toList_eq, intB]) h_int
  have N_int : Hid (¬ h = intB) := h_int
  clear h_int
  by_cases h_bool : h = boolB
  · subst h_bool
    unfold boolB at *
    have HSV : Hid (shapedM ⟨3, m, s, l⟩ = false) := by show _ = _; rw [HS.out]; unfold shapeH; rw [if_pos (by simp [ByteArray.toList_eq])]
    go_wp2_with fail
    go_ret2
    exact sh_no HSV.out HB3.out
  have t_bool : (h.toList == [98, 111, 111, 108]) = false := byt_ne (by simp [ByteArray.toList_eq, boolB]) h_bool
  have N_bool : Hid (¬ h = boolB) := h_bool
  clear h_bool
  by_cases h_bits : h = bitsB
  · subst h_bits
    unfold bitsB at *
    by_cases hlen : l.length = 2
    · have l1 : ((l.length : Int) == 2) = true := beq_iff_eq.mpr (by omega)
      obtain ⟨k1, hk1⟩ : ∃ y, l[1]? = some y := ⟨l[1]'(by have := L2.out; omega), List.getElem?_eq_getElem _⟩
      obtain ⟨ad9, A1, c1, e9, g0, g1, g2, g3, g4, g5⟩ := row_at (Kd.C_below HR.out HB3.out) (i := 1) (by have := L2.out; omega) hk1
      obtain rfl := Option.some.inj e9
      have g0 : w3.cell? ⟨ad.block, ad.off + 4, none⟩ = some (.int .i64 k1.f0) := g0
      have g1 : w3.cell? ⟨ad.block, ad.off + 4 + 1, none⟩ = some (.int .i64 k1.f1) := g1
      have g2 : w3.cell? ⟨ad.block, ad.off + 4 + 2, none⟩ = some (.string k1.f2) := g2
      have g3 : w3.cell? ⟨ad.block, ad.off + 4 + 3, none⟩ = some (.slice A1 k1.f3.length c1) := g3
      have hka : kindAt l 1 = k1.f0 := by unfold kindAt; rw [hk1]; rfl
      have l2 : 1 < l.length := by have := L2.out; omega
      clear e9
      have HSV : Hid (shapedM ⟨3, m, s, l⟩ = (k1.f0 == 0)) := by show _ = _; rw [HS.out, shapeH_yes (l := l) (m := 1) (by simp [manyM, intB, boolB, bitsB, maybeB, funB, imapB, seqB, setB, bagB, mapB]) (by simp [ByteArray.toList_eq])  (by omega), ← hka]; simp [intB, boolB, bitsB, maybeB, funB, imapB, seqB, setB, bagB, mapB]
      clear hlen hka hk1 g4 g5 g1 g2 g3
      obtain ⟨y0, y1, y2, y3⟩ := k1
      simp only [] at g0 HSV
      by_cases hy : y0 = 0
      · have t1 : (y0 == 0) = true := beq_iff_eq.mpr hy
        have HT : Hid _ := t1
        clear hy
        go_wp2_with fail
        go_quiet (fail)
        go_wp2_with fail
        go_ret2
        exact sh_yes (ps := []) (by rw [HSV.out, HT.out]) (by unfold partsM; rw [if_pos rfl, if_pos (by rw [HH.out]; rfl)]) rfl (Nat.le_refl _) (Kd.C_nil _ _) (by have h9 := HB3.out; first | exact h9 | exact below_after h9 (by repeat (first | exact Below.refl _ _ | apply pw_below_drewN | apply below_drew1)))
      · have t1 : (y0 == 0) = false := beq_eq_false_iff_ne.mpr hy
        have HT : Hid _ := t1
        clear hy
        go_wp2_with fail
        go_quiet (fail)
        go_wp2_with fail
        go_ret2
        exact sh_no (by rw [HSV.out, HT.out]) (by have h9 := HB3.out; first | exact h9 | exact below_after h9 (by repeat (first | exact Below.refl _ _ | apply pw_below_drewN | apply below_drew1)))
    · have l1 : ((l.length : Int) == 2) = false := beq_eq_false_iff_ne.mpr (by omega)
      have HSV : Hid (shapedM ⟨3, m, s, l⟩ = false) := by show _ = _; rw [HS.out, shapeH_no (l := l) (m := 1) (by simp [manyM, intB, boolB, bitsB, maybeB, funB, imapB, seqB, setB, bagB, mapB])  (fun e => hlen (by omega))]
      clear hlen
      go_wp2_with fail
      go_quiet (fail)
      go_wp2_with fail
      go_ret2
      exact sh_no HSV.out (by have h9 := HB3.out; first | exact h9 | exact below_after h9 (by repeat (first | exact Below.refl _ _ | apply pw_below_drewN | apply below_drew1)))
  have t_bits : (h.toList == [98, 105, 116, 115]) = false := byt_ne (by simp [ByteArray.toList_eq, bitsB]) h_bits
  have N_bits : Hid (¬ h = bitsB) := h_bits
  clear h_bits
  by_cases h_seq : h = seqB
  · subst h_seq
    unfold seqB at *
    by_cases hlen : l.length = 2
    · have l1 : ((l.length : Int) == 2) = true := beq_iff_eq.mpr (by omega)
      have HSV : Hid (shapedM ⟨3, m, s, l⟩ = true) := by show _ = _; rw [HS.out, shapeH_yes (l := l) (m := 1) (by simp [manyM, intB, boolB, bitsB, maybeB, funB, imapB, seqB, setB, bagB, mapB]) (by simp [ByteArray.toList_eq])  (by omega)]; simp [intB, boolB, bitsB, maybeB, funB, imapB, seqB, setB, bagB, mapB]
      clear hlen
      go_wp2_with fail
      go_ret2
      exact sh_cut HSV.out (fun _ => parts_cut (by rw [HH.out]; simp [intB, boolB, bitsB, maybeB, funB, imapB, seqB, setB, bagB, mapB]) (by rw [HH.out]; simp [intB, boolB, bitsB, maybeB, funB, imapB, seqB, setB, bagB, mapB])) (Kd.C_below HR.out HB3.out) L2.out HC.out HB3.out
    · have l1 : ((l.length : Int) == 2) = false := beq_eq_false_iff_ne.mpr (by omega)
      have HSV : Hid (shapedM ⟨3, m, s, l⟩ = false) := by show _ = _; rw [HS.out, shapeH_no (l := l) (m := 1) (by simp [manyM, intB, boolB, bitsB, maybeB, funB, imapB, seqB, setB, bagB, mapB])  (fun e => hlen (by omega))]
      clear hlen
      go_wp2_with fail
      go_ret2
      exact sh_cut HSV.out (fun h => absurd h (by simp)) (Kd.C_below HR.out HB3.out) L2.out HC.out HB3.out
  have t_seq : (h.toList == [115, 101, 113]) = false := byt_ne (by simp [ByteArray.toList_eq, seqB]) h_seq
  have N_seq : Hid (¬ h = seqB) := h_seq
  clear h_seq
  by_cases h_set : h = setB
  · subst h_set
    unfold setB at *
    by_cases hlen : l.length = 2
    · have l1 : ((l.length : Int) == 2) = true := beq_iff_eq.mpr (by omega)
      have HSV : Hid (shapedM ⟨3, m, s, l⟩ = true) := by show _ = _; rw [HS.out, shapeH_yes (l := l) (m := 1) (by simp [manyM, intB, boolB, bitsB, maybeB, funB, imapB, seqB, setB, bagB, mapB]) (by simp [ByteArray.toList_eq])  (by omega)]; simp [intB, boolB, bitsB, maybeB, funB, imapB, seqB, setB, bagB, mapB]
      clear hlen
      go_wp2_with fail
      go_ret2
      exact sh_cut HSV.out (fun _ => parts_cut (by rw [HH.out]; simp [intB, boolB, bitsB, maybeB, funB, imapB, seqB, setB, bagB, mapB]) (by rw [HH.out]; simp [intB, boolB, bitsB, maybeB, funB, imapB, seqB, setB, bagB, mapB])) (Kd.C_below HR.out HB3.out) L2.out HC.out HB3.out
    · have l1 : ((l.length : Int) == 2) = false := beq_eq_false_iff_ne.mpr (by omega)
      have HSV : Hid (shapedM ⟨3, m, s, l⟩ = false) := by show _ = _; rw [HS.out, shapeH_no (l := l) (m := 1) (by simp [manyM, intB, boolB, bitsB, maybeB, funB, imapB, seqB, setB, bagB, mapB])  (fun e => hlen (by omega))]
      clear hlen
      go_wp2_with fail
      go_ret2
      exact sh_cut HSV.out (fun h => absurd h (by simp)) (Kd.C_below HR.out HB3.out) L2.out HC.out HB3.out
  have t_set : (h.toList == [115, 101, 116]) = false := byt_ne (by simp [ByteArray.toList_eq, setB]) h_set
  have N_set : Hid (¬ h = setB) := h_set
  clear h_set
  by_cases h_bag : h = bagB
  · subst h_bag
    unfold bagB at *
    by_cases hlen : l.length = 2
    · have l1 : ((l.length : Int) == 2) = true := beq_iff_eq.mpr (by omega)
      have HSV : Hid (shapedM ⟨3, m, s, l⟩ = true) := by show _ = _; rw [HS.out, shapeH_yes (l := l) (m := 1) (by simp [manyM, intB, boolB, bitsB, maybeB, funB, imapB, seqB, setB, bagB, mapB]) (by simp [ByteArray.toList_eq])  (by omega)]; simp [intB, boolB, bitsB, maybeB, funB, imapB, seqB, setB, bagB, mapB]
      clear hlen
      go_wp2_with fail
      go_ret2
      exact sh_cut HSV.out (fun _ => parts_cut (by rw [HH.out]; simp [intB, boolB, bitsB, maybeB, funB, imapB, seqB, setB, bagB, mapB]) (by rw [HH.out]; simp [intB, boolB, bitsB, maybeB, funB, imapB, seqB, setB, bagB, mapB])) (Kd.C_below HR.out HB3.out) L2.out HC.out HB3.out
    · have l1 : ((l.length : Int) == 2) = false := beq_eq_false_iff_ne.mpr (by omega)
      have HSV : Hid (shapedM ⟨3, m, s, l⟩ = false) := by show _ = _; rw [HS.out, shapeH_no (l := l) (m := 1) (by simp [manyM, intB, boolB, bitsB, maybeB, funB, imapB, seqB, setB, bagB, mapB])  (fun e => hlen (by omega))]
      clear hlen
      go_wp2_with fail
      go_ret2
      exact sh_cut HSV.out (fun h => absurd h (by simp)) (Kd.C_below HR.out HB3.out) L2.out HC.out HB3.out
  have t_bag : (h.toList == [98, 97, 103]) = false := byt_ne (by simp [ByteArray.toList_eq, bagB]) h_bag
  have N_bag : Hid (¬ h = bagB) := h_bag
  clear h_bag
  by_cases h_maybe : h = maybeB
  · subst h_maybe
    unfold maybeB at *
    obtain ⟨k1, hk1⟩ : ∃ y, l[1]? = some y := ⟨l[1]'(by have := L2.out; omega), List.getElem?_eq_getElem _⟩
    obtain ⟨ad9, A1, c1, e9, g0, g1, g2, g3, g4, g5⟩ := row_at (Kd.C_below HR.out HB3.out) (i := 1) (by have := L2.out; omega) hk1
    obtain rfl := Option.some.inj e9
    have g0 : w3.cell? ⟨ad.block, ad.off + 4, none⟩ = some (.int .i64 k1.f0) := g0
    have g1 : w3.cell? ⟨ad.block, ad.off + 4 + 1, none⟩ = some (.int .i64 k1.f1) := g1
    have g2 : w3.cell? ⟨ad.block, ad.off + 4 + 2, none⟩ = some (.string k1.f2) := g2
    have g3 : w3.cell? ⟨ad.block, ad.off + 4 + 3, none⟩ = some (.slice A1 k1.f3.length c1) := g3
    have hka : kindAt l 1 = k1.f0 := by unfold kindAt; rw [hk1]; rfl
    have l2 : 1 < l.length := by have := L2.out; omega
    clear e9
    have X3 : Hid (∀ W, Below w3.heap.size w3 W → W.cell? ⟨w.heap.size, 3, none⟩ = some (.slice (some ad) l.length c) ∧ W.cell? ⟨ad.block, ad.off + 4, none⟩ = some (.int .i64 k1.f0) ∧ W.cell? ⟨ad.block, ad.off + 4 + 1, none⟩ = some (.int .i64 k1.f1) ∧ W.cell? ⟨ad.block, ad.off + 4 + 2, none⟩ = some (.string k1.f2) ∧ W.cell? ⟨ad.block, ad.off + 4 + 3, none⟩ = some (.slice A1 k1.f3.length c1)) := fun W h => by
      obtain ⟨p0, p1, p2, p3⟩ := cells4 (blk_below x3.out h)
      exact ⟨p3, pw_cell_below h g0, pw_cell_below h g1, pw_cell_below h g2, pw_cell_below h g3⟩
    have h1c : 1 ≤ c := by have := HC.out; omega
    have hc1 : ¬ c = 1 := by have := HC.out; omega
    by_cases hlen : l.length = 2
    · have l1 : ((l.length : Int) == 2) = true := beq_iff_eq.mpr (by omega)
      have I1 : Hid (∀ W, Below w3.heap.size w3 W → _) := fun W h => rWord_any k1 A1 c1 W (Kd.C_below g5 h) g4
      obtain ⟨q, hq⟩ : ∃ q, q = (k1.f0 == 1) := ⟨_, rfl⟩
      rw [← hq] at I1
      have HSV : Hid (shapedM ⟨3, m, s, l⟩ = q) := by show _ = _; rw [HS.out, shapeH_yes (l := l) (m := 1) (by simp [manyM, intB, boolB, bitsB, maybeB, funB, imapB, seqB, setB, bagB, mapB]) (by simp [ByteArray.toList_eq])  (by omega), hq, ← hka]; simp [intB, boolB, bitsB, maybeB, funB, imapB, seqB, setB, bagB, mapB]
      clear hlen hka hk1 g4 g5 g0 g1 g2 g3 hq
      go_upto_region 17 with fail
      refine wp_region_held_drew (S := fun W => W.cell? ⟨w.heap.size, 3, none⟩ = some (.slice (some ad) l.length c) ∧ W.cell? ⟨ad.block, ad.off + 4, none⟩ = some (.int .i64 k1.f0) ∧ W.cell? ⟨ad.block, ad.off + 4 + 1, none⟩ = some (.int .i64 k1.f1) ∧ W.cell? ⟨ad.block, ad.off + 4 + 2, none⟩ = some (.string k1.f2) ∧ W.cell? ⟨ad.block, ad.off + 4 + 3, none⟩ = some (.slice A1 k1.f3.length c1)) (by kernel_rfl) (X3.out _ (below_drew (Below.refl _ _))) (fun hHeld => ?_)
      refine takeV 0 (some 56) (.pointer (some ⟨w.heap.size, 3, none⟩)) rfl rfl (by kernel_rfl) (by kernel_rfl) (by kernel_rfl) (fun _ _ _ h => h) (Or.inl ⟨by kernel_rfl, fun W hSw => by obtain ⟨s0, s1, s2, s3, s4⟩ := hSw; go_simp⟩) hHeld ?_
      try simp only [Act.put, List.setIfInBounds_toArray, List.set_cons_zero, List.set_cons_succ]
      refine takeV 1 (some 57) (.slice (some ad) l.length c) rfl rfl (by kernel_rfl) (by kernel_rfl) (by kernel_rfl) (fun _ _ _ h => h) (Or.inl ⟨by kernel_rfl, fun W hSw => by obtain ⟨s0, s1, s2, s3, s4⟩ := hSw; go_simp⟩) hHeld ?_
      try simp only [Act.put, List.setIfInBounds_toArray, List.set_cons_zero, List.set_cons_succ]
      refine takeV 2 (some 58) (.slice (some ⟨ad.block, ad.off + 4, none⟩) (l.length - 1) (c - 1)) rfl rfl (by kernel_rfl) (by kernel_rfl) (by kernel_rfl) (fun _ _ _ h => h) (Or.inl ⟨by kernel_rfl, fun W hSw => by obtain ⟨s0, s1, s2, s3, s4⟩ := hSw; go_simp; first | done | (intro h9; exact absurd h9 (by omega))⟩) hHeld ?_
      try simp only [Act.put, List.setIfInBounds_toArray, List.set_cons_zero, List.set_cons_succ]
      refine takeV 3 (some 59) (.int .i64 (l.length : Int)) rfl rfl (by kernel_rfl) (by kernel_rfl) (by kernel_rfl) (fun _ _ _ h => h) (Or.inl ⟨by kernel_rfl, fun W hSw => by obtain ⟨s0, s1, s2, s3, s4⟩ := hSw; go_simp⟩) hHeld ?_
      try simp only [Act.put, List.setIfInBounds_toArray, List.set_cons_zero, List.set_cons_succ]
      refine takeV 4 (some 60) (.bool true) rfl rfl (by kernel_rfl) (by kernel_rfl) (by kernel_rfl) (fun _ _ _ h => h) (Or.inl ⟨by kernel_rfl, fun W hSw => by obtain ⟨s0, s1, s2, s3, s4⟩ := hSw; go_simp⟩) hHeld ?_
      try simp only [Act.put, List.setIfInBounds_toArray, List.set_cons_zero, List.set_cons_succ]
      refine takeV 5 (some 61) (.bool true) rfl rfl (by kernel_rfl) (by kernel_rfl) (by kernel_rfl) (fun _ _ _ h => h) (Or.inl ⟨by kernel_rfl, fun W hSw => by obtain ⟨s0, s1, s2, s3, s4⟩ := hSw; go_simp⟩) hHeld ?_
      try simp only [Act.put, List.setIfInBounds_toArray, List.set_cons_zero, List.set_cons_succ]
      refine takeV 6 (some 62) (.pointer (some ⟨w.heap.size, 3, none⟩)) rfl rfl (by kernel_rfl) (by kernel_rfl) (by kernel_rfl) (fun _ _ _ h => h) (Or.inl ⟨by kernel_rfl, fun W hSw => by obtain ⟨s0, s1, s2, s3, s4⟩ := hSw; go_simp⟩) hHeld ?_
      try simp only [Act.put, List.setIfInBounds_toArray, List.set_cons_zero, List.set_cons_succ]
      refine takeV 7 (some 63) (.slice (some ad) l.length c) rfl rfl (by kernel_rfl) (by kernel_rfl) (by kernel_rfl) (fun _ _ _ h => h) (Or.inl ⟨by kernel_rfl, fun W hSw => by obtain ⟨s0, s1, s2, s3, s4⟩ := hSw; go_simp⟩) hHeld ?_
      try simp only [Act.put, List.setIfInBounds_toArray, List.set_cons_zero, List.set_cons_succ]
      refine takeV 8 (some 64) (.pointer (some ⟨ad.block, ad.off + 4, none⟩)) rfl rfl (by kernel_rfl) (by kernel_rfl) (by kernel_rfl) (fun _ _ _ h => h) (Or.inl ⟨by kernel_rfl, fun W hSw => by obtain ⟨s0, s1, s2, s3, s4⟩ := hSw; go_simp; first | done | (intro h9; exact absurd h9 (by omega))⟩) hHeld ?_
      try simp only [Act.put, List.setIfInBounds_toArray, List.set_cons_zero, List.set_cons_succ]
      refine takeV 9 (some 65) (formV k1.f0 k1.f1 k1.f2 A1 k1.f3.length c1) rfl rfl (by kernel_rfl) (by kernel_rfl) (by kernel_rfl) (fun _ _ _ h => h) (Or.inl ⟨by kernel_rfl, fun W hSw => by obtain ⟨s0, s1, s2, s3, s4⟩ := hSw; go_simp⟩) hHeld ?_
      try simp only [Act.put, List.setIfInBounds_toArray, List.set_cons_zero, List.set_cons_succ]
      generalize hZ' : w3.drew = W0
      have H0 : Hid (Below w3.heap.size w3 W0) := (by subst hZ'; exact below_drew (Below.refl _ _))
      clear hZ'
      refine wpAnyH_ready (rs := [10]) (by kernel_rfl) (by simp) ?_
      refine AllReadyH.cons rfl (fun K hK => ?_) AllReadyH.nil
      clear hHeld
      go_simp
      go_at_call 61
      refine Calls.mono (I1.out _ H0.out) ?_
      rintro e W1 ⟨rfl, B7⟩
      have H1 : Hid (Below w3.heap.size w3 W1) := below_after H0.out B7
      clear B7
      go_wp2_with fail
      refine hK.out _ _ (X3.out _ H1.out) (fun hHeld => ?_)
      clear hK K
      try simp only [Act.put, List.setIfInBounds_toArray, List.set_cons_zero, List.set_cons_succ]
      refine takeV 11 (some 67) (.bool q) rfl rfl (by kernel_rfl) (by kernel_rfl) (by kernel_rfl) (fun _ _ _ h => h) (Or.inl ⟨by kernel_rfl, fun W hSw => by obtain ⟨s0, s1, s2, s3, s4⟩ := hSw; go_simp⟩) hHeld ?_
      try simp only [Act.put, List.setIfInBounds_toArray, List.set_cons_zero, List.set_cons_succ]
      refine takeV 12 (some 2) (.slice (some ⟨ad.block, ad.off + 4, none⟩) (l.length - 1) (c - 1)) rfl rfl (by kernel_rfl) (by kernel_rfl) (by kernel_rfl) (fun _ _ _ h => h) (Or.inl ⟨by kernel_rfl, fun W hSw => by obtain ⟨s0, s1, s2, s3, s4⟩ := hSw; go_simp⟩) hHeld ?_
      try simp only [Act.put, List.setIfInBounds_toArray, List.set_cons_zero, List.set_cons_succ]
      refine takeV 13 (some 3) (.bool q) rfl rfl (by kernel_rfl) (by kernel_rfl) (by kernel_rfl) (fun _ _ _ h => h) (Or.inl ⟨by kernel_rfl, fun W hSw => by obtain ⟨s0, s1, s2, s3, s4⟩ := hSw; go_simp⟩) hHeld ?_
      try simp only [Act.put, List.setIfInBounds_toArray, List.set_cons_zero, List.set_cons_succ]
      refine wpAnyH_done (by kernel_rfl) ?_ _
      go_wp2_with fail
      go_ret2
      exact sh_cut HSV.out (fun _ => parts_cut (by rw [HH.out]; simp [intB, boolB, bitsB, maybeB, funB, imapB, seqB, setB, bagB, mapB]) (by rw [HH.out]; simp [intB, boolB, bitsB, maybeB, funB, imapB, seqB, setB, bagB, mapB])) (Kd.C_below HR.out (below_after HB3.out H1.out)) L2.out HC.out (below_after HB3.out H1.out)
    · have l1 : ((l.length : Int) == 2) = false := beq_eq_false_iff_ne.mpr (by omega)
      have HSV : Hid (shapedM ⟨3, m, s, l⟩ = false) := by show _ = _; rw [HS.out, shapeH_no (l := l) (m := 1) (by simp [manyM, intB, boolB, bitsB, maybeB, funB, imapB, seqB, setB, bagB, mapB])  (fun e => hlen (by omega))]
      clear hlen hka hk1 g4 g5 g0 g1 g2 g3
      go_upto_region 17 with fail
      refine wp_region_held_drew (S := fun W => W.cell? ⟨w.heap.size, 3, none⟩ = some (.slice (some ad) l.length c) ∧ W.cell? ⟨ad.block, ad.off + 4, none⟩ = some (.int .i64 k1.f0) ∧ W.cell? ⟨ad.block, ad.off + 4 + 1, none⟩ = some (.int .i64 k1.f1) ∧ W.cell? ⟨ad.block, ad.off + 4 + 2, none⟩ = some (.string k1.f2) ∧ W.cell? ⟨ad.block, ad.off + 4 + 3, none⟩ = some (.slice A1 k1.f3.length c1)) (by kernel_rfl) (X3.out _ (below_drew (Below.refl _ _))) (fun hHeld => ?_)
      refine takeV 0 (some 56) (.pointer (some ⟨w.heap.size, 3, none⟩)) rfl rfl (by kernel_rfl) (by kernel_rfl) (by kernel_rfl) (fun _ _ _ h => h) (Or.inl ⟨by kernel_rfl, fun W hSw => by obtain ⟨s0, s1, s2, s3, s4⟩ := hSw; go_simp⟩) hHeld ?_
      try simp only [Act.put, List.setIfInBounds_toArray, List.set_cons_zero, List.set_cons_succ]
      refine takeV 1 (some 57) (.slice (some ad) l.length c) rfl rfl (by kernel_rfl) (by kernel_rfl) (by kernel_rfl) (fun _ _ _ h => h) (Or.inl ⟨by kernel_rfl, fun W hSw => by obtain ⟨s0, s1, s2, s3, s4⟩ := hSw; go_simp⟩) hHeld ?_
      try simp only [Act.put, List.setIfInBounds_toArray, List.set_cons_zero, List.set_cons_succ]
      refine takeV 2 (some 58) (.slice (some ⟨ad.block, ad.off + 4, none⟩) (l.length - 1) (c - 1)) rfl rfl (by kernel_rfl) (by kernel_rfl) (by kernel_rfl) (fun _ _ _ h => h) (Or.inl ⟨by kernel_rfl, fun W hSw => by obtain ⟨s0, s1, s2, s3, s4⟩ := hSw; go_simp; first | done | (intro h9; exact absurd h9 (by omega))⟩) hHeld ?_
      try simp only [Act.put, List.setIfInBounds_toArray, List.set_cons_zero, List.set_cons_succ]
      refine takeV 3 (some 59) (.int .i64 (l.length : Int)) rfl rfl (by kernel_rfl) (by kernel_rfl) (by kernel_rfl) (fun _ _ _ h => h) (Or.inl ⟨by kernel_rfl, fun W hSw => by obtain ⟨s0, s1, s2, s3, s4⟩ := hSw; go_simp⟩) hHeld ?_
      try simp only [Act.put, List.setIfInBounds_toArray, List.set_cons_zero, List.set_cons_succ]
      refine takeV 4 (some 60) (.bool false) rfl rfl (by kernel_rfl) (by kernel_rfl) (by kernel_rfl) (fun _ _ _ h => h) (Or.inl ⟨by kernel_rfl, fun W hSw => by obtain ⟨s0, s1, s2, s3, s4⟩ := hSw; go_simp⟩) hHeld ?_
      try simp only [Act.put, List.setIfInBounds_toArray, List.set_cons_zero, List.set_cons_succ]
      refine takeV 5 (some 61) (.bool false) rfl rfl (by kernel_rfl) (by kernel_rfl) (by kernel_rfl) (fun _ _ _ h => h) (Or.inl ⟨by kernel_rfl, fun W hSw => by obtain ⟨s0, s1, s2, s3, s4⟩ := hSw; go_simp⟩) hHeld ?_
      try simp only [Act.put, List.setIfInBounds_toArray, List.set_cons_zero, List.set_cons_succ]
      refine takeV 6 (some 62) undef rfl rfl (by kernel_rfl) (by kernel_rfl) (by kernel_rfl) (fun _ _ _ h => h) (Or.inr ⟨by kernel_rfl, rfl⟩) hHeld ?_
      try simp only [Act.put, List.setIfInBounds_toArray, List.set_cons_zero, List.set_cons_succ]
      refine takeV 7 (some 63) undef rfl rfl (by kernel_rfl) (by kernel_rfl) (by kernel_rfl) (fun _ _ _ h => h) (Or.inr ⟨by kernel_rfl, rfl⟩) hHeld ?_
      try simp only [Act.put, List.setIfInBounds_toArray, List.set_cons_zero, List.set_cons_succ]
      refine takeV 8 (some 64) undef rfl rfl (by kernel_rfl) (by kernel_rfl) (by kernel_rfl) (fun _ _ _ h => h) (Or.inr ⟨by kernel_rfl, rfl⟩) hHeld ?_
      try simp only [Act.put, List.setIfInBounds_toArray, List.set_cons_zero, List.set_cons_succ]
      refine takeV 9 (some 65) undef rfl rfl (by kernel_rfl) (by kernel_rfl) (by kernel_rfl) (fun _ _ _ h => h) (Or.inr ⟨by kernel_rfl, rfl⟩) hHeld ?_
      try simp only [Act.put, List.setIfInBounds_toArray, List.set_cons_zero, List.set_cons_succ]
      refine takeV 10 (some 66) undef rfl rfl (by kernel_rfl) (by kernel_rfl) (by kernel_rfl) (fun _ _ _ h => h) (Or.inr ⟨by kernel_rfl, rfl⟩) hHeld ?_
      try simp only [Act.put, List.setIfInBounds_toArray, List.set_cons_zero, List.set_cons_succ]
      refine takeV 11 (some 67) (.bool false) rfl rfl (by kernel_rfl) (by kernel_rfl) (by kernel_rfl) (fun _ _ _ h => h) (Or.inl ⟨by kernel_rfl, fun W hSw => by obtain ⟨s0, s1, s2, s3, s4⟩ := hSw; go_simp⟩) hHeld ?_
      try simp only [Act.put, List.setIfInBounds_toArray, List.set_cons_zero, List.set_cons_succ]
      refine takeV 12 (some 2) (.slice (some ⟨ad.block, ad.off + 4, none⟩) (l.length - 1) (c - 1)) rfl rfl (by kernel_rfl) (by kernel_rfl) (by kernel_rfl) (fun _ _ _ h => h) (Or.inl ⟨by kernel_rfl, fun W hSw => by obtain ⟨s0, s1, s2, s3, s4⟩ := hSw; go_simp⟩) hHeld ?_
      try simp only [Act.put, List.setIfInBounds_toArray, List.set_cons_zero, List.set_cons_succ]
      refine takeV 13 (some 3) (.bool false) rfl rfl (by kernel_rfl) (by kernel_rfl) (by kernel_rfl) (fun _ _ _ h => h) (Or.inl ⟨by kernel_rfl, fun W hSw => by obtain ⟨s0, s1, s2, s3, s4⟩ := hSw; go_simp⟩) hHeld ?_
      try simp only [Act.put, List.setIfInBounds_toArray, List.set_cons_zero, List.set_cons_succ]
      refine wpAnyH_done (by kernel_rfl) ?_ _
      go_wp2_with fail
      go_ret2
      exact sh_cut HSV.out (fun h => absurd h (by simp)) (Kd.C_below HR.out (below_after HB3.out (below_drew (Below.refl _ _)))) L2.out HC.out (below_after HB3.out (below_drew (Below.refl _ _)))
  have t_maybe : (h.toList == [109, 97, 121, 98, 101]) = false := byt_ne (by simp [ByteArray.toList_eq, maybeB]) h_maybe
  have N_maybe : Hid (¬ h = maybeB) := h_maybe
  clear h_maybe
  by_cases h_map : h = mapB
  · subst h_map
    unfold mapB at *
    by_cases hlen : l.length = 3
    · have l1 : ((l.length : Int) == 3) = true := beq_iff_eq.mpr (by omega)
      have HSV : Hid (shapedM ⟨3, m, s, l⟩ = true) := by show _ = _; rw [HS.out, shapeH_yes (l := l) (m := 2) (by simp [manyM, intB, boolB, bitsB, maybeB, funB, imapB, seqB, setB, bagB, mapB]) (by simp [ByteArray.toList_eq])  (by omega)]; simp [intB, boolB, bitsB, maybeB, funB, imapB, seqB, setB, bagB, mapB]
      clear hlen
      go_wp2_with fail
      go_ret2
      exact sh_cut HSV.out (fun _ => parts_cut (by rw [HH.out]; simp [intB, boolB, bitsB, maybeB, funB, imapB, seqB, setB, bagB, mapB]) (by rw [HH.out]; simp [intB, boolB, bitsB, maybeB, funB, imapB, seqB, setB, bagB, mapB])) (Kd.C_below HR.out HB3.out) L2.out HC.out HB3.out
    · have l1 : ((l.length : Int) == 3) = false := beq_eq_false_iff_ne.mpr (by omega)
      have HSV : Hid (shapedM ⟨3, m, s, l⟩ = false) := by show _ = _; rw [HS.out, shapeH_no (l := l) (m := 2) (by simp [manyM, intB, boolB, bitsB, maybeB, funB, imapB, seqB, setB, bagB, mapB])  (fun e => hlen (by omega))]
      clear hlen
      go_wp2_with fail
      go_ret2
      exact sh_cut HSV.out (fun h => absurd h (by simp)) (Kd.C_below HR.out HB3.out) L2.out HC.out HB3.out
  have t_map : (h.toList == [109, 97, 112]) = false := byt_ne (by simp [ByteArray.toList_eq, mapB]) h_map
  have N_map : Hid (¬ h = mapB) := h_map
  clear h_map
  by_cases h_imap : h = imapB
  · subst h_imap
    unfold imapB at *
    by_cases hlen : l.length = 3
    · have l1 : ((l.length : Int) == 3) = true := beq_iff_eq.mpr (by omega)
      have HSV : Hid (shapedM ⟨3, m, s, l⟩ = true) := by show _ = _; rw [HS.out, shapeH_yes (l := l) (m := 2) (by simp [manyM, intB, boolB, bitsB, maybeB, funB, imapB, seqB, setB, bagB, mapB]) (by simp [ByteArray.toList_eq])  (by omega)]; simp [intB, boolB, bitsB, maybeB, funB, imapB, seqB, setB, bagB, mapB]
      clear hlen
      go_wp2_with fail
      go_ret2
      exact sh_cut HSV.out (fun _ => parts_cut (by rw [HH.out]; simp [intB, boolB, bitsB, maybeB, funB, imapB, seqB, setB, bagB, mapB]) (by rw [HH.out]; simp [intB, boolB, bitsB, maybeB, funB, imapB, seqB, setB, bagB, mapB])) (Kd.C_below HR.out HB3.out) L2.out HC.out HB3.out
    · have l1 : ((l.length : Int) == 3) = false := beq_eq_false_iff_ne.mpr (by omega)
      have HSV : Hid (shapedM ⟨3, m, s, l⟩ = false) := by show _ = _; rw [HS.out, shapeH_no (l := l) (m := 2) (by simp [manyM, intB, boolB, bitsB, maybeB, funB, imapB, seqB, setB, bagB, mapB])  (fun e => hlen (by omega))]
      clear hlen
      go_wp2_with fail
      go_ret2
      exact sh_cut HSV.out (fun h => absurd h (by simp)) (Kd.C_below HR.out HB3.out) L2.out HC.out HB3.out
  have t_imap : (h.toList == [105, 109, 97, 112]) = false := byt_ne (by simp [ByteArray.toList_eq, imapB]) h_imap
  have N_imap : Hid (¬ h = imapB) := h_imap
  clear h_imap
  by_cases h_fun : h = funB
  · subst h_fun
    unfold funB at *
    by_cases hlen : l.length = 3
    · have l1 : ((l.length : Int) != 3) = false := bne_eq_false_iff_eq.mpr (by omega)
      obtain ⟨k1, hk1⟩ : ∃ y, l[1]? = some y := ⟨l[1]'(by have := L2.out; omega), List.getElem?_eq_getElem _⟩
      obtain ⟨ad9, A1, c1, e9, g0, g1, g2, g3, g4, g5⟩ := row_at (Kd.C_below HR.out HB3.out) (i := 1) (by have := L2.out; omega) hk1
      obtain rfl := Option.some.inj e9
      have g0 : w3.cell? ⟨ad.block, ad.off + 4, none⟩ = some (.int .i64 k1.f0) := g0
      have g1 : w3.cell? ⟨ad.block, ad.off + 4 + 1, none⟩ = some (.int .i64 k1.f1) := g1
      have g2 : w3.cell? ⟨ad.block, ad.off + 4 + 2, none⟩ = some (.string k1.f2) := g2
      have g3 : w3.cell? ⟨ad.block, ad.off + 4 + 3, none⟩ = some (.slice A1 k1.f3.length c1) := g3
      have hka : kindAt l 1 = k1.f0 := by unfold kindAt; rw [hk1]; rfl
      have l2 : 1 < l.length := by have := L2.out; omega
      clear e9
      by_cases hy : k1.f0 = 3
      · have t1 : (k1.f0 != 3) = false := bne_eq_false_iff_eq.mpr hy
        obtain ⟨k2, hk2⟩ : ∃ y, l[2]? = some y := ⟨l[2]'(by omega), List.getElem?_eq_getElem _⟩
        obtain ⟨ad9, A2, c2, e9, u0, u1, u2, u3, u4, u5⟩ := row_at (Kd.C_below HR.out HB3.out) (i := 2) (by omega) hk2
        obtain rfl := Option.some.inj e9
        have u0 : w3.cell? ⟨ad.block, ad.off + 8, none⟩ = some (.int .i64 k2.f0) := u0
        have u1 : w3.cell? ⟨ad.block, ad.off + 8 + 1, none⟩ = some (.int .i64 k2.f1) := u1
        have u2 : w3.cell? ⟨ad.block, ad.off + 8 + 2, none⟩ = some (.string k2.f2) := u2
        have u3 : w3.cell? ⟨ad.block, ad.off + 8 + 3, none⟩ = some (.slice A2 k2.f3.length c2) := u3
        have HSV : Hid (shapedM ⟨3, m, s, l⟩ = true) := by show _ = _; rw [HS.out, shapeH_yes (l := l) (m := 2) (by simp [manyM, intB, boolB, bitsB, maybeB, funB, imapB, seqB, setB, bagB, mapB]) (by simp [ByteArray.toList_eq])  (by omega)]; simp [intB, boolB, bitsB, maybeB, funB, imapB, seqB, setB, bagB, mapB, hka, hy]
        have HPT : Hid (k1.f3 ++ [k2] = partsM ⟨3, m, s, l⟩) := by
          show _ = _
          unfold partsM
          rw [if_pos rfl, if_neg (by rw [HH.out]; simp [intB, boolB, bitsB, maybeB, funB, imapB, seqB, setB, bagB, mapB]), if_pos (by rw [HH.out]; rfl)]
          match l, hlen, hk1, hk2 with
          | [a0, a1, a2], _, h1, h2 =>
            obtain rfl : a1 = k1 := by simpa using h1
            obtain rfl : a2 = k2 := by simpa using h2
            rfl
        have FY : Hid (∀ W, Below w3.heap.size w3 W → Kd.F k24 W (fun k => k < w3.heap.size) A1 k1.f3.length k1.f3) := fun W h => Kd.F_below (Kd.C_F k24_heap g5) h
        have FP : Hid (∀ W, Below w3.heap.size w3 W → Kd.FK k24 W (fun k => k < w3.heap.size) k2 [.int .i64 k2.f0, .int .i64 k2.f1, .string k2.f2, .slice A2 k2.f3.length c2]) := fun W h => Kd.FK_below (k24_mkF w3 _ k2 u4 (Kd.C_F k24_heap u5)) h
        have hk1l : k1.f3.length < 9000000 := by
          have h1 := wids_len k1.f3; have h2 := wid_kids k1; have h3 := wid_mem (List.mem_of_getElem? hk1); have := HW.out; omega
        have X3 : Hid (∀ W, Below w3.heap.size w3 W → W.cell? ⟨w.heap.size, 3, none⟩ = some (.slice (some ad) l.length c) ∧ W.cell? ⟨ad.block, ad.off + 4 + 3, none⟩ = some (.slice A1 k1.f3.length c1) ∧ W.cell? ⟨ad.block, ad.off + 8, none⟩ = some (.int .i64 k2.f0) ∧ W.cell? ⟨ad.block, ad.off + 8 + 1, none⟩ = some (.int .i64 k2.f1) ∧ W.cell? ⟨ad.block, ad.off + 8 + 2, none⟩ = some (.string k2.f2) ∧ W.cell? ⟨ad.block, ad.off + 8 + 3, none⟩ = some (.slice A2 k2.f3.length c2)) := fun W h => by
          obtain ⟨p0, p1, p2, p3⟩ := cells4 (blk_below x3.out h)
          exact ⟨p3, pw_cell_below h g3, pw_cell_below h u0, pw_cell_below h u1, pw_cell_below h u2, pw_cell_below h u3⟩
        have l3 : 2 < l.length := by omega
        clear hlen hka hk1 hk2 g4 g5 g1 g2 u4 u5 u0 u1 u2 u3 e9
        obtain ⟨y0, y1, y2, L1⟩ := k1
        simp only [] at g0 hy t1 FY HPT X3 hk1l
        subst hy
        go_upto_region 24 with fail
        clear g0 g3
        refine wp_region_held_drew (S := fun W => W.cell? ⟨w.heap.size, 3, none⟩ = some (.slice (some ad) l.length c) ∧ W.cell? ⟨ad.block, ad.off + 4 + 3, none⟩ = some (.slice A1 L1.length c1) ∧ W.cell? ⟨ad.block, ad.off + 8, none⟩ = some (.int .i64 k2.f0) ∧ W.cell? ⟨ad.block, ad.off + 8 + 1, none⟩ = some (.int .i64 k2.f1) ∧ W.cell? ⟨ad.block, ad.off + 8 + 2, none⟩ = some (.string k2.f2) ∧ W.cell? ⟨ad.block, ad.off + 8 + 3, none⟩ = some (.slice A2 k2.f3.length c2)) (by kernel_rfl) (X3.out _ (below_drew (Below.refl _ _))) (fun hHeld => ?_)
        refine takeV 1 (some 89) (.pointer (some ⟨w.heap.size, 3, none⟩)) rfl rfl (by kernel_rfl) (by kernel_rfl) (by kernel_rfl) (fun _ _ _ h => h) (Or.inl ⟨by kernel_rfl, fun W hSw => by obtain ⟨s0, s1, s2, s3, s4, s5⟩ := hSw; go_simp⟩) hHeld ?_
        try simp only [Act.put, List.setIfInBounds_toArray, List.set_cons_zero, List.set_cons_succ]
        refine takeV 2 (some 90) (.slice (some ad) l.length c) rfl rfl (by kernel_rfl) (by kernel_rfl) (by kernel_rfl) (fun _ _ _ h => h) (Or.inl ⟨by kernel_rfl, fun W hSw => by obtain ⟨s0, s1, s2, s3, s4, s5⟩ := hSw; go_simp⟩) hHeld ?_
        try simp only [Act.put, List.setIfInBounds_toArray, List.set_cons_zero, List.set_cons_succ]
        refine takeV 3 (some 91) (.pointer (some ⟨ad.block, ad.off + 4, none⟩)) rfl rfl (by kernel_rfl) (by kernel_rfl) (by kernel_rfl) (fun _ _ _ h => h) (Or.inl ⟨by kernel_rfl, fun W hSw => by obtain ⟨s0, s1, s2, s3, s4, s5⟩ := hSw; go_simp; first | done | (intro h9; exact absurd h9 (by omega))⟩) hHeld ?_
        try simp only [Act.put, List.setIfInBounds_toArray, List.set_cons_zero, List.set_cons_succ]
        refine takeV 4 (some 92) (.pointer (some ⟨ad.block, ad.off + 4 + 3, none⟩)) rfl rfl (by kernel_rfl) (by kernel_rfl) (by kernel_rfl) (fun _ _ _ h => h) (Or.inl ⟨by kernel_rfl, fun W hSw => by obtain ⟨s0, s1, s2, s3, s4, s5⟩ := hSw; go_simp⟩) hHeld ?_
        try simp only [Act.put, List.setIfInBounds_toArray, List.set_cons_zero, List.set_cons_succ]
        refine takeV 5 (some 93) (.slice A1 L1.length c1) rfl rfl (by kernel_rfl) (by kernel_rfl) (by kernel_rfl) (fun _ _ _ h => h) (Or.inl ⟨by kernel_rfl, fun W hSw => by obtain ⟨s0, s1, s2, s3, s4, s5⟩ := hSw; go_simp⟩) hHeld ?_
        try simp only [Act.put, List.setIfInBounds_toArray, List.set_cons_zero, List.set_cons_succ]
        refine takeV 7 (some 95) (.pointer (some ⟨w.heap.size, 3, none⟩)) rfl rfl (by kernel_rfl) (by kernel_rfl) (by kernel_rfl) (fun _ _ _ h => h) (Or.inl ⟨by kernel_rfl, fun W hSw => by obtain ⟨s0, s1, s2, s3, s4, s5⟩ := hSw; go_simp⟩) hHeld ?_
        try simp only [Act.put, List.setIfInBounds_toArray, List.set_cons_zero, List.set_cons_succ]
        refine takeV 8 (some 96) (.slice (some ad) l.length c) rfl rfl (by kernel_rfl) (by kernel_rfl) (by kernel_rfl) (fun _ _ _ h => h) (Or.inl ⟨by kernel_rfl, fun W hSw => by obtain ⟨s0, s1, s2, s3, s4, s5⟩ := hSw; go_simp⟩) hHeld ?_
        try simp only [Act.put, List.setIfInBounds_toArray, List.set_cons_zero, List.set_cons_succ]
        refine takeV 9 (some 97) (.pointer (some ⟨ad.block, ad.off + 8, none⟩)) rfl rfl (by kernel_rfl) (by kernel_rfl) (by kernel_rfl) (fun _ _ _ h => h) (Or.inl ⟨by kernel_rfl, fun W hSw => by obtain ⟨s0, s1, s2, s3, s4, s5⟩ := hSw; go_simp; first | done | (intro h9; exact absurd h9 (by omega))⟩) hHeld ?_
        try simp only [Act.put, List.setIfInBounds_toArray, List.set_cons_zero, List.set_cons_succ]
        refine takeV 10 (some 98) (formV k2.f0 k2.f1 k2.f2 A2 k2.f3.length c2) rfl rfl (by kernel_rfl) (by kernel_rfl) (by kernel_rfl) (fun _ _ _ h => h) (Or.inl ⟨by kernel_rfl, fun W hSw => by obtain ⟨s0, s1, s2, s3, s4, s5⟩ := hSw; go_simp⟩) hHeld ?_
        try simp only [Act.put, List.setIfInBounds_toArray, List.set_cons_zero, List.set_cons_succ]
        generalize hZ' : w3.drew = W0
        have H0 : Hid (Below w3.heap.size w3 W0) := (by subst hZ'; exact below_drew (Below.refl _ _))
        clear hZ'
        refine wpAnyH_ready (rs := [0, 11]) (by kernel_rfl) (by simp) ?_
        refine AllReadyH.cons rfl (fun K hK => ?_) (AllReadyH.cons rfl (fun K hK => ?_) AllReadyH.nil)
        · clear hHeld
          refine Kd.N_lit_step k24 (w0 := w3) w3.heap.size 24 (by kernel_rfl) rfl (xs := ([] : List S24)) (inner := []) (ok := fun _ => True) (okp := fun k => k < w3.heap.size) (by go_simp) (Reps.none _ _) (fun _ _ => trivial) trivial H0.out H0.out.size (by simp) ?_
          intro v88 W1 hN_ hB_ hg_ hat_
          have N42 : Hid _ := hN_
          have H1 : Hid (Below w3.heap.size w3 W1) := hB_
          have G0 : Hid (W0.grownBy W1 none) := hg_
          have A42 : Hid (∃ b, v88.ownBlock = some b ∧ W0.heap.size ≤ b) := hat_
          clear hN_ hB_ hg_ hat_
          refine hK.out _ _ (X3.out _ H1.out) (fun hHeld => ?_)
          clear hK K
          try simp only [Act.put, List.setIfInBounds_toArray, List.set_cons_zero, List.set_cons_succ]
          refine wpAnyH_ready (rs := [6, 11]) (by kernel_rfl) (by simp) ?_
          refine AllReadyH.cons rfl (fun K hK => ?_) (AllReadyH.cons rfl (fun K hK => ?_) AllReadyH.nil)
          · clear hHeld
            refine Kd.N_append_rows_step k24 (w0 := w3) w3.heap.size (by kernel_rfl) (.tmp 88) (.tmp 93) 22 24 (.agg #[(.int .i64 0), (.int .i64 0), (.string ⟨#[]⟩), (.slice none 0 0)]) 56 rfl hu22 info24 rfl (by decide) (by omega) v88 ([] : List S24) L1 A1 L1.length c1 (fun _ => True) (fun k => k < w3.heap.size) rfl rfl N42.out (FY.out _ H1.out) (fun k hk => ⟨trivial, fun he => by have := Kd.N_base N42.out k he.symm; omega⟩) (fun _ _ => trivial) H1.out H1.out.size (by simp only [List.length_nil]; omega) ?_
            intro v94 W2 hN_ hB_ hg_ hat_
            have N44 : Hid (Kd.N k24 24 W2 w3.heap.size (fun _ => True) v94 L1) := hN_
            have H2 : Hid (Below w3.heap.size w3 W2) := hB_
            have G2 : Hid (W1.grownBy W2 v88.ownBlock) := hg_
            have A44 : Hid (v94.ownBlock = v88.ownBlock ∨ ∃ b, v94.ownBlock = some b ∧ W1.heap.size ≤ b) := hat_
            clear hN_ hB_ hg_ hat_
            refine hK.out _ _ (X3.out _ H2.out) (fun hHeld => ?_)
            clear hK K
            try simp only [Act.put, List.setIfInBounds_toArray, List.set_cons_zero, List.set_cons_succ]
            refine wpAnyH_ready (rs := [11]) (by kernel_rfl) (by simp) ?_
            refine AllReadyH.cons rfl (fun K hK => ?_) AllReadyH.nil
            clear hHeld
            refine Kd.N_lit_step k24 (w0 := w3) w3.heap.size 24 (by kernel_rfl) rfl (xs := [k2]) (inner := [.int .i64 k2.f0, .int .i64 k2.f1, .string k2.f2, .slice A2 k2.f3.length c2]) (ok := fun k => k < w3.heap.size ∨ k = W2.heap.size) (okp := fun k => k < w3.heap.size) (by go_simp) ⟨rfl, fun j p hj => ?rep⟩ (fun _ h => .inl h) (.inr rfl) H2.out H2.out.size (by simp) ?_
            case rep =>
              rcases j with _ | j
              · obtain rfl := Option.some.inj hj
                exact FP.out _ H2.out
              · simp at hj
            intro v99 W3 hN_ hB_ hg_ hat_
            have H3 : Hid (Below w3.heap.size w3 W3) := hB_
            have G1 : Hid (W2.grownBy W3 none) := hg_
            obtain ⟨A9, c9, rfl, hF_, hlt_⟩ := lit_facts24 hN_ hat_ H2.out.size
            have F9 : Hid (Kd.F k24 W3 (fun k => k < w3.heap.size ∨ k = W2.heap.size) A9 1 [k2]) := hF_
            have L9 : Hid (W2.heap.size < W3.heap.size) := hlt_
            clear hN_ hB_ hg_ hat_ hF_ hlt_
            refine hK.out _ _ (X3.out _ H3.out) (fun hHeld => ?_)
            clear hK K
            try simp only [Act.put, List.setIfInBounds_toArray, List.set_cons_zero, List.set_cons_succ]
            refine wpAnyH_ready (rs := [12]) (by kernel_rfl) (by simp) ?_
            refine AllReadyH.cons rfl (fun K hK => ?_) AllReadyH.nil
            clear hHeld
            refine Kd.N_append_rows_step k24 (w0 := w3) w3.heap.size (by kernel_rfl) (.tmp 94) (.tmp 99) 22 24 (.agg #[(.int .i64 0), (.int .i64 0), (.string ⟨#[]⟩), (.slice none 0 0)]) 56 rfl hu22 info24 rfl (by decide) (by omega) v94 L1 [k2] A9 1 c9 (fun _ => True) (fun k => k < w3.heap.size ∨ k = W2.heap.size) rfl rfl (Kd.N_grown N44.out G1.out (fun _ _ h => by cases h)) F9.out (fun k hk => ⟨trivial, fun he => ?sep⟩) (fun _ _ => trivial) H3.out H3.out.size (by omega) ?_
            case sep =>
              have h1 := Kd.N_base N44.out k he.symm
              have h2 := Kd.N_lt N44.out k he.symm
              omega
            intro v100 W4 hN_ hB_ hg_ hat_
            have H4 : Hid (Below w3.heap.size w3 W4) := hB_
            obtain ⟨A0, c0, rfl, hc0_, hC0_⟩ := Kd.N_reads hN_
            have C50 : Hid _ := hC0_
            have L50 : Hid _ := hc0_
            clear hN_ hB_ hg_ hat_ hC0_ hc0_
            refine hK.out _ _ (X3.out _ H4.out) (fun hHeld => ?_)
            clear hK K
            try simp only [Act.put, List.setIfInBounds_toArray, List.set_cons_zero, List.set_cons_succ]
            refine takeV 13 (some 2) (.slice A0 (L1 ++ [k2]).length c0) rfl rfl (by kernel_rfl) (by kernel_rfl) (by kernel_rfl) (fun _ _ _ h => h) (Or.inl ⟨by kernel_rfl, fun W hSw => by go_simp⟩) hHeld ?_
            try simp only [Act.put, List.setIfInBounds_toArray, List.set_cons_zero, List.set_cons_succ]
            refine takeV 14 (some 3) (.bool true) rfl rfl (by kernel_rfl) (by kernel_rfl) (by kernel_rfl) (fun _ _ _ h => h) (Or.inl ⟨by kernel_rfl, fun W hSw => by go_simp⟩) hHeld ?_
            try simp only [Act.put, List.setIfInBounds_toArray, List.set_cons_zero, List.set_cons_succ]
            refine wpAnyH_done (by kernel_rfl) ?_ _
            go_wp2_with fail
            go_ret2
            have e9 : (L1 ++ [k2]).length = L1.length + 1 := by simp
            have l50 := L50.out
            have c50 := C50.out
            rw [e9] at l50 c50
            exact sh_yes (ps := L1 ++ [k2]) HSV.out HPT.out e9.symm l50 c50 (below_after HB3.out (by first | exact H4.out | exact below_drew H4.out))
          · clear hHeld
            refine Kd.N_lit_step k24 (w0 := w3) w3.heap.size 24 (by kernel_rfl) rfl (xs := [k2]) (inner := [.int .i64 k2.f0, .int .i64 k2.f1, .string k2.f2, .slice A2 k2.f3.length c2]) (ok := fun k => k < w3.heap.size ∨ k = W1.heap.size) (okp := fun k => k < w3.heap.size) (by go_simp) ⟨rfl, fun j p hj => ?rep⟩ (fun _ h => .inl h) (.inr rfl) H1.out H1.out.size (by simp) ?_
            case rep =>
              rcases j with _ | j
              · obtain rfl := Option.some.inj hj
                exact FP.out _ H1.out
              · simp at hj
            intro v99 W2 hN_ hB_ hg_ hat_
            have H2 : Hid (Below w3.heap.size w3 W2) := hB_
            have G1 : Hid (W1.grownBy W2 none) := hg_
            obtain ⟨A9, c9, rfl, hF_, hlt_⟩ := lit_facts24 hN_ hat_ H1.out.size
            have F9 : Hid (Kd.F k24 W2 (fun k => k < w3.heap.size ∨ k = W1.heap.size) A9 1 [k2]) := hF_
            have L9 : Hid (W1.heap.size < W2.heap.size) := hlt_
            clear hN_ hB_ hg_ hat_ hF_ hlt_
            refine hK.out _ _ (X3.out _ H2.out) (fun hHeld => ?_)
            clear hK K
            try simp only [Act.put, List.setIfInBounds_toArray, List.set_cons_zero, List.set_cons_succ]
            have S42 : Hid (∀ q, v88.ownBlock = some q → w3.heap.size ≤ q ∧ q ≠ W1.heap.size) := fun q hq => ⟨Kd.N_base N42.out q hq, by have := Kd.N_lt N42.out q hq; omega⟩
            have GL : Hid (W1.heap.size < W2.heap.size) := L9.out
            refine wpAnyH_ready (rs := [6]) (by kernel_rfl) (by simp) ?_
            refine AllReadyH.cons rfl (fun K hK => ?_) AllReadyH.nil
            clear hHeld
            refine Kd.N_append_rows_step k24 (w0 := w3) w3.heap.size (by kernel_rfl) (.tmp 88) (.tmp 93) 22 24 (.agg #[(.int .i64 0), (.int .i64 0), (.string ⟨#[]⟩), (.slice none 0 0)]) 56 rfl hu22 info24 rfl (by decide) (by omega) v88 ([] : List S24) L1 A1 L1.length c1 (fun _ => True) (fun k => k < w3.heap.size) rfl rfl (Kd.N_grown N42.out G1.out (fun _ _ h => by cases h)) (FY.out _ H2.out) (fun k hk => ⟨trivial, fun he => by have := Kd.N_base (Kd.N_grown N42.out G1.out (fun _ _ h => by cases h)) k he.symm; omega⟩) (fun _ _ => trivial) H2.out H2.out.size (by simp only [List.length_nil]; omega) ?_
            intro v94 W3 hN_ hB_ hg_ hat_
            have N44 : Hid (Kd.N k24 24 W3 w3.heap.size (fun _ => True) v94 L1) := hN_
            have H3 : Hid (Below w3.heap.size w3 W3) := hB_
            have G2 : Hid (W2.grownBy W3 v88.ownBlock) := hg_
            have A44 : Hid (v94.ownBlock = v88.ownBlock ∨ ∃ b, v94.ownBlock = some b ∧ W2.heap.size ≤ b) := hat_
            clear hN_ hB_ hg_ hat_
            refine hK.out _ _ (X3.out _ H3.out) (fun hHeld => ?_)
            clear hK K
            try simp only [Act.put, List.setIfInBounds_toArray, List.set_cons_zero, List.set_cons_succ]
            refine wpAnyH_ready (rs := [12]) (by kernel_rfl) (by simp) ?_
            refine AllReadyH.cons rfl (fun K hK => ?_) AllReadyH.nil
            clear hHeld
            refine Kd.N_append_rows_step k24 (w0 := w3) w3.heap.size (by kernel_rfl) (.tmp 94) (.tmp 99) 22 24 (.agg #[(.int .i64 0), (.int .i64 0), (.string ⟨#[]⟩), (.slice none 0 0)]) 56 rfl hu22 info24 rfl (by decide) (by omega) v94 L1 [k2] A9 1 c9 (fun _ => True) (fun k => k < w3.heap.size ∨ k = W1.heap.size) rfl rfl N44.out (Kd.F_grown F9.out G2.out (fun k hk he => by have := S42.out k he.symm; omega)) (fun k hk => ⟨trivial, fun he => ?sep⟩) (fun _ _ => trivial) H3.out H3.out.size (by omega) ?_
            case sep =>
              have h44 := A44.out
              have hb42 : ∀ q, v88.ownBlock = some q → w3.heap.size ≤ q ∧ q ≠ W1.heap.size := S42.out
              have hg9 : W1.heap.size < W2.heap.size := GL.out
              rcases h44 with h44 | ⟨b, h44, hb⟩
              · have := hb42 k (by rw [← h44]; exact he.symm)
                omega
              · rw [h44] at he
                have he := Option.some.inj he
                have := H2.out.size
                omega
            intro v100 W4 hN_ hB_ hg_ hat_
            have H4 : Hid (Below w3.heap.size w3 W4) := hB_
            obtain ⟨A0, c0, rfl, hc0_, hC0_⟩ := Kd.N_reads hN_
            have C50 : Hid _ := hC0_
            have L50 : Hid _ := hc0_
            clear hN_ hB_ hg_ hat_ hC0_ hc0_
            refine hK.out _ _ (X3.out _ H4.out) (fun hHeld => ?_)
            clear hK K
            try simp only [Act.put, List.setIfInBounds_toArray, List.set_cons_zero, List.set_cons_succ]
            refine takeV 13 (some 2) (.slice A0 (L1 ++ [k2]).length c0) rfl rfl (by kernel_rfl) (by kernel_rfl) (by kernel_rfl) (fun _ _ _ h => h) (Or.inl ⟨by kernel_rfl, fun W hSw => by go_simp⟩) hHeld ?_
            try simp only [Act.put, List.setIfInBounds_toArray, List.set_cons_zero, List.set_cons_succ]
            refine takeV 14 (some 3) (.bool true) rfl rfl (by kernel_rfl) (by kernel_rfl) (by kernel_rfl) (fun _ _ _ h => h) (Or.inl ⟨by kernel_rfl, fun W hSw => by go_simp⟩) hHeld ?_
            try simp only [Act.put, List.setIfInBounds_toArray, List.set_cons_zero, List.set_cons_succ]
            refine wpAnyH_done (by kernel_rfl) ?_ _
            go_wp2_with fail
            go_ret2
            have e9 : (L1 ++ [k2]).length = L1.length + 1 := by simp
            have l50 := L50.out
            have c50 := C50.out
            rw [e9] at l50 c50
            exact sh_yes (ps := L1 ++ [k2]) HSV.out HPT.out e9.symm l50 c50 (below_after HB3.out (by first | exact H4.out | exact below_drew H4.out))
        · clear hHeld
          refine Kd.N_lit_step k24 (w0 := w3) w3.heap.size 24 (by kernel_rfl) rfl (xs := [k2]) (inner := [.int .i64 k2.f0, .int .i64 k2.f1, .string k2.f2, .slice A2 k2.f3.length c2]) (ok := fun k => k < w3.heap.size ∨ k = W0.heap.size) (okp := fun k => k < w3.heap.size) (by go_simp) ⟨rfl, fun j p hj => ?rep⟩ (fun _ h => .inl h) (.inr rfl) H0.out H0.out.size (by simp) ?_
          case rep =>
            rcases j with _ | j
            · obtain rfl := Option.some.inj hj
              exact FP.out _ H0.out
            · simp at hj
          intro v99 W1 hN_ hB_ hg_ hat_
          have H1 : Hid (Below w3.heap.size w3 W1) := hB_
          have G1 : Hid (W0.grownBy W1 none) := hg_
          obtain ⟨A9, c9, rfl, hF_, hlt_⟩ := lit_facts24 hN_ hat_ H0.out.size
          have F9 : Hid (Kd.F k24 W1 (fun k => k < w3.heap.size ∨ k = W0.heap.size) A9 1 [k2]) := hF_
          have L9 : Hid (W0.heap.size < W1.heap.size) := hlt_
          clear hN_ hB_ hg_ hat_ hF_ hlt_
          refine hK.out _ _ (X3.out _ H1.out) (fun hHeld => ?_)
          clear hK K
          try simp only [Act.put, List.setIfInBounds_toArray, List.set_cons_zero, List.set_cons_succ]
          refine wpAnyH_ready (rs := [0]) (by kernel_rfl) (by simp) ?_
          refine AllReadyH.cons rfl (fun K hK => ?_) AllReadyH.nil
          clear hHeld
          refine Kd.N_lit_step k24 (w0 := w3) w3.heap.size 24 (by kernel_rfl) rfl (xs := ([] : List S24)) (inner := []) (ok := fun _ => True) (okp := fun k => k < w3.heap.size) (by go_simp) (Reps.none _ _) (fun _ _ => trivial) trivial H1.out H1.out.size (by simp) ?_
          intro v88 W2 hN_ hB_ hg_ hat_
          have N42 : Hid _ := hN_
          have H2 : Hid (Below w3.heap.size w3 W2) := hB_
          have G0 : Hid (W1.grownBy W2 none) := hg_
          have A42 : Hid (∃ b, v88.ownBlock = some b ∧ W1.heap.size ≤ b) := hat_
          clear hN_ hB_ hg_ hat_
          refine hK.out _ _ (X3.out _ H2.out) (fun hHeld => ?_)
          clear hK K
          try simp only [Act.put, List.setIfInBounds_toArray, List.set_cons_zero, List.set_cons_succ]
          have S42 : Hid (∀ q, v88.ownBlock = some q → w3.heap.size ≤ q ∧ q ≠ W0.heap.size) := fun q hq => ⟨Kd.N_base N42.out q hq, by
            obtain ⟨b, hb, hle⟩ := A42.out
            rw [hq] at hb
            have hb := Option.some.inj hb
            have := L9.out
            omega⟩
          have GL : Hid (W0.heap.size < W2.heap.size) := by have h1 := L9.out; have h2 := G0.out.size; exact Nat.lt_of_lt_of_le h1 h2
          refine wpAnyH_ready (rs := [6]) (by kernel_rfl) (by simp) ?_
          refine AllReadyH.cons rfl (fun K hK => ?_) AllReadyH.nil
          clear hHeld
          refine Kd.N_append_rows_step k24 (w0 := w3) w3.heap.size (by kernel_rfl) (.tmp 88) (.tmp 93) 22 24 (.agg #[(.int .i64 0), (.int .i64 0), (.string ⟨#[]⟩), (.slice none 0 0)]) 56 rfl hu22 info24 rfl (by decide) (by omega) v88 ([] : List S24) L1 A1 L1.length c1 (fun _ => True) (fun k => k < w3.heap.size) rfl rfl N42.out (FY.out _ H2.out) (fun k hk => ⟨trivial, fun he => by have := Kd.N_base N42.out k he.symm; omega⟩) (fun _ _ => trivial) H2.out H2.out.size (by simp only [List.length_nil]; omega) ?_
          intro v94 W3 hN_ hB_ hg_ hat_
          have N44 : Hid (Kd.N k24 24 W3 w3.heap.size (fun _ => True) v94 L1) := hN_
          have H3 : Hid (Below w3.heap.size w3 W3) := hB_
          have G2 : Hid (W2.grownBy W3 v88.ownBlock) := hg_
          have A44 : Hid (v94.ownBlock = v88.ownBlock ∨ ∃ b, v94.ownBlock = some b ∧ W2.heap.size ≤ b) := hat_
          clear hN_ hB_ hg_ hat_
          refine hK.out _ _ (X3.out _ H3.out) (fun hHeld => ?_)
          clear hK K
          try simp only [Act.put, List.setIfInBounds_toArray, List.set_cons_zero, List.set_cons_succ]
          refine wpAnyH_ready (rs := [12]) (by kernel_rfl) (by simp) ?_
          refine AllReadyH.cons rfl (fun K hK => ?_) AllReadyH.nil
          clear hHeld
          refine Kd.N_append_rows_step k24 (w0 := w3) w3.heap.size (by kernel_rfl) (.tmp 94) (.tmp 99) 22 24 (.agg #[(.int .i64 0), (.int .i64 0), (.string ⟨#[]⟩), (.slice none 0 0)]) 56 rfl hu22 info24 rfl (by decide) (by omega) v94 L1 [k2] A9 1 c9 (fun _ => True) (fun k => k < w3.heap.size ∨ k = W0.heap.size) rfl rfl N44.out (Kd.F_grown (Kd.F_grown F9.out G0.out (fun _ _ h => by cases h)) G2.out (fun k hk he => by have := S42.out k he.symm; omega)) (fun k hk => ⟨trivial, fun he => ?sep⟩) (fun _ _ => trivial) H3.out H3.out.size (by omega) ?_
          case sep =>
            have h44 := A44.out
            have hb42 : ∀ q, v88.ownBlock = some q → w3.heap.size ≤ q ∧ q ≠ W0.heap.size := S42.out
            have hg9 : W0.heap.size < W2.heap.size := GL.out
            rcases h44 with h44 | ⟨b, h44, hb⟩
            · have := hb42 k (by rw [← h44]; exact he.symm)
              omega
            · rw [h44] at he
              have he := Option.some.inj he
              have := H2.out.size
              omega
          intro v100 W4 hN_ hB_ hg_ hat_
          have H4 : Hid (Below w3.heap.size w3 W4) := hB_
          obtain ⟨A0, c0, rfl, hc0_, hC0_⟩ := Kd.N_reads hN_
          have C50 : Hid _ := hC0_
          have L50 : Hid _ := hc0_
          clear hN_ hB_ hg_ hat_ hC0_ hc0_
          refine hK.out _ _ (X3.out _ H4.out) (fun hHeld => ?_)
          clear hK K
          try simp only [Act.put, List.setIfInBounds_toArray, List.set_cons_zero, List.set_cons_succ]
          refine takeV 13 (some 2) (.slice A0 (L1 ++ [k2]).length c0) rfl rfl (by kernel_rfl) (by kernel_rfl) (by kernel_rfl) (fun _ _ _ h => h) (Or.inl ⟨by kernel_rfl, fun W hSw => by go_simp⟩) hHeld ?_
          try simp only [Act.put, List.setIfInBounds_toArray, List.set_cons_zero, List.set_cons_succ]
          refine takeV 14 (some 3) (.bool true) rfl rfl (by kernel_rfl) (by kernel_rfl) (by kernel_rfl) (fun _ _ _ h => h) (Or.inl ⟨by kernel_rfl, fun W hSw => by go_simp⟩) hHeld ?_
          try simp only [Act.put, List.setIfInBounds_toArray, List.set_cons_zero, List.set_cons_succ]
          refine wpAnyH_done (by kernel_rfl) ?_ _
          go_wp2_with fail
          go_ret2
          have e9 : (L1 ++ [k2]).length = L1.length + 1 := by simp
          have l50 := L50.out
          have c50 := C50.out
          rw [e9] at l50 c50
          exact sh_yes (ps := L1 ++ [k2]) HSV.out HPT.out e9.symm l50 c50 (below_after HB3.out (by first | exact H4.out | exact below_drew H4.out))
      · have t1 : (k1.f0 != 3) = true := bne_iff_ne.mpr hy
        have HSV : Hid (shapedM ⟨3, m, s, l⟩ = false) := by show _ = _; rw [HS.out, shapeH_yes (l := l) (m := 2) (by simp [manyM, intB, boolB, bitsB, maybeB, funB, imapB, seqB, setB, bagB, mapB]) (by simp [ByteArray.toList_eq])  (by omega)]; simp [intB, boolB, bitsB, maybeB, funB, imapB, seqB, setB, bagB, mapB, hka, hy]
        clear hlen hka hk1 g4 g5 g1 g2 g3
        obtain ⟨y0, y1, y2, y3⟩ := k1
        simp only [] at g0 hy t1
        clear hy
        go_wp2_with fail
        go_ret2
        exact sh_no HSV.out HB3.out
    · have l1 : ((l.length : Int) != 3) = true := bne_iff_ne.mpr (by omega)
      have HSV : Hid (shapedM ⟨3, m, s, l⟩ = false) := by show _ = _; rw [HS.out, shapeH_no (l := l) (m := 2) (by simp [manyM, intB, boolB, bitsB, maybeB, funB, imapB, seqB, setB, bagB, mapB])  (fun e => hlen (by omega))]
      clear hlen
      go_wp2_with fail
      go_ret2
      exact sh_no HSV.out HB3.out
  have t_fun : (h.toList == [102, 117, 110]) = false := byt_ne (by simp [ByteArray.toList_eq, funB]) h_fun
  have N_fun : Hid (¬ h = funB) := h_fun
  clear h_fun
  have HSV : Hid (shapedM ⟨3, m, s, l⟩ = true) := by
    show _ = _
    rw [HS.out]
    unfold shapeH
    rw [if_neg (by rintro (e | e | e); exact N_int.out (bytes_inj (by rw [e]; simp [ByteArray.toList_eq, intB])); exact N_bool.out (bytes_inj (by rw [e]; simp [ByteArray.toList_eq, boolB])); exact hne e), many_none N_bits.out N_seq.out N_set.out N_bag.out N_maybe.out N_map.out N_imap.out N_fun.out]
    have := L2.out
    simp; omega
  go_wp2_with fail
  go_ret2
  exact sh_cut HSV.out (fun _ => parts_cut (by rw [HH.out]; exact N_bits.out) (by rw [HH.out]; exact N_fun.out)) (Kd.C_below HR.out HB3.out) L2.out HC.out HB3.out
theorem shapedR_any (x : S24) (A : Option Addr) (c : Nat) (w : World) (hr : Kd.C k24 w A x.f3.length x.f3) (hc : x.f3.length ≤ c) (hw : wid x < 9000000) (hf : fieldsM x = true) :
    Calls Tryz.prog 147 #[formV x.f0 x.f1 x.f2 A x.f3.length c] w (ShPost w x) := by
  have hkw := wid_kids x
  have hfk := fields_kids hf
  obtain ⟨a, m, s, l⟩ := x
  simp only [] at hr hc hkw hfk ⊢
  by_cases h1 : a = 1
  · subst h1; exact shR_word m s l A c w hr hc
  by_cases h3 : a = 3
  · subst h3
    by_cases hl : l.length < 2
    · exact shR_short m s l A c w hr hc hl
    · match l, hl, hr, hc, hkw, hfk with
      | [], hl, _, _, _, _ => exact absurd (by simp) hl
      | k0 :: r, hl, hr, hc, hkw, hfk =>
        by_cases hk : k0.f0 = 1
        · have h0 : fieldsM k0 = true := fieldsL_mem hfk List.mem_cons_self
          refine shR_list m s k0 r A c w hr hc (by omega) (by omega) hk ?_
          obtain ⟨a0, m0, s0, l0⟩ := k0
          obtain rfl : a0 = 1 := hk
          exact (fld_word h0).2
        · exact shR_bare m s k0 r A c w hr hc (by omega) hk
  · exact shR_other a h1 h3 m s l A c w hr hc

end Go.Proofs.YtcjmplpfebpfpaaGreatDoor

namespace Go.Proofs.YtcjmplpfebpfpaaGreatDoor
open Go.RowKit Go.Proofs Go.Proofs.YtcjmplpfebpfpaaGreatDoorW.PrintWords Go.Proofs.YtcjmplpfebpfpaaGreatDoorW.PrintLast Go.Proofs.YtcjmplpfebpfpaaGreatDoorW.PrintMore PKindInstances
set_option linter.unusedVariables false
set_option linter.unusedSimpArgs false

end Go.Proofs.YtcjmplpfebpfpaaGreatDoor

namespace Go.Proofs.YtcjmplpfebpfpaaGreatDoor
open Go.RowKit Go.Proofs Go.Proofs.YtcjmplpfebpfpaaGreatDoorW.PrintWords Go.Proofs.YtcjmplpfebpfpaaGreatDoorW.PrintLast Go.Proofs.YtcjmplpfebpfpaaGreatDoorW.PrintMore PKindInstances
set_option linter.unusedVariables false
set_option linter.unusedSimpArgs false

set_option maxRecDepth 100000 in
set_option maxHeartbeats 4000000 in
theorem unify_bare (vs : List ByteArray) (n : Nat) (W0 w : World) (base sp vb tb : Nat) (mt : List (ByteArray × S24)) (mtv : List (ByteArray × Value)) (a b : S24) (A5 B5 : Option Addr) (c5 d5 : Nat) (hs : SolvAt base w sp vb tb (varsV vs) mtv) (ht : ToAt W0 mt mtv)
    (hw : Below W0.heap.size W0 w) (hb : W0.heap.size ≤ base) (ha1 : Kd.C k24 W0 A5 a.f3.length a.f3) (u2 : a.f3.length ≤ c5) (u3 : wid a < 9000000) (hb1 : Kd.C k24 W0 B5 b.f3.length b.f3) (v2 : b.f3.length ≤ d5) (v3 : wid b < 9000000)
    (hL : ListsOk vs n) (R : URes) (hk : (if a.f0 ≠ 3 ∨ b.f0 ≠ 3 then (if eqM a b then some (.ok mt) else some (.stop 8)) else listsM (unifyM vs n) mt a b true) = some R) :
    Calls Tryz.prog 55 #[.pointer (some ⟨sp, 0, none⟩), formV a.f0 a.f1 a.f2 A5 a.f3.length c5, formV b.f0 b.f1 b.f2 B5 b.f3.length d5, .bool true] w (UPost W0 w base sp vb tb vs R) := by
  have hu24 := Tryz.underlying24
  have U1 : Hid _ := ha1
  have V1 : Hid _ := hb1
  obtain ⟨m0, m1, m2, m3⟩ := a
  obtain ⟨k0, k1, k2, k3⟩ := b
  have hx2 : ((w.alloc (Obj.cells #[.int .i64 m0, .int .i64 m1, .string m2, .slice A5 m3.length c5] 24)).alloc (Obj.cells #[.int .i64 k0, .int .i64 k1, .string k2, .slice B5 k3.length d5] 24)).heap[w.heap.size + 1]? = some (Obj.cells #[.int .i64 k0, .int .i64 k1, .string k2, .slice B5 k3.length d5] 24) := by
    have h := (MapKept.heap_alloc (w.alloc (Obj.cells #[.int .i64 m0, .int .i64 m1, .string m2, .slice A5 m3.length c5] 24)) (Obj.cells #[.int .i64 k0, .int .i64 k1, .string k2, .slice B5 k3.length d5] 24)).1
    rw [size_new] at h
    exact h
  have hx1 : ((w.alloc (Obj.cells #[.int .i64 m0, .int .i64 m1, .string m2, .slice A5 m3.length c5] 24)).alloc (Obj.cells #[.int .i64 k0, .int .i64 k1, .string k2, .slice B5 k3.length d5] 24)).heap[w.heap.size]? = some (Obj.cells #[.int .i64 m0, .int .i64 m1, .string m2, .slice A5 m3.length c5] 24) :=
    (Below.heap_alloc _ _ _ (by rw [size_new]; omega)).trans (MapKept.heap_alloc w _).1
  have hxb : Below w.heap.size w ((w.alloc (Obj.cells #[.int .i64 m0, .int .i64 m1, .string m2, .slice A5 m3.length c5] 24)).alloc (Obj.cells #[.int .i64 k0, .int .i64 k1, .string k2, .slice B5 k3.length d5] 24)) := below_alloc (below_alloc (Below.refl _ _) _) _
  have HX1 : Hid _ := hx1
  have HX2 : Hid _ := hx2
  have HXB : Hid _ := hxb
  have HS : Hid _ := hs
  have HT : Hid _ := ht
  have HL : Hid _ := hL
  have HK : Hid _ := hk
  have HW : Hid _ := hw
  have HBs : Hid _ := hb
  clear hx1 hx2 hxb hs ht ha1 hb1 hL hk hw hb
  go_enter Tryz.func55, Tryz.ntmps55
  go_upto_region 3 with fail
  go_cut [8, 9] from 18 to 49 (fun x8 x9 wx => x8 = .bool false ∧ x9 = .bool false ∧ Below w.heap.size w wx ∧ wx.heap[w.heap.size]? = some (.cells #[.int .i64 m0, .int .i64 m1, .string m2, .slice A5 m3.length c5] 24 (0, 0)) ∧
      wx.heap[w.heap.size + 1]? = some (.cells #[.int .i64 k0, .int .i64 k1, .string k2, .slice B5 k3.length d5] 24 (0, 0)))
  case first =>
    go_big_quiet (fail)
    go_wp2_with fail
    go_meet
    case rel => exact ⟨rfl, rfl, pw_below_drewN HXB.out nq, (heap_drewN _ _ _).trans HX1.out, (heap_drewN _ _ _).trans HX2.out⟩
  case rest =>
    obtain ⟨rfl, rfl, hB, hx, hy⟩ := hcut
    obtain ⟨p0, p1, p2, p3⟩ := cells4 hx
    obtain ⟨q0, q1, q2, q3⟩ := cells4 hy
    have G : Hid (w.grownBy wc (some tb)) := grown_of_below hB (some tb)
    have S3 : Hid _ := HS.out.below hB
    have W3 : Hid (Below W0.heap.size W0 wc) := HW.out.trans (hB.mono HW.out.size)
    have hK := HK.out
    clear hx hy hB
    by_cases h33 : m0 = 3 ∧ k0 = 3
    · obtain ⟨e3, e4⟩ := h33
      subst e3
      subst e4
      rw [if_neg (by simp)] at hK
      have BI : Hid _ := HL.out W0 wc base sp vb tb mt mtv ⟨3, m1, m2, m3⟩ ⟨3, k1, k2, k3⟩ true A5 B5 c5 d5 R S3.out HT.out W3.out HBs.out U1.out u2 u3 V1.out v2 v3 hK
      clear hK
      go_wp2_with fail
      refine Calls.mono BI.out ?_
      rintro e w5 h5
      have h6 := h5.from G.out
      clear h5
      cases R with
      | ok mt2 =>
        obtain ⟨rfl, h7⟩ := h6
        have H7 : Hid _ := h7
        clear h7
        go_wp2_with fail
        go_end0
        exact ⟨rfl, H7.out⟩
      | stop e2 =>
        obtain ⟨rfl, h7⟩ := h6
        have H7 : Hid _ := h7
        clear h7
        go_wp2_with fail
        exact ⟨rfl, rfl, H7.out⟩
    · rw [if_pos (by rcases Classical.em (m0 = 3) with h | h; exact .inr (fun h2 => h33 ⟨h, h2⟩); exact .inl h)] at hK
      have EQ : Hid _ := Equal_any ⟨m0, m1, m2, m3⟩ ⟨k0, k1, k2, k3⟩ A5 B5 c5 d5 wc (Kd.C_below U1.out W3.out) u2 (Kd.C_below V1.out W3.out) v2 u3 v3
      obtain ⟨q, hq⟩ : ∃ q, q = eqM ⟨m0, m1, m2, m3⟩ ⟨k0, k1, k2, k3⟩ := ⟨_, rfl⟩
      rw [← hq] at hK EQ
      clear hq
      have b33 : (m0 != 3) = true ∨ (m0 != 3) = false ∧ (k0 != 3) = true := by
        by_cases h : m0 = 3
        · exact .inr ⟨by simp [h], by simp; exact fun h2 => h33 ⟨h, h2⟩⟩
        · exact .inl (by simp [h])
      clear h33
      rcases b33 with b3 | ⟨b3, b4⟩
      · cases q with
        | true =>
          simp only [if_true, Option.some.injEq] at hK
          subst hK
          go_wp2_with fail
          refine Calls.mono EQ.out ?_
          rintro e w5 ⟨rfl, B5'⟩
          have S5 : Hid _ := S3.out.below B5'
          have G5 : Hid _ := G.out.trans (grown_of_below B5' (some tb))
          clear B5'
          go_wp2_with fail
          go_end0
          exact ⟨rfl, G5.out, mtv, S5.out, HT.out⟩
        | false =>
          simp only [Bool.false_eq_true, if_false, Option.some.injEq] at hK
          subst hK
          go_wp2_with fail
          refine Calls.mono EQ.out ?_
          rintro e w5 ⟨rfl, B5'⟩
          have G5 : Hid _ := G.out.trans (grown_of_below B5' (some tb))
          clear B5'
          go_wp2_with fail
          exact ⟨rfl, rfl, G5.out⟩
      · cases q with
        | true =>
          simp only [if_true, Option.some.injEq] at hK
          subst hK
          go_wp2_with fail
          refine Calls.mono EQ.out ?_
          rintro e w5 ⟨rfl, B5'⟩
          have S5 : Hid _ := S3.out.below B5'
          have G5 : Hid _ := G.out.trans (grown_of_below B5' (some tb))
          clear B5'
          go_wp2_with fail
          go_end0
          exact ⟨rfl, G5.out, mtv, S5.out, HT.out⟩
        | false =>
          simp only [Bool.false_eq_true, if_false, Option.some.injEq] at hK
          subst hK
          go_wp2_with fail
          refine Calls.mono EQ.out ?_
          rintro e w5 ⟨rfl, B5'⟩
          have G5 : Hid _ := G.out.trans (grown_of_below B5' (some tb))
          clear B5'
          go_wp2_with fail
          exact ⟨rfl, rfl, G5.out⟩

/-- unify, whatever the forms, where the lists of the next depth are unified rightly. -/
theorem unify_step (vs : List ByteArray) (n : Nat) (hL : ListsOk vs n) : UniOk vs (n + 1) := by
  intro W0 w base sp vb tb mt mtv a b bare A B c d R hs ht hw hb ha1 ha2 ha3 hb1 hb2 hb3 hk
  simp only [unifyM] at hk
  cases bare with
  | true =>
    simp only [if_true, isVar, Bool.not_true, Bool.false_and, Bool.false_eq_true, if_false] at hk
    exact unify_bare vs n W0 w base sp vb tb mt mtv a b A B c d hs ht hw hb ha1 ha2 ha3 hb1 hb2 hb3 hL R hk
  | false =>
    simp only [Bool.false_eq_true, if_false] at hk
    cases hka : knownM vs mt n a with
    | none => rw [hka] at hk; simp at hk
    | some a' =>
      cases hkb : knownM vs mt n b with
      | none => rw [hka, hkb] at hk; simp at hk
      | some b' =>
        rw [hka, hkb] at hk
        exact unify_x vs n W0 w base sp vb tb mt mtv a b A B c d a' b' hs ht hw hb ha1 ha2 ha3 hb1 hb2 hb3 hka hkb hL R hk

end Go.Proofs.YtcjmplpfebpfpaaGreatDoor
