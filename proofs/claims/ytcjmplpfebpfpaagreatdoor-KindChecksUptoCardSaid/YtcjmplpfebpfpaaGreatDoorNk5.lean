/- Part 5 of what the law's row leans on (Nk): the print's words and functions, cut to what is reached, and own texts. -/
import Derived.Test.YtcjmplpfebpfpaaGreatDoorNk4
namespace Go.Proofs.YtcjmplpfebpfpaaGreatDoor
open Go.RowKit Go.Proofs Go.Proofs.YtcjmplpfebpfpaaGreatDoorW.PrintWords Go.Proofs.YtcjmplpfebpfpaaGreatDoorW.PrintLast Go.Proofs.YtcjmplpfebpfpaaGreatDoorW.PrintMore PKindInstances
set_option linter.unusedVariables false
set_option linter.unusedSimpArgs false

def ChkOk (T : List S114) (n : Nat) : Prop :=
  ∀ (x : S24) (A : Option Addr) (c : Nat) (w : World) (b : Nat), Kd.C k24 w A x.f3.length x.f3 → x.f3.length ≤ c → wid x < 9000000 → siz x ≤ n → MapAt w b (kvs textV (tabV T)) →
    Calls Tryz.prog 74 #[.agg #[.map (some b)], formV x.f0 x.f1 x.f2 A x.f3.length c] w fun e w' => e = .returned (.int .i64 (chkM T n x)) ∧ Below w.heap.size w w'
theorem parts_mem {x y : S24} (h : y ∈ partsM x) : wid y ≤ wid x ∧ siz y < siz x := by
  have hk := wid_kids x
  have hs := siz_kids x
  unfold partsM at h
  split at h
  · split at h
    · cases h
    · split at h
      · split at h
        · rename_i k0 k1 k2 he
          rw [he] at hk hs
          have w1 := wid_mem (show k1 ∈ [k0, k1, k2] by simp)
          have w2 := wid_mem (show k2 ∈ [k0, k1, k2] by simp)
          have s1 := siz_in' (show k1 ∈ [k0, k1, k2] by simp)
          have s2 := siz_in' (show k2 ∈ [k0, k1, k2] by simp)
          rcases List.mem_append.1 h with h | h
          · have w3 := wid_mem h
            have s3 := siz_in' h
            have w4 := wid_kids k1
            have s4 := siz_kids k1
            omega
          · obtain rfl := List.mem_singleton.1 h
            omega
        · cases h
      · have w1 := wid_mem (List.mem_of_mem_drop h)
        have s1 := siz_in' (List.mem_of_mem_drop h)
        omega
  · cases h
theorem parts_len (x : S24) : (partsM x).length ≤ wid x + 1 := by
  have hk := wid_kids x
  have hl := wids_len x.f3
  unfold partsM
  split
  · split
    · simp
    · split
      · split
        · rename_i k0 k1 k2 he
          rw [he] at hk
          have w1 := wid_mem (show k1 ∈ [k0, k1, k2] by simp)
          have w4 := wid_kids k1
          have w5 := wids_len k1.f3
          simp only [List.length_append, List.length_singleton]
          omega
        · simp
      · have := List.length_drop (i := 1) (l := x.f3)
        omega
  · simp
theorem chk_bad {T : List S114} {n : Nat} {x : S24} (h : shapedM x = false) : chkM T (n + 1) x = 1 := by simp [chkM, h]
theorem chk_out {T : List S114} {n : Nat} {x : S24} (h : shapedM x = true) (h2 : outT T x ≠ 0) : chkM T (n + 1) x = outT T x := by simp [chkM, h, h2]
theorem chk_kids {T : List S114} {n : Nat} {x : S24} (h : shapedM x = true) (h2 : outT T x = 0) (h3 : chkL (chkM T n) (partsM x) ≠ 0) : chkM T (n + 1) x = chkL (chkM T n) (partsM x) := by simp [chkM, h, h2, h3]
theorem chk_last {T : List S114} {n : Nat} {x : S24} (h : shapedM x = true) (h2 : outT T x = 0) (h3 : chkL (chkM T n) (partsM x) = 0) : chkM T (n + 1) x = lastT T (compM T n) x := by simp [chkM, h, h2, h3]
theorem out_word6 {T : List S114} {x : S24} (hm : ((manyM (nameF x)).isSome && decide (x.f0 = 1)) = true) : outT T x = 6 := by unfold outT; rw [if_pos hm]
theorem out_none6 {T : List S114} {x : S24} (hm : ((manyM (nameF x)).isSome && decide (x.f0 = 1)) = false) (hr : resM (nameF x) = false) (hf : findT T (nameF x) = none) : outT T x = 6 := by
  unfold outT; rw [hm, hr, hf]; simp
theorem out_len8 {T : List S114} {x : S24} {r : S114} (hm : ((manyM (nameF x)).isSome && decide (x.f0 = 1)) = false) (hr : resM (nameF x) = false) (hf : findT T (nameF x) = some r) (hl : ¬ r.f2 = max 0 ((x.f3.length : Int) - 1)) : outT T x = 8 := by
  unfold outT; rw [hm, hr, hf]; simp [hl]
theorem res_bits : resM bitsB = true := by rw [res_many]; simp [manyM]
theorem out_bits8 {T : List S114} {x : S24} (hm : ((manyM (nameF x)).isSome && decide (x.f0 = 1)) = false) (hb : nameF x = bitsB ∧ ((kid1 x).f1 < 1 ∨ 16 < (kid1 x).f1)) : outT T x = 8 := by
  unfold outT; rw [hm, hb.1, res_bits, if_neg (by simp), if_pos rfl, if_pos ⟨rfl, hb.2⟩]
theorem out_zero {T : List S114} {x : S24} (hm : ((manyM (nameF x)).isSome && decide (x.f0 = 1)) = false) (hr : resM (nameF x) = true ∨ ∃ r, findT T (nameF x) = some r ∧ r.f2 = max 0 ((x.f3.length : Int) - 1)) (hb : ¬ (nameF x = bitsB ∧ ((kid1 x).f1 < 1 ∨ 16 < (kid1 x).f1))) : outT T x = 0 := by
  unfold outT
  rw [hm, if_neg (by simp)]
  by_cases h : resM (nameF x) = true
  · rw [if_pos h, if_neg hb]
  · rw [if_neg h]
    rcases hr with hr | ⟨r, hf, hl⟩
    · exact absurd hr h
    · rw [hf]; simp only []; rw [if_pos hl]
theorem field_row (W : World) (rn : ByteArray) (rk rl : Int) (re rw' : Bool) : (Instr.field 114 (.agg #[.string rn, .int .i64 rk, .int .i64 rl, .bool re, .bool rw']) 1).run Tryz.prog W = .ok (.int .i64 rk) W := by
  have hu114 := Tryz.underlying114
  have hu3 := Tryz.underlying3
  unfold Instr.field
  go_simp
  simp [asAgg, go_sem]
  try rfl
/-- What holds of the loop over the parts. -/
def CkRel (W5 : World) (T : List S114) (n : Nat) (ps : List S24) (E : Int) (k : Nat) (x79 : Value) (wr : World) : Prop :=
  ∃ (i : Nat), x79 = .int .i64 (i : Int) ∧ k + i = ps.length ∧ Below W5.heap.size W5 wr ∧ chkL (chkM T n) (ps.drop i) = E
set_option maxRecDepth 100000 in
set_option maxHeartbeats 16000000 in
theorem chk_step {T : List S114} {n : Nat} (OK : ChkOk T n) : ChkOk T (n + 1) := by
  intro x A c w b hr hc hw hs0 hm
  have hu24 := Tryz.underlying24
  have hu22 := Tryz.underlying22
  have hu120 := Tryz.underlying120
  have hu132 := Tryz.underlying132
  have hu := Tryz.underlying116
  have hk := Tryz.underlying9
  have hu114 := Tryz.underlying114
  have hll := wids_len x.f3
  have hkw := wid_kids x
  have x1 := (MapKept.heap_alloc (w.alloc (.cells #[.map (some b)] 120)) (Obj.cells #[.int .i64 x.f0, .int .i64 x.f1, .string x.f2, .slice A x.f3.length c] 24)).1
  have sz : (w.alloc (.cells #[.map (some b)] 120)).heap.size = w.heap.size + 1 := size_new _ _
  rw [sz] at x1
  have b0 : Below w.heap.size w (w.alloc (.cells #[.map (some b)] 120)) := below_alloc (Below.refl _ _) _
  have x0 := (MapKept.heap_alloc w (.cells #[.map (some b)] 120)).1
  have b1' : Below (w.alloc (.cells #[.map (some b)] 120)).heap.size (w.alloc (.cells #[.map (some b)] 120)) ((w.alloc (.cells #[.map (some b)] 120)).alloc (Obj.cells #[.int .i64 x.f0, .int .i64 x.f1, .string x.f2, .slice A x.f3.length c] 24)) := below_alloc (Below.refl _ _) _
  have X0 : Hid _ := blk_below x0 b1'
  have X1 : Hid _ := x1
  have B1 : Hid _ := below_after b0 b1'
  have HD : Hid (∀ W, Below w.heap.size w W → _) := fun W h => Head_any x.f0 x.f1 x.f2 c W (Kd.C_below hr h)
  have SH : Hid (∀ W, Below w.heap.size w W → _) := fun W h => shaped_any x A c W (Kd.C_below hr h) hc hw
  have PT : Hid (shapedM x = true → ∀ W, Below w.heap.size w W → _) := fun hs W h => parts_any x A c W (Kd.C_below hr h) hc hw hs
  have RC : Hid (∀ (y : S24) (A : Option Addr) (c : Nat) (W : World), y ∈ partsM x → Kd.C k24 W A y.f3.length y.f3 → y.f3.length ≤ c → Below w.heap.size w W → _) :=
    fun y A c W hy h1 h2 h3 => OK y A c W b h1 h2 (by have := (parts_mem hy).1; omega) (by have := (parts_mem hy).2; omega) (map_below hm h3)
  have CP : Hid (∀ (y : S24) (A : Option Addr) (c : Nat) (W : World), wid y ≤ wid x → Kd.C k24 W A y.f3.length y.f3 → y.f3.length ≤ c → Below w.heap.size w W → chkM T n y = 0 → _) :=
    fun y A c W hy h1 h2 h3 h4 => comp_any T n y A c W b h1 h2 (by omega) (map_below hm h3) h4
  have HPL : Hid ((partsM x).length < 9000002) := by have := parts_len x; show _ < 9000002; omega
  have HM : Hid _ := hm
  have HR : Hid _ := hr
  have HN : Hid (x.f3.length < 9000000) := by show x.f3.length < 9000000; omega
  have HCC : Hid (x.f3.length ≤ c) := hc
  clear hr hm OK x0 x1 b0 b1' sz hw hll hkw hs0
  obtain ⟨v, hv⟩ : ∃ v, v = chkM T (n + 1) x := ⟨_, rfl⟩
  rw [← hv]
  have HV : Hid _ := hv
  clear hv
  obtain ⟨h, hh⟩ : ∃ h, h = nameF x := ⟨_, rfl⟩
  have HH : Hid _ := hh
  clear hh
  have hname : (x.f0 == 3) = true ∧ headOf x.f0 x.f3 = h ∨ (x.f0 == 3) = false ∧ x.f2 = h := by
    rw [HH.out]
    unfold nameF headOf
    by_cases h3 : x.f0 = 3
    · exact .inl ⟨beq_iff_eq.mpr h3, by rw [if_pos h3, if_pos h3]⟩
    · exact .inr ⟨beq_eq_false_iff_ne.mpr h3, by rw [if_neg h3]⟩
  have HNM : Hid _ := hname
  clear hname
  generalize hl : x.f3 = l at *
  generalize ha : x.f0 = a at *
  generalize hmm : x.f1 = m at *
  generalize hs : x.f2 = s at *
  have HL : Hid (l = x.f3) := hl.symm
  have HA : Hid (a = x.f0) := ha.symm
  clear hl ha hmm hs
  obtain ⟨sh, hsh⟩ : ∃ q, q = shapedM x := ⟨_, rfl⟩
  rw [← hsh] at SH PT
  have HS : Hid _ := hsh
  clear hsh
  go_enter Tryz.func74, Tryz.ntmps74
  go_upto_region 1 with fail
  generalize ((w.alloc (.cells #[.map (some b)] 120)).alloc (Obj.cells #[.int .i64 a, .int .i64 m, .string s, .slice A l.length c] 24)) = X at *
  obtain ⟨p0, p1, p2, p3⟩ := cells4 X1.out
  go_wp2_with fail
  refine Calls.mono (SH.out _ B1.out) ?_
  rintro e w2 ⟨rfl, B2⟩
  have y0 : Hid _ := blk_below X0.out B2
  have y1 : Hid _ := blk_below X1.out B2
  have HB2 : Hid _ := below_after B1.out B2
  clear p0 p1 p2 p3 X0 X1 B1 B2 SH
  have X0 : Hid _ := y0.out
  have X1 : Hid _ := y1.out
  have B1 : Hid _ := HB2.out
  clear y0 y1 HB2
  cases sh with
  | false =>
    obtain rfl : v = 1 := by rw [HV.out]; exact chk_bad HS.out.symm
    go_wp2_with fail
    go_ret
    exact ⟨rfl, B1.out⟩
  | true =>
    obtain ⟨p0, p1, p2, p3⟩ := cells4 X1.out
    go_upto_if 21 with fail
    go_cut [5] from 14 to 120 (fun v5 wx => v5 = .string h ∧ Below w.heap.size w wx ∧ wx.heap[w.heap.size]? = some (.cells #[.map (some b)] 120 (0, 0)) ∧ wx.heap[w.heap.size + 1]? = some (.cells #[.int .i64 a, .int .i64 m, .string s, .slice A l.length c] 24 (0, 0)))
    case first =>
      rcases HNM.out with ⟨e3, eh⟩ | ⟨e3, eh⟩
      · go_wp2_with fail
        refine Calls.mono (HD.out _ B1.out) ?_
        rintro e w2 ⟨rfl, B2⟩
        have HB2 : Hid _ := below_after B1.out B2
        have y0 := blk_below X0.out B2
        have y1 := blk_below X1.out B2
        go_wp2_with fail
        go_meet
        case rel => exact ⟨by first | rfl | rw [eh], HB2.out, y0, y1⟩
      · go_wp2_with fail
        go_meet
        case rel => exact ⟨by first | rfl | rw [eh], B1.out, X0.out, X1.out⟩
    case rest =>
      clear p0 p1 p2 p3 B1 X0 X1
      obtain ⟨rfl, HB, y0, y1⟩ := hcut
      have B1 : Hid _ := HB
      have X0 : Hid _ := y0
      have X1 : Hid _ := y1
      clear HB y0 y1 HD HNM
      obtain ⟨q, hq⟩ : ∃ q, q = (manyM h).isSome := ⟨_, rfl⟩
      have HQ : Hid _ := hq
      clear hq
      go_upto_region 6 with fail
      go_cut [7] from 14 to 120 (fun v7 wx => v7 = .bool q ∧ Below w.heap.size w wx ∧ wx.heap[w.heap.size]? = some (.cells #[.map (some b)] 120 (0, 0)) ∧ wx.heap[w.heap.size + 1]? = some (.cells #[.int .i64 a, .int .i64 m, .string s, .slice A l.length c] 24 (0, 0)))
      case first =>
        go_wp2_with fail
        refine (heads_any _).mono ?_
        rintro e w3 ⟨bh, rfl, hb, hmh, B3⟩
        have HB3 : Hid _ := below_after B1.out B3
        have y0 : Hid _ := blk_below X0.out B3
        have y1 : Hid _ := blk_below X1.out B3
        clear B3
        have hz : (zeroValue 3).run Tryz.prog w3 = .ok (.int .i64 0) w3 := by go_simp
        have r2 := run_lookup_at keyText' hu132 hk hz hmh h true
        rw [if_pos rfl, look_many] at r2
        change (Instr.lookup 132 (.map (some bh)) (.string h) true).run Tryz.prog w3 = _ at r2
        clear hmh hz
        cases hmv : manyM h with
        | none =>
          rw [hmv] at r2
          simp only [Option.map_none, Option.getD_none, Option.isSome_none] at r2
          obtain rfl : q = false := by rw [HQ.out, hmv]; rfl
          clear hmv
          go_wp2_with fail
          go_meet
          case rel => exact ⟨rfl, HB3.out, y0.out, y1.out⟩
        | some mv =>
          rw [hmv] at r2
          simp only [Option.map_some, Option.getD_some, Option.isSome_some] at r2
          obtain rfl : q = true := by rw [HQ.out, hmv]; rfl
          clear hmv
          go_wp2_with fail
          go_meet
          case rel => exact ⟨rfl, HB3.out, y0.out, y1.out⟩
      case rest =>
        clear B1 X0 X1
        obtain ⟨rfl, HB, y0, y1⟩ := hcut
        have B1 : Hid _ := HB
        have X0 : Hid _ := y0
        have X1 : Hid _ := y1
        clear HB y0 y1
        obtain ⟨q2, hq2⟩ : ∃ q2, q2 = (q && decide (a = 1)) := ⟨_, rfl⟩
        have HQ2 : Hid _ := hq2
        clear hq2
        obtain ⟨p0, p1, p2, p3⟩ := cells4 X1.out
        go_upto_region 7 with fail
        go_cut [35] from 14 to 120 (fun v35 wx => v35 = .bool q2 ∧ Below w.heap.size w wx ∧ wx.heap[w.heap.size]? = some (.cells #[.map (some b)] 120 (0, 0)) ∧ wx.heap[w.heap.size + 1]? = some (.cells #[.int .i64 a, .int .i64 m, .string s, .slice A l.length c] 24 (0, 0)))
        case first =>
          have eq2 : (a == 1) = decide (a = 1) := by by_cases h1 : a = 1 <;> simp [h1]
          cases q with
          | false =>
            obtain rfl : q2 = false := HQ2.out
            go_wp2_with fail
            go_meet
            case rel => exact ⟨rfl, B1.out, X0.out, X1.out⟩
          | true =>
            obtain rfl : q2 = decide (a = 1) := by rw [HQ2.out]; rfl
            go_wp2_with fail
            go_meet
            case rel => exact ⟨by first | rfl | rw [eq2], B1.out, X0.out, X1.out⟩
        case rest =>
          clear p0 p1 p2 p3 B1 X0 X1
          obtain ⟨rfl, HB, y0, y1⟩ := hcut
          have B1 : Hid _ := HB
          have X0 : Hid _ := y0
          have X1 : Hid _ := y1
          clear HB y0 y1
          have HW6 : Hid (((manyM (nameF x)).isSome && decide (x.f0 = 1)) = q2) := by
            show ((manyM (nameF x)).isSome && decide (x.f0 = 1)) = q2
            rw [← HH.out, ← HA.out, HQ2.out, HQ.out]
          clear HQ2 HQ
          cases q2 with
          | true =>
            obtain rfl : v = 6 := by rw [HV.out, chk_out HS.out.symm (by rw [out_word6 HW6.out]; decide), out_word6 HW6.out]
            go_wp2_with fail
            go_ret
            exact ⟨rfl, B1.out⟩
          | false =>
            obtain ⟨rs, hrs⟩ : ∃ rs, rs = resM h := ⟨_, rfl⟩
            have HRS : Hid (resM (nameF x) = rs) := by show resM (nameF x) = rs; rw [hrs, HH.out]
            have RE : Hid (∀ W, _) := fun W => reserved_any h W
            rw [← hrs] at RE
            clear hrs
            go_wp2_with fail
            refine Calls.mono (RE.out _) ?_
            rintro e w4 ⟨rfl, B4⟩
            have HB4 : Hid _ := below_after B1.out B4
            have y0 : Hid _ := blk_below X0.out B4
            have y1 : Hid _ := blk_below X1.out B4
            clear B4 B1 X0 X1 RE
            have X0 : Hid _ := y0.out
            have X1 : Hid _ := y1.out
            have B1 : Hid _ := HB4.out
            clear y0 y1 HB4
            obtain ⟨p0, p1, p2, p3⟩ := cells4 X1.out
            have q0 := cell1 X0.out
            go_upto_if 38 with fail
            go_cut [] from 14 to 120 (fun wx => (resM (nameF x) = true ∨ ∃ r, findT T (nameF x) = some r ∧ r.f2 = max 0 ((l.length : Int) - 1)) ∧ Below w.heap.size w wx ∧ wx.heap[w.heap.size]? = some (.cells #[.map (some b)] 120 (0, 0)) ∧ wx.heap[w.heap.size + 1]? = some (.cells #[.int .i64 a, .int .i64 m, .string s, .slice A l.length c] 24 (0, 0)))
            case first =>
              cases rs with
              | true =>
                go_wp2_with fail
                go_meet
                case rel => exact ⟨.inl HRS.out, B1.out, X0.out, X1.out⟩
              | false =>
                have hz : (zeroValue 114).run Tryz.prog w4 = .ok (.agg #[.string ⟨#[]⟩, .int .i64 0, .int .i64 0, .bool false, .bool false]) w4 := by go_simp
                have r2 := run_lookup_at keyText' hu hk hz (map_below HM.out B1.out) h true
                rw [if_pos rfl, look_find] at r2
                change (Instr.lookup 116 (.map (some b)) (.string h) true).run Tryz.prog w4 = _ at r2
                clear hz
                cases hf : findT T h with
                | none =>
                  rw [hf] at r2
                  simp only [Option.map_none, Option.getD_none, Option.isSome_none] at r2
                  have ho : outT T x = 6 := out_none6 HW6.out HRS.out (by rw [← HH.out]; exact hf)
                  obtain rfl : v = 6 := by rw [HV.out, chk_out HS.out.symm (by rw [ho]; decide), ho]
                  clear ho hf
                  go_wp2_with fail
                  go_ret
                  exact ⟨rfl, by have h9 := B1.out; first | exact h9 | exact below_after h9 (by repeat (first | exact Below.refl _ _ | apply below_alloc | apply pw_below_drewN | apply below_drew1))⟩
                | some r =>
                  rw [hf] at r2
                  simp only [Option.map_some, Option.getD_some, Option.isSome_some] at r2
                  obtain ⟨rn, rk, rl, re, rw'⟩ := r
                  simp only [rowV] at r2
                  have HF : Hid (findT T (nameF x) = some ⟨rn, rk, rl, re, rw'⟩) := by show findT T (nameF x) = _; rw [← HH.out]; exact hf
                  clear hf
                  go_upto_region 11 with fail
                  clear p0 p1 p2 p3 q0 r2
                  have b5 : Below w4.heap.size w4 (w4.alloc (Obj.cells #[.string rn, .int .i64 rk, .int .i64 rl, .bool re, .bool rw'] 114)) := below_alloc (Below.refl _ _) _
                  have y5 := (MapKept.heap_alloc w4 (Obj.cells #[.string rn, .int .i64 rk, .int .i64 rl, .bool re, .bool rw'] 114)).1
                  have Z0 : Hid _ := blk_below X0.out b5
                  have Z1 : Hid _ := blk_below X1.out b5
                  have B2 : Hid _ := below_after B1.out b5
                  clear b5
                  generalize w4.alloc (Obj.cells #[.string rn, .int .i64 rk, .int .i64 rl, .bool re, .bool rw'] 114) = M at *
                  generalize w4.heap.size = bR at *
                  obtain ⟨y50, y51, y52, y53, y54⟩ := cells5 y5
                  obtain ⟨p0, p1, p2, p3⟩ := cells4 Z1.out
                  have hl9 : l.length < 9000000 := HN.out
                  clear y5
                  by_cases hn : rl = max 0 ((l.length : Int) - 1)
                  · have g1 : (rl != max 0 ((l.length : Int) - 1)) = false := bne_eq_false_iff_eq.mpr hn
                    have HRL : Hid _ := hn
                    clear hn
                    go_wp2_with fail
                    go_meet
                    case rel => exact ⟨.inr ⟨_, HF.out, HRL.out⟩, B2.out, Z0.out, Z1.out⟩
                  · have g1 : (rl != max 0 ((l.length : Int) - 1)) = true := bne_iff_ne.mpr hn
                    have ho : outT T x = 8 := out_len8 HW6.out HRS.out HF.out (by rw [← HL.out]; exact hn)
                    obtain rfl : v = 8 := by rw [HV.out, chk_out HS.out.symm (by rw [ho]; decide), ho]
                    clear ho hn
                    go_wp2_with fail
                    go_ret
                    exact ⟨rfl, B2.out⟩
            case rest =>
              clear p0 p1 p2 p3 q0 B1 X0 X1 HRS
              obtain ⟨hrow, HB, y0, y1⟩ := hcut
              have HROW : Hid _ := hrow
              have B1 : Hid _ := HB
              have X0 : Hid _ := y0
              have X1 : Hid _ := y1
              clear HB y0 y1 hrow
              have HLS : Hid (¬ a = 1 → a = 3 ∧ shapeH (headL l) l = true ∧ headL l = h) := by
                show ¬ a = 1 → _
                intro hne
                obtain ⟨h3, hsh⟩ := shaped_list HS.out.symm (by rw [← HA.out]; exact hne)
                exact ⟨by rw [HA.out]; exact h3, by rw [HL.out]; exact hsh, by rw [HL.out, ← name_list h3, HH.out]⟩
              have HNW : Hid ((manyM h).isSome = true → ¬ a = 1) := by
                show (manyM h).isSome = true → ¬ a = 1
                intro h1 h2
                have h9 := HW6.out
                rw [← HH.out, ← HA.out, h1, decide_eq_true h2] at h9
                cases h9
              have HK : Hid (∀ k1, 2 ≤ l.length → l[1]? = some k1 → ∀ W, Below w.heap.size w W → _) := fun k1 h2 hk1 W h => row_at (Kd.C_below HR.out h) (i := 1) (by omega) hk1
              obtain ⟨bad, hbad⟩ : ∃ q, q = decide (h = bitsB ∧ ((kid1 x).f1 < 1 ∨ 16 < (kid1 x).f1)) := ⟨_, rfl⟩
              have HBAD : Hid _ := hbad
              clear hbad
              obtain ⟨p0, p1, p2, p3⟩ := cells4 X1.out
              go_upto_region 15 with fail
              go_cut [75] from 14 to 120 (fun v75 wx => v75 = .bool bad ∧ Below w.heap.size w wx ∧ wx.heap[w.heap.size]? = some (.cells #[.map (some b)] 120 (0, 0)) ∧ wx.heap[w.heap.size + 1]? = some (.cells #[.int .i64 a, .int .i64 m, .string s, .slice A l.length c] 24 (0, 0)))
              case first =>
                by_cases hb : h = bitsB
                · have hne : ¬ a = 1 := HNW.out (by rw [hb]; simp [manyM])
                  obtain ⟨ha3, hsh, hh⟩ := HLS.out hne
                  have h2 : 2 ≤ l.length := (shape_list hsh).2
                  obtain ⟨k1, hk1⟩ : ∃ y, l[1]? = some y := ⟨l[1]'(by omega), List.getElem?_eq_getElem _⟩
                  obtain ⟨ad, A3, c3, rfl, g0, g1, g2, g3, g4, g5⟩ := HK.out k1 h2 hk1 _ B1.out
                  have hk : kid1 x = k1 := by unfold kid1; rw [← HL.out, hk1]; rfl
                  have g1 : wc.cell? ⟨ad.block, ad.off + 4 + 1, none⟩ = some (.int .i64 k1.f1) := g1
                  have l2 : 1 < l.length := by omega
                  have HB9 : Hid _ := hb
                  rw [hk] at HBAD
                  clear hne ha3 hsh hh h2 hk1 g0 g2 g3 g4 g5 hk hb
                  obtain ⟨y0, y1, y2, y3⟩ := k1
                  simp only [] at g1 HBAD
                  obtain rfl := HB9.out
                  unfold bitsB at *
                  by_cases c1 : y1 < 1
                  · have d1 : decide (y1 < 1) = true := decide_eq_true c1
                    obtain rfl : bad = true := by rw [HBAD.out]; simp [c1]
                    clear c1
                    go_wp2_with fail
                    go_meet
                    case rel => exact ⟨rfl, B1.out, X0.out, X1.out⟩
                  · have d1 : decide (y1 < 1) = false := decide_eq_false c1
                    by_cases c2 : 16 < y1
                    · have d2 : decide (16 < y1) = true := decide_eq_true c2
                      obtain rfl : bad = true := by rw [HBAD.out]; simp [c2]
                      clear c1 c2
                      go_wp2_with fail
                      go_meet
                      case rel => exact ⟨rfl, B1.out, X0.out, X1.out⟩
                    · have d2 : decide (16 < y1) = false := decide_eq_false c2
                      obtain rfl : bad = false := by rw [HBAD.out]; simp [c1, c2]
                      clear c1 c2
                      go_wp2_with fail
                      go_meet
                      case rel => exact ⟨rfl, B1.out, X0.out, X1.out⟩
                · have tb : (h.toList == [98, 105, 116, 115]) = false := byt_ne (by simp [ByteArray.toList_eq, bitsB]) hb
                  obtain rfl : bad = false := by rw [HBAD.out]; simp [hb]
                  clear hb
                  go_wp2_with fail
                  go_meet
                  case rel => exact ⟨rfl, B1.out, X0.out, X1.out⟩
              case rest =>
                clear p0 p1 p2 p3 B1 X0 X1
                obtain ⟨rfl, HB, y0, y1⟩ := hcut
                have B1 : Hid _ := HB
                have X0 : Hid _ := y0
                have X1 : Hid _ := y1
                clear HB y0 y1
                rw [HH.out] at HBAD
                cases bad with
                | true =>
                  have ho : outT T x = 8 := out_bits8 HW6.out (of_decide_eq_true HBAD.out.symm)
                  obtain rfl : v = 8 := by rw [HV.out, chk_out HS.out.symm (by rw [ho]; decide), ho]
                  clear ho
                  go_wp2_with fail
                  go_ret
                  exact ⟨rfl, B1.out⟩
                | false =>
                  have HO : Hid (outT T x = 0) := out_zero HW6.out (by have h9 := HROW.out; rw [HL.out] at h9; exact h9) (of_decide_eq_false HBAD.out.symm)
                  clear HBAD HROW HW6
                  obtain ⟨p0, p1, p2, p3⟩ := cells4 X1.out
                  go_wp2_with fail
                  refine Calls.mono (PT.out (by trivial) _ B1.out) ?_
                  rintro e w5 ⟨AP, cP, rfl, hcP, hCP, B5⟩
                  have HB5 : Hid _ := below_after B1.out B5
                  have y0 : Hid _ := blk_below X0.out B5
                  have y1 : Hid _ := blk_below X1.out B5
                  have PC : Hid _ := hCP
                  have PL : Hid _ := hcP
                  clear B5 B1 X0 X1 hCP hcP p0 p1 p2 p3 PT
                  obtain ⟨E, hE⟩ : ∃ E, E = chkL (chkM T n) (partsM x) := ⟨_, rfl⟩
                  have HE : Hid _ := hE
                  clear hE
                  obtain ⟨ps, hps⟩ : ∃ ps, ps = partsM x := ⟨_, rfl⟩
                  rw [← hps] at RC HPL PC PL HE ⊢
                  have HPS : Hid _ := hps
                  clear hps
                  have hpl : ps.length < 9000002 := HPL.out
                  have start : Hid (CkRel w5 T n ps E ps.length (.int .i64 ((0 : Nat) : Int)) w5) := ⟨0, rfl, by simp, Below.refl _ _, HE.out.symm⟩
                  have Y0 := y0
                  have Y1 := y1
                  clear y0 y1
                  go_wp2_with fail
                  go_loopg [79] ps.length (fun k x79 wr => CkRel w5 T n ps E k x79 wr)
                  case atStart => exact start.out
                  case round =>
                    clear start
                    obtain ⟨i, rfl, hki, Bl, hV⟩ := hrel
                    have BL : Hid _ := Bl
                    clear Bl
                    have X0 : Hid _ := blk_below Y0.out BL.out
                    have X1 : Hid _ := blk_below Y1.out BL.out
                    have HBr : Hid _ := below_after HB5.out BL.out
                    by_cases hlt : i < ps.length
                    · obtain ⟨g, rfl⟩ : ∃ g, gk = g + 1 := ⟨gk - 1, by omega⟩
                      have e1 : decide (i < ps.length) = true := decide_eq_true hlt
                      obtain ⟨y, hy⟩ : ∃ y, ps[i]? = some y := ⟨ps[i], by simp [hlt]⟩
                      have hym := List.mem_of_getElem? hy
                      obtain ⟨ad, A3, c3, rfl, g0, g1, g2, g3, g4, g5⟩ := row_at (Kd.C_below PC.out BL.out) hlt hy
                      rw [drop_at2 hy] at hV
                      have CY : Hid _ := g5
                      have HC3 : Hid _ := g4
                      have HYM : Hid _ := hym
                      have HV2 : Hid _ := hV
                      clear hy hym g4 g5 hV
                      go_upto_region 20 with fail
                      have b6 : Below wr.heap.size wr (wr.alloc (Obj.cells #[.int .i64 y.f0, .int .i64 y.f1, .string y.f2, .slice A3 y.f3.length c3] 24)) := below_alloc (Below.refl _ _) _
                      have y6 := (MapKept.heap_alloc wr (Obj.cells #[.int .i64 y.f0, .int .i64 y.f1, .string y.f2, .slice A3 y.f3.length c3] 24)).1
                      have RCY : Hid _ := RC.out y A3 c3 _ HYM.out (Kd.C_below CY.out b6) HC3.out (below_after HBr.out b6)
                      have q0 := cell1 (blk_below X0.out b6)
                      have B6 : Hid _ := below_after BL.out b6
                      have B7 : Hid _ := below_after HBr.out b6
                      clear b6 g0 g1 g2 g3 CY
                      generalize wr.alloc (Obj.cells #[.int .i64 y.f0, .int .i64 y.f1, .string y.f2, .slice A3 y.f3.length c3] 24) = M at *
                      generalize wr.heap.size = bR at *
                      obtain ⟨p0, p1, p2, p3⟩ := cells4 y6
                      clear y6
                      obtain ⟨ey, hey⟩ : ∃ q, q = chkM T n y := ⟨_, rfl⟩
                      rw [← hey] at RCY
                      have HEY : Hid _ := hey
                      clear hey
                      go_wp2_with fail
                      refine Calls.mono RCY.out ?_
                      rintro e w8 ⟨rfl, B8⟩
                      have B9 : Hid _ := below_after B6.out B8
                      have B10 : Hid _ := below_after B7.out B8
                      clear B8 B6 B7 p0 p1 p2 p3 q0
                      by_cases hz : ey = 0
                      · have g1 : (ey != 0) = false := bne_eq_false_iff_eq.mpr hz
                        have HZ : Hid _ := hz
                        clear hz
                        go_wp2_with fail
                        go_roundg g
                        case measure => omega
                        case rel => exact ⟨i + 1, by go_num, by omega, B9.out, by have h9 := HV2.out; simp only [chkL] at h9; rw [if_pos (by rw [← HEY.out]; exact HZ.out)] at h9; exact h9⟩
                      · have g1 : (ey != 0) = true := bne_iff_ne.mpr hz
                        have hE : E = ey := by have h9 := HV2.out; simp only [chkL] at h9; rw [if_neg (by rw [← HEY.out]; exact hz)] at h9; rw [← h9, HEY.out]
                        obtain rfl : v = ey := by rw [HV.out, chk_kids HS.out.symm HO.out (by rw [← HPS.out, ← HE.out, hE]; exact hz), ← HPS.out, ← HE.out, hE]
                        clear hz hE
                        go_wp2_with fail
                        go_ret
                        exact ⟨rfl, B10.out⟩
                    · have e1 : decide (i < ps.length) = false := decide_eq_false hlt
                      have hge2 : ps.length ≤ i := by omega
                      rw [List.drop_eq_nil_of_le (by omega)] at hV
                      have hE : E = 0 := hV.symm
                      have HLA : Hid (v = lastT T (compM T n) x) := by show v = _; rw [HV.out, chk_last HS.out.symm HO.out (by rw [← HPS.out, ← HE.out]; exact hE)]
                      have HKZ : Hid (∀ y ∈ ps, chkM T n y = 0) := chkL_zero (by rw [← HE.out]; exact hE)
                      clear hV hE HV HE RC PC PL
                      by_cases hset : h = setB
                      · have hne : ¬ a = 1 := HNW.out (by rw [hset]; simp [manyM, intB, boolB, bitsB, maybeB, funB, imapB, seqB, setB, bagB, mapB])
                        obtain ⟨ha3, hsh, hh⟩ := HLS.out hne
                        have h2 : 2 ≤ l.length := (shape_list hsh).2
                        obtain ⟨k1, hk1⟩ : ∃ y, l[1]? = some y := ⟨l[1]'(by omega), List.getElem?_eq_getElem _⟩
                        obtain ⟨ad, A3, c3, rfl, g0, g1, g2, g3, g4, g5⟩ := HK.out k1 h2 hk1 _ HBr.out
                        have hkk : kid1 x = k1 := by unfold kid1; rw [← HL.out, hk1]; rfl
                        have l2 : 1 < l.length := by omega
                        have g0 : wr.cell? ⟨ad.block, ad.off + 4, none⟩ = some (.int .i64 k1.f0) := g0
                        have g1 : wr.cell? ⟨ad.block, ad.off + 4 + 1, none⟩ = some (.int .i64 k1.f1) := g1
                        have g2 : wr.cell? ⟨ad.block, ad.off + 4 + 2, none⟩ = some (.string k1.f2) := g2
                        have g3 : wr.cell? ⟨ad.block, ad.off + 4 + 3, none⟩ = some (.slice A3 k1.f3.length c3) := g3
                        have GS : Hid (∀ W, Below wr.heap.size wr W → W.cell? ⟨w.heap.size, 0, none⟩ = some (.map (some b)) ∧ W.cell? ⟨w.heap.size + 1, 3, none⟩ = some (.slice (some ad) l.length c) ∧ W.cell? ⟨ad.block, ad.off + 4, none⟩ = some (.int .i64 k1.f0) ∧ W.cell? ⟨ad.block, ad.off + 4 + 1, none⟩ = some (.int .i64 k1.f1) ∧ W.cell? ⟨ad.block, ad.off + 4 + 2, none⟩ = some (.string k1.f2) ∧ W.cell? ⟨ad.block, ad.off + 4 + 3, none⟩ = some (.slice A3 k1.f3.length c3)) := fun W h => by
                          obtain ⟨p0, p1, p2, p3⟩ := cells4 (blk_below X1.out h)
                          exact ⟨cell1 (blk_below X0.out h), p3, pw_cell_below h g0, pw_cell_below h g1, pw_cell_below h g2, pw_cell_below h g3⟩
                        have hk0 : chkM T n k1 = 0 := HKZ.out k1 (by
                          rw [HPS.out, parts_drop (by rw [← HA.out]; exact ha3) (by rw [← HL.out, hh, hset]; simp [intB, boolB, bitsB, maybeB, funB, imapB, seqB, setB, bagB, mapB]) (by rw [← HL.out, hh, hset]; simp [intB, boolB, bitsB, maybeB, funB, imapB, seqB, setB, bagB, mapB]), ← HL.out]
                          exact List.mem_of_getElem? (i := 0) (by rw [List.getElem?_drop]; exact hk1))
                        have CM : Hid (∀ W, Below wr.heap.size wr W → _) := fun W h => CP.out k1 A3 c3 W (by have h5 := wid_mem (List.mem_of_getElem? hk1); have h6 := wid_kids x; rw [HL.out] at h5; omega) (Kd.C_below g5 h) g4 (below_after HBr.out h) hk0
                        obtain ⟨cm, hcm⟩ : ∃ q, q = compM T n k1 := ⟨_, rfl⟩
                        rw [← hcm] at CM
                        have e : v = (if cm = true then 0 else 8) := by rw [HLA.out]; unfold lastT; rw [← HH.out, hset, if_pos (by simp [intB, boolB, bitsB, maybeB, funB, imapB, seqB, setB, bagB, mapB]), hkk, ← hcm]
                        have HLE : Hid _ := e
                        have HB9 : Hid _ := hset
                        clear hset hne ha3 hsh hh h2 hk1 hkk g0 g1 g2 g3 g4 g5 hk0 hcm e HLA
                        obtain rfl := HB9.out
                        unfold setB at *
                        go_upto_region 29 with fail
                        refine wp_region_held_drew (S := fun W => W.cell? ⟨w.heap.size, 0, none⟩ = some (.map (some b)) ∧ W.cell? ⟨w.heap.size + 1, 3, none⟩ = some (.slice (some ad) l.length c) ∧ W.cell? ⟨ad.block, ad.off + 4, none⟩ = some (.int .i64 k1.f0) ∧ W.cell? ⟨ad.block, ad.off + 4 + 1, none⟩ = some (.int .i64 k1.f1) ∧ W.cell? ⟨ad.block, ad.off + 4 + 2, none⟩ = some (.string k1.f2) ∧ W.cell? ⟨ad.block, ad.off + 4 + 3, none⟩ = some (.slice A3 k1.f3.length c3)) (by kernel_rfl) (GS.out _ (below_drew (Below.refl _ _))) (fun hHeld => ?_)
                        refine takeV 0 (some 96) (.agg #[.map (some b)]) rfl rfl (by kernel_rfl) (by kernel_rfl) (by kernel_rfl) (fun _ _ _ h => h) (Or.inl ⟨by kernel_rfl, fun W hSw => by obtain ⟨s0, s1, s2, s3, s4, s5⟩ := hSw; go_simp⟩) hHeld ?_
                        try simp only [Act.put, List.setIfInBounds_toArray, List.set_cons_zero, List.set_cons_succ]
                        refine takeV 1 (some 97) (.pointer (some ⟨w.heap.size + 1, 3, none⟩)) rfl rfl (by kernel_rfl) (by kernel_rfl) (by kernel_rfl) (fun _ _ _ h => h) (Or.inl ⟨by kernel_rfl, fun W hSw => by obtain ⟨s0, s1, s2, s3, s4, s5⟩ := hSw; go_simp⟩) hHeld ?_
                        try simp only [Act.put, List.setIfInBounds_toArray, List.set_cons_zero, List.set_cons_succ]
                        refine takeV 2 (some 98) (.slice (some ad) l.length c) rfl rfl (by kernel_rfl) (by kernel_rfl) (by kernel_rfl) (fun _ _ _ h => h) (Or.inl ⟨by kernel_rfl, fun W hSw => by obtain ⟨s0, s1, s2, s3, s4, s5⟩ := hSw; go_simp⟩) hHeld ?_
                        try simp only [Act.put, List.setIfInBounds_toArray, List.set_cons_zero, List.set_cons_succ]
                        refine takeV 3 (some 99) (.pointer (some ⟨ad.block, ad.off + 4, none⟩)) rfl rfl (by kernel_rfl) (by kernel_rfl) (by kernel_rfl) (fun _ _ _ h => h) (Or.inl ⟨by kernel_rfl, fun W hSw => by obtain ⟨s0, s1, s2, s3, s4, s5⟩ := hSw; go_simp; first | done | (intro h9; exact absurd h9 (by omega))⟩) hHeld ?_
                        try simp only [Act.put, List.setIfInBounds_toArray, List.set_cons_zero, List.set_cons_succ]
                        refine takeV 4 (some 100) (formV k1.f0 k1.f1 k1.f2 A3 k1.f3.length c3) rfl rfl (by kernel_rfl) (by kernel_rfl) (by kernel_rfl) (fun _ _ _ h => h) (Or.inl ⟨by kernel_rfl, fun W hSw => by obtain ⟨s0, s1, s2, s3, s4, s5⟩ := hSw; go_simp⟩) hHeld ?_
                        try simp only [Act.put, List.setIfInBounds_toArray, List.set_cons_zero, List.set_cons_succ]
                        generalize hZ' : wr.drew = W0
                        have H0 : Hid (Below wr.heap.size wr W0) := (by subst hZ'; exact below_drew (Below.refl _ _))
                        clear hZ'
                        refine wpAnyH_ready (rs := [5]) (by kernel_rfl) (by simp) ?_
                        refine AllReadyH.cons rfl (fun K hK => ?_) AllReadyH.nil
                        clear hHeld
                        go_simp
                        go_at_call 77
                        refine Calls.mono (CM.out _ H0.out) ?_
                        rintro e W1 ⟨rfl, B7⟩
                        have H1 : Hid (Below wr.heap.size wr W1) := below_after H0.out B7
                        clear B7
                        go_wp2_with fail
                        refine hK.out _ _ (GS.out _ H1.out) (fun hHeld => ?_)
                        clear hK K
                        try simp only [Act.put, List.setIfInBounds_toArray, List.set_cons_zero, List.set_cons_succ]
                        cases cm with
                        | true =>
                          obtain rfl : v = 0 := by rw [HLE.out]; rfl
                          refine takeV 6 (some 102) (.bool false) rfl rfl (by kernel_rfl) (by kernel_rfl) (by kernel_rfl) (fun _ _ _ h => h) (Or.inl ⟨by kernel_rfl, fun W hSw => by go_simp⟩) hHeld ?_
                          try simp only [Act.put, List.setIfInBounds_toArray, List.set_cons_zero, List.set_cons_succ]
                          refine wpAnyH_done (by kernel_rfl) ?_ _
                          go_wp2_with fail
                          go_ret
                          exact ⟨rfl, below_after HBr.out H1.out⟩
                        | false =>
                          obtain rfl : v = 8 := by rw [HLE.out]; rfl
                          refine takeV 6 (some 102) (.bool true) rfl rfl (by kernel_rfl) (by kernel_rfl) (by kernel_rfl) (fun _ _ _ h => h) (Or.inl ⟨by kernel_rfl, fun W hSw => by go_simp⟩) hHeld ?_
                          try simp only [Act.put, List.setIfInBounds_toArray, List.set_cons_zero, List.set_cons_succ]
                          refine wpAnyH_done (by kernel_rfl) ?_ _
                          go_wp2_with fail
                          go_ret
                          exact ⟨rfl, below_after HBr.out H1.out⟩
                      have tset : (h.toList == [115, 101, 116]) = false := byt_ne (by simp [ByteArray.toList_eq, setB]) hset
                      have Nset : Hid (¬ h = setB) := hset
                      clear hset
                      by_cases hbag : h = bagB
                      · have hne : ¬ a = 1 := HNW.out (by rw [hbag]; simp [manyM, intB, boolB, bitsB, maybeB, funB, imapB, seqB, setB, bagB, mapB])
                        obtain ⟨ha3, hsh, hh⟩ := HLS.out hne
                        have h2 : 2 ≤ l.length := (shape_list hsh).2
                        obtain ⟨k1, hk1⟩ : ∃ y, l[1]? = some y := ⟨l[1]'(by omega), List.getElem?_eq_getElem _⟩
                        obtain ⟨ad, A3, c3, rfl, g0, g1, g2, g3, g4, g5⟩ := HK.out k1 h2 hk1 _ HBr.out
                        have hkk : kid1 x = k1 := by unfold kid1; rw [← HL.out, hk1]; rfl
                        have l2 : 1 < l.length := by omega
                        have g0 : wr.cell? ⟨ad.block, ad.off + 4, none⟩ = some (.int .i64 k1.f0) := g0
                        have g1 : wr.cell? ⟨ad.block, ad.off + 4 + 1, none⟩ = some (.int .i64 k1.f1) := g1
                        have g2 : wr.cell? ⟨ad.block, ad.off + 4 + 2, none⟩ = some (.string k1.f2) := g2
                        have g3 : wr.cell? ⟨ad.block, ad.off + 4 + 3, none⟩ = some (.slice A3 k1.f3.length c3) := g3
                        have GS : Hid (∀ W, Below wr.heap.size wr W → W.cell? ⟨w.heap.size, 0, none⟩ = some (.map (some b)) ∧ W.cell? ⟨w.heap.size + 1, 3, none⟩ = some (.slice (some ad) l.length c) ∧ W.cell? ⟨ad.block, ad.off + 4, none⟩ = some (.int .i64 k1.f0) ∧ W.cell? ⟨ad.block, ad.off + 4 + 1, none⟩ = some (.int .i64 k1.f1) ∧ W.cell? ⟨ad.block, ad.off + 4 + 2, none⟩ = some (.string k1.f2) ∧ W.cell? ⟨ad.block, ad.off + 4 + 3, none⟩ = some (.slice A3 k1.f3.length c3)) := fun W h => by
                          obtain ⟨p0, p1, p2, p3⟩ := cells4 (blk_below X1.out h)
                          exact ⟨cell1 (blk_below X0.out h), p3, pw_cell_below h g0, pw_cell_below h g1, pw_cell_below h g2, pw_cell_below h g3⟩
                        have hk0 : chkM T n k1 = 0 := HKZ.out k1 (by
                          rw [HPS.out, parts_drop (by rw [← HA.out]; exact ha3) (by rw [← HL.out, hh, hbag]; simp [intB, boolB, bitsB, maybeB, funB, imapB, seqB, setB, bagB, mapB]) (by rw [← HL.out, hh, hbag]; simp [intB, boolB, bitsB, maybeB, funB, imapB, seqB, setB, bagB, mapB]), ← HL.out]
                          exact List.mem_of_getElem? (i := 0) (by rw [List.getElem?_drop]; exact hk1))
                        have CM : Hid (∀ W, Below wr.heap.size wr W → _) := fun W h => CP.out k1 A3 c3 W (by have h5 := wid_mem (List.mem_of_getElem? hk1); have h6 := wid_kids x; rw [HL.out] at h5; omega) (Kd.C_below g5 h) g4 (below_after HBr.out h) hk0
                        obtain ⟨cm, hcm⟩ : ∃ q, q = compM T n k1 := ⟨_, rfl⟩
                        rw [← hcm] at CM
                        have e : v = (if cm = true then 0 else 8) := by rw [HLA.out]; unfold lastT; rw [← HH.out, hbag, if_pos (by simp [intB, boolB, bitsB, maybeB, funB, imapB, seqB, setB, bagB, mapB]), hkk, ← hcm]
                        have HLE : Hid _ := e
                        have HB9 : Hid _ := hbag
                        clear hbag hne ha3 hsh hh h2 hk1 hkk g0 g1 g2 g3 g4 g5 hk0 hcm e HLA
                        obtain rfl := HB9.out
                        unfold bagB at *
                        go_upto_region 29 with fail
                        refine wp_region_held_drew (S := fun W => W.cell? ⟨w.heap.size, 0, none⟩ = some (.map (some b)) ∧ W.cell? ⟨w.heap.size + 1, 3, none⟩ = some (.slice (some ad) l.length c) ∧ W.cell? ⟨ad.block, ad.off + 4, none⟩ = some (.int .i64 k1.f0) ∧ W.cell? ⟨ad.block, ad.off + 4 + 1, none⟩ = some (.int .i64 k1.f1) ∧ W.cell? ⟨ad.block, ad.off + 4 + 2, none⟩ = some (.string k1.f2) ∧ W.cell? ⟨ad.block, ad.off + 4 + 3, none⟩ = some (.slice A3 k1.f3.length c3)) (by kernel_rfl) (GS.out _ (below_drew (Below.refl _ _))) (fun hHeld => ?_)
                        refine takeV 0 (some 96) (.agg #[.map (some b)]) rfl rfl (by kernel_rfl) (by kernel_rfl) (by kernel_rfl) (fun _ _ _ h => h) (Or.inl ⟨by kernel_rfl, fun W hSw => by obtain ⟨s0, s1, s2, s3, s4, s5⟩ := hSw; go_simp⟩) hHeld ?_
                        try simp only [Act.put, List.setIfInBounds_toArray, List.set_cons_zero, List.set_cons_succ]
                        refine takeV 1 (some 97) (.pointer (some ⟨w.heap.size + 1, 3, none⟩)) rfl rfl (by kernel_rfl) (by kernel_rfl) (by kernel_rfl) (fun _ _ _ h => h) (Or.inl ⟨by kernel_rfl, fun W hSw => by obtain ⟨s0, s1, s2, s3, s4, s5⟩ := hSw; go_simp⟩) hHeld ?_
                        try simp only [Act.put, List.setIfInBounds_toArray, List.set_cons_zero, List.set_cons_succ]
                        refine takeV 2 (some 98) (.slice (some ad) l.length c) rfl rfl (by kernel_rfl) (by kernel_rfl) (by kernel_rfl) (fun _ _ _ h => h) (Or.inl ⟨by kernel_rfl, fun W hSw => by obtain ⟨s0, s1, s2, s3, s4, s5⟩ := hSw; go_simp⟩) hHeld ?_
                        try simp only [Act.put, List.setIfInBounds_toArray, List.set_cons_zero, List.set_cons_succ]
                        refine takeV 3 (some 99) (.pointer (some ⟨ad.block, ad.off + 4, none⟩)) rfl rfl (by kernel_rfl) (by kernel_rfl) (by kernel_rfl) (fun _ _ _ h => h) (Or.inl ⟨by kernel_rfl, fun W hSw => by obtain ⟨s0, s1, s2, s3, s4, s5⟩ := hSw; go_simp; first | done | (intro h9; exact absurd h9 (by omega))⟩) hHeld ?_
                        try simp only [Act.put, List.setIfInBounds_toArray, List.set_cons_zero, List.set_cons_succ]
                        refine takeV 4 (some 100) (formV k1.f0 k1.f1 k1.f2 A3 k1.f3.length c3) rfl rfl (by kernel_rfl) (by kernel_rfl) (by kernel_rfl) (fun _ _ _ h => h) (Or.inl ⟨by kernel_rfl, fun W hSw => by obtain ⟨s0, s1, s2, s3, s4, s5⟩ := hSw; go_simp⟩) hHeld ?_
                        try simp only [Act.put, List.setIfInBounds_toArray, List.set_cons_zero, List.set_cons_succ]
                        generalize hZ' : wr.drew = W0
                        have H0 : Hid (Below wr.heap.size wr W0) := (by subst hZ'; exact below_drew (Below.refl _ _))
                        clear hZ'
                        refine wpAnyH_ready (rs := [5]) (by kernel_rfl) (by simp) ?_
                        refine AllReadyH.cons rfl (fun K hK => ?_) AllReadyH.nil
                        clear hHeld
                        go_simp
                        go_at_call 77
                        refine Calls.mono (CM.out _ H0.out) ?_
                        rintro e W1 ⟨rfl, B7⟩
                        have H1 : Hid (Below wr.heap.size wr W1) := below_after H0.out B7
                        clear B7
                        go_wp2_with fail
                        refine hK.out _ _ (GS.out _ H1.out) (fun hHeld => ?_)
                        clear hK K
                        try simp only [Act.put, List.setIfInBounds_toArray, List.set_cons_zero, List.set_cons_succ]
                        cases cm with
                        | true =>
                          obtain rfl : v = 0 := by rw [HLE.out]; rfl
                          refine takeV 6 (some 102) (.bool false) rfl rfl (by kernel_rfl) (by kernel_rfl) (by kernel_rfl) (fun _ _ _ h => h) (Or.inl ⟨by kernel_rfl, fun W hSw => by go_simp⟩) hHeld ?_
                          try simp only [Act.put, List.setIfInBounds_toArray, List.set_cons_zero, List.set_cons_succ]
                          refine wpAnyH_done (by kernel_rfl) ?_ _
                          go_wp2_with fail
                          go_ret
                          exact ⟨rfl, below_after HBr.out H1.out⟩
                        | false =>
                          obtain rfl : v = 8 := by rw [HLE.out]; rfl
                          refine takeV 6 (some 102) (.bool true) rfl rfl (by kernel_rfl) (by kernel_rfl) (by kernel_rfl) (fun _ _ _ h => h) (Or.inl ⟨by kernel_rfl, fun W hSw => by go_simp⟩) hHeld ?_
                          try simp only [Act.put, List.setIfInBounds_toArray, List.set_cons_zero, List.set_cons_succ]
                          refine wpAnyH_done (by kernel_rfl) ?_ _
                          go_wp2_with fail
                          go_ret
                          exact ⟨rfl, below_after HBr.out H1.out⟩
                      have tbag : (h.toList == [98, 97, 103]) = false := byt_ne (by simp [ByteArray.toList_eq, bagB]) hbag
                      have Nbag : Hid (¬ h = bagB) := hbag
                      clear hbag
                      by_cases hmap : h = mapB
                      · have hne : ¬ a = 1 := HNW.out (by rw [hmap]; simp [manyM, intB, boolB, bitsB, maybeB, funB, imapB, seqB, setB, bagB, mapB])
                        obtain ⟨ha3, hsh, hh⟩ := HLS.out hne
                        have h2 : 2 ≤ l.length := (shape_list hsh).2
                        obtain ⟨k1, hk1⟩ : ∃ y, l[1]? = some y := ⟨l[1]'(by omega), List.getElem?_eq_getElem _⟩
                        obtain ⟨ad, A3, c3, rfl, g0, g1, g2, g3, g4, g5⟩ := HK.out k1 h2 hk1 _ HBr.out
                        have hkk : kid1 x = k1 := by unfold kid1; rw [← HL.out, hk1]; rfl
                        have l2 : 1 < l.length := by omega
                        have g0 : wr.cell? ⟨ad.block, ad.off + 4, none⟩ = some (.int .i64 k1.f0) := g0
                        have g1 : wr.cell? ⟨ad.block, ad.off + 4 + 1, none⟩ = some (.int .i64 k1.f1) := g1
                        have g2 : wr.cell? ⟨ad.block, ad.off + 4 + 2, none⟩ = some (.string k1.f2) := g2
                        have g3 : wr.cell? ⟨ad.block, ad.off + 4 + 3, none⟩ = some (.slice A3 k1.f3.length c3) := g3
                        have GS : Hid (∀ W, Below wr.heap.size wr W → W.cell? ⟨w.heap.size, 0, none⟩ = some (.map (some b)) ∧ W.cell? ⟨w.heap.size + 1, 3, none⟩ = some (.slice (some ad) l.length c) ∧ W.cell? ⟨ad.block, ad.off + 4, none⟩ = some (.int .i64 k1.f0) ∧ W.cell? ⟨ad.block, ad.off + 4 + 1, none⟩ = some (.int .i64 k1.f1) ∧ W.cell? ⟨ad.block, ad.off + 4 + 2, none⟩ = some (.string k1.f2) ∧ W.cell? ⟨ad.block, ad.off + 4 + 3, none⟩ = some (.slice A3 k1.f3.length c3)) := fun W h => by
                          obtain ⟨p0, p1, p2, p3⟩ := cells4 (blk_below X1.out h)
                          exact ⟨cell1 (blk_below X0.out h), p3, pw_cell_below h g0, pw_cell_below h g1, pw_cell_below h g2, pw_cell_below h g3⟩
                        have hk0 : chkM T n k1 = 0 := HKZ.out k1 (by
                          rw [HPS.out, parts_drop (by rw [← HA.out]; exact ha3) (by rw [← HL.out, hh, hmap]; simp [intB, boolB, bitsB, maybeB, funB, imapB, seqB, setB, bagB, mapB]) (by rw [← HL.out, hh, hmap]; simp [intB, boolB, bitsB, maybeB, funB, imapB, seqB, setB, bagB, mapB]), ← HL.out]
                          exact List.mem_of_getElem? (i := 0) (by rw [List.getElem?_drop]; exact hk1))
                        have CM : Hid (∀ W, Below wr.heap.size wr W → _) := fun W h => CP.out k1 A3 c3 W (by have h5 := wid_mem (List.mem_of_getElem? hk1); have h6 := wid_kids x; rw [HL.out] at h5; omega) (Kd.C_below g5 h) g4 (below_after HBr.out h) hk0
                        obtain ⟨cm, hcm⟩ : ∃ q, q = compM T n k1 := ⟨_, rfl⟩
                        rw [← hcm] at CM
                        have e : v = (if cm = true then 0 else 8) := by rw [HLA.out]; unfold lastT; rw [← HH.out, hmap, if_pos (by simp [intB, boolB, bitsB, maybeB, funB, imapB, seqB, setB, bagB, mapB]), hkk, ← hcm]
                        have HLE : Hid _ := e
                        have HB9 : Hid _ := hmap
                        clear hmap hne ha3 hsh hh h2 hk1 hkk g0 g1 g2 g3 g4 g5 hk0 hcm e HLA
                        obtain rfl := HB9.out
                        unfold mapB at *
                        go_upto_region 29 with fail
                        refine wp_region_held_drew (S := fun W => W.cell? ⟨w.heap.size, 0, none⟩ = some (.map (some b)) ∧ W.cell? ⟨w.heap.size + 1, 3, none⟩ = some (.slice (some ad) l.length c) ∧ W.cell? ⟨ad.block, ad.off + 4, none⟩ = some (.int .i64 k1.f0) ∧ W.cell? ⟨ad.block, ad.off + 4 + 1, none⟩ = some (.int .i64 k1.f1) ∧ W.cell? ⟨ad.block, ad.off + 4 + 2, none⟩ = some (.string k1.f2) ∧ W.cell? ⟨ad.block, ad.off + 4 + 3, none⟩ = some (.slice A3 k1.f3.length c3)) (by kernel_rfl) (GS.out _ (below_drew (Below.refl _ _))) (fun hHeld => ?_)
                        refine takeV 0 (some 96) (.agg #[.map (some b)]) rfl rfl (by kernel_rfl) (by kernel_rfl) (by kernel_rfl) (fun _ _ _ h => h) (Or.inl ⟨by kernel_rfl, fun W hSw => by obtain ⟨s0, s1, s2, s3, s4, s5⟩ := hSw; go_simp⟩) hHeld ?_
                        try simp only [Act.put, List.setIfInBounds_toArray, List.set_cons_zero, List.set_cons_succ]
                        refine takeV 1 (some 97) (.pointer (some ⟨w.heap.size + 1, 3, none⟩)) rfl rfl (by kernel_rfl) (by kernel_rfl) (by kernel_rfl) (fun _ _ _ h => h) (Or.inl ⟨by kernel_rfl, fun W hSw => by obtain ⟨s0, s1, s2, s3, s4, s5⟩ := hSw; go_simp⟩) hHeld ?_
                        try simp only [Act.put, List.setIfInBounds_toArray, List.set_cons_zero, List.set_cons_succ]
                        refine takeV 2 (some 98) (.slice (some ad) l.length c) rfl rfl (by kernel_rfl) (by kernel_rfl) (by kernel_rfl) (fun _ _ _ h => h) (Or.inl ⟨by kernel_rfl, fun W hSw => by obtain ⟨s0, s1, s2, s3, s4, s5⟩ := hSw; go_simp⟩) hHeld ?_
                        try simp only [Act.put, List.setIfInBounds_toArray, List.set_cons_zero, List.set_cons_succ]
                        refine takeV 3 (some 99) (.pointer (some ⟨ad.block, ad.off + 4, none⟩)) rfl rfl (by kernel_rfl) (by kernel_rfl) (by kernel_rfl) (fun _ _ _ h => h) (Or.inl ⟨by kernel_rfl, fun W hSw => by obtain ⟨s0, s1, s2, s3, s4, s5⟩ := hSw; go_simp; first | done | (intro h9; exact absurd h9 (by omega))⟩) hHeld ?_
                        try simp only [Act.put, List.setIfInBounds_toArray, List.set_cons_zero, List.set_cons_succ]
                        refine takeV 4 (some 100) (formV k1.f0 k1.f1 k1.f2 A3 k1.f3.length c3) rfl rfl (by kernel_rfl) (by kernel_rfl) (by kernel_rfl) (fun _ _ _ h => h) (Or.inl ⟨by kernel_rfl, fun W hSw => by obtain ⟨s0, s1, s2, s3, s4, s5⟩ := hSw; go_simp⟩) hHeld ?_
                        try simp only [Act.put, List.setIfInBounds_toArray, List.set_cons_zero, List.set_cons_succ]
                        generalize hZ' : wr.drew = W0
                        have H0 : Hid (Below wr.heap.size wr W0) := (by subst hZ'; exact below_drew (Below.refl _ _))
                        clear hZ'
                        refine wpAnyH_ready (rs := [5]) (by kernel_rfl) (by simp) ?_
                        refine AllReadyH.cons rfl (fun K hK => ?_) AllReadyH.nil
                        clear hHeld
                        go_simp
                        go_at_call 77
                        refine Calls.mono (CM.out _ H0.out) ?_
                        rintro e W1 ⟨rfl, B7⟩
                        have H1 : Hid (Below wr.heap.size wr W1) := below_after H0.out B7
                        clear B7
                        go_wp2_with fail
                        refine hK.out _ _ (GS.out _ H1.out) (fun hHeld => ?_)
                        clear hK K
                        try simp only [Act.put, List.setIfInBounds_toArray, List.set_cons_zero, List.set_cons_succ]
                        cases cm with
                        | true =>
                          obtain rfl : v = 0 := by rw [HLE.out]; rfl
                          refine takeV 6 (some 102) (.bool false) rfl rfl (by kernel_rfl) (by kernel_rfl) (by kernel_rfl) (fun _ _ _ h => h) (Or.inl ⟨by kernel_rfl, fun W hSw => by go_simp⟩) hHeld ?_
                          try simp only [Act.put, List.setIfInBounds_toArray, List.set_cons_zero, List.set_cons_succ]
                          refine wpAnyH_done (by kernel_rfl) ?_ _
                          go_wp2_with fail
                          go_ret
                          exact ⟨rfl, below_after HBr.out H1.out⟩
                        | false =>
                          obtain rfl : v = 8 := by rw [HLE.out]; rfl
                          refine takeV 6 (some 102) (.bool true) rfl rfl (by kernel_rfl) (by kernel_rfl) (by kernel_rfl) (fun _ _ _ h => h) (Or.inl ⟨by kernel_rfl, fun W hSw => by go_simp⟩) hHeld ?_
                          try simp only [Act.put, List.setIfInBounds_toArray, List.set_cons_zero, List.set_cons_succ]
                          refine wpAnyH_done (by kernel_rfl) ?_ _
                          go_wp2_with fail
                          go_ret
                          exact ⟨rfl, below_after HBr.out H1.out⟩
                      have tmap : (h.toList == [109, 97, 112]) = false := byt_ne (by simp [ByteArray.toList_eq, mapB]) hmap
                      have Nmap : Hid (¬ h = mapB) := hmap
                      clear hmap
                      by_cases himap : h = imapB
                      · have hne : ¬ a = 1 := HNW.out (by rw [himap]; simp [manyM, intB, boolB, bitsB, maybeB, funB, imapB, seqB, setB, bagB, mapB])
                        obtain ⟨ha3, hsh, hh⟩ := HLS.out hne
                        have h2 : 2 ≤ l.length := (shape_list hsh).2
                        obtain ⟨k1, hk1⟩ : ∃ y, l[1]? = some y := ⟨l[1]'(by omega), List.getElem?_eq_getElem _⟩
                        obtain ⟨ad, A3, c3, rfl, g0, g1, g2, g3, g4, g5⟩ := HK.out k1 h2 hk1 _ HBr.out
                        have hkk : kid1 x = k1 := by unfold kid1; rw [← HL.out, hk1]; rfl
                        have l2 : 1 < l.length := by omega
                        have g0 : wr.cell? ⟨ad.block, ad.off + 4, none⟩ = some (.int .i64 k1.f0) := g0
                        have g1 : wr.cell? ⟨ad.block, ad.off + 4 + 1, none⟩ = some (.int .i64 k1.f1) := g1
                        have g2 : wr.cell? ⟨ad.block, ad.off + 4 + 2, none⟩ = some (.string k1.f2) := g2
                        have g3 : wr.cell? ⟨ad.block, ad.off + 4 + 3, none⟩ = some (.slice A3 k1.f3.length c3) := g3
                        have GS : Hid (∀ W, Below wr.heap.size wr W → W.cell? ⟨w.heap.size, 0, none⟩ = some (.map (some b)) ∧ W.cell? ⟨w.heap.size + 1, 3, none⟩ = some (.slice (some ad) l.length c) ∧ W.cell? ⟨ad.block, ad.off + 4, none⟩ = some (.int .i64 k1.f0) ∧ W.cell? ⟨ad.block, ad.off + 4 + 1, none⟩ = some (.int .i64 k1.f1) ∧ W.cell? ⟨ad.block, ad.off + 4 + 2, none⟩ = some (.string k1.f2) ∧ W.cell? ⟨ad.block, ad.off + 4 + 3, none⟩ = some (.slice A3 k1.f3.length c3)) := fun W h => by
                          obtain ⟨p0, p1, p2, p3⟩ := cells4 (blk_below X1.out h)
                          exact ⟨cell1 (blk_below X0.out h), p3, pw_cell_below h g0, pw_cell_below h g1, pw_cell_below h g2, pw_cell_below h g3⟩
                        have hk0 : chkM T n k1 = 0 := HKZ.out k1 (by
                          rw [HPS.out, parts_drop (by rw [← HA.out]; exact ha3) (by rw [← HL.out, hh, himap]; simp [intB, boolB, bitsB, maybeB, funB, imapB, seqB, setB, bagB, mapB]) (by rw [← HL.out, hh, himap]; simp [intB, boolB, bitsB, maybeB, funB, imapB, seqB, setB, bagB, mapB]), ← HL.out]
                          exact List.mem_of_getElem? (i := 0) (by rw [List.getElem?_drop]; exact hk1))
                        have CM : Hid (∀ W, Below wr.heap.size wr W → _) := fun W h => CP.out k1 A3 c3 W (by have h5 := wid_mem (List.mem_of_getElem? hk1); have h6 := wid_kids x; rw [HL.out] at h5; omega) (Kd.C_below g5 h) g4 (below_after HBr.out h) hk0
                        obtain ⟨cm, hcm⟩ : ∃ q, q = compM T n k1 := ⟨_, rfl⟩
                        rw [← hcm] at CM
                        have e : v = (if cm = true then 0 else 8) := by rw [HLA.out]; unfold lastT; rw [← HH.out, himap, if_pos (by simp [intB, boolB, bitsB, maybeB, funB, imapB, seqB, setB, bagB, mapB]), hkk, ← hcm]
                        have HLE : Hid _ := e
                        have HB9 : Hid _ := himap
                        clear himap hne ha3 hsh hh h2 hk1 hkk g0 g1 g2 g3 g4 g5 hk0 hcm e HLA
                        obtain rfl := HB9.out
                        unfold imapB at *
                        go_upto_region 29 with fail
                        refine wp_region_held_drew (S := fun W => W.cell? ⟨w.heap.size, 0, none⟩ = some (.map (some b)) ∧ W.cell? ⟨w.heap.size + 1, 3, none⟩ = some (.slice (some ad) l.length c) ∧ W.cell? ⟨ad.block, ad.off + 4, none⟩ = some (.int .i64 k1.f0) ∧ W.cell? ⟨ad.block, ad.off + 4 + 1, none⟩ = some (.int .i64 k1.f1) ∧ W.cell? ⟨ad.block, ad.off + 4 + 2, none⟩ = some (.string k1.f2) ∧ W.cell? ⟨ad.block, ad.off + 4 + 3, none⟩ = some (.slice A3 k1.f3.length c3)) (by kernel_rfl) (GS.out _ (below_drew (Below.refl _ _))) (fun hHeld => ?_)
                        refine takeV 0 (some 96) (.agg #[.map (some b)]) rfl rfl (by kernel_rfl) (by kernel_rfl) (by kernel_rfl) (fun _ _ _ h => h) (Or.inl ⟨by kernel_rfl, fun W hSw => by obtain ⟨s0, s1, s2, s3, s4, s5⟩ := hSw; go_simp⟩) hHeld ?_
                        try simp only [Act.put, List.setIfInBounds_toArray, List.set_cons_zero, List.set_cons_succ]
                        refine takeV 1 (some 97) (.pointer (some ⟨w.heap.size + 1, 3, none⟩)) rfl rfl (by kernel_rfl) (by kernel_rfl) (by kernel_rfl) (fun _ _ _ h => h) (Or.inl ⟨by kernel_rfl, fun W hSw => by obtain ⟨s0, s1, s2, s3, s4, s5⟩ := hSw; go_simp⟩) hHeld ?_
                        try simp only [Act.put, List.setIfInBounds_toArray, List.set_cons_zero, List.set_cons_succ]
                        refine takeV 2 (some 98) (.slice (some ad) l.length c) rfl rfl (by kernel_rfl) (by kernel_rfl) (by kernel_rfl) (fun _ _ _ h => h) (Or.inl ⟨by kernel_rfl, fun W hSw => by obtain ⟨s0, s1, s2, s3, s4, s5⟩ := hSw; go_simp⟩) hHeld ?_
                        try simp only [Act.put, List.setIfInBounds_toArray, List.set_cons_zero, List.set_cons_succ]
                        refine takeV 3 (some 99) (.pointer (some ⟨ad.block, ad.off + 4, none⟩)) rfl rfl (by kernel_rfl) (by kernel_rfl) (by kernel_rfl) (fun _ _ _ h => h) (Or.inl ⟨by kernel_rfl, fun W hSw => by obtain ⟨s0, s1, s2, s3, s4, s5⟩ := hSw; go_simp; first | done | (intro h9; exact absurd h9 (by omega))⟩) hHeld ?_
                        try simp only [Act.put, List.setIfInBounds_toArray, List.set_cons_zero, List.set_cons_succ]
                        refine takeV 4 (some 100) (formV k1.f0 k1.f1 k1.f2 A3 k1.f3.length c3) rfl rfl (by kernel_rfl) (by kernel_rfl) (by kernel_rfl) (fun _ _ _ h => h) (Or.inl ⟨by kernel_rfl, fun W hSw => by obtain ⟨s0, s1, s2, s3, s4, s5⟩ := hSw; go_simp⟩) hHeld ?_
                        try simp only [Act.put, List.setIfInBounds_toArray, List.set_cons_zero, List.set_cons_succ]
                        generalize hZ' : wr.drew = W0
                        have H0 : Hid (Below wr.heap.size wr W0) := (by subst hZ'; exact below_drew (Below.refl _ _))
                        clear hZ'
                        refine wpAnyH_ready (rs := [5]) (by kernel_rfl) (by simp) ?_
                        refine AllReadyH.cons rfl (fun K hK => ?_) AllReadyH.nil
                        clear hHeld
                        go_simp
                        go_at_call 77
                        refine Calls.mono (CM.out _ H0.out) ?_
                        rintro e W1 ⟨rfl, B7⟩
                        have H1 : Hid (Below wr.heap.size wr W1) := below_after H0.out B7
                        clear B7
                        go_wp2_with fail
                        refine hK.out _ _ (GS.out _ H1.out) (fun hHeld => ?_)
                        clear hK K
                        try simp only [Act.put, List.setIfInBounds_toArray, List.set_cons_zero, List.set_cons_succ]
                        cases cm with
                        | true =>
                          obtain rfl : v = 0 := by rw [HLE.out]; rfl
                          refine takeV 6 (some 102) (.bool false) rfl rfl (by kernel_rfl) (by kernel_rfl) (by kernel_rfl) (fun _ _ _ h => h) (Or.inl ⟨by kernel_rfl, fun W hSw => by go_simp⟩) hHeld ?_
                          try simp only [Act.put, List.setIfInBounds_toArray, List.set_cons_zero, List.set_cons_succ]
                          refine wpAnyH_done (by kernel_rfl) ?_ _
                          go_wp2_with fail
                          go_ret
                          exact ⟨rfl, below_after HBr.out H1.out⟩
                        | false =>
                          obtain rfl : v = 8 := by rw [HLE.out]; rfl
                          refine takeV 6 (some 102) (.bool true) rfl rfl (by kernel_rfl) (by kernel_rfl) (by kernel_rfl) (fun _ _ _ h => h) (Or.inl ⟨by kernel_rfl, fun W hSw => by go_simp⟩) hHeld ?_
                          try simp only [Act.put, List.setIfInBounds_toArray, List.set_cons_zero, List.set_cons_succ]
                          refine wpAnyH_done (by kernel_rfl) ?_ _
                          go_wp2_with fail
                          go_ret
                          exact ⟨rfl, below_after HBr.out H1.out⟩
                      have timap : (h.toList == [105, 109, 97, 112]) = false := byt_ne (by simp [ByteArray.toList_eq, imapB]) himap
                      have Nimap : Hid (¬ h = imapB) := himap
                      clear himap
                      by_cases hmaybe : h = maybeB
                      · have hne : ¬ a = 1 := HNW.out (by rw [hmaybe]; simp [manyM, intB, boolB, bitsB, maybeB, funB, imapB, seqB, setB, bagB, mapB])
                        obtain ⟨ha3, hsh, hh⟩ := HLS.out hne
                        have h2 : 2 ≤ l.length := (shape_list hsh).2
                        obtain ⟨k1, hk1⟩ : ∃ y, l[1]? = some y := ⟨l[1]'(by omega), List.getElem?_eq_getElem _⟩
                        obtain ⟨ad, A3, c3, rfl, g0, g1, g2, g3, g4, g5⟩ := HK.out k1 h2 hk1 _ HBr.out
                        have hkk : kid1 x = k1 := by unfold kid1; rw [← HL.out, hk1]; rfl
                        have l2 : 1 < l.length := by omega
                        have g0 : wr.cell? ⟨ad.block, ad.off + 4, none⟩ = some (.int .i64 k1.f0) := g0
                        have g1 : wr.cell? ⟨ad.block, ad.off + 4 + 1, none⟩ = some (.int .i64 k1.f1) := g1
                        have g2 : wr.cell? ⟨ad.block, ad.off + 4 + 2, none⟩ = some (.string k1.f2) := g2
                        have g3 : wr.cell? ⟨ad.block, ad.off + 4 + 3, none⟩ = some (.slice A3 k1.f3.length c3) := g3
                        have GS : Hid (∀ W, Below wr.heap.size wr W → W.cell? ⟨w.heap.size, 0, none⟩ = some (.map (some b)) ∧ W.cell? ⟨w.heap.size + 1, 3, none⟩ = some (.slice (some ad) l.length c) ∧ W.cell? ⟨ad.block, ad.off + 4, none⟩ = some (.int .i64 k1.f0) ∧ W.cell? ⟨ad.block, ad.off + 4 + 1, none⟩ = some (.int .i64 k1.f1) ∧ W.cell? ⟨ad.block, ad.off + 4 + 2, none⟩ = some (.string k1.f2) ∧ W.cell? ⟨ad.block, ad.off + 4 + 3, none⟩ = some (.slice A3 k1.f3.length c3)) := fun W h => by
                          obtain ⟨p0, p1, p2, p3⟩ := cells4 (blk_below X1.out h)
                          exact ⟨cell1 (blk_below X0.out h), p3, pw_cell_below h g0, pw_cell_below h g1, pw_cell_below h g2, pw_cell_below h g3⟩
                        have e : v = (if kindT T k1.f2 = 3 ∨ kindT T k1.f2 = 4 then 0 else 8) := by rw [HLA.out]; unfold lastT; rw [← HH.out, hmaybe, if_neg (by simp [intB, boolB, bitsB, maybeB, funB, imapB, seqB, setB, bagB, mapB]), if_pos rfl, hkk]
                        have HLE : Hid _ := e
                        have HB9 : Hid _ := hmaybe
                        have LK0 : Hid (∀ W, MapAt W b (kvs textV (tabV T)) → ∃ rn rk rl re rw', rk = kindT T k1.f2 ∧ ∀ W, MapAt W b (kvs textV (tabV T)) → (Instr.lookup 116 (.map (some b)) (.string k1.f2) false).run Tryz.prog W = .ok (.agg #[.string rn, .int .i64 rk, .int .i64 rl, .bool re, .bool rw']) W) := by
                          show ∀ W, _
                          intro W hW
                          cases hf : findT T k1.f2 with
                          | none =>
                            refine ⟨⟨#[]⟩, 0, 0, false, false, by unfold kindT; rw [hf], fun W hW => ?_⟩
                            have hz : (zeroValue 114).run Tryz.prog W = .ok (.agg #[.string ⟨#[]⟩, .int .i64 0, .int .i64 0, .bool false, .bool false]) W := by go_simp
                            have r2 := run_lookup_at keyText' hu hk hz hW k1.f2 false
                            rw [look_find, hf] at r2
                            simp only [Bool.false_eq_true, if_false, Option.map_none, Option.getD_none] at r2
                            exact r2
                          | some r =>
                            refine ⟨r.f0, r.f1, r.f2, r.f3, r.f4, by unfold kindT; rw [hf], fun W hW => ?_⟩
                            have hz : (zeroValue 114).run Tryz.prog W = .ok (.agg #[.string ⟨#[]⟩, .int .i64 0, .int .i64 0, .bool false, .bool false]) W := by go_simp
                            have r2 := run_lookup_at keyText' hu hk hz hW k1.f2 false
                            rw [look_find, hf] at r2
                            simp only [Bool.false_eq_true, if_false, Option.map_some, Option.getD_some, rowV] at r2
                            exact r2
                        obtain ⟨rn, rk, rl, re, rw', hrk, hlk⟩ := LK0.out wr (map_below HM.out HBr.out)
                        have LK : Hid _ := hlk
                        rw [← hrk] at HLE
                        have HMr : Hid _ := map_below HM.out HBr.out
                        have GS : Hid (∀ W, Below wr.heap.size wr W → W.cell? ⟨w.heap.size, 0, none⟩ = some (.map (some b)) ∧ W.cell? ⟨w.heap.size + 1, 3, none⟩ = some (.slice (some ad) l.length c) ∧ W.cell? ⟨ad.block, ad.off + 4, none⟩ = some (.int .i64 k1.f0) ∧ W.cell? ⟨ad.block, ad.off + 4 + 1, none⟩ = some (.int .i64 k1.f1) ∧ W.cell? ⟨ad.block, ad.off + 4 + 2, none⟩ = some (.string k1.f2) ∧ W.cell? ⟨ad.block, ad.off + 4 + 3, none⟩ = some (.slice A3 k1.f3.length c3) ∧ MapAt W b (kvs textV (tabV T))) := fun W h => by
                          obtain ⟨h1, h2, h3, h4, h5, h6⟩ := GS.out W h
                          exact ⟨h1, h2, h3, h4, h5, h6, map_below HMr.out h⟩
                        clear hmaybe hne ha3 hsh hh h2 hk1 hkk g0 g1 g2 g3 g4 g5 e HLA LK0 hrk hlk
                        obtain rfl := HB9.out
                        unfold maybeB at *
                        go_upto_region 32 with fail
                        refine wp_region_held_drew (S := fun W => W.cell? ⟨w.heap.size, 0, none⟩ = some (.map (some b)) ∧ W.cell? ⟨w.heap.size + 1, 3, none⟩ = some (.slice (some ad) l.length c) ∧ W.cell? ⟨ad.block, ad.off + 4, none⟩ = some (.int .i64 k1.f0) ∧ W.cell? ⟨ad.block, ad.off + 4 + 1, none⟩ = some (.int .i64 k1.f1) ∧ W.cell? ⟨ad.block, ad.off + 4 + 2, none⟩ = some (.string k1.f2) ∧ W.cell? ⟨ad.block, ad.off + 4 + 3, none⟩ = some (.slice A3 k1.f3.length c3) ∧ MapAt W b (kvs textV (tabV T))) (by kernel_rfl) (GS.out _ (below_drew (Below.refl _ _))) (fun hHeld => ?_)
                        refine takeV 0 (some 105) (.pointer (some ⟨w.heap.size, 0, none⟩)) rfl rfl (by kernel_rfl) (by kernel_rfl) (by kernel_rfl) (fun _ _ _ h => h) (Or.inl ⟨by kernel_rfl, fun W hSw => by obtain ⟨s0, s1, s2, s3, s4, s5, sm⟩ := hSw; go_simp⟩) hHeld ?_
                        try simp only [Act.put, List.setIfInBounds_toArray, List.set_cons_zero, List.set_cons_succ]
                        refine takeV 1 (some 106) (.map (some b)) rfl rfl (by kernel_rfl) (by kernel_rfl) (by kernel_rfl) (fun _ _ _ h => h) (Or.inl ⟨by kernel_rfl, fun W hSw => by obtain ⟨s0, s1, s2, s3, s4, s5, sm⟩ := hSw; go_simp⟩) hHeld ?_
                        try simp only [Act.put, List.setIfInBounds_toArray, List.set_cons_zero, List.set_cons_succ]
                        refine takeV 2 (some 107) (.pointer (some ⟨w.heap.size + 1, 3, none⟩)) rfl rfl (by kernel_rfl) (by kernel_rfl) (by kernel_rfl) (fun _ _ _ h => h) (Or.inl ⟨by kernel_rfl, fun W hSw => by obtain ⟨s0, s1, s2, s3, s4, s5, sm⟩ := hSw; go_simp⟩) hHeld ?_
                        try simp only [Act.put, List.setIfInBounds_toArray, List.set_cons_zero, List.set_cons_succ]
                        refine takeV 3 (some 108) (.slice (some ad) l.length c) rfl rfl (by kernel_rfl) (by kernel_rfl) (by kernel_rfl) (fun _ _ _ h => h) (Or.inl ⟨by kernel_rfl, fun W hSw => by obtain ⟨s0, s1, s2, s3, s4, s5, sm⟩ := hSw; go_simp⟩) hHeld ?_
                        try simp only [Act.put, List.setIfInBounds_toArray, List.set_cons_zero, List.set_cons_succ]
                        refine takeV 4 (some 109) (.pointer (some ⟨ad.block, ad.off + 4, none⟩)) rfl rfl (by kernel_rfl) (by kernel_rfl) (by kernel_rfl) (fun _ _ _ h => h) (Or.inl ⟨by kernel_rfl, fun W hSw => by obtain ⟨s0, s1, s2, s3, s4, s5, sm⟩ := hSw; go_simp; first | done | (intro h9; exact absurd h9 (by omega))⟩) hHeld ?_
                        try simp only [Act.put, List.setIfInBounds_toArray, List.set_cons_zero, List.set_cons_succ]
                        refine takeV 5 (some 110) (.pointer (some ⟨ad.block, ad.off + 4 + 2, none⟩)) rfl rfl (by kernel_rfl) (by kernel_rfl) (by kernel_rfl) (fun _ _ _ h => h) (Or.inl ⟨by kernel_rfl, fun W hSw => by obtain ⟨s0, s1, s2, s3, s4, s5, sm⟩ := hSw; go_simp⟩) hHeld ?_
                        try simp only [Act.put, List.setIfInBounds_toArray, List.set_cons_zero, List.set_cons_succ]
                        refine takeV 6 (some 111) (.string k1.f2) rfl rfl (by kernel_rfl) (by kernel_rfl) (by kernel_rfl) (fun _ _ _ h => h) (Or.inl ⟨by kernel_rfl, fun W hSw => by obtain ⟨s0, s1, s2, s3, s4, s5, sm⟩ := hSw; go_simp⟩) hHeld ?_
                        try simp only [Act.put, List.setIfInBounds_toArray, List.set_cons_zero, List.set_cons_succ]
                        refine takeV 7 (some 112) (.agg #[.string rn, .int .i64 rk, .int .i64 rl, .bool re, .bool rw']) rfl rfl (by kernel_rfl) (by kernel_rfl) (by kernel_rfl) (fun _ _ _ h => h) (Or.inl ⟨by kernel_rfl, fun W hSw => by obtain ⟨s0, s1, s2, s3, s4, s5, sm⟩ := hSw; have r2 := LK.out W sm; go_simp⟩) hHeld ?_
                        try simp only [Act.put, List.setIfInBounds_toArray, List.set_cons_zero, List.set_cons_succ]
                        refine takeV 8 (some 113) (.int .i64 rk) rfl rfl (by kernel_rfl) (by kernel_rfl) (by kernel_rfl) (fun _ _ _ h => h) (Or.inl ⟨by kernel_rfl, fun W hSw => by have r3 := field_row W rn rk rl re rw'; go_simp⟩) hHeld ?_
                        try simp only [Act.put, List.setIfInBounds_toArray, List.set_cons_zero, List.set_cons_succ]
                        refine takeV 9 (some 13) (.int .i64 rk) rfl rfl (by kernel_rfl) (by kernel_rfl) (by kernel_rfl) (fun _ _ _ h => h) (Or.inl ⟨by kernel_rfl, fun W hSw => by go_simp⟩) hHeld ?_
                        try simp only [Act.put, List.setIfInBounds_toArray, List.set_cons_zero, List.set_cons_succ]
                        refine wpAnyH_done (by kernel_rfl) ?_ _
                        by_cases k3 : rk = 3
                        · subst k3
                          obtain rfl : v = 0 := by rw [HLE.out]; simp
                          go_wp2_with fail
                          go_ret
                          exact ⟨rfl, below_drew HBr.out⟩
                        by_cases k4 : rk = 4
                        · subst k4
                          obtain rfl : v = 0 := by rw [HLE.out]; simp
                          go_wp2_with fail
                          go_ret
                          exact ⟨rfl, below_drew HBr.out⟩
                        have g3 : (rk != 3) = true := bne_iff_ne.mpr k3
                        have g4 : (rk != 4) = true := bne_iff_ne.mpr k4
                        obtain rfl : v = 8 := by rw [HLE.out, if_neg (by simp [k3, k4])]
                        go_wp2_with fail
                        go_ret
                        exact ⟨rfl, below_drew HBr.out⟩
                      have tmaybe : (h.toList == [109, 97, 121, 98, 101]) = false := byt_ne (by simp [ByteArray.toList_eq, maybeB]) hmaybe
                      have Nmaybe : Hid (¬ h = maybeB) := hmaybe
                      clear hmaybe
                      obtain rfl : v = 0 := by rw [HLA.out]; unfold lastT; rw [← HH.out, if_neg (by simp [Nset.out, Nbag.out, Nmap.out, Nimap.out]), if_neg Nmaybe.out]
                      go_wp2_with fail
                      go_ret
                      exact ⟨rfl, HBr.out⟩
theorem chk_any (T : List S114) : ∀ n, ChkOk T n
  | 0 => fun x A c w b hr hc hw hs hm => absurd hs (by have := siz_kids x; omega)
  | n + 1 => chk_step (chk_any T n)

end Go.Proofs.YtcjmplpfebpfpaaGreatDoor

namespace Go.Proofs.YtcjmplpfebpfpaaGreatDoor
open Go.RowKit Go.Proofs Go.Proofs.YtcjmplpfebpfpaaGreatDoorW.PrintWords Go.Proofs.YtcjmplpfebpfpaaGreatDoorW.PrintLast Go.Proofs.YtcjmplpfebpfpaaGreatDoorW.PrintMore PKindInstances
set_option linter.unusedVariables false
set_option linter.unusedSimpArgs false

/-- What the check answers. -/
def checkM (T : List S114) (x : S24) : Int := if tabM [] T && ValidM x then chkM T (siz x) x else 1
set_option maxRecDepth 100000 in
set_option maxHeartbeats 4000000 in
theorem Check_any (x : S24) (T : List S114) (A B : Option Addr) (c d : Nat) (w : World) (hr : Kd.C k24 w A x.f3.length x.f3) (hc : x.f3.length ≤ c) (hw : wid x < 9000000) (hall : allC x) (ht : Kd.C k114 w B T.length T) (hd : T.length ≤ d) (hn : T.length < 9000000) (hz : ∀ r ∈ T, r.f0.size < 8000000) :
    Calls Tryz.prog 33 #[formV x.f0 x.f1 x.f2 A x.f3.length c, .slice B T.length d] w fun e w' => e = .returned (.int .i64 (checkM T x)) ∧ Below w.heap.size w w' := by
  have hu24 := Tryz.underlying24
  have hu120 := Tryz.underlying120
  have x1 := (MapKept.heap_alloc w (Obj.cells #[.int .i64 x.f0, .int .i64 x.f1, .string x.f2, .slice A x.f3.length c] 24)).1
  have b1 : Below w.heap.size w (w.alloc (Obj.cells #[.int .i64 x.f0, .int .i64 x.f1, .string x.f2, .slice A x.f3.length c] 24)) := below_alloc (Below.refl _ _) _
  have X1 : Hid _ := x1
  have B1 : Hid _ := b1
  have NM : Hid (∀ W, Below w.heap.size w W → _) := fun W h => names_any T B d W (Kd.C_below ht h) hd hn hz
  have VX : Hid (∀ W, Below w.heap.size w W → _) := fun W h => Valid_any x A c W (Kd.C_below hr h) hc hall hw
  have CK : Hid (∀ W b, Below w.heap.size w W → MapAt W b (kvs textV (tabV T)) → _) := fun W b h hm => chk_any T (siz x) x A c W b (Kd.C_below hr h) hc hw (Nat.le_refl _) hm
  clear x1 b1 hr ht hall hz
  obtain ⟨v, hv⟩ : ∃ v, v = checkM T x := ⟨_, rfl⟩
  rw [← hv]
  have HV : Hid _ := hv
  obtain ⟨vx, hvx⟩ : ∃ q, q = ValidM x := ⟨_, rfl⟩
  rw [← hvx] at VX
  have HVX : Hid _ := hvx
  clear hv hvx
  obtain ⟨CKv, hck⟩ : ∃ q, q = chkM T (siz x) x := ⟨_, rfl⟩
  rw [← hck] at CK
  have HCK : Hid _ := hck
  clear hck
  obtain ⟨a, m, s, l⟩ := x
  simp only [] at X1 B1 VX CK hc hw
  go_enter Tryz.func33, Tryz.ntmps33
  go_upto_region 1 with fail
  generalize w.alloc (Obj.cells #[.int .i64 a, .int .i64 m, .string s, .slice A l.length c] 24) = X at *
  obtain ⟨p0, p1, p2, p3⟩ := cells4 X1.out
  go_wp2_with fail
  refine Calls.mono (NM.out _ B1.out) ?_
  rintro e w2 ⟨hp, B2⟩
  have HB2 : Hid _ := below_after B1.out B2
  have x2 : Hid _ := blk_below X1.out B2
  clear p0 p1 p2 p3 B2 B1 X1
  rcases hp with ⟨ht, b, rfl, hb, hm⟩ | ⟨ht, rfl⟩
  · have HT : Hid _ := ht
    have HM : Hid _ := hm
    clear ht hm hb
    obtain ⟨p0, p1, p2, p3⟩ := cells4 x2.out
    go_wp2_with fail
    refine Calls.mono (VX.out _ HB2.out) ?_
    rintro e w3 ⟨rfl, B3⟩
    have HB3 : Hid _ := below_after HB2.out B3
    have HM3 : Hid _ := map_below HM.out B3
    have x3 : Hid _ := blk_below x2.out B3
    clear p0 p1 p2 p3 B3
    obtain ⟨p0, p1, p2, p3⟩ := cells4 x3.out
    cases vx with
    | false =>
      obtain rfl : v = 1 := by rw [HV.out]; unfold checkM; rw [← HVX.out]; simp
      go_wp2_with fail
      go_ret
      exact ⟨rfl, HB3.out⟩
    | true =>
      obtain rfl : v = CKv := by rw [HV.out, HCK.out]; unfold checkM; rw [← HVX.out, HT.out]; rfl
      go_wp2_with fail
      refine Calls.mono (CK.out _ b HB3.out HM3.out) ?_
      rintro e w4 ⟨rfl, B4⟩
      have HB4 : Hid _ := below_after HB3.out B4
      clear B4
      go_wp2_with fail
      go_ret
      exact ⟨rfl, HB4.out⟩
  · obtain rfl : v = 1 := by rw [HV.out]; unfold checkM; rw [ht]; rfl
    clear ht
    go_wp2_with fail
    go_ret
    exact ⟨rfl, HB2.out⟩
def compV (T : List S114) (x : S24) : Bool := decide (checkM T x = 0) && compM T (siz x) x
theorem check_zero {T : List S114} {x : S24} (h : checkM T x = 0) : tabM [] T = true ∧ ValidM x = true ∧ chkM T (siz x) x = 0 := by
  unfold checkM at h
  split at h
  · rename_i hh
    simp only [Bool.and_eq_true] at hh
    exact ⟨hh.1, hh.2, h⟩
  · cases h
set_option maxRecDepth 100000 in
set_option maxHeartbeats 4000000 in
theorem Comparable_any (x : S24) (T : List S114) (A B : Option Addr) (c d : Nat) (w : World) (hr : Kd.C k24 w A x.f3.length x.f3) (hc : x.f3.length ≤ c) (hw : wid x < 9000000) (hall : allC x) (ht : Kd.C k114 w B T.length T) (hd : T.length ≤ d) (hn : T.length < 9000000) (hz : ∀ r ∈ T, r.f0.size < 8000000) :
    Calls Tryz.prog 35 #[formV x.f0 x.f1 x.f2 A x.f3.length c, .slice B T.length d] w fun e w' => e = .returned (.bool (compV T x)) ∧ Below w.heap.size w w' := by
  have hu24 := Tryz.underlying24
  have hu120 := Tryz.underlying120
  have x1 := (MapKept.heap_alloc w (Obj.cells #[.int .i64 x.f0, .int .i64 x.f1, .string x.f2, .slice A x.f3.length c] 24)).1
  have b1 : Below w.heap.size w (w.alloc (Obj.cells #[.int .i64 x.f0, .int .i64 x.f1, .string x.f2, .slice A x.f3.length c] 24)) := below_alloc (Below.refl _ _) _
  have X1 : Hid _ := x1
  have B1 : Hid _ := b1
  have NM : Hid (∀ W, Below w.heap.size w W → _) := fun W h => names_any T B d W (Kd.C_below ht h) hd hn hz
  have CH : Hid (∀ W, Below w.heap.size w W → _) := fun W h => Check_any x T A B c d W (Kd.C_below hr h) hc hw hall (Kd.C_below ht h) hd hn hz
  have CP : Hid (∀ W b, Below w.heap.size w W → MapAt W b (kvs textV (tabV T)) → chkM T (siz x) x = 0 → _) := fun W b h hm h0 => comp_any T (siz x) x A c W b (Kd.C_below hr h) hc hw hm h0
  clear x1 b1 hr ht hall hz
  obtain ⟨v, hv⟩ : ∃ v, v = compV T x := ⟨_, rfl⟩
  rw [← hv]
  have HV : Hid _ := hv
  obtain ⟨vx, hvx⟩ : ∃ q, q = checkM T x := ⟨_, rfl⟩
  rw [← hvx] at CH
  have HVX : Hid _ := hvx
  clear hv hvx
  obtain ⟨CKv, hck⟩ : ∃ q, q = compM T (siz x) x := ⟨_, rfl⟩
  rw [← hck] at CP
  have HCK : Hid _ := hck
  clear hck
  obtain ⟨a, m, s, l⟩ := x
  simp only [] at X1 B1 CH CP hc hw
  go_enter Tryz.func35, Tryz.ntmps35
  go_upto_region 1 with fail
  generalize w.alloc (Obj.cells #[.int .i64 a, .int .i64 m, .string s, .slice A l.length c] 24) = X at *
  obtain ⟨p0, p1, p2, p3⟩ := cells4 X1.out
  go_wp2_with fail
  refine Calls.mono (CH.out _ B1.out) ?_
  rintro e w2 ⟨rfl, B2⟩
  have HB2 : Hid _ := below_after B1.out B2
  have x2 : Hid _ := blk_below X1.out B2
  clear p0 p1 p2 p3 B2 B1 X1
  by_cases h0 : vx = 0
  · subst h0
    obtain ⟨hT, hV, hC⟩ := check_zero HVX.out.symm
    obtain rfl : v = CKv := by rw [HV.out, HCK.out]; unfold compV; rw [← HVX.out]; rfl
    have HT : Hid _ := hT
    have HC : Hid _ := hC
    clear hT hV hC
    go_wp2_with fail
    refine Calls.mono (NM.out _ HB2.out) ?_
    rintro e w3 ⟨hp, B3⟩
    have HB3 : Hid _ := below_after HB2.out B3
    have x3 : Hid _ := blk_below x2.out B3
    clear B3
    rcases hp with ⟨_, b, rfl, hb, hm⟩ | ⟨ht, _⟩
    · have HM : Hid _ := hm
      clear hb hm
      obtain ⟨p0, p1, p2, p3⟩ := cells4 x3.out
      go_wp2_with fail
      refine Calls.mono (CP.out _ b HB3.out HM.out HC.out) ?_
      rintro e w4 ⟨rfl, B4⟩
      have HB4 : Hid _ := below_after HB3.out B4
      clear B4
      go_wp2_with fail
      go_ret
      exact ⟨rfl, HB4.out⟩
    · rw [HT.out] at ht; cases ht
  · have g1 : (vx != 0) = true := bne_iff_ne.mpr h0
    obtain rfl : v = false := by rw [HV.out]; unfold compV; rw [← HVX.out, decide_eq_false h0]; rfl
    clear h0
    go_wp2_with fail
    go_ret
    exact ⟨rfl, HB2.out⟩

end Go.Proofs.YtcjmplpfebpfpaaGreatDoor

namespace Go.Proofs.YtcjmplpfebpfpaaGreatDoor
open Go.RowKit Go.Proofs Go.Proofs.YtcjmplpfebpfpaaGreatDoorW.PrintWords Go.Proofs.YtcjmplpfebpfpaaGreatDoorW.PrintLast Go.Proofs.YtcjmplpfebpfpaaGreatDoorW.PrintMore PKindInstances
set_option linter.unusedVariables false
set_option linter.unusedSimpArgs false

def newT (T : List S114) (h : ByteArray) : Bool := match findT T h with | some r => r.f4 | none => false
/-- What Ready answers. -/
def readyV (T : List S114) (x : S24) : Bool :=
  decide (checkM T x = 0) && (if resM (nameF x) = true then !(decide (nameF x = funB)) else decide (kindT T (nameF x) ≠ 3) && (decide (kindT T (nameF x) ≠ 4) && newT T (nameF x)))
theorem row_of (T : List S114) (h : ByteArray) : ∃ rn rk rl re rw', rk = kindT T h ∧ rw' = newT T h ∧ ∀ W b, MapAt W b (kvs textV (tabV T)) → (Instr.lookup 116 (.map (some b)) (.string h) false).run Tryz.prog W = .ok (.agg #[.string rn, .int .i64 rk, .int .i64 rl, .bool re, .bool rw']) W := by
  have hu := Tryz.underlying116
  have hk := Tryz.underlying9
  have hu114 := Tryz.underlying114
  cases hf : findT T h with
  | none =>
    refine ⟨⟨#[]⟩, 0, 0, false, false, by unfold kindT; rw [hf], by unfold newT; rw [hf], fun W b hW => ?_⟩
    have hz : (zeroValue 114).run Tryz.prog W = .ok (.agg #[.string ⟨#[]⟩, .int .i64 0, .int .i64 0, .bool false, .bool false]) W := by go_simp
    have r2 := run_lookup_at keyText' hu hk hz hW h false
    rw [look_find, hf] at r2
    simp only [Bool.false_eq_true, if_false, Option.map_none, Option.getD_none] at r2
    exact r2
  | some r =>
    refine ⟨r.f0, r.f1, r.f2, r.f3, r.f4, by unfold kindT; rw [hf], by unfold newT; rw [hf], fun W b hW => ?_⟩
    have hz : (zeroValue 114).run Tryz.prog W = .ok (.agg #[.string ⟨#[]⟩, .int .i64 0, .int .i64 0, .bool false, .bool false]) W := by go_simp
    have r2 := run_lookup_at keyText' hu hk hz hW h false
    rw [look_find, hf] at r2
    simp only [Bool.false_eq_true, if_false, Option.map_some, Option.getD_some, rowV] at r2
    exact r2
set_option maxRecDepth 100000 in
set_option maxHeartbeats 4000000 in
theorem Ready_any (x : S24) (T : List S114) (A B : Option Addr) (c d : Nat) (w : World) (hr : Kd.C k24 w A x.f3.length x.f3) (hc : x.f3.length ≤ c) (hw : wid x < 9000000) (hall : allC x) (ht : Kd.C k114 w B T.length T) (hd : T.length ≤ d) (hn : T.length < 9000000) (hz : ∀ r ∈ T, r.f0.size < 8000000) :
    Calls Tryz.prog 37 #[formV x.f0 x.f1 x.f2 A x.f3.length c, .slice B T.length d] w fun e w' => e = .returned (.bool (readyV T x)) ∧ Below w.heap.size w w' := by
  have hu24 := Tryz.underlying24
  have hu120 := Tryz.underlying120
  have x1 := (MapKept.heap_alloc w (Obj.cells #[.int .i64 x.f0, .int .i64 x.f1, .string x.f2, .slice A x.f3.length c] 24)).1
  have b1 : Below w.heap.size w (w.alloc (Obj.cells #[.int .i64 x.f0, .int .i64 x.f1, .string x.f2, .slice A x.f3.length c] 24)) := below_alloc (Below.refl _ _) _
  have X1 : Hid _ := x1
  have B1 : Hid _ := b1
  have hu114 := Tryz.underlying114
  have NM : Hid (∀ W, Below w.heap.size w W → _) := fun W h => names_any T B d W (Kd.C_below ht h) hd hn hz
  have CH : Hid (∀ W, Below w.heap.size w W → _) := fun W h => Check_any x T A B c d W (Kd.C_below hr h) hc hw hall (Kd.C_below ht h) hd hn hz
  have HD : Hid (∀ W, Below w.heap.size w W → _) := fun W h => Head_any x.f0 x.f1 x.f2 c W (Kd.C_below hr h)
  clear x1 b1 hr ht hall hz
  obtain ⟨v, hv⟩ : ∃ v, v = readyV T x := ⟨_, rfl⟩
  rw [← hv]
  have HV : Hid _ := hv
  obtain ⟨vx, hvx⟩ : ∃ q, q = checkM T x := ⟨_, rfl⟩
  rw [← hvx] at CH
  have HVX : Hid _ := hvx
  clear hv hvx
  obtain ⟨h, hh⟩ : ∃ h, h = nameF x := ⟨_, rfl⟩
  have HH : Hid _ := hh
  clear hh
  have hname : (x.f0 == 3) = true ∧ headOf x.f0 x.f3 = h ∨ (x.f0 == 3) = false ∧ x.f2 = h := by
    rw [HH.out]
    unfold nameF headOf
    by_cases h3 : x.f0 = 3
    · exact .inl ⟨beq_iff_eq.mpr h3, by rw [if_pos h3, if_pos h3]⟩
    · exact .inr ⟨beq_eq_false_iff_ne.mpr h3, by rw [if_neg h3]⟩
  have HNM : Hid _ := hname
  clear hname
  obtain ⟨a, m, s, l⟩ := x
  simp only [] at X1 B1 CH HD HNM hc hw
  go_enter Tryz.func37, Tryz.ntmps37
  go_upto_region 1 with fail
  generalize w.alloc (Obj.cells #[.int .i64 a, .int .i64 m, .string s, .slice A l.length c] 24) = X at *
  obtain ⟨p0, p1, p2, p3⟩ := cells4 X1.out
  go_wp2_with fail
  refine Calls.mono (CH.out _ B1.out) ?_
  rintro e w2 ⟨rfl, B2⟩
  have HB2 : Hid _ := below_after B1.out B2
  have x2 : Hid _ := blk_below X1.out B2
  clear p0 p1 p2 p3 B2 B1 X1
  by_cases h0 : vx = 0
  · subst h0
    obtain ⟨hT, hV, hC⟩ := check_zero HVX.out.symm
    have E : Hid (v = if resM h = true then !(decide (h = funB)) else decide (kindT T h ≠ 3) && (decide (kindT T h ≠ 4) && newT T h)) := by
      show v = _
      rw [HV.out]; unfold readyV; rw [← HVX.out, ← HH.out]; rfl
    have HT : Hid _ := hT
    clear hT hV hC HV HVX HH
    go_wp2_with fail
    refine Calls.mono (NM.out _ HB2.out) ?_
    rintro e w3 ⟨hp, B3⟩
    have HB3 : Hid _ := below_after HB2.out B3
    have x3 : Hid _ := blk_below x2.out B3
    clear B3
    rcases hp with ⟨_, b, rfl, hb, hm⟩ | ⟨ht, _⟩
    · have HM : Hid _ := hm
      clear hb hm
      obtain ⟨p0, p1, p2, p3⟩ := cells4 x3.out
      go_upto_if 22 with fail
      go_cut [7] from 9 to 44 (fun v7 wx => v7 = .string h ∧ Below w3.heap.size w3 wx)
      case first =>
        rcases HNM.out with ⟨e3, eh⟩ | ⟨e3, eh⟩
        · go_wp2_with fail
          refine Calls.mono (HD.out _ HB3.out) ?_
          rintro e w4 ⟨rfl, B4⟩
          have HB4 : Hid _ := B4
          clear B4
          go_wp2_with fail
          go_meet
          case rel => exact ⟨by first | rfl | rw [eh], HB4.out⟩
        · go_wp2_with fail
          go_meet
          case rel => exact ⟨by first | rfl | rw [eh], Below.refl _ _⟩
      case rest =>
        clear p0 p1 p2 p3
        obtain ⟨rfl, hB⟩ := hcut
        have B5 : Hid _ := below_after HB3.out hB
        have HM5 : Hid _ := map_below HM.out hB
        clear hB HD HNM
        obtain ⟨rs, hrs⟩ : ∃ rs, rs = resM h := ⟨_, rfl⟩
        have RE : Hid (∀ W, _) := fun W => reserved_any h W
        rw [← hrs] at RE E
        clear hrs
        go_wp2_with fail
        refine Calls.mono (RE.out _) ?_
        rintro e w6 ⟨rfl, B6⟩
        have HB6 : Hid _ := below_after B5.out B6
        have HM6 : Hid _ := map_below HM5.out B6
        clear B6
        cases rs with
        | true =>
          by_cases hf : h = funB
          · have tf : (h.toList != [102, 117, 110]) = false := bne_eq_false_iff_eq.mpr (by rw [hf]; simp [ByteArray.toList_eq, funB])
            obtain rfl : v = false := by rw [E.out, hf]; simp
            clear hf
            go_wp2_with fail
            go_ret
            exact ⟨by first | rfl | (simp; simpa using tf) | simp [tf], HB6.out⟩
          · have tf : (h.toList != [102, 117, 110]) = true := bne_iff_ne.mpr (fun e => hf (bytes_inj (by rw [e]; simp [ByteArray.toList_eq, funB])))
            obtain rfl : v = true := by rw [E.out]; simp [hf]
            clear hf
            go_wp2_with fail
            go_ret
            exact ⟨by first | rfl | (simp; simpa using tf) | simp [tf], HB6.out⟩
        | false =>
          obtain ⟨rn, rk, rl, re, rw', hrk, hrw, hlk⟩ := row_of T h
          have r2 := hlk w6 b HM6.out
          rw [← hrk, ← hrw] at E
          clear hrk hrw hlk
          go_upto_region 10 with fail
          clear r2
          have b7 : Below w6.heap.size w6 (w6.alloc (Obj.cells #[.string rn, .int .i64 rk, .int .i64 rl, .bool re, .bool rw'] 114)) := below_alloc (Below.refl _ _) _
          have y5 := (MapKept.heap_alloc w6 (Obj.cells #[.string rn, .int .i64 rk, .int .i64 rl, .bool re, .bool rw'] 114)).1
          have HB7 : Hid _ := below_after HB6.out b7
          clear b7
          generalize w6.alloc (Obj.cells #[.string rn, .int .i64 rk, .int .i64 rl, .bool re, .bool rw'] 114) = M at *
          generalize w6.heap.size = bR at *
          obtain ⟨y50, y51, y52, y53, y54⟩ := cells5 y5
          clear y5
          by_cases k3 : rk = 3
          · subst k3
            obtain rfl : v = false := by rw [E.out]; simp
            go_wp2_with fail
            go_ret
            exact ⟨rfl, HB7.out⟩
          · have g3 : (rk != 3) = true := bne_iff_ne.mpr k3
            by_cases k4 : rk = 4
            · subst k4
              obtain rfl : v = false := by rw [E.out]; simp
              go_wp2_with fail
              go_ret
              exact ⟨rfl, HB7.out⟩
            · have g4 : (rk != 4) = true := bne_iff_ne.mpr k4
              obtain rfl : v = rw' := by rw [E.out]; simp [k3, k4]
              clear k3 k4 E
              go_wp2_with fail
              go_ret
              exact ⟨rfl, HB7.out⟩
    · rw [HT.out] at ht; cases ht
  · have g1 : (vx != 0) = true := bne_iff_ne.mpr h0
    obtain rfl : v = false := by rw [HV.out]; unfold readyV; rw [← HVX.out, decide_eq_false h0]; rfl
    clear h0
    go_wp2_with fail
    go_ret
    exact ⟨rfl, HB2.out⟩

end Go.Proofs.YtcjmplpfebpfpaaGreatDoor
