/- Part 9 of what the law's row leans on (Nk): the print's words and functions, cut to what is reached, and own texts. -/
import Derived.Test.YtcjmplpfebpfpaaGreatDoorNk8
namespace Go.Proofs.YtcjmplpfebpfpaaGreatDoor
open Go.RowKit Go.Proofs Go.Proofs.YtcjmplpfebpfpaaGreatDoorW.PrintWords Go.Proofs.YtcjmplpfebpfpaaGreatDoorW.PrintLast Go.Proofs.YtcjmplpfebpfpaaGreatDoorW.PrintMore PKindInstances
set_option linter.unusedVariables false
set_option linter.unusedSimpArgs false

def CmpEv (T : List S114) (n : Nat) (x : S24) : Prop := Ev (fun k => plinthref03_comparable.f k x.f0 x.f1 x.f2 x.f3 (T.map toS)) (compM T n x)
theorem rd24x {l : List S24} {i : Nat} {x : S24} (hx : l[i]? = some x) : rd_T24 l (i : Int) = x := by
  unfold rd_T24; rw [Int.toNat_natCast, List.getD_eq_getElem?_getD, hx]; rfl
theorem cmp_l0 (T : List S114) (n : Nat) (a m : Int) (s : ByteArray) (l : List S24) (hl : l.length < 9000000) (hq : ∀ y ∈ l.drop 1, CmpEv T n y) : ∀ g i, 1 ≤ i → i + g = l.length →
    Ev (fun k => plinthref03_comparable.l0 k (T.map toS) (i : Int) a m s l) ((l.drop i).all (compM T n))
  | 0, i, h1, hg => by
    rw [List.drop_eq_nil_of_le (by omega)]
    exact Ev.step (f := fun _ => some true) (fun k => by simp only [plinthref03_comparable.l0]; rw [if_neg (by omega)]) (Ev.now _)
  | g + 1, i, h1, hg => by
    have hlt : i < l.length := by omega
    have hx : l[i]? = some l[i] := List.getElem?_eq_getElem hlt
    have hm : l[i] ∈ l.drop 1 := List.mem_of_getElem? (i := i - 1) (by rw [List.getElem?_drop]; rw [show 1 + (i - 1) = i from by omega]; exact hx)
    rw [List.drop_eq_getElem_cons hlt, List.all_cons]
    refine Ev.step (f := fun k => (plinthref03_comparable.f k (l[i]).f0 (l[i]).f1 (l[i]).f2 (l[i]).f3 (T.map toS)).bind fun t => (if t = true then (plinthref03_comparable.l0 k (T.map toS) (wrap64 ((i : Int) + 1)) a m s l) else (some false))) (fun k => by
      simp only [plinthref03_comparable.l0]; rw [if_pos (by omega), if_pos (by omega), rd24x hx]) ?_
    refine Ev.bind (hq _ hm) ?_
    cases hc : compM T n l[i] with
    | false => exact Ev.congr (f := fun _ => some false) (fun k => by rw [if_neg (by simp)]) (Ev.now _)
    | true =>
      have e : wrap64 ((i : Int) + 1) = ((i + 1 : Nat) : Int) := by unfold wrap64; omega
      rw [e, Bool.true_and]
      exact Ev.congr (f := fun k => plinthref03_comparable.l0 k (T.map toS) ((i + 1 : Nat) : Int) a m s l) (fun k => by rw [if_pos rfl]) (cmp_l0 T n a m s l hl hq g (i + 1) (by omega) (by omega))
theorem cmp_j4 (T : List S114) (n : Nat) (a m : Int) (s : ByteArray) (l : List S24) (hl : l.length < 9000000) (h1 : 1 ≤ l.length) (hq : ∀ y ∈ l.drop 1, CmpEv T n y) :
    Ev (fun k => plinthref03_comparable.j4 k (T.map toS) a m s l) ((l.drop 1).all (compM T n)) :=
  Ev.step (f := fun k => plinthref03_comparable.l0 k (T.map toS) ((1 : Nat) : Int) a m s l) (fun k => by simp only [plinthref03_comparable.j4]; rfl) (cmp_l0 T n a m s l hl hq (l.length - 1) 1 (by omega) (by omega))
theorem cmp_j0 (f : Bool) (nm : ByteArray) (k n : Int) (e w : Bool) : Ev (fun q => plinthref03_comparable.j0 q f nm k n e w) (if f = true then true else if k = 2 then false else e) := by
  cases f with
  | true => exact Ev.step (f := fun _ => some true) (fun q => by simp only [plinthref03_comparable.j0]; rw [if_pos trivial]) (Ev.now _)
  | false =>
    by_cases h : k = 2
    · exact Ev.step (f := fun _ => some false) (fun q => by simp only [plinthref03_comparable.j0]; rw [if_neg (by simp), if_pos h]) (by rw [if_neg (by simp), if_pos h]; exact Ev.now _)
    · exact Ev.step (f := fun _ => some e) (fun q => by simp only [plinthref03_comparable.j0]; rw [if_neg (by simp), if_neg h]) (by rw [if_neg (by simp), if_neg h]; exact Ev.now _)

theorem cmp_word (T : List S114) (n : Nat) (m : Int) (s : ByteArray) (l : List S24) (ht : tabM [] T = true) (hn : T.length < 9000000) (hc : chkM T (n + 1) ⟨1, m, s, l⟩ = 0) : CmpEv T (n + 1) ⟨1, m, s, l⟩ := by
  obtain ⟨hs, ho, hp⟩ := chk_zero hc
  have hnm : nameF ⟨1, m, s, l⟩ = s := by simp [nameF]
  unfold CmpEv
  simp only []
  refine Ev.step (f := fun k => (plinthref03_row.f k (T.map toS) s).bind fun bt367 => (if s.toList = ([105, 110, 116] : List UInt8) then (plinthref03_comparable.j0 k true bt367.1 bt367.2.1 bt367.2.2.1 bt367.2.2.2.1 bt367.2.2.2.2.1) else (if s.toList = ([98, 111, 111, 108] : List UInt8) then (plinthref03_comparable.j0 k true bt367.1 bt367.2.1 bt367.2.2.1 bt367.2.2.2.1 bt367.2.2.2.2.1) else (if bt367.2.1 = 3 then (plinthref03_comparable.j0 k true bt367.1 bt367.2.1 bt367.2.2.1 bt367.2.2.2.1 bt367.2.2.2.2.1) else (plinthref03_comparable.j0 k (bt367.2.1 == 4) bt367.1 bt367.2.1 bt367.2.2.1 bt367.2.2.2.1 bt367.2.2.2.2.1))))) (fun k => by
    simp only [plinthref03_comparable.f, plinthref03_isWord.f, Option.bind_some]
    first | (rw [if_pos (by decide)]) | (rw [if_pos rfl])) ?_
  refine Ev.bind (row_Ev T s hn) ?_
  by_cases hi : s.toList = [105, 110, 116]
  · have e : s = intB := bytes_inj (by rw [hi]; simp [ByteArray.toList_eq, intB])
    have hv : compM T (n + 1) ⟨1, m, s, l⟩ = true := by unfold compM; rw [hnm, if_pos (.inl e)]
    rw [hv]
    refine Ev.congr (f := fun k => plinthref03_comparable.j0 k true (lookS (T.map toS) s).1 (lookS (T.map toS) s).2.1 (lookS (T.map toS) s).2.2.1 (lookS (T.map toS) s).2.2.2.1 (lookS (T.map toS) s).2.2.2.2.1) (fun k => by rw [if_pos hi]) ?_
    have h := cmp_j0 true (lookS (T.map toS) s).1 (lookS (T.map toS) s).2.1 (lookS (T.map toS) s).2.2.1 (lookS (T.map toS) s).2.2.2.1 (lookS (T.map toS) s).2.2.2.2.1
    rwa [if_pos rfl] at h
  by_cases hb : s.toList = [98, 111, 111, 108]
  · have e : s = boolB := bytes_inj (by rw [hb]; simp [ByteArray.toList_eq, boolB])
    have hv : compM T (n + 1) ⟨1, m, s, l⟩ = true := by unfold compM; rw [hnm, if_pos (.inr (.inl e))]
    rw [hv]
    refine Ev.congr (f := fun k => plinthref03_comparable.j0 k true (lookS (T.map toS) s).1 (lookS (T.map toS) s).2.1 (lookS (T.map toS) s).2.2.1 (lookS (T.map toS) s).2.2.2.1 (lookS (T.map toS) s).2.2.2.2.1) (fun k => by rw [if_neg hi, if_pos hb]) ?_
    have h := cmp_j0 true (lookS (T.map toS) s).1 (lookS (T.map toS) s).2.1 (lookS (T.map toS) s).2.2.1 (lookS (T.map toS) s).2.2.2.1 (lookS (T.map toS) s).2.2.2.2.1
    rwa [if_pos rfl] at h
  have hm : manyM s = none := by
    cases h : manyM s with
    | none => rfl
    | some q => exact absurd rfl (out_word ho (by rw [hnm, h]; rfl))
  have hr : resM s = false := by rw [res_many, hm, beq_eq_false_iff_ne.mpr hi, beq_eq_false_iff_ne.mpr hb]; rfl
  obtain ⟨r, hf, _⟩ := out_row ho (by rw [hnm]; exact hr) (by rw [hnm]; exact hm)
  rw [hnm] at hf
  have hni : ¬ s = intB := fun e => hi (by rw [e]; simp [ByteArray.toList_eq, intB])
  have hnb : ¬ s = boolB := fun e => hb (by rw [e]; simp [ByteArray.toList_eq, boolB])
  have nm : ∀ {K : ByteArray}, (manyM K).isSome = true → ¬ s = K := fun h e => by rw [← e, hm] at h; cases h
  have n1 : ¬ s = bitsB := nm (by simp [manyM])
  have n2 : ¬ s = maybeB := nm (by simp [intB, boolB, bitsB, maybeB, funB, imapB, seqB, setB, bagB, mapB, manyM])
  have n3 : ¬ s = funB := nm (by simp [intB, boolB, bitsB, maybeB, funB, imapB, seqB, setB, bagB, mapB, manyM])
  have n4 : ¬ s = imapB := nm (by simp [intB, boolB, bitsB, maybeB, funB, imapB, seqB, setB, bagB, mapB, manyM])
  have n5 : ¬ s = seqB := nm (by simp [intB, boolB, bitsB, maybeB, funB, imapB, seqB, setB, bagB, mapB, manyM])
  have n6 : ¬ s = setB := nm (by simp [intB, boolB, bitsB, maybeB, funB, imapB, seqB, setB, bagB, mapB, manyM])
  have n7 : ¬ s = bagB := nm (by simp [intB, boolB, bitsB, maybeB, funB, imapB, seqB, setB, bagB, mapB, manyM])
  have n8 : ¬ s = mapB := nm (by simp [intB, boolB, bitsB, maybeB, funB, imapB, seqB, setB, bagB, mapB, manyM])
  have hk : kindT T s = r.f1 := by unfold kindT; rw [hf]
  have hv : compM T (n + 1) ⟨1, m, s, l⟩ = (if r.f1 = 3 ∨ r.f1 = 4 then true else if r.f1 = 2 then false else r.f3) := by
    unfold compM
    rw [hnm, if_neg (by simp [*]), if_neg (by simp [*]), if_neg (by simp [*]), hk, hf]
    simp
  rw [hv, look_toS, hf]
  simp only []
  by_cases k3 : r.f1 = 3
  · refine Ev.congr (f := fun k => plinthref03_comparable.j0 k true r.f0 r.f1 r.f2 r.f3 r.f4) (fun k => by rw [if_neg hi, if_neg hb, if_pos k3]) ?_
    rw [if_pos (.inl k3)]
    have h := cmp_j0 true r.f0 r.f1 r.f2 r.f3 r.f4
    rwa [if_pos rfl] at h
  · refine Ev.congr (f := fun k => plinthref03_comparable.j0 k (r.f1 == 4) r.f0 r.f1 r.f2 r.f3 r.f4) (fun k => by rw [if_neg hi, if_neg hb, if_neg k3]) ?_
    have h := cmp_j0 (r.f1 == 4) r.f0 r.f1 r.f2 r.f3 r.f4
    by_cases k4 : r.f1 = 4
    · rw [if_pos (.inr k4)]
      rwa [if_pos (beq_iff_eq.mpr k4)] at h
    · rw [if_neg (by rintro (e | e); exact k3 e; exact k4 e)]
      rwa [if_neg (by rw [beq_eq_false_iff_ne.mpr k4]; simp)] at h
theorem cmp_j3 (T : List S114) (n : Nat) (b : Bool) (a m : Int) (s : ByteArray) (l : List S24) (hn : T.length < 9000000) (hl : l.length < 9000000) (h1 : 1 ≤ l.length) (hq : ∀ y ∈ l.drop 1, CmpEv T n y) :
    Ev (fun k => plinthref03_comparable.j3 k (T.map toS) b a m s l) (if b = true then (l.drop 1).all (compM T n) else ((match findT T (rd_T24 l 0).f2 with | some r => r.f3 | none => false) && (!decide (kindT T (rd_T24 l 0).f2 = 2) && (l.drop 1).all (compM T n)))) := by
  cases b with
  | true =>
    rw [if_pos rfl]
    exact Ev.step (f := fun k => plinthref03_comparable.j4 k (T.map toS) a m s l) (fun k => by simp only [plinthref03_comparable.j3]; rw [if_pos trivial]) (cmp_j4 T n a m s l hl h1 hq)
  | false =>
    rw [if_neg (by simp)]
    refine Ev.step (f := fun k => (plinthref03_row.f k (T.map toS) ((rd_T24 l 0).f2)).bind fun bt376 => (if bt376.2.2.2.1 = true then (if bt376.2.1 = 2 then (some false) else (plinthref03_comparable.j4 k (T.map toS) a m s l)) else (some false))) (fun k => by simp only [plinthref03_comparable.j3]; rw [if_neg (by simp), if_pos (by omega)]) ?_
    refine Ev.bind (row_Ev T _ hn) ?_
    rw [look_toS]
    cases hf : findT T (rd_T24 l 0).f2 with
    | none => exact Ev.congr (f := fun _ => some false) (fun k => by simp) (Ev.now _)
    | some r =>
      have hk : kindT T (rd_T24 l 0).f2 = r.f1 := by unfold kindT; rw [hf]
      rw [hk]
      simp only []
      by_cases h3 : r.f3 = true
      · by_cases h2 : r.f1 = 2
        · rw [h3, decide_eq_true h2]
          exact Ev.congr (f := fun _ => some false) (fun k => by rw [if_pos rfl, if_pos h2]) (Ev.now _)
        · rw [h3, decide_eq_false h2]
          exact Ev.congr (f := fun k => plinthref03_comparable.j4 k (T.map toS) a m s l) (fun k => by rw [if_pos rfl, if_neg h2]) (by have h := cmp_j4 T n a m s l hl h1 hq; simpa using h)
      · have h3' : r.f3 = false := by simpa using h3
        rw [h3']
        exact Ev.congr (f := fun _ => some false) (fun k => by rw [if_neg (by simp)]) (Ev.now _)
/-- What comparable answers for a list under a name. -/
def listC (T : List S114) (h : ByteArray) (A : Bool) : Bool :=
  if h = bitsB ∨ h = maybeB then true else if h = funB ∨ h = imapB then false else
  if h = seqB ∨ h = setB ∨ h = bagB ∨ h = mapB then A else
  (match findT T h with | some r => r.f3 | none => false) && (!decide (kindT T h = 2) && A)
theorem cmp_list (T : List S114) (n : Nat) (a m : Int) (s : ByteArray) (l : List S24) (ha : a ≠ 1) (hn : T.length < 9000000) (hl : l.length < 9000000) (h1 : 1 ≤ l.length) (hq : ∀ y ∈ l.drop 1, CmpEv T n y) :
    Ev (fun k => plinthref03_comparable.f k a m s l (T.map toS)) (listC T (rd_T24 l 0).f2 ((l.drop 1).all (compM T n))) := by
  have J3 : ∀ b, Ev (fun k => plinthref03_comparable.j3 k (T.map toS) b a m s l) _ := fun b => cmp_j3 T n b a m s l hn hl h1 hq
  generalize (l.drop 1).all (compM T n) = A at *
  have F : ∀ k, plinthref03_comparable.f (k + 1) a m s l (T.map toS) = (if ((rd_T24 l 0).f2).toList = ([98, 105, 116, 115] : List UInt8) then (plinthref03_comparable.j1 k (T.map toS) ((rd_T24 l 0).f2) (((rd_T24 l 0).f2).toList == ([98, 105, 116, 115] : List UInt8)) a m s l) else (plinthref03_comparable.j1 k (T.map toS) ((rd_T24 l 0).f2) (((rd_T24 l 0).f2).toList == ([109, 97, 121, 98, 101] : List UInt8)) a m s l)) := by
    intro k
    simp only [plinthref03_comparable.f, plinthref03_isWord.f, Option.bind_some]
    rw [if_neg (by simpa using ha), if_pos (by omega)]
  obtain ⟨h, hh⟩ : ∃ h, h = (rd_T24 l 0).f2 := ⟨_, rfl⟩
  rw [← hh] at J3 F ⊢
  clear hh
  have tl : ∀ {L : List UInt8} {K : ByteArray}, K.toList = L → (h.toList = L ↔ h = K) := fun hK => ⟨fun e => bytes_inj (by rw [e, hK]), fun e => by rw [e, hK]⟩
  have i_bits := tl (L := [98, 105, 116, 115]) (K := bitsB) (by simp [ByteArray.toList_eq, bitsB])
  have i_maybe := tl (L := [109, 97, 121, 98, 101]) (K := maybeB) (by simp [ByteArray.toList_eq, maybeB])
  have i_fun := tl (L := [102, 117, 110]) (K := funB) (by simp [ByteArray.toList_eq, funB])
  have i_imap := tl (L := [105, 109, 97, 112]) (K := imapB) (by simp [ByteArray.toList_eq, imapB])
  have i_seq := tl (L := [115, 101, 113]) (K := seqB) (by simp [ByteArray.toList_eq, seqB])
  have i_set := tl (L := [115, 101, 116]) (K := setB) (by simp [ByteArray.toList_eq, setB])
  have i_bag := tl (L := [98, 97, 103]) (K := bagB) (by simp [ByteArray.toList_eq, bagB])
  have i_map := tl (L := [109, 97, 112]) (K := mapB) (by simp [ByteArray.toList_eq, mapB])
  have J1 : Ev (fun k => plinthref03_comparable.j1 k (T.map toS) h true a m s l) true := Ev.step (f := fun _ => some true) (fun k => by simp only [plinthref03_comparable.j1]; rw [if_pos trivial]) (Ev.now _)
  have J2 : Ev (fun k => plinthref03_comparable.j2 k (T.map toS) h true a m s l) false := Ev.step (f := fun _ => some false) (fun k => by simp only [plinthref03_comparable.j2]; rw [if_pos trivial]) (Ev.now _)
  by_cases c_bits : h = bitsB
  · have t := i_bits.2 c_bits
    rw [show listC T h A = true from by unfold listC; rw [if_pos (.inl c_bits)]]
    exact Ev.step (f := fun k => plinthref03_comparable.j1 k (T.map toS) h true a m s l) (fun k => by rw [F, if_pos t, beq_iff_eq.mpr t]) J1
  have t_bits : ¬ h.toList = _ := fun e => c_bits (i_bits.1 e)
  by_cases c_maybe : h = maybeB
  · have t := i_maybe.2 c_maybe
    rw [show listC T h A = true from by unfold listC; rw [if_pos (.inr c_maybe)]]
    exact Ev.step (f := fun k => plinthref03_comparable.j1 k (T.map toS) h true a m s l) (fun k => by rw [F, if_neg t_bits, beq_iff_eq.mpr t]) J1
  have t_maybe : ¬ h.toList = _ := fun e => c_maybe (i_maybe.1 e)
  have g1 : listC T h A = (if h = funB ∨ h = imapB then false else
    if h = seqB ∨ h = setB ∨ h = bagB ∨ h = mapB then A else
    (match findT T h with | some r => r.f3 | none => false) && (!decide (kindT T h = 2) && A)) := by unfold listC; rw [if_neg (by rintro (e | e); exact c_bits e; exact c_maybe e)]
  rw [g1]
  refine Ev.step (f := fun k => plinthref03_comparable.j1 k (T.map toS) h false a m s l) (fun k => by rw [F, if_neg t_bits, beq_eq_false_iff_ne.mpr t_maybe]) ?_
  by_cases c_fun : h = funB
  · have t := i_fun.2 c_fun
    rw [if_pos (.inl c_fun)]
    exact Ev.step (f := fun k => plinthref03_comparable.j2 k (T.map toS) h true a m s l) (fun k => by simp only [plinthref03_comparable.j1]; rw [if_neg (by simp), if_pos t, beq_iff_eq.mpr t]) J2
  have t_fun : ¬ h.toList = _ := fun e => c_fun (i_fun.1 e)
  by_cases c_imap : h = imapB
  · have t := i_imap.2 c_imap
    rw [if_pos (.inr c_imap)]
    exact Ev.step (f := fun k => plinthref03_comparable.j2 k (T.map toS) h true a m s l) (fun k => by simp only [plinthref03_comparable.j1]; rw [if_neg (by simp), if_neg t_fun, beq_iff_eq.mpr t]) J2
  have t_imap : ¬ h.toList = _ := fun e => c_imap (i_imap.1 e)
  rw [if_neg (by rintro (e | e); exact c_fun e; exact c_imap e)]
  refine Ev.step (f := fun k => plinthref03_comparable.j2 k (T.map toS) h false a m s l) (fun k => by simp only [plinthref03_comparable.j1]; rw [if_neg (by simp), if_neg t_fun, beq_eq_false_iff_ne.mpr t_imap]) ?_
  by_cases c_seq : h = seqB
  · have t := i_seq.2 c_seq
    have hJ := J3 true
    rw [if_pos rfl] at hJ
    rw [if_pos (.inl c_seq)]
    exact Ev.step (f := fun k => plinthref03_comparable.j3 k (T.map toS) true a m s l) (fun k => by simp only [plinthref03_comparable.j2]; rw [if_neg (by simp), if_pos t, beq_iff_eq.mpr t]) hJ
  have t_seq : ¬ h.toList = _ := fun e => c_seq (i_seq.1 e)
  by_cases c_set : h = setB
  · have t := i_set.2 c_set
    have hJ := J3 true
    rw [if_pos rfl] at hJ
    rw [if_pos (.inr (.inl c_set))]
    exact Ev.step (f := fun k => plinthref03_comparable.j3 k (T.map toS) true a m s l) (fun k => by simp only [plinthref03_comparable.j2]; rw [if_neg (by simp), if_neg t_seq, if_pos t, beq_iff_eq.mpr t]) hJ
  have t_set : ¬ h.toList = _ := fun e => c_set (i_set.1 e)
  by_cases c_bag : h = bagB
  · have t := i_bag.2 c_bag
    have hJ := J3 true
    rw [if_pos rfl] at hJ
    rw [if_pos (.inr (.inr (.inl c_bag)))]
    exact Ev.step (f := fun k => plinthref03_comparable.j3 k (T.map toS) true a m s l) (fun k => by simp only [plinthref03_comparable.j2]; rw [if_neg (by simp), if_neg t_seq, if_neg t_set, if_pos t, beq_iff_eq.mpr t]) hJ
  have t_bag : ¬ h.toList = _ := fun e => c_bag (i_bag.1 e)
  by_cases c_map : h = mapB
  · have t := i_map.2 c_map
    have hJ := J3 true
    rw [if_pos rfl] at hJ
    rw [if_pos (.inr (.inr (.inr c_map)))]
    exact Ev.step (f := fun k => plinthref03_comparable.j3 k (T.map toS) true a m s l) (fun k => by simp only [plinthref03_comparable.j2]; rw [if_neg (by simp), if_neg t_seq, if_neg t_set, if_neg t_bag, beq_iff_eq.mpr t]) hJ
  have t_map : ¬ h.toList = _ := fun e => c_map (i_map.1 e)
  rw [if_neg (by rintro (e | e | e | e); exact c_seq e; exact c_set e; exact c_bag e; exact c_map e)]
  have hJ := J3 false
  rw [if_neg (by simp)] at hJ
  exact Ev.step (f := fun k => plinthref03_comparable.j3 k (T.map toS) false a m s l) (fun k => by simp only [plinthref03_comparable.j2]; rw [if_neg (by simp), if_neg t_seq, if_neg t_set, if_neg t_bag, beq_eq_false_iff_ne.mpr t_map]) hJ
/-- A row of kind 3 or 4 asks for no argument. -/
theorem tab_args : ∀ {T : List S114} {seen : List ByteArray}, tabM seen T = true → ∀ r ∈ T, 2 < r.f1 → r.f2 ≤ 0
  | [], _, _, r, h, _ => absurd h List.not_mem_nil
  | x :: l, seen, h, r, hr, hk => by
    simp only [tabM] at h
    split at h
    · cases h
    · rename_i hc
      rcases List.mem_cons.1 hr with hr | hr
      · subst hr
        simp only [Bool.or_eq_true, not_or] at hc
        have h6 := hc.2
        simp only [decide_eq_true_eq] at h6
        unfold mostM at h6
        rw [if_neg (by omega)] at h6
        omega
      · exact tab_args h r hr hk
theorem find_mem {T : List S114} {h : ByteArray} {r : S114} (hf : findT T h = some r) : r ∈ T := List.mem_of_find?_eq_some hf
/-- The document's comparable answers compM where the check finds nothing. -/
theorem cmp_ev (T : List S114) (ht : tabM [] T = true) (hn : T.length < 9000000) : ∀ (n : Nat) (x : S24), chkM T n x = 0 → wid x < 9000000 → CmpEv T n x
  | 0, x, hc, hw => by simp [chkM] at hc
  | n + 1, x, hc, hw => by
    by_cases h1 : x.f0 = 1
    · obtain ⟨a, m, s, l⟩ := x
      simp only [] at h1
      subst h1
      exact cmp_word T n m s l ht hn hc
    · obtain ⟨hs, ho, hp⟩ := chk_zero hc
      obtain ⟨h3, hsh⟩ := shaped_list hs h1
      obtain ⟨hne, h2⟩ := shape_list hsh
      have hkw := wid_kids x
      have hlw := wids_len x.f3
      obtain ⟨a, m, s, l⟩ := x
      simp only [] at h1 h3 hsh hne h2 hkw hlw
      subst h3
      obtain ⟨k0, r0, rfl, hk0, hh⟩ := headL_zero hne
      have hnm : nameF ⟨3, m, s, k0 :: r0⟩ = k0.f2 := by simp [nameF, hh]
      unfold CmpEv
      simp only []
      have hrd : rd_T24 (k0 :: r0) 0 = k0 := rd24c k0 r0
      by_cases hbits : k0.f2 = bitsB
      · have hv : compM T (n + 1) ⟨3, m, s, k0 :: r0⟩ = true := by unfold compM; rw [hnm, if_pos (.inr (.inr (.inl hbits)))]
        rw [hv]
        refine Ev.step (f := fun k => plinthref03_comparable.j1 k (T.map toS) k0.f2 true 3 m s (k0 :: r0)) (fun k => ?_) (Ev.step (f := fun _ => some true) (fun k => by simp only [plinthref03_comparable.j1]; rw [if_pos trivial]) (Ev.now _))
        have t : k0.f2.toList = [98, 105, 116, 115] := by rw [hbits]; simp [ByteArray.toList_eq, bitsB]
        simp only [plinthref03_comparable.f, plinthref03_isWord.f, Option.bind_some]
        rw [if_neg (by decide), if_pos (by simp only [List.length_cons]; omega), hrd, if_pos t, beq_iff_eq.mpr t]
      by_cases hfun : k0.f2 = funB
      · have hv : compM T (n + 1) ⟨3, m, s, k0 :: r0⟩ = false := by
          unfold compM
          rw [hnm, if_neg (by rw [hfun]; simp [intB, boolB, bitsB, maybeB, funB, imapB, seqB, setB, bagB, mapB]), if_pos (.inl hfun)]
        rw [hv]
        have t : k0.f2.toList = [102, 117, 110] := by rw [hfun]; simp [ByteArray.toList_eq, funB]
        have tb : ¬ k0.f2.toList = [98, 105, 116, 115] := by rw [t]; decide
        have tm : ¬ k0.f2.toList = [109, 97, 121, 98, 101] := by rw [t]; decide
        refine Ev.step (f := fun k => plinthref03_comparable.j1 k (T.map toS) k0.f2 false 3 m s (k0 :: r0)) (fun k => ?_) (Ev.step (f := fun k => plinthref03_comparable.j2 k (T.map toS) k0.f2 true 3 m s (k0 :: r0)) (fun k => by simp only [plinthref03_comparable.j1]; rw [if_neg (by simp), if_pos t, beq_iff_eq.mpr t]) (Ev.step (f := fun _ => some false) (fun k => by simp only [plinthref03_comparable.j2]; rw [if_pos trivial]) (Ev.now _)))
        simp only [plinthref03_comparable.f, plinthref03_isWord.f, Option.bind_some]
        rw [if_neg (by decide), if_pos (by simp only [List.length_cons]; omega), hrd, if_neg tb, beq_eq_false_iff_ne.mpr tm]
      have hpd : partsM ⟨3, m, s, k0 :: r0⟩ = (k0 :: r0).drop 1 := parts_drop rfl (by rw [hh]; exact hbits) (by rw [hh]; exact hfun)
      have hq : ∀ y ∈ (k0 :: r0).drop 1, CmpEv T n y := fun y hy => cmp_ev T ht hn n y (hp y (by rw [hpd]; exact hy)) (by have := wid_mem (List.mem_of_mem_drop hy); omega)
      have hE := cmp_list T n 3 m s (k0 :: r0) (by decide) hn (by omega) (by simp) hq
      rw [hrd] at hE
      have hv : compM T (n + 1) ⟨3, m, s, k0 :: r0⟩ = listC T k0.f2 (((k0 :: r0).drop 1).all (compM T n)) := by
        have hi : ¬ k0.f2 = intB := fun e => by
          rw [hh] at hsh
          unfold shapeH at hsh
          rw [if_pos (.inl (by rw [e]; simp [ByteArray.toList_eq, intB]))] at hsh
          cases hsh
        have hb : ¬ k0.f2 = boolB := fun e => by
          rw [hh] at hsh
          unfold shapeH at hsh
          rw [if_pos (.inr (.inl (by rw [e]; simp [ByteArray.toList_eq, boolB])))] at hsh
          cases hsh
        have dec : decide ((⟨3, m, s, k0 :: r0⟩ : S24).f0 = 1) = false := decide_eq_false (by simp)
        unfold compM listC
        rw [hnm, dec]
        simp only [Bool.false_or]
        by_cases hmay : k0.f2 = maybeB
        · rw [if_pos (.inr (.inr (.inr hmay))), if_pos (.inr hmay)]
        have q1 : ¬ (k0.f2 = intB ∨ k0.f2 = boolB ∨ k0.f2 = bitsB ∨ k0.f2 = maybeB) := by rintro (e | e | e | e); exact hi e; exact hb e; exact hbits e; exact hmay e
        have q2 : ¬ (k0.f2 = bitsB ∨ k0.f2 = maybeB) := by rintro (e | e); exact hbits e; exact hmay e
        rw [if_neg q1, if_neg q2]
        by_cases him : k0.f2 = funB ∨ k0.f2 = imapB
        · rw [if_pos him, if_pos him]
        rw [if_neg him, if_neg him]
        by_cases hsq : k0.f2 = seqB ∨ k0.f2 = setB ∨ k0.f2 = bagB ∨ k0.f2 = mapB
        · rw [if_pos hsq, if_pos hsq]
        rw [if_neg hsq, if_neg hsq]
        have hmn : manyM k0.f2 = none := many_none hbits (fun e => hsq (.inl e)) (fun e => hsq (.inr (.inl e))) (fun e => hsq (.inr (.inr (.inl e)))) hmay (fun e => hsq (.inr (.inr (.inr e)))) (fun e => him (.inr e)) hfun
        have hre : resM k0.f2 = false := by
          rw [res_many, hmn, beq_eq_false_iff_ne.mpr (fun e => hi (bytes_inj (by rw [e]; simp [ByteArray.toList_eq, intB]))), beq_eq_false_iff_ne.mpr (fun e => hb (bytes_inj (by rw [e]; simp [ByteArray.toList_eq, boolB])))]
          rfl
        obtain ⟨r, hf, hl⟩ := out_row ho (by rw [hnm]; exact hre) (by rw [hnm]; exact hmn)
        rw [hnm] at hf
        have hk : kindT T k0.f2 = r.f1 := by unfold kindT; rw [hf]
        have hlen : (2 : Int) ≤ ((k0 :: r0).length : Int) := by omega
        simp only [] at hl
        have hk34 : ¬ (r.f1 = 3 ∨ r.f1 = 4) := fun e => by
          have := tab_args ht r (find_mem hf) (by omega)
          omega
        rw [hk, if_neg hk34, hf]
        simp only []
        by_cases hk2 : r.f1 = 2
        · rw [if_pos hk2, decide_eq_true hk2]; simp
        · rw [if_neg hk2, decide_eq_false hk2]; simp
      rw [hv]
      exact hE

end Go.Proofs.YtcjmplpfebpfpaaGreatDoor

namespace Go.Proofs.YtcjmplpfebpfpaaGreatDoor
open Go.RowKit Go.Proofs Go.Proofs.YtcjmplpfebpfpaaGreatDoorW.PrintWords Go.Proofs.YtcjmplpfebpfpaaGreatDoorW.PrintLast Go.Proofs.YtcjmplpfebpfpaaGreatDoorW.PrintMore PKindInstances
set_option linter.unusedVariables false
set_option linter.unusedSimpArgs false

def digI (c : Int) : Bool := !(decide (c < 48) || decide (57 < c))
def digsM (b : ByteArray) : Bool := (!(b.toList == [])) && (bytesI b).all digI
/-- What holds of the loop. -/
def DgRel (W0 : World) (b : ByteArray) (R : Bool) (k : Nat) (x3 : Value) (wr : World) : Prop :=
  ∃ (i : Nat), x3 = .int .i64 (i : Int) ∧ k + i = b.size ∧ Below W0.heap.size W0 wr ∧ ((!(b.toList == [])) && ((bytesI b).drop i).all digI) = R

/-- The text behind its minus. -/
def unsigned (s : ByteArray) : ByteArray := if decide (1 < s.size) && (s.data.toList.headD 0 == 45) then s.extract 1 s.size else s

set_option maxRecDepth 100000 in
set_option maxHeartbeats 4000000 in
theorem Digits_any (s : ByteArray) (w : World) (hz : s.size < 9000000) : Calls Tryz.prog 157 #[.string s] w fun e w' => e = .returned (.bool (digsM (unsigned s))) ∧ Below w.heap.size w w' := by
  obtain ⟨b, hb⟩ : ∃ b, b = unsigned s := ⟨_, rfl⟩
  rw [← hb]
  obtain ⟨R, hR⟩ : ∃ R, R = digsM b := ⟨_, rfl⟩
  rw [← hR]
  unfold digsM at hR
  have hbz : b.size < 9000000 := by
    rw [hb]; unfold unsigned; split
    · simp only [ByteArray.size_extract]; omega
    · exact hz
  unfold unsigned at hb
  by_cases h1 : 1 < s.size
  · have e1 : decide (1 < s.size) = true := decide_eq_true h1
    have hh : s.data.toList.headD 0 = s[0]'(by omega) := by
      obtain ⟨⟨l⟩⟩ := s
      cases l with
      | nil => exact absurd h1 (by decide)
      | cons a l => rfl
    rw [e1, hh] at hb
    cases h2 : (s[0]'(by omega) == 45) with
    | true =>
      have h3 : (((s[0]'(by omega)).toNat : Int) == 45) = true := by rw [eq_of_beq h2]; rfl
      rw [h2] at hb
      simp only [Bool.and_self, if_true] at hb
      clear h2 hh
      go_enter Tryz.func157, Tryz.ntmps157
      go_upto_region 3 with fail
      clear h3 e1 h1
      rw [← hb]
      clear hb
      have start : Hid (DgRel w b R b.size (.int .i64 ((0 : Nat) : Int)) w) := ⟨0, rfl, rfl, Below.refl _ _, hR.symm⟩
      clear hR
      go_wp2_with fail
      go_loopg [3] b.size (fun k x3 wr => DgRel w b R k x3 wr)
      case atStart => exact start.out
      case round =>
        clear start
        obtain ⟨i, rfl, hki, hB0, hV⟩ := hrel
        by_cases hlt : i < b.size
        · obtain ⟨g, rfl⟩ : ∃ g, gk = g + 1 := ⟨gk - 1, by omega⟩
          have e1 : decide (i < b.size) = true := decide_eq_true hlt
          have hd : (bytesI b).drop i = ((b[i]'hlt).toNat : Int) :: (bytesI b).drop (i + 1) := by
            have hl : i < (bytesI b).length := by simpa [bytesI] using hlt
            rw [List.drop_eq_getElem_cons hl]
            congr 1
            simp [bytesI]; rfl
          rw [hd, List.all_cons] at hV
          unfold digI at hV
          have HB : Hid _ := hB0
          cases hc1 : decide (((b[i]'hlt).toNat : Int) < 48) with
          | true =>
            rw [hc1] at hV
            have hV2 : false = R := by rw [← hV]; simp
            subst hV2
            clear hV hd hB0
            go_wp2_with fail
            go_ret
            exact ⟨rfl, HB.out⟩
          | false =>
            cases hc2 : decide (57 < ((b[i]'hlt).toNat : Int)) with
            | true =>
              rw [hc1, hc2] at hV
              have hV2 : false = R := by rw [← hV]; simp
              subst hV2
              clear hV hd hB0
              go_wp2_with fail
              go_ret
              exact ⟨rfl, HB.out⟩
            | false =>
              rw [hc1, hc2] at hV
              have HV : Hid (((!(b.toList == [])) && ((bytesI b).drop (i + 1)).all digI) = R) := by rw [← hV]; rfl
              clear hV hd hB0
              go_wp2_with fail
              go_roundg g
              case measure => omega
              case rel => exact ⟨i + 1, by go_num, by omega, HB.out, HV.out⟩
        · have e1 : decide (i < b.size) = false := decide_eq_false hlt
          have hnil : (bytesI b).drop i = [] := List.drop_eq_nil_of_le (by simpa [bytesI] using Nat.le_of_not_lt hlt)
          rw [hnil] at hV
          have hV2 : (!(b.toList == [])) = R := by rw [← hV]; simp
          have HB : Hid _ := hB0
          have hge : b.size ≤ i := by omega
          subst hV2
          clear hnil hV hlt hB0
          go_wp2_with fail
          go_ret
          exact ⟨by first | rfl | simp, HB.out⟩
    | false =>
      have h3 : (((s[0]'(by omega)).toNat : Int) == 45) = false := by
        rw [beq_eq_false_iff_ne] at h2 ⊢
        intro h
        apply h2
        apply UInt8.toNat_inj.1
        exact Int.ofNat.inj h
      rw [h2] at hb
      simp only [Bool.and_false, Bool.false_eq_true, if_false] at hb
      subst hb
      clear h2 hh
      go_enter Tryz.func157, Tryz.ntmps157
      go_upto_region 3 with fail
      clear h3 e1 h1
      have start : Hid (DgRel w b R b.size (.int .i64 ((0 : Nat) : Int)) w) := ⟨0, rfl, rfl, Below.refl _ _, hR.symm⟩
      clear hR
      go_wp2_with fail
      go_loopg [3] b.size (fun k x3 wr => DgRel w b R k x3 wr)
      case atStart => exact start.out
      case round =>
        clear start
        obtain ⟨i, rfl, hki, hB0, hV⟩ := hrel
        by_cases hlt : i < b.size
        · obtain ⟨g, rfl⟩ : ∃ g, gk = g + 1 := ⟨gk - 1, by omega⟩
          have e1 : decide (i < b.size) = true := decide_eq_true hlt
          have hd : (bytesI b).drop i = ((b[i]'hlt).toNat : Int) :: (bytesI b).drop (i + 1) := by
            have hl : i < (bytesI b).length := by simpa [bytesI] using hlt
            rw [List.drop_eq_getElem_cons hl]
            congr 1
            simp [bytesI]; rfl
          rw [hd, List.all_cons] at hV
          unfold digI at hV
          have HB : Hid _ := hB0
          cases hc1 : decide (((b[i]'hlt).toNat : Int) < 48) with
          | true =>
            rw [hc1] at hV
            have hV2 : false = R := by rw [← hV]; simp
            subst hV2
            clear hV hd hB0
            go_wp2_with fail
            go_ret
            exact ⟨rfl, HB.out⟩
          | false =>
            cases hc2 : decide (57 < ((b[i]'hlt).toNat : Int)) with
            | true =>
              rw [hc1, hc2] at hV
              have hV2 : false = R := by rw [← hV]; simp
              subst hV2
              clear hV hd hB0
              go_wp2_with fail
              go_ret
              exact ⟨rfl, HB.out⟩
            | false =>
              rw [hc1, hc2] at hV
              have HV : Hid (((!(b.toList == [])) && ((bytesI b).drop (i + 1)).all digI) = R) := by rw [← hV]; rfl
              clear hV hd hB0
              go_wp2_with fail
              go_roundg g
              case measure => omega
              case rel => exact ⟨i + 1, by go_num, by omega, HB.out, HV.out⟩
        · have e1 : decide (i < b.size) = false := decide_eq_false hlt
          have hnil : (bytesI b).drop i = [] := List.drop_eq_nil_of_le (by simpa [bytesI] using Nat.le_of_not_lt hlt)
          rw [hnil] at hV
          have hV2 : (!(b.toList == [])) = R := by rw [← hV]; simp
          have HB : Hid _ := hB0
          have hge : b.size ≤ i := by omega
          subst hV2
          clear hnil hV hlt hB0
          go_wp2_with fail
          go_ret
          exact ⟨by first | rfl | simp, HB.out⟩
  · have e1 : decide (1 < s.size) = false := decide_eq_false h1
    rw [e1] at hb
    simp only [Bool.false_and, Bool.false_eq_true, if_false] at hb
    subst hb
    go_enter Tryz.func157, Tryz.ntmps157
    go_upto_region 3 with fail
    clear e1 h1
    have start : Hid (DgRel w b R b.size (.int .i64 ((0 : Nat) : Int)) w) := ⟨0, rfl, rfl, Below.refl _ _, hR.symm⟩
    clear hR
    go_wp2_with fail
    go_loopg [3] b.size (fun k x3 wr => DgRel w b R k x3 wr)
    case atStart => exact start.out
    case round =>
      clear start
      obtain ⟨i, rfl, hki, hB0, hV⟩ := hrel
      by_cases hlt : i < b.size
      · obtain ⟨g, rfl⟩ : ∃ g, gk = g + 1 := ⟨gk - 1, by omega⟩
        have e1 : decide (i < b.size) = true := decide_eq_true hlt
        have hd : (bytesI b).drop i = ((b[i]'hlt).toNat : Int) :: (bytesI b).drop (i + 1) := by
          have hl : i < (bytesI b).length := by simpa [bytesI] using hlt
          rw [List.drop_eq_getElem_cons hl]
          congr 1
          simp [bytesI]; rfl
        rw [hd, List.all_cons] at hV
        unfold digI at hV
        have HB : Hid _ := hB0
        cases hc1 : decide (((b[i]'hlt).toNat : Int) < 48) with
        | true =>
          rw [hc1] at hV
          have hV2 : false = R := by rw [← hV]; simp
          subst hV2
          clear hV hd hB0
          go_wp2_with fail
          go_ret
          exact ⟨rfl, HB.out⟩
        | false =>
          cases hc2 : decide (57 < ((b[i]'hlt).toNat : Int)) with
          | true =>
            rw [hc1, hc2] at hV
            have hV2 : false = R := by rw [← hV]; simp
            subst hV2
            clear hV hd hB0
            go_wp2_with fail
            go_ret
            exact ⟨rfl, HB.out⟩
          | false =>
            rw [hc1, hc2] at hV
            have HV : Hid (((!(b.toList == [])) && ((bytesI b).drop (i + 1)).all digI) = R) := by rw [← hV]; rfl
            clear hV hd hB0
            go_wp2_with fail
            go_roundg g
            case measure => omega
            case rel => exact ⟨i + 1, by go_num, by omega, HB.out, HV.out⟩
      · have e1 : decide (i < b.size) = false := decide_eq_false hlt
        have hnil : (bytesI b).drop i = [] := List.drop_eq_nil_of_le (by simpa [bytesI] using Nat.le_of_not_lt hlt)
        rw [hnil] at hV
        have hV2 : (!(b.toList == [])) = R := by rw [← hV]; simp
        have HB : Hid _ := hB0
        have hge : b.size ≤ i := by omega
        subst hV2
        clear hnil hV hlt hB0
        go_wp2_with fail
        go_ret
        exact ⟨by first | rfl | simp, HB.out⟩

end Go.Proofs.YtcjmplpfebpfpaaGreatDoor

namespace Go.Proofs.YtcjmplpfebpfpaaGreatDoor.PKindInstances
open Go.RowKit Go.Proofs.YtcjmplpfebpfpaaGreatDoorW.PrintWords Go.Proofs.YtcjmplpfebpfpaaGreatDoorW.PrintLast Go.Proofs.YtcjmplpfebpfpaaGreatDoorW.PrintMore
attribute [local go_sem] max2_int min2_int max_two min_two max_three min_three max_four min_four   -- for this text's walks alone
set_option linter.unusedVariables false
set_option linter.unusedSimpArgs false

def plinthref01_visible.f (a0 : Int) : Option (Bool) := if a0 ≥ 33 then (if a0 ≤ 126 then (if a0 = 40 then (some false) else (if a0 = 41 then (some false) else (if a0 = 34 then (some false) else (some (a0 != 59))))) else (some false)) else (some false)
set_option maxHeartbeats 8000000 in
set_option maxRecDepth 100000 in
theorem plinthref01_visible.calls (a0 : Int) (r : Bool) (w : World) (h : plinthref01_visible.f a0 = some r) :
    Calls Tryz.prog 156 #[.int .u8 a0] w fun e w' => e = .returned (.bool r) ∧ Drawn0 w w' := by
  have H : (if a0 ≥ 33 then (if a0 ≤ 126 then (if a0 = 40 then (some false) else (if a0 = 41 then (some false) else (if a0 = 34 then (some false) else (some (a0 != 59))))) else (some false)) else (some false)) = some r := h
  clear h
  by_cases c2 : a0 ≥ 33
  · rw [if_pos c2] at H
    have c2b0 : decide (33 ≤ a0) = true := decide_eq_true c2
    clear c2
    by_cases c3 : a0 ≤ 126
    · rw [if_pos c3] at H
      have c3b0 : decide (a0 ≤ 126) = true := decide_eq_true c3
      clear c3
      by_cases c4 : a0 = 40
      · rw [if_pos c4] at H
        have c4b0 : (a0 == 40) = true := beq_iff_eq.mpr c4
        have c4b1 : (a0 != 40) = false := bne_eq_false_iff_eq.mpr c4
        clear c4
        obtain rfl := Option.some.inj H
        go_enter Tryz.func156, Tryz.ntmps156
        go_wp2
        go_ret
        exact ⟨by first | rfl | (simp; done) | (simp [*]; done), by repeat (first | exact Drawn0.refl _ | apply Drawn0.step)⟩
      · rw [if_neg c4] at H
        have c4b0 : (a0 == 40) = false := beq_eq_false_iff_ne.mpr c4
        have c4b1 : (a0 != 40) = true := bne_iff_ne.mpr c4
        by_cases c5 : a0 = 41
        · rw [if_pos c5] at H
          have c5b0 : (a0 == 41) = true := beq_iff_eq.mpr c5
          have c5b1 : (a0 != 41) = false := bne_eq_false_iff_eq.mpr c5
          clear c5
          obtain rfl := Option.some.inj H
          go_enter Tryz.func156, Tryz.ntmps156
          go_wp2
          go_ret
          exact ⟨by first | rfl | (simp; done) | (simp [*]; done), by repeat (first | exact Drawn0.refl _ | apply Drawn0.step)⟩
        · rw [if_neg c5] at H
          have c5b0 : (a0 == 41) = false := beq_eq_false_iff_ne.mpr c5
          have c5b1 : (a0 != 41) = true := bne_iff_ne.mpr c5
          by_cases c6 : a0 = 34
          · rw [if_pos c6] at H
            have c6b0 : (a0 == 34) = true := beq_iff_eq.mpr c6
            have c6b1 : (a0 != 34) = false := bne_eq_false_iff_eq.mpr c6
            clear c6
            obtain rfl := Option.some.inj H
            go_enter Tryz.func156, Tryz.ntmps156
            go_wp2
            go_ret
            exact ⟨by first | rfl | (simp; done) | (simp [*]; done), by repeat (first | exact Drawn0.refl _ | apply Drawn0.step)⟩
          · rw [if_neg c6] at H
            have c6b0 : (a0 == 34) = false := beq_eq_false_iff_ne.mpr c6
            have c6b1 : (a0 != 34) = true := bne_iff_ne.mpr c6
            obtain rfl := Option.some.inj H
            go_enter Tryz.func156, Tryz.ntmps156
            go_wp2
            go_ret
            exact ⟨by first | rfl | (simp; done) | (simp [*]; done), by repeat (first | exact Drawn0.refl _ | apply Drawn0.step)⟩
    · rw [if_neg c3] at H
      have c3b0 : decide (a0 ≤ 126) = false := decide_eq_false c3
      clear c3
      obtain rfl := Option.some.inj H
      go_enter Tryz.func156, Tryz.ntmps156
      go_wp2
      go_ret
      exact ⟨by first | rfl | (simp; done) | (simp [*]; done), by repeat (first | exact Drawn0.refl _ | apply Drawn0.step)⟩
  · rw [if_neg c2] at H
    have c2b0 : decide (33 ≤ a0) = false := decide_eq_false c2
    clear c2
    obtain rfl := Option.some.inj H
    go_enter Tryz.func156, Tryz.ntmps156
    go_wp2
    go_ret
    exact ⟨by first | rfl | (simp; done) | (simp [*]; done), by repeat (first | exact Drawn0.refl _ | apply Drawn0.step)⟩

end Go.Proofs.YtcjmplpfebpfpaaGreatDoor.PKindInstances

namespace Go.Proofs.YtcjmplpfebpfpaaGreatDoor
open Go.RowKit Go.Proofs Go.Proofs.YtcjmplpfebpfpaaGreatDoorW.PrintWords Go.Proofs.YtcjmplpfebpfpaaGreatDoorW.PrintLast Go.Proofs.YtcjmplpfebpfpaaGreatDoorW.PrintMore PKindInstances
set_option linter.unusedVariables false
set_option linter.unusedSimpArgs false

theorem visible_f : ∀ n : Fin 256, plinthref01_visible.f ((n.val : Nat) : Int) = some (!outM ((n.val : Nat) : Int)) := by
  have h : (List.range 256).all (fun n => plinthref01_visible.f ((n : Nat) : Int) == some (!outM ((n : Nat) : Int))) = true := by kernel_rfl
  intro n
  have := List.all_eq_true.1 h n.val (List.mem_range.2 n.isLt)
  exact eq_of_beq this
theorem visible_any (c : UInt8) (w : World) : Calls Tryz.prog 156 #[.int .u8 (c.toNat : Int)] w fun e w' => e = .returned (.bool (!outM (c.toNat : Int))) ∧ Below w.heap.size w w' := by
  refine (plinthref01_visible.calls _ _ w (visible_f ⟨c.toNat, c.toNat_lt⟩)).mono ?_
  rintro e w' ⟨rfl, m, rfl⟩
  exact ⟨rfl, pw_below_drewN (Below.refl _ _) _⟩

def wordR (s : ByteArray) : Bool := ((bytesI s).all fun c => !outM c) && (decide (1 ≤ s.size) && decide (s.size ≤ 30) && !digsM (unsigned s))
/-- What holds of the loop. -/
def IwRel (W0 : World) (b : ByteArray) (R : Bool) (k : Nat) (x3 : Value) (wr : World) : Prop :=
  ∃ (i : Nat), x3 = .int .i64 (i : Int) ∧ k + i = b.size ∧ Below W0.heap.size W0 wr ∧ (((bytesI b).drop i).all (fun c => !outM c) && (decide (1 ≤ b.size) && decide (b.size ≤ 30) && !digsM (unsigned b))) = R

set_option maxRecDepth 100000 in
set_option maxHeartbeats 4000000 in
theorem IsWord_any (b : ByteArray) (w : World) (hz : b.size < 9000000) : Calls Tryz.prog 138 #[.string b] w fun e w' => e = .returned (.bool (wordR b)) ∧ Below w.heap.size w w' := by
  obtain ⟨R, hR⟩ : ∃ R, R = wordR b := ⟨_, rfl⟩
  rw [← hR]
  have start : Hid (IwRel w b R b.size (.int .i64 ((0 : Nat) : Int)) w) := ⟨0, rfl, rfl, Below.refl _ _, hR.symm⟩
  have DG : Hid _ := fun w1 => Digits_any b w1 hz
  obtain ⟨dg, hdg⟩ : ∃ dg, dg = digsM (unsigned b) := ⟨_, rfl⟩
  rw [← hdg] at DG
  clear hR
  go_enter Tryz.func138, Tryz.ntmps138
  go_wp2_with fail
  go_loopg [3] b.size (fun k x3 wr => IwRel w b R k x3 wr)
  case atStart => exact start.out
  case round =>
    clear start
    obtain ⟨i, rfl, hki, hB0, hV⟩ := hrel
    rw [← hdg] at hV
    by_cases hlt : i < b.size
    · obtain ⟨g, rfl⟩ : ∃ g, gk = g + 1 := ⟨gk - 1, by omega⟩
      have e1 : decide (i < b.size) = true := decide_eq_true hlt
      have hd : (bytesI b).drop i = ((b[i]'hlt).toNat : Int) :: (bytesI b).drop (i + 1) := by
        have hl : i < (bytesI b).length := by simpa [bytesI] using hlt
        rw [List.drop_eq_getElem_cons hl]
        congr 1
        simp [bytesI]; rfl
      rw [hd, List.all_cons] at hV
      have HB : Hid _ := hB0
      have HV : Hid _ := hV
      clear hd hV hB0
      go_wp2_with fail
      refine (visible_any _ _).mono ?_
      rintro e w2 ⟨rfl, B2⟩
      have HB2 : Hid _ := below_after HB.out B2
      clear B2
      have hV := HV.out
      clear HV
      obtain ⟨o, ho⟩ : ∃ o, o = outM ((b[i]'hlt).toNat : Int) := ⟨_, rfl⟩
      rw [← ho] at hV ⊢
      clear ho
      cases o with
      | true =>
        have hV2 : false = R := by rw [← hV]; simp
        subst hV2
        clear hV
        go_wp2_with fail
        go_ret
        exact ⟨rfl, HB2.out⟩
      | false =>
        rw [hdg] at hV
        have HV : Hid _ := hV
        clear hV
        go_wp2_with fail
        go_roundg g
        case measure => omega
        case rel => exact ⟨i + 1, by go_num, by omega, HB2.out, HV.out⟩
    · have e1 : decide (i < b.size) = false := decide_eq_false hlt
      have hnil : (bytesI b).drop i = [] := List.drop_eq_nil_of_le (by simpa [bytesI] using Nat.le_of_not_lt hlt)
      rw [hnil] at hV
      have hV2 : (decide (1 ≤ b.size) && decide (b.size ≤ 30) && !dg) = R := by rw [← hV]; simp
      have HB : Hid _ := hB0
      have hge : b.size ≤ i := by omega
      subst hV2
      clear hnil hV hlt hB0 hdg
      cases h1 : decide (1 ≤ b.size) with
      | false =>
        have i1 : decide (1 ≤ (b.size : Int)) = false := decide_eq_false (by have := of_decide_eq_false h1; omega)
        have i2 : decide ((b.size : Int) < 1) = true := decide_eq_true (by have := of_decide_eq_false h1; omega)
        have i3 : (b.size : Int) < 1 := of_decide_eq_true i2
        go_wp2_with fail
        go_ret
        exact ⟨by first | rfl | simp [h1], HB.out⟩
      | true =>
        have i1 : decide (1 ≤ (b.size : Int)) = true := decide_eq_true (by have := of_decide_eq_true h1; omega)
        have i2 : decide ((b.size : Int) < 1) = false := decide_eq_false (by have := of_decide_eq_true h1; omega)
        have i3 : ¬ (b.size : Int) < 1 := of_decide_eq_false i2
        cases h2 : decide (b.size ≤ 30) with
        | false =>
          have j1 : decide ((b.size : Int) ≤ 30) = false := decide_eq_false (by have := of_decide_eq_false h2; omega)
          have j3 : 30 < (b.size : Int) := by have := of_decide_eq_false h2; omega
          go_wp2_with fail
          go_ret
          exact ⟨by first | rfl | simp [h1, h2], HB.out⟩
        | true =>
          have j1 : decide ((b.size : Int) ≤ 30) = true := decide_eq_true (by have := of_decide_eq_true h2; omega)
          have j3 : (b.size : Int) ≤ 30 := by have := of_decide_eq_true h2; omega
          have j4 : ¬ 30 < (b.size : Int) := by omega
          go_wp2_with fail
          refine (DG.out _).mono ?_
          rintro e w2 ⟨rfl, B2⟩
          have HB2 : Hid _ := below_after HB.out B2
          clear B2
          go_wp2_with fail
          go_ret
          exact ⟨by first | rfl | simp [h1, h2], HB2.out⟩

end Go.Proofs.YtcjmplpfebpfpaaGreatDoor

namespace Go.Proofs.YtcjmplpfebpfpaaGreatDoor.PKindInstances
open Go.RowKit Go.Proofs.YtcjmplpfebpfpaaGreatDoorW.PrintWords Go.Proofs.YtcjmplpfebpfpaaGreatDoorW.PrintLast Go.Proofs.YtcjmplpfebpfpaaGreatDoorW.PrintMore
attribute [local go_sem] max2_int min2_int max_two min_two max_three min_three max_four min_four   -- for this text's walks alone
set_option linter.unusedVariables false
set_option linter.unusedSimpArgs false

def plinthref01_IsText.l0 : Nat → ByteArray → Int → Option (Bool)
  | 0, _, _ => none
  | k + 1, x0, x3 => if x3 < (x0.size : Int) then (if 0 ≤ x3 then (if (bt x0 x3) = 10 then (plinthref01_IsText.l0 k x0 (wrap64 (x3 + 1))) else (if (bt x0 x3) < 32 then (some false) else (if (bt x0 x3) > 126 then (some false) else (plinthref01_IsText.l0 k x0 (wrap64 (x3 + 1)))))) else (none)) else (some (decide ((x0.size : Int) ≤ 2000)))
def plinthref01_IsText.f (k : Nat) (a0 : ByteArray) : Option (Bool) := plinthref01_IsText.l0 k a0 0
set_option maxHeartbeats 8000000 in
set_option maxRecDepth 100000 in
theorem plinthref01_IsText.calls (k : Nat) (a0 : ByteArray) (r : Bool) (w : World) (h : plinthref01_IsText.f k a0 = some r) :
    Calls Tryz.prog 139 #[.string a0] w fun e w' => e = .returned (.bool r) ∧ Drawn0 w w' := by
  have H : (plinthref01_IsText.l0 k a0 0) = some r := h
  clear h
  have H' := Aside0.mk H
  clear H
  go_enter Tryz.func139, Tryz.ntmps139
  go_wp2
  go_loopg [3] k (fun kq v3 w' => ∃ (x3_1 : Int), v3 = .int .i64 x3_1 ∧ Aside0 (plinthref01_IsText.l0 kq a0 x3_1 = some r) ∧ Aside0 (kq ≤ k) ∧ Drawn0 w w')
  case atStart => exact ⟨(0), (by first | rfl | (simp; done) | (simp [*]; done)), H', ⟨Nat.le_refl _⟩, by repeat (first | exact Drawn0.refl _ | apply Drawn0.step)⟩
  case round =>
    clear H'
    try clear c1
    obtain ⟨x3_1, rfl, HA, HK1, ⟨m1, rfl⟩⟩ := hrel
    cases gk with
    | zero => exact absurd HA.out (by simp [plinthref01_IsText.l0])
    | succ k1 =>
      have H := HA.out
      clear HA
      simp only [plinthref01_IsText.l0] at H
      by_cases c2 : x3_1 < (a0.size : Int)
      · rw [if_pos c2] at H
        have c2b0 : decide (x3_1 < (a0.size : Int)) = true := decide_eq_true c2
        clear c2
        by_cases c3 : 0 ≤ x3_1
        · rw [if_pos c3] at H
          have c3b0 : decide (0 ≤ x3_1) = true := decide_eq_true c3
          clear c3
          by_cases c5 : (bt a0 x3_1) = 10
          · rw [if_pos c5] at H
            have c5b0 : ((bt a0 x3_1) == 10) = true := beq_iff_eq.mpr c5
            have c5b1 : ((bt a0 x3_1) != 10) = false := bne_eq_false_iff_eq.mpr c5
            clear c5
            have H' := Aside0.mk H
            clear H
            have p4 : 0 ≤ (x3_1 : Int) := of_decide_eq_true (by first | (with_reducible assumption) | assumption)
            have q4 : x3_1 < (a0.size : Int) := of_decide_eq_true (by first | (with_reducible assumption) | assumption)
            have hx4 := bt_at a0 x3_1
            replace p4 := eq_true p4
            replace q4 := eq_true q4
            go_wp2
            go_roundg k1
            case measure => have := HK1.out; omega
            case rel => exact ⟨(wrap64 (x3_1 + 1)), (by first | rfl | (simp; done) | (simp [*]; done)), H', ⟨by have := HK1.out; omega⟩, by repeat (first | exact Drawn0.refl _ | apply Drawn0.step)⟩
          · rw [if_neg c5] at H
            have c5b0 : ((bt a0 x3_1) == 10) = false := beq_eq_false_iff_ne.mpr c5
            have c5b1 : ((bt a0 x3_1) != 10) = true := bne_iff_ne.mpr c5
            by_cases c7 : (bt a0 x3_1) < 32
            · rw [if_pos c7] at H
              have c7b0 : decide ((bt a0 x3_1) < 32) = true := decide_eq_true c7
              clear c7
              obtain rfl := Option.some.inj H
              have p4 : 0 ≤ (x3_1 : Int) := of_decide_eq_true (by first | (with_reducible assumption) | assumption)
              have q4 : x3_1 < (a0.size : Int) := of_decide_eq_true (by first | (with_reducible assumption) | assumption)
              have hx4 := bt_at a0 x3_1
              replace p4 := eq_true p4
              replace q4 := eq_true q4
              have p6 : 0 ≤ (x3_1 : Int) := of_decide_eq_true (by first | (with_reducible assumption) | assumption)
              have q6 : x3_1 < (a0.size : Int) := of_decide_eq_true (by first | (with_reducible assumption) | assumption)
              have hx6 := bt_at a0 x3_1
              replace p6 := eq_true p6
              replace q6 := eq_true q6
              go_wp2
              go_ret
              exact ⟨by first | rfl | (simp; done) | (simp [*]; done), by repeat (first | exact Drawn0.refl _ | apply Drawn0.step)⟩
            · rw [if_neg c7] at H
              have c7b0 : decide ((bt a0 x3_1) < 32) = false := decide_eq_false c7
              clear c7
              by_cases c9 : (bt a0 x3_1) > 126
              · rw [if_pos c9] at H
                have c9b0 : decide (126 < (bt a0 x3_1)) = true := decide_eq_true c9
                clear c9
                obtain rfl := Option.some.inj H
                have p4 : 0 ≤ (x3_1 : Int) := of_decide_eq_true (by first | (with_reducible assumption) | assumption)
                have q4 : x3_1 < (a0.size : Int) := of_decide_eq_true (by first | (with_reducible assumption) | assumption)
                have hx4 := bt_at a0 x3_1
                replace p4 := eq_true p4
                replace q4 := eq_true q4
                have p6 : 0 ≤ (x3_1 : Int) := of_decide_eq_true (by first | (with_reducible assumption) | assumption)
                have q6 : x3_1 < (a0.size : Int) := of_decide_eq_true (by first | (with_reducible assumption) | assumption)
                have hx6 := bt_at a0 x3_1
                replace p6 := eq_true p6
                replace q6 := eq_true q6
                have p8 : 0 ≤ (x3_1 : Int) := of_decide_eq_true (by first | (with_reducible assumption) | assumption)
                have q8 : x3_1 < (a0.size : Int) := of_decide_eq_true (by first | (with_reducible assumption) | assumption)
                have hx8 := bt_at a0 x3_1
                replace p8 := eq_true p8
                replace q8 := eq_true q8
                go_wp2
                go_ret
                exact ⟨by first | rfl | (simp; done) | (simp [*]; done), by repeat (first | exact Drawn0.refl _ | apply Drawn0.step)⟩
              · rw [if_neg c9] at H
                have c9b0 : decide (126 < (bt a0 x3_1)) = false := decide_eq_false c9
                clear c9
                have H' := Aside0.mk H
                clear H
                have p4 : 0 ≤ (x3_1 : Int) := of_decide_eq_true (by first | (with_reducible assumption) | assumption)
                have q4 : x3_1 < (a0.size : Int) := of_decide_eq_true (by first | (with_reducible assumption) | assumption)
                have hx4 := bt_at a0 x3_1
                replace p4 := eq_true p4
                replace q4 := eq_true q4
                have p6 : 0 ≤ (x3_1 : Int) := of_decide_eq_true (by first | (with_reducible assumption) | assumption)
                have q6 : x3_1 < (a0.size : Int) := of_decide_eq_true (by first | (with_reducible assumption) | assumption)
                have hx6 := bt_at a0 x3_1
                replace p6 := eq_true p6
                replace q6 := eq_true q6
                have p8 : 0 ≤ (x3_1 : Int) := of_decide_eq_true (by first | (with_reducible assumption) | assumption)
                have q8 : x3_1 < (a0.size : Int) := of_decide_eq_true (by first | (with_reducible assumption) | assumption)
                have hx8 := bt_at a0 x3_1
                replace p8 := eq_true p8
                replace q8 := eq_true q8
                go_wp2
                go_roundg k1
                case measure => have := HK1.out; omega
                case rel => exact ⟨(wrap64 (x3_1 + 1)), (by first | rfl | (simp; done) | (simp [*]; done)), H', ⟨by have := HK1.out; omega⟩, by repeat (first | exact Drawn0.refl _ | apply Drawn0.step)⟩
        · rw [if_neg c3] at H
          exact absurd H (by simp)
      · rw [if_neg c2] at H
        have c2b0 : decide (x3_1 < (a0.size : Int)) = false := decide_eq_false c2
        clear c2
        obtain rfl := Option.some.inj H
        go_wp2
        go_ret
        exact ⟨by first | rfl | (simp; done) | (simp [*]; done), by repeat (first | exact Drawn0.refl _ | apply Drawn0.step)⟩

end Go.Proofs.YtcjmplpfebpfpaaGreatDoor.PKindInstances

namespace Go.Proofs.YtcjmplpfebpfpaaGreatDoor
open Go.RowKit Go.Proofs Go.Proofs.YtcjmplpfebpfpaaGreatDoorW.PrintWords Go.Proofs.YtcjmplpfebpfpaaGreatDoorW.PrintLast Go.Proofs.YtcjmplpfebpfpaaGreatDoorW.PrintMore PKindInstances
set_option linter.unusedVariables false
set_option linter.unusedSimpArgs false

theorem text_f : ∀ (s : ByteArray) (i k : Nat), s.size < 9000000 → i ≤ s.size → s.size < k + i → plinthref01_IsText.l0 k s (i : Int) = some (decide ((s.size : Int) ≤ 2000) && ((bytesI s).drop i).all fun c => c == 10 || (decide (32 ≤ c) && decide (c ≤ 126)))
  | s, i, 0, h1, h2, h3 => by omega
  | s, i, k + 1, h1, h2, h3 => by
    by_cases hlt : i < s.size
    · have hd : (bytesI s).drop i = ((s[i]'hlt).toNat : Int) :: (bytesI s).drop (i + 1) := by
        have hl : i < (bytesI s).length := by simpa [bytesI] using hlt
        rw [List.drop_eq_getElem_cons hl]
        congr 1
        simp [bytesI]; rfl
      have hw : wrap64 ((i : Int) + 1) = ((i + 1 : Nat) : Int) := by unfold wrap64; omega
      have hb : bt s (i : Int) = ((s[i]'hlt).toNat : Int) := by
        unfold bt
        simp [hlt]
      have ih := text_f s (i + 1) k h1 (by omega) (by omega)
      simp only [plinthref01_IsText.l0]
      rw [if_pos (by omega), if_pos (by omega), hw, ih, hd, List.all_cons, hb]
      generalize ((s[i]'hlt).toNat : Int) = c
      by_cases c1 : c = 10
      · simp [c1]
      · by_cases c2 : c < 32
        · have : ¬ 32 ≤ c := by omega
          simp [c1, c2, this]
        · by_cases c3 : 126 < c
          · have : ¬ c ≤ 126 := by omega
            simp [c1, c2, c3, this]
          · have : 32 ≤ c := by omega
            have : c ≤ 126 := by omega
            have c3' : ¬ c > 126 := c3
            simp [c1, c2, c3', *]
    · have hnil : (bytesI s).drop i = [] := List.drop_eq_nil_of_le (by simpa [bytesI] using Nat.le_of_not_lt hlt)
      simp only [plinthref01_IsText.l0]
      rw [if_neg (by omega), hnil]
      simp
theorem IsText_any (s : ByteArray) (w : World) (hz : s.size < 9000000) : Calls Tryz.prog 139 #[.string s] w fun e w' => e = .returned (.bool (textM s)) ∧ Below w.heap.size w w' := by
  refine (plinthref01_IsText.calls (s.size + 1) s (textM s) w (by unfold plinthref01_IsText.f textM; rw [show (0 : Int) = ((0 : Nat) : Int) from rfl, text_f s 0 _ hz (by omega) (by omega), List.drop_zero, show decide ((s.size : Int) ≤ 2000) = decide (s.size ≤ 2000) from by congr 1; exact propext (by omega)])).mono ?_
  rintro e w' ⟨rfl, m, rfl⟩
  exact ⟨rfl, pw_below_drewN (Below.refl _ _) _⟩

/-- A form's own fields, the document's way. -/
def leafR (x : S24) : Bool :=
  if x.f0 = 0 then (x.f2.toList == []) && ((x.f3.length : Int) == 0) && (decide (-1152921504606846976 ≤ x.f1) && decide (x.f1 ≤ 1152921504606846976)) else
  if x.f0 = 1 then wordR x.f2 && (x.f1 == 0) && ((x.f3.length : Int) == 0) else
  if x.f0 = 2 then textM x.f2 && (x.f1 == 0) && ((x.f3.length : Int) == 0) else
  if x.f0 = 3 then (x.f2.toList == []) && (x.f1 == 0) else false
mutual
def fieldsM : S24 → Bool
  | ⟨a, b, s, l⟩ => leafR ⟨a, b, s, l⟩ && fieldsL l
def fieldsL : List S24 → Bool
  | [] => true
  | x :: l => fieldsM x && fieldsL l
end
def FieldsOk (x : S24) : Prop :=
  ∀ (A : Option Addr) (c : Nat) (w : World), Kd.C k24 w A x.f3.length x.f3 → x.f3.length ≤ c → wid x < 9000000 →
    Calls Tryz.prog 99 #[formV x.f0 x.f1 x.f2 A x.f3.length c] w fun e w' => e = .returned (.bool (fieldsM x)) ∧ Below w.heap.size w w'

set_option maxRecDepth 100000 in
set_option maxHeartbeats 4000000 in
theorem fields_num (n : Int) (s : ByteArray) (l : List S24) (A : Option Addr) (c : Nat) (w : World) :
    Calls Tryz.prog 99 #[formV 0 n s A l.length c] w fun e w' => e = .returned (.bool ((s.toList == []) && ((l.length : Int) == 0) && (decide (-1152921504606846976 ≤ n) && decide (n ≤ 1152921504606846976)))) ∧ Below w.heap.size w w' := by
  have hu24 := Tryz.underlying24
  generalize l.length = m
  by_cases hm : 0 < m
  · have e1 : decide (0 < m) = true := decide_eq_true hm
    have e2 : ((m : Int) == 0) = false := beq_eq_false_iff_ne.mpr (by omega)
    rw [e2]
    simp only [Bool.and_false, Bool.false_and]
    clear hm
    go_enter Tryz.func99, Tryz.ntmps99
    go_wp2_with fail
    go_ret
    exact ⟨rfl, (by (repeat (first | assumption | exact Below.refl _ _ | apply below_alloc | apply pw_below_drewN | apply below_drew1)))⟩
  · obtain rfl : m = 0 := by omega
    cases hs : (s.toList == []) with
    | false =>
      simp only [Bool.false_and]
      go_enter Tryz.func99, Tryz.ntmps99
      go_wp2_with fail
      go_ret
      exact ⟨rfl, (by (repeat (first | assumption | exact Below.refl _ _ | apply below_alloc | apply pw_below_drewN | apply below_drew1)))⟩
    | true =>
      cases h1 : decide (-1152921504606846976 ≤ n) with
      | false =>
        simp only [Bool.false_and, Bool.and_false]
        have i1 : ¬ -1152921504606846976 ≤ n := of_decide_eq_false h1
        have i2 : n < -1152921504606846976 := by omega
        go_enter Tryz.func99, Tryz.ntmps99
        go_wp2_with fail
        go_ret
        exact ⟨rfl, (by (repeat (first | assumption | exact Below.refl _ _ | apply below_alloc | apply pw_below_drewN | apply below_drew1)))⟩
      | true =>
        have i1 : -1152921504606846976 ≤ n := of_decide_eq_true h1
        have i2 : ¬ n < -1152921504606846976 := by omega
        go_enter Tryz.func99, Tryz.ntmps99
        go_wp2_with fail
        go_ret
        exact ⟨by simp, (by (repeat (first | assumption | exact Below.refl _ _ | apply below_alloc | apply pw_below_drewN | apply below_drew1)))⟩

set_option maxRecDepth 100000 in
set_option maxHeartbeats 4000000 in
theorem fields_word (n : Int) (s : ByteArray) (l : List S24) (A : Option Addr) (c : Nat) (w : World) (hz : s.size < 9000000) :
    Calls Tryz.prog 99 #[formV 1 n s A l.length c] w fun e w' => e = .returned (.bool (wordR s && (n == 0) && ((l.length : Int) == 0))) ∧ Below w.heap.size w w' := by
  have hu24 := Tryz.underlying24
  generalize l.length = m
  cases hn : (n == 0) with
  | false =>
    simp only [Bool.false_and, Bool.and_false]
    have n1 : (n != 0) = true := bne_iff_ne.mpr (beq_eq_false_iff_ne.mp hn)
    go_enter Tryz.func99, Tryz.ntmps99
    go_wp2_with fail
    go_ret
    exact ⟨rfl, (by (repeat (first | assumption | exact Below.refl _ _ | apply below_alloc | apply pw_below_drewN | apply below_drew1)))⟩
  | true =>
    obtain rfl : n = 0 := eq_of_beq hn
    by_cases hm : 0 < m
    · have e1 : decide (0 < m) = true := decide_eq_true hm
      have e2 : ((m : Int) == 0) = false := beq_eq_false_iff_ne.mpr (by omega)
      rw [e2]
      simp only [Bool.and_false, Bool.false_and]
      clear hm hn
      go_enter Tryz.func99, Tryz.ntmps99
      go_wp2_with fail
      go_ret
      exact ⟨rfl, (by (repeat (first | assumption | exact Below.refl _ _ | apply below_alloc | apply pw_below_drewN | apply below_drew1)))⟩
    · obtain rfl : m = 0 := by omega
      have IW : Hid _ := fun w1 => IsWord_any s w1 hz
      clear hm hn
      go_enter Tryz.func99, Tryz.ntmps99
      go_wp2_with fail
      refine (IW.out _).mono ?_
      rintro e w2 ⟨rfl, B2'⟩
      have B2 : Below w.heap.size w w2 := below_after (by (repeat (first | assumption | exact Below.refl _ _ | apply below_alloc | apply pw_below_drewN | apply below_drew1))) B2'
      clear B2'
      go_wp2_with fail
      go_ret
      exact ⟨by simp, B2⟩

set_option maxRecDepth 100000 in
set_option maxHeartbeats 4000000 in
theorem fields_text (n : Int) (s : ByteArray) (l : List S24) (A : Option Addr) (c : Nat) (w : World) (hz : s.size < 9000000) :
    Calls Tryz.prog 99 #[formV 2 n s A l.length c] w fun e w' => e = .returned (.bool (textM s && (n == 0) && ((l.length : Int) == 0))) ∧ Below w.heap.size w w' := by
  have hu24 := Tryz.underlying24
  generalize l.length = m
  cases hn : (n == 0) with
  | false =>
    simp only [Bool.false_and, Bool.and_false]
    have n1 : (n != 0) = true := bne_iff_ne.mpr (beq_eq_false_iff_ne.mp hn)
    go_enter Tryz.func99, Tryz.ntmps99
    go_wp2_with fail
    go_ret
    exact ⟨rfl, (by (repeat (first | assumption | exact Below.refl _ _ | apply below_alloc | apply pw_below_drewN | apply below_drew1)))⟩
  | true =>
    obtain rfl : n = 0 := eq_of_beq hn
    by_cases hm : 0 < m
    · have e1 : decide (0 < m) = true := decide_eq_true hm
      have e2 : ((m : Int) == 0) = false := beq_eq_false_iff_ne.mpr (by omega)
      rw [e2]
      simp only [Bool.and_false, Bool.false_and]
      clear hm hn
      go_enter Tryz.func99, Tryz.ntmps99
      go_wp2_with fail
      go_ret
      exact ⟨rfl, (by (repeat (first | assumption | exact Below.refl _ _ | apply below_alloc | apply pw_below_drewN | apply below_drew1)))⟩
    · obtain rfl : m = 0 := by omega
      have IW : Hid _ := fun w1 => IsText_any s w1 hz
      clear hm hn
      go_enter Tryz.func99, Tryz.ntmps99
      go_wp2_with fail
      refine (IW.out _).mono ?_
      rintro e w2 ⟨rfl, B2'⟩
      have B2 : Below w.heap.size w w2 := below_after (by (repeat (first | assumption | exact Below.refl _ _ | apply below_alloc | apply pw_below_drewN | apply below_drew1))) B2'
      clear B2'
      go_wp2_with fail
      go_ret
      exact ⟨by simp, B2⟩

set_option maxRecDepth 100000 in
set_option maxHeartbeats 4000000 in
theorem fields_none (a n : Int) (s : ByteArray) (l : List S24) (A : Option Addr) (c : Nat) (w : World) (h0 : a ≠ 0) (h1 : a ≠ 1) (h2 : a ≠ 2) (h3 : a ≠ 3) :
    Calls Tryz.prog 99 #[formV a n s A l.length c] w fun e w' => e = .returned (.bool false) ∧ Below w.heap.size w w' := by
  have hu24 := Tryz.underlying24
  generalize l.length = m
  have a0 : (a != 0) = true := bne_iff_ne.mpr h0
  have a1 : (a != 1) = true := bne_iff_ne.mpr h1
  have a2 : (a != 2) = true := bne_iff_ne.mpr h2
  have a3 : (a != 3) = true := bne_iff_ne.mpr h3
  have b0 : (a == 0) = false := beq_eq_false_iff_ne.mpr h0
  have b1 : (a == 1) = false := beq_eq_false_iff_ne.mpr h1
  have b2 : (a == 2) = false := beq_eq_false_iff_ne.mpr h2
  have b3 : (a == 3) = false := beq_eq_false_iff_ne.mpr h3
  clear h0 h1 h2 h3
  cases hn : (n == 0) with
  | false =>
    have n1 : (n != 0) = true := bne_iff_ne.mpr (beq_eq_false_iff_ne.mp hn)
    go_enter Tryz.func99, Tryz.ntmps99
    go_wp2_with fail
    go_ret
    exact ⟨rfl, (by (repeat (first | assumption | exact Below.refl _ _ | apply below_alloc | apply pw_below_drewN | apply below_drew1)))⟩
  | true =>
    obtain rfl : n = 0 := eq_of_beq hn
    by_cases hm : 0 < m
    · have e1 : decide (0 < m) = true := decide_eq_true hm
      clear hm hn
      go_enter Tryz.func99, Tryz.ntmps99
      go_wp2_with fail
      go_ret
      exact ⟨rfl, (by (repeat (first | assumption | exact Below.refl _ _ | apply below_alloc | apply pw_below_drewN | apply below_drew1)))⟩
    · obtain rfl : m = 0 := by omega
      clear hm hn
      cases hs : (s.toList == []) with
      | false =>
        go_enter Tryz.func99, Tryz.ntmps99
        go_wp2_with fail
        go_ret
        exact ⟨rfl, (by (repeat (first | assumption | exact Below.refl _ _ | apply below_alloc | apply pw_below_drewN | apply below_drew1)))⟩
      | true =>
        go_enter Tryz.func99, Tryz.ntmps99
        go_wp2_with fail
        go_ret
        exact ⟨rfl, (by (repeat (first | assumption | exact Below.refl _ _ | apply below_alloc | apply pw_below_drewN | apply below_drew1)))⟩

/-- What holds of the loop. -/
def FiRel (W0 : World) (l : List S24) (R : Bool) (k : Nat) (x3 : Value) (wr : World) : Prop :=
  ∃ (i : Nat), x3 = .int .i64 (i : Int) ∧ k + i = l.length ∧ Below W0.heap.size W0 wr ∧ fieldsL (l.drop i) = R

set_option maxRecDepth 100000 in
set_option maxHeartbeats 8000000 in
theorem fields_list (n : Int) (s : ByteArray) (l : List S24) (A : Option Addr) (c : Nat) (w : World) (hr : Kd.C k24 w A l.length l) (hc : l.length ≤ c) (hz : wids l < 9000000) (hq : ∀ x ∈ l, FieldsOk x) :
    Calls Tryz.prog 99 #[formV 3 n s A l.length c] w fun e w' => e = .returned (.bool ((s.toList == []) && (n == 0) && fieldsL l)) ∧ Below w.heap.size w w' := by
  have hu24 := Tryz.underlying24
  have h1 := wids_len l
  cases hn : (n == 0) with
  | false =>
    simp only [Bool.false_and, Bool.and_false]
    have n1 : (n != 0) = true := bne_iff_ne.mpr (beq_eq_false_iff_ne.mp hn)
    clear hr hc hz hq h1
    go_enter Tryz.func99, Tryz.ntmps99
    go_wp2_with fail
    go_ret
    exact ⟨rfl, (by (repeat (first | assumption | exact Below.refl _ _ | apply below_alloc | apply pw_below_drewN | apply below_drew1)))⟩
  | true =>
    obtain rfl : n = 0 := eq_of_beq hn
    cases hs : (s.toList == []) with
    | false =>
      simp only [Bool.false_and, Bool.and_false]
      clear hr hc hz hq h1 hn
      go_enter Tryz.func99, Tryz.ntmps99
      go_wp2_with fail
      go_ret
      exact ⟨rfl, (by (repeat (first | assumption | exact Below.refl _ _ | apply below_alloc | apply pw_below_drewN | apply below_drew1)))⟩
    | true =>
      simp only [Bool.true_and]
      obtain ⟨R, hR⟩ : ∃ R, R = fieldsL l := ⟨_, rfl⟩
      rw [← hR]
      have xb : Below w.heap.size w (w.alloc (Obj.cells #[.int .i64 3, .int .i64 0, .string s, .slice A l.length c] 24)) := below_alloc (Below.refl _ _) _
      have x1 : (w.alloc (Obj.cells #[.int .i64 3, .int .i64 0, .string s, .slice A l.length c] 24)).heap[w.heap.size]? = some (Obj.cells #[.int .i64 3, .int .i64 0, .string s, .slice A l.length c] 24) := (MapKept.heap_alloc w _).1
      have XB : Hid _ := xb
      have HA : Hid _ := Kd.C_below hr xb
      have HQ : Hid _ := hq
      clear xb hr hq hn
      go_enter Tryz.func99, Tryz.ntmps99
      go_upto_region 1 with fail
      generalize w.alloc (Obj.cells #[.int .i64 3, .int .i64 0, .string s, .slice A l.length c] 24) = X at *
      obtain ⟨p0, p1, p2, p3⟩ := cells4 x1
      have start : Hid (FiRel X l R l.length (.int .i64 ((0 : Nat) : Int)) X) := ⟨0, rfl, rfl, Below.refl _ _, hR.symm⟩
      generalize hbA : w.heap.size = bA at *
      clear x1 hR
      go_wp2_with fail
      go_loopg [3] l.length (fun k x3 wr => FiRel X l R k x3 wr)
      case atStart => exact start.out
      case round =>
        clear start
        obtain ⟨i, rfl, hki, hB0, hV⟩ := hrel
        replace p0 := pw_cell_below hB0 p0
        replace p1 := pw_cell_below hB0 p1
        replace p2 := pw_cell_below hB0 p2
        replace p3 := pw_cell_below hB0 p3
        by_cases hlt : i < l.length
        · obtain ⟨g, rfl⟩ : ∃ g, gk = g + 1 := ⟨gk - 1, by omega⟩
          have e1 : decide (i < l.length) = true := decide_eq_true hlt
          obtain ⟨x, hx⟩ : ∃ x, l[i]? = some x := ⟨l[i]'(by omega), List.getElem?_eq_getElem _⟩
          obtain ⟨ad, A5, c5, rfl, g0, g1, g2, g3, g4, g5⟩ := row_at (Kd.C_below HA.out hB0) (by omega) hx
          rw [drop_at3 hx] at hV
          simp only [fieldsL] at hV
          have MQ : Hid (∀ wq, Below wr.heap.size wr wq → _) := fun wq hwq => HQ.out x (List.mem_of_getElem? hx) A5 c5 wq (Kd.C_below g5 hwq) g4 (by have := wid_mem (List.mem_of_getElem? hx); omega)
          clear hx g5
          obtain ⟨x0, x1, x2, x3⟩ := x
          obtain ⟨q, hq⟩ : ∃ q, q = fieldsM ⟨x0, x1, x2, x3⟩ := ⟨_, rfl⟩
          rw [← hq] at MQ hV
          have HBL : Hid _ := hB0
          have HV : Hid _ := hV
          clear hq hB0 hV
          go_wp2_with fail
          refine Calls.mono (MQ.out _ (by first | exact Below.refl _ _ | exact below_drew (Below.refl _ _) | (repeat (first | assumption | exact Below.refl _ _ | apply below_alloc | apply pw_below_drewN | apply below_drew1)))) ?_
          rintro e w6 ⟨rfl, B6'⟩
          have B6 : Hid (Below wr.heap.size wr w6) := below_after (by first | exact Below.refl _ _ | exact below_drew (Below.refl _ _) | (repeat (first | assumption | exact Below.refl _ _ | apply below_alloc | apply pw_below_drewN | apply below_drew1))) B6'
          clear B6'
          have hV := HV.out
          clear HV
          replace p0 := pw_cell_below B6.out p0
          replace p1 := pw_cell_below B6.out p1
          replace p2 := pw_cell_below B6.out p2
          replace p3 := pw_cell_below B6.out p3
          cases q with
          | false =>
            have hV2 : false = R := hV
            subst hV2
            clear hV
            go_wp2_with fail
            go_ret
            exact ⟨rfl, by subst hbA; exact below_after XB.out (below_after HBL.out B6.out)⟩
          | true =>
            have HV9 : Hid (fieldsL (List.drop (i + 1) l) = R) := hV
            clear hV
            go_wp2_with fail
            go_roundg g
            case measure => omega
            case rel => exact ⟨i + 1, by go_num, by omega, below_after HBL.out B6.out, HV9.out⟩
        · have e1 : decide (i < l.length) = false := decide_eq_false hlt
          have e3 : l.drop i = [] := List.drop_eq_nil_of_le (by omega)
          rw [e3] at hV
          simp only [fieldsL] at hV
          subst hV
          have BW : Hid _ := hB0
          have hge : l.length ≤ i := by omega
          clear hB0 e3
          go_wp2_with fail
          go_ret
          exact ⟨rfl, by subst hbA; exact below_after XB.out BW.out⟩

mutual
theorem fields_ok : ∀ x : S24, FieldsOk x
  | ⟨a, n, s, l⟩ => by
    have hl := fields_oks l
    intro A c w hr hc hz
    have k1 := wid_kids ⟨a, n, s, l⟩
    have hsz : s.size < 9000000 := by simp only [wid] at hz; omega
    simp only [] at k1
    simp only [fieldsM, leafR]
    have hflat : ∀ b : Bool, (b && ((l.length : Int) == 0) && fieldsL l) = (b && ((l.length : Int) == 0)) := by
      intro b
      cases l with
      | nil => simp [fieldsL]
      | cons x l => 
        have : (((x :: l).length : Int) == 0) = false := beq_eq_false_iff_ne.mpr (by simp only [List.length_cons]; omega)
        rw [this]; simp
    by_cases h0 : a = 0
    · subst h0
      rw [if_pos rfl]
      have e : ((s.toList == []) && ((l.length : Int) == 0) && (decide (-1152921504606846976 ≤ n) && decide (n ≤ 1152921504606846976)) && fieldsL l) = ((s.toList == []) && ((l.length : Int) == 0) && (decide (-1152921504606846976 ≤ n) && decide (n ≤ 1152921504606846976))) := by
        have := hflat (s.toList == [])
        rw [Bool.and_assoc, Bool.and_comm (decide _ && decide _), ← Bool.and_assoc, this]
      rw [e]
      exact fields_num n s l A c w
    · rw [if_neg h0]
      by_cases h1 : a = 1
      · subst h1
        rw [if_pos rfl, hflat]
        exact fields_word n s l A c w hsz
      · rw [if_neg h1]
        by_cases h2 : a = 2
        · subst h2
          rw [if_pos rfl, hflat]
          exact fields_text n s l A c w hsz
        · rw [if_neg h2]
          by_cases h3 : a = 3
          · subst h3
            rw [if_pos rfl]
            exact fields_list n s l A c w hr hc (by omega) hl
          · rw [if_neg h3]
            exact fields_none a n s l A c w h0 h1 h2 h3
theorem fields_oks : ∀ (l : List S24), ∀ x ∈ l, FieldsOk x
  | [], x, h => absurd h (List.not_mem_nil)
  | y :: l, x, h => by
    rcases List.mem_cons.1 h with h | h
    · rw [h]; exact fields_ok y
    · exact fields_oks l x h
end

end Go.Proofs.YtcjmplpfebpfpaaGreatDoor

namespace Go.Proofs.YtcjmplpfebpfpaaGreatDoor.PKindInstances
open Go.RowKit Go.Proofs.YtcjmplpfebpfpaaGreatDoorW.PrintWords Go.Proofs.YtcjmplpfebpfpaaGreatDoorW.PrintLast Go.Proofs.YtcjmplpfebpfpaaGreatDoorW.PrintMore
attribute [local go_sem] max2_int min2_int max_two min_two max_three min_three max_four min_four   -- for this text's walks alone
set_option linter.unusedVariables false
set_option linter.unusedSimpArgs false

mutual
def plinthref01_Size.l0 : Nat → Int → Int → Int → Int → ByteArray → List (S24) → Option (Int)
  | 0, _, _, _, _, _, _ => none
  | k + 1, x3, x4, x406000, x406001, x406002, x406003 => if x406000 = 3 then (if x4 < (x406003.length : Int) then (if 0 ≤ x4 then ((plinthref01_Size.f k ((rd_T24 x406003 x4).f0) ((rd_T24 x406003 x4).f1) ((rd_T24 x406003 x4).f2) ((rd_T24 x406003 x4).f3)).bind fun t407 => (plinthref01_Size.l0 k (wrap64 (x3 + t407)) (wrap64 (x4 + 1)) x406000 x406001 x406002 x406003)) else (none)) else (some x3)) else (some x3)
def plinthref01_Size.f : Nat → Int → Int → ByteArray → List (S24) → Option (Int)
  | 0, _, _, _, _ => none
  | k + 1, a0_0, a0_1, a0_2, l0_3 => plinthref01_Size.l0 k 1 0 a0_0 a0_1 a0_2 l0_3
end
set_option maxHeartbeats 8000000 in
set_option maxRecDepth 100000 in
theorem plinthref01_Size.calls (k : Nat) : ∀ (a0_0 : Int) (a0_1 : Int) (a0_2 : ByteArray) (A0_3 : Option Addr) (c0_3 : Nat) (l0_3 : List (S24)) (r : Int) (w : World) (hr0_3 : Kd.C k24 w A0_3 l0_3.length l0_3) (hc0_3 : l0_3.length ≤ c0_3) (h : plinthref01_Size.f k a0_0 a0_1 a0_2 l0_3 = some r),
    Calls Tryz.prog 140 #[.agg #[.int .i64 a0_0, .int .i64 a0_1, .string a0_2, .slice A0_3 l0_3.length c0_3]] w fun e w' => e = .returned (.int .i64 r) ∧ Below w.heap.size w w' := by
  induction k using Nat.strongRecOn with
  | _ k ih =>
  intro a0_0 a0_1 a0_2 A0_3 c0_3 l0_3 r w hr0_3 hc0_3 h
  cases k with
  | zero => exact absurd h (by simp [plinthref01_Size.f])
  | succ k =>
  simp only [plinthref01_Size.f] at h
  have hu24 := Tryz.underlying24
  have HR0_3 := Aside0.mk hr0_3
  have HC0_3 := Aside0.mk hc0_3
  clear hr0_3 hc0_3
  have HB := Aside0.mk (Below.refl w.heap.size w)
  have H : (plinthref01_Size.l0 k 1 0 a0_0 a0_1 a0_2 l0_3) = some r := h
  clear h
  have H' := Aside0.mk H
  clear H
  go_enter Tryz.func140, Tryz.ntmps140
  go_wp2_with (first | ((with_reducible refine gate_dst (N := 1) rfl ?_); (try (refine gate_guard (by rfl) ?_; dsimp only)); refine box_event ?hg (N := 1) ?hd (cs := #[.int .i64 a0_0, .int .i64 a0_1, .string a0_2, .slice A0_3 l0_3.length c0_3]) (t := 24) ?hr ?_; (case hd => rfl); (case hg => rfl); (case hr => first | (go_simp; done) | (go_simp; rfl)); intro gb405 hg w2 hbox hb; have n0_ := Aside0.mk (below_step (by repeat (first | (with_reducible first | exact HB.out | apply below_alloc | apply pw_below_drewN | apply below_drew1) | exact HB.out)) hb); have n1_ := Aside0.mk (hbox); have n2_ := Aside0.mk ((by rw [hg]; exact (below_size (by repeat (first | (with_reducible first | exact HB.out | apply below_alloc | apply pw_below_drewN | apply below_drew1) | exact HB.out))) : w.heap.size ≤ gb405)); have n3_ := Aside0.mk ((by rw [hg]; exact (below_size (by repeat (first | (with_reducible first | exact HB.out | apply below_alloc | apply pw_below_drewN | apply below_drew1) | exact HB.out))) : w.heap.size ≤ gb405)); clear HB; have HB := n0_; have BK405 := n1_; have GW405 := n2_; have GE405 := n3_; clear n0_ n1_ n2_ n3_; clear hb hbox hg))
  go_loopg [3, 4] k (fun kq v3 v4 w' => ∃ (x3_1 : Int) (x4_1 : Int), v3 = .int .i64 x3_1 ∧ v4 = .int .i64 x4_1 ∧ Aside0 (plinthref01_Size.l0 kq x3_1 x4_1 a0_0 a0_1 a0_2 l0_3 = some r) ∧ Aside0 (kq ≤ k) ∧ Aside0 (w'.heap[gb405]? = some (.cells #[.int .i64 a0_0, .int .i64 a0_1, .string a0_2, (.slice A0_3 l0_3.length c0_3)] 24 (0, 0))) ∧ Aside0 (Below w.heap.size w w'))
  case atStart => exact ⟨(1), (0), (by first | rfl | (simp; done) | (simp [*]; done)), (by first | rfl | (simp; done) | (simp [*]; done)), H', ⟨Nat.le_refl _⟩, ⟨by (with_reducible repeat (first | refine blk_drewN ?_ _ | refine blk_drew ?_ | refine blk_alloc ?_ _)); exact BK405.out⟩, ⟨by repeat (first | (with_reducible first | exact HB.out | apply below_alloc | apply pw_below_drewN | apply below_drew1 | refine below_set ?_ GE405.out) | exact HB.out)⟩⟩
  case round =>
    clear H'
    try clear c1
    try clear p2
    obtain ⟨x3_1, x4_1, rfl, rfl, HA, HK1, BK405, HB⟩ := hrel
    cases gk with
    | zero => exact absurd HA.out (by simp [plinthref01_Size.l0])
    | succ k1 =>
      have H := HA.out
      clear HA
      simp only [plinthref01_Size.l0] at H
      by_cases c3 : a0_0 = 3
      · rw [if_pos c3] at H
        have c3b0 : (a0_0 == 3) = true := beq_iff_eq.mpr c3
        have c3b1 : (a0_0 != 3) = false := bne_eq_false_iff_eq.mpr c3
        clear c3
        by_cases c4 : x4_1 < (l0_3.length : Int)
        · rw [if_pos c4] at H
          have c4b0 : decide (x4_1 < (l0_3.length : Int)) = true := decide_eq_true c4
          clear c4
          by_cases c5 : 0 ≤ x4_1
          · rw [if_pos c5] at H
            have c5b0 : decide (0 ≤ x4_1) = true := decide_eq_true c5
            clear c5
            replace H := Option.bind_eq_some_iff.mp H
            obtain ⟨t407, A60, H⟩ := H
            replace H : (plinthref01_Size.l0 k1 (wrap64 (x3_1 + t407)) (wrap64 (x4_1 + 1)) a0_0 a0_1 a0_2 l0_3) = some r := H
            have A6 := Aside0.mk A60
            clear A60
            have H' := Aside0.mk H
            clear H
            have hcz7_0 : wr.cell? ⟨gb405, 0, none⟩ = some (.int .i64 a0_0) := (blk_cell BK405.out 0).trans rfl
            have hcz7_1 : wr.cell? ⟨gb405, 1, none⟩ = some (.int .i64 a0_1) := (blk_cell BK405.out 1).trans rfl
            have hcz7_2 : wr.cell? ⟨gb405, 2, none⟩ = some (.string a0_2) := (blk_cell BK405.out 2).trans rfl
            have hcz7_3 : wr.cell? ⟨gb405, 3, none⟩ = some (.slice A0_3 l0_3.length c0_3) := (blk_cell BK405.out 3).trans rfl
            have hfz7_0 := blk_frozen BK405.out 0
            have hfz7_1 := blk_frozen BK405.out 1
            have hfz7_2 := blk_frozen BK405.out 2
            have hfz7_3 := blk_frozen BK405.out 3
            have p406 : 0 ≤ (x4_1 : Int) := of_decide_eq_true (by first | (with_reducible assumption) | assumption)
            have q406 : x4_1 < (l0_3.length : Int) := of_decide_eq_true (by first | (with_reducible assumption) | assumption)
            obtain ⟨ad406, A406_3, c406_3, e406, hx406_0, hx406_1, hx406_2, hx406_3, hl406_3, hi406_3⟩ := at_T24 HR0_3.out x4_1 p406 q406
            cases e406
            replace hx406_0 := (HB.out.cell (World.block_lt_of_cell? w _ hx406_0)).trans hx406_0
            replace hx406_1 := (HB.out.cell (World.block_lt_of_cell? w _ hx406_1)).trans hx406_1
            replace hx406_2 := (HB.out.cell (World.block_lt_of_cell? w _ hx406_2)).trans hx406_2
            replace hx406_3 := (HB.out.cell (World.block_lt_of_cell? w _ hx406_3)).trans hx406_3
            have HR406_3 := Aside0.mk hi406_3
            have HC406_3 := Aside0.mk hl406_3
            clear hi406_3 hl406_3
            replace p406 := eq_true p406
            replace q406 := eq_true q406
            go_wp2_with (first | ((with_reducible refine gate_callee (f := 140) rfl ?_); refine goesL_ (some 23) rfl rfl Tryz.func140 (by kernel_rfl) rfl #[.agg #[.int .i64 ((rd_T24 l0_3 x4_1).f0), .int .i64 ((rd_T24 l0_3 x4_1).f1), .string ((rd_T24 l0_3 x4_1).f2), .slice A406_3 ((rd_T24 l0_3 x4_1).f3).length c406_3]] rfl (by (try simp only [List.map_toArray, List.map_cons, List.map_nil]); first | done | rfl | (simp only [List.length_drop, List.length_take]; rfl)) ?_; (with_reducible refine (ih k1 (by have := HK1.out; omega) ((rd_T24 l0_3 x4_1).f0) ((rd_T24 l0_3 x4_1).f1) ((rd_T24 l0_3 x4_1).f2) _ _ ((rd_T24 l0_3 x4_1).f3) t407 _ ?side1 ?side2 A6.out).mono ?_); (case side1 => repeat (first | exact (Kd.C_below HR406_3.out HB.out) | (with_reducible refine Kd.C_alloc ?_ _) | (with_reducible refine Kd.C_drewN ?_ _) | (with_reducible refine Kd.C_drew ?_))); (case side2 => exact HC406_3.out); rintro e w8 ⟨rfl, hb⟩; refine ⟨_, rfl, ?_⟩; have n0_ := Aside0.mk (blk_below (g := gb405) (o := .cells #[.int .i64 a0_0, .int .i64 a0_1, .string a0_2, .slice (some ad406) l0_3.length c0_3] 24 (0, 0)) (by (with_reducible repeat (first | refine blk_drewN ?_ _ | refine blk_drew ?_ | refine blk_alloc ?_ _)); exact BK405.out) hb); have n1_ := Aside0.mk (below_step (by repeat (first | (with_reducible first | exact HB.out | apply below_alloc | apply pw_below_drewN | apply below_drew1 | refine below_set ?_ GE405.out) | exact HB.out)) hb); clear BK405; clear HB; have BK405 := n0_; have HB := n1_; clear n0_ n1_; (try clear hb); (try clear hb2); (try clear hk); (try clear hi)))
            go_roundg k1
            case measure => have := HK1.out; omega
            case rel => exact ⟨(wrap64 (x3_1 + t407)), (wrap64 (x4_1 + 1)), (by first | rfl | (simp; done) | (simp [*]; done)), (by first | rfl | (simp; done) | (simp [*]; done)), H', ⟨by have := HK1.out; omega⟩, ⟨by (with_reducible repeat (first | refine blk_drewN ?_ _ | refine blk_drew ?_ | refine blk_alloc ?_ _)); exact BK405.out⟩, ⟨by repeat (first | (with_reducible first | exact HB.out | apply below_alloc | apply pw_below_drewN | apply below_drew1 | refine below_set ?_ GE405.out) | exact HB.out)⟩⟩
          · rw [if_neg c5] at H
            exact absurd H (by simp)
        · rw [if_neg c4] at H
          have c4b0 : decide (x4_1 < (l0_3.length : Int)) = false := decide_eq_false c4
          clear c4
          obtain rfl := Option.some.inj H
          have hcz9_0 : wr.cell? ⟨gb405, 0, none⟩ = some (.int .i64 a0_0) := (blk_cell BK405.out 0).trans rfl
          have hcz9_1 : wr.cell? ⟨gb405, 1, none⟩ = some (.int .i64 a0_1) := (blk_cell BK405.out 1).trans rfl
          have hcz9_2 : wr.cell? ⟨gb405, 2, none⟩ = some (.string a0_2) := (blk_cell BK405.out 2).trans rfl
          have hcz9_3 : wr.cell? ⟨gb405, 3, none⟩ = some (.slice A0_3 l0_3.length c0_3) := (blk_cell BK405.out 3).trans rfl
          have hfz9_0 := blk_frozen BK405.out 0
          have hfz9_1 := blk_frozen BK405.out 1
          have hfz9_2 := blk_frozen BK405.out 2
          have hfz9_3 := blk_frozen BK405.out 3
          go_wp2
          go_ret
          exact ⟨by first | rfl | (simp [errW_none, errW_some] <;> rfl) | (simp [*, errW_none, errW_some] <;> rfl), by repeat (first | (with_reducible first | exact HB.out | apply below_alloc | apply pw_below_drewN | apply below_drew1 | refine below_set ?_ GE405.out) | exact HB.out)⟩
      · rw [if_neg c3] at H
        have c3b0 : (a0_0 == 3) = false := beq_eq_false_iff_ne.mpr c3
        have c3b1 : (a0_0 != 3) = true := bne_iff_ne.mpr c3
        obtain rfl := Option.some.inj H
        have hcz10_0 : wr.cell? ⟨gb405, 0, none⟩ = some (.int .i64 a0_0) := (blk_cell BK405.out 0).trans rfl
        have hcz10_1 : wr.cell? ⟨gb405, 1, none⟩ = some (.int .i64 a0_1) := (blk_cell BK405.out 1).trans rfl
        have hcz10_2 : wr.cell? ⟨gb405, 2, none⟩ = some (.string a0_2) := (blk_cell BK405.out 2).trans rfl
        have hcz10_3 : wr.cell? ⟨gb405, 3, none⟩ = some (.slice A0_3 l0_3.length c0_3) := (blk_cell BK405.out 3).trans rfl
        have hfz10_0 := blk_frozen BK405.out 0
        have hfz10_1 := blk_frozen BK405.out 1
        have hfz10_2 := blk_frozen BK405.out 2
        have hfz10_3 := blk_frozen BK405.out 3
        go_wp2
        go_ret
        exact ⟨by first | rfl | (simp [errW_none, errW_some] <;> rfl) | (simp [*, errW_none, errW_some] <;> rfl), by repeat (first | (with_reducible first | exact HB.out | apply below_alloc | apply pw_below_drewN | apply below_drew1 | refine below_set ?_ GE405.out) | exact HB.out)⟩

end Go.Proofs.YtcjmplpfebpfpaaGreatDoor.PKindInstances

namespace Go.Proofs.YtcjmplpfebpfpaaGreatDoor.PKindInstances
open Go.RowKit Go.Proofs.YtcjmplpfebpfpaaGreatDoorW.PrintWords Go.Proofs.YtcjmplpfebpfpaaGreatDoorW.PrintLast Go.Proofs.YtcjmplpfebpfpaaGreatDoorW.PrintMore
attribute [local go_sem] max2_int min2_int max_two min_two max_three min_three max_four min_four   -- for this text's walks alone
set_option linter.unusedVariables false
set_option linter.unusedSimpArgs false

mutual
def plinthref01_Depth.l0 : Nat → Int → Int → Int → Int → ByteArray → List (S24) → Option (Int)
  | 0, _, _, _, _, _, _ => none
  | k + 1, x3, x4, x409000, x409001, x409002, x409003 => if x409000 = 3 then (if x4 < (x409003.length : Int) then (if 0 ≤ x4 then ((plinthref01_Depth.f k ((rd_T24 x409003 x4).f0) ((rd_T24 x409003 x4).f1) ((rd_T24 x409003 x4).f2) ((rd_T24 x409003 x4).f3)).bind fun t410 => (plinthref01_Depth.l0 k (mx x3 t410) (wrap64 (x4 + 1)) x409000 x409001 x409002 x409003)) else (none)) else (some (wrap64 (x3 + 1)))) else (some (wrap64 (x3 + 1)))
def plinthref01_Depth.f : Nat → Int → Int → ByteArray → List (S24) → Option (Int)
  | 0, _, _, _, _ => none
  | k + 1, a0_0, a0_1, a0_2, l0_3 => plinthref01_Depth.l0 k 0 0 a0_0 a0_1 a0_2 l0_3
end
set_option maxHeartbeats 8000000 in
set_option maxRecDepth 100000 in
theorem plinthref01_Depth.calls (k : Nat) : ∀ (a0_0 : Int) (a0_1 : Int) (a0_2 : ByteArray) (A0_3 : Option Addr) (c0_3 : Nat) (l0_3 : List (S24)) (r : Int) (w : World) (hr0_3 : Kd.C k24 w A0_3 l0_3.length l0_3) (hc0_3 : l0_3.length ≤ c0_3) (h : plinthref01_Depth.f k a0_0 a0_1 a0_2 l0_3 = some r),
    Calls Tryz.prog 141 #[.agg #[.int .i64 a0_0, .int .i64 a0_1, .string a0_2, .slice A0_3 l0_3.length c0_3]] w fun e w' => e = .returned (.int .i64 r) ∧ Below w.heap.size w w' := by
  induction k using Nat.strongRecOn with
  | _ k ih =>
  intro a0_0 a0_1 a0_2 A0_3 c0_3 l0_3 r w hr0_3 hc0_3 h
  cases k with
  | zero => exact absurd h (by simp [plinthref01_Depth.f])
  | succ k =>
  simp only [plinthref01_Depth.f] at h
  have hu24 := Tryz.underlying24
  have HR0_3 := Aside0.mk hr0_3
  have HC0_3 := Aside0.mk hc0_3
  clear hr0_3 hc0_3
  have HB := Aside0.mk (Below.refl w.heap.size w)
  have H : (plinthref01_Depth.l0 k 0 0 a0_0 a0_1 a0_2 l0_3) = some r := h
  clear h
  have H' := Aside0.mk H
  clear H
  go_enter Tryz.func141, Tryz.ntmps141
  go_wp2_with (first | ((with_reducible refine gate_dst (N := 1) rfl ?_); (try (refine gate_guard (by rfl) ?_; dsimp only)); refine box_event ?hg (N := 1) ?hd (cs := #[.int .i64 a0_0, .int .i64 a0_1, .string a0_2, .slice A0_3 l0_3.length c0_3]) (t := 24) ?hr ?_; (case hd => rfl); (case hg => rfl); (case hr => first | (go_simp; done) | (go_simp; rfl)); intro gb408 hg w2 hbox hb; have n0_ := Aside0.mk (below_step (by repeat (first | (with_reducible first | exact HB.out | apply below_alloc | apply pw_below_drewN | apply below_drew1) | exact HB.out)) hb); have n1_ := Aside0.mk (hbox); have n2_ := Aside0.mk ((by rw [hg]; exact (below_size (by repeat (first | (with_reducible first | exact HB.out | apply below_alloc | apply pw_below_drewN | apply below_drew1) | exact HB.out))) : w.heap.size ≤ gb408)); have n3_ := Aside0.mk ((by rw [hg]; exact (below_size (by repeat (first | (with_reducible first | exact HB.out | apply below_alloc | apply pw_below_drewN | apply below_drew1) | exact HB.out))) : w.heap.size ≤ gb408)); clear HB; have HB := n0_; have BK408 := n1_; have GW408 := n2_; have GE408 := n3_; clear n0_ n1_ n2_ n3_; clear hb hbox hg))
  go_loopg [3, 4] k (fun kq v3 v4 w' => ∃ (x3_1 : Int) (x4_1 : Int), v3 = .int .i64 x3_1 ∧ v4 = .int .i64 x4_1 ∧ Aside0 (plinthref01_Depth.l0 kq x3_1 x4_1 a0_0 a0_1 a0_2 l0_3 = some r) ∧ Aside0 (kq ≤ k) ∧ Aside0 (w'.heap[gb408]? = some (.cells #[.int .i64 a0_0, .int .i64 a0_1, .string a0_2, (.slice A0_3 l0_3.length c0_3)] 24 (0, 0))) ∧ Aside0 (Below w.heap.size w w'))
  case atStart => exact ⟨(0), (0), (by first | rfl | (simp; done) | (simp [*]; done)), (by first | rfl | (simp; done) | (simp [*]; done)), H', ⟨Nat.le_refl _⟩, ⟨by (with_reducible repeat (first | refine blk_drewN ?_ _ | refine blk_drew ?_ | refine blk_alloc ?_ _)); exact BK408.out⟩, ⟨by repeat (first | (with_reducible first | exact HB.out | apply below_alloc | apply pw_below_drewN | apply below_drew1 | refine below_set ?_ GE408.out) | exact HB.out)⟩⟩
  case round =>
    clear H'
    try clear c1
    try clear p2
    obtain ⟨x3_1, x4_1, rfl, rfl, HA, HK1, BK408, HB⟩ := hrel
    cases gk with
    | zero => exact absurd HA.out (by simp [plinthref01_Depth.l0])
    | succ k1 =>
      have H := HA.out
      clear HA
      simp only [plinthref01_Depth.l0] at H
      by_cases c3 : a0_0 = 3
      · rw [if_pos c3] at H
        have c3b0 : (a0_0 == 3) = true := beq_iff_eq.mpr c3
        have c3b1 : (a0_0 != 3) = false := bne_eq_false_iff_eq.mpr c3
        clear c3
        by_cases c4 : x4_1 < (l0_3.length : Int)
        · rw [if_pos c4] at H
          have c4b0 : decide (x4_1 < (l0_3.length : Int)) = true := decide_eq_true c4
          clear c4
          by_cases c5 : 0 ≤ x4_1
          · rw [if_pos c5] at H
            have c5b0 : decide (0 ≤ x4_1) = true := decide_eq_true c5
            clear c5
            replace H := Option.bind_eq_some_iff.mp H
            obtain ⟨t410, A60, H⟩ := H
            replace H : (plinthref01_Depth.l0 k1 (mx x3_1 t410) (wrap64 (x4_1 + 1)) a0_0 a0_1 a0_2 l0_3) = some r := H
            have A6 := Aside0.mk A60
            clear A60
            obtain ⟨ji7, hji7⟩ : ∃ j_ : Int, (mx x3_1 t410) = j_ := ⟨_, rfl⟩
            replace H : (plinthref01_Depth.l0 k1 ji7 (wrap64 (x4_1 + 1)) a0_0 a0_1 a0_2 l0_3) = some r := by first | (rw [hji7] at H; exact H) | (simp only [hji7] at H ⊢; exact H)
            (try rw [hji7] at A6)
            have hji7_ : (if x3_1 < t410 then t410 else x3_1) = ji7 := hji7
            have H' := Aside0.mk H
            clear H
            have hcz8_0 : wr.cell? ⟨gb408, 0, none⟩ = some (.int .i64 a0_0) := (blk_cell BK408.out 0).trans rfl
            have hcz8_1 : wr.cell? ⟨gb408, 1, none⟩ = some (.int .i64 a0_1) := (blk_cell BK408.out 1).trans rfl
            have hcz8_2 : wr.cell? ⟨gb408, 2, none⟩ = some (.string a0_2) := (blk_cell BK408.out 2).trans rfl
            have hcz8_3 : wr.cell? ⟨gb408, 3, none⟩ = some (.slice A0_3 l0_3.length c0_3) := (blk_cell BK408.out 3).trans rfl
            have hfz8_0 := blk_frozen BK408.out 0
            have hfz8_1 := blk_frozen BK408.out 1
            have hfz8_2 := blk_frozen BK408.out 2
            have hfz8_3 := blk_frozen BK408.out 3
            have p409 : 0 ≤ (x4_1 : Int) := of_decide_eq_true (by first | (with_reducible assumption) | assumption)
            have q409 : x4_1 < (l0_3.length : Int) := of_decide_eq_true (by first | (with_reducible assumption) | assumption)
            obtain ⟨ad409, A409_3, c409_3, e409, hx409_0, hx409_1, hx409_2, hx409_3, hl409_3, hi409_3⟩ := at_T24 HR0_3.out x4_1 p409 q409
            cases e409
            replace hx409_0 := (HB.out.cell (World.block_lt_of_cell? w _ hx409_0)).trans hx409_0
            replace hx409_1 := (HB.out.cell (World.block_lt_of_cell? w _ hx409_1)).trans hx409_1
            replace hx409_2 := (HB.out.cell (World.block_lt_of_cell? w _ hx409_2)).trans hx409_2
            replace hx409_3 := (HB.out.cell (World.block_lt_of_cell? w _ hx409_3)).trans hx409_3
            have HR409_3 := Aside0.mk hi409_3
            have HC409_3 := Aside0.mk hl409_3
            clear hi409_3 hl409_3
            replace p409 := eq_true p409
            replace q409 := eq_true q409
            go_wp2_with (first | ((with_reducible refine gate_callee (f := 141) rfl ?_); refine goesL_ (some 23) rfl rfl Tryz.func141 (by kernel_rfl) rfl #[.agg #[.int .i64 ((rd_T24 l0_3 x4_1).f0), .int .i64 ((rd_T24 l0_3 x4_1).f1), .string ((rd_T24 l0_3 x4_1).f2), .slice A409_3 ((rd_T24 l0_3 x4_1).f3).length c409_3]] rfl (by (try simp only [List.map_toArray, List.map_cons, List.map_nil]); first | done | rfl | (simp only [List.length_drop, List.length_take]; rfl)) ?_; (with_reducible refine (ih k1 (by have := HK1.out; omega) ((rd_T24 l0_3 x4_1).f0) ((rd_T24 l0_3 x4_1).f1) ((rd_T24 l0_3 x4_1).f2) _ _ ((rd_T24 l0_3 x4_1).f3) t410 _ ?side1 ?side2 A6.out).mono ?_); (case side1 => repeat (first | exact (Kd.C_below HR409_3.out HB.out) | (with_reducible refine Kd.C_alloc ?_ _) | (with_reducible refine Kd.C_drewN ?_ _) | (with_reducible refine Kd.C_drew ?_))); (case side2 => exact HC409_3.out); rintro e w9 ⟨rfl, hb⟩; refine ⟨_, rfl, ?_⟩; have n0_ := Aside0.mk (blk_below (g := gb408) (o := .cells #[.int .i64 a0_0, .int .i64 a0_1, .string a0_2, .slice (some ad409) l0_3.length c0_3] 24 (0, 0)) (by (with_reducible repeat (first | refine blk_drewN ?_ _ | refine blk_drew ?_ | refine blk_alloc ?_ _)); exact BK408.out) hb); have n1_ := Aside0.mk (below_step (by repeat (first | (with_reducible first | exact HB.out | apply below_alloc | apply pw_below_drewN | apply below_drew1 | refine below_set ?_ GE408.out) | exact HB.out)) hb); clear BK408; clear HB; have BK408 := n0_; have HB := n1_; clear n0_ n1_; (try clear hb); (try clear hb2); (try clear hk); (try clear hi)))
            go_roundg k1
            case measure => have := HK1.out; omega
            case rel => exact ⟨(ji7), (wrap64 (x4_1 + 1)), (by first | rfl | (simp; done) | (simp only [← hji7] <;> (first | rfl | simp)) | (simp [*]; done)), (by first | rfl | (simp; done) | (simp [*]; done)), H', ⟨by have := HK1.out; omega⟩, ⟨by (with_reducible repeat (first | refine blk_drewN ?_ _ | refine blk_drew ?_ | refine blk_alloc ?_ _)); exact BK408.out⟩, ⟨by repeat (first | (with_reducible first | exact HB.out | apply below_alloc | apply pw_below_drewN | apply below_drew1 | refine below_set ?_ GE408.out) | exact HB.out)⟩⟩
          · rw [if_neg c5] at H
            exact absurd H (by simp)
        · rw [if_neg c4] at H
          have c4b0 : decide (x4_1 < (l0_3.length : Int)) = false := decide_eq_false c4
          clear c4
          obtain rfl := Option.some.inj H
          have hcz10_0 : wr.cell? ⟨gb408, 0, none⟩ = some (.int .i64 a0_0) := (blk_cell BK408.out 0).trans rfl
          have hcz10_1 : wr.cell? ⟨gb408, 1, none⟩ = some (.int .i64 a0_1) := (blk_cell BK408.out 1).trans rfl
          have hcz10_2 : wr.cell? ⟨gb408, 2, none⟩ = some (.string a0_2) := (blk_cell BK408.out 2).trans rfl
          have hcz10_3 : wr.cell? ⟨gb408, 3, none⟩ = some (.slice A0_3 l0_3.length c0_3) := (blk_cell BK408.out 3).trans rfl
          have hfz10_0 := blk_frozen BK408.out 0
          have hfz10_1 := blk_frozen BK408.out 1
          have hfz10_2 := blk_frozen BK408.out 2
          have hfz10_3 := blk_frozen BK408.out 3
          go_wp2
          go_ret
          exact ⟨by first | rfl | (simp [errW_none, errW_some] <;> rfl) | (simp [*, errW_none, errW_some] <;> rfl), by repeat (first | (with_reducible first | exact HB.out | apply below_alloc | apply pw_below_drewN | apply below_drew1 | refine below_set ?_ GE408.out) | exact HB.out)⟩
      · rw [if_neg c3] at H
        have c3b0 : (a0_0 == 3) = false := beq_eq_false_iff_ne.mpr c3
        have c3b1 : (a0_0 != 3) = true := bne_iff_ne.mpr c3
        obtain rfl := Option.some.inj H
        have hcz11_0 : wr.cell? ⟨gb408, 0, none⟩ = some (.int .i64 a0_0) := (blk_cell BK408.out 0).trans rfl
        have hcz11_1 : wr.cell? ⟨gb408, 1, none⟩ = some (.int .i64 a0_1) := (blk_cell BK408.out 1).trans rfl
        have hcz11_2 : wr.cell? ⟨gb408, 2, none⟩ = some (.string a0_2) := (blk_cell BK408.out 2).trans rfl
        have hcz11_3 : wr.cell? ⟨gb408, 3, none⟩ = some (.slice A0_3 l0_3.length c0_3) := (blk_cell BK408.out 3).trans rfl
        have hfz11_0 := blk_frozen BK408.out 0
        have hfz11_1 := blk_frozen BK408.out 1
        have hfz11_2 := blk_frozen BK408.out 2
        have hfz11_3 := blk_frozen BK408.out 3
        go_wp2
        go_ret
        exact ⟨by first | rfl | (simp [errW_none, errW_some] <;> rfl) | (simp [*, errW_none, errW_some] <;> rfl), by repeat (first | (with_reducible first | exact HB.out | apply below_alloc | apply pw_below_drewN | apply below_drew1 | refine below_set ?_ GE408.out) | exact HB.out)⟩

end Go.Proofs.YtcjmplpfebpfpaaGreatDoor.PKindInstances

namespace Go.Proofs.YtcjmplpfebpfpaaGreatDoor.PKindInstances
open Go.RowKit Go.Proofs.YtcjmplpfebpfpaaGreatDoorW.PrintWords Go.Proofs.YtcjmplpfebpfpaaGreatDoorW.PrintLast Go.Proofs.YtcjmplpfebpfpaaGreatDoorW.PrintMore
attribute [local go_sem] max2_int min2_int max_two min_two max_three min_three max_four min_four   -- for this text's walks alone
set_option linter.unusedVariables false
set_option linter.unusedSimpArgs false

def plinthref01_small.f (k : Nat) (a0_0 : Int) (a0_1 : Int) (a0_2 : ByteArray) (l0_3 : List (S24)) : Option (Bool) := (plinthref01_Size.f k a0_0 a0_1 a0_2 l0_3).bind fun t412 => (if t412 ≤ 20000 then ((plinthref01_Depth.f k a0_0 a0_1 a0_2 l0_3).bind fun t413 => (some (decide (t413 ≤ 100)))) else (some false))
set_option maxHeartbeats 8000000 in
set_option maxRecDepth 100000 in
theorem plinthref01_small.calls (k : Nat) (a0_0 : Int) (a0_1 : Int) (a0_2 : ByteArray) (A0_3 : Option Addr) (c0_3 : Nat) (l0_3 : List (S24)) (r : Bool) (w : World) (hr0_3 : Kd.C k24 w A0_3 l0_3.length l0_3) (hc0_3 : l0_3.length ≤ c0_3) (h : plinthref01_small.f k a0_0 a0_1 a0_2 l0_3 = some r) :
    Calls Tryz.prog 100 #[.agg #[.int .i64 a0_0, .int .i64 a0_1, .string a0_2, .slice A0_3 l0_3.length c0_3]] w fun e w' => e = .returned (.bool r) ∧ Below w.heap.size w w' := by
  have hu24 := Tryz.underlying24
  have HR0_3 := Aside0.mk hr0_3
  have HC0_3 := Aside0.mk hc0_3
  clear hr0_3 hc0_3
  have HB := Aside0.mk (Below.refl w.heap.size w)
  have H : ((plinthref01_Size.f k a0_0 a0_1 a0_2 l0_3).bind fun t412 => (if t412 ≤ 20000 then ((plinthref01_Depth.f k a0_0 a0_1 a0_2 l0_3).bind fun t413 => (some (decide (t413 ≤ 100)))) else (some false))) = some r := h
  clear h
  replace H := Option.bind_eq_some_iff.mp H
  obtain ⟨t412, A20, H⟩ := H
  replace H : (if t412 ≤ 20000 then ((plinthref01_Depth.f k a0_0 a0_1 a0_2 l0_3).bind fun t413 => (some (decide (t413 ≤ 100)))) else (some false)) = some r := H
  have A2 := Aside0.mk A20
  clear A20
  by_cases c3 : t412 ≤ 20000
  · rw [if_pos c3] at H
    have c3b0 : decide (t412 ≤ 20000) = true := decide_eq_true c3
    clear c3
    replace H := Option.bind_eq_some_iff.mp H
    obtain ⟨t413, A40, H⟩ := H
    replace H : (some (decide (t413 ≤ 100))) = some r := H
    have A4 := Aside0.mk A40
    clear A40
    obtain rfl := Option.some.inj H
    go_enter Tryz.func100, Tryz.ntmps100
    go_wp2_with (first | ((with_reducible refine gate_dst (N := 1) rfl ?_); refine box_event ?hg (N := 1) ?hd (cs := #[.int .i64 a0_0, .int .i64 a0_1, .string a0_2, .slice A0_3 l0_3.length c0_3]) (t := 24) ?hr ?_; (case hd => rfl); (case hg => rfl); (case hr => first | (go_simp; done) | (go_simp; rfl)); intro gb411 hg w5 hbox hb; have n0_ := Aside0.mk (below_step (by repeat (first | (with_reducible first | exact HB.out | apply below_alloc | apply pw_below_drewN | apply below_drew1) | exact HB.out)) hb); have n1_ := Aside0.mk (hbox); have n2_ := Aside0.mk ((by rw [hg]; exact (below_size (by repeat (first | (with_reducible first | exact HB.out | apply below_alloc | apply pw_below_drewN | apply below_drew1) | exact HB.out))) : w.heap.size ≤ gb411)); have n3_ := Aside0.mk ((by rw [hg]; exact (below_size (by repeat (first | (with_reducible first | exact HB.out | apply below_alloc | apply pw_below_drewN | apply below_drew1) | exact HB.out))) : w.heap.size ≤ gb411)); clear HB; have HB := n0_; have BK411 := n1_; have GW411 := n2_; have GE411 := n3_; clear n0_ n1_ n2_ n3_; clear hb hbox hg; have hcz6_0 : w5.cell? ⟨gb411, 0, none⟩ = some (.int .i64 a0_0) := (blk_cell BK411.out 0).trans rfl; have hcz6_1 : w5.cell? ⟨gb411, 1, none⟩ = some (.int .i64 a0_1) := (blk_cell BK411.out 1).trans rfl; have hcz6_2 : w5.cell? ⟨gb411, 2, none⟩ = some (.string a0_2) := (blk_cell BK411.out 2).trans rfl; have hcz6_3 : w5.cell? ⟨gb411, 3, none⟩ = some (.slice A0_3 l0_3.length c0_3) := (blk_cell BK411.out 3).trans rfl; have hfz6_0 := blk_frozen BK411.out 0; have hfz6_1 := blk_frozen BK411.out 1; have hfz6_2 := blk_frozen BK411.out 2; have hfz6_3 := blk_frozen BK411.out 3) | ((with_reducible refine gate_callee (f := 140) rfl ?_); refine goesL_ (some 4) rfl rfl Tryz.func140 (by kernel_rfl) rfl #[.agg #[.int .i64 a0_0, .int .i64 a0_1, .string a0_2, .slice A0_3 l0_3.length c0_3]] rfl (by (try simp only [List.map_toArray, List.map_cons, List.map_nil]); first | done | rfl | (simp only [List.length_drop, List.length_take]; rfl)) ?_; (with_reducible refine (plinthref01_Size.calls k a0_0 a0_1 a0_2 _ _ l0_3 t412 _ ?side1 ?side2 A2.out).mono ?_); (case side1 => repeat (first | exact (Kd.C_below HR0_3.out HB.out) | (with_reducible refine Kd.C_alloc ?_ _) | (with_reducible refine Kd.C_drewN ?_ _) | (with_reducible refine Kd.C_drew ?_))); (case side2 => exact HC0_3.out); rintro e w7 ⟨rfl, hb⟩; refine ⟨_, rfl, ?_⟩; have n0_ := Aside0.mk (blk_below (g := gb411) (o := .cells #[.int .i64 a0_0, .int .i64 a0_1, .string a0_2, .slice A0_3 l0_3.length c0_3] 24 (0, 0)) (by (with_reducible repeat (first | refine blk_drewN ?_ _ | refine blk_drew ?_ | refine blk_alloc ?_ _)); exact BK411.out) hb); have n1_ := Aside0.mk (below_step (by repeat (first | (with_reducible first | exact HB.out | apply below_alloc | apply pw_below_drewN | apply below_drew1 | refine below_set ?_ GE411.out) | exact HB.out)) hb); clear BK411; clear HB; have BK411 := n0_; have HB := n1_; clear n0_ n1_; (try clear hb); (try clear hb2); (try clear hk); (try clear hi); have hcz8_0 : w7.cell? ⟨gb411, 0, none⟩ = some (.int .i64 a0_0) := (blk_cell BK411.out 0).trans rfl; have hcz8_1 : w7.cell? ⟨gb411, 1, none⟩ = some (.int .i64 a0_1) := (blk_cell BK411.out 1).trans rfl; have hcz8_2 : w7.cell? ⟨gb411, 2, none⟩ = some (.string a0_2) := (blk_cell BK411.out 2).trans rfl; have hcz8_3 : w7.cell? ⟨gb411, 3, none⟩ = some (.slice A0_3 l0_3.length c0_3) := (blk_cell BK411.out 3).trans rfl; have hfz8_0 := blk_frozen BK411.out 0; have hfz8_1 := blk_frozen BK411.out 1; have hfz8_2 := blk_frozen BK411.out 2; have hfz8_3 := blk_frozen BK411.out 3) | (go_at_call 141; (with_reducible refine (plinthref01_Depth.calls k a0_0 a0_1 a0_2 _ _ l0_3 t413 _ ?side1 ?side2 A4.out).mono ?_); (case side1 => repeat (first | exact (Kd.C_below HR0_3.out HB.out) | (with_reducible refine Kd.C_alloc ?_ _) | (with_reducible refine Kd.C_drewN ?_ _) | (with_reducible refine Kd.C_drew ?_))); (case side2 => exact HC0_3.out); rintro e w9 ⟨rfl, hb⟩; have n0_ := Aside0.mk (blk_below (g := gb411) (o := .cells #[.int .i64 a0_0, .int .i64 a0_1, .string a0_2, .slice A0_3 l0_3.length c0_3] 24 (0, 0)) (by (with_reducible repeat (first | refine blk_drewN ?_ _ | refine blk_drew ?_ | refine blk_alloc ?_ _)); exact BK411.out) hb); have n1_ := Aside0.mk (below_step (by repeat (first | (with_reducible first | exact HB.out | apply below_alloc | apply pw_below_drewN | apply below_drew1 | refine below_set ?_ GE411.out) | exact HB.out)) hb); clear BK411; clear HB; have BK411 := n0_; have HB := n1_; clear n0_ n1_; (try clear hb); (try clear hb2); (try clear hk); (try clear hi)))
    go_ret
    exact ⟨by first | rfl | (simp [errW_none, errW_some] <;> rfl) | (simp [*, errW_none, errW_some] <;> rfl), by repeat (first | (with_reducible first | exact HB.out | apply below_alloc | apply pw_below_drewN | apply below_drew1 | refine below_set ?_ GE411.out) | exact HB.out)⟩
  · rw [if_neg c3] at H
    have c3b0 : decide (t412 ≤ 20000) = false := decide_eq_false c3
    clear c3
    obtain rfl := Option.some.inj H
    go_enter Tryz.func100, Tryz.ntmps100
    go_wp2_with (first | ((with_reducible refine gate_dst (N := 1) rfl ?_); refine box_event ?hg (N := 1) ?hd (cs := #[.int .i64 a0_0, .int .i64 a0_1, .string a0_2, .slice A0_3 l0_3.length c0_3]) (t := 24) ?hr ?_; (case hd => rfl); (case hg => rfl); (case hr => first | (go_simp; done) | (go_simp; rfl)); intro gb411 hg w10 hbox hb; have n0_ := Aside0.mk (below_step (by repeat (first | (with_reducible first | exact HB.out | apply below_alloc | apply pw_below_drewN | apply below_drew1) | exact HB.out)) hb); have n1_ := Aside0.mk (hbox); have n2_ := Aside0.mk ((by rw [hg]; exact (below_size (by repeat (first | (with_reducible first | exact HB.out | apply below_alloc | apply pw_below_drewN | apply below_drew1) | exact HB.out))) : w.heap.size ≤ gb411)); have n3_ := Aside0.mk ((by rw [hg]; exact (below_size (by repeat (first | (with_reducible first | exact HB.out | apply below_alloc | apply pw_below_drewN | apply below_drew1) | exact HB.out))) : w.heap.size ≤ gb411)); clear HB; have HB := n0_; have BK411 := n1_; have GW411 := n2_; have GE411 := n3_; clear n0_ n1_ n2_ n3_; clear hb hbox hg; have hcz11_0 : w10.cell? ⟨gb411, 0, none⟩ = some (.int .i64 a0_0) := (blk_cell BK411.out 0).trans rfl; have hcz11_1 : w10.cell? ⟨gb411, 1, none⟩ = some (.int .i64 a0_1) := (blk_cell BK411.out 1).trans rfl; have hcz11_2 : w10.cell? ⟨gb411, 2, none⟩ = some (.string a0_2) := (blk_cell BK411.out 2).trans rfl; have hcz11_3 : w10.cell? ⟨gb411, 3, none⟩ = some (.slice A0_3 l0_3.length c0_3) := (blk_cell BK411.out 3).trans rfl; have hfz11_0 := blk_frozen BK411.out 0; have hfz11_1 := blk_frozen BK411.out 1; have hfz11_2 := blk_frozen BK411.out 2; have hfz11_3 := blk_frozen BK411.out 3) | ((with_reducible refine gate_callee (f := 140) rfl ?_); refine goesL_ (some 4) rfl rfl Tryz.func140 (by kernel_rfl) rfl #[.agg #[.int .i64 a0_0, .int .i64 a0_1, .string a0_2, .slice A0_3 l0_3.length c0_3]] rfl (by (try simp only [List.map_toArray, List.map_cons, List.map_nil]); first | done | rfl | (simp only [List.length_drop, List.length_take]; rfl)) ?_; (with_reducible refine (plinthref01_Size.calls k a0_0 a0_1 a0_2 _ _ l0_3 t412 _ ?side1 ?side2 A2.out).mono ?_); (case side1 => repeat (first | exact (Kd.C_below HR0_3.out HB.out) | (with_reducible refine Kd.C_alloc ?_ _) | (with_reducible refine Kd.C_drewN ?_ _) | (with_reducible refine Kd.C_drew ?_))); (case side2 => exact HC0_3.out); rintro e w12 ⟨rfl, hb⟩; refine ⟨_, rfl, ?_⟩; have n0_ := Aside0.mk (blk_below (g := gb411) (o := .cells #[.int .i64 a0_0, .int .i64 a0_1, .string a0_2, .slice A0_3 l0_3.length c0_3] 24 (0, 0)) (by (with_reducible repeat (first | refine blk_drewN ?_ _ | refine blk_drew ?_ | refine blk_alloc ?_ _)); exact BK411.out) hb); have n1_ := Aside0.mk (below_step (by repeat (first | (with_reducible first | exact HB.out | apply below_alloc | apply pw_below_drewN | apply below_drew1 | refine below_set ?_ GE411.out) | exact HB.out)) hb); clear BK411; clear HB; have BK411 := n0_; have HB := n1_; clear n0_ n1_; (try clear hb); (try clear hb2); (try clear hk); (try clear hi)))
    go_ret
    exact ⟨by first | rfl | (simp [errW_none, errW_some] <;> rfl) | (simp [*, errW_none, errW_some] <;> rfl), by repeat (first | (with_reducible first | exact HB.out | apply below_alloc | apply pw_below_drewN | apply below_drew1 | refine below_set ?_ GE411.out) | exact HB.out)⟩

end Go.Proofs.YtcjmplpfebpfpaaGreatDoor.PKindInstances

namespace Go.Proofs.YtcjmplpfebpfpaaGreatDoor
open Go.RowKit Go.Proofs Go.Proofs.YtcjmplpfebpfpaaGreatDoorW.PrintWords Go.Proofs.YtcjmplpfebpfpaaGreatDoorW.PrintLast Go.Proofs.YtcjmplpfebpfpaaGreatDoorW.PrintMore PKindInstances
set_option linter.unusedVariables false
set_option linter.unusedSimpArgs false

mutual
def cnt : S24 → Nat
  | ⟨a, _, _, l⟩ => 1 + (if a = 3 then cnts l else 0)
def cnts : List S24 → Nat
  | [] => 0
  | x :: l => cnt x + cnts l
end
mutual
def dep : S24 → Nat
  | ⟨a, _, _, l⟩ => (if a = 3 then deps l else 0) + 1
def deps : List S24 → Nat
  | [] => 0
  | x :: l => max (dep x) (deps l)
end
mutual
theorem cnt_siz : ∀ x : S24, cnt x ≤ siz x
  | ⟨a, b, s, l⟩ => by
    have := cnts_siz l
    simp only [cnt, siz]
    split <;> omega
theorem cnts_siz : ∀ l : List S24, cnts l ≤ sizs l
  | [] => Nat.le_refl _
  | x :: l => by have h1 := cnt_siz x; have h2 := cnts_siz l; simp only [cnts, sizs]; omega
end
mutual
theorem dep_siz : ∀ x : S24, dep x ≤ siz x
  | ⟨a, b, s, l⟩ => by
    have := deps_siz l
    simp only [dep, siz]
    split <;> omega
theorem deps_siz : ∀ l : List S24, deps l ≤ sizs l
  | [] => Nat.le_refl _
  | x :: l => by have h1 := dep_siz x; have h2 := deps_siz l; simp only [deps, sizs]; omega
end
theorem siz_in : ∀ {l : List S24} {x : S24}, x ∈ l → siz x ≤ sizs l
  | [], _, h => absurd h List.not_mem_nil
  | y :: l, x, h => by
    simp only [sizs]
    rcases List.mem_cons.1 h with h | h
    · rw [h]; omega
    · have := siz_in h; omega
theorem wr64 {z : Int} (h1 : 0 ≤ z) (h2 : z < 9000000000) : wrap64 z = z := by unfold wrap64; omega

theorem size_l0 (n : Int) (s : ByteArray) (l : List S24) (hl : l.length < 9000000) (hq : ∀ x ∈ l, Ev (fun k => plinthref01_Size.f k x.f0 x.f1 x.f2 x.f3) ((cnt x : Nat) : Int)) (d : Nat) :
    ∀ (i acc : Nat), d + i = l.length → acc + cnts (l.drop i) < 9000000000 → Ev (fun k => plinthref01_Size.l0 k (acc : Int) (i : Int) 3 n s l) ((acc + cnts (l.drop i) : Nat) : Int) := by
  induction d with
  | zero =>
    intro i acc h hb
    refine ⟨1, fun k hk => ?_⟩
    obtain ⟨k, rfl⟩ : ∃ m, k = m + 1 := ⟨k - 1, by omega⟩
    have e : l.drop i = [] := List.drop_eq_nil_of_le (by omega)
    simp only [plinthref01_Size.l0]
    rw [if_pos trivial, if_neg (by omega), e]
    rfl
  | succ d ih =>
    intro i acc h hb
    obtain ⟨x, hx⟩ : ∃ x, l[i]? = some x := ⟨l[i]'(by omega), List.getElem?_eq_getElem _⟩
    have e : l.drop i = x :: l.drop (i + 1) := by obtain ⟨h9, h10⟩ := List.getElem?_eq_some_iff.1 hx; rw [← h10]; exact List.drop_eq_getElem_cons h9
    rw [e] at hb ⊢
    simp only [cnts] at hb ⊢
    obtain ⟨K1, h1⟩ := hq x (List.mem_of_getElem? hx)
    obtain ⟨K2, h2⟩ := ih (i + 1) (acc + cnt x) (by omega) (by omega)
    refine ⟨max K1 K2 + 1, fun k hk => ?_⟩
    obtain ⟨k, rfl⟩ : ∃ m, k = m + 1 := ⟨k - 1, by omega⟩
    have h1' := h1 k (by omega)
    have h2' := h2 k (by omega)
    simp only [] at h1' h2'
    simp only [plinthref01_Size.l0]
    rw [if_pos trivial, if_pos (by omega), if_pos (by omega), rd_at hx, h1', Option.bind_some, wr64 (by omega) (by omega), wr64 (by omega) (by omega), show (acc : Int) + (cnt x : Int) = ((acc + cnt x : Nat) : Int) from by omega, show (i : Int) + 1 = ((i + 1 : Nat) : Int) from by omega, h2', Nat.add_assoc]
mutual
theorem size_ev : ∀ x : S24, siz x < 9000000 → Ev (fun k => plinthref01_Size.f k x.f0 x.f1 x.f2 x.f3) ((cnt x : Nat) : Int)
  | ⟨a, n, s, l⟩, h => by
    have hl := size_evs l
    simp only [siz] at h
    have h1 := sizs_len l
    have h2 := cnts_siz l
    by_cases h3 : a = 3
    · subst h3
      obtain ⟨K, hK⟩ := size_l0 n s l (by omega) (fun x hx => hl x hx (by have := siz_in hx; omega)) l.length 0 1 (by omega) (by rw [List.drop_zero]; omega)
      refine ⟨K + 1, fun k hk => ?_⟩
      obtain ⟨k, rfl⟩ : ∃ m, k = m + 1 := ⟨k - 1, by omega⟩
      have := hK k (by omega)
      simp only [List.drop_zero] at this
      simp only [plinthref01_Size.f, cnt, if_true]
      exact this
    · refine ⟨2, fun k hk => ?_⟩
      obtain ⟨k, rfl⟩ : ∃ m, k = m + 2 := ⟨k - 2, by omega⟩
      simp only [plinthref01_Size.f, plinthref01_Size.l0, cnt]
      rw [if_neg h3, if_neg h3]
      rfl
theorem size_evs : ∀ (l : List S24), ∀ x ∈ l, siz x < 9000000 → Ev (fun k => plinthref01_Size.f k x.f0 x.f1 x.f2 x.f3) ((cnt x : Nat) : Int)
  | [], x, h => absurd h (List.not_mem_nil)
  | y :: l, x, h => by
    rcases List.mem_cons.1 h with h | h
    · rw [h]; exact size_ev y
    · exact size_evs l x h
end
theorem mx_max (a b : Nat) : mx (a : Int) (b : Int) = ((max a b : Nat) : Int) := by unfold mx; split <;> omega
theorem depth_l0 (n : Int) (s : ByteArray) (l : List S24) (hl : l.length < 9000000) (hq : ∀ x ∈ l, Ev (fun k => plinthref01_Depth.f k x.f0 x.f1 x.f2 x.f3) ((dep x : Nat) : Int)) (d : Nat) :
    ∀ (i acc : Nat), d + i = l.length → max acc (deps (l.drop i)) < 9000000000 - 1 → Ev (fun k => plinthref01_Depth.l0 k (acc : Int) (i : Int) 3 n s l) ((max acc (deps (l.drop i)) + 1 : Nat) : Int) := by
  induction d with
  | zero =>
    intro i acc h hb
    refine ⟨1, fun k hk => ?_⟩
    obtain ⟨k, rfl⟩ : ∃ m, k = m + 1 := ⟨k - 1, by omega⟩
    have e : l.drop i = [] := List.drop_eq_nil_of_le (by omega)
    rw [e] at hb ⊢
    simp only [deps] at hb ⊢
    simp only [plinthref01_Depth.l0]
    rw [if_pos trivial, if_neg (by omega), wr64 (by omega) (by omega)]
    simp
  | succ d ih =>
    intro i acc h hb
    obtain ⟨x, hx⟩ : ∃ x, l[i]? = some x := ⟨l[i]'(by omega), List.getElem?_eq_getElem _⟩
    have e : l.drop i = x :: l.drop (i + 1) := by obtain ⟨h9, h10⟩ := List.getElem?_eq_some_iff.1 hx; rw [← h10]; exact List.drop_eq_getElem_cons h9
    rw [e] at hb ⊢
    simp only [deps] at hb ⊢
    obtain ⟨K1, h1⟩ := hq x (List.mem_of_getElem? hx)
    obtain ⟨K2, h2⟩ := ih (i + 1) (max acc (dep x)) (by omega) (by omega)
    refine ⟨max K1 K2 + 1, fun k hk => ?_⟩
    obtain ⟨k, rfl⟩ : ∃ m, k = m + 1 := ⟨k - 1, by omega⟩
    have h1' := h1 k (by omega)
    have h2' := h2 k (by omega)
    simp only [] at h1' h2'
    simp only [plinthref01_Depth.l0]
    rw [if_pos trivial, if_pos (by omega), if_pos (by omega), rd_at hx, h1', Option.bind_some, wr64 (by omega) (by omega), mx_max, show (i : Int) + 1 = ((i + 1 : Nat) : Int) from by omega, h2', Nat.max_assoc]
mutual
theorem depth_ev : ∀ x : S24, siz x < 9000000 → Ev (fun k => plinthref01_Depth.f k x.f0 x.f1 x.f2 x.f3) ((dep x : Nat) : Int)
  | ⟨a, n, s, l⟩, h => by
    have hl := depth_evs l
    simp only [siz] at h
    have h1 := sizs_len l
    have h2 := deps_siz l
    by_cases h3 : a = 3
    · subst h3
      obtain ⟨K, hK⟩ := depth_l0 n s l (by omega) (fun x hx => hl x hx (by have := siz_in hx; omega)) l.length 0 0 (by omega) (by rw [List.drop_zero]; omega)
      refine ⟨K + 1, fun k hk => ?_⟩
      obtain ⟨k, rfl⟩ : ∃ m, k = m + 1 := ⟨k - 1, by omega⟩
      have := hK k (by omega)
      simp only [List.drop_zero, Nat.zero_max] at this
      simp only [plinthref01_Depth.f, dep, if_true]
      exact this
    · refine ⟨2, fun k hk => ?_⟩
      obtain ⟨k, rfl⟩ : ∃ m, k = m + 2 := ⟨k - 2, by omega⟩
      simp only [plinthref01_Depth.f, plinthref01_Depth.l0, dep]
      rw [if_neg h3, if_neg h3, wr64 (by omega) (by omega)]
      rfl
theorem depth_evs : ∀ (l : List S24), ∀ x ∈ l, siz x < 9000000 → Ev (fun k => plinthref01_Depth.f k x.f0 x.f1 x.f2 x.f3) ((dep x : Nat) : Int)
  | [], x, h => absurd h (List.not_mem_nil)
  | y :: l, x, h => by
    rcases List.mem_cons.1 h with h | h
    · rw [h]; exact depth_ev y
    · exact depth_evs l x h
end
def smallM (x : S24) : Bool := decide (cnt x ≤ 20000) && decide (dep x ≤ 100)
theorem small_any (x : S24) (A : Option Addr) (c : Nat) (w : World) (hr : Kd.C k24 w A x.f3.length x.f3) (hc : x.f3.length ≤ c) (hz : siz x < 9000000) :
    Calls Tryz.prog 100 #[formV x.f0 x.f1 x.f2 A x.f3.length c] w fun e w' => e = .returned (.bool (smallM x)) ∧ Below w.heap.size w w' := by
  obtain ⟨K1, h1⟩ := size_ev x hz
  obtain ⟨K2, h2⟩ := depth_ev x hz
  refine plinthref01_small.calls (max K1 K2) x.f0 x.f1 x.f2 A c x.f3 _ w hr hc ?_
  have h1' := h1 (max K1 K2) (by omega)
  have h2' := h2 (max K1 K2) (by omega)
  simp only [] at h1' h2'
  unfold plinthref01_small.f smallM
  rw [h1', Option.bind_some]
  by_cases h : cnt x ≤ 20000
  · rw [if_pos (by omega), h2', Option.bind_some, decide_eq_true h, Bool.true_and]
    congr 1
    by_cases h' : dep x ≤ 100
    · rw [decide_eq_true h', decide_eq_true (by omega)]
    · rw [decide_eq_false h', decide_eq_false (by omega)]
  · rw [if_neg (by omega), decide_eq_false h]
    rfl
def ValidR (x : S24) : Bool := fieldsM x && smallM x
set_option maxRecDepth 100000 in
theorem RValid_any (x : S24) (A : Option Addr) (c : Nat) (w : World) (hr : Kd.C k24 w A x.f3.length x.f3) (hc : x.f3.length ≤ c) (hz : siz x < 9000000) (hw : wid x < 9000000) :
    Calls Tryz.prog 57 #[formV x.f0 x.f1 x.f2 A x.f3.length c] w fun e w' => e = .returned (.bool (ValidR x)) ∧ Below w.heap.size w w' := by
  have hu24 := Tryz.underlying24
  have FI : Hid (∀ w1, Below w.heap.size w w1 → _) := fun w1 h1 => fields_ok x A c w1 (Kd.C_below hr h1) hc hw
  have SM : Hid (∀ w1, Below w.heap.size w w1 → _) := fun w1 h1 => small_any x A c w1 (Kd.C_below hr h1) hc hz
  unfold ValidR
  obtain ⟨g, hg⟩ : ∃ g, g = smallM x := ⟨_, rfl⟩
  rw [← hg] at SM ⊢
  cases hq : fieldsM x with
  | false =>
    rw [hq] at FI
    obtain ⟨a, n, s, l⟩ := x
    clear hr hg hq
    go_enter Tryz.func57, Tryz.ntmps57
    go_wp2_with fail
    refine Calls.mono (FI.out _ (below_alloc (Below.refl _ _) _)) ?_
    rintro e w2 ⟨rfl, B2⟩
    have HB : Hid _ := below_after (below_alloc (Below.refl w.heap.size w) _) B2
    clear B2
    go_wp2_with fail
    go_ret
    exact ⟨rfl, HB.out⟩
  | true =>
    rw [hq] at FI
    obtain ⟨a, n, s, l⟩ := x
    clear hr hg hq
    go_enter Tryz.func57, Tryz.ntmps57
    go_wp2_with fail
    refine Calls.mono (FI.out _ (below_alloc (Below.refl _ _) _)) ?_
    rintro e w2 ⟨rfl, B2⟩
    obtain ⟨p0, p1, p2, p3⟩ := cells4 (box_heap B2)
    have HB : Hid _ := below_after (below_alloc (Below.refl w.heap.size w) _) B2
    clear B2
    go_wp2_with fail
    refine Calls.mono (SM.out _ HB.out) ?_
    rintro e w3 ⟨rfl, B3⟩
    have HB3 : Hid _ := below_after HB.out B3
    clear B3
    go_wp2_with fail
    go_ret
    exact ⟨rfl, HB3.out⟩

end Go.Proofs.YtcjmplpfebpfpaaGreatDoor
