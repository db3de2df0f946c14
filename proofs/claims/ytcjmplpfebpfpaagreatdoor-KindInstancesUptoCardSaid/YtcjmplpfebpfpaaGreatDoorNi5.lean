/- KindInstances, part 5: the print's words and functions that it leans on, cut to what is reached, and own texts. -/
import Derived.Carry
import Derived.StringKeys
import Derived.Shelf.SlIter.Nil
import Derived.Shelf.SortM.Plain
import Derived.Shelf.SortM.SortNone
import Derived.Ground.GgzProg
import Derived.Ground.SlgmProg
import Derived.Shelf.Strings.SlTrimAscii
import Derived.Shelf.Strings.Trim
import Derived.Shelf.Small.Utf8
import Derived.Shelf.Small.Bits
import Derived.Shelf.Small.Strs
import Derived.Shelf.Small.Wraps
import Derived.Shelf.Strconv.Itoa0
import Derived.Shelf.Strings.Search1
import Derived.Shelf.Sort.Plain
import Derived.Shelf.GgClosure.StringsIndexFunc
import Derived.Ground.GgwProg
import Derived.Shelf.GgClosure.StringsIndexFuncTop
import Derived.Shelf.GgClosure.StringsRunes
import Derived.Shelf.Strings.Prefix
import Derived.Shelf.Unicode.Decode
import Derived.Shelf.Strings.Runes
import Derived.Shelf.Strings.AsciiSet
import Derived.Shelf.Unicode.DecodeSlow
import Derived.Shelf.Unicode.DecodeAny
import Derived.Shelf.Unicode.DecodeLast
import Derived.Shelf.Strings.FuncGrows
import Derived.Ground.Names2Prog
import Derived.Shelf.Slices.SearchI
import Derived.Shelf.Slices.In.SortNone
import Derived.Test.YtcjmplpfebpfpaaGreatDoorProg
import Derived.Sort.KeysCollected
import Derived.Laws.Cover1
import Derived.BigQuiet
import Derived.Test.YtcjmplpfebpfpaaGreatDoorNi4
namespace Go.Proofs.YtcjmplpfebpfpaaGreatDoor
open Go.RowKit Go.Proofs Go.Proofs.YtcjmplpfebpfpaaGreatDoorW.PrintWords Go.Proofs.YtcjmplpfebpfpaaGreatDoorW.PrintLast Go.Proofs.YtcjmplpfebpfpaaGreatDoorW.PrintMore PKindInstances
set_option linter.unusedVariables false
set_option linter.unusedSimpArgs false

def textV (s : ByteArray) : Value := .string s
theorem keyText' : KeyEnc .string textV := keyText

def headsM : List (ByteArray × Value) :=
  [(⟨#[98, 105, 116, 115]⟩, .int .i64 1), (⟨#[115, 101, 113]⟩, .int .i64 1), (⟨#[115, 101, 116]⟩, .int .i64 1), (⟨#[98, 97, 103]⟩, .int .i64 1), (⟨#[109, 97, 121, 98, 101]⟩, .int .i64 1),
   (⟨#[109, 97, 112]⟩, .int .i64 2), (⟨#[105, 109, 97, 112]⟩, .int .i64 2), (⟨#[102, 117, 110]⟩, .int .i64 2)]

theorem below_grown1 {w W w1 : World} {b : Nat} (h : Below w.heap.size w W) (hg : W.grownBy w1 (some b)) (hb : w.heap.size ≤ b) : Below w.heap.size w w1 :=
  pw_below_grown h (some b) (below_size h) hg (fun k hk => by cases hk; exact hb)

set_option maxRecDepth 100000 in
theorem heads_any (w : World) : Calls Tryz.prog 87 #[] w fun e w' => ∃ b, e = .returned (.map (some b)) ∧ w.heap.size ≤ b ∧ MapAt w' b (kvs textV headsM) ∧ Below w.heap.size w w' := by
  have hu := Tryz.underlying132
  have hk := Tryz.underlying9
  go_enter Tryz.func87, Tryz.ntmps87
  go_wp2
  simp only [run_makeMap]
  have m0 : MapAt (w.alloc (.map #[] 0)) w.heap.size (kvs textV []) := MapAt.made w
  have B0 : Below w.heap.size w (w.alloc (.map #[] 0)) := by (repeat (first | assumption | exact Below.refl _ _ | apply below_alloc | apply pw_below_drewN | apply below_drew1))
  go_wp2_with (first | (refine law_update keyText' rfl _ _ _ (.inr rfl) hu hk (by assumption) _ _ rfl rfl rfl ?_; intro w1 m1 hg1; have B1 : Below w.heap.size w w1 := below_grown1 (by assumption) hg1 (Nat.le_refl _); clear hg1))
  have e8 : MapAt w1 w.heap.size (kvs textV headsM) := m1
  go_ret
  exact ⟨_, rfl, Nat.le_refl _, e8, B1⟩

/-- A word that is no name. -/
def resM (s : ByteArray) : Bool := (look headsM s).isSome || (s.toList == [105, 110, 116]) || (s.toList == [98, 111, 111, 108])

set_option maxRecDepth 100000 in
theorem reserved_any (s : ByteArray) (w : World) : Calls Tryz.prog 44 #[.string s] w fun e w' => e = .returned (.bool (resM s)) ∧ Below w.heap.size w w' := by
  have hu := Tryz.underlying132
  have hk := Tryz.underlying9
  obtain ⟨r, hR⟩ : ∃ r, r = resM s := ⟨_, rfl⟩
  rw [← hR]
  unfold resM at hR
  obtain ⟨v, hv⟩ : ∃ v, v = (look headsM s).getD (.int .i64 0) := ⟨_, rfl⟩
  cases hl : (look headsM s).isSome with
  | true =>
    rw [hl] at hR
    obtain rfl : r = true := by rw [hR]; rfl
    clear hR
    go_enter Tryz.func44, Tryz.ntmps44
    go_wp2_with fail
    refine (heads_any _).mono ?_
    rintro e w1 ⟨b, rfl, hb, hm, B⟩
    have hz : (zeroValue 3).run Tryz.prog w1 = .ok (.int .i64 0) w1 := by go_simp
    go_wp2_with (first | (refine law_lookup keyText' rfl _ _ true rfl hu hk hz hm s rfl rfl ?_; rw [hl, ← hv]))
    go_ret
    exact ⟨rfl, B⟩
  | false =>
    rw [hl] at hR
    cases hi : (s.toList == [105, 110, 116]) with
    | true =>
      rw [hi] at hR
      obtain rfl : r = true := by rw [hR]; rfl
      clear hR
      go_enter Tryz.func44, Tryz.ntmps44
      go_wp2_with fail
      refine (heads_any _).mono ?_
      rintro e w1 ⟨b, rfl, hb, hm, B⟩
      have hz : (zeroValue 3).run Tryz.prog w1 = .ok (.int .i64 0) w1 := by go_simp
      go_wp2_with (first | (refine law_lookup keyText' rfl _ _ true rfl hu hk hz hm s rfl rfl ?_; rw [hl, ← hv]))
      go_ret
      exact ⟨rfl, B⟩
    | false =>
      rw [hi] at hR
      obtain ⟨x, hx⟩ : ∃ x, x = (s.toList == [98, 111, 111, 108]) := ⟨_, rfl⟩
      rw [← hx] at hR
      obtain rfl : r = x := by rw [hR]; simp
      clear hR
      go_enter Tryz.func44, Tryz.ntmps44
      go_wp2_with fail
      refine (heads_any _).mono ?_
      rintro e w1 ⟨b, rfl, hb, hm, B⟩
      have hz : (zeroValue 3).run Tryz.prog w1 = .ok (.int .i64 0) w1 := by go_simp
      go_wp2_with (first | (refine law_lookup keyText' rfl _ _ true rfl hu hk hz hm s rfl rfl ?_; rw [hl, ← hv]))
      go_ret
      exact ⟨by simp [hi, hx], B⟩

end Go.Proofs.YtcjmplpfebpfpaaGreatDoor

namespace Go.Proofs.YtcjmplpfebpfpaaGreatDoor
open Go.RowKit Go.Proofs

instance : LawfulBEq ByteArray where
  eq_of_beq h := (MapKept.bytes_beq _ _).1 h
  rfl := (MapKept.bytes_beq _ _).2 rfl

theorem bytes_inj {a b : ByteArray} (h : a.toList = b.toList) : a = b := by
  rw [ByteArray.toList_eq, ByteArray.toList_eq] at h
  cases a with
  | mk a =>
    cases b with
    | mk b =>
      have : a = b := Array.toList_inj.1 h
      rw [this]

end Go.Proofs.YtcjmplpfebpfpaaGreatDoor

namespace Go.Proofs.YtcjmplpfebpfpaaGreatDoor
open Go.RowKit Go.Proofs Go.Proofs.YtcjmplpfebpfpaaGreatDoorW.PrintWords Go.Proofs.YtcjmplpfebpfpaaGreatDoorW.PrintLast Go.Proofs.YtcjmplpfebpfpaaGreatDoorW.PrintMore PKindInstances
set_option linter.unusedVariables false
set_option linter.unusedSimpArgs false

mutual
/-- How many parts a form has. -/
def siz : S24 → Nat
  | ⟨_, _, s, l⟩ => 1 + s.size + sizs l
def sizs : List S24 → Nat
  | [] => 0
  | x :: l => siz x + sizs l
end
theorem sizs_len : ∀ l : List S24, l.length ≤ sizs l
  | [] => by simp [sizs]
  | x :: l => by have := sizs_len l; cases x; simp only [sizs, siz, List.length_cons]; omega

/-- The cells of a form in a row. -/
theorem row_at {w : World} {A : Option Addr} {n : Nat} {l : List S24} (h : Kd.C k24 w A n l) {i : Nat} (hi : i < n) {x : S24} (hx : l[i]? = some x) :
    ∃ ad A3 c3, A = some ad ∧ w.cell? (ad.add (i * 4)) = some (.int .i64 x.f0) ∧ w.cell? ⟨(ad.add (i * 4)).block, (ad.add (i * 4)).off + 1, none⟩ = some (.int .i64 x.f1) ∧
      w.cell? ⟨(ad.add (i * 4)).block, (ad.add (i * 4)).off + 2, none⟩ = some (.string x.f2) ∧ w.cell? ⟨(ad.add (i * 4)).block, (ad.add (i * 4)).off + 3, none⟩ = some (.slice A3 x.f3.length c3) ∧
      x.f3.length ≤ c3 ∧ k24.C w A3 x.f3.length x.f3 := by
  obtain ⟨ad, A3, c3, e, g0, g1, g2, g3, g4, g5⟩ := at_T24 h (i : Int) (by omega) (by omega)
  rw [rd_at hx] at g0 g1 g2 g3 g4 g5
  rw [Int.toNat_natCast] at g0 g1 g2 g3
  exact ⟨ad, A3, c3, e, g0, g1, g2, g3, g4, g5⟩

theorem cell_grown {w w1 : World} {row : Option Nat} (h : w.grownBy w1 row) {p : Addr} {v : Value} (hc : w.cell? p = some v) (hne : some p.block ≠ row) : w1.cell? p = some v :=
  (World.cell?_of_block (h.block p.block (World.block_lt_of_cell? w p hc) hne)).trans hc
theorem size_new (w : World) (o : Obj) : (w.alloc o).heap.size = w.heap.size + 1 := Array.size_push ..
set_option maxRecDepth 100000 in
/-- What a form's own block holds later. -/
theorem box_at {w w1 : World} {a bb : Int} {s : ByteArray} {A : Option Addr} {m c : Nat} (h : Below (w.alloc (Obj.cells #[.int .i64 a, .int .i64 bb, .string s, .slice A m c] 24)).heap.size (w.alloc (Obj.cells #[.int .i64 a, .int .i64 bb, .string s, .slice A m c] 24)) w1) :
    w1.cell? ⟨w.heap.size, 0, none⟩ = some (.int .i64 a) ∧ w1.cell? ⟨w.heap.size, 1, none⟩ = some (.int .i64 bb) ∧ w1.cell? ⟨w.heap.size, 2, none⟩ = some (.string s) ∧ w1.cell? ⟨w.heap.size, 3, none⟩ = some (.slice A m c) := by
  refine ⟨pw_cell_below h ?_, pw_cell_below h ?_, pw_cell_below h ?_, pw_cell_below h ?_⟩ <;> go_simp

end Go.Proofs.YtcjmplpfebpfpaaGreatDoor

namespace Go.Proofs
open Go.Shelf
def Tryz.keys65_ren : Go.Shelf.Ren := ⟨fun | 7 => 65 | 10 => 109 | n => n, fun | 23 => 72 | 26 => 9 | 3 => 24 | 28 => 105 | 0 => 0 | 27 => 104 | 33 => 76 | 4 => 4 | n => n, fun | n => n⟩
theorem Tryz.keys65 : Go.Proofs.SlLaysZ.n7 Tryz.prog Tryz.keys65_ren := {
  mixed := by kernel_rfl
  f7 := ⟨Tryz.f65.name, by decide, Tryz.func65.trans (congrArg some (by kernel_rfl))⟩
  f10 := ⟨Tryz.f109.name, by decide, Tryz.func109.trans (congrArg some (by kernel_rfl))⟩
  t0 := Tryz.underlying0
  a0 := Tryz.isAgg0
  z0 := Tryz.sizeOf0
  v0 := Tryz.zeroValue0
  t4 := Tryz.underlying4
  a4 := Tryz.isAgg4
  z4 := Tryz.sizeOf4
  v4 := Tryz.zeroValue4
  t23 := Tryz.underlying72
  a23 := Tryz.isAgg72
  z23 := Tryz.sizeOf72
  v23 := Tryz.zeroValue72
  t26 := Tryz.underlying9
  a26 := Tryz.isAgg9
  z26 := Tryz.sizeOf9
  v26 := Tryz.zeroValue9
  t27 := Tryz.underlying104
  a27 := Tryz.isAgg104
  z27 := Tryz.sizeOf104
  v27 := Tryz.zeroValue104
  t28 := Tryz.underlying105
  a28 := Tryz.isAgg105
  z28 := Tryz.sizeOf105
  v28 := Tryz.zeroValue105
  t33 := Tryz.underlying76
  a33 := Tryz.isAgg76
  z33 := Tryz.sizeOf76
  v33 := Tryz.zeroValue76 }
def Tryz.sorted64_ren : Go.Shelf.Ren := ⟨fun | 6 => 64 | 8 => 107 | 9 => 108 | 11 => 144 | 13 => 89 | 12 => 145 | 23 => 133 | 24 => 134 | 14 => 158 | 15 => 159 | 16 => 160 | 17 => 161 | 18 => 162 | 19 => 163 | 20 => 164 | 21 => 165 | 22 => 166 | 25 => 174 | 26 => 150 | 27 => 151 | 28 => 175 | 29 => 176 | 30 => 90 | 31 => 181 | n => n, fun | 26 => 9 | 28 => 105 | 24 => 38 | 0 => 0 | 3 => 3 | 37 => 136 | 48 => 164 | 50 => 166 | 4 => 4 | 40 => 158 | 39 => 157 | 45 => 131 | 5 => 5 | 9 => 9 | 51 => 176 | 55 => 141 | 57 => 192 | 58 => 193 | 33 => 76 | n => n, fun | n => n⟩
theorem Tryz.sorted64 : Go.Proofs.SlLaysZ.n6 Tryz.prog Tryz.sorted64_ren := {
  mixed := by kernel_rfl
  f6 := ⟨Tryz.f64.name, by decide, Tryz.func64.trans (congrArg some (by kernel_rfl))⟩
  f8 := ⟨Tryz.f107.name, by decide, Tryz.func107.trans (congrArg some (by kernel_rfl))⟩
  f11 := ⟨Tryz.f144.name, by decide, Tryz.func144.trans (congrArg some (by kernel_rfl))⟩
  t0 := Tryz.underlying0
  a0 := Tryz.isAgg0
  z0 := Tryz.sizeOf0
  v0 := Tryz.zeroValue0
  t24 := Tryz.underlying38
  a24 := Tryz.isAgg38
  z24 := Tryz.sizeOf38
  v24 := Tryz.zeroValue38
  t26 := Tryz.underlying9
  a26 := Tryz.isAgg9
  z26 := Tryz.sizeOf9
  v26 := Tryz.zeroValue9
  t28 := Tryz.underlying105
  a28 := Tryz.isAgg105
  z28 := Tryz.sizeOf105
  v28 := Tryz.zeroValue105
  i26 := by kernel_rfl }
def Tryz.sort108_ren : Go.Shelf.Ren := ⟨fun | 6 => 108 | 8 => 89 | 9 => 145 | 19 => 133 | 20 => 134 | 21 => 158 | 22 => 159 | 23 => 160 | 24 => 161 | 25 => 162 | 26 => 163 | 27 => 164 | 28 => 165 | 29 => 166 | 36 => 174 | 31 => 150 | 32 => 151 | 37 => 175 | 38 => 176 | 39 => 90 | 41 => 181 | n => n, fun | 27 => 38 | 29 => 9 | 3 => 3 | 32 => 136 | 26 => 38 | 0 => 0 | 44 => 164 | 46 => 166 | 4 => 4 | 36 => 158 | 35 => 157 | 41 => 131 | 5 => 5 | 9 => 9 | 53 => 176 | 57 => 141 | 63 => 192 | 64 => 193 | n => n, fun | n => n⟩
theorem Tryz.sort108 : Go.Proofs.SlLaysM.n6 Tryz.prog Tryz.sort108_ren := {
  mixed := by kernel_rfl
  f6 := ⟨Tryz.f108.name, by decide, Tryz.func108.trans (congrArg some (by kernel_rfl))⟩
  f8 := Tryz.func89.trans (congrArg some (by kernel_rfl))
  f9 := ⟨Tryz.f145.name, by decide, Tryz.func145.trans (congrArg some (by kernel_rfl))⟩
  f19 := Tryz.func133.trans (congrArg some (by kernel_rfl))
  f20 := Tryz.func134.trans (congrArg some (by kernel_rfl))
  f21 := ⟨Tryz.f158.name, by decide, Tryz.func158.trans (congrArg some (by kernel_rfl))⟩
  f22 := ⟨Tryz.f159.name, by decide, Tryz.func159.trans (congrArg some (by kernel_rfl))⟩
  f23 := ⟨Tryz.f160.name, by decide, Tryz.func160.trans (congrArg some (by kernel_rfl))⟩
  f24 := ⟨Tryz.f161.name, by decide, Tryz.func161.trans (congrArg some (by kernel_rfl))⟩
  f25 := ⟨Tryz.f162.name, by decide, Tryz.func162.trans (congrArg some (by kernel_rfl))⟩
  f26 := ⟨Tryz.f163.name, by decide, Tryz.func163.trans (congrArg some (by kernel_rfl))⟩
  f27 := ⟨Tryz.f164.name, by decide, Tryz.func164.trans (congrArg some (by kernel_rfl))⟩
  f28 := ⟨Tryz.f165.name, by decide, Tryz.func165.trans (congrArg some (by kernel_rfl))⟩
  f29 := ⟨Tryz.f166.name, by decide, Tryz.func166.trans (congrArg some (by kernel_rfl))⟩
  f31 := Tryz.func150.trans (congrArg some (by kernel_rfl))
  f32 := Tryz.func151.trans (congrArg some (by kernel_rfl))
  f36 := ⟨Tryz.f174.name, by decide, Tryz.func174.trans (congrArg some (by kernel_rfl))⟩
  f37 := ⟨Tryz.f175.name, by decide, Tryz.func175.trans (congrArg some (by kernel_rfl))⟩
  f38 := ⟨Tryz.f176.name, by decide, Tryz.func176.trans (congrArg some (by kernel_rfl))⟩
  f39 := ⟨Tryz.f90.name, by decide, Tryz.func90.trans (congrArg some (by kernel_rfl))⟩
  f41 := ⟨Tryz.f181.name, by decide, Tryz.func181.trans (congrArg some (by kernel_rfl))⟩
  t0 := Tryz.underlying0
  a0 := Tryz.isAgg0
  z0 := Tryz.sizeOf0
  v0 := Tryz.zeroValue0
  t3 := Tryz.underlying3
  a3 := Tryz.isAgg3
  z3 := Tryz.sizeOf3
  v3 := Tryz.zeroValue3
  t4 := Tryz.underlying4
  a4 := Tryz.isAgg4
  z4 := Tryz.sizeOf4
  v4 := Tryz.zeroValue4
  t5 := Tryz.underlying5
  a5 := Tryz.isAgg5
  z5 := Tryz.sizeOf5
  v5 := Tryz.zeroValue5
  t9 := Tryz.underlying9
  a9 := Tryz.isAgg9
  z9 := Tryz.sizeOf9
  v9 := Tryz.zeroValue9
  t26 := Tryz.underlying38
  a26 := Tryz.isAgg38
  z26 := Tryz.sizeOf38
  v26 := Tryz.zeroValue38
  t27 := Tryz.underlying38
  a27 := Tryz.isAgg38
  z27 := Tryz.sizeOf38
  v27 := Tryz.zeroValue38
  t29 := Tryz.underlying9
  a29 := Tryz.isAgg9
  z29 := Tryz.sizeOf9
  v29 := Tryz.zeroValue9
  t32 := Tryz.underlying136
  a32 := Tryz.isAgg136
  z32 := Tryz.sizeOf136
  v32 := Tryz.zeroValue136
  t35 := Tryz.underlying157
  a35 := Tryz.isAgg157
  z35 := Tryz.sizeOf157
  v35 := Tryz.zeroValue157
  t36 := Tryz.underlying158
  a36 := Tryz.isAgg158
  z36 := Tryz.sizeOf158
  v36 := Tryz.zeroValue158
  t41 := Tryz.underlying131
  a41 := Tryz.isAgg131
  z41 := Tryz.sizeOf131
  v41 := Tryz.zeroValue131
  t44 := Tryz.underlying164
  a44 := Tryz.isAgg164
  z44 := Tryz.sizeOf164
  v44 := Tryz.zeroValue164
  t46 := Tryz.underlying166
  a46 := Tryz.isAgg166
  z46 := Tryz.sizeOf166
  v46 := Tryz.zeroValue166
  t53 := Tryz.underlying176
  a53 := Tryz.isAgg176
  z53 := Tryz.sizeOf176
  v53 := Tryz.zeroValue176
  t57 := Tryz.underlying141
  a57 := Tryz.isAgg141
  z57 := Tryz.sizeOf141
  v57 := Tryz.zeroValue141
  t63 := Tryz.underlying192
  a63 := Tryz.isAgg192
  z63 := Tryz.sizeOf192
  v63 := Tryz.zeroValue192
  t64 := Tryz.underlying193
  a64 := Tryz.isAgg193
  z64 := Tryz.sizeOf193
  v64 := Tryz.zeroValue193 }
def Tryz.lays160_ren : Go.Shelf.Ren := ⟨fun | 160 => 178 | 232 => 184 | 231 => 183 | 227 => 185 | 234 => 187 | 233 => 186 | 236 => 189 | 235 => 188 | 228 => 193 | 271 => 196 | 151 => 195 | 197 => 194 | 120 => 200 | 152 => 199 | 260 => 198 | 137 => 179 | 119 => 201 | 224 => 202 | 225 => 203 | 217 => 190 | 266 => 197 | n => n, fun | 9 => 9 | 4 => 4 | 3 => 3 | 5 => 5 | 117 => 205 | 116 => 204 | 0 => 0 | 124 => 208 | 21 => 21 | 105 => 210 | 46 => 136 | 119 => 214 | 139 => 217 | 138 => 216 | n => n, fun | 3 => 1 | 4 => 2 | n => n⟩
theorem Tryz.lays160 : Go.Proofs.Lays.n160 Tryz.prog Tryz.lays160_ren := {
  mixed := by kernel_rfl
  f119 := Tryz.func201.trans (congrArg some (by kernel_rfl))
  f120 := Tryz.func200.trans (congrArg some (by kernel_rfl))
  f137 := Tryz.func179.trans (congrArg some (by kernel_rfl))
  f151 := Tryz.func195.trans (congrArg some (by kernel_rfl))
  f152 := Tryz.func199.trans (congrArg some (by kernel_rfl))
  f160 := Tryz.func178.trans (congrArg some (by kernel_rfl))
  f197 := Tryz.func194.trans (congrArg some (by kernel_rfl))
  f217 := Tryz.func190.trans (congrArg some (by kernel_rfl))
  f224 := Tryz.func202.trans (congrArg some (by kernel_rfl))
  f225 := Tryz.func203.trans (congrArg some (by kernel_rfl))
  f227 := Tryz.func185.trans (congrArg some (by kernel_rfl))
  f228 := Tryz.func193.trans (congrArg some (by kernel_rfl))
  f231 := Tryz.func183.trans (congrArg some (by kernel_rfl))
  f232 := Tryz.func184.trans (congrArg some (by kernel_rfl))
  f233 := Tryz.func186.trans (congrArg some (by kernel_rfl))
  f234 := Tryz.func187.trans (congrArg some (by kernel_rfl))
  f235 := Tryz.func188.trans (congrArg some (by kernel_rfl))
  f236 := Tryz.func189.trans (congrArg some (by kernel_rfl))
  f260 := Tryz.func198.trans (congrArg some (by kernel_rfl))
  f266 := Tryz.func197.trans (congrArg some (by kernel_rfl))
  f271 := Tryz.func196.trans (congrArg some (by kernel_rfl))
  t0 := Tryz.underlying0
  a0 := Tryz.isAgg0
  z0 := Tryz.sizeOf0
  v0 := Tryz.zeroValue0
  t3 := Tryz.underlying3
  a3 := Tryz.isAgg3
  z3 := Tryz.sizeOf3
  v3 := Tryz.zeroValue3
  t4 := Tryz.underlying4
  a4 := Tryz.isAgg4
  z4 := Tryz.sizeOf4
  v4 := Tryz.zeroValue4
  t5 := Tryz.underlying5
  a5 := Tryz.isAgg5
  z5 := Tryz.sizeOf5
  v5 := Tryz.zeroValue5
  t9 := Tryz.underlying9
  a9 := Tryz.isAgg9
  z9 := Tryz.sizeOf9
  v9 := Tryz.zeroValue9
  t21 := Tryz.underlying21
  a21 := Tryz.isAgg21
  z21 := Tryz.sizeOf21
  v21 := Tryz.zeroValue21
  t46 := Tryz.underlying136
  a46 := Tryz.isAgg136
  z46 := Tryz.sizeOf136
  v46 := Tryz.zeroValue136
  t105 := Tryz.underlying210
  a105 := Tryz.isAgg210
  z105 := Tryz.sizeOf210
  v105 := Tryz.zeroValue210
  t116 := Tryz.underlying204
  a116 := Tryz.isAgg204
  z116 := Tryz.sizeOf204
  t117 := Tryz.underlying205
  a117 := Tryz.isAgg205
  z117 := Tryz.sizeOf205
  v117 := Tryz.zeroValue205
  t119 := Tryz.underlying214
  a119 := Tryz.isAgg214
  z119 := Tryz.sizeOf214
  t124 := Tryz.underlying208
  a124 := Tryz.isAgg208
  z124 := Tryz.sizeOf208
  v124 := Tryz.zeroValue208
  t138 := Tryz.underlying216
  a138 := Tryz.isAgg216
  z138 := Tryz.sizeOf216
  v138 := Tryz.zeroValue216
  t139 := Tryz.underlying217
  a139 := Tryz.isAgg217
  z139 := Tryz.sizeOf217
  v139 := Tryz.zeroValue217
  g3 := by kernel_rfl
  g4 := by kernel_rfl }
def Tryz.lays137_ren : Go.Shelf.Ren := ⟨fun | 137 => 179 | 217 => 190 | 266 => 197 | n => n, fun | 9 => 9 | 5 => 5 | 3 => 3 | n => n, fun | n => n⟩
theorem Tryz.lays137 : Go.Proofs.Lays.n137 Tryz.prog Tryz.lays137_ren := {
  mixed := by kernel_rfl
  f137 := Tryz.func179.trans (congrArg some (by kernel_rfl))
  f217 := Tryz.func190.trans (congrArg some (by kernel_rfl))
  f266 := Tryz.func197.trans (congrArg some (by kernel_rfl))
  t3 := Tryz.underlying3
  a3 := Tryz.isAgg3
  z3 := Tryz.sizeOf3
  v3 := Tryz.zeroValue3
  t5 := Tryz.underlying5
  a5 := Tryz.isAgg5
  z5 := Tryz.sizeOf5
  v5 := Tryz.zeroValue5
  t9 := Tryz.underlying9
  a9 := Tryz.isAgg9
  z9 := Tryz.sizeOf9
  v9 := Tryz.zeroValue9 }
open Go.RowKit in
/-- strings.IndexByte: "IndexByte returns the index of the first instance of c in s, or -1 if c is not present in s.": IT RETURNS 'Lib.indexByte s c'; the world is as it was. (LAID: no walk: one application.) -/
theorem Tryz.strings_IndexByte (s : ByteArray) (c : Int) (w : World) :
    Calls Tryz.prog 179 #[.string s, .int .u8 c] w fun e w' => e = .returned (.int .i64 (Lib.indexByte s.data.toList c.toNat.toUInt8)) ∧ w' = w := Any.strings_IndexByte Tryz.lays137 s c w
def Tryz.lays122_ren : Go.Shelf.Ren := ⟨fun | 122 => 154 | 215 => 173 | n => n, fun | 3 => 3 | 4 => 4 | n => n, fun | n => n⟩
theorem Tryz.lays122 : Go.Proofs.Lays.n122 Tryz.prog Tryz.lays122_ren := {
  mixed := by kernel_rfl
  f122 := Tryz.func154.trans (congrArg some (by kernel_rfl))
  f215 := Tryz.func173.trans (congrArg some (by kernel_rfl))
  t3 := Tryz.underlying3
  a3 := Tryz.isAgg3
  z3 := Tryz.sizeOf3
  v3 := Tryz.zeroValue3
  t4 := Tryz.underlying4
  a4 := Tryz.isAgg4
  z4 := Tryz.sizeOf4
  v4 := Tryz.zeroValue4 }
open Go.RowKit in
/-- cmp.Compare at int: "Compare returns -1 if x is less than y, 0 if x equals y, +1 if x is greater than y.": IT RETURNS 'Lib.compareInt x y'; the world is as it was. (LAID: no walk: one application.) -/
theorem Tryz.cmp_Compare_int (x y : Int) (w : World) :
    Calls Tryz.prog 154 #[.int .i64 x, .int .i64 y] w fun e w' => e = .returned (.int .i64 (Lib.compareInt x y)) ∧ w' = w := Any.cmp_Compare_int Tryz.lays122 x y w
def Tryz.laysGw17_ren : Go.Shelf.Ren := ⟨fun | 17 => 170 | 15 => 180 | 20 => 191 | n => n, fun | 9 => 9 | 23 => 189 | 4 => 4 | 3 => 3 | 0 => 0 | 21 => 21 | n => n, fun | n => n⟩
theorem Tryz.laysGw17 : Go.Proofs.LaysGw.n17 Tryz.prog Tryz.laysGw17_ren := {
  mixed := by kernel_rfl
  f15 := Tryz.func180.trans (congrArg some (by kernel_rfl))
  f17 := Tryz.func170.trans (congrArg some (by kernel_rfl))
  f20 := Tryz.func191.trans (congrArg some (by kernel_rfl))
  t0 := Tryz.underlying0
  a0 := Tryz.isAgg0
  z0 := Tryz.sizeOf0
  v0 := Tryz.zeroValue0
  i0 := by kernel_rfl
  t3 := Tryz.underlying3
  a3 := Tryz.isAgg3
  z3 := Tryz.sizeOf3
  v3 := Tryz.zeroValue3
  i3 := by kernel_rfl
  t4 := Tryz.underlying4
  a4 := Tryz.isAgg4
  z4 := Tryz.sizeOf4
  v4 := Tryz.zeroValue4
  i4 := by kernel_rfl
  t9 := Tryz.underlying9
  a9 := Tryz.isAgg9
  z9 := Tryz.sizeOf9
  v9 := Tryz.zeroValue9
  i9 := by kernel_rfl
  t21 := Tryz.underlying21
  a21 := Tryz.isAgg21
  z21 := Tryz.sizeOf21
  v21 := Tryz.zeroValue21
  i21 := by kernel_rfl
  t23 := Tryz.underlying189
  a23 := Tryz.isAgg189
  z23 := Tryz.sizeOf189
  v23 := Tryz.zeroValue189
  i23 := by kernel_rfl }
open Go.RowKit Go.Lib in
theorem Tryz.strings_ContainsFunc_runes (g : Nat) (lb : Array Value) (eg : ∀ args w, (callFunc g args).run Tryz.prog w = .ok (.enter g args) w) (p : Nat → Bool) (s : ByteArray) (w : World) (hp : PredAtRunes Tryz.prog g lb p w) :
    Calls Tryz.prog 170 #[.string s, .func (.func g) #[] lb] w fun e w' => e = .returned (.bool (decide (0 ≤ Lib.idxFunc p true s))) ∧ Below w.heap.size w w' := Any.strings_ContainsFunc_runes Tryz.laysGw17 g lb eg p s w hp
def Tryz.lays101_ren : Go.Shelf.Ren := ⟨fun | 101 => 177 | 208 => 182 | 206 => 192 | n => n, fun | 9 => 9 | 4 => 4 | 3 => 3 | n => n, fun | n => n⟩
theorem Tryz.lays101 : Go.Proofs.Lays.n101 Tryz.prog Tryz.lays101_ren := {
  mixed := by kernel_rfl
  f101 := Tryz.func177.trans (congrArg some (by kernel_rfl))
  f206 := Tryz.func192.trans (congrArg some (by kernel_rfl))
  f208 := Tryz.func182.trans (congrArg some (by kernel_rfl))
  t3 := Tryz.underlying3
  a3 := Tryz.isAgg3
  z3 := Tryz.sizeOf3
  v3 := Tryz.zeroValue3
  t4 := Tryz.underlying4
  a4 := Tryz.isAgg4
  z4 := Tryz.sizeOf4
  v4 := Tryz.zeroValue4
  t9 := Tryz.underlying9
  a9 := Tryz.isAgg9
  z9 := Tryz.sizeOf9
  v9 := Tryz.zeroValue9 }
open Go.RowKit Go.Lib in
/-- strings.TrimPrefix: "TrimPrefix returns s without the provided leading prefix string. If s doesn't start with prefix, s is returned unchanged.": IT RETURNS 'Lib.trimPrefix s prefix'; the world is as it was. (LAID: no walk: one application.) -/
theorem Tryz.strings_TrimPrefix (s p : ByteArray) (w : World) :
    Calls Tryz.prog 177 #[.string s, .string p] w fun e w' => e = .returned (.string ⟨(Lib.trimPrefix s.data.toList p.data.toList).toArray⟩) ∧ w' = w := Any.strings_TrimPrefix Tryz.lays101 s p w
end Go.Proofs

namespace Go.Proofs
open Go.RowKit Go.Maps Go.Sort Go.Shelf

/-- slices.Sort's two contracts at this dump, at the fence that asks nothing. -/
theorem Tryz.sorts64 (m : Nat) : AnyZ.SortsIn Tryz.prog Tryz.sorted64_ren Fence.wide m :=
  ⟨fun blk off cap ss W hH hblk hsz => callsIn_wide.2 (AnyM.slices_Sort_string Tryz.sort108 blk off cap ss W hH hblk hsz),
   fun p cap W => callsIn_wide.2 (AnyM.slices_Sort_string_none Tryz.sort108 p cap W)⟩

/-- **maps.Keys[map[string]plinth/api.Form,string,plinth/api.Form], at whatever map, the nil one too:** a function value over ONE NEW BLOCK, which holds the map. -/
theorem Tryz.maps_Keys_65 (mb : Option Nat) (W : World) : CallsIn Fence.wide 5 Tryz.prog 65 #[.map mb] W fun e w' => e = .returned (.func (.func 109) #[] #[.pointer (some ⟨W.heap.size, 0, none⟩)]) ∧ w' = W.alloc (.cells #[.map mb] 72) :=
  AnyZ.keys_in Tryz.keys65 Fence.wide 5 trivial rfl mb W

set_option maxHeartbeats 1000000 in
/-- **slices.Sorted[string] AT WHAT maps.Keys[map[string]plinth/api.Form,string,plinth/api.Form] HANDED BACK FOR A MAP THAT IS NOT nil** ('w': the world AHEAD of maps.Keys' call): A NEW SLICE THAT HOLDS THE MAP's KEYS, SORTED; nil just where it has none; nothing that lay before has turned. -/
theorem Tryz.slices_Sorted_keys_64_65 {H : Type} (b nn : Nat) (D0 : DataW H) (R : Value → Option (DataW H × List MemPlace)) (w : World) (hown : w.ownsMap Tryz.prog 9 R b nn D0) (hmax : Maps.size D0 ≤ maxLen) (hbytes : Maps.size D0 * 16 ≤ 140737488355328) :
    CallsIn Fence.wide 5 Tryz.prog 64 #[.func (.func 109) #[] #[.pointer (some ⟨w.heap.size, 0, none⟩)]] (w.alloc (.cells #[.map (some b)] 72)) fun e w' => ∃ (v : Value) (ss : List (List UInt8)), e = .returned v ∧ ss.Perm (strKeys D0) ∧
      w'.ownsRow (w.alloc (.cells #[.map (some b)] 72)).heap.size 9 1 v ss.length ((ss.mergeSort (fun x y => decide (x ≤ y))).map encStr) ∧ (v = .slice none 0 0 ↔ ss = []) ∧ Below (w.alloc (.cells #[.map (some b)] 72)).heap.size (w.alloc (.cells #[.map (some b)] 72)) w' := by
  have hbl := hown.lt
  have hseq : SeqGives Fence.wide 2 Tryz.prog 109 #[.pointer (some ⟨w.heap.size, 0, none⟩)] encStr (fun ss => ss.Perm (strKeys D0)) (Maps.size D0) (w.alloc (.cells #[.map (some b)] 72)) :=
    AnyZ.keys_gives (ρ := Tryz.keys65_ren) { Tryz.keys65 with } Fence.wide _ trivial rfl (by omega) w.heap.size b nn D0 _ (by simp) (by simp) (by
      obtain ⟨es, clock, hb, Ft, hs, hD⟩ := hown
      exact ⟨es, clock, (Below.heap_alloc _ _ b hbl).trans hb, Ft, hs, hD⟩)
  exact AnyZ.sorted_in Tryz.sorted64 Fence.wide 5 trivial trivial trivial trivial rfl (by omega) (Tryz.sorts64 _) (enters_of Tryz.func108 (by kernel_rfl) rfl) 109 #[.pointer (some ⟨w.heap.size, 0, none⟩)] trivial (enters_of Tryz.func109 (by kernel_rfl) rfl) _ _ hmax hbytes _ hseq

end Go.Proofs

namespace Go.Proofs.YtcjmplpfebpfpaaGreatDoor
open Go.RowKit Go.Proofs Go.Proofs.YtcjmplpfebpfpaaGreatDoorW.PrintWords Go.Proofs.YtcjmplpfebpfpaaGreatDoorW.PrintLast Go.Proofs.YtcjmplpfebpfpaaGreatDoorW.PrintMore PKindInstances
set_option linter.unusedVariables false
set_option linter.unusedSimpArgs false

def backB (l : List UInt8) : ByteArray := ⟨l.toArray⟩
theorem enc_back (l : List (List UInt8)) : l.map encStr = encs Value.string (l.map backB) := by
  simp [encs, backB, List.map_map, Function.comp_def, encStr]

end Go.Proofs.YtcjmplpfebpfpaaGreatDoor

namespace Go.Proofs.YtcjmplpfebpfpaaGreatDoor
open Go.RowKit Go.Proofs Go.Proofs.YtcjmplpfebpfpaaGreatDoorW.PrintWords Go.Proofs.YtcjmplpfebpfpaaGreatDoorW.PrintLast Go.Proofs.YtcjmplpfebpfpaaGreatDoorW.PrintMore PKindInstances
set_option linter.unusedVariables false
set_option linter.unusedSimpArgs false

mutual
/-- How wide a form is: its texts, its rows. -/
def wid : S24 → Nat
  | ⟨_, _, s, l⟩ => max (s.size + 1) (wids l)
def wids : List S24 → Nat
  | [] => 0
  | x :: l => max (l.length + 1) (max (wid x) (wids l))
end
theorem wids_len : ∀ l : List S24, l.length ≤ wids l
  | [] => by simp [wids]
  | x :: l => by simp only [wids, List.length_cons]; omega
theorem wid_kids (x : S24) : wids x.f3 ≤ wid x := by
  obtain ⟨a, b, s, l⟩ := x
  simp only [wid]
  omega

def isFunW (s : ByteArray) : Bool := s.toList == [102, 117, 110]

theorem Head_any (a b : Int) (s : ByteArray) {A : Option Addr} {l : List S24} (c : Nat) (w : World) (hr : Kd.C k24 w A l.length l) :
    Calls Tryz.prog 79 #[formV a b s A l.length c] w fun e w' => e = .returned (.string (headOf a l)) ∧ Below w.heap.size w w' := by
  by_cases ha : a = 3
  · subst ha
    have e1 : headOf 3 l = headL l := by simp [headOf]
    rw [e1]
    exact Head_three b s c w hr
  · have e1 : headOf a l = ⟨#[]⟩ := by simp [headOf, ha]
    rw [e1]
    exact Head_other ha b s A l.length c w

theorem typesL_mem {a : Int} {l : List S24} {bare : Bool} {x : S24} (h : x ∈ typesL a l bare) : x ∈ l := by
  unfold typesL at h
  split at h
  · split at h
    · exact h
    · split at h
      · exact List.mem_cons_of_mem _ h
      · exact h
  · exact absurd h List.not_mem_nil
theorem typesL_len (a : Int) (l : List S24) (bare : Bool) : (typesL a l bare).length ≤ l.length := by
  unfold typesL
  split
  · split
    · simp
    · split <;> simp
  · simp
theorem wid_mem : ∀ {l : List S24} {x : S24}, x ∈ l → wid x ≤ wids l
  | [], x, h => absurd h List.not_mem_nil
  | y :: l, x, h => by
    rcases List.mem_cons.1 h with h | h
    · rw [h]; simp only [wids]; omega
    · have := wid_mem h; simp only [wids]; omega

end Go.Proofs.YtcjmplpfebpfpaaGreatDoor

namespace Go.Proofs.YtcjmplpfebpfpaaGreatDoor
open Go.RowKit Go.Proofs Go.Proofs.YtcjmplpfebpfpaaGreatDoorW.PrintWords Go.Proofs.YtcjmplpfebpfpaaGreatDoorW.PrintLast Go.Proofs.YtcjmplpfebpfpaaGreatDoorW.PrintMore PKindInstances
set_option linter.unusedVariables false
set_option linter.unusedSimpArgs false

def digitsB : List UInt8 := [48, 49, 50, 51, 52, 53, 54, 55, 56, 57]
def cutMinus (s : ByteArray) : List UInt8 := Lib.trimPrefix s.data.toList [45]
/-- Whether a text is digits, or - and digits. -/
def numM (s : ByteArray) : Bool := !(cutMinus s == []) && (Lib.trimS (cutMinus s) digitsB == [])

theorem trim_any (s : ByteArray) (w : World) (hs : s.size ≤ 9223372036854775807) :
    Calls Tryz.prog 178 #[.string s, .string ⟨#[48, 49, 50, 51, 52, 53, 54, 55, 56, 57]⟩] w fun e w' => e = .returned (.string ⟨(Lib.trimS s.data.toList digitsB).toArray⟩) ∧ Below w.heap.size w w' :=
  Any.strings_Trim_laid Tryz.lays160 (by kernel_rfl) s _ w hs (by decide) (ascii_of_all (by decide))

theorem bytes_toList (l : List UInt8) : (ByteArray.mk l.toArray).toList = l := by rw [ByteArray.toList_eq]
set_option maxRecDepth 100000 in
theorem numeric_any (s : ByteArray) (w : World) (hs : s.size ≤ 1000) : Calls Tryz.prog 167 #[.string s] w fun e w' => e = .returned (.bool (numM s)) ∧ Below w.heap.size w w' := by
  obtain ⟨t, ht⟩ : ∃ t, t = cutMinus s := ⟨_, rfl⟩
  have hl : t.length ≤ 1000 := by
    rw [ht]
    have := Lib.trimPrefix_le s.data.toList [45]
    rw [Lib.size_eq] at hs
    unfold cutMinus
    omega
  have hsz : (ByteArray.mk t.toArray).size ≤ 9223372036854775807 := by
    rw [Lib.size_eq]; simp; omega
  have e0 : numM s = (!(t == []) && (Lib.trimS t digitsB == [])) := by rw [ht]; rfl
  rw [e0]
  have PT : Hid (∀ w, Calls Tryz.prog 177 #[.string s, .string ⟨#[45]⟩] w fun e w' => e = .returned (.string ⟨t.toArray⟩) ∧ w = w') := by
    intro w
    refine (Tryz.strings_TrimPrefix s ⟨#[45]⟩ w).mono ?_
    rintro e w' ⟨rfl, rfl⟩
    exact ⟨by rw [ht]; rfl, rfl⟩
  have q1 := bytes_toList t
  clear ht e0
  cases t with
  | nil =>
    go_enter Tryz.func167, Tryz.ntmps167
    go_wp2_with fail
    refine (PT.out _).mono ?_
    rintro e w1 ⟨rfl, rfl⟩
    go_wp2_with fail
    go_ret
    exact ⟨rfl, Below.refl _ _⟩
  | cons c t =>
    have q2 : ((ByteArray.mk (c :: t).toArray).toList == ([] : List UInt8)) = false := by rw [q1]; rfl
    obtain ⟨v, hv⟩ : ∃ v, v = Lib.trimS (c :: t) digitsB := ⟨_, rfl⟩
    have TT : Hid (∀ w, Calls Tryz.prog 178 #[.string ⟨(c :: t).toArray⟩, .string ⟨#[48, 49, 50, 51, 52, 53, 54, 55, 56, 57]⟩] w fun e w' => e = .returned (.string ⟨v.toArray⟩) ∧ Below w.heap.size w w') := by
      rw [hv]; exact fun w => trim_any _ w hsz
    rw [← hv]
    have q3 := bytes_toList v
    clear hv hsz
    generalize hB : ByteArray.mk (c :: t).toArray = B at *
    go_enter Tryz.func167, Tryz.ntmps167
    go_wp2_with fail
    refine (PT.out _).mono ?_
    rintro e w1 ⟨rfl, rfl⟩
    go_wp2_with fail
    refine (TT.out _).mono ?_
    rintro e w1 ⟨rfl, B1⟩
    go_wp2_with fail
    go_ret
    exact ⟨by simp [q3], B1⟩

/-- Whether a byte ends a word. -/
def outM (c : Int) : Bool := decide (c < 33) || (decide (126 < c) || decide (0 ≤ Lib.indexByte [40, 41, 34, 59] c.toNat.toUInt8))

set_option maxRecDepth 100000 in
theorem outside_any (c : Int) (w : World) : Calls Tryz.prog 168 #[.int .u8 c] w fun e w' => e = .returned (.bool (outM c)) ∧ Below w.heap.size w w' := by
  by_cases h1 : c < 33
  · have q1 : decide (c < 33) = true := decide_eq_true h1
    have e1 : outM c = true := by simp [outM, h1]
    rw [e1]
    clear h1 e1
    go_enter Tryz.func168, Tryz.ntmps168
    go_wp2_with fail
    go_ret
    exact ⟨rfl, Below.refl _ _⟩
  · have q1 : decide (c < 33) = false := decide_eq_false h1
    by_cases h2 : 126 < c
    · have q2 : decide (126 < c) = true := decide_eq_true h2
      have e1 : outM c = true := by simp [outM, h2]
      rw [e1]
      clear h1 h2 e1
      go_enter Tryz.func168, Tryz.ntmps168
      go_wp2_with fail
      go_ret
      exact ⟨rfl, Below.refl _ _⟩
    · have q2 : decide (126 < c) = false := decide_eq_false h2
      obtain ⟨v, hv⟩ : ∃ v, v = Lib.indexByte [40, 41, 34, 59] c.toNat.toUInt8 := ⟨_, rfl⟩
      have e1 : outM c = decide (0 ≤ v) := by simp only [outM, q1, q2, hv, Bool.false_or]
      have PT : Hid (∀ w, Calls Tryz.prog 179 #[.string ⟨#[40, 41, 34, 59]⟩, .int .u8 c] w fun e w' => e = .returned (.int .i64 v) ∧ w = w') := by
        intro w
        refine (Tryz.strings_IndexByte ⟨#[40, 41, 34, 59]⟩ c w).mono ?_
        rintro e w' ⟨rfl, rfl⟩
        exact ⟨by rw [hv], rfl⟩
      rw [e1]
      clear h1 h2 e1 hv
      go_enter Tryz.func168, Tryz.ntmps168
      go_wp2_with fail
      refine (PT.out _).mono ?_
      rintro e w1 ⟨rfl, rfl⟩
      go_wp2_with fail
      go_ret
      exact ⟨rfl, Below.refl _ _⟩

/-- A list's own fields. -/
theorem leaf_list (b : Int) (s : ByteArray) (A : Option Addr) (n c : Nat) (w : World) :
    Calls Tryz.prog 146 #[formV 3 b s A n c] w fun e w' => e = .returned (.bool ((s.toList == []) && (b == 0))) ∧ Below w.heap.size w w' := by
  have hu24 := Tryz.underlying24
  cases h : (s.toList == []) with
  | false =>
    go_enter Tryz.func146, Tryz.ntmps146
    go_wp2_with fail
    go_ret
    exact ⟨rfl, by (repeat (first | assumption | exact Below.refl _ _ | apply below_alloc | apply pw_below_drewN | apply below_drew1))⟩
  | true =>
    go_enter Tryz.func146, Tryz.ntmps146
    go_wp2_with fail
    go_ret
    exact ⟨rfl, by (repeat (first | assumption | exact Below.refl _ _ | apply below_alloc | apply pw_below_drewN | apply below_drew1))⟩

def bytesI (s : ByteArray) : List Int := s.data.toList.map fun b => (b.toNat : Int)
/-- Whether a text may be a word's. -/
def wordM (s : ByteArray) : Bool := (!(s.toList == []) && (decide (s.size ≤ 30) && !numM s)) && (bytesI s).all fun c => !outM c

/-- What holds of the loop over a word's bytes. -/
def LeafRel (w : World) (s : ByteArray) (T : Bool) (k : Nat) (x3 x4 : Value) (wr : World) : Prop :=
  ∃ (i : Nat) (g : Bool), x3 = .bool g ∧ x4 = .int .i64 (i : Int) ∧ k + i = s.size ∧ Below w.heap.size w wr ∧ (g && ((bytesI s).drop i).all fun c => !outM c) = T

set_option maxRecDepth 100000 in
set_option maxHeartbeats 2000000 in
/-- A word's own fields. -/
theorem leaf_word (b : Int) (s : ByteArray) (A : Option Addr) (n c : Nat) (w : World) (hs : s.size ≤ 30) (hne : (s.toList == []) = false) :
    Calls Tryz.prog 146 #[formV 1 b s A n c] w fun e w' => e = .returned (.bool (wordM s && (b == 0) && ((n : Int) == 0))) ∧ Below w.heap.size w w' := by
  have hu24 := Tryz.underlying24
  obtain ⟨T, hT⟩ : ∃ T, T = wordM s := ⟨_, rfl⟩
  rw [← hT]
  have hT2 : T = (!numM s && (bytesI s).all fun c => !outM c) := by
    rw [hT]; unfold wordM; rw [hne]; simp [hs]
  have hs2 : decide (s.size ≤ 30) = true := decide_eq_true hs
  obtain ⟨g, hg⟩ : ∃ g, g = numM s := ⟨_, rfl⟩
  have NA : Hid (∀ w, Calls Tryz.prog 167 #[.string s] w fun e w' => e = .returned (.bool g) ∧ Below w.heap.size w w') := by
    rw [hg]; exact fun w => numeric_any s w (by omega)
  rw [← hg] at hT2
  have start : Hid (∀ w : World, LeafRel w s T s.size (.bool (!g)) (.int .i64 ((0 : Nat) : Int)) w) := fun w => ⟨0, !g, rfl, rfl, rfl, Below.refl _ _, by rw [hT2]; rfl⟩
  clear hT hT2 hg
  go_enter Tryz.func146, Tryz.ntmps146
  go_wp2_with fail
  refine (NA.out _).mono ?_
  rintro e w1 ⟨rfl, B1⟩
  obtain ⟨q0, q1, q2, q3⟩ := box_at B1
  have B2 : Below w.heap.size w w1 := below_after (by (repeat (first | assumption | exact Below.refl _ _ | apply below_alloc | apply pw_below_drewN | apply below_drew1))) B1
  have BH : Hid _ := B2
  clear B1 B2
  go_wp2_with fail
  go_loopg [3, 4] s.size (fun k x3 x4 wr => LeafRel w1 s T k x3 x4 wr)
  case atStart => exact start.out w1
  case round =>
    clear start
    obtain ⟨i, g2, rfl, rfl, hki, B, hV⟩ := hrel
    have p0 := pw_cell_below B q0
    have p1 := pw_cell_below B q1
    have p2 := pw_cell_below B q2
    have p3 := pw_cell_below B q3
    by_cases hlt : i < s.size
    · obtain ⟨m, rfl⟩ : ∃ m, gk = m + 1 := ⟨gk - 1, by omega⟩
      have e1 : decide (i < s.size) = true := decide_eq_true hlt
      cases g2 with
      | false =>
        have hT : T = false := by rw [← hV]; rfl
        subst hT
        have B9 : Below w.heap.size w wr := below_after BH.out B
        clear hV
        go_wp2_with fail
        go_ret
        exact ⟨by simp, B9⟩
      | true =>
        have hd : (bytesI s).drop i = ((s[i]'hlt).toNat : Int) :: (bytesI s).drop (i + 1) := by
          have hl : i < (bytesI s).length := by simpa [bytesI] using hlt
          rw [List.drop_eq_getElem_cons hl]
          congr 1
          simp [bytesI]; rfl
        rw [hd] at hV
        have B9 : Hid _ := B
        clear B hd
        go_wp2_with fail
        refine (outside_any _ _).mono ?_
        rintro e w2 ⟨rfl, B2⟩
        obtain ⟨o, ho⟩ : ∃ o, o = outM ((s[i]'hlt).toNat : Int) := ⟨_, rfl⟩
        rw [← ho]
        have hV2 : ((!o) && ((bytesI s).drop (i + 1)).all fun c => !outM c) = T := by rw [← hV, ho]; simp
        have B3 : Below w1.heap.size w1 w2 := below_after B9.out B2
        replace p0 := pw_cell_below B2 p0
        replace p1 := pw_cell_below B2 p1
        replace p2 := pw_cell_below B2 p2
        replace p3 := pw_cell_below B2 p3
        have BH3 : Hid _ := B3
        clear hV ho B2 B3
        go_wp2_with fail
        go_roundg m
        case measure => omega
        case rel => exact ⟨i + 1, !o, rfl, by go_num, by omega, BH3.out, hV2⟩
    · have hge : decide (i < s.size) = false := decide_eq_false (by omega)
      have hge2 : s.size ≤ i := by omega
      have hnil : (bytesI s).drop i = [] := List.drop_eq_nil_of_le (by simpa [bytesI] using hge2)
      rw [hnil] at hV
      have hT : g2 = T := by rw [← hV]; simp
      subst hT
      have B9 : Below w.heap.size w wr := below_after BH.out B
      clear hnil hV hlt B
      cases g2 with
      | false =>
        go_wp2_with fail
        go_ret
        exact ⟨by simp, B9⟩
      | true =>
        cases hb : (b == 0) with
        | false =>
          go_wp2_with fail
          go_ret
          exact ⟨by rw [hb]; rfl, B9⟩
        | true =>
          cases hn : ((n : Int) == 0) with
          | false =>
            go_wp2_with fail
            go_ret
            exact ⟨by rw [hb, hn]; rfl, B9⟩
          | true =>
            go_wp2_with fail
            go_ret
            exact ⟨by rw [hb, hn]; rfl, B9⟩

end Go.Proofs.YtcjmplpfebpfpaaGreatDoor

namespace Go.Proofs.YtcjmplpfebpfpaaGreatDoor
open Go.RowKit Go.Proofs Go.Proofs.YtcjmplpfebpfpaaGreatDoorW.PrintWords Go.Proofs.YtcjmplpfebpfpaaGreatDoorW.PrintLast Go.Proofs.YtcjmplpfebpfpaaGreatDoorW.PrintMore PKindInstances
set_option linter.unusedVariables false
set_option linter.unusedSimpArgs false

def textM (s : ByteArray) : Bool := decide (s.size ≤ 2000) && (bytesI s).all fun c => c == 10 || (decide (32 ≤ c) && decide (c ≤ 126))
/-- Whether a form's own fields are as they must be. -/
def leafM (x : S24) : Bool :=
  if x.f0 = 0 then (x.f2.toList == []) && ((x.f3.length : Int) == 0) && (decide (-1152921504606846976 ≤ x.f1) && decide (x.f1 ≤ 1152921504606846976)) else
  if x.f0 = 1 then wordM x.f2 && (x.f1 == 0) && ((x.f3.length : Int) == 0) else
  if x.f0 = 2 then textM x.f2 && (x.f1 == 0) && ((x.f3.length : Int) == 0) else
  if x.f0 = 3 then (x.f2.toList == []) && (x.f1 == 0) else false
/-- What the call on a form's own fields does. -/
def LeafC (x : S24) : Prop :=
  ∀ (A : Option Addr) (c : Nat) (w : World), Calls Tryz.prog 146 #[formV x.f0 x.f1 x.f2 A x.f3.length c] w fun e w' => e = .returned (.bool (leafM x)) ∧ Below w.heap.size w w'

mutual
/-- Whether a form is valid, with so many parts and levels left; the parts left behind. -/
def validM : S24 → Int → Int → Bool × Int
  | ⟨a, b, s, l⟩, n, d => if decide (n - 1 < 0) || (d == 0) || !(leafM ⟨a, b, s, l⟩) then (false, n - 1) else validL l (n - 1) (d - 1)
def validL : List S24 → Int → Int → Bool × Int
  | [], n, _ => (true, n)
  | x :: l, n, d => if (validM x n d).1 then validL l (validM x n d).2 d else (false, (validM x n d).2)
end
mutual
def allC : S24 → Prop
  | ⟨a, b, s, l⟩ => LeafC ⟨a, b, s, l⟩ ∧ allCs l
def allCs : List S24 → Prop
  | [] => True
  | x :: l => allC x ∧ allCs l
end

def ValidOk (x : S24) : Prop :=
  ∀ (W0 : World) (A : Option Addr) (c : Nat) (w : World) (pb : Nat) (n d : Int), Kd.C k24 W0 A x.f3.length x.f3 → x.f3.length ≤ c → Below W0.heap.size W0 w → W0.heap.size ≤ pb →
    w.heap[pb]? = some (.cells #[.int .i64 n] 3 (0, 0)) → 0 ≤ n → n ≤ 20000 → 0 ≤ d → d ≤ 100 → allC x → wid x < 9000000 →
    Calls Tryz.prog 116 #[formV x.f0 x.f1 x.f2 A x.f3.length c, .pointer (some ⟨pb, 0, none⟩), .int .i64 d] w fun e w' => e = .returned (.bool (validM x n d).1) ∧
      w'.heap[pb]? = some (.cells #[.int .i64 (validM x n d).2] 3 (0, 0)) ∧ Below W0.heap.size W0 w'

mutual
theorem validM_bd : ∀ (x : S24) (n d : Int), 0 ≤ n → (validM x n d).1 = true → 0 ≤ (validM x n d).2 ∧ (validM x n d).2 ≤ n
  | ⟨a, b, s, l⟩, n, d, hn, h => by
    simp only [validM] at h ⊢
    split at h
    · cases h
    · rename_i hc
      rw [if_neg hc]
      have h1 : decide (n - 1 < 0) = false := by
        cases hh : decide (n - 1 < 0) with
        | false => rfl
        | true => simp [hh] at hc
      have h2 : ¬ (n - 1 < 0) := of_decide_eq_false h1
      have := validL_bd l (n - 1) (d - 1) (by omega) h
      omega
theorem validL_bd : ∀ (l : List S24) (n d : Int), 0 ≤ n → (validL l n d).1 = true → 0 ≤ (validL l n d).2 ∧ (validL l n d).2 ≤ n
  | [], n, d, hn, h => by simp only [validL]; omega
  | x :: l, n, d, hn, h => by
    simp only [validL] at h ⊢
    split at h
    · rename_i hc
      rw [if_pos hc]
      have h1 := validM_bd x n d hn hc
      have h2 := validL_bd l _ d h1.1 h
      omega
    · cases h
end

theorem allCs_mem : ∀ {l : List S24} {x : S24}, allCs l → x ∈ l → allC x
  | [], x, _, h => absurd h List.not_mem_nil
  | y :: l, x, hl, h => by
    simp only [allCs] at hl
    rcases List.mem_cons.1 h with h | h
    · rw [h]; exact hl.1
    · exact allCs_mem hl.2 h

/-- What holds of the loop. -/
def ValRel (W0 : World) (pb : Nat) (l : List S24) (d : Int) (R : Bool × Int) (k : Nat) (x30 : Value) (wr : World) : Prop :=
  ∃ (i : Nat) (m : Int), x30 = .int .i64 (i : Int) ∧ k + i = l.length ∧ wr.heap[pb]? = some (.cells #[.int .i64 m] 3 (0, 0)) ∧ 0 ≤ m ∧ m ≤ 20000 ∧ Below W0.heap.size W0 wr ∧ validL (l.drop i) m d = R

theorem cells_set {w : World} {pb : Nat} {n v : Value} (hp : w.heap[pb]? = some (.cells #[n] 3 (0, 0))) : (w.setCell ⟨pb, 0, none⟩ v).heap[pb]? = some (.cells #[v] 3 (0, 0)) := by
  have hlt : pb < w.heap.size := (Array.getElem?_eq_some_iff.1 hp).1
  exact heap_setCell_same w pb 0 #[n] 3 v hp

set_option maxRecDepth 100000 in
set_option maxHeartbeats 4000000 in
theorem valid_x (W0 : World) (a bb : Int) (s : ByteArray) (l : List S24) (A : Option Addr) (c : Nat) (w : World) (pb : Nat) (n d : Int) (hr : Kd.C k24 W0 A l.length l) (hc : l.length ≤ c) (hw : Below W0.heap.size W0 w) (hpb : W0.heap.size ≤ pb)
    (hp : w.heap[pb]? = some (.cells #[.int .i64 n] 3 (0, 0))) (hn0 : 0 ≤ n) (hn1 : n ≤ 20000) (hd0 : 0 ≤ d) (hd1 : d ≤ 100) (hleaf : LeafC ⟨a, bb, s, l⟩) (hq : ∀ x ∈ l, ValidOk x ∧ allC x ∧ wid x < 9000000) (hbig : l.length < 9000000) :
    Calls Tryz.prog 116 #[formV a bb s A l.length c, .pointer (some ⟨pb, 0, none⟩), .int .i64 d] w fun e w' => e = .returned (.bool (validM ⟨a, bb, s, l⟩ n d).1) ∧
      w'.heap[pb]? = some (.cells #[.int .i64 (validM ⟨a, bb, s, l⟩ n d).2] 3 (0, 0)) ∧ Below W0.heap.size W0 w' := by
  have hu24 := Tryz.underlying24
  have hcell0 : w.cell? ⟨pb, 0, none⟩ = some (.int .i64 n) := by simp [World.cell?, hp]
  have hcell := pw_cell_below (below_alloc (Below.refl _ _) (Obj.cells #[.int .i64 a, .int .i64 bb, .string s, .slice A l.length c] 24)) hcell0
  have hfz : w.frozen? ⟨pb, 0, none⟩ = false := by simp [World.frozen?, hp]
  have hlt : pb < w.heap.size := (Array.getElem?_eq_some_iff.1 hp).1
  have hX : ((w.setCell ⟨pb, 0, none⟩ (.int .i64 (n - 1))).alloc (Obj.cells #[.int .i64 a, .int .i64 bb, .string s, .slice A l.length c] 24)).heap[pb]? = some (.cells #[.int .i64 (n - 1)] 3 (0, 0)) := (Below.heap_alloc _ _ pb (Array.getElem?_eq_some_iff.1 (cells_set (v := .int .i64 (n - 1)) hp)).1).trans (cells_set hp)
  have BX : Below W0.heap.size W0 ((w.setCell ⟨pb, 0, none⟩ (.int .i64 (n - 1))).alloc (Obj.cells #[.int .i64 a, .int .i64 bb, .string s, .slice A l.length c] 24)) := below_alloc (hw.setCell hpb _) _
  have SZ : (w.setCell ⟨pb, 0, none⟩ (.int .i64 (n - 1))).heap.size = w.heap.size := by simp [World.setCell]
  have HX : Hid _ := hX
  have HB : Hid _ := BX
  have HR : Hid _ := hr
  have HL : Hid _ := hleaf
  have HQ : Hid _ := hq
  clear hX BX hr hleaf hq hw
  obtain ⟨R, hR⟩ : ∃ R, R = validM ⟨a, bb, s, l⟩ n d := ⟨_, rfl⟩
  rw [← hR]
  simp only [validM] at hR
  by_cases hn : n - 1 < 0
  · have b1 : decide (n - 1 < 0) = true := decide_eq_true hn
    rw [b1] at hR
    simp only [Bool.true_or, if_true] at hR
    subst hR
    clear hn
    go_enter Tryz.func116, Tryz.ntmps116
    go_wp2_with fail
    go_ret
    exact ⟨rfl, HX.out, HB.out⟩
  · have b1 : decide (n - 1 < 0) = false := decide_eq_false hn
    rw [b1] at hR
    by_cases hd : d = 0
    · have b2 : (d == 0) = true := beq_iff_eq.mpr hd
      rw [b2] at hR
      simp only [Bool.true_or, Bool.or_true, if_true] at hR
      subst hR
      subst hd
      clear hn
      go_enter Tryz.func116, Tryz.ntmps116
      go_wp2_with fail
      go_ret
      exact ⟨rfl, HX.out, HB.out⟩
    · have b2 : (d == 0) = false := beq_eq_false_iff_ne.mpr hd
      rw [b2] at hR
      clear hn
      cases hlf : leafM ⟨a, bb, s, l⟩ with
      | false =>
        rw [hlf] at hR
        simp only [Bool.false_or, Bool.not_false, if_true] at hR
        subst hR
        go_enter Tryz.func116, Tryz.ntmps116
        go_wp2_with fail
        refine (HL.out A c _).mono ?_
        rintro e w1 ⟨rfl, B1⟩
        rw [hlf]
        have h1 : w1.heap[pb]? = some (.cells #[.int .i64 (n - 1)] 3 (0, 0)) := (B1.block pb (Array.getElem?_eq_some_iff.1 HX.out).1).trans HX.out
        have B2 : Below W0.heap.size W0 w1 := HB.out.trans (B1.mono HB.out.size)
        have H1 : Hid _ := h1
        have H2 : Hid _ := B2
        clear h1 B2 B1
        go_wp2_with fail
        go_ret
        exact ⟨rfl, H1.out, H2.out⟩
      | true =>
        rw [hlf] at hR
        simp only [Bool.false_or, Bool.not_true, Bool.false_eq_true, if_false] at hR
        go_enter Tryz.func116, Tryz.ntmps116
        go_wp2_with fail
        refine (HL.out A c _).mono ?_
        rintro e w1 ⟨rfl, B1⟩
        rw [hlf]
        have h1 : w1.heap[pb]? = some (.cells #[.int .i64 (n - 1)] 3 (0, 0)) := (B1.block pb (Array.getElem?_eq_some_iff.1 HX.out).1).trans HX.out
        have B2 : Below W0.heap.size W0 w1 := HB.out.trans (B1.mono HB.out.size)
        obtain ⟨x0, x1, x2, x3⟩ := box_at B1
        rw [SZ] at x0 x1 x2 x3
        have hd1' : 1 ≤ d := by omega
        have start : Hid (ValRel W0 pb l (d - 1) R l.length (.int .i64 ((0 : Nat) : Int)) w1) := ⟨0, n - 1, rfl, rfl, h1, by have := of_decide_eq_false b1; omega, by omega, B2, hR.symm⟩
        clear h1 B2 B1 hR
        go_wp2_with fail
        go_loopg [30] l.length (fun k x30 wr => ValRel W0 pb l (d - 1) R k x30 wr)
        case atStart => exact start.out
        case round =>
          clear start
          obtain ⟨i, m, rfl, hki, hm, hm0, hm1, B, hV⟩ := hrel
          by_cases hli : i < l.length
          · obtain ⟨g, rfl⟩ : ∃ g, gk = g + 1 := ⟨gk - 1, by omega⟩
            have e1 : decide (i < l.length) = true := decide_eq_true hli
            obtain ⟨x, hx⟩ : ∃ x, l[i]? = some x := ⟨l[i], by simp [hli]⟩
            obtain ⟨ad, A3, c3, rfl, g0, g1, g2, g3, g4, g5⟩ := row_at HR.out hli hx
            replace g0 := pw_cell_below B g0
            replace g1 := pw_cell_below B g1
            replace g2 := pw_cell_below B g2
            replace g3 := pw_cell_below B g3
            obtain ⟨hok, hall, hsz⟩ := HQ.out x (List.mem_of_getElem? hx)
            have hdr : l.drop i = x :: l.drop (i + 1) := by
              rw [List.drop_eq_getElem_cons hli]; congr 1; simpa [hli] using hx
            rw [hdr] at hV
            simp only [validL] at hV
            have BH : Hid _ := B
            have G5 : Hid _ := g5
            have MH : Hid _ := hm
            have OK : Hid _ := hok W0 A3 c3 (wr.alloc (Obj.cells #[.int .i64 x.f0, .int .i64 x.f1, .string x.f2, .slice A3 x.f3.length c3] 24)) pb m (d - 1) g5 g4 (below_alloc B _) hpb ((Below.heap_alloc wr _ pb (Array.getElem?_eq_some_iff.1 hm).1).trans hm) hm0 hm1 (by omega) (by omega) hall hsz
            have BD : Hid _ := validM_bd x m (d - 1) hm0
            clear B g5 hok hall hsz hx hm hdr
            obtain ⟨x0', x1', x2', x3'⟩ := x
            obtain ⟨Q, hQ⟩ : ∃ Q, Q = validM ⟨x0', x1', x2', x3'⟩ m (d - 1) := ⟨_, rfl⟩
            rw [← hQ] at OK BD hV
            clear hQ
            obtain ⟨q, m2⟩ := Q
            cases q with
            | false =>
              simp only [Bool.false_eq_true, if_false] at hV
              subst hV
              go_wp2_with fail
              refine Calls.mono OK.out ?_
              rintro e w2 ⟨rfl, hm2, B2⟩
              have H1 : Hid _ := hm2
              have H2 : Hid _ := B2
              clear hm2 B2
              go_wp2_with fail
              go_ret
              exact ⟨rfl, H1.out, H2.out⟩
            | true =>
              simp only [if_true] at hV
              have hbd := BD.out rfl
              simp only [] at hbd
              go_wp2_with fail
              refine Calls.mono OK.out ?_
              rintro e w2 ⟨rfl, hm2, B2⟩
              have H1 : Hid _ := hm2
              have H2 : Hid _ := B2
              have HV : Hid _ := hV
              clear hm2 B2 hV
              go_wp2_with fail
              go_roundg g
              case measure => omega
              case rel => exact ⟨i + 1, m2, by go_num, by omega, H1.out, hbd.1, by omega, H2.out, HV.out⟩
          · have hnil : l.drop i = [] := List.drop_eq_nil_of_le (by omega)
            have hge : decide (i < l.length) = false := decide_eq_false (by omega)
            have hge2 : l.length ≤ i := by omega
            rw [hnil] at hV
            simp only [validL] at hV
            subst hV
            have H1 : Hid _ := hm
            have H2 : Hid _ := B
            clear hm B hnil hli
            go_wp2_with fail
            go_ret
            exact ⟨rfl, H1.out, H2.out⟩

mutual
theorem valid_ok : ∀ x : S24, ValidOk x
  | ⟨a, bb, s, l⟩ => by
    have hl := valid_oks l
    intro W0 A c w pb n d hr hc hw hpb hp hn0 hn1 hd0 hd1 hall hsz
    simp only [allC] at hall
    simp only [wid] at hsz
    have h1 := wids_len l
    exact valid_x W0 a bb s l A c w pb n d hr hc hw hpb hp hn0 hn1 hd0 hd1 hall.1 (fun x hx => ⟨hl x hx, allCs_mem hall.2 hx, by have := wid_mem hx; omega⟩) (by omega)
theorem valid_oks : ∀ (l : List S24), ∀ x ∈ l, ValidOk x
  | [], x, h => absurd h (List.not_mem_nil)
  | y :: l, x, h => by
    rcases List.mem_cons.1 h with h | h
    · rw [h]; exact valid_ok y
    · exact valid_oks l x h
end

def ValidM (x : S24) : Bool := (validM x 20000 100).1

set_option maxRecDepth 100000 in
theorem Valid_any (x : S24) (A : Option Addr) (c : Nat) (w : World) (hr : Kd.C k24 w A x.f3.length x.f3) (hc : x.f3.length ≤ c) (hall : allC x) (hn : wid x < 9000000) :
    Calls Tryz.prog 73 #[formV x.f0 x.f1 x.f2 A x.f3.length c] w fun e w' => e = .returned (.bool (ValidM x)) ∧ Below w.heap.size w w' := by
  have hu24 := Tryz.underlying24
  have hv := fun w1 hw hp => valid_ok x w A c w1 (w.heap.size + 1) 20000 100 hr hc hw (by omega) hp (by decide) (by decide) (by decide) (by decide) hall hn
  obtain ⟨a, bb, s, l⟩ := x
  obtain ⟨Q, hQ⟩ : ∃ Q, Q = validM ⟨a, bb, s, l⟩ 20000 100 := ⟨_, rfl⟩
  unfold ValidM
  rw [← hQ] at hv ⊢
  have B0 : Below w.heap.size w ((w.alloc (Obj.cells #[.int .i64 a, .int .i64 bb, .string s, .slice A l.length c] 24)).alloc (Obj.cells #[.int .i64 20000] 3)) := by (repeat (first | assumption | exact Below.refl _ _ | apply below_alloc | apply pw_below_drewN | apply below_drew1))
  have hp0 : ((w.alloc (Obj.cells #[.int .i64 a, .int .i64 bb, .string s, .slice A l.length c] 24)).alloc (Obj.cells #[.int .i64 20000] 3)).heap[w.heap.size + 1]? = some (Obj.cells #[.int .i64 20000] 3 (0, 0)) := by
    have h := (MapKept.heap_alloc (w.alloc (Obj.cells #[.int .i64 a, .int .i64 bb, .string s, .slice A l.length c] 24)) (Obj.cells #[.int .i64 20000] 3)).1
    rw [size_new] at h
    exact h
  have HV : Hid _ := hv _ B0 hp0
  clear hr hv hall hn hQ hp0
  go_enter Tryz.func73, Tryz.ntmps73
  go_wp2_with fail
  refine Calls.mono HV.out ?_
  rintro e w2 ⟨rfl, _, B2⟩
  have H2 : Hid _ := B2
  clear B2
  go_wp2_with fail
  go_ret
  exact ⟨rfl, H2.out⟩

end Go.Proofs.YtcjmplpfebpfpaaGreatDoor

namespace Go.Proofs.YtcjmplpfebpfpaaGreatDoor
open Go.RowKit Go.Proofs Go.Proofs.YtcjmplpfebpfpaaGreatDoorW.PrintWords Go.Proofs.YtcjmplpfebpfpaaGreatDoorW.PrintLast Go.Proofs.YtcjmplpfebpfpaaGreatDoorW.PrintMore PKindInstances
set_option linter.unusedVariables false
set_option linter.unusedSimpArgs false

def cmpStr (a b : ByteArray) : Int := if Op.bytesLess a.toList b.toList then -1 else if !(Op.bytesLess a.toList b.toList || a.toList == b.toList) then 1 else 0
mutual
/-- How two forms compare. -/
def cmpM : S24 → S24 → Int
  | ⟨a, n, s, l⟩, y =>
    if a ≠ y.f0 then Lib.compareInt a y.f0 else
    if a = 0 then Lib.compareInt n y.f1 else
    if a = 1 ∨ a = 2 then cmpStr s y.f2 else
    if a = 3 then cmpL l y.f3 else 0
def cmpL : List S24 → List S24 → Int
  | [], m => if 0 < m.length then -1 else 0
  | _ :: _, [] => 1
  | x :: l, y :: m => if cmpM x y ≠ 0 then cmpM x y else cmpL l m
end

theorem isNaN_any (a : ByteArray) (w : World) : Calls Tryz.prog 90 #[.string a] w fun e w' => e = .returned (.bool false) ∧ w = w' := by
  go_enter Tryz.func90, Tryz.ntmps90
  go_wp2
  go_ret
  exact ⟨by simp, rfl⟩

theorem cmpStr_any (a b : ByteArray) (w : World) : Calls Tryz.prog 47 #[.string a, .string b] w fun e w' => e = .returned (.int .i64 (cmpStr a b)) ∧ w = w' := by
  unfold cmpStr
  generalize hA : a.toList = A
  generalize hB : b.toList = B
  cases h1 : Op.bytesLess A B with
  | true =>
    rw [if_pos rfl]
    go_enter Tryz.func47, Tryz.ntmps47
    go_wp2_with (first | (go_at_call 90; refine (isNaN_any _ _).mono ?_; rintro e w' ⟨rfl, rfl⟩))
    go_ret
    exact ⟨rfl, rfl⟩
  | false =>
    rw [if_neg (by simp)]
    cases h2 : (A == B) with
    | true =>
      rw [if_neg (by simp)]
      go_enter Tryz.func47, Tryz.ntmps47
      go_wp2_with (first | (go_at_call 90; refine (isNaN_any _ _).mono ?_; rintro e w' ⟨rfl, rfl⟩))
      go_ret
      exact ⟨rfl, rfl⟩
    | false =>
      rw [if_pos (by simp)]
      go_enter Tryz.func47, Tryz.ntmps47
      go_wp2_with (first | (go_at_call 90; refine (isNaN_any _ _).mono ?_; rintro e w' ⟨rfl, rfl⟩))
      go_ret
      exact ⟨rfl, rfl⟩

theorem cmpInt_any (x y : Int) (w : World) : Calls Tryz.prog 154 #[.int .i64 x, .int .i64 y] w fun e w' => e = .returned (.int .i64 (Lib.compareInt x y)) ∧ w = w' := by
  refine (Tryz.cmp_Compare_int x y w).mono ?_
  rintro e w' ⟨rfl, rfl⟩
  exact ⟨rfl, rfl⟩

/-- What the call does on one form and whatever other. -/
def CmpOk (x : S24) : Prop :=
  ∀ (y : S24) (A B : Option Addr) (c d : Nat) (w : World), Kd.C k24 w A x.f3.length x.f3 → x.f3.length ≤ c → Kd.C k24 w B y.f3.length y.f3 → y.f3.length ≤ d → wid x < 9000000 → wid y < 9000000 →
    Calls Tryz.prog 137 #[formV x.f0 x.f1 x.f2 A x.f3.length c, formV y.f0 y.f1 y.f2 B y.f3.length d] w fun e w' => e = .returned (.int .i64 (cmpM x y)) ∧ Below w.heap.size w w'

/-- What holds of the loop. -/
def CmpRel (W0 : World) (l m : List S24) (R : Int) (k : Nat) (x13 : Value) (wr : World) : Prop :=
  ∃ (i : Nat), x13 = .int .i64 (i : Int) ∧ k + i = l.length ∧ i ≤ m.length ∧ Below W0.heap.size W0 wr ∧ cmpL (l.drop i) (m.drop i) = R

theorem drop_at' {l : List S24} {i : Nat} {x : S24} (hx : l[i]? = some x) : l.drop i = x :: l.drop (i + 1) := by
  obtain ⟨h, e⟩ := List.getElem?_eq_some_iff.1 hx
  rw [List.drop_eq_getElem_cons h, e]

set_option maxRecDepth 100000 in
set_option maxHeartbeats 4000000 in
theorem compareFunc_any (l m : List S24) (A B : Option Addr) (c d : Nat) (w : World) (hr : Kd.C k24 w A l.length l) (hc : l.length ≤ c) (hs : Kd.C k24 w B m.length m) (hd : m.length ≤ d) (hn : wids l < 9000000) (hm : wids m < 9000000)
    (hq : ∀ x ∈ l, CmpOk x) :
    Calls Tryz.prog 155 #[.slice A l.length c, .slice B m.length d, .func (.func 137) #[] #[]] w fun e w' => e = .returned (.int .i64 (cmpL l m)) ∧ Below w.heap.size w w' := by
  have hu24 := Tryz.underlying24
  have h1 := wids_len l
  have h2 := wids_len m
  obtain ⟨R, hR⟩ : ∃ R, R = cmpL l m := ⟨_, rfl⟩
  rw [← hR]
  have start : Hid (CmpRel w l m R l.length (.int .i64 ((0 : Nat) : Int)) w) := ⟨0, rfl, rfl, Nat.zero_le _, Below.refl _ _, hR.symm⟩
  have HR : Hid _ := hr
  have HS : Hid _ := hs
  have HQ : Hid _ := hq
  have HN : Hid (∀ x ∈ l, wid x < 9000000) := fun x hx => by have := wid_mem hx; omega
  have HM : Hid (∀ x ∈ m, wid x < 9000000) := fun x hx => by have := wid_mem hx; omega
  clear hr hs hq hR
  go_enter Tryz.func155, Tryz.ntmps155
  go_wp2_with fail
  go_loopg [13] l.length (fun k x13 wr => CmpRel w l m R k x13 wr)
  case atStart => exact start.out
  case round =>
    clear start
    obtain ⟨i, rfl, hki, him, Bl, hV⟩ := hrel
    by_cases hlt : i < l.length
    · obtain ⟨g, rfl⟩ : ∃ g, gk = g + 1 := ⟨gk - 1, by omega⟩
      have e1 : decide (i < l.length) = true := decide_eq_true hlt
      obtain ⟨x, hx⟩ : ∃ x, l[i]? = some x := ⟨l[i], by simp [hlt]⟩
      obtain ⟨ad, A3, c3, rfl, g0, g1, g2, g3, g4, g5⟩ := row_at (Kd.C_below HR.out Bl) hlt hx
      rw [drop_at' hx] at hV
      by_cases hlm : i < m.length
      · have e2 : decide (m.length ≤ i) = false := decide_eq_false (by omega)
        obtain ⟨y, hy⟩ : ∃ y, m[i]? = some y := ⟨m[i], by simp [hlm]⟩
        have bal : Below wr.heap.size wr (wr.alloc (Obj.cells #[.int .i64 x.f0, .int .i64 x.f1, .string x.f2, .slice A3 x.f3.length c3] 24)) := below_alloc (Below.refl _ _) _
        obtain ⟨ad', A4, c4, rfl, k0, k1, k2, k3, k4, k5⟩ := row_at (Kd.C_below (Kd.C_below HS.out Bl) bal) hlm hy
        rw [drop_at' hy] at hV
        simp only [cmpL] at hV
        have BL : Hid _ := Bl
        have OK : Hid _ := HQ.out x (List.mem_of_getElem? hx) y A3 A4 c3 c4 ((wr.alloc (Obj.cells #[.int .i64 x.f0, .int .i64 x.f1, .string x.f2, .slice A3 x.f3.length c3] 24)).alloc (Obj.cells #[.int .i64 y.f0, .int .i64 y.f1, .string y.f2, .slice A4 y.f3.length c4] 24)) (Kd.C_alloc (Kd.C_alloc g5 _) _) g4 (Kd.C_alloc k5 _) k4 (HN.out x (List.mem_of_getElem? hx)) (HM.out y (List.mem_of_getElem? hy))
        clear Bl g5 k5 hx hy bal
        obtain ⟨x0, x1, x2, x3⟩ := x
        obtain ⟨y0, y1, y2, y3⟩ := y
        obtain ⟨q, hq⟩ : ∃ q, q = cmpM ⟨x0, x1, x2, x3⟩ ⟨y0, y1, y2, y3⟩ := ⟨_, rfl⟩
        rw [← hq] at OK hV
        clear hq
        by_cases hz : q = 0
        · subst hz
          simp only [ne_eq, not_true_eq_false, if_false] at hV
          have HV : Hid _ := hV
          clear hV
          go_wp2_with fail
          refine Calls.mono OK.out ?_
          rintro e w2 ⟨rfl, B2⟩
          have B3 : Below w.heap.size w w2 := (below_alloc (below_alloc BL.out _) _).trans (B2.mono (below_size (below_alloc (below_alloc BL.out _) _)))
          have BH3 : Hid _ := B3
          clear B2 B3
          go_wp2_with fail
          go_roundg g
          case measure => omega
          case rel => exact ⟨i + 1, by go_num, by omega, by omega, BH3.out, HV.out⟩
        · have qz : (q == 0) = false := beq_eq_false_iff_ne.mpr hz
          have qn : (q != 0) = true := bne_iff_ne.mpr hz
          rw [if_pos hz] at hV
          subst hV
          clear hz
          go_wp2_with fail
          refine Calls.mono OK.out ?_
          rintro e w2 ⟨rfl, B2⟩
          have B3 : Below w.heap.size w w2 := (below_alloc (below_alloc BL.out _) _).trans (B2.mono (below_size (below_alloc (below_alloc BL.out _) _)))
          have BH3 : Hid _ := B3
          clear B2 B3
          go_wp2_with fail
          go_ret
          exact ⟨rfl, BH3.out⟩
      · have e2 : decide (m.length ≤ i) = true := decide_eq_true (by omega)
        have e3 : m.drop i = [] := List.drop_eq_nil_of_le (by omega)
        rw [e3] at hV
        simp only [cmpL] at hV
        subst hV
        have BL : Hid _ := below_alloc Bl (Obj.cells #[.int .i64 x.f0, .int .i64 x.f1, .string x.f2, .slice A3 x.f3.length c3] 24)
        clear Bl g5 hx e3
        obtain ⟨x0, x1, x2, x3⟩ := x
        have hge3 : m.length ≤ i := by omega
        go_wp2_with fail
        go_ret
        exact ⟨rfl, BL.out⟩
    · have e1 : decide (i < l.length) = false := decide_eq_false hlt
      have e3 : l.drop i = [] := List.drop_eq_nil_of_le (by omega)
      rw [e3] at hV
      have hil : i = l.length := by omega
      have BL : Hid _ := Bl
      clear e3 Bl
      by_cases hlm : l.length < m.length
      · have e2 : decide (l.length < m.length) = true := decide_eq_true hlm
        have e4 : (m.drop i).length = m.length - i := List.length_drop
        simp only [cmpL] at hV
        rw [if_pos (by omega)] at hV
        subst hV
        clear e4
        go_wp2_with fail
        go_ret
        exact ⟨rfl, BL.out⟩
      · have e2 : decide (l.length < m.length) = false := decide_eq_false hlm
        have e4 : (m.drop i).length = m.length - i := List.length_drop
        simp only [cmpL] at hV
        rw [if_neg (by omega)] at hV
        subst hV
        clear e4
        go_wp2_with fail
        go_ret
        exact ⟨rfl, BL.out⟩

set_option maxRecDepth 100000 in
set_option maxHeartbeats 4000000 in
theorem compare_x (a n : Int) (s : ByteArray) (l : List S24) (y0 y1 : Int) (y2 : ByteArray) (y3 : List S24) (A B : Option Addr) (c d : Nat) (w : World) (hr : Kd.C k24 w A l.length l) (hc : l.length ≤ c) (hs : Kd.C k24 w B y3.length y3) (hd : y3.length ≤ d)
    (hn : wids l < 9000000) (hm : wids y3 < 9000000) (hq : ∀ x ∈ l, CmpOk x) :
    Calls Tryz.prog 137 #[formV a n s A l.length c, formV y0 y1 y2 B y3.length d] w fun e w' => e = .returned (.int .i64 (cmpM ⟨a, n, s, l⟩ ⟨y0, y1, y2, y3⟩)) ∧ Below w.heap.size w w' := by
  have hu24 := Tryz.underlying24
  have HC : Hid _ := compareFunc_any l y3 A B c d ((w.alloc (Obj.cells #[.int .i64 a, .int .i64 n, .string s, .slice A l.length c] 24)).alloc (Obj.cells #[.int .i64 y0, .int .i64 y1, .string y2, .slice B y3.length d] 24)) (Kd.C_alloc (Kd.C_alloc hr _) _) hc (Kd.C_alloc (Kd.C_alloc hs _) _) hd hn hm hq
  clear hr hs hq
  by_cases h0 : a = y0
  · have b0 : (a != y0) = false := bne_eq_false_iff_eq.mpr h0
    subst h0
    by_cases h1 : a = 0
    · have e1 : cmpM ⟨a, n, s, l⟩ ⟨a, y1, y2, y3⟩ = Lib.compareInt n y1 := by simp [cmpM, h1]
      rw [e1]
      subst h1
      clear e1 HC
      go_enter Tryz.func137, Tryz.ntmps137
      go_wp2_with fail
      refine (cmpInt_any _ _ _).mono ?_
      rintro e w2 ⟨rfl, rfl⟩
      go_wp2_with fail
      go_ret
      exact ⟨rfl, by (repeat (first | assumption | exact Below.refl _ _ | apply below_alloc | apply pw_below_drewN | apply below_drew1))⟩
    · have b1 : (a == 0) = false := beq_eq_false_iff_ne.mpr h1
      by_cases h2 : a = 1
      · have e1 : cmpM ⟨a, n, s, l⟩ ⟨a, y1, y2, y3⟩ = cmpStr s y2 := by simp [cmpM, h2]
        rw [e1]
        subst h2
        clear e1 HC h1
        go_enter Tryz.func137, Tryz.ntmps137
        go_wp2_with fail
        refine (cmpStr_any _ _ _).mono ?_
        rintro e w2 ⟨rfl, rfl⟩
        go_wp2_with fail
        go_ret
        exact ⟨rfl, by (repeat (first | assumption | exact Below.refl _ _ | apply below_alloc | apply pw_below_drewN | apply below_drew1))⟩
      · have b2 : (a == 1) = false := beq_eq_false_iff_ne.mpr h2
        by_cases h3 : a = 2
        · have e1 : cmpM ⟨a, n, s, l⟩ ⟨a, y1, y2, y3⟩ = cmpStr s y2 := by simp [cmpM, h3]
          rw [e1]
          subst h3
          clear e1 HC h1 h2
          go_enter Tryz.func137, Tryz.ntmps137
          go_wp2_with fail
          refine (cmpStr_any _ _ _).mono ?_
          rintro e w2 ⟨rfl, rfl⟩
          go_wp2_with fail
          go_ret
          exact ⟨rfl, by (repeat (first | assumption | exact Below.refl _ _ | apply below_alloc | apply pw_below_drewN | apply below_drew1))⟩
        · have b3 : (a == 2) = false := beq_eq_false_iff_ne.mpr h3
          by_cases h4 : a = 3
          · have e1 : cmpM ⟨a, n, s, l⟩ ⟨a, y1, y2, y3⟩ = cmpL l y3 := by simp [cmpM, h4]
            rw [e1]
            subst h4
            clear e1 h1 h2 h3
            go_enter Tryz.func137, Tryz.ntmps137
            go_wp2_with fail
            refine Calls.mono HC.out ?_
            rintro e w2 ⟨rfl, B2⟩
            have B3 : Below w.heap.size w w2 := below_after (by (repeat (first | assumption | exact Below.refl _ _ | apply below_alloc | apply pw_below_drewN | apply below_drew1))) B2
            clear B2
            go_wp2_with fail
            go_ret
            exact ⟨rfl, B3⟩
          · have b4 : (a == 3) = false := beq_eq_false_iff_ne.mpr h4
            have e1 : cmpM ⟨a, n, s, l⟩ ⟨a, y1, y2, y3⟩ = 0 := by simp [cmpM, h1, h2, h3, h4]
            rw [e1]
            clear e1 HC h1 h2 h3 h4
            go_enter Tryz.func137, Tryz.ntmps137
            go_wp2_with fail
            go_ret
            exact ⟨rfl, by (repeat (first | assumption | exact Below.refl _ _ | apply below_alloc | apply pw_below_drewN | apply below_drew1))⟩
  · have b0 : (a != y0) = true := bne_iff_ne.mpr h0
    have e1 : cmpM ⟨a, n, s, l⟩ ⟨y0, y1, y2, y3⟩ = Lib.compareInt a y0 := by simp [cmpM, h0]
    rw [e1]
    clear e1 HC h0
    go_enter Tryz.func137, Tryz.ntmps137
    go_wp2_with fail
    refine (cmpInt_any _ _ _).mono ?_
    rintro e w2 ⟨rfl, rfl⟩
    go_wp2_with fail
    go_ret
    exact ⟨rfl, by (repeat (first | assumption | exact Below.refl _ _ | apply below_alloc | apply pw_below_drewN | apply below_drew1))⟩

mutual
theorem cmp_ok : ∀ x : S24, CmpOk x
  | ⟨a, n, s, l⟩ => by
    have hl := cmp_oks l
    intro y A B c d w hr hc hs hd hx hy
    obtain ⟨y0, y1, y2, y3⟩ := y
    simp only [wid] at hx hy
    exact compare_x a n s l y0 y1 y2 y3 A B c d w hr hc hs hd (by omega) (by omega) hl
theorem cmp_oks : ∀ (l : List S24), ∀ x ∈ l, CmpOk x
  | [], x, h => absurd h (List.not_mem_nil)
  | y :: l, x, h => by
    rcases List.mem_cons.1 h with h | h
    · rw [h]; exact cmp_ok y
    · exact cmp_oks l x h
end

def eqM (x y : S24) : Bool := cmpM x y == 0

set_option maxRecDepth 100000 in
theorem Equal_any (x y : S24) (A B : Option Addr) (c d : Nat) (w : World) (hr : Kd.C k24 w A x.f3.length x.f3) (hc : x.f3.length ≤ c) (hs : Kd.C k24 w B y.f3.length y.f3) (hd : y.f3.length ≤ d) (hx : wid x < 9000000) (hy : wid y < 9000000) :
    Calls Tryz.prog 96 #[formV x.f0 x.f1 x.f2 A x.f3.length c, formV y.f0 y.f1 y.f2 B y.f3.length d] w fun e w' => e = .returned (.bool (eqM x y)) ∧ Below w.heap.size w w' := by
  have hu24 := Tryz.underlying24
  have HC := fun w1 h1 h2 => cmp_ok x y A B c d w1 h1 hc h2 hd hx hy
  obtain ⟨a, n, s, l⟩ := x
  obtain ⟨y0, y1, y2, y3⟩ := y
  have HC : Hid _ := HC ((w.alloc (Obj.cells #[.int .i64 a, .int .i64 n, .string s, .slice A l.length c] 24)).alloc (Obj.cells #[.int .i64 y0, .int .i64 y1, .string y2, .slice B y3.length d] 24)) (Kd.C_alloc (Kd.C_alloc hr _) _) (Kd.C_alloc (Kd.C_alloc hs _) _)
  obtain ⟨q, hq⟩ : ∃ q, q = cmpM ⟨a, n, s, l⟩ ⟨y0, y1, y2, y3⟩ := ⟨_, rfl⟩
  unfold eqM
  rw [← hq] at HC ⊢
  clear hr hs hq hx hy
  go_enter Tryz.func96, Tryz.ntmps96
  go_wp2_with fail
  refine Calls.mono HC.out ?_
  rintro e w2 ⟨rfl, B2⟩
  have B3 : Below w.heap.size w w2 := below_after (by (repeat (first | assumption | exact Below.refl _ _ | apply below_alloc | apply pw_below_drewN | apply below_drew1))) B2
  clear B2
  go_wp2_with fail
  go_ret
  exact ⟨rfl, B3⟩

end Go.Proofs.YtcjmplpfebpfpaaGreatDoor

namespace Go.Proofs.YtcjmplpfebpfpaaGreatDoor
open Go.RowKit Go.Proofs Go.Proofs.YtcjmplpfebpfpaaGreatDoorW.PrintWords Go.Proofs.YtcjmplpfebpfpaaGreatDoorW.PrintLast Go.Proofs.YtcjmplpfebpfpaaGreatDoorW.PrintMore PKindInstances
set_option linter.unusedVariables false
set_option linter.unusedSimpArgs false

def isNameM (s : ByteArray) : Bool := !resM s && ValidM ⟨1, 0, s, []⟩

set_option maxRecDepth 100000 in
theorem isName_any (s : ByteArray) (w : World) (hl : LeafC ⟨1, 0, s, []⟩) (hs : s.size < 8000000) : Calls Tryz.prog 91 #[.string s] w fun e w' => e = .returned (.bool (isNameM s)) ∧ Below w.heap.size w w' := by
  have hu24 := Tryz.underlying24
  have HV : Hid _ := fun w1 => Valid_any ⟨1, 0, s, []⟩ none 0 w1 (Kd.C_nil _ _) (Nat.le_refl _) ⟨hl, trivial⟩ (by simp [wid, wids]; omega)
  unfold isNameM
  cases hr : resM s with
  | true =>
    go_enter Tryz.func91, Tryz.ntmps91
    go_wp2_with fail
    refine (reserved_any _ _).mono ?_
    rintro e w1 ⟨rfl, B1⟩
    rw [hr]
    go_wp2_with fail
    go_ret
    exact ⟨rfl, B1⟩
  | false =>
    obtain ⟨v, hv⟩ : ∃ v, v = ValidM ⟨1, 0, s, []⟩ := ⟨_, rfl⟩
    rw [← hv] at HV ⊢
    clear hv
    go_enter Tryz.func91, Tryz.ntmps91
    go_wp2_with fail
    refine (reserved_any _ _).mono ?_
    rintro e w1 ⟨rfl, B1⟩
    rw [hr]
    go_wp2_with fail
    refine Calls.mono (HV.out _) ?_
    rintro e w2 ⟨rfl, B2⟩
    have B3 := below_after B1 B2
    clear B1 B2
    go_wp2_with fail
    go_ret
    exact ⟨rfl, B3⟩

set_option maxRecDepth 100000 in
theorem notValid_any (x : S24) (A : Option Addr) (c : Nat) (w : World) (hr : Kd.C k24 w A x.f3.length x.f3) (hc : x.f3.length ≤ c) (hall : allC x) (hn : wid x < 9000000) :
    Calls Tryz.prog 93 #[formV x.f0 x.f1 x.f2 A x.f3.length c] w fun e w' => e = .returned (.bool (!ValidM x)) ∧ Below w.heap.size w w' := by
  have hu24 := Tryz.underlying24
  have HV := fun w1 h1 => Valid_any x A c w1 h1 hc hall hn
  obtain ⟨a, n, s, l⟩ := x
  have HV : Hid _ := HV (w.alloc (Obj.cells #[.int .i64 a, .int .i64 n, .string s, .slice A l.length c] 24)) (Kd.C_alloc hr _)
  obtain ⟨v, hv⟩ : ∃ v, v = ValidM ⟨a, n, s, l⟩ := ⟨_, rfl⟩
  rw [← hv] at HV ⊢
  clear hv hr hall hn
  go_enter Tryz.func93, Tryz.ntmps93
  go_wp2_with fail
  refine Calls.mono HV.out ?_
  rintro e w2 ⟨rfl, B2⟩
  have B3 : Below w.heap.size w w2 := below_after (by (repeat (first | assumption | exact Below.refl _ _ | apply below_alloc | apply pw_below_drewN | apply below_drew1))) B2
  clear B2
  go_wp2_with fail
  go_ret
  exact ⟨rfl, B3⟩

/-- What holds of the loop. -/
def IdxRel (W0 : World) (l : List S24) (R : Bool) (k : Nat) (x8 : Value) (wr : World) : Prop :=
  ∃ (i : Nat), x8 = .int .i64 (i : Int) ∧ k + i = l.length ∧ Below W0.heap.size W0 wr ∧ (l.drop i).any (fun x => !ValidM x) = R

theorem drop_at2 {l : List S24} {i : Nat} {x : S24} (hx : l[i]? = some x) : l.drop i = x :: l.drop (i + 1) := by
  obtain ⟨h, e⟩ := List.getElem?_eq_some_iff.1 hx
  rw [List.drop_eq_getElem_cons h, e]

set_option maxRecDepth 100000 in
set_option maxHeartbeats 4000000 in
theorem indexBad_any (l : List S24) (A : Option Addr) (c : Nat) (w : World) (hr : Kd.C k24 w A l.length l) (hc : l.length ≤ c) (hn : l.length < 9000000) (hq : ∀ x ∈ l, allC x ∧ wid x < 9000000) :
    Calls Tryz.prog 135 #[.slice A l.length c, .func (.func 93) #[] #[]] w fun e w' => ∃ r, e = .returned (.int .i64 r) ∧ decide (0 ≤ r) = l.any (fun x => !ValidM x) ∧ Below w.heap.size w w' := by
  have hu24 := Tryz.underlying24
  obtain ⟨R, hR⟩ : ∃ R, R = l.any (fun x => !ValidM x) := ⟨_, rfl⟩
  rw [← hR]
  have start : Hid (IdxRel w l R l.length (.int .i64 ((0 : Nat) : Int)) w) := ⟨0, rfl, rfl, Below.refl _ _, hR.symm⟩
  have HR : Hid _ := hr
  have HQ : Hid _ := hq
  clear hr hq hR
  go_enter Tryz.func135, Tryz.ntmps135
  go_wp2_with fail
  go_loopg [8] l.length (fun k x8 wr => IdxRel w l R k x8 wr)
  case atStart => exact start.out
  case round =>
    clear start
    obtain ⟨i, rfl, hki, Bl, hV⟩ := hrel
    by_cases hlt : i < l.length
    · obtain ⟨g, rfl⟩ : ∃ g, gk = g + 1 := ⟨gk - 1, by omega⟩
      have e1 : decide (i < l.length) = true := decide_eq_true hlt
      obtain ⟨x, hx⟩ : ∃ x, l[i]? = some x := ⟨l[i], by simp [hlt]⟩
      obtain ⟨ad, A3, c3, rfl, g0, g1, g2, g3, g4, g5⟩ := row_at (Kd.C_below HR.out Bl) hlt hx
      rw [drop_at2 hx, List.any_cons] at hV
      have OK : Hid _ := notValid_any x A3 c3 wr g5 g4 (HQ.out x (List.mem_of_getElem? hx)).1 (HQ.out x (List.mem_of_getElem? hx)).2
      have BL : Hid _ := Bl
      clear Bl g5 hx
      obtain ⟨x0, x1, x2, x3⟩ := x
      cases hv : ValidM ⟨x0, x1, x2, x3⟩ with
      | true =>
        rw [hv] at OK hV
        have HV : Hid _ := hV
        clear hV hv
        go_wp2_with fail
        refine Calls.mono OK.out ?_
        rintro e w2 ⟨rfl, B2⟩
        have B3 : Hid _ := below_after BL.out B2
        clear B2
        go_wp2_with fail
        go_roundg g
        case measure => omega
        case rel => exact ⟨i + 1, by go_num, by omega, B3.out, by simpa using HV.out⟩
      | false =>
        rw [hv] at OK hV
        have HV : Hid _ := hV
        clear hV hv
        go_wp2_with fail
        refine Calls.mono OK.out ?_
        rintro e w2 ⟨rfl, B2⟩
        have B3 : Hid _ := below_after BL.out B2
        clear B2
        go_wp2_with fail
        go_ret
        exact ⟨_, rfl, by have h := HV.out; simp at h; rw [h]; exact decide_eq_true (Int.natCast_nonneg i), B3.out⟩
    · have e1 : decide (i < l.length) = false := decide_eq_false hlt
      have hge2 : l.length ≤ i := by omega
      have e3 : l.drop i = [] := List.drop_eq_nil_of_le (by omega)
      rw [e3] at hV
      have HV : Hid _ := hV
      have BL : Hid _ := Bl
      clear e3 Bl hV
      go_wp2_with fail
      go_ret
      exact ⟨_, rfl, by rw [← HV.out]; rfl, BL.out⟩

theorem anyBad_any (l : List S24) (A : Option Addr) (c : Nat) (w : World) (hr : Kd.C k24 w A l.length l) (hc : l.length ≤ c) (hn : l.length < 9000000) (hq : ∀ x ∈ l, allC x ∧ wid x < 9000000) :
    Calls Tryz.prog 92 #[.slice A l.length c, .func (.func 93) #[] #[]] w fun e w' => e = .returned (.bool (l.any (fun x => !ValidM x))) ∧ Below w.heap.size w w' := by
  have HI : Hid _ := indexBad_any l A c w hr hc hn hq
  obtain ⟨R, hR⟩ : ∃ R, R = l.any (fun x => !ValidM x) := ⟨_, rfl⟩
  rw [← hR] at HI ⊢
  clear hr hq hR
  go_enter Tryz.func92, Tryz.ntmps92
  go_wp2_with fail
  refine Calls.mono HI.out ?_
  rintro e w2 ⟨r, rfl, hr, B2⟩
  go_wp2_with fail
  go_ret
  exact ⟨by rw [← hr]; rfl, B2⟩

end Go.Proofs.YtcjmplpfebpfpaaGreatDoor

namespace Go.Proofs.YtcjmplpfebpfpaaGreatDoor
open Go.RowKit Go.Proofs Go.Proofs.YtcjmplpfebpfpaaGreatDoorW.PrintWords Go.Proofs.YtcjmplpfebpfpaaGreatDoorW.PrintLast Go.Proofs.YtcjmplpfebpfpaaGreatDoorW.PrintMore PKindInstances
set_option linter.unusedVariables false
set_option linter.unusedSimpArgs false

/-- A solver in memory: its block, its two maps. -/
structure SolvAt (base : Nat) (w : World) (sp vb tb : Nat) (mv mt : List (ByteArray × Value)) : Prop where
  blk : w.heap[sp]? = some (.cells #[.map (some vb), .map (some tb)] 102 (0, 0))
  vars : MapAt w vb (kvs textV mv)
  tos : MapAt w tb (kvs textV mt)
  bs : base ≤ sp
  bv : base ≤ vb
  bt : base ≤ tb
  ne : vb ≠ tb

theorem blk_notMap {w : World} {sp vb : Nat} {cs : Array Value} {t : TypeId} {m : List (Value × Value)} (h : w.heap[sp]? = some (.cells cs t (0, 0))) (hm : MapAt w vb m) : sp ≠ vb := by
  rintro rfl
  obtain ⟨es, c, hb, _⟩ := hm
  rw [h] at hb
  cases hb

theorem SolvAt.lt {base : Nat} {w : World} {sp vb tb : Nat} {mv mt : List (ByteArray × Value)} (h : SolvAt base w sp vb tb mv mt) : sp < w.heap.size := (Array.getElem?_eq_some_iff.1 h.blk).1
theorem SolvAt.below {base : Nat} {w w1 : World} {sp vb tb : Nat} {mv mt : List (ByteArray × Value)} (h : SolvAt base w sp vb tb mv mt) (hb : Below w.heap.size w w1) : SolvAt base w1 sp vb tb mv mt :=
  ⟨(hb.block sp h.lt).trans h.blk, h.vars.kept (grown_of_below hb none) (by simp), h.tos.kept (grown_of_below hb none) (by simp), h.bs, h.bv, h.bt, h.ne⟩
theorem SolvAt.putVars {base : Nat} {w w1 : World} {sp vb tb : Nat} {mv mt mv' : List (ByteArray × Value)} (h : SolvAt base w sp vb tb mv mt) (hm : MapAt w1 vb (kvs textV mv')) (hg : w.grownBy w1 (some vb)) : SolvAt base w1 sp vb tb mv' mt :=
  ⟨(hg.block sp h.lt (by simp; exact blk_notMap h.blk h.vars)).trans h.blk, hm, h.tos.kept hg (by simp; exact fun e => h.ne e.symm), h.bs, h.bv, h.bt, h.ne⟩
theorem SolvAt.putTo {base : Nat} {w w1 : World} {sp vb tb : Nat} {mv mt mt' : List (ByteArray × Value)} (h : SolvAt base w sp vb tb mv mt) (hm : MapAt w1 tb (kvs textV mt')) (hg : w.grownBy w1 (some tb)) : SolvAt base w1 sp vb tb mv mt' :=
  ⟨(hg.block sp h.lt (by simp; exact blk_notMap h.blk h.tos)).trans h.blk, h.vars.kept hg (by simp; exact h.ne), hm, h.bs, h.bv, h.bt, h.ne⟩
theorem SolvAt.c0 {base : Nat} {w : World} {sp vb tb : Nat} {mv mt : List (ByteArray × Value)} (h : SolvAt base w sp vb tb mv mt) : w.cell? ⟨sp, 0, none⟩ = some (.map (some vb)) := by simp [World.cell?, h.blk]
theorem SolvAt.c1 {base : Nat} {w : World} {sp vb tb : Nat} {mv mt : List (ByteArray × Value)} (h : SolvAt base w sp vb tb mv mt) : w.cell? ⟨sp, 1, none⟩ = some (.map (some tb)) := by simp [World.cell?, h.blk]

/-- The variables as the map's entries. -/
def varsV (l : List ByteArray) : List (ByteArray × Value) := l.map fun v => (v, .bool true)
theorem look_vars : ∀ (l : List ByteArray) (v : ByteArray), look (varsV l) v = if v ∈ l then some (.bool true) else none
  | [], v => by simp [varsV, look]
  | a :: l, v => by
    have := look_vars l v
    simp only [varsV] at this
    simp only [varsV, List.map_cons, look, this, List.mem_cons]
    by_cases h : v = a <;> simp [h]
theorem look_bool (l : List ByteArray) (v : ByteArray) : (look (varsV l) v).getD (.bool false) = .bool (decide (v ∈ l)) := by
  rw [look_vars]
  by_cases h : v ∈ l <;> simp [h]
theorem put_vars : ∀ (l : List ByteArray) (v : ByteArray), v ∉ l → putM (varsV l) v (.bool true) = varsV (l ++ [v])
  | [], v, _ => rfl
  | a :: l, v, h => by
    have := put_vars l v (fun e => h (List.mem_cons_of_mem _ e))
    simp only [varsV] at this
    simp only [varsV, List.map_cons, List.cons_append, putM]
    rw [if_neg (fun e => h (by rw [e]; exact List.mem_cons_self)), this]

/-- Whether names are such, each once. -/
def namesM : List ByteArray → List ByteArray → Bool
  | _, [] => true
  | seen, v :: l => if decide (v ∈ seen) || !isNameM v then false else namesM (seen ++ [v]) l
def rowsM (rows : List (List S24)) : Bool := rows.all fun l => !(l.any fun x => !ValidM x)

/-- What holds of the loop over the names. -/
def OpenRel (w : World) (sp vb tb : Nat) (vars : List ByteArray) (R : Bool) (k : Nat) (x17 : Value) (wr : World) : Prop :=
  ∃ (i : Nat), x17 = .int .i64 (i : Int) ∧ k + i = vars.length ∧ SolvAt w.heap.size wr sp vb tb (varsV (vars.take i)) [] ∧ Below w.heap.size w wr ∧ namesM (vars.take i) (vars.drop i) = R

theorem text_at {w : World} {A : Option Addr} {l : List ByteArray} (h : Kd.C Kd.string w A l.length l) {i : Nat} {v : ByteArray} (hv : l[i]? = some v) : ∃ ad, A = some ad ∧ w.cell? (ad.add i) = some (.string v) := by
  have hi : i < l.length := (List.getElem?_eq_some_iff.1 hv).1
  obtain ⟨ad, e, g⟩ := Kd.at_string h (i : Int) (by omega) (by omega)
  refine ⟨ad, e, ?_⟩
  have : rdOf ByteArray.empty l (i : Int) = v := by simp [rdOf, List.getD, hv]
  rw [this] at g
  simpa using g

/-- What holds of the loop over the rows. -/
def OpenRel2 (w : World) (sp vb tb : Nat) (vars : List ByteArray) (rows : List (List S24)) (R : Bool) (k : Nat) (x40 : Value) (wr : World) : Prop :=
  ∃ (i : Nat), x40 = .int .i64 (i : Int) ∧ k + i = rows.length ∧ SolvAt w.heap.size wr sp vb tb (varsV vars) [] ∧ Below w.heap.size w wr ∧ rowsM (rows.drop i) = R

/-- What comes back. -/
def OpenPost (w : World) (sp vb tb : Nat) (vars : List ByteArray) (R : Bool) (e : Ending) (w' : World) : Prop :=
  e = .returned (if R then .tuple #[.pointer (some ⟨sp, 0, none⟩), .bool true] else .tuple #[.pointer none, .bool false]) ∧ (R = true → SolvAt w.heap.size w' sp vb tb (varsV vars) []) ∧ Below w.heap.size w w'

theorem SolvAt.made (w : World) : SolvAt w.heap.size (((w.alloc (.map #[] 0)).alloc (.map #[] 0)).alloc (.cells #[.map (some w.heap.size), .map (some (w.heap.size + 1))] 102)) (w.heap.size + 1 + 1) w.heap.size (w.heap.size + 1) [] [] := by
  have s1 : (w.alloc (.map #[] 0)).heap.size = w.heap.size + 1 := size_new _ _
  have s2 : ((w.alloc (.map #[] 0)).alloc (.map #[] 0)).heap.size = w.heap.size + 1 + 1 := by rw [size_new, s1]
  have h2 := MapAt.made (w.alloc (.map #[] 0))
  rw [s1] at h2
  have h3 := (MapKept.heap_alloc ((w.alloc (.map #[] 0)).alloc (.map #[] 0)) (.cells #[.map (some w.heap.size), .map (some (w.heap.size + 1))] 102)).1
  rw [s2] at h3
  refine ⟨h3, ?_, ?_, by omega, by omega, by omega, by omega⟩
  · exact ((MapAt.made w).kept (World.grownBy_alloc _ _ none) (by simp)).kept (World.grownBy_alloc _ _ none) (by simp)
  · exact h2.kept (World.grownBy_alloc _ _ none) (by simp)

theorem rows_at {w : World} {A : Option Addr} {rows : List (List S24)} (h : Kd.C (Kd.slice 22 k24) w A rows.length rows) {i : Nat} {l : List S24} (hl : rows[i]? = some l) :
    ∃ ad B d, A = some ad ∧ w.cell? (ad.add i) = some (.slice B l.length d) ∧ l.length ≤ d ∧ Kd.C k24 w B l.length l := by
  have hi : i < rows.length := (List.getElem?_eq_some_iff.1 hl).1
  obtain ⟨ad, cs, e, _, hK, hc⟩ := Kd.C_get h ([] : List S24) (i : Int) (by omega) (by omega)
  have e1 : rows.getD (i : Int).toNat [] = l := by simp [List.getD, hl]
  obtain ⟨B, d, rfl, h1, h2⟩ := hK
  rw [e1] at h1 h2 hc
  have := hc 0 _ rfl
  refine ⟨ad, B, d, e, ?_, h1, h2⟩
  have e2 : (i : Int).toNat * (Kd.slice 22 k24).sz + 0 = i := by simp [show (Kd.slice 22 k24).sz = 1 from rfl]
  rw [e2] at this
  exact this

set_option maxRecDepth 100000 in
set_option maxHeartbeats 4000000 in
theorem open_any (vars : List ByteArray) (rows : List (List S24)) (AN AL : Option Addr) (c d : Nat) (w : World) (hv : Kd.C Kd.string w AN vars.length vars) (hc : vars.length ≤ c) (hl : Kd.C (Kd.slice 22 k24) w AL rows.length rows) (hd : rows.length ≤ d)
    (hn : vars.length < 9000000) (hn2 : rows.length < 9000000) (hq : ∀ v ∈ vars, LeafC ⟨1, 0, v, []⟩ ∧ v.size < 8000000) (hr : ∀ l ∈ rows, l.length < 9000000 ∧ ∀ x ∈ l, allC x ∧ wid x < 9000000) :
    Calls Tryz.prog 53 #[.slice AN vars.length c, .slice AL rows.length d] w (OpenPost w (w.heap.size + 1 + 1) w.heap.size (w.heap.size + 1) vars (namesM [] vars && rowsM rows)) := by
  have hu := Tryz.underlying100
  have hu9 := Tryz.underlying9
  obtain ⟨R, hR⟩ : ∃ R, R = namesM [] vars := ⟨_, rfl⟩
  obtain ⟨T, hT⟩ : ∃ T, T = rowsM rows := ⟨_, rfl⟩
  rw [← hR, ← hT]
  have start : Hid (OpenRel w (w.heap.size + 1 + 1) w.heap.size (w.heap.size + 1) vars R vars.length (.int .i64 ((0 : Nat) : Int)) (((w.alloc (.map #[] 0)).alloc (.map #[] 0)).alloc (.cells #[.map (some w.heap.size), .map (some (w.heap.size + 1))] 102))) := ⟨0, rfl, rfl, SolvAt.made w, by (repeat (first | assumption | exact Below.refl _ _ | apply below_alloc | apply pw_below_drewN | apply below_drew1)), hR.symm⟩
  have HVV : Hid _ := hv
  have HLL : Hid _ := hl
  have HQ : Hid _ := hq
  have HR2 : Hid _ := hr
  have HT : Hid _ := hT
  clear hv hl hq hr hR hT
  go_enter Tryz.func53, Tryz.ntmps53
  go_wp2_with fail
  simp only [run_makeMap]
  go_wp2_with fail
  simp only [run_makeMap]
  go_wp2_with fail
  go_loopg [17] vars.length (fun k x17 wr => OpenRel w (w.heap.size + 1 + 1) w.heap.size (w.heap.size + 1) vars R k x17 wr)
  case atStart => exact start.out
  case round =>
    clear start
    obtain ⟨i, rfl, hki, hS, hB, hV⟩ := hrel
    by_cases hlt : i < vars.length
    · obtain ⟨g, rfl⟩ : ∃ g, gk = g + 1 := ⟨gk - 1, by omega⟩
      have e1 : decide (i < vars.length) = true := decide_eq_true hlt
      obtain ⟨v, hv⟩ : ∃ v, vars[i]? = some v := ⟨vars[i], by simp [hlt]⟩
      obtain ⟨ad, rfl, g0⟩ := text_at (Kd.C_below HVV.out hB) hv
      have hdr : vars.drop i = v :: vars.drop (i + 1) := by
        obtain ⟨h, e⟩ := List.getElem?_eq_some_iff.1 hv
        rw [List.drop_eq_getElem_cons h, e]
      have htk : vars.take (i + 1) = vars.take i ++ [v] := by rw [List.take_add_one, hv]; rfl
      rw [hdr] at hV
      have c0 := hS.c0
      have hz : (zeroValue 4).run Tryz.prog wr = .ok (.bool false) wr := by go_simp
      have NM : Hid (∀ w, Calls Tryz.prog 91 #[.string v] w fun e w' => e = .returned (.bool (isNameM v)) ∧ Below w.heap.size w w') := fun w => isName_any v w (HQ.out v (List.mem_of_getElem? hv)).1 (HQ.out v (List.mem_of_getElem? hv)).2
      have SH : Hid _ := hS
      have BH : Hid _ := hB
      have TK : Hid _ := htk
      clear hS hB hdr hv htk
      simp only [namesM] at hV
      cases hmem : decide (v ∈ vars.take i) with
      | true =>
        rw [hmem] at hV
        simp only [Bool.true_or, if_true] at hV
        subst hV
        go_wp2_with (first | (refine law_lookup keyText' rfl _ _ false rfl hu hu9 hz SH.out.vars v rfl rfl ?_; rw [if_neg (by simp), look_bool, hmem]))
        go_ret2
        exact ⟨rfl, fun h => absurd h (by simp), BH.out⟩
      | false =>
        rw [hmem] at hV
        have hmem2 : v ∉ vars.take i := of_decide_eq_false hmem
        obtain ⟨q, hq⟩ : ∃ q, q = isNameM v := ⟨_, rfl⟩
        rw [← hq] at hV NM
        clear hq
        cases q with
        | false =>
          simp only [Bool.false_or, Bool.not_false, if_true] at hV
          subst hV
          go_wp2_with (first | (refine law_lookup keyText' rfl _ _ false rfl hu hu9 hz SH.out.vars v rfl rfl ?_; rw [if_neg (by simp), look_bool, hmem]))
          refine Calls.mono (NM.out _) ?_
          rintro e w2 ⟨rfl, B2⟩
          have B3 : Hid _ := below_after BH.out B2
          clear B2
          go_wp2_with fail
          go_ret2
          exact ⟨rfl, fun h => absurd h (by simp), B3.out⟩
        | true =>
          simp only [Bool.false_or, Bool.not_true, Bool.false_eq_true, if_false] at hV
          go_wp2_with (first | (refine law_lookup keyText' rfl _ _ false rfl hu hu9 hz SH.out.vars v rfl rfl ?_; rw [if_neg (by simp), look_bool, hmem]))
          refine Calls.mono (NM.out _) ?_
          rintro e w2 ⟨rfl, B2⟩
          have S2 := SH.out.below B2
          have B3 : Hid _ := below_after BH.out B2
          have c02 := S2.c0
          have V2 : Hid _ := S2.vars
          have SH2 : Hid _ := S2
          clear B2 S2
          go_wp2_with (first | (refine law_update keyText' rfl _ _ _ (.inl rfl) hu hu9 V2.out v (.bool true) rfl rfl rfl ?_; intro w3 M3 G3))
          rw [put_vars _ _ hmem2, ← TK.out] at M3
          have S3 : Hid _ := SH2.out.putVars M3 G3
          have B4 : Hid _ := below_grown1 B3.out G3 (Nat.le_refl _)
          have HV : Hid _ := hV
          clear M3 G3 hV
          go_roundg g
          case measure => omega
          case rel => exact ⟨i + 1, by go_num, by omega, S3.out, B4.out, by rw [TK.out]; exact HV.out⟩
    · have e1 : decide (i < vars.length) = false := decide_eq_false hlt
      have hge2 : vars.length ≤ i := by omega
      have e3 : vars.drop i = [] := List.drop_eq_nil_of_le (by omega)
      have e4 : vars.take i = vars := List.take_of_length_le (by omega)
      rw [e3, e4] at hV
      rw [e4] at hS
      simp only [namesM] at hV
      subst hV
      have start2 : Hid (OpenRel2 w (w.heap.size + 1 + 1) w.heap.size (w.heap.size + 1) vars rows T rows.length (.int .i64 ((0 : Nat) : Int)) wr) := ⟨0, rfl, rfl, hS, hB, HT.out.symm⟩
      clear hS hB e3 e4
      go_wp2_with fail
      go_loopg [40] rows.length (fun k x40 w1 => OpenRel2 w (w.heap.size + 1 + 1) w.heap.size (w.heap.size + 1) vars rows T k x40 w1)
      case atStart => exact start2.out
      case round =>
        clear start2
        obtain ⟨j, rfl, hkj, hS, hB, hV⟩ := hrel
        by_cases hjt : j < rows.length
        · obtain ⟨g, rfl⟩ : ∃ g, gk = g + 1 := ⟨gk - 1, by omega⟩
          have e1 : decide (j < rows.length) = true := decide_eq_true hjt
          obtain ⟨l, hl⟩ : ∃ l, rows[j]? = some l := ⟨rows[j], by simp [hjt]⟩
          obtain ⟨ad, B, db, rfl, g0, g1, g2⟩ := rows_at (Kd.C_below HLL.out hB) hl
          have hdr : rows.drop j = l :: rows.drop (j + 1) := by
            obtain ⟨h, e⟩ := List.getElem?_eq_some_iff.1 hl
            rw [List.drop_eq_getElem_cons h, e]
          rw [hdr] at hV
          have hRl := HR2.out l (List.mem_of_getElem? hl)
          have AB : Hid _ := anyBad_any l B db _ g2 g1 hRl.1 hRl.2
          have SH : Hid _ := hS
          have BH : Hid _ := hB
          clear hS hB g2 hRl hdr hl
          simp only [rowsM, List.all_cons] at hV
          obtain ⟨q, hq⟩ : ∃ q, q = l.any (fun x => !ValidM x) := ⟨_, rfl⟩
          rw [← hq] at hV AB
          clear hq
          cases q with
          | true =>
            simp only [Bool.not_true, Bool.false_and] at hV
            subst hV
            go_wp2_with fail
            refine Calls.mono AB.out ?_
            rintro e w2 ⟨rfl, B2⟩
            have B3 : Hid _ := below_after BH.out B2
            clear B2
            go_wp2_with fail
            go_ret2
            exact ⟨rfl, fun h => absurd h (by simp), B3.out⟩
          | false =>
            simp only [Bool.not_false, Bool.true_and] at hV
            have HV : Hid (rowsM (rows.drop (j + 1)) = T) := hV
            clear hV
            go_wp2_with fail
            refine Calls.mono AB.out ?_
            rintro e w2 ⟨rfl, B2⟩
            have B3 : Hid _ := below_after BH.out B2
            have S3 : Hid _ := SH.out.below B2
            clear B2
            go_wp2_with fail
            go_roundg g
            case measure => omega
            case rel => exact ⟨j + 1, by go_num, by omega, S3.out, B3.out, HV.out⟩
        · have e1 : decide (j < rows.length) = false := decide_eq_false hjt
          have hge3 : rows.length ≤ j := by omega
          have e3 : rows.drop j = [] := List.drop_eq_nil_of_le (by omega)
          rw [e3] at hV
          have hT2 : T = true := by rw [← hV]; rfl
          subst hT2
          have SH : Hid _ := hS
          have BH : Hid _ := hB
          clear hS hB hV e3
          go_wp2_with fail
          go_ret2
          exact ⟨rfl, fun _ => SH.out, BH.out⟩

end Go.Proofs.YtcjmplpfebpfpaaGreatDoor

namespace Go.Proofs.YtcjmplpfebpfpaaGreatDoor
open Go.RowKit Go.Proofs Go.Proofs.YtcjmplpfebpfpaaGreatDoorW.PrintWords Go.Proofs.YtcjmplpfebpfpaaGreatDoorW.PrintLast Go.Proofs.YtcjmplpfebpfpaaGreatDoorW.PrintMore PKindInstances
set_option linter.unusedVariables false
set_option linter.unusedSimpArgs false

/-- A form as a value whose parts lie in memory. -/
def FormAt (W0 : World) (v : Value) (x : S24) : Prop := ∃ A c, v = formV x.f0 x.f1 x.f2 A x.f3.length c ∧ Kd.C k24 W0 A x.f3.length x.f3 ∧ x.f3.length ≤ c ∧ wid x < 9000000

/-- What is known of the variables, and the map's entries. -/
def ToAt (W0 : World) : List (ByteArray × S24) → List (ByteArray × Value) → Prop
  | [], [] => True
  | (a, x) :: m, (b, v) :: n => a = b ∧ FormAt W0 v x ∧ ToAt W0 m n
  | _, _ => False

def lookT : List (ByteArray × S24) → ByteArray → Option S24
  | [], _ => none
  | (a, x) :: m, k => if k = a then some x else lookT m k
def putT : List (ByteArray × S24) → ByteArray → S24 → List (ByteArray × S24)
  | [], k, x => [(k, x)]
  | (a, y) :: m, k, x => if k = a then (a, x) :: m else (a, y) :: putT m k x

theorem look_to {W0 : World} : ∀ {m : List (ByteArray × S24)} {n : List (ByteArray × Value)}, ToAt W0 m n → ∀ k, (lookT m k = none ∧ look n k = none) ∨ ∃ x v, lookT m k = some x ∧ look n k = some v ∧ FormAt W0 v x
  | [], [], _, k => .inl ⟨rfl, rfl⟩
  | (a, x) :: m, (b, v) :: n, h, k => by
    obtain ⟨rfl, h1, h2⟩ := h
    by_cases hk : k = a
    · exact .inr ⟨x, v, by simp [lookT, hk], by simp [look, hk], h1⟩
    · rcases look_to h2 k with ⟨e1, e2⟩ | ⟨y, u, e1, e2, e3⟩
      · exact .inl ⟨by simp [lookT, hk, e1], by simp [look, hk, e2]⟩
      · exact .inr ⟨y, u, by simp [lookT, hk, e1], by simp [look, hk, e2], e3⟩
theorem put_to {W0 : World} : ∀ {m : List (ByteArray × S24)} {n : List (ByteArray × Value)}, ToAt W0 m n → ∀ (k : ByteArray) {x : S24} {v : Value}, FormAt W0 v x → ToAt W0 (putT m k x) (putM n k v)
  | [], [], _, k, x, v, h => ⟨rfl, h, trivial⟩
  | (a, y) :: m, (b, u) :: n, h, k, x, v, hx => by
    obtain ⟨rfl, h1, h2⟩ := h
    by_cases hk : k = a
    · simp only [putT, putM, hk, if_true]
      exact ⟨rfl, hx, h2⟩
    · simp only [putT, putM, if_neg hk]
      exact ⟨rfl, h1, put_to h2 k hx⟩

/-- A form with what is known of its outermost variable. -/
def knownM (vs : List ByteArray) (mt : List (ByteArray × S24)) : Nat → S24 → Option S24
  | 0, _ => none
  | n + 1, x => if x.f0 = 1 ∧ x.f2 ∈ vs then (match lookT mt x.f2 with | none => some x | some y => knownM vs mt n y) else some x

/-- What holds of the loop. -/
def KnRel (W0 w : World) (vs : List ByteArray) (mt : List (ByteArray × S24)) (y : S24) (k : Nat) (wr : World) : Prop :=
  ∃ (x : S24) (A : Option Addr) (c : Nat), wr.heap[w.heap.size]? = some (.cells #[.int .i64 x.f0, .int .i64 x.f1, .string x.f2, .slice A x.f3.length c] 24 (0, 0)) ∧
    wr.heap[w.heap.size + 1]? = some (.cells #[.int .i64 0, .int .i64 0, .string ⟨#[]⟩, .slice none 0 0] 24 (0, 0)) ∧
    Kd.C k24 W0 A x.f3.length x.f3 ∧ x.f3.length ≤ c ∧ Below w.heap.size w wr ∧ wid x < 9000000 ∧ knownM vs mt k x = some y

theorem cells4 {w : World} {b : Nat} {v0 v1 v2 v3 : Value} {t : TypeId} (h : w.heap[b]? = some (.cells #[v0, v1, v2, v3] t (0, 0))) :
    w.cell? ⟨b, 0, none⟩ = some v0 ∧ w.cell? ⟨b, 1, none⟩ = some v1 ∧ w.cell? ⟨b, 2, none⟩ = some v2 ∧ w.cell? ⟨b, 3, none⟩ = some v3 := by
  refine ⟨?_, ?_, ?_, ?_⟩ <;> simp [World.cell?, h]
theorem frozen4 {w : World} {b i : Nat} {cs : Array Value} {t : TypeId} (h : w.heap[b]? = some (.cells cs t (0, 0))) : w.frozen? ⟨b, i, none⟩ = false := by
  simp [World.frozen?, h]

theorem set4 {w : World} {b : Nat} {v0 v1 v2 v3 a0 a1 a2 a3 : Value} {t : TypeId} (h : w.heap[b]? = some (.cells #[v0, v1, v2, v3] t (0, 0))) :
    ((((w.setCell ⟨b, 0, none⟩ a0).setCell ⟨b, 1, none⟩ a1).setCell ⟨b, 2, none⟩ a2).setCell ⟨b, 3, none⟩ a3).heap[b]? = some (.cells #[a0, a1, a2, a3] t (0, 0)) :=
  heap_setCell_same _ b 3 #[a0, a1, a2, v3] t a3 (heap_setCell_same _ b 2 #[a0, a1, v2, v3] t a2 (heap_setCell_same _ b 1 #[a0, v1, v2, v3] t a1 (heap_setCell_same w b 0 #[v0, v1, v2, v3] t a0 h)))
theorem below4 {base : Nat} {w0 w : World} {b : Nat} {a0 a1 a2 a3 : Value} (h : Below base w0 w) (hb : base ≤ b) :
    Below base w0 ((((w.setCell ⟨b, 0, none⟩ a0).setCell ⟨b, 1, none⟩ a1).setCell ⟨b, 2, none⟩ a2).setCell ⟨b, 3, none⟩ a3) := (((h.setCell hb _).setCell hb _).setCell hb _).setCell hb _
theorem stay4 {w : World} {b k : Nat} {a0 a1 a2 a3 : Value} (h : k ≠ b) :
    ((((w.setCell ⟨b, 0, none⟩ a0).setCell ⟨b, 1, none⟩ a1).setCell ⟨b, 2, none⟩ a2).setCell ⟨b, 3, none⟩ a3).heap[k]? = w.heap[k]? :=
  (heap_setCell_other _ ⟨b, 3, none⟩ k _ h).trans ((heap_setCell_other _ ⟨b, 2, none⟩ k _ h).trans ((heap_setCell_other _ ⟨b, 1, none⟩ k _ h).trans (heap_setCell_other _ ⟨b, 0, none⟩ k _ h)))
theorem heap_drewN (w : World) (b n : Nat) : (w.drewN n).heap[b]? = w.heap[b]? := by
  induction n generalizing w with
  | zero => rfl
  | succ n ih => exact ih w.drew

theorem look_drewN {base : Nat} {w : World} {sp vb tb : Nat} {vs : List ByteArray} {mt : List (ByteArray × Value)} (h : SolvAt base w sp vb tb (varsV vs) mt) (x : ByteArray) (m : Nat) :
    (Instr.lookup 100 (.map (some vb)) (.string x) false).run Tryz.prog (w.drewN m) = .ok (.bool (decide (x ∈ vs))) (w.drewN m) := by
  have hz : (zeroValue 4).run Tryz.prog (w.drewN m) = .ok (.bool false) (w.drewN m) := by go_simp
  have hm : MapAt (w.drewN m) vb (kvs textV (varsV vs)) := by
    obtain ⟨es, c, hb, he⟩ := h.vars
    exact ⟨es, c, (heap_drewN _ _ _).trans hb, he⟩
  have r := run_lookup_at keyText' Tryz.underlying100 Tryz.underlying9 hz hm x false
  rw [if_neg (by simp), look_bool] at r
  exact r

set_option maxRecDepth 100000 in
set_option maxHeartbeats 4000000 in
theorem known_any (W0 w : World) (base sp vb tb : Nat) (vs : List ByteArray) (mt : List (ByteArray × S24)) (mtv : List (ByteArray × Value)) (hs : SolvAt base w sp vb tb (varsV vs) mtv) (ht : ToAt W0 mt mtv)
    (hw : Below W0.heap.size W0 w) (x : S24) (A : Option Addr) (c : Nat) (hr : Kd.C k24 W0 A x.f3.length x.f3) (hc : x.f3.length ≤ c) (hx : wid x < 9000000) (n : Nat) (y : S24) (hk : knownM vs mt n x = some y) :
    Calls Tryz.prog 94 #[.pointer (some ⟨sp, 0, none⟩), formV x.f0 x.f1 x.f2 A x.f3.length c] w fun e w' => ∃ u, e = .returned u ∧ FormAt W0 u y ∧ Below w.heap.size w w' := by
  have hu24 := Tryz.underlying24
  have hu := Tryz.underlying100
  have hu72 := Tryz.underlying72
  have hu9 := Tryz.underlying9
  obtain ⟨a, bb, s, l⟩ := x
  have h2 : ((w.alloc (Obj.cells #[.int .i64 a, .int .i64 bb, .string s, .slice A l.length c] 24)).alloc (Obj.cells #[.int .i64 0, .int .i64 0, .string ⟨#[]⟩, .slice none 0 0] 24)).heap[w.heap.size + 1]? = some (.cells #[.int .i64 0, .int .i64 0, .string ⟨#[]⟩, .slice none 0 0] 24 (0, 0)) := by
    have h := (MapKept.heap_alloc (w.alloc (Obj.cells #[.int .i64 a, .int .i64 bb, .string s, .slice A l.length c] 24)) (Obj.cells #[.int .i64 0, .int .i64 0, .string ⟨#[]⟩, .slice none 0 0] 24)).1
    rw [size_new] at h
    exact h
  have h1 : ((w.alloc (Obj.cells #[.int .i64 a, .int .i64 bb, .string s, .slice A l.length c] 24)).alloc (Obj.cells #[.int .i64 0, .int .i64 0, .string ⟨#[]⟩, .slice none 0 0] 24)).heap[w.heap.size]? = some (.cells #[.int .i64 a, .int .i64 bb, .string s, .slice A l.length c] 24 (0, 0)) := by
    refine (Below.heap_alloc _ _ _ ?_).trans (MapKept.heap_alloc w _).1
    rw [size_new]; omega
  have start : Hid (KnRel W0 w vs mt y n ((w.alloc (Obj.cells #[.int .i64 a, .int .i64 bb, .string s, .slice A l.length c] 24)).alloc (Obj.cells #[.int .i64 0, .int .i64 0, .string ⟨#[]⟩, .slice none 0 0] 24))) :=
    ⟨⟨a, bb, s, l⟩, A, c, h1, h2, hr, hc, by (repeat (first | assumption | exact Below.refl _ _ | apply below_alloc)), hx, hk⟩
  have HS : Hid _ := hs
  have HT : Hid _ := ht
  clear hs ht hr hk h1 h2
  go_enter Tryz.func94, Tryz.ntmps94
  go_wp2_with fail
  go_loopg [] n (fun k wr => KnRel W0 w vs mt y k wr)
  case atStart => exact start.out
  case round =>
    clear start
    obtain ⟨⟨x0, x1, x2, x3⟩, A3, c3, hb1, hb2, hr3, hc3, hB, hsz, hK⟩ := hrel
    have hS := SolvAt.below HS.out hB
    obtain ⟨q0, q1, q2, q3⟩ := cells4 hb1
    obtain ⟨p0, p1, p2, p3⟩ := cells4 hb2
    have c0 := hS.c0
    have c1 := hS.c1
    have r1 := fun m => look_drewN hS x2 m
    cases gk with
    | zero => simp [knownM] at hK
    | succ g =>
      simp only [knownM] at hK
      by_cases h0 : x0 = 1
      · subst h0
        cases hm : decide (x2 ∈ vs) with
        | false =>
          rw [hm] at r1
          have hm2 : x2 ∉ vs := of_decide_eq_false hm
          rw [if_neg (fun e => hm2 e.2)] at hK
          obtain rfl := Option.some.inj hK
          have HH2 : Hid _ := hb2
          have RR : Hid _ := hr3
          have BB : Hid _ := hB
          have f0 := frozen4 (i := 0) hb2
          have f1 := frozen4 (i := 1) hb2
          have f2 := frozen4 (i := 2) hb2
          have f3 := frozen4 (i := 3) hb2
          clear hK hm hm2 hr3 hB hb1 hb2 hS
          go_wp2_with fail
          go_quiet (fail)
          go_wp2_with fail
          refine bodyPost_ret (results_cell_row rfl _ _ (w.heap.size + 1) 24 #[.int .i64 1, .int .i64 x1, .string x2, .slice A3 x3.length c3] (0, 0) _ rfl (set4 ((heap_drewN _ _ _).trans HH2.out)) Tryz.underlying24 rfl (by kernel_rfl)) rfl ?_
          exact ⟨_, rfl, ⟨A3, c3, rfl, RR.out, hc3, hsz⟩, below4 (pw_below_drewN BB.out _) (by omega)⟩
        | true =>
          rw [hm] at r1
          have hm2 : x2 ∈ vs := of_decide_eq_true hm
          rw [if_pos ⟨rfl, hm2⟩] at hK
          have HK : Hid _ := hK
          have RR : Hid _ := hr3
          have HB1 : Hid _ := hb1
          have HB2 : Hid _ := hb2
          have SS : Hid _ := hS
          have BB : Hid _ := hB
          clear hK hm hm2 hr3 hB hb1 hb2 hS
          go_wp2_with fail
          go_quiet (fail)
          have BD : Below wr.heap.size wr (wr.drewN nq) := pw_below_drewN (Below.refl _ _) nq
          clear q0 q1 q2 q3 p0 p1 p2 p3 c0 c1 r1
          generalize wr.drewN nq = w1 at *
          have B1 : Hid _ := below_after BB.out BD
          have S1 : Hid _ := SS.out.below BD
          have hb1 := (BD.block _ (Array.getElem?_eq_some_iff.1 HB1.out).1).trans HB1.out
          have hb2 := (BD.block _ (Array.getElem?_eq_some_iff.1 HB2.out).1).trans HB2.out
          obtain ⟨q0, q1, q2, q3⟩ := cells4 hb1
          obtain ⟨p0, p1, p2, p3⟩ := cells4 hb2
          have c1 := S1.out.c1
          have H1 : Hid _ := hb1
          have H2 : Hid _ := hb2
          have hz1 : (zeroValue 24).run Tryz.prog w1.drew = .ok (formV 0 0 ⟨#[]⟩ none 0 0) w1.drew := by go_simp
          have hz2 : (zeroValue 24).run Tryz.prog (w1.alloc (Obj.cells #[.int .i64 0, .int .i64 0, .string ⟨#[]⟩, .slice none 0 0] 24)).drew = .ok (formV 0 0 ⟨#[]⟩ none 0 0) (w1.alloc (Obj.cells #[.int .i64 0, .int .i64 0, .string ⟨#[]⟩, .slice none 0 0] 24)).drew := by go_simp
          have r1 := run_lookup_at keyText' hu72 hu9 hz1 (show MapAt w1.drew tb _ from S1.out.tos) x2 true
          have r2 := run_lookup_at keyText' hu72 hu9 hz2 (show MapAt (w1.alloc (Obj.cells #[.int .i64 0, .int .i64 0, .string ⟨#[]⟩, .slice none 0 0] 24)).drew tb _ from (show MapAt (w1.alloc (Obj.cells #[.int .i64 0, .int .i64 0, .string ⟨#[]⟩, .slice none 0 0] 24)) tb _ from S1.out.tos.kept (World.grownBy_alloc _ _ none) (by simp))) x2 true
          rw [if_pos rfl] at r1 r2
          change (Instr.lookup 72 (.map (some tb)) (.string x2) true).run Tryz.prog _ = _ at r1
          change (Instr.lookup 72 (.map (some tb)) (.string x2) true).run Tryz.prog _ = _ at r2
          have q2' := pw_cell_below (below_alloc (Below.refl _ _) (Obj.cells #[.int .i64 0, .int .i64 0, .string ⟨#[]⟩, .slice none 0 0] 24)) q2
          have c1' := pw_cell_below (below_alloc (Below.refl _ _) (Obj.cells #[.int .i64 0, .int .i64 0, .string ⟨#[]⟩, .slice none 0 0] 24)) c1
          clear BD hb1 hb2 hz1 hz2
          rcases look_to HT.out x2 with ⟨e1, e2⟩ | ⟨y1, u1, e1, e2, e3⟩
          · have hK := HK.out
            rw [e1] at hK
            obtain rfl := Option.some.inj hK
            rw [e2] at r1 r2
            simp only [Option.getD_none, Option.isSome_none] at r1 r2
            clear hK e1 e2
            have al := fun {p v} h => pw_cell_below (a := p) (v := v) (below_alloc (Below.refl _ w1) (Obj.cells #[.int .i64 0, .int .i64 0, .string ⟨#[]⟩, .slice none 0 0] 24)) h
            have q0' := al q0
            have q1' := al q1
            have q3' := al q3
            have p0' := al p0
            have p1' := al p1
            have p2' := al p2
            have p3' := al p3
            have f0 := frozen4 (i := 0) H2.out
            have f1 := frozen4 (i := 1) H2.out
            have f2 := frozen4 (i := 2) H2.out
            have f3 := frozen4 (i := 3) H2.out
            have ha : (w1.alloc (Obj.cells #[.int .i64 0, .int .i64 0, .string ⟨#[]⟩, .slice none 0 0] 24)).heap[w.heap.size + 1]? = _ := (Below.heap_alloc w1 _ _ (Array.getElem?_eq_some_iff.1 H2.out).1).trans H2.out
            have HA : Hid _ := ha
            have f0' := frozen4 (i := 0) ha
            have f1' := frozen4 (i := 1) ha
            have f2' := frozen4 (i := 2) ha
            have f3' := frozen4 (i := 3) ha
            clear al ha
            go_wp2_with fail
            go_region
            all_goals
              go_wp2_with fail
              refine bodyPost_ret (results_cell_row rfl _ _ (w.heap.size + 1) 24 #[.int .i64 1, .int .i64 x1, .string x2, .slice A3 x3.length c3] (0, 0) _ rfl (set4 HA.out) Tryz.underlying24 rfl (by kernel_rfl)) rfl ?_
              exact ⟨_, rfl, ⟨A3, c3, rfl, RR.out, hc3, hsz⟩, below_drew (below4 (below_alloc B1.out _) (by omega))⟩
          · have hK := HK.out
            rw [e1] at hK
            simp only [] at hK
            obtain ⟨A5, c5, rfl, e4, e5, e6⟩ := e3
            rw [e2] at r1 r2
            simp only [Option.getD_some, Option.isSome_some] at r1 r2
            obtain ⟨y0, y1, y2, y3⟩ := y1
            have F4 : Hid _ := e4
            have K4 : Hid _ := hK
            have ha : (w1.alloc (Obj.cells #[.int .i64 y0, .int .i64 y1, .string y2, .slice A5 y3.length c5] 24)).heap[w.heap.size]? = _ := (Below.heap_alloc w1 _ _ (Array.getElem?_eq_some_iff.1 H1.out).1).trans H1.out
            have ha2 : (w1.alloc (Obj.cells #[.int .i64 y0, .int .i64 y1, .string y2, .slice A5 y3.length c5] 24)).heap[w.heap.size + 1]? = _ := (Below.heap_alloc w1 _ _ (Array.getElem?_eq_some_iff.1 H2.out).1).trans H2.out
            have HA : Hid _ := ha
            have HA2 : Hid _ := ha2
            have f0' := frozen4 (i := 0) ha
            have f1' := frozen4 (i := 1) ha
            have f2' := frozen4 (i := 2) ha
            have f3' := frozen4 (i := 3) ha
            obtain ⟨t0, t1, t2, t3⟩ := cells4 ha
            clear e1 e2 e4 hK ha ha2 p0 p1 p2 p3 q0 q1 q3
            go_wp2_with fail
            go_region
            all_goals
              go_wp2_with fail
              go_roundg g
              case measure => omega
              case rel => exact ⟨⟨y0, y1, y2, y3⟩, A5, c5, set4 HA.out, (stay4 (by omega)).trans HA2.out, F4.out, e5, below_drew (below4 (below_alloc B1.out _) (Nat.le_refl _)), e6, K4.out⟩
      · have b0 : (x0 == 1) = false := beq_eq_false_iff_ne.mpr h0
        rw [if_neg (fun e => h0 e.1)] at hK
        obtain rfl := Option.some.inj hK
        clear hK r1
        go_wp2_with fail
        go_quiet (fail)
        have f0 := frozen4 (i := 0) hb2
        have f1 := frozen4 (i := 1) hb2
        have f2 := frozen4 (i := 2) hb2
        have f3 := frozen4 (i := 3) hb2
        go_wp2_with fail
        refine bodyPost_ret (results_cell_row rfl _ _ (w.heap.size + 1) 24 #[.int .i64 x0, .int .i64 x1, .string x2, .slice A3 x3.length c3] (0, 0) _ rfl (set4 ((heap_drewN _ _ _).trans hb2)) Tryz.underlying24 rfl (by kernel_rfl)) rfl ?_
        exact ⟨_, rfl, ⟨A3, c3, rfl, hr3, hc3, hsz⟩, below4 (pw_below_drewN hB _) (by omega)⟩

end Go.Proofs.YtcjmplpfebpfpaaGreatDoor
