/- Walks over package search: New. -/
import Derived.Test.YtdllaphnkbnpoaaGreatWp
import Derived.Carry
namespace Go.Proofs.YtdllaphnkbnpoaaGreat
open Go.RowKit Go.Proofs

def newVals (b : Nat) : Vals :=
  { log := .slice none 0 0, failed := .slice none 0 0, cl := .slice none 0 0, mb := b, val := .slice (some ⟨b + 1, 0, none⟩) 1 1, lev := .slice (some ⟨b + 1 + 1, 0, none⟩) 1 1, rea := .slice (some ⟨b + 1 + 1 + 1, 0, none⟩) 1 1, wei := .slice (some ⟨b + 1 + 1 + 1 + 1, 0, none⟩) 1 1, pha := .slice (some ⟨b + 1 + 1 + 1 + 1 + 1, 0, none⟩) 1 1, tra := .slice none 0 0, mar := .slice none 0 0, vcs := [], vlogs := [], wk := [], wv := fun _ => .slice none 0 0 }

theorem good_new (b : Nat) : Good S.new (newVals b) := ⟨rfl, rfl, List.nodup_nil, fun _ _ => rfl, rfl⟩

theorem size_alloc (w : World) (o : Obj) : (w.alloc o).heap.size = w.heap.size + 1 := by unfold World.alloc; simp [-World.alloc_eq]

theorem alloc_at (w : World) (o : Obj) : (w.alloc o).heap[w.heap.size]? = some o := by unfold World.alloc; simp [-World.alloc_eq]

theorem holds_eq {base : Nat} {w : World} {L L' : Key → Res} (h : Holds base w L) (e : L = L') : Holds base w L' := e ▸ h

theorem nil_put {base : Nat} {w : World} {L : Key → Res} (H : Holds base w L) (hb : base ≤ w.heap.size) (k : Key) (t : TypeId) : Holds base w (upd L k (.row (.slice none 0 0) t [])) :=
  H.put k (.row (.slice none 0 0) t []) (World.grownBy.refl w none) (fun b hb => by cases hb) (World.ownsRow_nil w 0 t 1) (fun b hb => by cases hb) hb

theorem new_any (fuel : Nat) (w : World) :
    Calls Tryz.prog 64 #[.int .i64 (fuel : Int)] w fun e w' => e = .returned (.pointer (some ⟨w.heap.size + 1 + 1 + 1 + 1 + 1 + 1, 0, none⟩)) ∧
      Holds w.heap.size w' (full (w.heap.size + 1 + 1 + 1 + 1 + 1 + 1) fuel S.new (newVals w.heap.size) (fun _ => .non)) ∧ Below w.heap.size w w' := by
  have H0 : Holds w.heap.size w (fun _ => Res.non) := Holds.nothing _ _
  have H1 := H0.put .mp (.mapB w.heap.size []) (World.grownBy_alloc w (.map #[] 0) none) (fun b hb => by cases hb) ⟨#[], 0, alloc_at _ _, rfl⟩ (fun b hb => by right; have : some w.heap.size = some b := hb; cases this; exact Nat.le_refl _) (Nat.le_refl _)
  have B1 := (Below.refl w.heap.size w).alloc (Nat.le_refl _) (.map #[] 0)
  have s1 : (w.alloc (.map #[] 0)).heap.size = w.heap.size + 1 := size_alloc ..
  have H2 := H1.lit1 (.fld 6) (by omega) (.int .i8 0) 90
  have B2 := B1.alloc (by omega) (.cells #[.int .i8 0] 90)
  have s2 : ((w.alloc (.map #[] 0)).alloc (.cells #[.int .i8 0] 90)).heap.size = w.heap.size + 1 + 1 := by rw [size_alloc, s1]
  rw [s1] at H2
  have H3 := H2.lit1 (.fld 7) (by omega) (.int .i64 0) 3
  have B3 := B2.alloc (by omega) (.cells #[.int .i64 0] 3)
  rw [s2] at H3
  have s3 := size_alloc ((w.alloc (.map #[] 0)).alloc (.cells #[.int .i8 0] 90)) (.cells #[.int .i64 0] 3)
  rw [s2] at s3
  have H4 := H3.lit1 (.fld 8) (by omega) (.int .i64 (-1)) 3
  have B4 := B3.alloc (by omega) (.cells #[.int .i64 (-1)] 3)
  rw [s3] at H4
  have s4 : ((((w.alloc (.map #[] 0)).alloc (.cells #[.int .i8 0] 90)).alloc (.cells #[.int .i64 0] 3)).alloc (.cells #[.int .i64 (-1)] 3)).heap.size = w.heap.size + 1 + 1 + 1 + 1 := by rw [size_alloc, s3]
  have H5 := H4.lit1 (.fld 9) (by omega) (.int .i64 0) 3
  have B5 := B4.alloc (by omega) (.cells #[.int .i64 0] 3)
  rw [s4] at H5
  have s5 : (((((w.alloc (.map #[] 0)).alloc (.cells #[.int .i8 0] 90)).alloc (.cells #[.int .i64 0] 3)).alloc (.cells #[.int .i64 (-1)] 3)).alloc (.cells #[.int .i64 0] 3)).heap.size = w.heap.size + 1 + 1 + 1 + 1 + 1 := by rw [size_alloc, s4]
  have H6 := H5.lit1 (.fld 10) (by omega) (.int .i8 (-1)) 90
  have B6 := B5.alloc (by omega) (.cells #[.int .i8 (-1)] 90)
  rw [s5] at H6
  have s6 : ((((((w.alloc (.map #[] 0)).alloc (.cells #[.int .i8 0] 90)).alloc (.cells #[.int .i64 0] 3)).alloc (.cells #[.int .i64 (-1)] 3)).alloc (.cells #[.int .i64 0] 3)).alloc (.cells #[.int .i8 (-1)] 90)).heap.size = w.heap.size + 1 + 1 + 1 + 1 + 1 + 1 := by rw [size_alloc, s5]
  have H7 := H6.put .st (.cells (w.heap.size + 1 + 1 + 1 + 1 + 1 + 1) (stCells fuel S.new (newVals w.heap.size)) 75) (World.grownBy_alloc _ (.cells (stCells fuel S.new (newVals w.heap.size)).toArray 75) none) (fun b hb => by cases hb) (by show (World.alloc _ _).heap[_]? = _; rw [← s6]; exact alloc_at _ _) (fun b hb => by right; have : some (w.heap.size + 1 + 1 + 1 + 1 + 1 + 1) = some b := hb; cases this; omega) (by omega)
  have B7 := B6.alloc (by omega) (.cells (stCells fuel S.new (newVals w.heap.size)).toArray 75)
  have s7 := size_alloc ((((((w.alloc (.map #[] 0)).alloc (.cells #[.int .i8 0] 90)).alloc (.cells #[.int .i64 0] 3)).alloc (.cells #[.int .i64 (-1)] 3)).alloc (.cells #[.int .i64 0] 3)).alloc (.cells #[.int .i8 (-1)] 90)) (.cells (stCells fuel S.new (newVals w.heap.size)).toArray 75)
  rw [s6] at s7
  have H8 := nil_put (nil_put (nil_put (nil_put H7 (by omega) (.fld 2) 23) (by omega) (.fld 4) 23) (by omega) (.fld 11) 3) (by omega) (.fld 12) 3
  have HE : Hid _ := holds_eq (L' := full (w.heap.size + 1 + 1 + 1 + 1 + 1 + 1) fuel S.new (newVals w.heap.size) (fun _ => .non)) H8 <| by
    funext k
    cases k with
    | st => rfl
    | fld i =>
      match i with
      | 0 => rfl
      | 1 => rfl
      | 2 => rfl
      | 3 => rfl
      | 4 => rfl
      | 5 => rfl
      | 6 => rfl
      | 7 => rfl
      | 8 => rfl
      | 9 => rfl
      | 10 => rfl
      | 11 => rfl
      | 12 => rfl
      | n + 13 => rfl
    | cls i => simp [upd, full, rowAt, newVals]
    | log i => simp [upd, full, rowAt, newVals]
    | mp => simp [upd, full, newVals, Vals.wkv, kvs]
    | wt l => simp [upd, full, newVals]
    | loc i => simp [upd, full]
  have BE : Hid _ := B7
  clear H0 H1 H2 H3 H4 H5 H6 H7 H8 B1 B2 B3 B4 B5 B6 B7 s1 s2 s3 s4 s5 s6 s7
  go_enter Tryz.func64, Tryz.ntmps64
  go_wp2_with fail
  simp only [run_makeMap]
  go_wp2_with fail
  go_ret
  exact ⟨rfl, HE.out, BE.out⟩
end Go.Proofs.YtdllaphnkbnpoaaGreat
