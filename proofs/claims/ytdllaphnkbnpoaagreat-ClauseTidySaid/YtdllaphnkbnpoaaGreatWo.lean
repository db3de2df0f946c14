/- slices.Contains: of what is owned, of what is the caller's. -/
import Derived.Test.YtdllaphnkbnpoaaGreatWm
namespace Go.Proofs.YtdllaphnkbnpoaaGreat
open Go.RowKit Go.Proofs

/-- A slice of whole numbers that lies below a base. -/
def Lies (base : Nat) (w : World) (A : Option Addr) (xs : List Int) : Prop :=
  xs = [] ∨ ∃ b o, A = some ⟨b, o, none⟩ ∧ b < base ∧ ∀ j, j < xs.length → w.cell? ⟨b, o + j, none⟩ = some (.int .i64 (xs.getD j 0))

theorem Lies.below {base : Nat} {w w' : World} {A : Option Addr} {xs : List Int} (h : Lies base w A xs) (B : Below base w w') : Lies base w' A xs := by
  rcases h with h | ⟨b, o, hA, hb, hc⟩
  · exact .inl h
  · exact .inr ⟨b, o, hA, hb, fun j hj => by rw [World.cell?_of_block (a := ⟨b, o + j, none⟩) (B.block b hb)]; exact hc j hj⟩

theorem contains_lies {base : Nat} {w : World} {A : Option Addr} {xs : List Int} (h : Lies base w A xs) (h6 : xs.length ≤ 60000) (c : Nat) (x : Int) :
    Calls Tryz.prog 19 #[.slice A xs.length c, .int .i64 x] w fun e w' => e = .returned (.bool (xs.contains x)) ∧ w' = w := by
  rcases h with rfl | ⟨b, o, rfl, _, hc⟩
  · exact Tryz.slices_Contains_int_empty A c x w
  · have := Tryz.slices_Contains_int b o xs.length c xs x w (Nat.le_refl _) (by omega) hc
    rwa [List.take_length] at this

theorem contains_own {base p fuel : Nat} {σ : S} {μ : Vals} {loc : Nat → Res} {w : World} (H : Holds base w (full p fuel σ μ loc)) {vc : Value} {c : List Int} {k : Nat} (hl : loc k = .row vc 3 (ints c)) (h6 : c.length ≤ 60000) (x : Int) :
    Calls Tryz.prog 19 #[.slice (ad vc) c.length (cp vc), .int .i64 x] w fun e w' => e = .returned (.bool (c.contains x)) ∧ w' = w := by
  rcases Nat.eq_zero_or_pos c.length with h0 | hp
  · obtain rfl := List.eq_nil_of_length_eq_zero h0
    exact Tryz.slices_Contains_int_empty (ad vc) (cp vc) x w
  · rw [H.ad_ (k := .loc k) (t := 3) (xs := ints c) hl (by rw [ints_length]; exact hp)]
    have := Tryz.slices_Contains_int (gb vc) 0 c.length (cp vc) c x w (Nat.le_refl _) (by omega) (fun j hj => by rw [Nat.zero_add]; exact H.elem (k := .loc k) hl (ints_at c hj))
    rwa [List.take_length] at this
end Go.Proofs.YtdllaphnkbnpoaaGreat
