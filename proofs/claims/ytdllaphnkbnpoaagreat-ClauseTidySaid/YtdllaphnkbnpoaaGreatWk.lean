/- slices.Clone of a clause that is owned. -/
import Derived.Test.YtdllaphnkbnpoaaGreatWj
import Derived.Test.YtdllaphnkbnpoaaGreatShelf
namespace Go.Proofs.YtdllaphnkbnpoaaGreat
open Go.RowKit Go.Proofs

/-- What a call laid into new memory comes to what is owned. -/
theorem Holds.laid {base : Nat} {w w' : World} {L : Key → Res} (h : Holds base w L) (k : Key) {v : Value} {t : TypeId} {n : Nat} {xs : List Value} (ho : w'.ownsRow w.heap.size t 1 v n xs) (hn : xs.length = n) (hb : Below w.heap.size w w') (hbase : base ≤ w.heap.size) :
    Holds base w' (upd L k (.row v t xs)) := by
  refine h.put k _ (row := none) ⟨hb.os, hb.tape, hb.output, hb.size, fun b hlt _ => hb.block b hlt⟩ (fun b hb => by cases hb) ?_ (fun b hb' => .inr (ho.lt b hb').1) hbase
  subst hn
  show World.ownsRow _ _ _ _ _ _ _
  refine ⟨ho.1, ?_⟩
  rcases ho.2 with h1 | ⟨g, cap, cur, h1, h2, h3⟩
  · exact .inl h1
  · exact .inr ⟨g, cap, cur, h1, Nat.zero_le _, h3⟩

theorem clone_any {base p fuel : Nat} {σ : S} {μ : Vals} {loc : Nat → Res} {w : World} (H : Holds base w (full p fuel σ μ loc)) {vc : Value} {c : List Int} {k : Nat} (hl : loc k = .row vc 3 (ints c)) (hp : 0 < c.length) (h6 : c.length ≤ 60000) (k' : Nat) :
    Calls Tryz.prog 53 #[.slice (some ⟨gb vc, 0, none⟩) c.length (cp vc)] w fun e w' => ∃ v', e = .returned v' ∧ Holds base w' (full p fuel σ μ (setLoc loc k' (.row v' 3 (ints c)))) ∧ Below base w w' := by
  have hc : ∀ j, j < c.length → w.cell? ⟨gb vc, 0 + j, none⟩ = some (.int .i64 (c.getD j 0)) := by
    intro j hj
    have := H.elem (k := .loc k) hl (ints_at c hj)
    rw [Nat.zero_add]
    exact this
  refine (Tryz.slices_Clone_int (gb vc) 0 c.length (cp vc) c w (Nat.le_refl _) (by omega) hc).mono ?_
  rintro e w' ⟨v', rfl, ho, _, hb⟩
  have hbase := full_base H
  have H1 := H.laid (.loc k') ho (by simp) hb hbase
  rw [upd_loc, List.take_length] at H1
  exact ⟨v', rfl, H1, ⟨hb.os, hb.tape, hb.output, hb.size, fun j hj => hb.block j (by omega)⟩⟩
end Go.Proofs.YtdllaphnkbnpoaaGreat
