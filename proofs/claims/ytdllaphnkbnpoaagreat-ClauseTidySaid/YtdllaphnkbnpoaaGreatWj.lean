/- Walks over package search: next. -/
import Derived.Test.YtdllaphnkbnpoaaGreatWi
namespace Go.Proofs.YtdllaphnkbnpoaaGreat
open Go.RowKit Go.Proofs

theorem next_any {base p fuel : Nat} {σ : S} {μ : Vals} {loc : Nat → Res} {w : World} (H : Holds base w (full p fuel σ μ loc)) (he : σ.even) (h0 : 0 < σ.value.length) (h1 : σ.value.length ≤ 60000) :
    Calls Tryz.prog 90 #[.pointer (some ⟨p, 0, none⟩), .slice none 0 0] w fun e w' => e = .returned (.tuple #[.int .i64 σ.decide_, .bool false]) ∧ ∃ n, w' = w.drewN n := by
  have c12 := full_c12 H
  have g1 : decide ((σ.marks.length : Int) < ((0 : Nat) : Int)) = false := decide_eq_false (by omega)
  have g2 : decide ((σ.marks.length : Int) < 0) = false := decide_eq_false (by omega)
  have D := decide_any H he h0 h1
  clear H he
  go_enter Tryz.func90, Tryz.ntmps90
  go_wp2_with fail
  go_loopg [11] 0 (fun k x0 wr => wr = w)
  case atStart => rfl
  case round =>
    obtain rfl := hrel
    go_wp2_with fail
    refine D.mono ?_
    rintro e w' ⟨rfl, hn⟩
    have NN : Hid _ := hn
    clear hn
    go_wp2_with fail
    go_ret2
    exact ⟨rfl, NN.out⟩
end Go.Proofs.YtdllaphnkbnpoaaGreat
