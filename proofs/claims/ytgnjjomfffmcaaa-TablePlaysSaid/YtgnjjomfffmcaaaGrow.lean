/- The walk of grow. No condition of its own. -/
import Derived.Test.YtgnjjomfffmcaaaPut
namespace Go.Proofs.Ytgnjjomfffmcaaa
open Go.RowKit

set_option maxHeartbeats 400000 in
theorem grow_skip (w : World) (T C n used : Nat) (hTl : T < w.heap.size) (c0 : w.cell? ⟨T, 0, none⟩ = some (.slice (some ⟨C, 0, none⟩) n n)) (c2 : w.cell? ⟨T, 2, none⟩ = some (.int .i64 used)) (hn : n ≤ 100000000) (hu : 2 * (used + 1) ≤ n) :
    Calls Try.prog 22 #[.pointer (some ⟨T, 0, none⟩)] w fun e w' => e = .returned (.tuple #[]) ∧ Tch [] w w' := by
  have hb : decide ((2 : Int) * ((used : Int) + 1) ≤ (n : Int)) = true := decide_eq_true_iff.2 (by omega)
  go_enter Try.func22, Try.ntmps22
  go_wp2
  go_quiet (fail)
  go_wp2
  exact bodyPost_ret (v := .tuple #[]) (by simp [results, Try.results22, go_sem]) rfl ⟨rfl, (Tch.refl _ _).drewN _⟩
end Go.Proofs.Ytgnjjomfffmcaaa
