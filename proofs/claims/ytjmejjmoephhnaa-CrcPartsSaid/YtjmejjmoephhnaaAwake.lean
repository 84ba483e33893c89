/- The walks of the document's Sum and of awake: awake answers true. -/
import Derived.Test.YtjmejjmoephhnaaSum
namespace Go.Proofs.Ytjmejjmoephhnaa
open Go.RowKit

theorem crc_check : crcI [49, 50, 51, 52, 53, 54, 55, 56, 57] = 3421780262 := by decide +kernel
theorem crc_nil : crcI [] = 0 := by decide +kernel

theorem sum_at (s : ByteArray) (n : Int) (w : World) (hs : s.size ≤ maxLen) (hn : crcI s.data.toList = n) :
    Calls Try.prog 8 #[.string s] w fun e w' => e = .returned (.int .u32 n) ∧ w = w' := by
  subst hn
  exact (sum_any s w hs).mono fun e w' h => ⟨h.1, h.2.symm⟩

theorem sum_nine (w : World) : Calls Try.prog 8 #[.string ⟨#[49, 50, 51, 52, 53, 54, 55, 56, 57]⟩] w fun e w' => e = .returned (.int .u32 3421780262) ∧ w = w' :=
  sum_at _ _ w (by unfold maxLen; show 9 ≤ _; omega) crc_check
theorem sum_none (w : World) : Calls Try.prog 8 #[.string ⟨#[]⟩] w fun e w' => e = .returned (.int .u32 0) ∧ w = w' :=
  sum_at _ _ w (by unfold maxLen; show 0 ≤ _; omega) crc_nil

set_option maxHeartbeats 400000 in
theorem awake_any (w : World) : Calls Try.prog 7 #[] w fun e w' => e = .returned (.bool true) ∧ w = w' := by
  go_enter Try.func7, Try.ntmps7
  go_wp2_with (go_at_call 8; first | ((with_reducible refine (sum_nine _).mono ?_); rintro e w' ⟨rfl, rfl⟩) | ((with_reducible refine (sum_none _).mono ?_); rintro e w' ⟨rfl, rfl⟩))
  go_ret
  exact ⟨rfl, rfl⟩
end Go.Proofs.Ytjmejjmoephhnaa
