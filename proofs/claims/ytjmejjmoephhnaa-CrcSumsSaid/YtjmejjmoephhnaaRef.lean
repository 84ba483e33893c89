/- The walk of the document's Sum: it answers the same plain fold over the bytes, for any string of at most maxLen bytes. -/
import Derived.Test.YtjmejjmoephhnaaSum
namespace Go.Proofs.Ytjmejjmoephhnaa
open Go.RowKit

set_option maxHeartbeats 400000 in
theorem ref_any (s : ByteArray) (w : World) (hs : s.size ≤ maxLen) :
    Calls Try.prog 9 #[.string s] w fun e w' => e = .returned (.int .u32 (crcI s.data.toList)) ∧ w' = w := by
  unfold maxLen at hs
  go_enter Try.func9, Try.ntmps9
  go_wp2
  go_loop [3, 4] (fun n i => ∃ k : Nat, k ≤ s.size ∧ i = .int .i64 k ∧ n = .int .u32 ((crcF (s.data.toList.take k)).toNat : Int)) (fun _ i => s.size - (intOf i).toNat)
  case atStart => exact ⟨0, Nat.zero_le _, rfl, rfl⟩
  case round =>
    obtain ⟨k, hk, rfl, rfl⟩ := hrel
    generalize hX : crcF (s.data.toList.take k) = X
    have hXi := X.isLt
    by_cases hlt : k < s.size
    · have hX' : Hid (crcF (s.data.toList.take k) = X) := Lib.hid hX
      clear hX
      go_wp2
      go_loop [3, 5] (fun n i => ∃ j : Nat, j ≤ 8 ∧ i = .int .i64 j ∧ n = .int .u32 ((bitN j (X ^^^ BitVec.ofNat 32 (s[k]).toNat)).toNat : Int)) (fun _ i => 8 - (intOf i).toNat)
      case atStart => exact ⟨0, by omega, rfl, by rw [byteN, bits_xor32]; rfl⟩
      case round =>
        obtain ⟨j, hj, rfl, rfl⟩ := hrel
        generalize hY : bitN j (X ^^^ BitVec.ofNat 32 (s[k]).toNat) = Y
        have hYi := Y.isLt
        by_cases hj8 : j < 8
        · have hY' : Hid (bitN j (X ^^^ BitVec.ofNat 32 (s[k]).toNat) = Y) := Lib.hid hY
          clear hY
          go_wp2
          · have hb : (bits .and .u32 (Y.toNat : Int) 1 == 1) = true := by assumption
            go_round
            case rel =>
              refine ⟨j + 1, by omega, by go_num, ?_⟩
              rw [bitN, hY'.out, bit1, if_pos (and_one Y hb), shr32, xorC]
            case measure => simp [intOf]; omega
          · have hb : (bits .and .u32 (Y.toNat : Int) 1 == 1) = false := by assumption
            go_round
            case rel =>
              refine ⟨j + 1, by omega, by go_num, ?_⟩
              rw [bitN, hY'.out, bit1, if_neg (and_none Y hb), shr32]
            case measure => simp [intOf]; omega
        · obtain rfl : j = 8 := by omega
          have hY' : Hid (bitN 8 (X ^^^ BitVec.ofNat 32 (s[k]).toNat) = Y) := Lib.hid hY
          clear hY
          have HS : Hid (crcF (s.data.toList.take (k + 1)) = Y) := by
            refine Lib.hid ?_
            rw [take_snoc s k hlt, crcF_snoc, hX'.out, ← hY'.out]; rfl
          go_wp2
          go_round
          case rel => exact ⟨k + 1, by omega, by go_num, by rw [HS.out]⟩
          case measure => simp [intOf]; omega
    · have hX' : Hid (crcF (s.data.toList.take k) = X) := Lib.hid hX
      clear hX
      go_wp2
      go_ret
      refine ⟨ret_int ?_, rfl⟩
      rw [fin32, crcI, ← hX'.out, List.take_of_length_le (by simp; omega)]
end Go.Proofs.Ytjmejjmoephhnaa
