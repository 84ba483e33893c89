/- The walk of crc.Sum and of the document's Sum: each answers the same plain fold over the bytes, for any string of at most maxLen bytes. -/
import Derived.Test.YtjmejjmoephhnaaRows
import Derived.WalkKit
import Derived.WalkSpells
import Derived.Lib.Hide
namespace Go.Proofs.Ytjmejjmoephhnaa
open Go.RowKit

/-- One bit. -/
def bit1 (x : BitVec 32) : BitVec 32 := if x &&& 1#32 = 1#32 then (x >>> 1) ^^^ 3988292384#32 else x >>> 1
def bitN : Nat → BitVec 32 → BitVec 32
  | 0, x => x
  | n + 1, x => bit1 (bitN n x)
/-- One byte. -/
def byte1 (x : BitVec 32) (c : UInt8) : BitVec 32 := bitN 8 (x ^^^ BitVec.ofNat 32 c.toNat)
def crcF (l : List UInt8) : BitVec 32 := l.foldl byte1 4294967295#32
def crcI (l : List UInt8) : Int := ((~~~ (crcF l)).toNat : Int)

theorem u32_wrap (x : BitVec 32) : IntKind.u32.wrap (x.toNat : Int) = (x.toNat : Int) := by
  have := x.isLt
  simp only [IntKind.wrap_u32]; omega
theorem ofI (x : BitVec 32) : BitVec.ofInt 32 (x.toNat : Int) = x := by
  simp
theorem bits_and32 (x : BitVec 32) : bits .and .u32 (x.toNat : Int) 1 = ((x &&& 1#32).toNat : Int) := by
  show IntKind.u32.wrap ((BitVec.ofInt 32 (x.toNat : Int) &&& BitVec.ofInt 32 1).toNat : Int) = _
  rw [ofI]; exact u32_wrap _
theorem bits_xor32 (x y : BitVec 32) : bits .xor .u32 (x.toNat : Int) (y.toNat : Int) = ((x ^^^ y).toNat : Int) := by
  show IntKind.u32.wrap ((BitVec.ofInt 32 (x.toNat : Int) ^^^ BitVec.ofInt 32 (y.toNat : Int)).toNat : Int) = _
  rw [ofI, ofI]; exact u32_wrap _
theorem shr32 (x : BitVec 32) : (x.toNat : Int) / (2 : Int) = ((x >>> 1).toNat : Int) := by
  rw [BitVec.toNat_ushiftRight, Nat.shiftRight_eq_div_pow]; omega
theorem take_snoc (s : ByteArray) (k : Nat) (h : k < s.size) : s.data.toList.take (k + 1) = s.data.toList.take k ++ [s[k]] := by
  rw [List.take_succ_eq_append_getElem (by simpa using h)]; rfl
theorem crcF_snoc (l : List UInt8) (c : UInt8) : crcF (l ++ [c]) = byte1 (crcF l) c := by simp [crcF]
theorem byteN (c : UInt8) : (c.toNat : Int) % 4294967296 = ((BitVec.ofNat 32 c.toNat).toNat : Int) := by
  have := c.toNat_lt
  rw [BitVec.toNat_ofNat]; omega

theorem ret_int {k : IntKind} {a b : Int} (h : a = b) : Ending.returned (.int k a) = .returned (.int k b) := by rw [h]
theorem xorC (x : BitVec 32) : bits .xor .u32 (x.toNat : Int) 3988292384 = ((x ^^^ 3988292384#32).toNat : Int) := bits_xor32 x 3988292384#32
theorem fin32 (x : BitVec 32) : bits .xor .u32 IntKind.u32.max (x.toNat : Int) = ((~~~ x).toNat : Int) := by
  have h := bits_xor32 4294967295#32 x
  have e : (4294967295#32 ^^^ x) = ~~~ x := by
    have e' : (4294967295#32 : BitVec 32) = BitVec.allOnes 32 := by decide
    rw [e', BitVec.allOnes_xor]
  rw [e] at h
  exact h
theorem and_eq (x : BitVec 32) : bits .and .u32 (x.toNat : Int) 1 = 1 ↔ x &&& 1#32 = 1#32 := by
  rw [bits_and32]
  constructor
  · intro h; apply BitVec.eq_of_toNat_eq; have : (1#32 : BitVec 32).toNat = 1 := rfl; omega
  · intro h; rw [h]; rfl
theorem and_one (x : BitVec 32) (h : (bits .and .u32 (x.toNat : Int) 1 == 1) = true) : x &&& 1#32 = 1#32 := (and_eq x).1 (by simpa using h)
theorem and_none (x : BitVec 32) (h : (bits .and .u32 (x.toNat : Int) 1 == 1) = false) : ¬ x &&& 1#32 = 1#32 := fun g => by
  have := (and_eq x).2 g
  simp [this] at h

set_option maxHeartbeats 400000 in
theorem sum_any (s : ByteArray) (w : World) (hs : s.size ≤ maxLen) :
    Calls Try.prog 8 #[.string s] w fun e w' => e = .returned (.int .u32 (crcI s.data.toList)) ∧ w' = w := by
  unfold maxLen at hs
  go_enter Try.func8, Try.ntmps8
  go_wp2
  go_loop [3, 7] (fun n i => ∃ k : Nat, k ≤ s.size ∧ i = .int .i64 k ∧ n = .int .u32 ((crcF (s.data.toList.take k)).toNat : Int)) (fun _ i => s.size - (intOf i).toNat)
  case atStart => exact ⟨0, Nat.zero_le _, rfl, rfl⟩
  case round =>
    obtain ⟨k, hk, rfl, rfl⟩ := hrel
    generalize hX : crcF (s.data.toList.take k) = X
    have hXi := X.isLt
    by_cases hlt : k < s.size
    · have hX' : Hid (crcF (s.data.toList.take k) = X) := Lib.hid hX
      clear hX
      go_wp2
      go_loop [3, 16] (fun n i => ∃ j : Nat, j ≤ 8 ∧ i = .int .i64 j ∧ n = .int .u32 ((bitN j (X ^^^ BitVec.ofNat 32 (s[k]).toNat)).toNat : Int)) (fun _ i => 8 - (intOf i).toNat)
      case atStart => exact ⟨0, by omega, rfl, by rw [byteN, bits_xor32]; rfl⟩
      case round =>
        obtain ⟨j, hj, rfl, rfl⟩ := hrel
        generalize hY : bitN j (X ^^^ BitVec.ofNat 32 (s[k]).toNat) = Y
        have hYi := Y.isLt
        by_cases hj8 : j < 8
        · have hY' : Hid (bitN j (X ^^^ BitVec.ofNat 32 (s[k]).toNat) = Y) := Lib.hid hY
          clear hY
          go_wp2
          · have hb : (bits .and .u32 (Y.toNat : Int) 1 == 1) = true := by assumption
            go_round
            case rel =>
              refine ⟨j + 1, by omega, by go_num, ?_⟩
              rw [bitN, hY'.out, bit1, if_pos (and_one Y hb), shr32, xorC]
            case measure => simp [intOf]; omega
          · have hb : (bits .and .u32 (Y.toNat : Int) 1 == 1) = false := by assumption
            go_round
            case rel =>
              refine ⟨j + 1, by omega, by go_num, ?_⟩
              rw [bitN, hY'.out, bit1, if_neg (and_none Y hb), shr32]
            case measure => simp [intOf]; omega
        · obtain rfl : j = 8 := by omega
          have hY' : Hid (bitN 8 (X ^^^ BitVec.ofNat 32 (s[k]).toNat) = Y) := Lib.hid hY
          clear hY
          have HS : Hid (crcF (s.data.toList.take (k + 1)) = Y) := by
            refine Lib.hid ?_
            rw [take_snoc s k hlt, crcF_snoc, hX'.out, ← hY'.out]; rfl
          go_wp2
          go_round
          case rel => exact ⟨k + 1, by omega, by go_num, by rw [HS.out]⟩
          case measure => simp [intOf]; omega
    · have hX' : Hid (crcF (s.data.toList.take k) = X) := Lib.hid hX
      clear hX
      go_wp2
      go_ret
      refine ⟨ret_int ?_, rfl⟩
      rw [fin32, crcI, ← hX'.out, List.take_of_length_le (by simp; omega)]
end Go.Proofs.Ytjmejjmoephhnaa
