/- Plain laws of the fold: one bit is linear and never loses anything; no condition. -/
import Derived.Test.YtjmejjmoephhnaaSum
namespace Go.Proofs.Ytjmejjmoephhnaa

theorem lsb_iff (x : BitVec 32) : x &&& 1#32 = 1#32 ↔ x.getLsbD 0 = true := by
  constructor
  · intro h
    have := congrArg (fun y => y.getLsbD 0) h
    simpa using this
  · intro h
    apply BitVec.eq_of_getLsbD_eq
    intro i hi
    by_cases hi0 : i = 0
    · subst hi0; simpa using h
    · have : (1#32 : BitVec 32).getLsbD i = false := by
        simp only [BitVec.getLsbD_one]; simp [hi0]
      simp only [BitVec.getLsbD_and, this, Bool.and_false]

def polyOf (b : Bool) : BitVec 32 := if b then 3988292384#32 else 0#32
theorem poly_xor (a b : Bool) : polyOf (a ^^ b) = polyOf a ^^^ polyOf b := by cases a <;> cases b <;> decide

theorem bit1_eq (x : BitVec 32) : bit1 x = (x >>> 1) ^^^ polyOf (x.getLsbD 0) := by
  unfold bit1 polyOf
  by_cases h : x.getLsbD 0 = true
  · rw [if_pos ((lsb_iff x).2 h), if_pos h]
  · rw [if_neg (fun g => h ((lsb_iff x).1 g)), if_neg h]; simp

theorem xor_swap (a b c d : BitVec 32) : (a ^^^ b) ^^^ (c ^^^ d) = (a ^^^ c) ^^^ (b ^^^ d) := by
  rw [BitVec.xor_assoc, BitVec.xor_assoc, ← BitVec.xor_assoc b c d, BitVec.xor_comm b c, BitVec.xor_assoc c b d]

theorem bit1_xor (x y : BitVec 32) : bit1 (x ^^^ y) = bit1 x ^^^ bit1 y := by
  simp only [bit1_eq, BitVec.getLsbD_xor, poly_xor, BitVec.ushiftRight_xor_distrib]
  exact xor_swap _ _ _ _
theorem bitN_xor (n : Nat) (x y : BitVec 32) : bitN n (x ^^^ y) = bitN n x ^^^ bitN n y := by
  induction n with
  | zero => rfl
  | succ n ih => simp only [bitN, ih, bit1_xor]
theorem bit1_zero (x : BitVec 32) (h : bit1 x = 0#32) : x = 0#32 := by
  rw [bit1_eq] at h
  have h31 := congrArg (fun y => y.getLsbD 31) h
  have hlow : x.getLsbD 0 = false := by
    cases hb : x.getLsbD 0 with
    | false => rfl
    | true =>
      rw [hb] at h31
      simp [polyOf] at h31
  rw [hlow] at h
  simp only [polyOf, Bool.false_eq_true, if_false, BitVec.xor_zero] at h
  apply BitVec.eq_of_getLsbD_eq
  intro i hi
  by_cases hi0 : i = 0
  · subst hi0; simpa using hlow
  · have := congrArg (fun y => y.getLsbD (i - 1)) h
    simp only [BitVec.getLsbD_ushiftRight] at this
    rw [show 1 + (i - 1) = i from by omega] at this
    simpa using this
theorem bitN_zero (n : Nat) : ∀ (x : BitVec 32), bitN n x = 0#32 → x = 0#32 := by
  induction n with
  | zero => intro x h; exact h
  | succ n ih => intro x h; exact ih _ (bit1_zero _ h)
theorem xor_eq_zero (x y : BitVec 32) (h : x ^^^ y = 0#32) : x = y := by
  have := congrArg (· ^^^ y) h
  simpa [BitVec.xor_assoc] using this
theorem bitN_inj (n : Nat) (x y : BitVec 32) (h : bitN n x = bitN n y) : x = y :=
  xor_eq_zero _ _ (bitN_zero n _ (by rw [bitN_xor, h, BitVec.xor_self]))

theorem byte1_left (x y : BitVec 32) (c : UInt8) (h : byte1 x c = byte1 y c) : x = y := by
  have := bitN_inj 8 _ _ h
  have := congrArg (· ^^^ BitVec.ofNat 32 c.toNat) this
  simpa [BitVec.xor_assoc] using this
theorem fold_left (l : List UInt8) : ∀ (x y : BitVec 32), l.foldl byte1 x = l.foldl byte1 y → x = y := by
  induction l with
  | nil => intro x y h; exact h
  | cons c l ih => intro x y h; exact byte1_left _ _ c (ih _ _ h)
theorem not_inj (x y : BitVec 32) (h : ~~~ x = ~~~ y) : x = y := by
  have := congrArg (fun z => ~~~ z) h
  simpa using this
theorem crcI_eq (l m : List UInt8) : crcI l = crcI m ↔ crcF l = crcF m := by
  unfold crcI
  constructor
  · intro h; exact not_inj _ _ (BitVec.eq_of_toNat_eq (by omega))
  · intro h; rw [h]
theorem crcI_append (x y c : List UInt8) : crcI (x ++ c) = crcI (y ++ c) ↔ crcI x = crcI y := by
  rw [crcI_eq, crcI_eq]
  unfold crcF
  rw [List.foldl_append, List.foldl_append]
  exact ⟨fun h => fold_left c _ _ h, fun h => by rw [h]⟩

/-- A byte as a word. -/
def wd (c : UInt8) : BitVec 32 := BitVec.ofNat 32 c.toNat
theorem wd_xor (a b : UInt8) : wd (a ^^^ b) = wd a ^^^ wd b := by
  unfold wd
  apply BitVec.eq_of_toNat_eq
  have ha := a.toNat_lt; have hb := b.toNat_lt
  have h : (a.toNat ^^^ b.toNat) < 2 ^ 8 := Nat.xor_lt_two_pow (by omega) (by omega)
  rw [UInt8.toNat_xor, BitVec.toNat_xor, BitVec.toNat_ofNat, BitVec.toNat_ofNat, BitVec.toNat_ofNat, Nat.mod_eq_of_lt (by omega), Nat.mod_eq_of_lt (by omega), Nat.mod_eq_of_lt (by omega)]
theorem byte1_xor3 (x y z : BitVec 32) (a b c : UInt8) : byte1 (x ^^^ y ^^^ z) (a ^^^ b ^^^ c) = byte1 x a ^^^ byte1 y b ^^^ byte1 z c := by
  show bitN 8 (_ ^^^ wd _) = bitN 8 (_ ^^^ wd _) ^^^ bitN 8 (_ ^^^ wd _) ^^^ bitN 8 (_ ^^^ wd _)
  rw [wd_xor, wd_xor, ← bitN_xor, ← bitN_xor]
  congr 1
  rw [xor_swap x (wd a), xor_swap (x ^^^ y)]

/-- Three texts of one length, mixed. -/
def mix : List UInt8 → List UInt8 → List UInt8 → List UInt8
  | a :: l, b :: m, c :: n => (a ^^^ b ^^^ c) :: mix l m n
  | _, _, _ => []
theorem fold_mix (l : List UInt8) : ∀ (m n : List UInt8) (x y z : BitVec 32), l.length = m.length → m.length = n.length →
    (mix l m n).foldl byte1 (x ^^^ y ^^^ z) = l.foldl byte1 x ^^^ m.foldl byte1 y ^^^ n.foldl byte1 z := by
  induction l with
  | nil =>
    intro m n x y z h1 h2
    have hm : m = [] := List.length_eq_zero_iff.1 (by simpa using h1.symm)
    subst hm
    have hn : n = [] := List.length_eq_zero_iff.1 (by simpa using h2.symm)
    subst hn
    rfl
  | cons a l ih =>
    intro m n x y z h1 h2
    cases m with
    | nil => simp at h1
    | cons b m =>
      cases n with
      | nil => simp at h2
      | cons c n =>
        simp only [mix, List.foldl_cons, byte1_xor3]
        exact ih m n _ _ _ (by simpa using h1) (by simpa using h2)
theorem not_xor3 (x y z : BitVec 32) : ~~~ (x ^^^ y ^^^ z) = ~~~ x ^^^ ~~~ y ^^^ ~~~ z := by
  apply BitVec.eq_of_getLsbD_eq
  intro i hi
  simp [hi]
theorem crcF_mix (l m n : List UInt8) (h1 : l.length = m.length) (h2 : m.length = n.length) :
    ~~~ (crcF (mix l m n)) = ~~~ (crcF l) ^^^ ~~~ (crcF m) ^^^ ~~~ (crcF n) := by
  rw [← not_xor3]
  unfold crcF
  rw [← fold_mix l m n _ _ _ h1 h2]
  congr 1
theorem crcI_mix (l m n : List UInt8) (h1 : l.length = m.length) (h2 : m.length = n.length) :
    bits .xor .u32 (bits .xor .u32 (crcI l) (crcI m)) (crcI n) = crcI (mix l m n) := by
  unfold crcI
  rw [bits_xor32, bits_xor32, crcF_mix l m n h1 h2]

end Go.Proofs.Ytjmejjmoephhnaa
