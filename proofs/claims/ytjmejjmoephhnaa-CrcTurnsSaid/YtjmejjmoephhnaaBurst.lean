/- Plain law: up to four bytes side by side that are turned turn the fold, unless each is turned by zero; no condition beside the lengths. -/
import Derived.Test.YtjmejjmoephhnaaMath
namespace Go.Proofs.Ytjmejjmoephhnaa

def xorz : List UInt8 → List UInt8 → List UInt8
  | e :: es, c :: l => (c ^^^ e) :: xorz es l
  | _, l => l
def dn (d : BitVec 32) : List UInt8 → BitVec 32
  | [] => d
  | e :: es => dn (bitN 8 (d ^^^ wd e)) es
def word : List UInt8 → BitVec 32
  | [] => 0#32
  | e :: es => wd e ^^^ (word es <<< 8)

theorem byte1_diff (x d : BitVec 32) (c e : UInt8) : byte1 (x ^^^ d) (c ^^^ e) = byte1 x c ^^^ bitN 8 (d ^^^ wd e) := by
  show bitN 8 (_ ^^^ wd _) = bitN 8 (_ ^^^ wd _) ^^^ _
  rw [wd_xor, xor_swap, bitN_xor]
theorem xor_self_iff (x d : BitVec 32) : x ^^^ d = x ↔ d = 0#32 := by
  constructor
  · intro h
    have := congrArg (x ^^^ ·) h
    simpa [← BitVec.xor_assoc] using this
  · intro h; rw [h]; simp
theorem fold_xorz (es : List UInt8) : ∀ (l : List UInt8) (x d : BitVec 32), es.length ≤ l.length →
    ((xorz es l).foldl byte1 (x ^^^ d) = l.foldl byte1 x ↔ dn d es = 0#32) := by
  induction es with
  | nil =>
    intro l x d _
    have e : xorz [] l = l := by cases l <;> rfl
    rw [e]
    show _ ↔ d = 0#32
    rw [← xor_self_iff x d]
    exact ⟨fun h => fold_left l _ _ h, fun h => by rw [h]⟩
  | cons e es ih =>
    intro l x d h
    cases l with
    | nil => simp at h
    | cons c l =>
      simp only [xorz, List.foldl_cons, byte1_diff, dn]
      exact ih l _ _ (by simpa using h)

theorem bitN_add (a b : Nat) (x : BitVec 32) : bitN (a + b) x = bitN a (bitN b x) := by
  induction a with
  | zero => simp [bitN]
  | succ a ih => rw [Nat.succ_add]; simp only [bitN, ih]
theorem bit1_shl (x : BitVec 32) (h : x.toNat < 2 ^ 31) : bit1 (x <<< 1) = x := by
  rw [bit1_eq]
  have : (x <<< 1).getLsbD 0 = false := by simp
  rw [this]
  show (x <<< 1) >>> 1 ^^^ 0#32 = x
  rw [BitVec.xor_zero]
  apply BitVec.eq_of_toNat_eq
  rw [BitVec.toNat_ushiftRight, BitVec.toNat_shiftLeft, Nat.shiftRight_eq_div_pow, Nat.shiftLeft_eq, Nat.mod_eq_of_lt (by omega)]
  omega
theorem bitN_shl (n : Nat) : ∀ (x : BitVec 32), n ≤ 32 → x.toNat < 2 ^ (32 - n) → bitN n (x <<< n) = x := by
  induction n with
  | zero => intro x _ _; simp [bitN]
  | succ n ih =>
    intro x hn h
    have hp : (2 : Nat) ^ (32 - n) = 2 * 2 ^ (32 - (n + 1)) := by
      rw [← Nat.pow_succ']; congr 1; omega
    have h31 : (2 : Nat) ^ (32 - (n + 1)) ≤ 2 ^ 31 := Nat.pow_le_pow_right (by omega) (by omega)
    have e : x <<< (n + 1) = (x <<< 1) <<< n := by
      rw [Nat.add_comm, BitVec.shiftLeft_add]
    rw [e]
    show bit1 (bitN n ((x <<< 1) <<< n)) = x
    rw [ih (x <<< 1) (by omega) ?_, bit1_shl x (by omega)]
    rw [BitVec.toNat_shiftLeft, Nat.shiftLeft_eq, Nat.mod_eq_of_lt (by omega)]
    omega
theorem wd_lt (e : UInt8) : (wd e).toNat < 2 ^ 8 := by
  have := e.toNat_lt
  unfold wd; rw [BitVec.toNat_ofNat, Nat.mod_eq_of_lt (by omega)]; omega
theorem word_lt (es : List UInt8) : es.length ≤ 4 → (word es).toNat < 2 ^ (8 * es.length) := by
  induction es with
  | nil => intro _; simp [word]
  | cons e es ih =>
    intro h
    have h3 : es.length ≤ 3 := by simpa using h
    have hl := ih (by omega)
    have hm : (2 : Nat) ^ (8 * (es.length + 1)) = 2 ^ (8 * es.length) * 2 ^ 8 := by rw [← Nat.pow_add]; congr 1
    have hb : (2 : Nat) ^ (8 * es.length) * 2 ^ 8 ≤ 2 ^ 32 := by rw [← hm]; exact Nat.pow_le_pow_right (by omega) (by omega)
    simp only [word, List.length_cons, BitVec.toNat_xor]
    apply Nat.xor_lt_two_pow
    · have := wd_lt e
      rw [hm]
      have h1 : 1 ≤ 2 ^ (8 * es.length) := Nat.one_le_two_pow
      omega
    · rw [BitVec.toNat_shiftLeft, Nat.shiftLeft_eq, Nat.mod_eq_of_lt (by omega), hm]
      omega
theorem dn_word (es : List UInt8) : ∀ d, es.length ≤ 4 → dn d es = bitN (8 * es.length) (d ^^^ word es) := by
  induction es with
  | nil => intro d _; simp [dn, word, bitN]
  | cons e es ih =>
    intro d h
    have h3 : es.length ≤ 3 := by simpa using h
    have hl := word_lt es (by omega)
    have hp : (2 : Nat) ^ (8 * es.length) ≤ 2 ^ (32 - 8) := Nat.pow_le_pow_right (by omega) (by omega)
    rw [dn, ih _ (by omega), List.length_cons, show 8 * (es.length + 1) = 8 * es.length + 8 from by omega, bitN_add]
    congr 1
    rw [word, ← BitVec.xor_assoc, bitN_xor 8 (d ^^^ wd e), bitN_shl 8 (word es) (by omega) (by omega)]
theorem word_zero (es : List UInt8) : es.length ≤ 4 → (word es = 0#32 ↔ ∀ e ∈ es, e = 0) := by
  induction es with
  | nil => intro _; simp [word]
  | cons e es ih =>
    intro h
    have h3 : es.length ≤ 3 := by simpa using h
    have hl := word_lt es (by omega)
    have hp : (2 : Nat) ^ (8 * es.length) ≤ 2 ^ 24 := Nat.pow_le_pow_right (by omega) (by omega)
    have hw := wd_lt e
    have hs : (word es <<< 8).toNat = (word es).toNat * 256 := by
      rw [BitVec.toNat_shiftLeft, Nat.shiftLeft_eq, Nat.mod_eq_of_lt (by omega)]
    constructor
    · intro hz
      have he : wd e = word es <<< 8 := xor_eq_zero _ _ hz
      have hn := congrArg BitVec.toNat he
      rw [hs] at hn
      have h0 : (word es).toNat = 0 := by omega
      have he0 : (wd e).toNat = 0 := by omega
      have hall := (ih (by omega)).1 (BitVec.eq_of_toNat_eq (by simpa using h0))
      intro x hx
      rcases List.mem_cons.1 hx with rfl | hx
      · unfold wd at he0
        have := x.toNat_lt
        rw [BitVec.toNat_ofNat, Nat.mod_eq_of_lt (by omega)] at he0
        exact UInt8.toNat_inj.1 (by simpa using he0)
      · exact hall x hx
    · intro hall
      have h1 := hall e (by simp)
      have h2 := (ih (by omega)).2 (fun x hx => hall x (by simp [hx]))
      rw [word, h2, h1]
      decide
theorem fold_burst (es l : List UInt8) (x : BitVec 32) (h4 : es.length ≤ 4) (hl : es.length ≤ l.length) :
    ((xorz es l).foldl byte1 x = l.foldl byte1 x ↔ ∀ e ∈ es, e = 0) := by
  have h := fold_xorz es l x 0#32 hl
  rw [BitVec.xor_zero] at h
  rw [h, dn_word es _ h4, BitVec.zero_xor, ← word_zero es h4]
  constructor
  · exact bitN_zero _ _
  · intro hz
    rw [hz]
    have h0 : bitN (8 * es.length) (0#32 ^^^ 0#32) = bitN (8 * es.length) 0#32 ^^^ bitN (8 * es.length) 0#32 := bitN_xor _ _ _
    simpa using h0
theorem crcI_burst (pre es l : List UInt8) (h4 : es.length ≤ 4) (hl : es.length ≤ l.length) :
    crcI (pre ++ xorz es l) = crcI (pre ++ l) ↔ ∀ e ∈ es, e = 0 := by
  rw [crcI_eq]
  unfold crcF
  rw [List.foldl_append, List.foldl_append]
  exact fold_burst es l _ h4 hl
theorem xorz_get (es : List UInt8) : ∀ (l : List UInt8) (j : Nat), (xorz es l)[j]? = (l[j]?).map fun c => if j < es.length then c ^^^ es.getD j 0 else c := by
  induction es with
  | nil => intro l j; cases l <;> simp [xorz]
  | cons e es ih =>
    intro l j
    cases l with
    | nil => simp [xorz]
    | cons c l =>
      cases j with
      | zero => simp [xorz]
      | succ j => simp [xorz, ih]
end Go.Proofs.Ytjmejjmoephhnaa
