/- CrcMixes holds: the sums of three texts of one length, mixed, are that of the three, mixed; for every three strings. -/
import Derived.Test.YtjmejjmoephhnaaAwake
import Derived.Test.YtjmejjmoephhnaaMath
import Derived.Test.YtjmejjmoephhnaaClose
import Derived.WalkLawsBesides
import Derived.Deep.QuietTactic
import Derived.BigQuiet
import Derived.BigRegion
import Derived.Laws.BytesArg
namespace Go.Proofs.Ytjmejjmoephhnaa
open Go.ChangeShapes Go.WideShapes Go.ChangeAt Go.RowKit
open Go.ChangeMaps (open_string shut_string)

theorem min2_nat (k : IntKind) (x y : Nat) : Builtin.min2 (.int k (x : Int)) (.int k (y : Int)) = pure (.int k ((min x y : Nat) : Int)) := by
  simp only [Builtin.min2]
  by_cases h : (y : Int) < x
  · rw [if_pos h, show min x y = y from by omega]
  · rw [if_neg h, show min x y = x from by omega]
theorem min4_nat (ats : Array TypeId) (ty : TypeId) (k : IntKind) (a b c d : Nat) (n : Nat) (hn : min (min (min a b) c) d = n) :
    Builtin.min_ ats ty #[.int k (a : Int), .int k (b : Int), .int k (c : Int), .int k (d : Int)] = pure (.int k (n : Int)) := by
  subst hn
  simp [Builtin.min_, min2_nat]
theorem info5 : (Try.prog.info? 5).map (fun i => (i.zero, i.size, i.bytes)) = some (some (.int .u8 0), 1, 1) := by kernel_rfl

/-- The byte that the round lays. -/
def mixAt (a b c : ByteArray) (j : Nat) : Int := bits .xor .u8 (bits .xor .u8 ((a.data.toList.getD j 0).toNat : Int) ((b.data.toList.getD j 0).toNat : Int)) ((c.data.toList.getD j 0).toNat : Int)
def mixCells (a b c : ByteArray) (n k : Nat) : Array Value := ((List.range n).map fun j => Value.int .u8 (if j < k then mixAt a b c j else 0)).toArray
theorem mixCells_zero (a b c : ByteArray) (n : Nat) : mixCells a b c n 0 = Array.replicate n (.int .u8 0) := by
  apply Array.toList_inj.1
  simp [mixCells]
  apply List.ext_getElem <;> simp
theorem mixCells_get (a b c : ByteArray) (n k o : Nat) (h : o < n) : (mixCells a b c n k)[o]? = some (.int .u8 (if o < k then mixAt a b c o else 0)) := by
  simp [mixCells, h]
theorem mixCells_set (a b c : ByteArray) (n k : Nat) (h : k < n) : (mixCells a b c n k).setIfInBounds k (.int .u8 (mixAt a b c k)) = mixCells a b c n (k + 1) := by
  apply Array.ext_getElem?
  intro i
  simp only [mixCells, Array.getElem?_setIfInBounds]
  by_cases hi : i < n
  · by_cases hk : k = i
    · subst hk; simp [hi]
    · simp only [hk, if_false]
      simp [hi]
      by_cases g : i < k
      · rw [if_pos g, if_pos (by omega)]
      · rw [if_neg g, if_neg (by omega)]
  · have h1 : k ≠ i := by omega
    simp [hi, h1]

theorem byte_at (a : ByteArray) (k : Nat) (h : k < a.size) : a.data.toList.getD k 0 = a[k] := by
  have : k < a.data.toList.length := by simpa using h
  rw [List.getD_eq_getElem?_getD, List.getElem?_eq_getElem this]
  rfl
theorem bits_xor8 (x y : UInt8) : bits .xor .u8 (x.toNat : Int) (y.toNat : Int) = ((x ^^^ y).toNat : Int) := by
  have hx := x.toNat_lt; have hy := y.toNat_lt
  show IntKind.u8.wrap ((BitVec.ofInt 8 (x.toNat : Int) ^^^ BitVec.ofInt 8 (y.toNat : Int)).toNat : Int) = _
  have h : (x.toNat ^^^ y.toNat) < 2 ^ 8 := Nat.xor_lt_two_pow (by omega) (by omega)
  rw [IntKind.wrap_u8, UInt8.toNat_xor, BitVec.ofInt_natCast, BitVec.ofInt_natCast, BitVec.toNat_xor, BitVec.toNat_ofNat, BitVec.toNat_ofNat, Nat.mod_eq_of_lt (by omega), Nat.mod_eq_of_lt (by omega)]
  omega
theorem mix_get (l : List UInt8) : ∀ (m n : List UInt8), l.length = m.length → m.length = n.length → ∀ j, (h : j < l.length) → (mix l m n)[j]? = some (l.getD j 0 ^^^ m.getD j 0 ^^^ n.getD j 0) := by
  induction l with
  | nil => intro m n _ _ j h; simp at h
  | cons a l ih =>
    intro m n h1 h2 j h
    cases m with
    | nil => simp at h1
    | cons b m =>
      cases n with
      | nil => simp at h2
      | cons c n =>
        cases j with
        | zero => simp [mix]
        | succ j =>
          have := ih m n (by simpa using h1) (by simpa using h2) j (by simpa using h)
          simpa [mix] using this
theorem mix_len (l : List UInt8) : ∀ (m n : List UInt8), l.length = m.length → m.length = n.length → (mix l m n).length = l.length := by
  induction l with
  | nil => intro m n _ _; cases m <;> rfl
  | cons a l ih =>
    intro m n h1 h2
    cases m with
    | nil => simp at h1
    | cons b m =>
      cases n with
      | nil => simp at h2
      | cons c n => simp [mix, ih m n (by simpa using h1) (by simpa using h2)]
theorem ext_get (a : ByteArray) (k j : Nat) (hk : k ≤ a.size) (h : j < k) : (a.extract 0 k).data.toList.getD j 0 = a.data.toList.getD j 0 := by
  rw [byte_at a j (by omega), byte_at _ j (by simp; omega)]
  simp [ByteArray.getElem_extract]
theorem mix_str (a b c : ByteArray) (k : Nat) (ha : k ≤ a.size) (hb : k ≤ b.size) (hc : k ≤ c.size) :
    (strOfNums ((List.range k).map (mixAt a b c))).data.toList = mix (a.extract 0 k).data.toList (b.extract 0 k).data.toList (c.extract 0 k).data.toList := by
  have e1 : (a.extract 0 k).data.toList.length = k := by simp; omega
  have e2 : (b.extract 0 k).data.toList.length = k := by simp; omega
  have e3 : (c.extract 0 k).data.toList.length = k := by simp; omega
  rw [strOfNums_data]
  apply List.ext_getElem?
  intro j
  by_cases h : j < k
  · rw [mix_get _ _ _ (by omega) (by omega) j (by omega), ext_get a k j ha h, ext_get b k j hb h, ext_get c k j hc h]
    simp only [List.getElem?_map, List.getElem?_range h, Option.map_some, mixAt, bits_xor8, Int.toNat_natCast, UInt8.ofNat_toNat]
  · rw [List.getElem?_eq_none (by simp; omega), List.getElem?_eq_none (by rw [mix_len _ _ _ (by omega) (by omega)]; omega)]
theorem awake_any' (w : World) : Calls Try.prog 7 #[] w fun e w' => e = .returned (.bool true) ∧ w' = w := (awake_any w).mono fun _ _ h => ⟨h.1, h.2.symm⟩
theorem sum_at' (s : ByteArray) (n : Int) (w : World) (hs : s.size ≤ maxLen) (hn : crcI s.data.toList = n) :
    Calls Try.prog 8 #[.string s] w fun e w' => e = .returned (.int .u32 n) ∧ w' = w := (sum_at s n w hs hn).mono fun _ _ h => ⟨h.1, h.2.symm⟩

set_option maxHeartbeats 400000 in
theorem mixes_any (a b c : ByteArray) (w : World) (ha : a.size ≤ maxLen) (hb : b.size ≤ maxLen) (hc : c.size ≤ maxLen) :
    Calls Try.prog 5 #[.string a, .string b, .string c] w fun e w' => e = .returned (.bool true) ∧ Below w.heap.size w w' := by
  unfold maxLen at ha hb hc
  obtain ⟨n, hn⟩ : ∃ n, min (min (min a.size b.size) c.size) 2000 = n := ⟨_, rfl⟩
  have hm : ∀ ats ty, Builtin.min_ ats ty #[.int .i64 (a.size : Int), .int .i64 (b.size : Int), .int .i64 (c.size : Int), .int .i64 2000] = pure (.int .i64 (n : Int)) := fun ats ty => min4_nat ats ty .i64 a.size b.size c.size 2000 n hn
  have hna : n ≤ a.size := by omega
  have hnb : n ≤ b.size := by omega
  have hnc : n ≤ c.size := by omega
  have hn2 : n ≤ 2000 := by omega
  clear hn
  obtain ⟨i0, hi, hz0, hz1, hz2⟩ := info_parts info5
  have hmk : ∀ w : World, (Instr.makeSlice 27 (.int .i64 (n : Int)) (.int .i64 (n : Int))).run Try.prog w = .ok (.slice (some ⟨w.heap.size, 0, none⟩) n n) (w.alloc (.cells (mixCells a b c n 0) 5)) := by
    intro w
    rw [run_make_at 27 5 i0 _ Try.underlying27 hi hz0 n (by rw [hz2]; omega) (by omega) w, hz1, mixCells_zero]
    show _ = Result.ok _ (w.alloc (.cells (Array.replicate n _) 5))
    rw [← made_one, Nat.mul_one]
    rfl
  clear hi hz0 hz1 hz2
  go_enter Try.func5, Try.ntmps5
  go_wp2
  clear hm hmk
  obtain ⟨B, hB⟩ : ∃ B, w.heap.size = B := ⟨_, rfl⟩
  rw [hB]
  go_loopw [9] (fun i wr => ∃ k : Nat, k ≤ n ∧ i = .int .i64 k ∧ wr.heap[B]? = some (.cells (mixCells a b c n k) 5 (0, 0)) ∧ Below B w wr) (fun i _ => n - (intOf i).toNat)
  case atStart => exact ⟨0, Nat.zero_le _, rfl, by rw [← hB]; exact heap_new _ _, (Below.refl _ _).alloc (by omega) _⟩
  case round =>
    obtain ⟨k, hk, rfl, hcs, hbl⟩ := hrel
    have hcs' := hcs
    have HB := Lib.hid hB
    have HC := Lib.hid hcs
    clear hcs hcs' hB
    by_cases hlt : k < n
    · have hcell : wr.cell? ⟨B, k, none⟩ = some (.int .u8 0) := by rw [cell_of HC.out, mixCells_get _ _ _ _ _ _ hlt]; simp
      have hfz : wr.frozen? ⟨B, k, none⟩ = false := frozen_of HC.out k
      have ka : k < a.size := by omega
      have kb : k < b.size := by omega
      have kc : k < c.size := by omega
      go_wp2
      go_region
      go_wp2
      go_roundw
      case rel =>
        refine ⟨k + 1, by omega, by go_num, ?_, ?_⟩
        · have := heap_set (w := wr) (b := B) HC.out k (.int .u8 (mixAt a b c k))
          rw [mixCells_set _ _ _ _ _ hlt] at this
          rw [mixAt, byte_at a k ka, byte_at b k kb, byte_at c k kc] at this
          exact this
        · exact (hbl.setCell (by simp) _).drew
      case measure => simp [intOf]; omega
    · obtain rfl : k = n := by omega
      have hconv := fun w => run_convert_bytes_arg (P := Try.prog) w (src := 27) (e := 5) Try.underlying27 Try.underlying5 B 0 k k ((List.range k).map (mixAt a b c)) (by simp)
      have e1 : (a.extract 0 k).data.toList.length = k := by simp; omega
      have e2 : (b.extract 0 k).data.toList.length = k := by simp; omega
      have e3 : (c.extract 0 k).data.toList.length = k := by simp; omega
      have sz1 : (a.extract 0 k).size ≤ maxLen := by unfold maxLen; simp only [ByteArray.size_append, ByteArray.size_extract]; omega
      have sz2 : (b.extract 0 k).size ≤ maxLen := by unfold maxLen; simp only [ByteArray.size_append, ByteArray.size_extract]; omega
      have sz3 : (c.extract 0 k).size ≤ maxLen := by unfold maxLen; simp only [ByteArray.size_append, ByteArray.size_extract]; omega
      have hmix := crcI_mix (a.extract 0 k).data.toList (b.extract 0 k).data.toList (c.extract 0 k).data.toList (by omega) (by omega)
      rw [← mix_str a b c k hna hnb hnc] at hmix
      obtain ⟨p, hp⟩ : ∃ p, crcI (a.extract 0 k).data.toList = p := ⟨_, rfl⟩
      obtain ⟨q, hq⟩ : ∃ q, crcI (b.extract 0 k).data.toList = q := ⟨_, rfl⟩
      obtain ⟨r, hr⟩ : ∃ r, crcI (c.extract 0 k).data.toList = r := ⟨_, rfl⟩
      rw [hp, hq, hr] at hmix
      have hcv : ∀ nq, (convert 27 9 (.slice (some ⟨B, 0, none⟩) k k)).run Try.prog (wr.drewN nq) = .ok (.string (strOfNums ((List.range k).map (mixAt a b c)))) (wr.drewN nq) := fun nq =>
        hconv (wr.drewN nq) (fun i hi => by
          show wr.cell? _ = _
          rw [Nat.zero_add, cell_of HC.out, mixCells_get _ _ _ _ _ _ hi, if_pos hi]
          simp [hi]) 9 Try.underlying9
      have sz4 : (strOfNums ((List.range k).map (mixAt a b c))).size ≤ maxLen := by unfold maxLen; rw [strOfNums_size]; simp; omega
      generalize strOfNums ((List.range k).map (mixAt a b c)) = m at *
      have HP := Lib.hid hp
      have HQ := Lib.hid hq
      have HR := Lib.hid hr
      have HM := Lib.hid hmix.symm
      have heq : (bits .xor .u32 (bits .xor .u32 p q) r == bits .xor .u32 (bits .xor .u32 p q) r) = true := by simp
      clear hp hq hr hmix e1 e2 e3 hconv
      go_wp2
      go_quiet (first
          | (go_at_call 7; exact Calls.quiet_of_same (awake_any' _))
          | (go_at_call 8; first
            | with_reducible exact Calls.quiet_of_same (sum_at' (a.extract 0 k) p _ sz1 HP.out)
            | with_reducible exact Calls.quiet_of_same (sum_at' (b.extract 0 k) q _ sz2 HQ.out)
            | with_reducible exact Calls.quiet_of_same (sum_at' (c.extract 0 k) r _ sz3 HR.out)
            | with_reducible exact Calls.quiet_of_same (sum_at' m _ _ sz4 HM.out)))
      go_wp2
      go_ret
      exact ⟨rfl, below_drewN (by rw [HB.out]; exact hbl) _⟩

set_option maxRecDepth 100000 in
theorem crcMixes_lifted (os : Os) (started : os.Started) (H : Type) (enc : TypeId × Value → H) :
    ReturnsInHanded {} Try.checked os 5 .any (Rows.crcMixesSpec.pre6 enc Try.prog Try.f5 Rows.crcMixesRow.domain false) (Rows.crcMixesSpec.post enc Try.prog Try.f5 false true false false) := by
  refine returnsInHanded_of_change (C := Try.checked) Try.own started (by kernel_rfl) Try.func5
    (ChangeSpec.witness6 (enc := enc) (C := Try.checked) false ⟨#[], #[.string ⟨#[]⟩, .string ⟨#[]⟩, .string ⟨#[]⟩], []⟩ 8 (by kernel_rfl) (by kernel_rfl) (by kernel_rfl) (by kernel_rfl)) ?_
  intro W base args ds gs before hval0 hW hcnd _
  have hval : ∀ (j : Nat) t v, Try.f5.params[j]? = some t → args[j]? = some v → Value.okWide Try.prog W .any base t v := hval0
  have hW' := hW
  obtain ⟨p, q, hA0, hV, rfl, hfz, hnd⟩ := hW
  have hA : DataW.TrodAll enc Try.prog W 0 (fun _ => true) true Try.f5.params.toList args.toList ds p := hA0
  rw [Try.params5] at hA hval
  obtain ⟨v0, v1, v2, d0, d1, d2, p0, p1, p2, rfl, rfl, rfl, h0, h1, h2⟩ := trodAll_three hA
  obtain ⟨rfl, rfl⟩ := trodVars_none hV
  obtain ⟨s0, rfl, rfl, rfl, ws0⟩ := open_string Try.underlying9 (hval 0 9 v0 rfl rfl) h0
  obtain ⟨s1, rfl, rfl, rfl, ws1⟩ := open_string Try.underlying9 (hval 1 9 v1 rfl rfl) h1
  obtain ⟨s2, rfl, rfl, rfl, ws2⟩ := open_string Try.underlying9 (hval 2 9 v2 rfl rfl) h2
  refine (mixes_any s0 s1 s2 W ws0 ws1 ws2).mono fun e W' ⟨he, hw⟩ => ?_
  subst he
  exact ⟨_, rfl, law_close (bt := 4) rfl Try.underlying4 rfl Try.laidOut (of_decide_eq_true (by kernel_rfl)) hW' rfl hw⟩

theorem crcMixes_holds : Rows.CrcMixesSaid :=
  OpenClaim.holds_of_wide 5 Try.f5 rfl rfl rfl rfl rfl rfl rfl ⟨rfl, rfl, rfl, rfl, rfl⟩ rfl rfl rfl rfl rfl (by kernel_rfl) Try.func5 (by kernel_rfl)
    (of_decide_eq_true (by kernel_rfl)) (by unfold Func.isWrapper; first | (rw [if_pos (by decide +kernel)]; kernel_rfl) | (rw [if_neg (by decide +kernel)]; exact ⟨rfl, rfl⟩))
    (fun os started H enc _ => crcMixes_lifted os started H enc)
end Go.Proofs.Ytjmejjmoephhnaa
