/- CrcTurns holds: bytes of which up to four that stand side by side are others have another sum; for every string and every two numbers. -/
import Derived.Test.YtjmejjmoephhnaaAwake
import Derived.Test.YtjmejjmoephhnaaBurst
import Derived.Test.YtjmejjmoephhnaaClose
import Derived.WalkLawsBesides
import Derived.Deep.QuietTactic
import Derived.BigQuiet
import Derived.BigRegion
import Derived.Laws.BytesArg
import Derived.Lib.ConvBytes
namespace Go.Proofs.Ytjmejjmoephhnaa
open Go.ChangeShapes Go.WideShapes Go.ChangeAt Go.RowKit
open Go.ChangeMaps (open_string shut_string)
open Go.Lib (bytesWorld bytesCells bytesWorld_at_old bytesWorld_at_new bytesWorld_size run_convert_string_bytes)

/-- The byte by which the round turns. -/
def byteBy (y : Int) (k : Nat) : UInt8 := UInt8.ofNat (y.toNat / 2 ^ (8 * k))
def turnedB (y : Int) : Nat → Bool
  | 0 => false
  | k + 1 => turnedB y k || decide (byteBy y k ≠ 0)
def turnAt (s : ByteArray) (y : Int) (kk k j : Nat) : UInt8 := if kk ≤ j ∧ j < kk + k then s.data.toList.getD j 0 ^^^ byteBy y (j - kk) else s.data.toList.getD j 0
theorem turnAt_zero (s : ByteArray) (y : Int) (kk j : Nat) : turnAt s y kk 0 j = s.data.toList.getD j 0 := by unfold turnAt; rw [if_neg (by omega)]

theorem byteBy_int (y : Int) (h : 0 ≤ y) (k : Nat) : y / 2 ^ (8 * k) % 256 = ((byteBy y k).toNat : Int) := by
  obtain ⟨m, rfl⟩ := Int.eq_ofNat_of_zero_le h
  unfold byteBy
  have : ((UInt8.ofNat (m / 2 ^ (8 * k))).toNat : Int) = ((m / 2 ^ (8 * k) % 256 : Nat) : Int) := by
    congr 1
  simp only [Int.toNat_natCast, this]
  rw [Int.natCast_emod, Int.natCast_ediv, Int.natCast_pow]
  rfl
theorem bits_xor8 (x y : UInt8) : bits .xor .u8 (x.toNat : Int) (y.toNat : Int) = ((x ^^^ y).toNat : Int) := by
  have hx := x.toNat_lt; have hy := y.toNat_lt
  show IntKind.u8.wrap ((BitVec.ofInt 8 (x.toNat : Int) ^^^ BitVec.ofInt 8 (y.toNat : Int)).toNat : Int) = _
  have h : (x.toNat ^^^ y.toNat) < 2 ^ 8 := Nat.xor_lt_two_pow (by omega) (by omega)
  rw [IntKind.wrap_u8, UInt8.toNat_xor, BitVec.ofInt_natCast, BitVec.ofInt_natCast, BitVec.toNat_xor, BitVec.toNat_ofNat, BitVec.toNat_ofNat, Nat.mod_eq_of_lt (by omega), Nat.mod_eq_of_lt (by omega)]
  omega
theorem turnedB_iff (y : Int) (k : Nat) : turnedB y k = false ↔ ∀ e ∈ (List.range k).map (byteBy y), e = 0 := by
  induction k with
  | zero => simp [turnedB]
  | succ k ih => 
    rw [List.range_succ, List.map_append]
    simp only [turnedB, Bool.or_eq_false_iff, ih, List.mem_append, List.map_cons, List.map_nil, List.mem_singleton, decide_eq_false_iff_not, Decidable.not_not]
    constructor
    · rintro ⟨h1, h2⟩ e (he | rfl)
      · exact h1 e he
      · exact h2
    · intro h
      exact ⟨fun e he => h e (.inl he), h _ (.inr rfl)⟩
theorem turnAt_set (s : ByteArray) (y : Int) (hy : 0 ≤ y) (kk k j : Nat) (cs : Array Value) (hcs : ∀ j, j < s.size → cs[j]? = some (.int .u8 ((turnAt s y kk k j).toNat : Int))) (hj : j < s.size) :
    (cs.setIfInBounds (kk + k) (.int .u8 (bits .xor .u8 ((turnAt s y kk k (kk + k)).toNat : Int) (y / 2 ^ (8 * k) % 256))))[j]? = some (.int .u8 ((turnAt s y kk (k + 1) j).toNat : Int)) := by
  rw [byteBy_int y hy, bits_xor8]
  by_cases e : kk + k = j
  · subst e
    have hlt : kk + k < cs.size := by
      rcases Nat.lt_or_ge (kk + k) cs.size with g | g
      · exact g
      · have := hcs _ hj; rw [Array.getElem?_eq_none g] at this; cases this
    rw [Array.getElem?_setIfInBounds_self_of_lt hlt]
    unfold turnAt
    rw [if_neg (by omega), if_pos (by omega), show kk + k - kk = k from by omega]
  · rw [Array.getElem?_setIfInBounds_ne e, hcs j hj]
    unfold turnAt
    by_cases g : kk ≤ j ∧ j < kk + k
    · rw [if_pos g, if_pos (by omega)]
    · rw [if_neg g, if_neg (by omega)]
theorem turn_str (s : ByteArray) (y : Int) (kk k : Nat) (h : kk + k ≤ s.size) :
    (strOfNums ((List.range s.size).map fun j => ((turnAt s y kk k j).toNat : Int))).data.toList = s.data.toList.take kk ++ xorz ((List.range k).map (byteBy y)) (s.data.toList.drop kk) := by
  rw [strOfNums_data]
  have hl : s.data.toList.length = s.size := by simp
  apply List.ext_getElem?
  intro j
  by_cases hj : j < s.size
  · have hg : s.data.toList[j]? = some (s.data.toList.getD j 0) := by
      rw [List.getD_eq_getElem?_getD, List.getElem?_eq_getElem (by omega)]; rfl
    simp only [List.getElem?_map, List.getElem?_range hj, Option.map_some, Int.toNat_natCast, UInt8.ofNat_toNat]
    by_cases g : j < kk
    · rw [List.getElem?_append_left (by rw [List.length_take]; omega), List.getElem?_take, if_pos g, hg, turnAt, if_neg (by omega)]
    · have ht : (s.data.toList.take kk).length = kk := by rw [List.length_take]; omega
      rw [List.getElem?_append_right (by omega), ht, xorz_get, List.getElem?_drop, show kk + (j - kk) = j from by omega, hg, Option.map_some, turnAt]
      simp only [List.length_map, List.length_range]
      by_cases gk : j - kk < k
      · rw [if_pos gk, if_pos (by omega)]
        simp [List.getD, gk]
      · rw [if_neg gk, if_neg (by omega)]
  · have hx : ∀ (es l : List UInt8), (xorz es l).length = l.length := by
      intro es
      induction es with
      | nil => intro l; cases l <;> rfl
      | cons e es ih => intro l; cases l with
        | nil => rfl
        | cons c l => simp [xorz, ih]
    rw [List.getElem?_eq_none (by simp; omega), List.getElem?_eq_none (by rw [List.length_append, hx, List.length_take, List.length_drop]; omega)]
theorem awake_any' (w : World) : Calls Try.prog 7 #[] w fun e w' => e = .returned (.bool true) ∧ w' = w := (awake_any w).mono fun _ _ h => ⟨h.1, h.2.symm⟩

set_option maxHeartbeats 800000 in
theorem turns_any (s : ByteArray) (at_ by_ : Int) (w : World) (hs : s.size ≤ maxLen) (h0 : 0 ≤ at_) (h1 : at_ < 65536) (b0 : 0 ≤ by_) (b1 : by_ < 4294967296) :
    Calls Try.prog 4 #[.string s, .int .u16 at_, .int .u32 by_] w fun e w' => e = .returned (.bool true) ∧ Below w.heap.size w w' := by
  unfold maxLen at hs
  by_cases hz : s.size = 0
  · have hz' : ((s.size : Int) == 0) = true := by rw [hz]; rfl
    clear hz
    go_enter Try.func4, Try.ntmps4
    go_wp2_with (go_at_call 7; (with_reducible refine (awake_any _).mono ?_); rintro e w' ⟨rfl, rfl⟩)
    go_ret
    exact ⟨rfl, Below.refl _ _⟩
  have hst : ((s.size : Int) == 0) = false := beq_eq_false_iff_ne.2 (by omega)
  by_cases hg : 5000 < s.size
  · go_enter Try.func4, Try.ntmps4
    go_wp2_with (go_at_call 7; (with_reducible refine (awake_any _).mono ?_); rintro e w' ⟨rfl, rfl⟩)
    go_ret
    exact ⟨rfl, Below.refl _ _⟩
  by_cases hb : by_ = 0
  · subst hb
    go_enter Try.func4, Try.ntmps4
    go_wp2_with (go_at_call 7; (with_reducible refine (awake_any _).mono ?_); rintro e w' ⟨rfl, rfl⟩)
    go_ret
    exact ⟨rfl, Below.refl _ _⟩
  have hs0 : 0 < s.size := by omega
  have hbt : (by_ == 0) = false := by simpa using hb
  clear hz hb
  obtain ⟨kk, hkk⟩ : ∃ kk : Nat, at_ % (s.size : Int) = (kk : Int) := ⟨(at_ % (s.size : Int)).toNat, by have := Int.emod_nonneg at_ (b := (s.size : Int)) (by omega); omega⟩
  have hkl : kk < s.size := by have := Int.emod_lt_of_pos at_ (b := (s.size : Int)) (by omega); omega
  have hcv := Lib.run_convert_string_bytes (P := Try.prog) w 9 27 5 s Try.underlying9 Try.underlying27 Try.underlying5
  have hbs : bytesCells w 5 s = bytesCells w 5 s := rfl
  have hcap : s.size ≤ grownCap w s.size 0 5 := by unfold grownCap; simp only [Question.cut]; omega
  have hsz : s.size ≤ (bytesCells w 5 s).size := by unfold bytesCells; simp
  have HN := Lib.hid (bytesWorld_at_new w 5 s)
  have HO := Lib.hid (fun j hj => bytesWorld_at_old w 5 s j hj)
  have HS := Lib.hid (bytesWorld_size w 5 s)
  have HG : Hid (∀ j, j < s.size → (bytesCells w 5 s)[j]? = some (.int .u8 ((s.data.toList.getD j 0).toNat : Int))) := Lib.hid fun j hj => by
    simp [bytesCells, Array.getElem?_append, List.getD, hj]
  go_enter Try.func4, Try.ntmps4
  go_wp2_with (go_at_call 7; (with_reducible refine (awake_any _).mono ?_); rintro e w' ⟨rfl, rfl⟩)
  clear hcv hbs
  have hbelow : Below w.heap.size w (bytesWorld w 5 s) := ⟨rfl, rfl, rfl, by rw [HS.out]; omega, fun k hk => HO.out k hk⟩
  generalize bytesWorld w 5 s = w0 at *
  generalize bytesCells w 5 s = cs0 at *
  generalize grownCap w s.size 0 5 = C at *
  obtain ⟨B, hB⟩ : ∃ B, w.heap.size = B := ⟨_, rfl⟩
  rw [hB] at HN HO hbelow ⊢
  have hB' := Lib.hid hB
  clear hB
  go_loopw [9, 10] (fun tb i wr => ∃ k : Nat, ∃ cs : Array Value, k ≤ 4 ∧ kk + k ≤ s.size ∧ i = .int .i64 k ∧ tb = .bool (turnedB by_ k) ∧
      wr.heap[B]? = some (.cells cs 5 (cs0.size, cs0.size + 1)) ∧ (∀ j, j < s.size → cs[j]? = some (.int .u8 ((turnAt s by_ kk k j).toNat : Int))) ∧ Below B w wr) (fun _ i _ => 4 - (intOf i).toNat)
  case atStart => exact ⟨0, cs0, by omega, by omega, rfl, rfl, HN.out, by intro j hj; rw [turnAt_zero]; exact HG.out j hj, hbelow⟩
  case round =>
    obtain ⟨k, cs, hk, hkn, rfl, rfl, hcs, hcell, hbl⟩ := hrel
    have HC := Lib.hid hcs
    have HL := Lib.hid hcell
    clear hcs hcell
    by_cases hlt : k < 4 ∧ kk + k < s.size
    · obtain ⟨hlt, hlk⟩ := hlt
      have hc : wr.cell? ⟨B, kk + k, none⟩ = some (.int .u8 ((turnAt s by_ kk k (kk + k)).toNat : Int)) := by rw [cell_of HC.out, HL.out _ hlk]
      have hfz : wr.frozen? ⟨B, kk + k, none⟩ = false := by simp [World.frozen?, HC.out]; omega
      have HT := turnAt_set s by_ b0 kk k
      have HT' := Lib.hid (fun j (hj : j < s.size) => HT j cs HL.out hj)
      clear HT
      go_wp2
      all_goals
        go_roundw
        case rel =>
          refine ⟨k + 1, _, by omega, by omega, by go_num, ?_, heap_set HC.out _ _, fun j hj => HT'.out j hj, hbl.setCell (by simp) _⟩
          first
            | (have ht : turnedB by_ k = true := by assumption
               rw [turnedB, ht]; rfl)
            | (have ht : ¬ turnedB by_ k = true := by assumption
               rw [turnedB, byteBy_int _ b0]
               simp [ht]
               rw [Bool.eq_iff_iff]
               simp [← UInt8.toNat_inj])
        case measure => simp [intOf]; omega
    · have hend : k = 4 ∨ kk + k = s.size := by omega
      have hstr := turn_str s by_ kk k hkn
      have hconv := fun w => run_convert_bytes_arg (P := Try.prog) w (src := 27) (e := 5) Try.underlying27 Try.underlying5 B 0 s.size C ((List.range s.size).map fun j => ((turnAt s by_ kk k j).toNat : Int)) (by simp)
      have hcv : ∀ nq, (convert 27 9 (.slice (some ⟨B, 0, none⟩) s.size C)).run Try.prog (wr.drewN nq) = .ok (.string (strOfNums ((List.range s.size).map fun j => ((turnAt s by_ kk k j).toNat : Int)))) (wr.drewN nq) := fun nq =>
        hconv (wr.drewN nq) (fun i hi => by
          show wr.cell? _ = _
          rw [Nat.zero_add, cell_of HC.out, HL.out i hi]
          simp [hi]) 9 Try.underlying9
      have hcv' : (convert 27 9 (.slice (some ⟨B, 0, none⟩) s.size C)).run Try.prog wr = .ok (.string (strOfNums ((List.range s.size).map fun j => ((turnAt s by_ kk k j).toNat : Int)))) wr := hcv 0
      have sz4 : (strOfNums ((List.range s.size).map fun j => ((turnAt s by_ kk k j).toNat : Int))).size ≤ maxLen := by unfold maxLen; rw [strOfNums_size]; simp; omega
      have sz0 : s.size ≤ maxLen := by unfold maxLen; omega
      generalize strOfNums ((List.range s.size).map fun j => ((turnAt s by_ kk k j).toNat : Int)) = m at *
      have hiff := crcI_burst (s.data.toList.take kk) ((List.range k).map (byteBy by_)) (s.data.toList.drop kk) (by simp; omega) (by simp; omega)
      rw [← hstr, List.take_append_drop, ← turnedB_iff] at hiff
      generalize turnedB by_ k = tb at *
      obtain ⟨p, hp⟩ : ∃ p, crcI s.data.toList = p := ⟨_, rfl⟩
      obtain ⟨q, hq⟩ : ∃ q, crcI m.data.toList = q := ⟨_, rfl⟩
      rw [hp, hq] at hiff
      have HP := Lib.hid hp
      have HQ := Lib.hid hq
      clear hp hq hconv hstr
      cases tb with
      | false =>
        have hqp := hiff.2 rfl
        subst hqp
        clear hiff
        by_cases h4 : k < 4
        all_goals
          go_wp2_with first
            | (go_at_call 7; (with_reducible refine (awake_any _).mono ?_); rintro e w' ⟨rfl, rfl⟩)
            | (go_at_call 8; first
              | ((with_reducible refine (sum_at s q _ sz0 HP.out).mono ?_); rintro e w' ⟨rfl, rfl⟩)
              | ((with_reducible refine (sum_at m q _ sz4 HQ.out).mono ?_); rintro e w' ⟨rfl, rfl⟩))
          go_ret
          exact ⟨rfl, by rw [hB'.out]; exact hbl⟩
      | true =>
        have hqp : (q == p) = false := beq_eq_false_iff_ne.2 fun g => by have := hiff.1 g; cases this
        clear hiff
        by_cases h4 : k < 4
        all_goals
          go_wp2_with first
            | (go_at_call 7; (with_reducible refine (awake_any _).mono ?_); rintro e w' ⟨rfl, rfl⟩)
            | (go_at_call 8; first
              | ((with_reducible refine (sum_at s p _ sz0 HP.out).mono ?_); rintro e w' ⟨rfl, rfl⟩)
              | ((with_reducible refine (sum_at m q _ sz4 HQ.out).mono ?_); rintro e w' ⟨rfl, rfl⟩))
          go_ret
          exact ⟨rfl, by rw [hB'.out]; exact hbl⟩

set_option maxRecDepth 100000 in
theorem crcTurns_lifted (os : Os) (started : os.Started) (H : Type) (enc : TypeId × Value → H) :
    ReturnsInHanded {} Try.checked os 4 .any (Rows.crcTurnsSpec.pre6 enc Try.prog Try.f4 Rows.crcTurnsRow.domain false) (Rows.crcTurnsSpec.post enc Try.prog Try.f4 false true false false) := by
  refine returnsInHanded_of_change (C := Try.checked) Try.own started (by kernel_rfl) Try.func4
    (ChangeSpec.witness6 (enc := enc) (C := Try.checked) false ⟨#[], #[.string ⟨#[]⟩, .int .u16 0, .int .u32 0], []⟩ 8 (by kernel_rfl) (by kernel_rfl) (by kernel_rfl) (by kernel_rfl)) ?_
  intro W base args ds gs before hval0 hW hcnd _
  have hval : ∀ (j : Nat) t v, Try.f4.params[j]? = some t → args[j]? = some v → Value.okWide Try.prog W .any base t v := hval0
  have hW' := hW
  obtain ⟨p, q, hA0, hV, rfl, hfz, hnd⟩ := hW
  have hA : DataW.TrodAll enc Try.prog W 0 (fun _ => true) true Try.f4.params.toList args.toList ds p := hA0
  rw [Try.params4] at hA hval
  obtain ⟨v0, v1, v2, d0, d1, d2, p0, p1, p2, rfl, rfl, rfl, h0, h1, h2⟩ := trodAll_three hA
  obtain ⟨rfl, rfl⟩ := trodVars_none hV
  obtain ⟨s0, rfl, rfl, rfl, ws0⟩ := open_string Try.underlying9 (hval 0 9 v0 rfl rfl) h0
  obtain ⟨n1, rfl, rfl, rfl, wn1⟩ := open_int Try.underlying26 (hval 1 26 v1 rfl rfl) h1
  obtain ⟨n2, rfl, rfl, rfl, wn2⟩ := open_int Try.underlying23 (hval 2 23 v2 rfl rfl) h2
  have b1 : 0 ≤ n1 ∧ n1 ≤ 65535 := by simpa [Lit.wf, IntKind.min, IntKind.max, IntKind.signed, IntKind.bits] using wn1
  have b2 : 0 ≤ n2 ∧ n2 ≤ 4294967295 := by simpa [Lit.wf, IntKind.min, IntKind.max, IntKind.signed, IntKind.bits] using wn2
  refine (turns_any s0 n1 n2 W ws0 b1.1 (by omega) b2.1 (by omega)).mono fun e W' ⟨he, hw⟩ => ?_
  subst he
  exact ⟨_, rfl, law_close (bt := 4) rfl Try.underlying4 rfl Try.laidOut (of_decide_eq_true (by kernel_rfl)) hW' rfl hw⟩

theorem crcTurns_holds : Rows.CrcTurnsSaid :=
  OpenClaim.holds_of_wide 4 Try.f4 rfl rfl rfl rfl rfl rfl rfl ⟨rfl, rfl, rfl, rfl, rfl⟩ rfl rfl rfl rfl rfl (by kernel_rfl) Try.func4 (by kernel_rfl)
    (of_decide_eq_true (by kernel_rfl)) (by unfold Func.isWrapper; first | (rw [if_pos (by decide +kernel)]; kernel_rfl) | (rw [if_neg (by decide +kernel)]; exact ⟨rfl, rfl⟩))
    (fun os started H enc _ => crcTurns_lifted os started H enc)
end Go.Proofs.Ytjmejjmoephhnaa
