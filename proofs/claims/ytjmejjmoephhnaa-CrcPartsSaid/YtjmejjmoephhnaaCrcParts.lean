/- CrcParts holds: texts of one sum, of one length, have one sum with the same behind them, and those of two sums have two; for every three strings. -/
import Derived.Test.YtjmejjmoephhnaaAwake
import Derived.Test.YtjmejjmoephhnaaMath
import Derived.Test.YtjmejjmoephhnaaClose
import Derived.WalkLawsBesides
import Derived.Deep.QuietTactic
import Derived.BigQuiet
namespace Go.Proofs.Ytjmejjmoephhnaa
open Go.ChangeShapes Go.WideShapes Go.ChangeAt Go.RowKit
open Go.ChangeMaps (open_string shut_string)

theorem sum_of (s : ByteArray) (w : World) (hs : s.size ≤ maxLen) :
    Calls Try.prog 8 #[.string s] w fun e w' => e = .returned (.int .u32 (crcI s.data.toList)) ∧ w = w' :=
  (sum_any s w hs).mono fun _ _ h => ⟨h.1, h.2.symm⟩

theorem sum_zero (w : World) : Calls Try.prog 8 #[.string ⟨#[0]⟩] w fun e w' => e = .returned (.int .u32 3523407757) ∧ w = w' :=
  sum_at _ _ w (by unfold maxLen; show 1 ≤ _; omega) (by decide +kernel)
theorem min2_nat (k : IntKind) (x y : Nat) : Builtin.min2 (.int k (x : Int)) (.int k (y : Int)) = pure (.int k ((min x y : Nat) : Int)) := by
  simp only [Builtin.min2]
  by_cases h : (y : Int) < x
  · rw [if_pos h, show min x y = y from by omega]
  · rw [if_neg h, show min x y = x from by omega]
theorem min3_nat (ats : Array TypeId) (ty : TypeId) (k : IntKind) (a b c : Nat) (n : Nat) (hn : min (min a b) c = n) :
    Builtin.min_ ats ty #[.int k (a : Int), .int k (b : Int), .int k (c : Int)] = pure (.int k (n : Int)) := by
  subst hn
  simp [Builtin.min_, min2_nat]

set_option maxHeartbeats 400000 in
theorem parts_any (a b c : ByteArray) (w : World) (ha : a.size ≤ maxLen) (hb : b.size ≤ maxLen) (hc : c.size ≤ maxLen) :
    Calls Try.prog 6 #[.string a, .string b, .string c] w fun e w' => e = .returned (.bool true) ∧ Below w.heap.size w w' := by
  unfold maxLen at ha hb hc
  obtain ⟨n, hn⟩ : ∃ n, min (min a.size b.size) 1000 = n := ⟨_, rfl⟩
  by_cases h : 1000 < c.size
  · have hm : ∀ ats ty, Builtin.min_ ats ty #[.int .i64 (a.size : Int), .int .i64 (b.size : Int), .int .i64 1000] = pure (.int .i64 (n : Int)) := fun ats ty => min3_nat ats ty .i64 a.size b.size 1000 n hn
    clear hn
    go_enter Try.func6, Try.ntmps6
    go_wp2_with (go_at_call 7; (with_reducible refine (awake_any _).mono ?_); rintro e w' ⟨rfl, rfl⟩)
    go_ret
    exact ⟨rfl, Below.refl _ _⟩
  · have hm : ∀ ats ty, Builtin.min_ ats ty #[.int .i64 (a.size : Int), .int .i64 (b.size : Int), .int .i64 1000] = pure (.int .i64 (n : Int)) := fun ats ty => min3_nat ats ty .i64 a.size b.size 1000 n hn
    have hna : n ≤ a.size := by omega
    have hnb : n ≤ b.size := by omega
    have hnc : n ≤ 1000 := by omega
    clear hn
    go_enter Try.func6, Try.ntmps6
    go_wp2_with (go_at_call 7; (with_reducible refine (awake_any _).mono ?_); rintro e w' ⟨rfl, rfl⟩)
    clear hm
    go_quiet (fail)
    have sz1 : (a.extract 0 n).size ≤ maxLen := by unfold maxLen; simp only [ByteArray.size_append, ByteArray.size_extract]; omega
    have sz2 : (b.extract 0 n).size ≤ maxLen := by unfold maxLen; simp only [ByteArray.size_append, ByteArray.size_extract]; omega
    have sz3 : (a.extract 0 n ++ c).size ≤ maxLen := by unfold maxLen; simp only [ByteArray.size_append, ByteArray.size_extract]; omega
    have sz4 : (b.extract 0 n ++ c).size ≤ maxLen := by unfold maxLen; simp only [ByteArray.size_append, ByteArray.size_extract]; omega
    have hiff : crcI (a.extract 0 n ++ c).data.toList = crcI (b.extract 0 n ++ c).data.toList ↔ crcI (a.extract 0 n).data.toList = crcI (b.extract 0 n).data.toList := by
      simp only [ByteArray.data_append, Array.toList_append]
      exact crcI_append _ _ _
    obtain ⟨p, hp⟩ : ∃ p, crcI (a.extract 0 n).data.toList = p := ⟨_, rfl⟩
    obtain ⟨q, hq⟩ : ∃ q, crcI (b.extract 0 n).data.toList = q := ⟨_, rfl⟩
    obtain ⟨r, hr⟩ : ∃ r, crcI (a.extract 0 n ++ c).data.toList = r := ⟨_, rfl⟩
    obtain ⟨t, ht⟩ : ∃ t, crcI (b.extract 0 n ++ c).data.toList = t := ⟨_, rfl⟩
    rw [hp, hq, hr, ht] at hiff
    have HP := Lib.hid hp
    have HQ := Lib.hid hq
    have HR := Lib.hid hr
    have HT := Lib.hid ht
    clear hp hq hr ht
    by_cases hpq : p = q
    · have hrt : r = t := hiff.2 hpq
      subst hpq; subst hrt
      clear hiff
      go_wp2_with first
        | (go_at_call 7; (with_reducible refine (awake_any _).mono ?_); rintro e w' ⟨rfl, rfl⟩)
        | (go_at_call 8; first
            | ((with_reducible refine (sum_at (a.extract 0 n) p _ sz1 HP.out).mono ?_); rintro e w' ⟨rfl, rfl⟩)
            | ((with_reducible refine (sum_at (b.extract 0 n) p _ sz2 HQ.out).mono ?_); rintro e w' ⟨rfl, rfl⟩)
            | ((with_reducible refine (sum_at (a.extract 0 n ++ c) r _ sz3 HR.out).mono ?_); rintro e w' ⟨rfl, rfl⟩)
            | ((with_reducible refine (sum_at (b.extract 0 n ++ c) r _ sz4 HT.out).mono ?_); rintro e w' ⟨rfl, rfl⟩)
            | ((with_reducible refine (sum_zero _).mono ?_); rintro e w' ⟨rfl, rfl⟩)
            | ((with_reducible refine (sum_none _).mono ?_); rintro e w' ⟨rfl, rfl⟩))
      go_ret
      exact ⟨rfl, below_drewN (Below.refl _ _) _⟩
    · have hpq' : (p == q) = false := by simpa using hpq
      have hrt' : (r == t) = false := by simpa [hiff] using hpq
      clear hiff hpq
      go_wp2_with first
        | (go_at_call 7; (with_reducible refine (awake_any _).mono ?_); rintro e w' ⟨rfl, rfl⟩)
        | (go_at_call 8; first
            | ((with_reducible refine (sum_at (a.extract 0 n) p _ sz1 HP.out).mono ?_); rintro e w' ⟨rfl, rfl⟩)
            | ((with_reducible refine (sum_at (b.extract 0 n) q _ sz2 HQ.out).mono ?_); rintro e w' ⟨rfl, rfl⟩)
            | ((with_reducible refine (sum_at (a.extract 0 n ++ c) r _ sz3 HR.out).mono ?_); rintro e w' ⟨rfl, rfl⟩)
            | ((with_reducible refine (sum_at (b.extract 0 n ++ c) t _ sz4 HT.out).mono ?_); rintro e w' ⟨rfl, rfl⟩)
            | ((with_reducible refine (sum_zero _).mono ?_); rintro e w' ⟨rfl, rfl⟩)
            | ((with_reducible refine (sum_none _).mono ?_); rintro e w' ⟨rfl, rfl⟩))
      go_ret
      exact ⟨rfl, below_drewN (Below.refl _ _) _⟩

set_option maxRecDepth 100000 in
theorem crcParts_lifted (os : Os) (started : os.Started) (H : Type) (enc : TypeId × Value → H) :
    ReturnsInHanded {} Try.checked os 6 .any (Rows.crcPartsSpec.pre6 enc Try.prog Try.f6 Rows.crcPartsRow.domain false) (Rows.crcPartsSpec.post enc Try.prog Try.f6 false true false false) := by
  refine returnsInHanded_of_change (C := Try.checked) Try.own started (by kernel_rfl) Try.func6
    (ChangeSpec.witness6 (enc := enc) (C := Try.checked) false ⟨#[], #[.string ⟨#[]⟩, .string ⟨#[]⟩, .string ⟨#[]⟩], []⟩ 8 (by kernel_rfl) (by kernel_rfl) (by kernel_rfl) (by kernel_rfl)) ?_
  intro W base args ds gs before hval0 hW hcnd _
  have hval : ∀ (j : Nat) t v, Try.f6.params[j]? = some t → args[j]? = some v → Value.okWide Try.prog W .any base t v := hval0
  have hW' := hW
  obtain ⟨p, q, hA0, hV, rfl, hfz, hnd⟩ := hW
  have hA : DataW.TrodAll enc Try.prog W 0 (fun _ => true) true Try.f6.params.toList args.toList ds p := hA0
  rw [Try.params6] at hA hval
  obtain ⟨v0, v1, v2, d0, d1, d2, p0, p1, p2, rfl, rfl, rfl, h0, h1, h2⟩ := trodAll_three hA
  obtain ⟨rfl, rfl⟩ := trodVars_none hV
  obtain ⟨s0, rfl, rfl, rfl, ws0⟩ := open_string Try.underlying9 (hval 0 9 v0 rfl rfl) h0
  obtain ⟨s1, rfl, rfl, rfl, ws1⟩ := open_string Try.underlying9 (hval 1 9 v1 rfl rfl) h1
  obtain ⟨s2, rfl, rfl, rfl, ws2⟩ := open_string Try.underlying9 (hval 2 9 v2 rfl rfl) h2
  refine (parts_any s0 s1 s2 W ws0 ws1 ws2).mono fun e W' ⟨he, hw⟩ => ?_
  subst he
  exact ⟨_, rfl, law_close (bt := 4) rfl Try.underlying4 rfl Try.laidOut (of_decide_eq_true (by kernel_rfl)) hW' rfl hw⟩

theorem crcParts_holds : Rows.CrcPartsSaid :=
  OpenClaim.holds_of_wide 6 Try.f6 rfl rfl rfl rfl rfl rfl rfl ⟨rfl, rfl, rfl, rfl, rfl⟩ rfl rfl rfl rfl rfl (by kernel_rfl) Try.func6 (by kernel_rfl)
    (of_decide_eq_true (by kernel_rfl)) (by unfold Func.isWrapper; first | (rw [if_pos (by decide +kernel)]; kernel_rfl) | (rw [if_neg (by decide +kernel)]; exact ⟨rfl, rfl⟩))
    (fun os started H enc _ => crcParts_lifted os started H enc)
end Go.Proofs.Ytjmejjmoephhnaa
