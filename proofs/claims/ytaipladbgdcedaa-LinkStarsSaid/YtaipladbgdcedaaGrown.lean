/- The walk of grown: a forest as bytes say. No condition of its own. -/
import Derived.Test.YtaipladbgdcedaaGro
import Derived.Test.YtaipladbgdcedaaAwake
import Derived.Test.YtaipladbgdcedaaClose
import Derived.OpenShut
set_option linter.unusedSimpArgs false
set_option linter.unusedVariables false
namespace Go.Proofs.Ytaipladbgdcedaa
open Go.RowKit

/-- What a slice of numbers holds that is only read. -/
def RowAt (w : World) (K : IntKind) (ao : Option Addr) (L : Nat) (f : Nat → Int) : Prop := 0 < L → ∃ b off, ao = some ⟨b, off, none⟩ ∧ b < w.heap.size ∧ ∀ i, i < L → (Lit.int K (f i)).wf = true ∧ w.cell? ⟨b, off + i, none⟩ = some (.int K (f i))
theorem RowAt.on {w w' : World} {K : IntKind} {ao : Option Addr} {L : Nat} {f : Nat → Int} (h : RowAt w K ao L f) (t : Tch [] w w') : RowAt w' K ao L f := by
  intro h0
  obtain ⟨b, off, e, hb, hf⟩ := h h0
  have := t.size
  exact ⟨b, off, e, by omega, fun i hi => ⟨(hf i hi).1, (t.cell b (off + i) hb (by simp)).trans (hf i hi).2⟩⟩
/-- Below which node each one stands, as bytes say; and their weights. -/
def qOf (L : Nat) (f : Nat → Int) (u : Nat) : Nat := if 2 ≤ u ∧ u - 1 < L ∧ (f (u - 1)).toNat % 8 ≠ 0 then (f (u - 1)).toNat % (u - 1) + 1 else 0
def zOf (L : Nat) (f : Nat → Int) (u : Nat) : Int := if u - 1 < L then f (u - 1) else 0
theorem qOf_low (L : Nat) (f : Nat → Int) (u : Nat) (h : 1 ≤ u) : qOf L f u < u := by
  unfold qOf
  split
  · rename_i h2
    have := Nat.mod_lt (f (u - 1)).toNat (show u - 1 > 0 by omega)
    omega
  · omega
theorem zOf_in {w : World} {ao : Option Addr} {L : Nat} {f : Nat → Int} (h : RowAt w .i16 ao L f) (u : Nat) : -32768 ≤ zOf L f u ∧ zOf L f u ≤ 32767 := by
  unfold zOf
  split
  · rename_i h1
    obtain ⟨b, off, _, _, hf⟩ := h (by omega)
    exact wf_i16 (hf _ h1).1
  · omega
def GrownPost (w : World) (n : Nat) (G : Fo) (e : Ending) (w' : World) : Prop := ∃ F A, e = .returned (.pointer (some ⟨F, 0, none⟩)) ∧ LF w' F A (n + 1) G ∧ Tch [] w w' ∧ w.heap.size ≤ F ∧ w.heap.size ≤ A
set_option maxRecDepth 100000 in
set_option maxHeartbeats 4000000 in
theorem grown_any (w : World) (n : Nat) (hn : n ≤ 100) (aU : Option Addr) (LU cU : Nat) (fU : Nat → Int) (aW : Option Addr) (LW cW : Nat) (fW : Nat → Int) (hU : RowAt w .u8 aU LU fU) (hW : RowAt w .i16 aW LW fW) :
    Calls Try.prog 14 #[.int .i64 n, .slice aU LU cU, .slice aW LW cW] w (GrownPost w n (Gro n (qOf LU fU) (zOf LW fW) n)) := by
  have HU := Lib.hid hU
  have HW := Lib.hid hW
  have hq := fun u (hu : 1 ≤ u) => qOf_low LU fU u hu
  have hzz : ∀ u, InW (zOf LW fW u) := fun u => by have := zOf_in hW u; unfold InW; omega
  have HST := Lib.hid (fun (i : Nat) (hi : i < n) => gro_step (n := n) (k := i) (q := qOf LU fU) (z := zOf LW fW) hi hn hq hzz)
  clear hU hW hq hzz
  go_enter Try.func14, Try.ntmps14
  go_wp2_with fail
  go_at_call 25
  refine (new_any n hn w).mono ?_
  rintro e w1 ⟨F, A, rfl, h1, t1, gF, gA, hFA⟩
  have T1 := Lib.hid t1
  have H1 := Lib.hid h1
  clear h1 t1
  go_wp2_with fail
  go_loopw [8, 9] (fun i _ wr => ∃ k : Nat, i = .int .i64 (k : Int) ∧ k ≤ n ∧ LPost w1 F A (n + 1) (Gro n (qOf LU fU) (zOf LW fW) k) wr) (fun i _ _ => (n - (intOf i).toNat))
  case atStart => exact ⟨0, rfl, by omega, by rw [gro_none]; exact ⟨H1.out, Tch.refl _ _⟩⟩
  case round =>
    obtain ⟨k, rfl, hk, hL⟩ := hrel
    have HL := Lib.hid hL
    clear hL
    by_cases hkn : k = n
    · subst hkn
      have d1 : decide ((k : Int) < (k : Int)) = false := decide_eq_false_iff_not.2 (by omega)
      go_wp2_with fail
      go_ret
      exact ⟨F, A, rfl, HL.out.1, tch_own T1.out HL.out.2 gA, gF, gA⟩
    · have d1 : decide ((k : Int) < (n : Int)) = true := decide_eq_true_iff.2 (by omega)
      have hk2 : k < n := by omega
      obtain ⟨st1, st2, st3⟩ := HST.out k hk2
      have HS1 := Lib.hid st1
      have HS2 := Lib.hid st2
      have HS3 := Lib.hid st3
      clear st1 st2 st3
      have TW := Lib.hid (tch_own T1.out HL.out.2 gA)
      go_upto_if 22 with (fail)
      go_cut [9] from 22 to 27 (fun x wx => x = .int .i64 (zOf LW fW (k + 1)) ∧ wx = wr)
      case first =>
        by_cases hl : k < LW
        · have d2 : decide ((k : Int) < (LW : Int)) = true := decide_eq_true_iff.2 (by omega)
          obtain ⟨b, off, rfl, hb, hf⟩ := HW.out.on TW.out (by omega)
          obtain ⟨hwf, hc⟩ := hf k hl
          have hzk : zOf LW fW (k + 1) = fW k := by unfold zOf; rw [if_pos (by omega)]; rfl
          have hbd := wf_i16 hwf
          have HZK := Lib.hid hzk
          clear hf hwf hzk
          generalize fW k = x at *
          go_wp2_with fail
          go_meet
          exact ⟨by rw [HZK.out], rfl⟩
        · have d2 : decide ((k : Int) < (LW : Int)) = false := decide_eq_false_iff_not.2 (by omega)
          have hzk : zOf LW fW (k + 1) = 0 := by unfold zOf; rw [if_neg (by omega)]
          have HZK := Lib.hid hzk
          clear hzk
          go_wp2_with fail
          go_meet
          exact ⟨by rw [HZK.out], rfl⟩
      case rest =>
        obtain ⟨rfl, rfl⟩ := hcut
        have HB := Lib.hid (fun (hl : k < LU) => (show ∃ b off y, aU = some ⟨b, off, none⟩ ∧ b < w.heap.size ∧ (y : Nat) ≤ 255 ∧ (fU k).toNat = y ∧ ∀ w', Tch [] w w' → w'.cell? ⟨b, off + k, none⟩ = some (.int .u8 (y : Int)) ∧ b < w'.heap.size from by
          obtain ⟨b, off, e, hb, hf⟩ := HU.out (by omega)
          obtain ⟨hwf, hc⟩ := hf k hl
          have hbd := wf_u8 hwf
          refine ⟨b, off, (fU k).toNat, e, hb, by omega, rfl, fun w' t => ⟨(t.cell b (off + k) hb (by simp)).trans (hc.trans ?_), ?_⟩⟩
          · rw [Int.toNat_of_nonneg hbd.1]
          · have := t.size; omega))
        have hqd : qOf LU fU (k + 1) = if 1 ≤ k ∧ k < LU ∧ (fU k).toNat % 8 ≠ 0 then (fU k).toNat % k + 1 else 0 := by
          unfold qOf
          simp only [Nat.add_sub_cancel]
          by_cases h : 1 ≤ k
          · have h' : 2 ≤ k + 1 := by omega
            simp [h, h']
          · have h' : ¬ 2 ≤ k + 1 := by omega
            simp [h, h']
        by_cases hq0 : qOf LU fU (k + 1) = 0
        · have hA := Add_at HL.out.1 k (zOf LW fW (k + 1)) true (Gro n (qOf LU fU) (zOf LW fW) (k + 1)) HS1.out (HS2.out hq0)
          have HA := Lib.hid hA
          rw [hqd] at hq0
          have HQ := Lib.hid hq0
          clear hA hq0 hqd
          generalize zOf LW fW (k + 1) = zk at *
          by_cases hk0 : k = 0
          · have d3 : decide (0 < (k : Int)) = false := decide_eq_false_iff_not.2 (by omega)
            have d3n : decide (0 < k) = false := decide_eq_false_iff_not.2 (by omega)
            have HK0 := Lib.hid hk0
            clear hk0
            go_wp2_with fail
            go_at_call 26
            refine HA.out.mono ?_
            rintro e w2 ⟨rfl, h2⟩
            have H2 := Lib.hid (HL.out.trans h2)
            clear h2
            go_wp2_with fail
            go_roundw
            case rel => exact ⟨k + 1, by simp, by omega, H2.out⟩
            case measure => simp [intOf]; omega
          · have d3 : decide (0 < (k : Int)) = true := decide_eq_true_iff.2 (by omega)
            have d3n : decide (0 < k) = true := decide_eq_true_iff.2 (by omega)
            by_cases hl : k < LU
            · have d4 : decide ((k : Int) < (LU : Int)) = true := decide_eq_true_iff.2 (by omega)
              have d4n : decide (k < LU) = true := decide_eq_true_iff.2 (by omega)
              obtain ⟨b, off, y, rfl, hb, hy, hfy, hcw⟩ := HB.out hl
              have h8 : y % 8 = 0 := by
                rcases Nat.eq_zero_or_pos (y % 8) with e | e
                · exact e
                · have := HQ.out
                  rw [if_pos ⟨by omega, hl, by rw [hfy]; omega⟩] at this
                  omega
              have h8i : (y : Int) % 8 = 0 := by omega
              have HY := Lib.hid hfy
              have HCW := Lib.hid hcw
              clear hfy hcw h8
              go_wp2_with fail
              go_at_call 26
              refine HA.out.mono ?_
              rintro e w2 ⟨rfl, h2⟩
              obtain ⟨hc2, hb2⟩ := HCW.out w2 (tch_own TW.out h2.2 gA)
              have H2 := Lib.hid (HL.out.trans h2)
              clear h2
              go_wp2_with fail
              go_roundw
              case rel => exact ⟨k + 1, by simp, by omega, H2.out⟩
              case measure => simp [intOf]; omega
            · have d4 : decide ((k : Int) < (LU : Int)) = false := decide_eq_false_iff_not.2 (by omega)
              have d4n : decide (k < LU) = false := decide_eq_false_iff_not.2 (by omega)
              go_wp2_with fail
              go_at_call 26
              refine HA.out.mono ?_
              rintro e w2 ⟨rfl, h2⟩
              have H2 := Lib.hid (HL.out.trans h2)
              clear h2
              go_wp2_with fail
              go_roundw
              case rel => exact ⟨k + 1, by simp, by omega, H2.out⟩
              case measure => simp [intOf]; omega
        · have hcnd : 1 ≤ k ∧ k < LU ∧ (fU k).toNat % 8 ≠ 0 := by
            rw [hqd] at hq0
            by_cases h : 1 ≤ k ∧ k < LU ∧ (fU k).toNat % 8 ≠ 0
            · exact h
            · rw [if_neg h] at hq0; exact absurd rfl hq0
          obtain ⟨hk1, hl, h8⟩ := hcnd
          rw [if_pos ⟨hk1, hl, h8⟩] at hqd
          obtain ⟨b, off, y, rfl, hb, hy, hfy, hcw⟩ := HB.out hl
          rw [hfy] at hqd h8
          obtain ⟨G1, g1, g2, g3⟩ := HS3.out _ hqd
          have HA := Lib.hid (Add_at HL.out.1 k (zOf LW fW (k + 1)) true G1 HS1.out g1)
          have HLK := Lib.hid (fun (w2 : World) (h2 : LF w2 F A (n + 1) G1) => Link_at h2 k ((y % k : Nat) : Int) true (Gro n (qOf LU fU) (zOf LW fW) (k + 1)) g2 g3)
          have HCW := Lib.hid hcw
          have d3 : decide (0 < (k : Int)) = true := decide_eq_true_iff.2 (by omega)
          have d3n : decide (0 < k) = true := decide_eq_true_iff.2 (by omega)
          have d4 : decide ((k : Int) < (LU : Int)) = true := decide_eq_true_iff.2 (by omega)
          have d4n : decide (k < LU) = true := decide_eq_true_iff.2 (by omega)
          have h8i : ((y : Int) % 8 != 0) = true := bne_iff_ne.2 (by omega)
          have hk0 : ((k : Int) == 0) = false := beq_eq_false_iff_ne.2 (by omega)
          have hmod : (y : Int) % (k : Int) = ((y % k : Nat) : Int) := by omega
          clear hqd h8 hq0 hfy hcw g1 g2 g3
          generalize zOf LW fW (k + 1) = zk at *
          go_wp2_with fail
          go_at_call 26
          refine HA.out.mono ?_
          rintro e w2 ⟨rfl, h2⟩
          obtain ⟨hc2, hb2⟩ := HCW.out w2 (tch_own TW.out h2.2 gA)
          have H2 := Lib.hid (HL.out.trans h2)
          have H2L := Lib.hid h2.1
          clear h2
          go_wp2_with fail
          rw [hmod]
          generalize y % k = py at *
          go_wp2_with fail
          go_at_call 27
          refine (HLK.out w2 H2L.out).mono ?_
          rintro e w3 ⟨rfl, h3⟩
          have H3 := Lib.hid (H2.out.trans h3)
          clear h3 H2 H2L
          go_wp2_with fail
          go_roundw
          case rel => exact ⟨k + 1, by simp, by omega, H3.out⟩
          case measure => simp [intOf]; omega
end Go.Proofs.Ytaipladbgdcedaa
