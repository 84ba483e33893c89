/- LinkStars holds: in a star each way between two of its rays has three nodes; under no condition. -/
import Derived.Test.YtaipladbgdcedaaStar
import Derived.Test.YtaipladbgdcedaaRo
set_option linter.unusedSimpArgs false
set_option linter.unusedVariables false
namespace Go.Proofs.Ytaipladbgdcedaa
open Go.ChangeShapes Go.WideShapes Go.ChangeAt Go.RowKit

set_option maxRecDepth 100000 in
set_option maxHeartbeats 2000000 in
theorem stars_any (w : World) (v v2 : Nat) (hv : v ≤ 255) (hv2 : v2 ≤ 255) :
    Calls Try.prog 11 #[.int .u8 v, .int .u8 v2] w fun e w' => e = .returned (.bool true) ∧ Below w.heap.size w w' := by
  have hmod : (v : Int) % 50 = ((v % 50 : Nat) : Int) := by omega
  have hk3 : 3 ≤ 3 + v % 50 := by omega
  have hk53 : 3 + v % 50 ≤ 53 := by omega
  go_enter Try.func11, Try.ntmps11
  go_wp2_with fail
  rw [hmod]
  clear hmod
  generalize v % 50 = kk at *
  go_wp2_with fail
  rw [show (3 : Int) + (kk : Int) = ((3 + kk : Nat) : Int) by omega]
  generalize 3 + kk = k at *
  go_wp2_with fail
  go_at_call 25
  refine (new_any k (by omega) _).mono ?_
  rintro e w1 ⟨F, A, rfl, h1, t1, gF, gA, hFA⟩
  have T1 := Lib.hid t1
  have H1 := Lib.hid (show LPost w1 F A (k + 1) (Fo.empty k) w1 from ⟨h1, Tch.refl _ _⟩)
  have hlt := h1.lt
  clear h1 t1
  go_wp2_with fail
  go_loopw [7] (fun i wr => ∃ j : Nat, i = .int .i64 (j : Int) ∧ j ≤ k ∧ LPost w1 F A (k + 1) (Gro k starQ (fun _ => 1) j) wr) (fun i _ => k - (intOf i).toNat)
  case atStart => exact ⟨0, rfl, by omega, by rw [gro_none]; exact H1.out⟩
  case round =>
    obtain ⟨j, rfl, hj, hL⟩ := hrel
    have H2 := Lib.hid hL
    clear hL H1
    by_cases hjk : j = k
    · have d3 : decide ((j : Int) < (k : Int)) = false := decide_eq_false_iff_not.2 (by omega)
      have hl := H2.out
      rw [hjk] at hl
      have HJK := Lib.hid hjk
      have H3 := Lib.hid (show LPost w1 F A (k + 1) (Star k) wr from hl)
      clear hl H2
      have hk1 : (k : Int) - 1 = ((k - 1 : Nat) : Int) := by omega
      obtain ⟨x, hx⟩ : ∃ x, x = v2 % (k - 1) := ⟨_, rfl⟩
      obtain ⟨a, ha⟩ : ∃ a, a = 1 + x := ⟨_, rfl⟩
      obtain ⟨y, hy⟩ : ∃ y, y = a % (k - 1) := ⟨_, rfl⟩
      obtain ⟨b, hb⟩ : ∃ b, b = 1 + y := ⟨_, rfl⟩
      have hxb : x < k - 1 := by rw [hx]; exact Nat.mod_lt _ (by omega)
      have hyb : y < k - 1 := by rw [hy]; exact Nat.mod_lt _ (by omega)
      have E1 : Hid ((v2 : Int) % ((k : Int) - 1) = (x : Int)) := Lib.hid (by rw [hk1, hx]; exact (Int.natCast_emod _ _).symm)
      have E3 : Hid (wrap64 (1 + (y : Int)) = (b : Int)) := Lib.hid (by rw [wrap_id (by omega)]; omega)
      have E4 : Hid (1 + (x : Int) = (a : Int)) := Lib.hid (by omega)
      have EW : Hid (wrap64 (a : Int) = (a : Int)) := Lib.hid (wrap_id (by omega))
      have ET : Hid ((a : Int).tmod ((k : Int) - 1) = (y : Int)) := Lib.hid (by rw [hk1, hy, Int.tmod_eq_emod_of_nonneg (by omega)]; exact (Int.natCast_emod _ _).symm)
      have hab : a ≠ b := by
        intro e
        by_cases hak : a = k - 1
        · rw [hak, Nat.mod_self] at hy; omega
        · rw [Nat.mod_eq_of_lt (by omega)] at hy; omega
      obtain ⟨S1, S3, S4, SF⟩ := star_facts (k := k) (by omega) (by omega) (a := a) (b := b) (by omega) (by omega) (by omega) (by omega) hab
      obtain ⟨q0, q1, q2, q3, hsm⟩ : ∃ q0 q1 q2 q3, sumE (Star k) (a : Int) (b : Int) = ⟨q0, q1, q2, q3⟩ := ⟨_, _, _, _, rfl⟩
      have hq0 : q0 = 3 := by have := SF.sum; rw [hsm] at this; exact this
      subst hq0
      have HF := Lib.hid SF
      have HSM := Lib.hid hsm
      have hk0 : ((k : Int) - 1 == 0) = false := beq_eq_false_iff_ne.2 (by omega)
      clear SF hsm hab hx hy ha hb hk1
      go_wp2_with fail
      rw [E1.out, E4.out, EW.out, ET.out, E3.out]
      go_wp2_with fail
      go_at_call 18
      refine (Path_at H3.out.1 a b 3 q1 q2 q3 true HSM.out HF.out.same).mono ?_
      rintro e w4 ⟨rfl, h⟩
      have H4 := Lib.hid (H3.out.trans h)
      clear h H3
      go_wp2_with fail
      have hS := sum_made w4 ⟨3, q1, q2, q3⟩
      have h := (show LPost w1 F A (k + 1) (Star k) (w4.alloc (.cells #[.int .i64 3, .int .i64 q1, .int .i64 q2, .int .i64 q3] 29)) from ⟨H4.out.1.quiet ((Tch.refl _ _).new _), H4.out.2.new _⟩)
      have hSA := (show A ≠ w4.heap.size from by have := H4.out.1.lt; omega)
      generalize w4.alloc (.cells _ 29) = w5 at hS h ⊢
      generalize w4.heap.size = SV at hS hSA ⊢
      have H5 := Lib.hid h
      have HS5 := Lib.hid hS
      clear hS h H4
      go_at_call 22
      refine (Lca_at H5.out.1 a b 0 HF.out.lca).mono ?_
      rintro e w6 ⟨rfl, h⟩
      have H6 := Lib.hid (H5.out.trans h)
      have hS := h.2.blk HS5.out (by simp; omega)
      clear h H5
      have HS6 := Lib.hid hS
      have s0 : w6.cell? ⟨SV, 0, none⟩ = some (.int .i64 3) := hS.cell 0 (by omega)
      have s1 : w6.cell? ⟨SV, 1, none⟩ = some (.int .i64 q1) := hS.cell 1 (by omega)
      have s2 : w6.cell? ⟨SV, 2, none⟩ = some (.int .i64 q2) := hS.cell 2 (by omega)
      have s3 : w6.cell? ⟨SV, 3, none⟩ = some (.int .i64 q3) := hS.cell 3 (by omega)
      have hsl := hS.lt
      clear hS HS5
      go_wp2_with fail
      clear s0 s1 s2 s3 hsl HS6
      go_at_call 19
      refine (Evert_at H6.out.1 a true S1 HF.out.hasa HF.out.ev).mono ?_
      rintro e w7 ⟨rfl, h⟩
      have H7 := Lib.hid (H6.out.trans h)
      clear h H6
      go_wp2_with fail
      go_at_call 21
      refine (Parent_at H7.out.1 0 a HF.out.par0).mono ?_
      rintro e w8 ⟨rfl, h⟩
      have H8 := Lib.hid (H7.out.trans h)
      clear h H7
      go_wp2_with fail
      go_at_call 21
      refine (Parent_at H8.out.1 b 0 HF.out.parb).mono ?_
      rintro e w9 ⟨rfl, h⟩
      have H9 := Lib.hid (H8.out.trans h)
      clear h H8
      go_wp2_with fail
      go_at_call 22
      refine (Lca_at H9.out.1 0 b 0 HF.out.lca0).mono ?_
      rintro e w10 ⟨rfl, h⟩
      have H10 := Lib.hid (H9.out.trans h)
      clear h H9
      go_wp2_with fail
      go_at_call 23
      refine (Sub_at H10.out.1 0 ((k : Int) - 1) ((k : Int) - 1) true HF.out.sub0 HF.out.ssum0 HF.out.has0).mono ?_
      rintro e w11 ⟨rfl, h⟩
      have H11 := Lib.hid (H10.out.trans h)
      clear h H10
      go_wp2_with fail
      go_at_call 19
      refine (Evert_at H11.out.1 0 true (Star k) HF.out.has0 HF.out.ev0).mono ?_
      rintro e w12 ⟨rfl, h⟩
      have H12 := Lib.hid (H11.out.trans h)
      clear h H11
      go_wp2_with fail
      go_at_call 32
      refine (Cut_at H12.out.1 a true S3 HF.out.ct HF.out.cg).mono ?_
      rintro e w13 ⟨rfl, h⟩
      have H13 := Lib.hid (H12.out.trans h)
      clear h H12
      go_wp2_with fail
      go_at_call 16
      refine (Size_at H13.out.1 a 1 HF.out.sza).mono ?_
      rintro e w14 ⟨rfl, h⟩
      have H14 := Lib.hid (H13.out.trans h)
      clear h H13
      go_wp2_with fail
      go_at_call 16
      refine (Size_at H14.out.1 0 ((k : Int) - 1) HF.out.sz0).mono ?_
      rintro e w15 ⟨rfl, h⟩
      have H15 := Lib.hid (H14.out.trans h)
      clear h H14
      go_wp2_with fail
      go_at_call 17
      refine (Same_at H15.out.1 a b false HF.out.sm).mono ?_
      rintro e w16 ⟨rfl, h⟩
      have H16 := Lib.hid (H15.out.trans h)
      clear h H15
      go_wp2_with fail
      go_at_call 33
      refine (Drop_at H16.out.1 a true S4 HF.out.dr HF.out.dg).mono ?_
      rintro e w17 ⟨rfl, h⟩
      have H17 := Lib.hid (H16.out.trans h)
      clear h H16
      go_wp2_with fail
      go_at_call 31
      refine (Has_at H17.out.1 a false HF.out.hs).mono ?_
      rintro e w18 ⟨rfl, h⟩
      have H18 := Lib.hid (H17.out.trans h)
      clear h H17
      go_wp2_with fail
      go_at_call 33
      refine (Drop_at H18.out.1 0 false S4 HF.out.d0 HF.out.g0).mono ?_
      rintro e w19 ⟨rfl, h⟩
      have H19 := Lib.hid (H18.out.trans h)
      clear h H18
      go_wp2_with fail
      go_at_call 15
      refine (awake_any _).mono ?_
      rintro e w20 ⟨rfl, t⟩
      have H20 := Lib.hid (show LPost w1 F A (k + 1) S4 w20 from ⟨H19.out.1.quiet t, H19.out.2.trans (t.mono (by simp))⟩)
      clear t H19
      go_wp2_with fail
      go_at_call 24
      refine (Check_at H20.out.1).mono ?_
      rintro e w21 ⟨rfl, h⟩
      have H21 := Lib.hid (H20.out.trans h)
      clear h H20
      go_wp2_with fail
      go_ret
      exact ⟨rfl, (tch_own T1.out H21.out.2 gA).nil⟩
    · have d3 : decide ((j : Int) < (k : Int)) = true := decide_eq_true_iff.2 (by omega)
      have hj2 : j < k := by omega
      have ST := gro_step (n := k) (k := j) (q := starQ) (z := fun _ => 1) hj2 (by omega) starQ_low (fun _ => one_in)
      obtain ⟨st1, st2, st3⟩ := ST
      have HS1 : Hid (addOk (Gro k starQ (fun _ => 1) j) (j : Int) 1 = true) := Lib.hid st1
      clear hjk
      by_cases hj0 : j = 0
      · have HS2 : Hid (addG (Gro k starQ (fun _ => 1) j) (j : Int) 1 = Gro k starQ (fun _ => 1) (j + 1)) := Lib.hid (st2 (by unfold starQ; rw [if_neg (by omega)]))
        have d4 : decide (0 < (j : Int)) = false := decide_eq_false_iff_not.2 (by omega)
        have d4n : decide (0 < j) = false := decide_eq_false_iff_not.2 (by omega)
        clear st1 st2 st3 hj0
        go_wp2_with fail
        go_at_call 26
        refine (Add_at H2.out.1 j 1 true (Gro k starQ (fun _ => 1) (j + 1)) HS1.out HS2.out).mono ?_
        rintro e w3 ⟨rfl, h⟩
        have H3 := Lib.hid (H2.out.trans h)
        clear h H2
        go_wp2_with fail
        go_roundw
        case rel => exact ⟨j + 1, by simp, by omega, H3.out⟩
        case measure => simp [intOf]; omega
      · obtain ⟨G1, g1, g2, g3⟩ := st3 0 (by unfold starQ; rw [if_pos (by omega)])
        have d4 : decide (0 < (j : Int)) = true := decide_eq_true_iff.2 (by omega)
        have d4n : decide (0 < j) = true := decide_eq_true_iff.2 (by omega)
        have HG1 : Hid (addG (Gro k starQ (fun _ => 1) j) (j : Int) 1 = G1) := Lib.hid g1
        have HG2 : Hid (linkOk G1 (j : Int) 0 = true) := Lib.hid g2
        have HG3 : Hid (linkG G1 (j : Int) 0 = Gro k starQ (fun _ => 1) (j + 1)) := Lib.hid g3
        clear st1 st2 st3 g1 g2 g3
        go_wp2_with fail
        go_at_call 26
        refine (Add_at H2.out.1 j 1 true G1 HS1.out HG1.out).mono ?_
        rintro e w3 ⟨rfl, h⟩
        have H3 := Lib.hid (H2.out.trans h)
        clear h H2
        go_wp2_with fail
        go_at_call 27
        refine (Link_at H3.out.1 j 0 true (Gro k starQ (fun _ => 1) (j + 1)) HG2.out HG3.out).mono ?_
        rintro e w4 ⟨rfl, h⟩
        have H4 := Lib.hid (H3.out.trans h)
        clear h H3
        go_wp2_with fail
        go_roundw
        case rel => exact ⟨j + 1, by simp, by omega, H4.out⟩
        case measure => simp [intOf]; omega
theorem stars_int (w : World) (y z : Int) (hy : 0 ≤ y ∧ y ≤ 255) (hz : 0 ≤ z ∧ z ≤ 255) :
    Calls Try.prog 11 #[.int .u8 y, .int .u8 z] w fun e w' => e = .returned (.bool true) ∧ Below w.heap.size w w' := by
  obtain ⟨v, rfl⟩ : ∃ a : Nat, y = (a : Int) := ⟨y.toNat, by omega⟩
  obtain ⟨v2, rfl⟩ : ∃ a : Nat, z = (a : Int) := ⟨z.toNat, by omega⟩
  exact stars_any w v v2 (by omega) (by omega)

set_option maxRecDepth 100000 in
theorem linkStars_lifted (os : Os) (started : os.Started) (H : Type) (enc : TypeId × Value → H) :
    ReturnsInHanded {} Try.checked os 11 .any (Rows.linkStarsSpec.pre6 enc Try.prog Try.f11 Rows.linkStarsRow.domain false) (Rows.linkStarsSpec.post enc Try.prog Try.f11 false true false false) := by
  refine returnsInHanded_of_change (C := Try.checked) Try.own started (by kernel_rfl) Try.func11
    (ChangeSpec.witness6 (enc := enc) (C := Try.checked) false ⟨#[], #[.int .u8 0, .int .u8 0], []⟩ 8 (by kernel_rfl) (by kernel_rfl) (by kernel_rfl) (by kernel_rfl)) ?_
  intro W base args ds gs before hval0 hW hcnd _
  have hval : ∀ (j : Nat) t v, Try.f11.params[j]? = some t → args[j]? = some v → Value.okWide Try.prog W .any base t v := hval0
  have hW' := hW
  obtain ⟨p, q, hA0, hV, rfl, hfz, hnd⟩ := hW
  have hA : DataW.TrodAll enc Try.prog W 0 (fun _ => true) true Try.f11.params.toList args.toList ds p := hA0
  rw [Try.params11] at hA hval
  obtain ⟨v0, v1, d0, d1, p0, p1, rfl, rfl, rfl, h0, h1⟩ := trodAll_two hA
  obtain ⟨rfl, rfl⟩ := trodVars_none hV
  obtain ⟨n0, rfl, rfl, rfl, wn0⟩ := open_int Try.underlying5 (hval 0 5 v0 rfl rfl) h0
  obtain ⟨n1, rfl, rfl, rfl, wn1⟩ := open_int Try.underlying5 (hval 1 5 v1 rfl rfl) h1
  refine (stars_int W n0 n1 (wf_u8 wn0) (wf_u8 wn1)).mono fun e W' ⟨he, hw⟩ => ?_
  subst he
  exact ⟨_, rfl, law_close (bt := 4) rfl Try.underlying4 rfl Try.laidOut (of_decide_eq_true (by kernel_rfl)) hW' rfl hw⟩

theorem linkStars_holds : Rows.LinkStarsSaid :=
  OpenClaim.holds_of_wide 11 Try.f11 rfl rfl rfl rfl rfl rfl rfl ⟨rfl, rfl, rfl, rfl, rfl⟩ rfl rfl rfl rfl rfl (by kernel_rfl) Try.func11 (by kernel_rfl)
    (of_decide_eq_true (by kernel_rfl)) (by unfold Func.isWrapper; first | (rw [if_pos (by decide +kernel)]; kernel_rfl) | (rw [if_neg (by decide +kernel)]; exact ⟨rfl, rfl⟩))
    (fun os started H enc _ => linkStars_lifted os started H enc)

end Go.Proofs.Ytaipladbgdcedaa
