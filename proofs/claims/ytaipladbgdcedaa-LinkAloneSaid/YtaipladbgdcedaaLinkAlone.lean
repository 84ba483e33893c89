/- LinkAlone holds: a node by itself is its tree, goes, and comes again with another weight; under no condition. -/
import Derived.Test.YtaipladbgdcedaaSol
import Derived.Test.YtaipladbgdcedaaRo
set_option linter.unusedSimpArgs false
set_option linter.unusedVariables false
namespace Go.Proofs.Ytaipladbgdcedaa
open Go.ChangeShapes Go.WideShapes Go.ChangeAt Go.RowKit

set_option maxRecDepth 100000 in
set_option maxHeartbeats 8000000 in
theorem alone_any (w : World) (v : Nat) (a b : Int) (ha : -32768 ≤ a ∧ a ≤ 32767) (hb : -32768 ≤ b ∧ b ≤ 32767) (hv : v ≤ 255) :
    Calls Try.prog 12 #[.int .u8 v, .agg #[.int .i16 a, .int .i16 b]] w fun e w' => e = .returned (.bool true) ∧ Below w.heap.size w w' := by
  have hmod : (v : Int) % 30 = ((v % 30 : Nat) : Int) := by omega
  have hk : v % 30 < 30 := Nat.mod_lt v (by omega)
  go_enter Try.func12, Try.ntmps12
  go_wp2_with fail
  rw [hmod]
  generalize v % 30 = k at *
  clear hmod
  go_wp2_with fail
  go_at_call 25
  refine (new_any 30 (by omega) _).mono ?_
  rintro e w1 ⟨F, A, rfl, h1, t1, gF, gA, hFA⟩
  have hbx := t1.blk (two_made w 55 (.int .i16 a) (.int .i16 b)) (by simp)
  have T1 := Lib.hid (((Tch.refl [] w).new _).trans t1)
  have gB : w.heap.size < A := by rw [size_new] at gA; omega
  have gA : w.heap.size ≤ A := by omega
  have GA := Lib.hid gA
  generalize w.heap.size = B at hbx gB gA ⊢
  have HBX := Lib.hid hbx
  rw [← sol_none k] at h1
  have H1 := Lib.hid (show LPost w1 F A 31 (Sol k 0 false) w1 from ⟨h1, Tch.refl _ _⟩)
  have hlt := h1.lt
  clear h1 t1 hbx
  go_wp2_with fail
  have O := fun y => sol_off k y
  have HOF := Lib.hid O
  clear O
  go_at_call 31
  refine (Has_at H1.out.1 k false (HOF.out 0).1).mono ?_
  rintro e w2 ⟨rfl, h⟩
  have H2 := Lib.hid (H1.out.trans h)
  clear h H1
  go_wp2_with fail
  go_at_call 19
  refine (Evert_at H2.out.1 k false (Sol k 0 false) (HOF.out 0).1 (HOF.out 0).2.1).mono ?_
  rintro e w3 ⟨rfl, h⟩
  have H3 := Lib.hid (H2.out.trans h)
  clear h H2
  go_wp2_with fail
  go_at_call 32
  refine (Cut_at H3.out.1 k false (Sol k 0 false) (HOF.out 0).2.2.1 (HOF.out 0).2.2.2.1).mono ?_
  rintro e w4 ⟨rfl, h⟩
  have H4 := Lib.hid (H3.out.trans h)
  clear h H3
  go_wp2_with fail
  go_loopw [7, 8, 9, 10, 11, 12, 13, 14, 15] (fun i _ _ _ _ _ _ _ _ wr => ∃ (j : Nat) (y : Int), i = .int .i64 (j : Int) ∧ j ≤ 2 ∧ LPost w1 F A 31 (Sol k y false) wr) (fun i _ _ _ _ _ _ _ _ _ => 2 - (intOf i).toNat)
  case atStart => exact ⟨0, 0, rfl, by omega, H4.out⟩
  case round =>
    obtain ⟨j, y, rfl, hj, hL⟩ := hrel
    clear H4
    have H10 := Lib.hid hL
    clear hL
    by_cases hj2 : j = 2
    · subst hj2
      go_wp2_with fail
      go_at_call 15
      refine (awake_any _).mono ?_
      rintro e w11 ⟨rfl, t⟩
      have H11 := Lib.hid (show LPost w1 F A 31 (Sol k y false) w11 from ⟨H10.out.1.quiet t, H10.out.2.trans (t.mono (by simp))⟩)
      clear t H10
      go_wp2_with fail
      go_at_call 24
      refine (Check_at H11.out.1).mono ?_
      rintro e w12 ⟨rfl, h⟩
      have H12 := Lib.hid (H11.out.trans h)
      clear h H11
      go_wp2_with fail
      go_ret
      exact ⟨rfl, (tch_own T1.out H12.out.2 GA.out).nil⟩
    · have hjl : j < 2 := by omega
      have d3 : decide ((j : Int) < 2) = true := decide_eq_true_iff.2 (by omega)
      obtain ⟨x, hx1, hx2, hxc⟩ : ∃ x : Int, -32768 ≤ x ∧ x ≤ 32767 ∧ wr.cell? ⟨B, j, none⟩ = some (.int .i16 x) := by
        have hb := H10.out.2.blk HBX.out (by simp; omega)
        have e : j = 0 ∨ j = 1 := by omega
        rcases e with e | e
        · subst e; exact ⟨a, by omega, by omega, hb.cell 0 (by omega)⟩
        · subst e; exact ⟨b, by omega, by omega, hb.cell 1 (by omega)⟩
      have hbl := (H10.out.2.blk HBX.out (by simp; omega)).lt
      have hxw : InW x := by unfold InW; omega
      have SF := Lib.hid (sol_facts (k := k) hk hxw)
      have SA := Lib.hid (sol_add (k := k) hk y hxw)
      have SO := Lib.hid (sol_off k x)
      clear hxw hj2
      go_wp2_with fail
      clear hxc hbl
      go_at_call 26
      refine (Add_at H10.out.1 k x true (Sol k x true) SA.out.1 SA.out.2).mono ?_
      rintro e w11 ⟨rfl, h⟩
      have H11 := Lib.hid (H10.out.trans h)
      clear h H10
      go_wp2_with fail
      go_at_call 26
      refine (Add_at H11.out.1 k x false (Sol k x true) SF.out.ad SF.out.ag).mono ?_
      rintro e w12 ⟨rfl, h⟩
      have H12 := Lib.hid (H11.out.trans h)
      clear h H11
      go_wp2_with fail
      go_at_call 18
      refine (Path_at H12.out.1 k k 1 x x x true SF.out.sum SF.out.same).mono ?_
      rintro e w13 ⟨rfl, h⟩
      have H13 := Lib.hid (H12.out.trans h)
      clear h H12
      go_wp2_with fail
      have hS := sum_made w13 ⟨1, x, x, x⟩
      have h := (show LPost w1 F A 31 (Sol k x true) (w13.alloc (.cells #[.int .i64 1, .int .i64 x, .int .i64 x, .int .i64 x] 29)) from ⟨H13.out.1.quiet ((Tch.refl _ _).new _), H13.out.2.new _⟩)
      have hSA := (show A ≠ w13.heap.size from by have := H13.out.1.lt; omega)
      generalize w13.alloc (.cells _ 29) = w14 at hS h ⊢
      generalize w13.heap.size = SV at hS hSA ⊢
      have H14 := Lib.hid h
      have HS14 := Lib.hid hS
      clear hS h H13
      go_at_call 23
      refine (Sub_at H14.out.1 k 1 x true SF.out.sub SF.out.ssum SF.out.has).mono ?_
      rintro e w15 ⟨rfl, h⟩
      have H15 := Lib.hid (H14.out.trans h)
      have hS := h.2.blk HS14.out (by simp; omega)
      clear h H14
      have HS15 := Lib.hid hS
      clear hS HS14
      go_wp2_with fail
      go_at_call 29
      refine (Get_at H15.out.1 k x true SF.out.get SF.out.has).mono ?_
      rintro e w16 ⟨rfl, h⟩
      have H16 := Lib.hid (H15.out.trans h)
      have hS := h.2.blk HS15.out (by simp; omega)
      clear h H15
      have HS16 := Lib.hid hS
      have s0 : w16.cell? ⟨SV, 0, none⟩ = some (.int .i64 1) := hS.cell 0 (by omega)
      have s1 : w16.cell? ⟨SV, 1, none⟩ = some (.int .i64 x) := hS.cell 1 (by omega)
      have s2 : w16.cell? ⟨SV, 2, none⟩ = some (.int .i64 x) := hS.cell 2 (by omega)
      have s3 : w16.cell? ⟨SV, 3, none⟩ = some (.int .i64 x) := hS.cell 3 (by omega)
      have hsl := hS.lt
      clear hS HS15
      have dx : (x != x) = false := by simp
      go_wp2_with fail
      clear s0 s1 s2 s3 hsl
      go_at_call 20
      refine (Root_at H16.out.1 k k SF.out.root).mono ?_
      rintro e w17 ⟨rfl, h⟩
      have H17 := Lib.hid (H16.out.trans h)
      clear h H16
      go_wp2_with fail
      go_at_call 21
      refine (Parent_at H17.out.1 k (-1) SF.out.par).mono ?_
      rintro e w18 ⟨rfl, h⟩
      have H18 := Lib.hid (H17.out.trans h)
      clear h H17
      go_wp2_with fail
      go_at_call 22
      refine (Lca_at H18.out.1 k k k SF.out.lca).mono ?_
      rintro e w19 ⟨rfl, h⟩
      have H19 := Lib.hid (H18.out.trans h)
      clear h H18
      go_wp2_with fail
      go_at_call 16
      refine (Size_at H19.out.1 k 1 SF.out.size).mono ?_
      rintro e w20 ⟨rfl, h⟩
      have H20 := Lib.hid (H19.out.trans h)
      clear h H19
      go_wp2_with fail
      go_at_call 17
      refine (Same_at H20.out.1 k k true SF.out.same).mono ?_
      rintro e w21 ⟨rfl, h⟩
      have H21 := Lib.hid (H20.out.trans h)
      clear h H20
      go_wp2_with fail
      go_at_call 27
      refine (Link_at H21.out.1 k k false (Sol k x true) SF.out.lk SF.out.lg).mono ?_
      rintro e w22 ⟨rfl, h⟩
      have H22 := Lib.hid (H21.out.trans h)
      clear h H21
      go_wp2_with fail
      go_at_call 32
      refine (Cut_at H22.out.1 k false (Sol k x true) SF.out.ct SF.out.cg).mono ?_
      rintro e w23 ⟨rfl, h⟩
      have H23 := Lib.hid (H22.out.trans h)
      clear h H22
      go_wp2_with fail
      go_at_call 19
      refine (Evert_at H23.out.1 k true (Sol k x true) SF.out.has SF.out.ev).mono ?_
      rintro e w24 ⟨rfl, h⟩
      have H24 := Lib.hid (H23.out.trans h)
      clear h H23
      go_wp2_with fail
      go_at_call 33
      refine (Drop_at H24.out.1 k true (Sol k x false) SF.out.dr SF.out.dg).mono ?_
      rintro e w25 ⟨rfl, h⟩
      have H25 := Lib.hid (H24.out.trans h)
      clear h H24
      go_wp2_with fail
      go_at_call 33
      refine (Drop_at H25.out.1 k false (Sol k x false) SO.out.2.2.2.2.1 SO.out.2.2.2.2.2).mono ?_
      rintro e w26 ⟨rfl, h⟩
      have H26 := Lib.hid (H25.out.trans h)
      clear h H25
      go_wp2_with fail
      go_roundw
      case rel => exact ⟨j + 1, x, by simp, by omega, H26.out⟩
      case measure => simp [intOf]; omega
theorem alone_int (w : World) (z : Int) (a b : Int) (ha : -32768 ≤ a ∧ a ≤ 32767) (hb : -32768 ≤ b ∧ b ≤ 32767) (hz : 0 ≤ z ∧ z ≤ 255) :
    Calls Try.prog 12 #[.int .u8 z, .agg #[.int .i16 a, .int .i16 b]] w fun e w' => e = .returned (.bool true) ∧ Below w.heap.size w w' := by
  obtain ⟨v, rfl⟩ : ∃ a : Nat, z = (a : Int) := ⟨z.toNat, by omega⟩
  exact alone_any w v a b ha hb (by omega)

set_option maxRecDepth 100000 in
theorem linkAlone_lifted (os : Os) (started : os.Started) (H : Type) (enc : TypeId × Value → H) :
    ReturnsInHanded {} Try.checked os 12 .any (Rows.linkAloneSpec.pre6 enc Try.prog Try.f12 Rows.linkAloneRow.domain false) (Rows.linkAloneSpec.post enc Try.prog Try.f12 false true false false) := by
  refine returnsInHanded_of_change (C := Try.checked) Try.own started (by kernel_rfl) Try.func12
    (ChangeSpec.witness6 (enc := enc) (C := Try.checked) false ⟨#[], #[.int .u8 0, .agg #[.int .i16 0, .int .i16 0]], []⟩ 8 (by kernel_rfl) (by kernel_rfl) (by kernel_rfl) (by kernel_rfl)) ?_
  intro W base args ds gs before hval0 hW hcnd _
  have hval : ∀ (j : Nat) t v, Try.f12.params[j]? = some t → args[j]? = some v → Value.okWide Try.prog W .any base t v := hval0
  have hW' := hW
  obtain ⟨p, q, hA0, hV, rfl, hfz, hnd⟩ := hW
  have hA : DataW.TrodAll enc Try.prog W 0 (fun _ => true) true Try.f12.params.toList args.toList ds p := hA0
  rw [Try.params12] at hA hval
  obtain ⟨v0, v1, d0, d1, p0, p1, rfl, rfl, rfl, h0, h1⟩ := trodAll_two hA
  obtain ⟨rfl, rfl⟩ := trodVars_none hV
  obtain ⟨n0, rfl, rfl, rfl, wn0⟩ := open_int Try.underlying5 (hval 0 5 v0 rfl rfl) h0
  obtain ⟨cs1, rfl, hs1, hc1⟩ := arr_arg Try.underlying55 Try.underlying52 (by kernel_rfl) (by kernel_rfl) (okWide_arr Try.underlying55 (hval 1 55 v1 rfl rfl)) h1
  obtain ⟨x1, y1, rfl, wx1, wy1⟩ := arr_two hs1 hc1
  refine (alone_int W n0 x1 y1 (wf_i16 wx1) (wf_i16 wy1) (wf_u8 wn0)).mono fun e W' ⟨he, hw⟩ => ?_
  subst he
  exact ⟨_, rfl, law_close (bt := 4) rfl Try.underlying4 rfl Try.laidOut (of_decide_eq_true (by kernel_rfl)) hW' rfl hw⟩

theorem linkAlone_holds : Rows.LinkAloneSaid :=
  OpenClaim.holds_of_wide 12 Try.f12 rfl rfl rfl rfl rfl rfl rfl ⟨rfl, rfl, rfl, rfl, rfl⟩ rfl rfl rfl rfl rfl (by kernel_rfl) Try.func12 (by kernel_rfl)
    (of_decide_eq_true (by kernel_rfl)) (by unfold Func.isWrapper; first | (rw [if_pos (by decide +kernel)]; kernel_rfl) | (rw [if_neg (by decide +kernel)]; exact ⟨rfl, rfl⟩))
    (fun os started H enc _ => linkAlone_lifted os started H enc)

end Go.Proofs.Ytaipladbgdcedaa
