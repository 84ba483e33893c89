/- LinkCuts holds: a node that is cut off takes just its subtree with it, and linked where it was, all is as it was; under no condition. -/
import Derived.Test.YtaipladbgdcedaaCm
import Derived.Test.YtaipladbgdcedaaRo
set_option linter.unusedSimpArgs false
set_option linter.unusedVariables false
namespace Go.Proofs.Ytaipladbgdcedaa
open Go.ChangeShapes Go.WideShapes Go.ChangeAt Go.RowKit

set_option maxRecDepth 100000 in
set_option maxHeartbeats 8000000 in
theorem cuts_any (w : World) (aU : Option Addr) (LU cU : Nat) (fU : Nat → Int) (aW : Option Addr) (LW cW : Nat) (fW : Nat → Int) (hU : RowAt w .u8 aU LU fU) (hW : RowAt w .i16 aW LW fW) (a : Nat) (ha : a ≤ 255) :
    Calls Try.prog 9 #[.slice aU LU cU, .slice aW LW cW, .int .u8 a] w fun e w' => e = .returned (.bool true) ∧ Below w.heap.size w w' := by
  obtain ⟨n, hn, hmin⟩ : ∃ n : Nat, n ≤ 30 ∧ min (LU : Int) 30 = (n : Int) := ⟨min LU 30, by omega, by omega⟩
  obtain ⟨G, hG⟩ : ∃ G, G = Gro n (qOf LU fU) (zOf LW fW) n := ⟨_, rfl⟩
  have FU : Full G n := by
    rw [hG]
    exact gro_full (by omega) (fun u hu => qOf_low LU fU u hu) (fun u => by have := zOf_in hW u; unfold InW; omega)
  have HGR := grown_any w n (by omega) aU LU cU fU aW LW cW fW hU hW
  rw [← hG] at HGR
  have HGR := Lib.hid HGR
  have HFU := Lib.hid FU
  have HGG := Lib.hid hG
  clear hU hW hG FU
  go_enter Try.func9, Try.ntmps9
  go_upto_region 1 with (fail)
  go_cut [7] from 18 to 20 (fun v wx => v = .int .i64 (n : Int) ∧ wx = w)
  case first =>
    go_wp2_with fail
    all_goals
      go_meet
      exact ⟨congrArg (Value.int .i64) (by omega), rfl⟩
  obtain ⟨rfl, rfl⟩ := hcut
  go_wp2_with fail
  go_at_call 14
  refine HGR.out.mono ?_
  rintro e w1 ⟨F, A, rfl, h1, t1, gF, gA⟩
  have T1 := Lib.hid t1
  have H1 := Lib.hid (show LPost w1 F A (n + 1) G w1 from ⟨h1, Tch.refl _ _⟩)
  have hlt := h1.lt
  clear h1 t1 HGR
  by_cases hn0 : n = 0
  · have d1 : ((n : Int) == 0) = true := by rw [hn0]; rfl
    have d2 : decide (n = 0) = true := decide_eq_true_iff.2 hn0
    clear hn0
    go_wp2_with fail
    go_at_call 15
    refine (awake_any _).mono ?_
    rintro e w2 ⟨rfl, t2⟩
    have HT := Lib.hid (T1.out.trans t2).nil
    clear t2
    go_wp2_with fail
    go_ret
    exact ⟨rfl, HT.out⟩
  have d1 : ((n : Int) == 0) = false := beq_eq_false_iff_ne.2 (by omega)
  have hmod : (a : Int) % (n : Int) = ((a % n : Nat) : Int) := by omega
  have hcn : a % n < n := Nat.mod_lt a (by omega)
  go_wp2_with fail
  rw [hmod]
  generalize a % n = c at *
  clear hmod
  obtain ⟨q, hq⟩ : ∃ q, q = G.up (c + 1) := ⟨_, rfl⟩
  obtain ⟨cs, hcs⟩ : ∃ x, x = G.sub (c + 1) := ⟨_, rfl⟩
  obtain ⟨ws, hws⟩ : ∃ x, x = G.ssum (c + 1) := ⟨_, rfl⟩
  obtain ⟨sz, hsz⟩ : ∃ x, x = G.sub (G.root (c + 1)) := ⟨_, rfl⟩
  have HPA := Lib.hid (HFU.out.par c hcn)
  have HSU := Lib.hid ((HFU.out.sub c hcn).trans hcs.symm)
  have HWU := Lib.hid ((HFU.out.ssum c hcn).trans hws.symm)
  have HSZ := Lib.hid ((HFU.out.size c hcn).trans hsz.symm)
  have HH := Lib.hid (HFU.out.has c hcn)
  have hsb := sub_bd HFU.out.ok (c + 1)
  have hsz2 := sub_bd HFU.out.ok (G.root (c + 1))
  rw [← hcs] at hsb
  rw [← hsz] at hsz2
  rw [← hq] at HPA
  have HCS := Lib.hid hcs
  have HWS := Lib.hid hws
  have HSZ0 := Lib.hid hsz
  clear hcs hws hsz
  by_cases hq0 : q = 0
  · rw [hq0] at HPA hq
    have HPA := Lib.hid (show parE G (c : Int) = -1 from HPA.out)
    have HCN := Lib.hid (HFU.out.cutNo hcn hq.symm)
    have hrt := root_of_top HFU.out.ok (HFU.out.th (c + 1) (by omega) (by omega)) hq.symm
    have HRT := Lib.hid ((HFU.out.root c hcn).trans (by rw [hrt]; omega : (G.root (c + 1) : Int) - 1 = (c : Int)))
    have hsq : sz = cs := by rw [HSZ0.out, HCS.out, hrt]
    clear hq hq0 hrt
    subst hsq
    go_wp2_with fail
    go_at_call 21
    refine (Parent_at H1.out.1 c (-1) HPA.out).mono ?_
    rintro e w2 ⟨rfl, h⟩
    have H2 := Lib.hid (H1.out.trans h)
    clear h H1
    go_wp2_with fail
    go_at_call 23
    refine (Sub_at H2.out.1 c sz ws true HSU.out HWU.out HH.out).mono ?_
    rintro e w3 ⟨rfl, h⟩
    have H3 := Lib.hid (H2.out.trans h)
    clear h H2
    go_wp2_with fail
    go_at_call 16
    refine (Size_at H3.out.1 c sz HSZ.out).mono ?_
    rintro e w4 ⟨rfl, h⟩
    have H4 := Lib.hid (H3.out.trans h)
    clear h H3
    go_wp2_with fail
    go_at_call 32
    refine (Cut_at H4.out.1 c false G HCN.out.1 HCN.out.2).mono ?_
    rintro e w5 ⟨rfl, h⟩
    have H5 := Lib.hid (H4.out.trans h)
    clear h H4
    go_wp2_with fail
    go_at_call 15
    refine (awake_any _).mono ?_
    rintro e w6 ⟨rfl, t⟩
    have HT6 := Lib.hid ((tch_own T1.out H5.out.2 gA).trans t)
    have H6 := Lib.hid (show LPost w1 F A (n + 1) G w6 from ⟨H5.out.1.quiet t, H5.out.2.trans (t.mono (by simp))⟩)
    clear t H5
    go_wp2_with fail
    go_at_call 20
    refine (Root_at H6.out.1 c c HRT.out).mono ?_
    rintro e w7 ⟨rfl, h⟩
    have H7 := Lib.hid (H6.out.trans h)
    clear h H6
    go_wp2_with fail
    go_ret
    exact ⟨rfl, (tch_own T1.out H7.out.2 gA).nil⟩
  · obtain ⟨p, hp⟩ : ∃ p, q = p + 1 := ⟨q - 1, by omega⟩
    rw [hp] at hq HPA
    have HPA := Lib.hid (HPA.out.trans (by omega : (((p + 1 : Nat) : Int) - 1) = (p : Int)))
    obtain ⟨G', hG'⟩ : ∃ G', G' = G.cut (c + 1) := ⟨_, rfl⟩
    have CU := HFU.out.cut hcn hq.symm
    rw [← hG'] at CU
    have HCU := Lib.hid CU
    have hpn := CU.pn
    clear hG' hq hq0 hp CU
    have HS1 := Lib.hid ((HCU.out.full.sub c hcn).trans (HCU.out.sub.trans HCS.out.symm))
    have HW1 := Lib.hid ((HCU.out.full.ssum c hcn).trans (HCU.out.ssum.trans HWS.out.symm))
    have HR1 := Lib.hid ((HCU.out.full.root c hcn).trans (by rw [HCU.out.rc]; omega : (G'.root (c + 1) : Int) - 1 = (c : Int)))
    have HM1 := Lib.hid ((HCU.out.full.same c p hcn hpn).trans (decide_eq_false_iff_not.2 (by rw [HCU.out.rc, HCU.out.rp]; exact Ne.symm HCU.out.ne)))
    have HZ1 := Lib.hid ((HCU.out.full.size c hcn).trans (by rw [HCU.out.rc, HCU.out.sub, HCS.out] : G'.sub (G'.root (c + 1)) = cs))
    have HZ2 := Lib.hid ((HCU.out.full.size p hpn).trans (by rw [HCU.out.rp, HCU.out.size, ← HSZ0.out, ← HCS.out] : G'.sub (G'.root (p + 1)) = sz - cs))
    have HP1 := Lib.hid ((HCU.out.full.par c hcn).trans (by simp [HCU.out.up] : (G'.up (c + 1) : Int) - 1 = -1))
    have HZ3 := Lib.hid ((HFU.out.size p hpn).trans (by rw [HCU.out.gp, HSZ0.out] : G.sub (G.root (p + 1)) = sz))
    have d3 : decide (0 ≤ (p : Int)) = true := decide_eq_true_iff.2 (by omega)
    have d4 : decide ((p : Int) < 0) = false := decide_eq_false_iff_not.2 (by omega)
    have b1 : -9223372036854775808 ≤ sz - cs ∧ sz - cs ≤ 9223372036854775807 := by omega
    go_wp2_with fail
    go_at_call 21
    refine (Parent_at H1.out.1 c p HPA.out).mono ?_
    rintro e w2 ⟨rfl, h⟩
    have H2 := Lib.hid (H1.out.trans h)
    clear h H1
    go_wp2_with fail
    go_at_call 23
    refine (Sub_at H2.out.1 c cs ws true HSU.out HWU.out HH.out).mono ?_
    rintro e w3 ⟨rfl, h⟩
    have H3 := Lib.hid (H2.out.trans h)
    clear h H2
    go_wp2_with fail
    go_at_call 16
    refine (Size_at H3.out.1 c sz HSZ.out).mono ?_
    rintro e w4 ⟨rfl, h⟩
    have H4 := Lib.hid (H3.out.trans h)
    clear h H3
    go_wp2_with fail
    go_at_call 32
    refine (Cut_at H4.out.1 c true G' HCU.out.ok HCU.out.eq).mono ?_
    rintro e w5 ⟨rfl, h⟩
    have H5 := Lib.hid (H4.out.trans h)
    clear h H4
    go_wp2_with fail
    go_at_call 23
    refine (Sub_at H5.out.1 c cs ws true HS1.out HW1.out (HCU.out.full.has c hcn)).mono ?_
    rintro e w6 ⟨rfl, h⟩
    have H6 := Lib.hid (H5.out.trans h)
    clear h H5
    go_wp2_with fail
    go_at_call 20
    refine (Root_at H6.out.1 c c HR1.out).mono ?_
    rintro e w7 ⟨rfl, h⟩
    have H7 := Lib.hid (H6.out.trans h)
    clear h H6
    go_wp2_with fail
    go_at_call 17
    refine (Same_at H7.out.1 c p false HM1.out).mono ?_
    rintro e w8 ⟨rfl, h⟩
    have H8 := Lib.hid (H7.out.trans h)
    clear h H7
    go_wp2_with fail
    go_at_call 16
    refine (Size_at H8.out.1 c cs HZ1.out).mono ?_
    rintro e w9 ⟨rfl, h⟩
    have H9 := Lib.hid (H8.out.trans h)
    clear h H8
    go_wp2_with fail
    go_at_call 16
    refine (Size_at H9.out.1 p (sz - cs) HZ2.out).mono ?_
    rintro e w10 ⟨rfl, h⟩
    have H10 := Lib.hid (H9.out.trans h)
    clear h H9
    go_wp2_with fail
    go_at_call 21
    refine (Parent_at H10.out.1 c (-1) HP1.out).mono ?_
    rintro e w11 ⟨rfl, h⟩
    have H11 := Lib.hid (H10.out.trans h)
    clear h H10
    go_wp2_with fail
    go_at_call 27
    refine (Link_at H11.out.1 c p true G HCU.out.lk HCU.out.lg).mono ?_
    rintro e w12 ⟨rfl, h⟩
    have H12 := Lib.hid (H11.out.trans h)
    clear h H11
    go_wp2_with fail
    go_at_call 27
    refine (Link_at H12.out.1 c p false G HCU.out.nl HCU.out.ng).mono ?_
    rintro e w13 ⟨rfl, h⟩
    have H13 := Lib.hid (H12.out.trans h)
    clear h H12
    go_wp2_with fail
    go_at_call 23
    refine (Sub_at H13.out.1 c cs ws true HSU.out HWU.out HH.out).mono ?_
    rintro e w14 ⟨rfl, h⟩
    have H14 := Lib.hid (H13.out.trans h)
    clear h H13
    go_wp2_with fail
    go_at_call 15
    refine (awake_any _).mono ?_
    rintro e w15 ⟨rfl, t⟩
    have HT15 := Lib.hid ((tch_own T1.out H14.out.2 gA).trans t)
    have H15 := Lib.hid (show LPost w1 F A (n + 1) G w15 from ⟨H14.out.1.quiet t, H14.out.2.trans (t.mono (by simp))⟩)
    clear t H14
    go_wp2_with fail
    go_at_call 21
    refine (Parent_at H15.out.1 c p HPA.out).mono ?_
    rintro e w16 ⟨rfl, h⟩
    have H16 := Lib.hid (H15.out.trans h)
    clear h H15
    go_wp2_with fail
    go_at_call 16
    refine (Size_at H16.out.1 p sz HZ3.out).mono ?_
    rintro e w17 ⟨rfl, h⟩
    have H17 := Lib.hid (H16.out.trans h)
    clear h H16
    go_wp2_with fail
    go_at_call 24
    refine (Check_at H17.out.1).mono ?_
    rintro e w18 ⟨rfl, h⟩
    have H18 := Lib.hid (H17.out.trans h)
    clear h H17
    go_wp2_with fail
    go_ret
    exact ⟨rfl, (tch_own T1.out H18.out.2 gA).nil⟩
theorem cuts_int (w : World) (aU : Option Addr) (LU cU : Nat) (fU : Nat → Int) (aW : Option Addr) (LW cW : Nat) (fW : Nat → Int) (hU : RowAt w .u8 aU LU fU) (hW : RowAt w .i16 aW LW fW) (z : Int) (hz : 0 ≤ z ∧ z ≤ 255) :
    Calls Try.prog 9 #[.slice aU LU cU, .slice aW LW cW, .int .u8 z] w fun e w' => e = .returned (.bool true) ∧ Below w.heap.size w w' := by
  obtain ⟨a, rfl⟩ : ∃ a : Nat, z = (a : Int) := ⟨z.toNat, by omega⟩
  exact cuts_any w aU LU cU fU aW LW cW fW hU hW a (by omega)

set_option maxRecDepth 100000 in
theorem linkCuts_lifted (os : Os) (started : os.Started) (H : Type) (enc : TypeId × Value → H) :
    ReturnsInHanded {} Try.checked os 9 .any (Rows.linkCutsSpec.pre6 enc Try.prog Try.f9 Rows.linkCutsRow.domain false) (Rows.linkCutsSpec.post enc Try.prog Try.f9 false true false false) := by
  refine returnsInHanded_of_change (C := Try.checked) Try.own started (by kernel_rfl) Try.func9
    (ChangeSpec.witness6 (enc := enc) (C := Try.checked) false ⟨#[], #[.slice none 0 0, .slice none 0 0, .int .u8 0], []⟩ 8 (by kernel_rfl) (by kernel_rfl) (by kernel_rfl) (by kernel_rfl)) ?_
  intro W base args ds gs before hval0 hW hcnd _
  have hval : ∀ (j : Nat) t v, Try.f9.params[j]? = some t → args[j]? = some v → Value.okWide Try.prog W .any base t v := hval0
  have hW' := hW
  obtain ⟨p, q, hA0, hV, rfl, hfz, hnd⟩ := hW
  have hA : DataW.TrodAll enc Try.prog W 0 (fun _ => true) true Try.f9.params.toList args.toList ds p := hA0
  rw [Try.params9] at hA hval
  obtain ⟨v0, v1, v2, d0, d1, d2, p0, p1, p2, rfl, rfl, rfl, h0, h1, h2⟩ := trodAll_three hA
  obtain ⟨rfl, rfl⟩ := trodVars_none hV
  obtain ⟨a0, L0, c0, rfl, hL0, hR0⟩ := nums_arg Try.underlying22 Try.underlying5 (by kernel_rfl) (by obtain ⟨_, _, _, rfl⟩ := okWide_slice Try.underlying22 (hval 0 22 v0 rfl rfl); rfl) h0
  obtain ⟨f0, hf0⟩ := row_of hR0
  obtain ⟨a1, L1, c1, rfl, hL1, hR1⟩ := nums_arg Try.underlying23 Try.underlying52 (by kernel_rfl) (by obtain ⟨_, _, _, rfl⟩ := okWide_slice Try.underlying23 (hval 1 23 v1 rfl rfl); rfl) h1
  obtain ⟨f1, hf1⟩ := row_of hR1
  obtain ⟨n2, rfl, rfl, rfl, wn2⟩ := open_int Try.underlying5 (hval 2 5 v2 rfl rfl) h2
  refine (cuts_int W a0 L0 c0 f0 a1 L1 c1 f1 hf0 hf1 n2 (wf_u8 wn2)).mono fun e W' ⟨he, hw⟩ => ?_
  subst he
  exact ⟨_, rfl, law_close (bt := 4) rfl Try.underlying4 rfl Try.laidOut (of_decide_eq_true (by kernel_rfl)) hW' rfl hw⟩

theorem linkCuts_holds : Rows.LinkCutsSaid :=
  OpenClaim.holds_of_wide 9 Try.f9 rfl rfl rfl rfl rfl rfl rfl ⟨rfl, rfl, rfl, rfl, rfl⟩ rfl rfl rfl rfl rfl (by kernel_rfl) Try.func9 (by kernel_rfl)
    (of_decide_eq_true (by kernel_rfl)) (by unfold Func.isWrapper; first | (rw [if_pos (by decide +kernel)]; kernel_rfl) | (rw [if_neg (by decide +kernel)]; exact ⟨rfl, rfl⟩))
    (fun os started H enc _ => linkCuts_lifted os started H enc)

end Go.Proofs.Ytaipladbgdcedaa
