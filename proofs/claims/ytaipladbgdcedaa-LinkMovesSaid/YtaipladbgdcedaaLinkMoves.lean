/- LinkMoves holds: a node that goes from one parent to another takes what is below it, and below itself it can't go; under no condition. -/
import Derived.Test.YtaipladbgdcedaaCm
import Derived.Test.YtaipladbgdcedaaRo
set_option linter.unusedSimpArgs false
set_option linter.unusedVariables false
namespace Go.Proofs.Ytaipladbgdcedaa
open Go.ChangeShapes Go.WideShapes Go.ChangeAt Go.RowKit

set_option maxRecDepth 100000 in
set_option maxHeartbeats 8000000 in
theorem moves_any (w : World) (aU : Option Addr) (LU cU : Nat) (fU : Nat → Int) (aW : Option Addr) (LW cW : Nat) (fW : Nat → Int) (hU : RowAt w .u8 aU LU fU) (hW : RowAt w .i16 aW LW fW) (a b : Nat) (ha : a ≤ 255) (hb : b ≤ 255) :
    Calls Try.prog 10 #[.slice aU LU cU, .slice aW LW cW, .agg #[.int .u8 a, .int .u8 b]] w fun e w' => e = .returned (.bool true) ∧ Below w.heap.size w w' := by
  obtain ⟨n, hn, hmin⟩ : ∃ n : Nat, n ≤ 25 ∧ min (LU : Int) 25 = (n : Int) := ⟨min LU 25, by omega, by omega⟩
  obtain ⟨G, hG⟩ : ∃ G, G = Gro n (qOf LU fU) (zOf LW fW) n := ⟨_, rfl⟩
  have FU : Full G n := by
    rw [hG]
    exact gro_full (by omega) (fun u hu => qOf_low LU fU u hu) (fun u => by have := zOf_in hW u; unfold InW; omega)
  have HGR := grown_any (w.alloc (.cells #[.int .u8 a, .int .u8 b] 41)) n (by omega) aU LU cU fU aW LW cW fW (hU.on ((Tch.refl [] w).new _)) (hW.on ((Tch.refl [] w).new _))
  rw [← hG] at HGR
  have HGR := Lib.hid HGR
  have HFU := Lib.hid FU
  have HGG := Lib.hid hG
  have HUU := Lib.hid hU
  have HWW := Lib.hid hW
  have HMIN := Lib.hid hmin
  clear hU hW hG FU
  go_enter Try.func10, Try.ntmps10
  go_upto_region 1 with (fail)
  go_cut [7] from 19 to 21 (fun v wx => v = .int .i64 (n : Int) ∧ wx = (w.alloc (.cells #[.int .u8 a, .int .u8 b] 41)))
  case first =>
    go_wp2_with fail
    all_goals
      go_meet
      exact ⟨congrArg (Value.int .i64) (by omega), rfl⟩
  obtain ⟨rfl, hwc⟩ := hcut
  subst hwc
  clear hmin
  go_wp2_with fail
  go_at_call 14
  refine HGR.out.mono ?_
  rintro e w1 ⟨F, A, rfl, h1, t1, gF, gA⟩
  have hbx := t1.blk (two_made w 41 (.int .u8 a) (.int .u8 b)) (by simp)
  have bx0 : w1.cell? ⟨w.heap.size, 0, none⟩ = some (.int .u8 a) := hbx.cell 0 (by omega)
  have bx1 : w1.cell? ⟨w.heap.size, 1, none⟩ = some (.int .u8 b) := hbx.cell 1 (by omega)
  have bxl := hbx.lt
  have gA : w.heap.size ≤ A := by rw [size_new] at gA; omega
  clear hbx
  have T1 := Lib.hid (((Tch.refl [] w).new _).trans t1)
  have H1 := Lib.hid (show LPost w1 F A (n + 1) G w1 from ⟨h1, Tch.refl _ _⟩)
  have hlt := h1.lt
  clear h1 t1 HGR
  by_cases hn0 : n = 0
  · have d1 : ((n : Int) == 0) = true := by rw [hn0]; rfl
    have d2 : decide (n = 0) = true := decide_eq_true_iff.2 hn0
    clear hn0
    go_wp2_with fail
    go_at_call 15
    refine (awake_any _).mono ?_
    rintro e wz ⟨rfl, t2⟩
    have HT := Lib.hid (T1.out.trans t2).nil
    clear t2
    go_wp2_with fail
    go_ret
    exact ⟨rfl, HT.out⟩
  have d1 : ((n : Int) == 0) = false := beq_eq_false_iff_ne.2 (by omega)
  have hmodc : (a : Int) % (n : Int) = ((a % n : Nat) : Int) := by omega
  have hcn : a % n < n := Nat.mod_lt a (by omega)
  have hmodp : (b : Int) % (n : Int) = ((b % n : Nat) : Int) := by omega
  have hpn : b % n < n := Nat.mod_lt b (by omega)
  go_wp2_with fail
  go_quiet (fail)
  go_wp2_with fail
  rw [hmodc, hmodp]
  generalize hwd : World.drewN w1 _ = w2
  have H2 := Lib.hid (show LPost w1 F A (n + 1) G w2 from by rw [← hwd]; exact ⟨H1.out.1.quiet ((Tch.refl _ _).drewN _), H1.out.2.drewN _⟩)
  clear hwd bx0 bx1 bxl H1
  generalize a % n = c at *
  generalize b % n = p at *
  clear hmodc hmodp
  obtain ⟨G1, cb, F1, hcb, hcg, hu1, hs1, hw1⟩ : ∃ G1 cb, Full G1 n ∧ cutOk G (c : Int) = cb ∧ cutG G (c : Int) = G1 ∧ G1.up (c + 1) = 0 ∧ G1.sub (c + 1) = G.sub (c + 1) ∧ G1.ssum (c + 1) = G.ssum (c + 1) := by
    by_cases hq : G.up (c + 1) = 0
    · obtain ⟨k1, k2⟩ := HFU.out.cutNo hcn hq
      exact ⟨G, false, HFU.out, k1, k2, hq, rfl, rfl⟩
    · obtain ⟨r, hr⟩ : ∃ r, G.up (c + 1) = r + 1 := ⟨G.up (c + 1) - 1, by omega⟩
      have C := HFU.out.cut hcn hr
      exact ⟨_, true, C.full, C.ok, C.eq, C.up, C.sub, C.ssum⟩
  obtain ⟨cs, hcs⟩ : ∃ x, x = G.sub (c + 1) := ⟨_, rfl⟩
  obtain ⟨ws, hws⟩ : ∃ x, x = G.ssum (c + 1) := ⟨_, rfl⟩
  obtain ⟨zp, hzp⟩ : ∃ x, x = G1.sub (G1.root (p + 1)) := ⟨_, rfl⟩
  have hsb := sub_bd HFU.out.ok (c + 1)
  have hzb := sub_bd F1.ok (G1.root (p + 1))
  rw [← hcs] at hsb hs1
  rw [← hws] at hw1
  rw [← hzp] at hzb
  have HSU := Lib.hid ((HFU.out.sub c hcn).trans hcs.symm)
  have HWU := Lib.hid ((HFU.out.ssum c hcn).trans hws.symm)
  have HH := Lib.hid (HFU.out.has c hcn)
  have HF1 := Lib.hid F1
  have HCB := Lib.hid hcb
  have HCG := Lib.hid hcg
  have HS1 := Lib.hid hs1
  have HW1 := Lib.hid hw1
  have HU1 := Lib.hid hu1
  have HZP0 := Lib.hid hzp
  have HZP := Lib.hid ((F1.size p hpn).trans hzp.symm)
  have b1 : -9223372036854775808 ≤ zp + cs ∧ zp + cs ≤ 9223372036854775807 := by omega
  clear hcs hws hzp hsb hzb F1 hcb hcg hs1 hw1 hu1
  by_cases hbl : G1.root (p + 1) = c + 1
  · have hrc := root_of_top HF1.out.ok (HF1.out.th (c + 1) (by omega) (by omega)) HU1.out
    have HM := Lib.hid ((HF1.out.same c p hcn hpn).trans (decide_eq_true_iff.2 (by rw [hrc, hbl])))
    have HLN := Lib.hid (HF1.out.linkNo hcn hpn HU1.out hbl)
    have HZC := Lib.hid ((HF1.out.size c hcn).trans (by rw [hrc, HS1.out] : G1.sub (G1.root (c + 1)) = cs))
    clear hbl hrc
    go_wp2_with fail
    go_at_call 23
    refine (Sub_at H2.out.1 c cs ws true HSU.out HWU.out HH.out).mono ?_
    rintro e w3 ⟨rfl, h⟩
    have H3 := Lib.hid (H2.out.trans h)
    clear h H2
    go_wp2_with fail
    go_at_call 32
    refine (Cut_at H3.out.1 c cb G1 HCB.out HCG.out).mono ?_
    rintro e w4 ⟨rfl, h⟩
    have H4 := Lib.hid (H3.out.trans h)
    clear h H3
    go_wp2_with fail
    go_at_call 17
    refine (Same_at H4.out.1 c p true HM.out).mono ?_
    rintro e w5 ⟨rfl, h⟩
    have H5 := Lib.hid (H4.out.trans h)
    clear h H4
    go_wp2_with fail
    go_at_call 16
    refine (Size_at H5.out.1 p zp HZP.out).mono ?_
    rintro e w6 ⟨rfl, h⟩
    have H6 := Lib.hid (H5.out.trans h)
    clear h H5
    go_wp2_with fail
    go_at_call 27
    refine (Link_at H6.out.1 c p false G1 HLN.out.1 HLN.out.2).mono ?_
    rintro e w7 ⟨rfl, h⟩
    have H7 := Lib.hid (H6.out.trans h)
    clear h H6
    go_wp2_with fail
    go_at_call 15
    refine (awake_any _).mono ?_
    rintro e w8 ⟨rfl, t⟩
    have HT8 := Lib.hid ((tch_own T1.out H7.out.2 gA).trans t)
    have H8 := Lib.hid (show LPost w1 F A (n + 1) G1 w8 from ⟨H7.out.1.quiet t, H7.out.2.trans (t.mono (by simp))⟩)
    clear t H7
    go_wp2_with fail
    go_at_call 16
    refine (Size_at H8.out.1 c cs HZC.out).mono ?_
    rintro e w9 ⟨rfl, h⟩
    have H9 := Lib.hid (H8.out.trans h)
    clear h H8
    go_wp2_with fail
    go_ret
    exact ⟨rfl, (tch_own T1.out H9.out.2 gA).nil⟩
  · have hrc := root_of_top HF1.out.ok (HF1.out.th (c + 1) (by omega) (by omega)) HU1.out
    have HM := Lib.hid ((HF1.out.same c p hcn hpn).trans (decide_eq_false_iff_not.2 (by rw [hrc]; exact Ne.symm hbl)))
    obtain ⟨G2, hG2⟩ : ∃ x, x = G1.link (c + 1) (p + 1) := ⟨_, rfl⟩
    have LK := HF1.out.link hcn hpn HU1.out hbl
    rw [← hG2] at LK
    have HLK := Lib.hid LK
    have HS2 := Lib.hid ((LK.full.sub c hcn).trans (LK.sub.trans HS1.out))
    have HW2 := Lib.hid ((LK.full.ssum c hcn).trans (LK.ssum.trans HW1.out))
    have HP2 := Lib.hid ((LK.full.par c hcn).trans (by rw [LK.up]; omega : (G2.up (c + 1) : Int) - 1 = (p : Int)))
    have HZ2 := Lib.hid ((LK.full.size p hpn).trans (by rw [LK.rp, LK.size, ← HZP0.out, HS1.out] : G2.sub (G2.root (p + 1)) = zp + cs))
    clear hbl hrc LK hG2
    go_wp2_with fail
    go_at_call 23
    refine (Sub_at H2.out.1 c cs ws true HSU.out HWU.out HH.out).mono ?_
    rintro e w3 ⟨rfl, h⟩
    have H3 := Lib.hid (H2.out.trans h)
    clear h H2
    go_wp2_with fail
    go_at_call 32
    refine (Cut_at H3.out.1 c cb G1 HCB.out HCG.out).mono ?_
    rintro e w4 ⟨rfl, h⟩
    have H4 := Lib.hid (H3.out.trans h)
    clear h H3
    go_wp2_with fail
    go_at_call 17
    refine (Same_at H4.out.1 c p false HM.out).mono ?_
    rintro e w5 ⟨rfl, h⟩
    have H5 := Lib.hid (H4.out.trans h)
    clear h H4
    go_wp2_with fail
    go_at_call 16
    refine (Size_at H5.out.1 p zp HZP.out).mono ?_
    rintro e w6 ⟨rfl, h⟩
    have H6 := Lib.hid (H5.out.trans h)
    clear h H5
    go_wp2_with fail
    go_at_call 27
    refine (Link_at H6.out.1 c p true G2 HLK.out.ok HLK.out.eq).mono ?_
    rintro e w7 ⟨rfl, h⟩
    have H7 := Lib.hid (H6.out.trans h)
    clear h H6
    go_wp2_with fail
    go_at_call 23
    refine (Sub_at H7.out.1 c cs ws true HS2.out HW2.out (HLK.out.full.has c hcn)).mono ?_
    rintro e w8 ⟨rfl, h⟩
    have H8 := Lib.hid (H7.out.trans h)
    clear h H7
    go_wp2_with fail
    go_at_call 15
    refine (awake_any _).mono ?_
    rintro e w9 ⟨rfl, t⟩
    have HT9 := Lib.hid ((tch_own T1.out H8.out.2 gA).trans t)
    have H9 := Lib.hid (show LPost w1 F A (n + 1) G2 w9 from ⟨H8.out.1.quiet t, H8.out.2.trans (t.mono (by simp))⟩)
    clear t H8
    go_wp2_with fail
    go_at_call 21
    refine (Parent_at H9.out.1 c p HP2.out).mono ?_
    rintro e w10 ⟨rfl, h⟩
    have H10 := Lib.hid (H9.out.trans h)
    clear h H9
    go_wp2_with fail
    go_at_call 16
    refine (Size_at H10.out.1 p (zp + cs) HZ2.out).mono ?_
    rintro e w11 ⟨rfl, h⟩
    have H11 := Lib.hid (H10.out.trans h)
    clear h H10
    go_wp2_with fail
    go_at_call 22
    refine (Lca_at H11.out.1 c p p HLK.out.lca).mono ?_
    rintro e w12 ⟨rfl, h⟩
    have H12 := Lib.hid (H11.out.trans h)
    clear h H11
    go_wp2_with fail
    go_at_call 24
    refine (Check_at H12.out.1).mono ?_
    rintro e w13 ⟨rfl, h⟩
    have H13 := Lib.hid (H12.out.trans h)
    clear h H12
    go_wp2_with fail
    go_ret
    exact ⟨rfl, (tch_own T1.out H13.out.2 gA).nil⟩
theorem moves_int (w : World) (aU : Option Addr) (LU cU : Nat) (fU : Nat → Int) (aW : Option Addr) (LW cW : Nat) (fW : Nat → Int) (hU : RowAt w .u8 aU LU fU) (hW : RowAt w .i16 aW LW fW) (y z : Int) (hy : 0 ≤ y ∧ y ≤ 255) (hz : 0 ≤ z ∧ z ≤ 255) :
    Calls Try.prog 10 #[.slice aU LU cU, .slice aW LW cW, .agg #[.int .u8 y, .int .u8 z]] w fun e w' => e = .returned (.bool true) ∧ Below w.heap.size w w' := by
  obtain ⟨a, rfl⟩ : ∃ a : Nat, y = (a : Int) := ⟨y.toNat, by omega⟩
  obtain ⟨b, rfl⟩ : ∃ a : Nat, z = (a : Int) := ⟨z.toNat, by omega⟩
  exact moves_any w aU LU cU fU aW LW cW fW hU hW a b (by omega) (by omega)

set_option maxRecDepth 100000 in
theorem linkMoves_lifted (os : Os) (started : os.Started) (H : Type) (enc : TypeId × Value → H) :
    ReturnsInHanded {} Try.checked os 10 .any (Rows.linkMovesSpec.pre6 enc Try.prog Try.f10 Rows.linkMovesRow.domain false) (Rows.linkMovesSpec.post enc Try.prog Try.f10 false true false false) := by
  refine returnsInHanded_of_change (C := Try.checked) Try.own started (by kernel_rfl) Try.func10
    (ChangeSpec.witness6 (enc := enc) (C := Try.checked) false ⟨#[], #[.slice none 0 0, .slice none 0 0, .agg #[.int .u8 0, .int .u8 0]], []⟩ 8 (by kernel_rfl) (by kernel_rfl) (by kernel_rfl) (by kernel_rfl)) ?_
  intro W base args ds gs before hval0 hW hcnd _
  have hval : ∀ (j : Nat) t v, Try.f10.params[j]? = some t → args[j]? = some v → Value.okWide Try.prog W .any base t v := hval0
  have hW' := hW
  obtain ⟨p, q, hA0, hV, rfl, hfz, hnd⟩ := hW
  have hA : DataW.TrodAll enc Try.prog W 0 (fun _ => true) true Try.f10.params.toList args.toList ds p := hA0
  rw [Try.params10] at hA hval
  obtain ⟨v0, v1, v2, d0, d1, d2, p0, p1, p2, rfl, rfl, rfl, h0, h1, h2⟩ := trodAll_three hA
  obtain ⟨rfl, rfl⟩ := trodVars_none hV
  obtain ⟨a0, L0, c0, rfl, hL0, hR0⟩ := nums_arg Try.underlying22 Try.underlying5 (by kernel_rfl) (by obtain ⟨_, _, _, rfl⟩ := okWide_slice Try.underlying22 (hval 0 22 v0 rfl rfl); rfl) h0
  obtain ⟨f0, hf0⟩ := row_of hR0
  obtain ⟨a1, L1, c1, rfl, hL1, hR1⟩ := nums_arg Try.underlying23 Try.underlying52 (by kernel_rfl) (by obtain ⟨_, _, _, rfl⟩ := okWide_slice Try.underlying23 (hval 1 23 v1 rfl rfl); rfl) h1
  obtain ⟨f1, hf1⟩ := row_of hR1
  obtain ⟨cs2, rfl, hs2, hc2⟩ := arr_arg Try.underlying41 Try.underlying5 (by kernel_rfl) (by kernel_rfl) (okWide_arr Try.underlying41 (hval 2 41 v2 rfl rfl)) h2
  obtain ⟨x2, y2, rfl, wx2, wy2⟩ := arr_two hs2 hc2
  refine (moves_int W a0 L0 c0 f0 a1 L1 c1 f1 hf0 hf1 x2 y2 (wf_u8 wx2) (wf_u8 wy2)).mono fun e W' ⟨he, hw⟩ => ?_
  subst he
  exact ⟨_, rfl, law_close (bt := 4) rfl Try.underlying4 rfl Try.laidOut (of_decide_eq_true (by kernel_rfl)) hW' rfl hw⟩

theorem linkMoves_holds : Rows.LinkMovesSaid :=
  OpenClaim.holds_of_wide 10 Try.f10 rfl rfl rfl rfl rfl rfl rfl ⟨rfl, rfl, rfl, rfl, rfl⟩ rfl rfl rfl rfl rfl (by kernel_rfl) Try.func10 (by kernel_rfl)
    (of_decide_eq_true (by kernel_rfl)) (by unfold Func.isWrapper; first | (rw [if_pos (by decide +kernel)]; kernel_rfl) | (rw [if_neg (by decide +kernel)]; exact ⟨rfl, rfl⟩))
    (fun os started H enc _ => linkMoves_lifted os started H enc)

end Go.Proofs.Ytaipladbgdcedaa
