/- LinkSubs holds: what is at or below a node is the node and what is at or below its kids; under no condition. -/
import Derived.Test.YtaipladbgdcedaaTk
import Derived.Test.YtaipladbgdcedaaRo
set_option linter.unusedSimpArgs false
set_option linter.unusedVariables false
namespace Go.Proofs.Ytaipladbgdcedaa
open Go.ChangeShapes Go.WideShapes Go.ChangeAt Go.RowKit

set_option maxRecDepth 100000 in
set_option maxHeartbeats 8000000 in
theorem subs_any (w : World) (aU : Option Addr) (LU cU : Nat) (fU : Nat → Int) (aW : Option Addr) (LW cW : Nat) (fW : Nat → Int) (hU : RowAt w .u8 aU LU fU) (hW : RowAt w .i16 aW LW fW) :
    Calls Try.prog 6 #[.slice aU LU cU, .slice aW LW cW] w fun e w' => e = .returned (.bool true) ∧ Below w.heap.size w w' := by
  obtain ⟨n, hn, hmin⟩ : ∃ n : Nat, n ≤ 30 ∧ min (LU : Int) 30 = (n : Int) := ⟨min LU 30, by omega, by omega⟩
  obtain ⟨G, hG⟩ : ∃ G, G = Gro n (qOf LU fU) (zOf LW fW) n := ⟨_, rfl⟩
  have FU : Full G n := by
    rw [hG]
    exact gro_full (by omega) (fun u hu => qOf_low LU fU u hu) (fun u => by have := zOf_in hW u; unfold InW; omega)
  have HGR := grown_any w n (by omega) aU LU cU fU aW LW cW fW hU hW
  rw [← hG] at HGR
  have HGR := Lib.hid HGR
  have HFU := Lib.hid FU
  have HGG := Lib.hid hG
  clear hU hW hG FU
  go_enter Try.func6, Try.ntmps6
  go_upto_region 1 with (fail)
  go_cut [5] from 20 to 22 (fun v wx => v = .int .i64 (n : Int) ∧ wx = w)
  case first =>
    go_wp2_with fail
    all_goals
      go_meet
      exact ⟨congrArg (Value.int .i64) (by omega), rfl⟩
  obtain ⟨rfl, rfl⟩ := hcut
  go_wp2_with fail
  go_at_call 14
  refine HGR.out.mono ?_
  rintro e w1 ⟨F, A, rfl, h1, t1, gF, gA⟩
  have T1 := Lib.hid t1
  have H1 := Lib.hid (show LPost w1 F A (n + 1) G w1 from ⟨h1, Tch.refl _ _⟩)
  have hlt := h1.lt
  clear h1 t1 HGR
  by_cases hn0 : n = 0
  · have d1 : ((n : Int) == 0) = true := by rw [hn0]; rfl
    have d2 : decide (n = 0) = true := decide_eq_true_iff.2 hn0
    clear hn0
    go_wp2_with fail
    go_at_call 15
    refine (awake_any _).mono ?_
    rintro e w2 ⟨rfl, t2⟩
    have HT := Lib.hid (T1.out.trans t2).nil
    clear t2
    go_wp2_with fail
    go_ret
    exact ⟨rfl, HT.out⟩
  have d1 : ((n : Int) == 0) = false := beq_eq_false_iff_ne.2 (by omega)
  have HKD := Lib.hid (fun (v : Nat) (hv : v < n) => HFU.out.kids (v + 1) (by omega) (by omega))
  have HBD := Lib.hid (fun (v K : Nat) (hK : K ≤ n) => kidsN_bd HFU.out.ok v K (by omega))
  have HTB := Lib.hid (fun (K : Nat) (hK : K ≤ n) => topsN_bd HFU.out.ok K (by omega))
  have HSB := Lib.hid (fun (v : Nat) => And.intro (sub_bd HFU.out.ok v) (ssum_bd HFU.out.ok v))
  have HTT := Lib.hid HFU.out.tops
  go_wp2_with fail
  go_loopw [7, 8, 9, 10, 11, 12, 13, 14, 15, 16, 17, 18, 19] (fun all v _ _ _ _ _ _ _ _ _ _ _ wr => ∃ k : Nat, all = .int .i64 (topsN G k) ∧ v = .int .i64 (k : Int) ∧ k ≤ n ∧ LPost w1 F A (n + 1) G wr) (fun _ v _ _ _ _ _ _ _ _ _ _ _ _ => n - (intOf v).toNat)
  case atStart => exact ⟨0, by rw [topsN_zero HFU.out.ok], rfl, by omega, H1.out⟩
  case round =>
    obtain ⟨k, rfl, rfl, hk, hL⟩ := hrel
    have H2 := Lib.hid hL
    clear hL
    by_cases hkn : k = n
    · have d3 : decide ((k : Int) < (n : Int)) = false := decide_eq_false_iff_not.2 (by omega)
      rw [hkn, HTT.out]
      clear hkn
      go_wp2_with fail
      go_at_call 15
      refine (awake_any _).mono ?_
      rintro e w3 ⟨rfl, t3⟩
      have HT := Lib.hid ((tch_own T1.out H2.out.2 gA).trans t3).nil
      clear t3
      go_wp2_with fail
      go_ret
      exact ⟨by simp, HT.out⟩
    · have d3 : decide ((k : Int) < (n : Int)) = true := decide_eq_true_iff.2 (by omega)
      have hk2 : k < n := by omega
      clear hkn
      go_wp2_with fail
      go_at_call 23
      refine (Sub_at H2.out.1 k (G.sub (k + 1)) (G.ssum (k + 1)) true (HFU.out.sub k hk2) (HFU.out.ssum k hk2) (HFU.out.has k hk2)).mono ?_
      rintro e w3 ⟨rfl, h⟩
      have H3 := Lib.hid (H2.out.trans h)
      clear h H2
      go_wp2_with fail
      go_at_call 29
      refine (Get_at H3.out.1 k (G.wt (k + 1)) true (HFU.out.get k hk2) (HFU.out.has k hk2)).mono ?_
      rintro e w4 ⟨rfl, h⟩
      have H4 := Lib.hid (H3.out.trans h)
      clear h H3
      go_wp2_with fail
      obtain ⟨cs, hcs⟩ : ∃ c, c = G.sub (k + 1) := ⟨_, rfl⟩
      obtain ⟨ws, hws⟩ : ∃ c, c = G.ssum (k + 1) := ⟨_, rfl⟩
      rw [← hcs, ← hws]
      have HCS := Lib.hid hcs
      have HWS := Lib.hid hws
      clear hcs hws
      go_loopw [14, 15, 16, 17, 18, 19] (fun c x j _ _ _ wr => ∃ i : Nat, c = .int .i64 (1 + kidsN G (k + 1) G.sub i) ∧ x = .int .i64 (G.wt (k + 1) + kidsN G (k + 1) G.ssum i) ∧ j = .int .i64 (i : Int) ∧ i ≤ n ∧ LPost w1 F A (n + 1) G wr) (fun _ _ j _ _ _ _ => n - (intOf j).toNat)
      case atStart => exact ⟨0, by rw [kidsN_zero HFU.out.ok]; rfl, by rw [kidsN_zero HFU.out.ok, Int.add_zero], rfl, by omega, H4.out⟩
      case round =>
        obtain ⟨i, rfl, rfl, rfl, hi, hL⟩ := hrel
        have H5 := Lib.hid hL
        clear hL
        by_cases hin : i = n
        · have d4 : decide ((i : Int) < (n : Int)) = false := decide_eq_false_iff_not.2 (by omega)
          obtain ⟨e1, e2⟩ := HKD.out k hk2
          rw [hin, ← e1, ← e2, ← HCS.out, ← HWS.out]
          have d4n : decide ((n : Int) < (n : Int)) = false := decide_eq_false_iff_not.2 (by omega)
          have dcs : (cs != cs) = false := by simp
          have dws : (ws != ws) = false := by simp
          have HRT := Lib.hid (Root_at H5.out.1 k ((G.root (k + 1) : Int) - 1) (HFU.out.root k hk2))
          have hup := root_eq_iff HFU.out.ok (HFU.out.th (k + 1) (by omega) (by omega))
          have hsz := HFU.out.size k hk2
          have htb := HTB.out k hk
          have hsb := (HSB.out (k + 1)).1
          clear e1 e2 hin d4
          by_cases ht : G.up (k + 1) = 0
          · have hr := hup.2 ht
            rw [hr] at HRT hsz
            have HRT := Lib.hid (show Calls _ _ _ _ _ from HRT.out)
            have e3 : (((k + 1 : Nat) : Int) - 1) = (k : Int) := by omega
            rw [e3] at HRT
            have HTY := Lib.hid (topsN_yes (G := G) k (HFU.out.th (k + 1) (by omega) (by omega)) ht)
            rw [← HCS.out] at hsz hsb HTY
            have HSZ := Lib.hid (fun w2 (h2 : LF w2 F A (n + 1) G) => Size_at h2 k cs hsz)
            clear hr hup ht hsz e3
            obtain ⟨tk, htk⟩ : ∃ c, c = topsN G k := ⟨_, rfl⟩
            rw [← htk] at htb HTY ⊢
            have HTK := Lib.hid htk
            clear htk
            have b3 : -9223372036854775808 ≤ tk + cs ∧ tk + cs ≤ 9223372036854775807 := by omega
            go_wp2_with fail
            go_at_call 20
            refine HRT.out.mono ?_
            rintro e w5 ⟨rfl, h⟩
            have H6 := Lib.hid (H5.out.trans h)
            clear h
            go_wp2_with fail
            go_at_call 16
            refine (HSZ.out w5 H6.out.1).mono ?_
            rintro e w6 ⟨rfl, h⟩
            have H7 := Lib.hid (H6.out.trans h)
            clear h
            go_wp2_with fail
            go_roundw
            case rel => exact ⟨k + 1, by rw [HTY.out], by simp, by omega, H7.out⟩
            case measure => simp [intOf]; omega
          · have hr : G.root (k + 1) ≠ k + 1 := fun e => ht (hup.1 e)
            have HTN := Lib.hid (topsN_no (G := G) k ht)
            obtain ⟨r, hrr⟩ : ∃ r : Int, r = (G.root (k + 1) : Int) - 1 := ⟨_, rfl⟩
            rw [← hrr] at HRT
            have hrk : (r == (k : Int)) = false := beq_eq_false_iff_ne.2 (by omega)
            clear hr hup ht hsz hrr
            go_wp2_with fail
            go_at_call 20
            refine HRT.out.mono ?_
            rintro e w5 ⟨rfl, h⟩
            have H6 := Lib.hid (H5.out.trans h)
            clear h
            go_wp2_with fail
            go_roundw
            case rel => exact ⟨k + 1, by rw [HTN.out], by simp, by omega, H6.out⟩
            case measure => simp [intOf]; omega
        · have d4 : decide ((i : Int) < (n : Int)) = true := decide_eq_true_iff.2 (by omega)
          have hi2 : i < n := by omega
          clear hin
          have HPA := Lib.hid (Parent_at H5.out.1 i ((G.up (i + 1) : Int) - 1) (HFU.out.par i hi2))
          by_cases hu : G.up (i + 1) = k + 1
          · rw [hu] at HPA
            have HPA := Lib.hid (show Calls _ _ _ _ _ from HPA.out)
            have e3 : (((k + 1 : Nat) : Int) - 1) = (k : Int) := by omega
            rw [e3] at HPA
            have HY1 := Lib.hid (kidsN_yes i (k + 1) G.sub (HFU.out.th (i + 1) (by omega) (by omega)) hu)
            have HY2 := Lib.hid (kidsN_yes i (k + 1) G.ssum (HFU.out.th (i + 1) (by omega) (by omega)) hu)
            have HSU := Lib.hid (fun w2 (h2 : LF w2 F A (n + 1) G) => Sub_at h2 i (G.sub (i + 1)) (G.ssum (i + 1)) true (HFU.out.sub i hi2) (HFU.out.ssum i hi2) (HFU.out.has i hi2))
            have hb := HBD.out (k + 1) i hi
            have hc := HSB.out (i + 1)
            have hw := HFU.out.ok.wts (k + 1) (HFU.out.th (k + 1) (by omega) (by omega))
            unfold InW at hw
            clear hu e3
            generalize kidsN G (k + 1) G.sub i = q1 at *
            generalize kidsN G (k + 1) G.ssum i = q2 at *
            generalize G.sub (i + 1) = s1 at *
            generalize G.ssum (i + 1) = s2 at *
            generalize G.wt (k + 1) = x0 at *
            have b1 : -9223372036854775808 ≤ 1 + q1 + s1 ∧ 1 + q1 + s1 ≤ 9223372036854775807 := by omega
            have b2 : -9223372036854775808 ≤ x0 + q2 + s2 ∧ x0 + q2 + s2 ≤ 9223372036854775807 := by omega
            clear hb hc hw
            go_wp2_with fail
            go_at_call 21
            refine HPA.out.mono ?_
            rintro e w5 ⟨rfl, h⟩
            have H6 := Lib.hid (H5.out.trans h)
            clear h
            go_wp2_with fail
            go_at_call 23
            refine (HSU.out w5 H6.out.1).mono ?_
            rintro e w6 ⟨rfl, h⟩
            have H7 := Lib.hid (H6.out.trans h)
            clear h
            go_wp2_with fail
            go_roundw
            case rel => exact ⟨i + 1, by rw [HY1.out, Int.add_assoc], by rw [HY2.out, Int.add_assoc], by simp, by omega, H7.out⟩
            case measure => simp [intOf]; omega
          · have HN1 := Lib.hid (kidsN_no (G := G) i (k + 1) G.sub hu)
            have HN2 := Lib.hid (kidsN_no (G := G) i (k + 1) G.ssum hu)
            obtain ⟨p, hpp⟩ : ∃ p : Int, p = (G.up (i + 1) : Int) - 1 := ⟨_, rfl⟩
            rw [← hpp] at HPA
            have hpk : (p == (k : Int)) = false := beq_eq_false_iff_ne.2 (by omega)
            clear hu hpp
            go_wp2_with fail
            go_at_call 21
            refine HPA.out.mono ?_
            rintro e w5 ⟨rfl, h⟩
            have H6 := Lib.hid (H5.out.trans h)
            clear h
            go_wp2_with fail
            go_roundw
            case rel => exact ⟨i + 1, by rw [HN1.out], by rw [HN2.out], by simp, by omega, H6.out⟩
            case measure => simp [intOf]; omega

set_option maxRecDepth 100000 in
theorem linkSubs_lifted (os : Os) (started : os.Started) (H : Type) (enc : TypeId × Value → H) :
    ReturnsInHanded {} Try.checked os 6 .any (Rows.linkSubsSpec.pre6 enc Try.prog Try.f6 Rows.linkSubsRow.domain false) (Rows.linkSubsSpec.post enc Try.prog Try.f6 false true false false) := by
  refine returnsInHanded_of_change (C := Try.checked) Try.own started (by kernel_rfl) Try.func6
    (ChangeSpec.witness6 (enc := enc) (C := Try.checked) false ⟨#[], #[.slice none 0 0, .slice none 0 0], []⟩ 8 (by kernel_rfl) (by kernel_rfl) (by kernel_rfl) (by kernel_rfl)) ?_
  intro W base args ds gs before hval0 hW hcnd _
  have hval : ∀ (j : Nat) t v, Try.f6.params[j]? = some t → args[j]? = some v → Value.okWide Try.prog W .any base t v := hval0
  have hW' := hW
  obtain ⟨p, q, hA0, hV, rfl, hfz, hnd⟩ := hW
  have hA : DataW.TrodAll enc Try.prog W 0 (fun _ => true) true Try.f6.params.toList args.toList ds p := hA0
  rw [Try.params6] at hA hval
  obtain ⟨v0, v1, d0, d1, p0, p1, rfl, rfl, rfl, h0, h1⟩ := trodAll_two hA
  obtain ⟨rfl, rfl⟩ := trodVars_none hV
  obtain ⟨a0, L0, c0, rfl, hL0, hR0⟩ := nums_arg Try.underlying22 Try.underlying5 (by kernel_rfl) (by obtain ⟨_, _, _, rfl⟩ := okWide_slice Try.underlying22 (hval 0 22 v0 rfl rfl); rfl) h0
  obtain ⟨f0, hf0⟩ := row_of hR0
  obtain ⟨a1, L1, c1, rfl, hL1, hR1⟩ := nums_arg Try.underlying23 Try.underlying52 (by kernel_rfl) (by obtain ⟨_, _, _, rfl⟩ := okWide_slice Try.underlying23 (hval 1 23 v1 rfl rfl); rfl) h1
  obtain ⟨f1, hf1⟩ := row_of hR1
  refine (subs_any W a0 L0 c0 f0 a1 L1 c1 f1 hf0 hf1).mono fun e W' ⟨he, hw⟩ => ?_
  subst he
  exact ⟨_, rfl, law_close (bt := 4) rfl Try.underlying4 rfl Try.laidOut (of_decide_eq_true (by kernel_rfl)) hW' rfl hw⟩

theorem linkSubs_holds : Rows.LinkSubsSaid :=
  OpenClaim.holds_of_wide 6 Try.f6 rfl rfl rfl rfl rfl rfl rfl ⟨rfl, rfl, rfl, rfl, rfl⟩ rfl rfl rfl rfl rfl (by kernel_rfl) Try.func6 (by kernel_rfl)
    (of_decide_eq_true (by kernel_rfl)) (by unfold Func.isWrapper; first | (rw [if_pos (by decide +kernel)]; kernel_rfl) | (rw [if_neg (by decide +kernel)]; exact ⟨rfl, rfl⟩))
    (fun os started H enc _ => linkSubs_lifted os started H enc)

end Go.Proofs.Ytaipladbgdcedaa
