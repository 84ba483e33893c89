/- TableOrder holds: the ids are told rising, each once, and an id that went comes again with another number; for every ids and number. -/
import Derived.Test.YtgnjjomfffmcaaaLook
import Derived.Test.YtgnjjomfffmcaaaClose
import Derived.Lib.SmallJoins
import Derived.Deep.QuietTactic
import Derived.BigQuiet
namespace Go.Proofs.Ytgnjjomfffmcaaa
open Go.ChangeShapes Go.WideShapes Go.ChangeAt Go.RowKit Go.Lib

theorem look_bool (L : List (Nat × Int)) (id : Int) (v : Int) (h : look L id = (v, true)) : (look L id).2 = true := by rw [h]
set_option maxHeartbeats 2000000 in
/-- Its last part: an id that went comes again. -/
theorem order_any (n : Int) (ao : Option Addr) (N cap : Nat) (hN : N ≤ 9223372036854775807) (w : World)
    (hback : 0 < N → ∃ b off, ao = some ⟨b, off, none⟩ ∧ b < w.heap.size ∧ ∃ F : Nat → Int, ∀ i, i < N → (Lit.int .u16 (F i)).wf = true ∧ w.cell? ⟨b, off + i, none⟩ = some (.int .u16 (F i))) :
    Calls Try.prog 4 #[.slice ao N cap, .int .i64 n] w fun e w' => e = .returned (.bool true) ∧ Below w.heap.size w w' := by
  by_cases hbig : 300 < N
  · go_enter Try.func4, Try.ntmps4
    go_wp2_with (go_at_call 8; refine (awake_any w).mono ?_; rintro e w1 ⟨rfl, b1⟩)
    go_ret
    exact ⟨rfl, b1⟩
  · have HF : ∃ F : Nat → Int, ∃ b off, (0 < N → ao = some ⟨b, off, none⟩ ∧ b < w.heap.size) ∧ ∀ i, i < N → 0 ≤ F i ∧ F i ≤ 65535 ∧ w.cell? ⟨b, off + i, none⟩ = some (.int .u16 (F i)) := by
      by_cases h0 : 0 < N
      · obtain ⟨b, off, e, hb, F, hF⟩ := hback h0
        refine ⟨F, b, off, fun _ => ⟨e, hb⟩, fun i hi => ?_⟩
        have := (hF i hi).1
        have h2 : 0 ≤ F i ∧ F i ≤ 65535 := by simpa [Lit.wf, IntKind.min, IntKind.max, IntKind.signed, IntKind.bits] using this
        exact ⟨h2.1, h2.2, (hF i hi).2⟩
      · exact ⟨fun _ => 0, 0, 0, fun h => absurd h h0, fun i hi => by omega⟩
    obtain ⟨F, b, off, hao, hF⟩ := HF
    have HB := Lib.hid hback
    have HA := Lib.hid hao
    have HF := Lib.hid hF
    clear hback hao hF
    go_enter Try.func4, Try.ntmps4
    go_wp2_with fail
    go_at_call 13
    refine (tb_new w).mono ?_
    rintro e w1 ⟨rfl, r1, r2⟩
    have h1 := LT.new r1 r2
    generalize hT : w.heap.size = T at h1 ⊢
    have HT := Lib.hid hT
    clear r1 r2 hT
    go_wp2_with fail
    go_loopw [6, 7] (fun c i wr => ∃ (q : Nat) (C : Nat) (L : List (Nat × Int)), q ≤ N ∧ i = .int .i64 q ∧ c = .int .i64 L.length ∧ L.length ≤ q ∧ (0 < q → look L (F 0) = (0, true)) ∧ LT w wr T C L) (fun _ i _ => N - (intOf i).toNat)
    case atStart => exact ⟨0, T, [], by omega, rfl, rfl, by simp, fun h => by omega, h1⟩
    case round =>
      clear h1
      obtain ⟨q, C, L, hq, rfl, rfl, hLq, hlook, h1⟩ := hrel
      have H1 := Lib.hid h1
      have HL := Lib.hid hlook
      have hbs := h1.b.size
      by_cases hqn : q < N
      · have ⟨e1, e2⟩ := HA.out (by omega)
        subst e1
        obtain ⟨f0, f1, f2⟩ := HF.out q hqn
        have c0 : wr.cell? ⟨b, off + q, none⟩ = some (.int .u16 (F q)) := (h1.b.cell (p := ⟨b, off + q, none⟩) e2).trans f2
        have hbl : b < wr.heap.size := by omega
        have HR := Lib.hid h1.t.rising
        have HP := Lib.hid (tb_put wr T C L h1.t (F q) q (by omega))
        have HPL := Lib.hid (puts_len L (F q) q)
        have HK := Lib.hid (show look (puts L (F q) q).2 (F 0) = (0, true) by
          by_cases e0 : q = 0
          · subst e0
            rw [puts_look_same HR.out _ _ f0 (by omega)]
            have hl0 : L = [] := List.length_eq_zero_iff.1 (by omega)
            subst hl0
            rfl
          · have hk := HL.out (by omega)
            by_cases ef : F 0 = F q
            · rw [ef] at hk ⊢
              rw [puts_look_same HR.out _ _ f0 (by omega), hk]
              rfl
            · rw [puts_look_ne HR.out _ _ _ ef, hk])
        clear h1 hlook f2
        generalize puts L (F q) q = r at HP HPL HK
        obtain ⟨ok, L'⟩ := r
        cases ok
        all_goals
          simp only [] at HP HPL HK
          go_wp2_with fail
          go_at_call 9
          refine HP.out.mono ?_
          rintro e w2 ⟨rfl, p⟩
          have H2 := Lib.hid (H1.out.post p)
          clear p
          go_wp2_with fail
          go_roundw
        case rel =>
          obtain ⟨C', h2⟩ := H2.out
          have := HPL.out
          simp at this
          refine ⟨q + 1, C', L', by omega, by go_num, by rw [this], by omega, fun _ => HK.out, h2⟩
        case rel =>
          obtain ⟨C', h2⟩ := H2.out
          have := HPL.out
          simp at this
          refine ⟨q + 1, C', L', by omega, by go_num, by rw [this]; go_num, by omega, fun _ => HK.out, h2⟩
        case measure => simp [intOf]; omega
        case measure => simp [intOf]; omega
      · obtain rfl : q = N := by omega
        clear h1 hlook
        go_wp2_with fail
        go_at_call 12
        refine (tb_list wr T C L H1.out.t).mono ?_
        rintro e w2 ⟨v, rfl, o2, t2⟩
        have h2 := H1.out.quiet t2
        have HR := Lib.hid h2.t.rising
        obtain ⟨va, vc, hv, hvs⟩ := owns_form o2
        subst hv
        have HO := Lib.hid o2
        have HV := Lib.hid hvs
        have H2 := Lib.hid h2
        have hs2 := h2.b.size
        clear o2 t2 hvs h2 H1
        go_wp2_with fail
        go_loopw [9] (fun i wr => ∃ k : Nat, 1 ≤ k ∧ (k ≤ L.length ∨ k = 1) ∧ i = .int .i64 k ∧ Tch [] w2 wr) (fun i _ => L.length - (intOf i).toNat)
        case atStart => exact ⟨1, by omega, by omega, rfl, Tch.refl _ _⟩
        case round =>
          obtain ⟨k, hk1, hk2, rfl, t3⟩ := hrel
          have H3 := Lib.hid t3
          by_cases hkl : k < L.length
          · obtain ⟨g, hg⟩ : ∃ g, va = some ⟨g, 0, none⟩ := by
              rcases HV.out with e | e
              · omega
              · exact e
            subst hg
            have hgl := (HO.out.lt g rfl).2
            have hz : (zrow (idsOf L)).length = L.length := by simp [zrow, idsOf]
            have cell : ∀ j, (hj : j < L.length) → wr.cell? ⟨g, j, none⟩ = some (.int .i64 (L[j].1 : Int)) := by
              intro j hj
              refine (t3.cell g j hgl (by simp)).trans ((owns_cell HO.out j (by omega)).trans ?_)
              simp [zrow, idsOf, hj]
            have c1 := cell k hkl
            have c0 := cell (k - 1) (by omega)
            have hlt : L[k - 1].1 < L[k].1 := (List.pairwise_iff_getElem.1 HR.out) (k - 1) k (by omega) hkl (by omega)
            generalize L[k].1 = x1 at c1 hlt
            generalize L[k - 1].1 = x0 at c0 hlt
            have hd : decide (x1 ≤ x0) = false := decide_eq_false_iff_not.2 (by omega)
            have hgl2 : g < wr.heap.size := Nat.lt_of_lt_of_le hgl t3.size
            have e1 : IntKind.i64.wrap ((k : Int) - 1) = ((k - 1 : Nat) : Int) := by rw [IntWalk.i64_in _ (by omega)]; omega
            have e2 : (((k - 1 : Nat) : Int)).toNat = k - 1 := rfl
            clear t3 cell
            go_wp2_with fail
            go_quiet (fail)
            go_wp2_with fail
            go_roundw
            case rel => exact ⟨k + 1, by omega, by omega, by go_num, H3.out.drewN _⟩
            case measure => simp [intOf]; omega
          · clear t3
            have h4 := Lib.hid (H2.out.quiet H3.out)
            by_cases h0 : 0 < q
            · have ⟨e1, e2⟩ := HA.out (by omega)
              subst e1
              obtain ⟨f0, f1, f2⟩ := HF.out 0 (by omega)
              have c0 : wr.cell? ⟨b, off, none⟩ = some (.int .u16 (F 0)) := (h4.out.b.cell (p := ⟨b, off, none⟩) e2).trans f2
              have hbl : b < wr.heap.size := by have := h4.out.b.size; omega
              have hlk := HL.out h0
              clear f2
              generalize F 0 = f at *
              have HG := Lib.hid (tb_get wr T C L h4.out.t f (by omega))
              have HP := Lib.hid (tb_put wr T C L h4.out.t f n (by omega))
              have e3 := puts_no f n (look_bool L f 0 hlk)
              rw [hlk] at HG
              rw [e3] at HP
              have HLK := Lib.hid hlk
              clear hlk e3 HL
              go_wp2_with fail
              go_at_call 7
              refine HG.out.mono ?_
              rintro e w5 ⟨rfl, rfl⟩
              go_wp2_with fail
              go_at_call 9
              refine HP.out.mono ?_
              rintro e w5 ⟨rfl, p⟩
              obtain ⟨C5, h5⟩ := h4.out.post p
              clear p
              go_wp2_with fail
              go_at_call 10
              refine (tb_drop w5 T C5 _ h5.t f (by omega)).mono ?_
              rintro e w6 ⟨rfl, r1, r2⟩
              have h6 := h5.drop r1 r2
              have hcnt := without_count HR.out f
              rw [HLK.out] at hcnt ⊢
              simp only [if_true] at hcnt ⊢
              have hlw := without_look_same L f
              have hrw := without_rising HR.out f
              generalize without L f = M at *
              clear r1 r2 h5
              go_wp2_with fail
              go_at_call 9
              refine (tb_put w6 T C5 M h6.t f n (by omega)).mono ?_
              rintro e w7 ⟨rfl, p⟩
              obtain ⟨C7, h7⟩ := h6.post p
              have hnl := puts_look_new hrw f n f0 (by omega) (by rw [hlw])
              have hpl := puts_len M f n
              rw [puts_yes f n f0 (by omega) (by rw [hlw])] at h7 hnl hpl ⊢
              simp only [if_true] at h7 hnl hpl ⊢
              generalize ins (f.toNat, n) M = M' at *
              have HNL := Lib.hid hnl
              have hml : M'.length = L.length := by omega
              have HML := Lib.hid hml
              clear p h6 hlw hnl hml hpl hcnt
              go_wp2_with fail
              go_at_call 7
              refine (tb_get w7 T C7 M' h7.t f (by omega)).mono ?_
              rintro e w8 ⟨rfl, rfl⟩
              rw [HNL.out]
              simp only []
              have hnn : (n == n) = true := beq_self_eq_true n
              go_wp2_with fail
              go_at_call 8
              refine (awake_any _).mono ?_
              rintro e w9 ⟨rfl, b9⟩
              have h9 := Lib.hid (h7.quiet (Below.tch b9))
              clear b9 h7
              go_wp2_with fail
              go_at_call 11
              refine (tb_len w9 T C7 M' h9.out.t).mono ?_
              rintro e w10 ⟨rfl, rfl⟩
              rw [HML.out]
              go_wp2_with fail
              go_ret
              exact ⟨by simp, h9.out.b⟩
            · go_wp2_with fail
              go_at_call 8
              refine (awake_any _).mono ?_
              rintro e w9 ⟨rfl, b9⟩
              have h9 := Lib.hid (h4.out.quiet (Below.tch b9))
              clear b9
              go_wp2_with fail
              go_at_call 11
              refine (tb_len w9 T C L h9.out.t).mono ?_
              rintro e w10 ⟨rfl, rfl⟩
              go_wp2_with fail
              go_ret
              exact ⟨by simp, h9.out.b⟩

set_option maxRecDepth 100000 in
theorem tableOrder_lifted (os : Os) (started : os.Started) (H : Type) (enc : TypeId × Value → H) :
    ReturnsInHanded {} Try.checked os 4 .any (Rows.tableOrderSpec.pre6 enc Try.prog Try.f4 Rows.tableOrderRow.domain false) (Rows.tableOrderSpec.post enc Try.prog Try.f4 false true false false) := by
  refine returnsInHanded_of_change (C := Try.checked) Try.own started (by kernel_rfl) Try.func4
    (ChangeSpec.witness6 (enc := enc) (C := Try.checked) false ⟨#[], #[.slice none 0 0, .int .i64 0], []⟩ 8 (by kernel_rfl) (by kernel_rfl) (by kernel_rfl) (by kernel_rfl)) ?_
  intro W base args ds gs before hval0 hW hcnd _
  have hval : ∀ (j : Nat) t v, Try.f4.params[j]? = some t → args[j]? = some v → Value.okWide Try.prog W .any base t v := hval0
  have hW' := hW
  obtain ⟨p, q, hA0, hV, rfl, hfz, hnd⟩ := hW
  have hA : DataW.TrodAll enc Try.prog W 0 (fun _ => true) true Try.f4.params.toList args.toList ds p := hA0
  rw [Try.params4] at hA hval
  obtain ⟨v0, v1, d0, d1, p0, p1, rfl, rfl, rfl, h0, h1⟩ := trodAll_two hA
  obtain ⟨rfl, rfl⟩ := trodVars_none hV
  obtain ⟨ao, N, cap, rfl, hN, hback⟩ := nums_arg Try.underlying32 Try.underlying33 (by kernel_rfl) (by obtain ⟨_, _, _, rfl⟩ := okWide_slice Try.underlying32 (hval 0 32 v0 rfl rfl); rfl) h0
  unfold maxLen at hN
  obtain ⟨n1, rfl, rfl, rfl, wn1⟩ := open_int Try.underlying3 (hval 1 3 v1 rfl rfl) h1
  refine (order_any n1 ao N cap (by omega) W hback).mono fun e W' ⟨he, hw⟩ => ?_
  subst he
  exact ⟨_, rfl, law_close (bt := 4) rfl Try.underlying4 rfl Try.laidOut (of_decide_eq_true (by kernel_rfl)) hW' rfl hw⟩

theorem tableOrder_holds : Rows.TableOrderSaid :=
  OpenClaim.holds_of_wide 4 Try.f4 rfl rfl rfl rfl rfl rfl rfl ⟨rfl, rfl, rfl, rfl, rfl⟩ rfl rfl rfl rfl rfl (by kernel_rfl) Try.func4 (by kernel_rfl)
    (of_decide_eq_true (by kernel_rfl)) (by unfold Func.isWrapper; first | (rw [if_pos (by decide +kernel)]; kernel_rfl) | (rw [if_neg (by decide +kernel)]; exact ⟨rfl, rfl⟩))
    (fun os started H enc _ => tableOrder_lifted os started H enc)
end Go.Proofs.Ytgnjjomfffmcaaa
