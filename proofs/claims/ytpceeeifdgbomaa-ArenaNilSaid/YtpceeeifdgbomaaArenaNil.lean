/- ArenaNil holds: a nil arena has nothing, and one of less than no slots, or too many, can't be; for every number and every handle. -/
import Derived.Test.YtpceeeifdgbomaaAwake
import Derived.Test.YtpceeeifdgbomaaClose
import Derived.Lib.SmallJoins
namespace Go.Proofs.Ytpceeeifdgbomaa
open Go.ChangeShapes Go.WideShapes Go.ChangeAt Go.RowKit Go.Joins

theorem give_nil (w : World) (k g : Int) :
    Calls Try.prog 11 #[.pointer none, .agg #[.int .i64 k, .int .i64 g]] w fun e w' => e = .returned (.bool false) ∧ Tch [] w w' := by
  go_enter Try.func11, Try.ntmps11
  go_wp2_with (go_at_call 13; refine (live_nil _ k g).mono ?_; rintro e w1 ⟨rfl, ht⟩)
  go_ret
  exact ⟨rfl, ((Tch.refl _ _).new _).trans ht⟩

theorem new_some (n : Int) (h0 : 0 ≤ n) (h1 : n ≤ 1048576) (w : World) : Calls Try.prog 7 #[.int .i64 n] w fun e w' => ∃ A, e = .returned (.pointer (some ⟨A, 0, none⟩)) ∧ Tch [] w w' := by
  obtain ⟨m, rfl⟩ := Int.eq_ofNat_of_zero_le h0
  refine (new_yes m (by omega) w).mono ?_
  rintro e w' ⟨A, G, X, nx, gA, gG, gX, rfl, h1, t1⟩
  exact ⟨A, rfl, t1⟩

set_option maxHeartbeats 1000000 in
theorem nil_any (n k g : Int) (w : World) : Calls Try.prog 5 #[.int .i64 n, .agg #[.int .i64 k, .int .i64 g]] w fun e w' => e = .returned (.bool true) ∧ Below w.heap.size w w' := by
  have hcase : n < 0 ∨ (0 ≤ n ∧ n ≤ 1000) ∨ (1000 < n ∧ n ≤ 1048576) ∨ 1048576 < n := by omega
  rcases hcase with h | ⟨h, h'⟩ | ⟨h, h'⟩ | h
  all_goals
    go_enter Try.func5, Try.ntmps5
    go_wp2_with (go_at_call 9; refine (take_nil _).mono ?_; rintro e w1 ⟨rfl, t1⟩)
    go_at_call 17
    refine (awake_any _).mono ?_
    rintro e w2 ⟨rfl, b2⟩
    have s1 := t1.size
    have s2 := b2.size
    rw [size_new] at s1 s2
    have bp : Blk w2 w.heap.size 29 2 (hcell k g) := ((t1.blk (handle_made w k g) (by simp)).new _).keep (b2.block _ (by simp; omega))
    have bh : Blk w2 w1.heap.size 29 2 (hcell 0 0) := (handle_made w1 0 0).keep (b2.block _ (by simp))
    have B2 := Lib.hid (((t1.below ((Below.refl _ _).alloc (Nat.le_refl _) _) (by simp) (by simp)).alloc (by omega) _).trans (b2.mono (by simp; omega)))
    clear t1 b2
    generalize w1.heap.size = h at *
    obtain ⟨p, hp⟩ : ∃ p, w.heap.size = p := ⟨_, rfl⟩
    rw [hp] at bp
    have HP := Lib.hid hp
    have cp0 : w2.cell? ⟨p, 0, none⟩ = some (.int .i64 k) := bp.cell 0 (by omega)
    have cp1 : w2.cell? ⟨p, 1, none⟩ = some (.int .i64 g) := bp.cell 1 (by omega)
    have ch0 : w2.cell? ⟨h, 0, none⟩ = some (.int .i64 0) := bh.cell 0 (by omega)
    have ch1 : w2.cell? ⟨h, 1, none⟩ = some (.int .i64 0) := bh.cell 1 (by omega)
    have lp : p < w2.heap.size := by omega
    have lh : h < w2.heap.size := by omega
    rw [hp]
    clear hp
    go_wp2_with fail
    go_at_call 13
    refine (live_nil _ k g).mono ?_
    rintro e w3 ⟨rfl, t3⟩
    have cp0 : w3.cell? ⟨p, 0, none⟩ = some (.int .i64 k) := (t3.blk bp (by simp)).cell 0 (by omega)
    have cp1 : w3.cell? ⟨p, 1, none⟩ = some (.int .i64 g) := (t3.blk bp (by simp)).cell 1 (by omega)
    have B3 := Lib.hid (Below.trans B2.out (t3.below (Below.refl _ _) B2.out.size (by simp)))
    clear t3
    go_wp2_with fail
    go_at_call 11
    refine (give_nil _ k g).mono ?_
    rintro e w4 ⟨rfl, t4⟩
    have B4 := Lib.hid (Below.trans B3.out (t4.below (Below.refl _ _) B3.out.size (by simp)))
    clear t4
    go_wp2_with (go_at_call 15; refine (len_nil _).mono ?_; rintro e w5 ⟨rfl, rfl⟩)
    first
      | (go_at_call 7
         first
           | (refine (new_some n (by omega) (by omega) _).mono ?_
              rintro e w5 ⟨A, rfl, t5⟩)
           | (refine (new_no n (by omega) _).mono ?_
              rintro e w5 ⟨rfl, t5'⟩
              have t5 : Tch [] w4 w5 := t5' ▸ Tch.refl _ _)
         have B5 := Lib.hid (Below.trans B4.out (t5.below (Below.refl _ _) B4.out.size (by simp)))
         clear t5
         go_wp2_with fail
         go_ret
         exact ⟨rfl, HP.out ▸ B5.out⟩)
      | (go_ret
         exact ⟨rfl, HP.out ▸ B4.out⟩)

theorem Try.cells29 : Try.prog.cellsOf 29 = 2 := by kernel_rfl

set_option maxRecDepth 100000 in
theorem arenaNil_lifted (os : Os) (started : os.Started) (H : Type) (enc : TypeId × Value → H) :
    ReturnsInHanded {} Try.checked os 5 .any (Rows.arenaNilSpec.pre6 enc Try.prog Try.f5 Rows.arenaNilRow.domain false) (Rows.arenaNilSpec.post enc Try.prog Try.f5 false true false false) := by
  refine returnsInHanded_of_change (C := Try.checked) Try.own started (by kernel_rfl) Try.func5
    (ChangeSpec.witness6 (enc := enc) (C := Try.checked) false ⟨#[], #[.int .i64 0, .agg #[.int .i64 0, .int .i64 0]], []⟩ 8 (by kernel_rfl) (by kernel_rfl) (by kernel_rfl) (by kernel_rfl)) ?_
  intro W base args ds gs before hval0 hW hcnd _
  have hval : ∀ (j : Nat) t v, Try.f5.params[j]? = some t → args[j]? = some v → Value.okWide Try.prog W .any base t v := hval0
  have hW' := hW
  obtain ⟨p, q, hA0, hV, rfl, hfz, hnd⟩ := hW
  have hA : DataW.TrodAll enc Try.prog W 0 (fun _ => true) true Try.f5.params.toList args.toList ds p := hA0
  rw [Try.params5] at hA hval
  obtain ⟨v0, v1, d0, d1, p0, p1, rfl, rfl, rfl, h0, h1⟩ := trodAll_two hA
  obtain ⟨rfl, rfl⟩ := trodVars_none hV
  obtain ⟨n0, rfl, rfl, rfl, wn0⟩ := open_int Try.underlying3 (hval 0 3 v0 rfl rfl) h0
  obtain ⟨c0, c1, y0, y1, m, rfl, rfl, rfl, hy0, hy1⟩ := open_agg2 Try.underlying29 (by kernel_rfl) Try.cells29 (hval 1 29 v1 rfl rfl) h1
  obtain ⟨a, e0, rfl, wa⟩ := DataW.trod_int Try.underlying3 hy0
  obtain ⟨b, e1, rfl, wb⟩ := DataW.trod_int Try.underlying3 hy1
  simp at e0 e1
  subst e0 e1
  refine (nil_any n0 a b W).mono fun e W' ⟨he, hw⟩ => ?_
  subst he
  exact ⟨_, rfl, law_close (bt := 4) rfl Try.underlying4 rfl Try.laidOut (of_decide_eq_true (by kernel_rfl)) hW' rfl hw⟩

theorem arenaNil_holds : Rows.ArenaNilSaid :=
  OpenClaim.holds_of_wide 5 Try.f5 rfl rfl rfl rfl rfl rfl rfl ⟨rfl, rfl, rfl, rfl, rfl⟩ rfl rfl rfl rfl rfl (by kernel_rfl) Try.func5 (by kernel_rfl)
    (of_decide_eq_true (by kernel_rfl)) (by unfold Func.isWrapper; first | (rw [if_pos (by decide +kernel)]; kernel_rfl) | (rw [if_neg (by decide +kernel)]; exact ⟨rfl, rfl⟩))
    (fun os started H enc _ => arenaNil_lifted os started H enc)
end Go.Proofs.Ytpceeeifdgbomaa
