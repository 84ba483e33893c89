/- TableNil holds: a nil table has nothing, and takes nothing; for every id and number. -/
import Derived.Test.YtgnjjomfffmcaaaTab
import Derived.Test.YtgnjjomfffmcaaaClose
import Derived.Lib.SmallJoins
namespace Go.Proofs.Ytgnjjomfffmcaaa
open Go.ChangeShapes Go.WideShapes Go.ChangeAt Go.RowKit

set_option maxHeartbeats 1000000 in
theorem nil_any (id n : Int) (hid : id ≤ 9223372036854775807) (w : World) : Calls Try.prog 3 #[.int .i64 id, .int .i64 n] w fun e w' => e = .returned (.bool true) ∧ Below w.heap.size w w' := by
  have HN := Lib.hid hid
  by_cases hb : id ≤ 2147483647
  all_goals
    first
    | (have hd : decide (id ≤ 2147483647) = true := decide_eq_true_iff.2 hb; skip)
    | (have hd : decide (id ≤ 2147483647) = false := decide_eq_false_iff_not.2 hb; skip)
    have HB := Lib.hid hb
    clear hb hid
    go_enter Try.func3, Try.ntmps3
    go_wp2_with (go_at_call 7; refine (get_nil w id).mono ?_; rintro e w1 ⟨rfl, rfl⟩)
    go_at_call 8
    refine (awake_any w).mono ?_
    rintro e w1 ⟨rfl, b1⟩
    have B1 := Lib.hid b1
    clear b1
    go_wp2_with first | (go_at_call 9; refine (put_nil _ id n).mono ?_; rintro e w2 ⟨rfl, rfl⟩) | (go_at_call 10; refine (drop_nil _ id).mono ?_; rintro e w2 ⟨rfl, rfl⟩) | (go_at_call 11; refine (len_nil _).mono ?_; rintro e w2 ⟨rfl, rfl⟩) | (go_at_call 12; refine (list_nil _).mono ?_; rintro e w2 ⟨rfl, rfl⟩)
  · go_ret
    exact ⟨rfl, B1.out⟩
  · go_at_call 13
    refine (tb_new w1).mono ?_
    rintro e w2 ⟨rfl, r1, r2⟩
    have h2 := LT.new r1 r2
    clear r1 r2
    go_wp2_with fail
    go_at_call 9
    refine (tb_put w2 _ _ [] h2.t id n (by decide)).mono ?_
    rintro e w3 ⟨rfl, p⟩
    obtain ⟨C2, h3⟩ := h2.post p
    have e3 : (puts [] id n).1 = false := by
      unfold puts; rw [if_pos (.inr (.inl (by have := HB.out; omega)))]
    rw [e3]
    clear p h2 e3
    go_wp2_with fail
    go_ret
    exact ⟨rfl, B1.out.trans (h3.b.mono B1.out.size)⟩

set_option maxRecDepth 100000 in
theorem tableNil_lifted (os : Os) (started : os.Started) (H : Type) (enc : TypeId × Value → H) :
    ReturnsInHanded {} Try.checked os 3 .any (Rows.tableNilSpec.pre6 enc Try.prog Try.f3 Rows.tableNilRow.domain false) (Rows.tableNilSpec.post enc Try.prog Try.f3 false true false false) := by
  refine returnsInHanded_of_change (C := Try.checked) Try.own started (by kernel_rfl) Try.func3
    (ChangeSpec.witness6 (enc := enc) (C := Try.checked) false ⟨#[], #[.int .i64 0, .int .i64 0], []⟩ 8 (by kernel_rfl) (by kernel_rfl) (by kernel_rfl) (by kernel_rfl)) ?_
  intro W base args ds gs before hval0 hW hcnd _
  have hval : ∀ (j : Nat) t v, Try.f3.params[j]? = some t → args[j]? = some v → Value.okWide Try.prog W .any base t v := hval0
  have hW' := hW
  obtain ⟨p, q, hA0, hV, rfl, hfz, hnd⟩ := hW
  have hA : DataW.TrodAll enc Try.prog W 0 (fun _ => true) true Try.f3.params.toList args.toList ds p := hA0
  rw [Try.params3] at hA hval
  obtain ⟨v0, v1, d0, d1, p0, p1, rfl, rfl, rfl, h0, h1⟩ := trodAll_two hA
  obtain ⟨rfl, rfl⟩ := trodVars_none hV
  obtain ⟨n0, rfl, rfl, rfl, wn0⟩ := open_int Try.underlying3 (hval 0 3 v0 rfl rfl) h0
  obtain ⟨n1, rfl, rfl, rfl, wn1⟩ := open_int Try.underlying3 (hval 1 3 v1 rfl rfl) h1
  have b0 : -9223372036854775808 ≤ n0 ∧ n0 ≤ 9223372036854775807 := by simpa [Lit.wf, IntKind.min, IntKind.max, IntKind.signed, IntKind.bits] using wn0
  refine (nil_any n0 n1 b0.2 W).mono fun e W' ⟨he, hw⟩ => ?_
  subst he
  exact ⟨_, rfl, law_close (bt := 4) rfl Try.underlying4 rfl Try.laidOut (of_decide_eq_true (by kernel_rfl)) hW' rfl hw⟩

theorem tableNil_holds : Rows.TableNilSaid :=
  OpenClaim.holds_of_wide 3 Try.f3 rfl rfl rfl rfl rfl rfl rfl ⟨rfl, rfl, rfl, rfl, rfl⟩ rfl rfl rfl rfl rfl (by kernel_rfl) Try.func3 (by kernel_rfl)
    (of_decide_eq_true (by kernel_rfl)) (by unfold Func.isWrapper; first | (rw [if_pos (by decide +kernel)]; kernel_rfl) | (rw [if_neg (by decide +kernel)]; exact ⟨rfl, rfl⟩))
    (fun os started H enc _ => tableNil_lifted os started H enc)
end Go.Proofs.Ytgnjjomfffmcaaa
