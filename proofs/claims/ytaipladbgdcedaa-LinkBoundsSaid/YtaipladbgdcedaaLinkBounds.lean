/- LinkBounds holds: weights stay within their ends, and a nil forest has nothing; under no condition. -/
import Derived.Test.YtaipladbgdcedaaAwake
import Derived.Test.YtaipladbgdcedaaClose
import Derived.OpenShut
set_option linter.unusedSimpArgs false
set_option linter.unusedVariables false
namespace Go.Proofs.Ytaipladbgdcedaa
open Go.ChangeShapes Go.WideShapes Go.ChangeAt Go.RowKit

theorem set_same (G : Fo) (x : Nat) : G.set x (G.wt x) = G := by
  have : (fun u => if u = x then G.wt x else G.wt u) = G.wt := by
    funext u
    split
    · rename_i e; rw [e]
    · rfl
  show (⟨G.n, G.th, G.up, fun u => if u = x then G.wt x else G.wt u⟩ : Fo) = G
  rw [this]
theorem raise_none (G : Fo) : ∀ L, G.raise 0 L = G
  | [] => rfl
  | u :: L => by
    show (G.raise 0 L).set u ((G.raise 0 L).wt u + 0) = G
    rw [raise_none G L, Int.add_zero, set_same]
def bw1 : Fo := (Fo.empty 3).add 1 1099511627776
def bw2 (z : Int) : Fo := bw1.add 2 z
def bw3 (z : Int) : Fo := (bw2 z).add 3 (-1099511627776)
def bw4 (z : Int) : Fo := (bw3 z).link 2 1
def bw (z : Int) : Fo := (bw4 z).link 3 2
theorem bw_sum (z : Int) (h1 : -32768 ≤ z) (h2 : z ≤ 32767) : sumE (bw z) 0 2 = ⟨3, z, -1099511627776, 1099511627776⟩ := by
  have e : sumE (bw z) 0 2 = sumL [-1099511627776, z, 1099511627776] := by kernel_rfl
  rw [e]
  simp only [sumL, ej, Sm.one]
  simp
  omega
theorem bw_add (z y : Int) (h1 : -32768 ≤ z) (h2 : z ≤ 32767) : pathAddOk (bw z) 0 2 y = (y == 0) := by
  have e : sameB (bw z) 0 2 = true := by kernel_rfl
  unfold pathAddOk
  rw [e, bw_sum z h1 h2, Bool.true_and]
  unfold addB fitsB
  by_cases hy : y = 0
  · subst hy; rfl
  · have : (y == 0) = false := beq_eq_false_iff_ne.2 hy
    rw [this]
    simp only [Bool.and_eq_false_iff, decide_eq_false_iff_not]
    omega
theorem bw_same (z y : Int) (h1 : -32768 ≤ z) (h2 : z ≤ 32767) : pathAddG (bw z) 0 2 y = bw z := by
  unfold pathAddG
  rw [bw_add z y h1 h2]
  by_cases hy : y = 0
  · subst hy
    exact raise_none _ _
  · have : (y == 0) = false := beq_eq_false_iff_ne.2 hy
    rw [this]
    rfl
set_option maxRecDepth 100000 in
set_option maxHeartbeats 4000000 in
theorem bounds_any (y z : Int) (h1 : -32768 ≤ z) (h2 : z ≤ 32767) (w : World) : Calls Try.prog 8 #[.int .i64 y, .int .i16 z] w fun e w' => e = .returned (.bool true) ∧ Below w.heap.size w w' := by
  have hz : fitsB z = true := decide_eq_true_iff.2 (by omega)
  have hz1 : addOk bw1 1 z = true := by
    unfold addOk
    rw [hz]
    rfl
  have HZ1 := Lib.hid hz1
  have HZ2 := Lib.hid (show addG bw1 1 z = bw2 z by unfold addG; rw [hz1]; rfl)
  have HP := bw_add z y h1 h2
  have HG := Lib.hid (bw_same z y h1 h2)
  have HS := Lib.hid (bw_sum z h1 h2)
  obtain ⟨b, hb⟩ : ∃ b, b = (y == 0) := ⟨_, rfl⟩
  have hb2 : (y == 0) = b := hb.symm
  rw [hb2] at HP
  have HP := Lib.hid HP
  clear hz hz1 hb
  go_enter Try.func8, Try.ntmps8
  go_wp2_with fail
  go_at_call 25
  refine (new_any 3 (by omega) w).mono ?_
  rintro e w1 ⟨F, A, rfl, h1, t1, gF, gA, hFA⟩
  have T1 := Lib.hid t1
  have H1 := Lib.hid (show LPost w1 F A 4 (Fo.empty 3) w1 from ⟨h1, Tch.refl _ _⟩)
  have hlt := h1.lt
  clear h1 t1
  go_wp2_with fail
  go_at_call 26
  refine (Add_at H1.out.1 0 1099511627776 true bw1 (by kernel_rfl) (by kernel_rfl)).mono ?_
  rintro e w2 ⟨rfl, h⟩
  have H2 := Lib.hid (H1.out.trans h)
  clear h H1
  go_wp2_with fail
  go_at_call 26
  refine (Add_at H2.out.1 1 z true (bw2 z) HZ1.out HZ2.out).mono ?_
  rintro e w3 ⟨rfl, h⟩
  have H3 := Lib.hid (H2.out.trans h)
  clear h H2
  go_wp2_with fail
  go_at_call 26
  refine (Add_at H3.out.1 2 (-1099511627776) true (bw3 z) (by kernel_rfl) (by kernel_rfl)).mono ?_
  rintro e w4 ⟨rfl, h⟩
  have H4 := Lib.hid (H3.out.trans h)
  clear h H3
  go_wp2_with fail
  go_at_call 27
  refine (Link_at H4.out.1 1 0 true (bw4 z) (by kernel_rfl) (by kernel_rfl)).mono ?_
  rintro e w5 ⟨rfl, h⟩
  have H5 := Lib.hid (H4.out.trans h)
  clear h H4
  go_wp2_with fail
  go_at_call 27
  refine (Link_at H5.out.1 2 1 true (bw z) (by kernel_rfl) (by kernel_rfl)).mono ?_
  rintro e w6 ⟨rfl, h⟩
  have H6 := Lib.hid (H5.out.trans h)
  clear h H5
  go_wp2_with fail
  go_at_call 28
  refine (PathAdd_at H6.out.1 0 2 y b (bw z) HP.out HG.out).mono ?_
  rintro e w7 ⟨rfl, h⟩
  have H7 := Lib.hid (H6.out.trans h)
  clear h H6
  go_wp2_with fail
  go_at_call 30
  refine (Set_at H7.out.1 1 1099511627777 false (bw z) (by kernel_rfl) (by kernel_rfl)).mono ?_
  rintro e w8 ⟨rfl, h⟩
  have H8 := Lib.hid (H7.out.trans h)
  clear h H7
  go_wp2_with fail
  go_at_call 30
  refine (Set_at H8.out.1 1 (-1099511627777) false (bw z) (by kernel_rfl) (by kernel_rfl)).mono ?_
  rintro e w9 ⟨rfl, h⟩
  have H9 := Lib.hid (H8.out.trans h)
  clear h H8
  go_wp2_with fail
  go_at_call 26
  refine (Add_at H9.out.1 3 0 false (bw z) (by kernel_rfl) (by kernel_rfl)).mono ?_
  rintro e w10 ⟨rfl, h⟩
  have H10 := Lib.hid (H9.out.trans h)
  clear h H9
  go_wp2_with fail
  go_at_call 26
  refine (Add_at H10.out.1 (-1) 0 false (bw z) (by kernel_rfl) (by kernel_rfl)).mono ?_
  rintro e w11 ⟨rfl, h⟩
  have H11 := Lib.hid (H10.out.trans h)
  clear h H10
  go_wp2_with fail
  go_at_call 26
  refine (Add_at H11.out.1 0 0 false (bw z) (by kernel_rfl) (by kernel_rfl)).mono ?_
  rintro e w12 ⟨rfl, h⟩
  have H12 := Lib.hid (H11.out.trans h)
  clear h H11
  go_wp2_with fail
  go_at_call 18
  refine (Path_at H12.out.1 0 2 3 z (-1099511627776) 1099511627776 true HS.out (by kernel_rfl)).mono ?_
  rintro e w13 ⟨rfl, h⟩
  have H13 := Lib.hid (H12.out.trans h)
  clear h H12
  go_wp2_with fail
  go_at_call 15
  refine (awake_any _).mono ?_
  rintro e v1 ⟨rfl, t⟩
  have hS := t.blk (sum_made w13 ⟨3, z, -1099511627776, 1099511627776⟩) (by simp)
  have s1 : v1.cell? ⟨_, 1, none⟩ = some (Value.int .i64 z) := hS.cell 1 (by omega)
  have s2 : v1.cell? ⟨_, 2, none⟩ = some (Value.int .i64 (-1099511627776)) := hS.cell 2 (by omega)
  have s3 : v1.cell? ⟨_, 3, none⟩ = some (Value.int .i64 1099511627776) := hS.cell 3 (by omega)
  have hsl := hS.lt
  have HT := Lib.hid ((tch_own T1.out H13.out.2 gA).trans (((Tch.refl [] _).new _).trans t))
  clear hS t
  go_wp2_with fail
  go_at_call 31
  refine (has_nil v1 0).mono ?_
  rintro e v2 ⟨rfl, rfl⟩
  go_wp2_with fail
  go_at_call 26
  refine (Add_nil v1 0 0).mono ?_
  rintro e v2 ⟨rfl, rfl⟩
  go_wp2_with fail
  go_at_call 20
  refine (Root_nil v1 0).mono ?_
  rintro e v2 ⟨rfl, rfl⟩
  go_wp2_with fail
  go_at_call 21
  refine (Parent_nil v1 0).mono ?_
  rintro e v2 ⟨rfl, rfl⟩
  go_wp2_with fail
  go_at_call 22
  refine (Lca_nil v1 0 0).mono ?_
  rintro e v2 ⟨rfl, rfl⟩
  go_wp2_with fail
  go_at_call 16
  refine (Size_nil v1 0).mono ?_
  rintro e v2 ⟨rfl, rfl⟩
  go_wp2_with fail
  go_at_call 24
  refine (Check_nil v1).mono ?_
  rintro e v2 ⟨rfl, rfl⟩
  go_wp2_with fail
  go_at_call 25
  refine (new_none (-1) (by omega) v1).mono ?_
  rintro e v2 ⟨rfl, rfl⟩
  go_wp2_with fail
  go_at_call 25
  refine (new_none 1048577 (by omega) v1).mono ?_
  rintro e v2 ⟨rfl, rfl⟩
  go_wp2_with fail
  go_ret
  exact ⟨rfl, HT.out.nil⟩

set_option maxRecDepth 100000 in
theorem linkBounds_lifted (os : Os) (started : os.Started) (H : Type) (enc : TypeId × Value → H) :
    ReturnsInHanded {} Try.checked os 8 .any (Rows.linkBoundsSpec.pre6 enc Try.prog Try.f8 Rows.linkBoundsRow.domain false) (Rows.linkBoundsSpec.post enc Try.prog Try.f8 false true false false) := by
  refine returnsInHanded_of_change (C := Try.checked) Try.own started (by kernel_rfl) Try.func8
    (ChangeSpec.witness6 (enc := enc) (C := Try.checked) false ⟨#[], #[.int .i64 0, .int .i16 0], []⟩ 8 (by kernel_rfl) (by kernel_rfl) (by kernel_rfl) (by kernel_rfl)) ?_
  intro W base args ds gs before hval0 hW hcnd _
  have hval : ∀ (j : Nat) t v, Try.f8.params[j]? = some t → args[j]? = some v → Value.okWide Try.prog W .any base t v := hval0
  have hW' := hW
  obtain ⟨p, q, hA0, hV, rfl, hfz, hnd⟩ := hW
  have hA : DataW.TrodAll enc Try.prog W 0 (fun _ => true) true Try.f8.params.toList args.toList ds p := hA0
  rw [Try.params8] at hA hval
  obtain ⟨v0, v1, d0, d1, p0, p1, rfl, rfl, rfl, h0, h1⟩ := trodAll_two hA
  obtain ⟨rfl, rfl⟩ := trodVars_none hV
  obtain ⟨n0, rfl, rfl, rfl, wn0⟩ := open_int Try.underlying3 (hval 0 3 v0 rfl rfl) h0
  obtain ⟨n1, rfl, rfl, rfl, wn1⟩ := open_int Try.underlying52 (hval 1 52 v1 rfl rfl) h1
  refine (bounds_any n0 n1 (wf_i16 wn1).1 (wf_i16 wn1).2 W).mono fun e W' ⟨he, hw⟩ => ?_
  subst he
  exact ⟨_, rfl, law_close (bt := 4) rfl Try.underlying4 rfl Try.laidOut (of_decide_eq_true (by kernel_rfl)) hW' rfl hw⟩

theorem linkBounds_holds : Rows.LinkBoundsSaid :=
  OpenClaim.holds_of_wide 8 Try.f8 rfl rfl rfl rfl rfl rfl rfl ⟨rfl, rfl, rfl, rfl, rfl⟩ rfl rfl rfl rfl rfl (by kernel_rfl) Try.func8 (by kernel_rfl)
    (of_decide_eq_true (by kernel_rfl)) (by unfold Func.isWrapper; first | (rw [if_pos (by decide +kernel)]; kernel_rfl) | (rw [if_neg (by decide +kernel)]; exact ⟨rfl, rfl⟩))
    (fun os started H enc _ => linkBounds_lifted os started H enc)

end Go.Proofs.Ytaipladbgdcedaa
