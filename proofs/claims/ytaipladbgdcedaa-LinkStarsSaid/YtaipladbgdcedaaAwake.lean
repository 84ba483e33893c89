/- The walk of awake: the document's examples hold. No condition of its own. -/
import Derived.Test.YtaipladbgdcedaaMj
set_option linter.unusedSimpArgs false
set_option linter.unusedVariables false
namespace Go.Proofs.Ytaipladbgdcedaa
open Go.RowKit

def aw1 : Fo := (Fo.empty 4).add 1 5
def aw2 : Fo := aw1.add 2 7
def aw3 : Fo := aw2.add 3 (-1)
def aw4 : Fo := aw3.link 2 1
def aw5 : Fo := aw4.link 3 2
def aw6 : Fo := aw5.raise 10 [3, 2]
def aw7 : Fo := aw6.ev 3
set_option maxRecDepth 100000 in
set_option maxHeartbeats 4000000 in
theorem awake_any (w : World) : Calls Try.prog 15 #[] w fun e w' => e = .returned (.bool true) ∧ Tch [] w w' := by
  go_enter Try.func15, Try.ntmps15
  go_wp2_with fail
  go_at_call 25
  refine (new_any 4 (by omega) w).mono ?_
  rintro e w1 ⟨F, A, rfl, h1, t1, gF, gA, hFA⟩
  have T1 := Lib.hid t1
  have H1 := Lib.hid (show LPost w1 F A 5 (Fo.empty 4) w1 from ⟨h1, Tch.refl _ _⟩)
  have hlt := h1.lt
  clear h1 t1
  go_wp2_with fail
  go_at_call 26
  refine (Add_at H1.out.1 0 5 true aw1 (by kernel_rfl) (by kernel_rfl)).mono ?_
  rintro e w2 ⟨rfl, h⟩
  have H2 := Lib.hid (H1.out.trans h)
  clear h H1
  go_wp2_with fail
  go_at_call 26
  refine (Add_at H2.out.1 1 7 true aw2 (by kernel_rfl) (by kernel_rfl)).mono ?_
  rintro e w3 ⟨rfl, h⟩
  have H3 := Lib.hid (H2.out.trans h)
  clear h H2
  go_wp2_with fail
  go_at_call 26
  refine (Add_at H3.out.1 2 (-1) true aw3 (by kernel_rfl) (by kernel_rfl)).mono ?_
  rintro e w4 ⟨rfl, h⟩
  have H4 := Lib.hid (H3.out.trans h)
  clear h H3
  go_wp2_with fail
  go_at_call 27
  refine (Link_at H4.out.1 1 0 true aw4 (by kernel_rfl) (by kernel_rfl)).mono ?_
  rintro e w5 ⟨rfl, h⟩
  have H5 := Lib.hid (H4.out.trans h)
  clear h H4
  go_wp2_with fail
  go_at_call 27
  refine (Link_at H5.out.1 2 1 true aw5 (by kernel_rfl) (by kernel_rfl)).mono ?_
  rintro e w6 ⟨rfl, h⟩
  have H6 := Lib.hid (H5.out.trans h)
  clear h H5
  go_wp2_with fail
  go_at_call 18
  refine (Path_at H6.out.1 0 2 3 11 (-1) 7 true (by kernel_rfl) (by kernel_rfl)).mono ?_
  rintro e w7 ⟨rfl, h⟩
  have H7 := Lib.hid (H6.out.trans h)
  clear h H6
  go_wp2_with fail
  have hS := sum_made w7 ⟨3, 11, -1, 7⟩
  have h := (show LPost w1 F A 5 aw5 (w7.alloc (.cells #[.int .i64 3, .int .i64 11, .int .i64 (-1), .int .i64 7] 29)) from ⟨H7.out.1.quiet ((Tch.refl _ _).new _), H7.out.2.new _⟩)
  have hSA := (show A ≠ w7.heap.size from by have := H7.out.1.lt; omega)
  have hge := H7.out.2.size
  generalize w7.alloc (.cells _ 29) = w8 at hS h ⊢
  generalize w7.heap.size = S at hS hSA hge ⊢
  have H8 := Lib.hid h
  have HS8 := Lib.hid hS
  clear hS h H7
  go_at_call 28
  refine (PathAdd_at H8.out.1 1 2 10 true aw6 (by kernel_rfl) (by kernel_rfl)).mono ?_
  rintro e w9 ⟨rfl, h⟩
  have H9 := Lib.hid (H8.out.trans h)
  have hS := h.2.blk HS8.out (by simp; omega)
  clear h H8
  have HS9 := Lib.hid hS
  clear hS HS8
  go_wp2_with fail
  go_at_call 19
  refine (Evert_at H9.out.1 2 true aw7 (by kernel_rfl) (by kernel_rfl)).mono ?_
  rintro e w10 ⟨rfl, h⟩
  have H10 := Lib.hid (H9.out.trans h)
  have hS := h.2.blk HS9.out (by simp; omega)
  clear h H9
  have HS10 := Lib.hid hS
  clear hS HS9
  go_wp2_with fail
  go_at_call 20
  refine (Root_at H10.out.1 0 2 (by kernel_rfl)).mono ?_
  rintro e w11 ⟨rfl, h⟩
  have H11 := Lib.hid (H10.out.trans h)
  have hS := h.2.blk HS10.out (by simp; omega)
  clear h H10
  have HS11 := Lib.hid hS
  clear hS HS10
  go_wp2_with fail
  go_at_call 21
  refine (Parent_at H11.out.1 0 1 (by kernel_rfl)).mono ?_
  rintro e w12 ⟨rfl, h⟩
  have H12 := Lib.hid (H11.out.trans h)
  have hS := h.2.blk HS11.out (by simp; omega)
  clear h H11
  have HS12 := Lib.hid hS
  clear hS HS11
  go_wp2_with fail
  go_at_call 23
  refine (Sub_at H12.out.1 1 2 22 true (by kernel_rfl) (by kernel_rfl) (by kernel_rfl)).mono ?_
  rintro e w13 ⟨rfl, h⟩
  have H13 := Lib.hid (H12.out.trans h)
  have hS := h.2.blk HS12.out (by simp; omega)
  clear h H12
  have s0 : w13.cell? ⟨S, 0, none⟩ = some (.int .i64 3) := hS.cell 0 (by omega)
  have s1 : w13.cell? ⟨S, 1, none⟩ = some (.int .i64 11) := hS.cell 1 (by omega)
  have s2 : w13.cell? ⟨S, 2, none⟩ = some (.int .i64 (-1)) := hS.cell 2 (by omega)
  have s3 : w13.cell? ⟨S, 3, none⟩ = some (.int .i64 7) := hS.cell 3 (by omega)
  have hsl := hS.lt
  clear hS
  go_wp2_with fail
  clear s0 s1 s2 s3 hsl
  go_at_call 22
  refine (Lca_at H13.out.1 0 1 1 (by kernel_rfl)).mono ?_
  rintro e w14 ⟨rfl, h⟩
  have H14 := Lib.hid (H13.out.trans h)
  clear h H13
  go_wp2_with fail
  go_at_call 16
  refine (Size_at H14.out.1 0 3 (by kernel_rfl)).mono ?_
  rintro e w15 ⟨rfl, h⟩
  have H15 := Lib.hid (H14.out.trans h)
  clear h H14
  go_wp2_with fail
  go_at_call 27
  refine (Link_at H15.out.1 0 2 false aw7 (by kernel_rfl) (by kernel_rfl)).mono ?_
  rintro e w16 ⟨rfl, h⟩
  have H16 := Lib.hid (H15.out.trans h)
  clear h H15
  go_wp2_with fail
  go_at_call 24
  refine (Check_at H16.out.1).mono ?_
  rintro e w17 ⟨rfl, h⟩
  have H17 := Lib.hid (H16.out.trans h)
  clear h H16
  go_wp2_with fail
  go_ret
  exact ⟨rfl, tch_own T1.out H17.out.2 gA⟩
end Go.Proofs.Ytaipladbgdcedaa
