/- The walk of awake over the arena: it answers true. -/
import Derived.Test.YtpceeeifdgbomaaNew
namespace Go.Proofs.Ytpceeeifdgbomaa
open Go.RowKit

def hcell (a b : Int) : Nat → Value := fun j => match j with | 0 => .int .i64 a | _ => .int .i64 b
theorem handle_made (w : World) (a b : Int) : Blk (w.alloc (.cells #[.int .i64 a, .int .i64 b] 29)) w.heap.size 29 2 (hcell a b) :=
  Blk.made (w := w) 29 #[.int .i64 a, .int .i64 b] (hcell a b) (fun k hk => match k, hk with | 0, _ => rfl | 1, _ => rfl)

theorem take_next_at (w : World) (A G X : Nat) (top : Int) (nx : Nat → Int) (s : St) (h : AR w A G X top nx s) (hf : s.free = []) (hu : s.used < s.n) (hg : s.gen s.used < 1000000) (k g : Nat) (hk : s.used = k) (hg' : s.gen s.used + 1 = g) :
    Calls Try.prog 9 #[.pointer (some ⟨A, 0, none⟩)] w fun e w' => e = .returned (.tuple #[.agg #[.int .i64 k, .int .i64 g], .bool true]) ∧ Tch [A, G, X] w w' ∧ ∃ top' nx', AR w' A G X top' nx' s.next := by
  subst hg'; subst hk
  exact take_next w A G X top nx s h hf hu hg
theorem take_top_at (w : World) (A G X : Nat) (top : Int) (nx : Nat → Int) (s : St) (h : AR w A G X top nx s) (k : Nat) (fs : List Nat) (hf : s.free = k :: fs) (hg : s.gen k < 1000000) (g : Nat) (hg' : s.gen k + 1 = g) :
    Calls Try.prog 9 #[.pointer (some ⟨A, 0, none⟩)] w fun e w' => e = .returned (.tuple #[.agg #[.int .i64 k, .int .i64 g], .bool true]) ∧ Tch [A, G, X] w w' ∧ ∃ top' nx', AR w' A G X top' nx' (s.took k fs) := by
  subst hg'
  exact take_top w A G X top nx s h k fs hf hg
theorem give_yes_at (w : World) (A G X : Nat) (top : Int) (nx : Nat → Int) (s : St) (h : AR w A G X top nx s) (m g : Nat) (h1 : m < s.used) (h2 : m ∉ s.free) (hg : s.gen m = g) :
    Calls Try.prog 11 #[.pointer (some ⟨A, 0, none⟩), .agg #[.int .i64 m, .int .i64 g]] w fun e w' => e = .returned (.bool true) ∧ Tch [A, X] w w' ∧ ∃ top' nx', AR w' A G X top' nx' (s.give m) := by
  subst hg
  exact give_yes w A G X top nx s h m h1 h2
theorem live_at (w : World) (A G X : Nat) (top : Int) (nx : Nat → Int) (s : St) (h : AR w A G X top nx s) (k g : Int) (hk : -9223372036854775808 ≤ k) (hk' : k ≤ 9223372036854775807) (b : Bool) (hb : s.live k g = b) :
    Calls Try.prog 13 #[.pointer (some ⟨A, 0, none⟩), .agg #[.int .i64 k, .int .i64 g]] w fun e w' => e = .returned (.bool b) ∧ Tch [] w w' := by
  subst hb
  exact live_any w A G X top nx s h k g hk hk'
theorem len_at (w : World) (A G X : Nat) (top : Int) (nx : Nat → Int) (s : St) (h : AR w A G X top nx s) (z : Int) (hz : (s.used : Int) - s.free.length = z) :
    Calls Try.prog 15 #[.pointer (some ⟨A, 0, none⟩)] w fun e w' => e = .returned (.int .i64 z) ∧ w = w' := by
  subst hz
  exact len_any w A G X top nx s h

set_option maxHeartbeats 1000000 in
theorem awake_any (w : World) : Calls Try.prog 17 #[] w fun e w' => e = .returned (.bool true) ∧ Below w.heap.size w w' := by
  go_enter Try.func17, Try.ntmps17
  go_wp2_with fail
  go_at_call 7
  refine (new_yes 2 (by omega) w).mono ?_
  rintro e w1 ⟨A, G, X, nx, gA, gG, gX, rfl, h1, t1⟩
  have B1 := Lib.hid t1.nil
  have s1 := t1.size
  clear t1
  go_wp2_with fail
  go_at_call 9
  refine (take_next_at w1 A G X _ nx _ h1 rfl (by decide) (by decide) 0 1 rfl rfl).mono ?_
  rintro e w2 ⟨rfl, t2, top2, nx2, h2⟩
  have B2 := Lib.hid ((Below.trans B1.out (t2.below (Below.refl _ _) B1.out.size (by simp; omega))))
  have s2 := t2.size
  have l2 := h2.a.lt
  have lG := h2.g.lt
  have lX := h2.x.lt
  clear t2
  go_wp2_with fail
  go_at_call 9
  refine (take_next_at _ A G X _ nx2 _ (h2.keep fun b hb => heap_old _ _ _ (by simp at hb; omega)) rfl (by decide) (by decide) 1 1 rfl rfl).mono ?_
  rintro e w3 ⟨rfl, t3, top3, nx3, h3⟩
  have bx : Blk w3 w2.heap.size 29 2 (hcell 0 1) := t3.blk (handle_made w2 0 1) (by simp; omega)
  have B3 := Lib.hid (Below.trans B2.out (t3.below ((Below.refl _ _).alloc (by omega) _) (by simp; omega) (by simp; omega)))
  have s3 := t3.size
  rw [size_new] at s3
  generalize hx : w2.heap.size = x at *
  clear t3 h2 h1
  go_wp2_with fail
  go_at_call 9
  refine (take_none _ A G X _ nx3 _ (h3.keep fun b hb => heap_old _ _ _ (by simp at hb; omega)) rfl rfl).mono ?_
  rintro e w4 ⟨rfl, t4⟩
  have h4 := h3.keep (w' := w4) (fun b hb => (t4.block b (by have l1 := h3.a.lt; have l2 := h3.g.lt; have l3 := h3.x.lt; simp at hb ⊢; omega) (by simp)).trans (heap_old _ _ _ (by have l1 := h3.a.lt; have l2 := h3.g.lt; have l3 := h3.x.lt; simp at hb; omega)))
  have bx4 := t4.blk (bx.new _) (by simp)
  have by4 : Blk w4 w3.heap.size 29 2 (hcell 1 1) := t4.blk (handle_made w3 1 1) (by simp)
  have B4 := Lib.hid (Below.trans B3.out (t4.below ((Below.refl _ _).alloc (by omega) _) (by simp; omega) (by simp)))
  have s4 := t4.size
  rw [size_new] at s4
  generalize hy : w3.heap.size = y at *
  clear t4 h3 bx B3
  have cx0 : w4.cell? ⟨x, 0, none⟩ = some (.int .i64 0) := bx4.cell 0 (by omega)
  have cx1 : w4.cell? ⟨x, 1, none⟩ = some (.int .i64 1) := bx4.cell 1 (by omega)
  have hxx : x < w4.heap.size := by omega
  go_wp2_with fail
  go_at_call 11
  refine (give_yes_at _ A G X _ nx3 _ (h4.keep fun b hb => heap_old _ _ _ (by simp at hb; omega)) 0 1 (by decide) (by decide) rfl).mono ?_
  rintro e w5 ⟨rfl, t5, top5, nx5, h5⟩
  have nx1 : x ∉ [A, G, X] := by simp; omega
  have ny1 : y ∉ [A, G, X] := by simp; omega
  have t5' := t5.mono (cs := [A, G, X]) (by simp)
  have bx5 := t5'.blk (bx4.new _) nx1
  have by5 := t5'.blk (by4.new _) ny1
  have B5 := Lib.hid (Below.trans B4.out (t5'.below ((Below.refl _ _).alloc (by omega) _) (by simp; omega) (by simp; omega)))
  have s5 := t5.size
  rw [size_new] at s5
  clear t5 t5' h4 bx4 by4 B4 cx0 cx1 hxx
  go_wp2_with fail
  go_at_call 9
  refine (take_top_at _ A G X _ nx5 _ h5 0 [] rfl (by decide) 2 rfl).mono ?_
  rintro e w6 ⟨rfl, t6, top6, nx6, h6⟩
  have bx6 := t6.blk bx5 nx1
  have by6 := t6.blk by5 ny1
  have B6 := Lib.hid (Below.trans B5.out (t6.below ((Below.refl _ _)) (by omega) (by simp; omega)))
  have s6 := t6.size
  clear t6 h5 bx5 by5 B5
  have cx0 : w6.cell? ⟨x, 0, none⟩ = some (.int .i64 0) := bx6.cell 0 (by omega)
  have cx1 : w6.cell? ⟨x, 1, none⟩ = some (.int .i64 1) := bx6.cell 1 (by omega)
  have cy0 : w6.cell? ⟨y, 0, none⟩ = some (.int .i64 1) := by6.cell 0 (by omega)
  have hxx : x < w6.heap.size := by omega
  have hyy : y < w6.heap.size := by omega
  go_wp2_with fail
  go_at_call 13
  have l6a := h6.a.lt
  have l6g := h6.g.lt
  have l6x := h6.x.lt
  have h6' := h6.keep (w' := w6.alloc (.cells #[.int .i64 0, .int .i64 2] 29)) fun b hb => heap_old _ _ _ (by simp at hb; omega)
  have bx6' := bx6.new (.cells #[.int .i64 0, .int .i64 2] 29)
  have bz6 := handle_made w6 0 2
  have B6' := Lib.hid (B6.out.alloc (by omega) (.cells #[.int .i64 0, .int .i64 2] 29))
  have s6' := size_new w6 (.cells #[.int .i64 0, .int .i64 2] 29)
  generalize w6.alloc (.cells #[.int .i64 0, .int .i64 2] 29) = w7 at *
  generalize w6.heap.size = z at *
  clear h6 bx6 by6 B6 cx0 cx1 cy0
  refine (live_at _ A G X _ nx6 _ h6' 0 1 (by omega) (by omega) false (by decide)).mono ?_
  rintro e w8 ⟨rfl, t8⟩
  have h8 := h6'.keep (w' := w8) (fun b hb => t8.block b (by simp at hb; omega) (by simp))
  have bx8 := t8.blk bx6' (by simp)
  have bz8 := t8.blk bz6 (by simp)
  have B8 := Lib.hid (Below.trans B6'.out (t8.below (Below.refl _ _) B6'.out.size (by simp)))
  have s8 := t8.size
  clear t8 h6' bx6' bz6 B6'
  have cz0 : w8.cell? ⟨z, 0, none⟩ = some (.int .i64 0) := bz8.cell 0 (by omega)
  have cz1 : w8.cell? ⟨z, 1, none⟩ = some (.int .i64 2) := bz8.cell 1 (by omega)
  go_wp2_with fail
  go_at_call 13
  refine (live_at _ A G X _ nx6 _ h8 0 2 (by omega) (by omega) true (by decide)).mono ?_
  rintro e w9 ⟨rfl, t9⟩
  have h9 := h8.keep (w' := w9) (fun b hb => t9.block b (by simp at hb; omega) (by simp))
  have bx9 := t9.blk bx8 (by simp)
  have B9 := Lib.hid (Below.trans B8.out (t9.below (Below.refl _ _) B8.out.size (by simp)))
  clear t9 h8 bx8 bz8 B8 cz0 cz1
  have cx0 : w9.cell? ⟨x, 0, none⟩ = some (.int .i64 0) := bx9.cell 0 (by omega)
  have cx1 : w9.cell? ⟨x, 1, none⟩ = some (.int .i64 1) := bx9.cell 1 (by omega)
  go_wp2_with fail
  go_at_call 15
  refine (len_at _ A G X _ nx6 _ h9 2 (by decide)).mono ?_
  rintro e w10 ⟨rfl, rfl⟩
  go_wp2_with fail
  go_at_call 11
  refine (give_no _ A G X _ nx6 _ h9 0 1 (by omega) (by omega) (by decide)).mono ?_
  rintro e w11 ⟨rfl, t11⟩
  have B11 := Lib.hid (Below.trans B9.out (t11.below (Below.refl _ _) B9.out.size (by simp)))
  clear t11 h9
  go_wp2_with fail
  go_ret
  exact ⟨rfl, B11.out⟩
end Go.Proofs.Ytpceeeifdgbomaa
