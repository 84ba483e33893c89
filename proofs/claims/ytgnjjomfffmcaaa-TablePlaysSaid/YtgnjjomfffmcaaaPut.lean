/- The walk of Put over a table in memory, given what grow does. No condition of its own. -/
import Derived.Test.YtgnjjomfffmcaaaDrop
namespace Go.Proofs.Ytgnjjomfffmcaaa
open Go.RowKit

/-- What Put needs of the world behind grow. -/
structure PutFacts (w : World) (T C n q live used : Nat) (id : Int) : Prop where
  lt : T < w.heap.size
  ne : T ≠ C
  c0 : w.cell? ⟨T, 0, none⟩ = some (.slice (some ⟨C, 0, none⟩) n n)
  c1 : w.cell? ⟨T, 1, none⟩ = some (.int .i64 live)
  c2 : w.cell? ⟨T, 2, none⟩ = some (.int .i64 used)
  d0 : ∃ x, w.cell? ⟨C, q * 2, none⟩ = some x
  d1 : ∃ x, w.cell? ⟨C, q * 2 + 1, none⟩ = some x
  ft : ∀ o, w.frozen? ⟨T, o, none⟩ = false
  fc : ∀ o, w.frozen? ⟨C, o, none⟩ = false
  hq : q < n
  hn : n ≤ 100000000
  hl : live ≤ 100000000
  hu : used ≤ 100000000
  find : Calls Try.prog 21 #[.pointer (some ⟨T, 0, none⟩), .int .i64 id] w fun e w' => e = .returned (.tuple #[.int .i64 (q : Nat), .bool false]) ∧ w = w'

set_option maxHeartbeats 400000 in
theorem put_walk (w : World) (T live0 : Nat) (id v i0 : Int) (P : World → Prop) (R : World → Nat → Nat → Nat → Nat → Nat → Prop) (hTl : T < w.heap.size) (c1 : w.cell? ⟨T, 1, none⟩ = some (.int .i64 live0)) (hl0 : live0 < 1048576) (h0 : 0 ≤ id) (h1 : id ≤ 2147483647)
    (HF : Calls Try.prog 21 #[.pointer (some ⟨T, 0, none⟩), .int .i64 id] w fun e w' => e = .returned (.tuple #[.int .i64 i0, .bool false]) ∧ w = w')
    (HG : Calls Try.prog 22 #[.pointer (some ⟨T, 0, none⟩)] w fun e w' => e = .returned (.tuple #[]) ∧ P w')
    (hP : ∀ w2, P w2 → ∃ C n q live used, PutFacts w2 T C n q live used id ∧ R w2 C n q live used) :
    Calls Try.prog 9 #[.pointer (some ⟨T, 0, none⟩), .int .i64 id, .int .i64 v] w fun e w' => e = .returned (.bool true) ∧ ∃ w2 C n q live used, R w2 C n q live used ∧
      w' = (((w2.setCell ⟨C, q * 2, none⟩ (.int .i64 id)).setCell ⟨C, q * 2 + 1, none⟩ (.int .i64 v)).setCell ⟨T, 1, none⟩ (.int .i64 ((live : Int) + 1))).setCell ⟨T, 2, none⟩ (.int .i64 ((used : Int) + 1)) := by
  have HF := Lib.hid HF
  have HG := Lib.hid HG
  have HP := Lib.hid hP
  clear hP
  go_enter Try.func9, Try.ntmps9
  go_wp2_with (go_at_call 21; refine HF.out.mono ?_; rintro e w1 ⟨rfl, rfl⟩)
  go_at_call 22
  refine HG.out.mono ?_
  rintro e w2 ⟨rfl, p2⟩
  obtain ⟨C, n, q, live, used, hf, hR⟩ := HP.out w2 p2
  have HH := Lib.hid hf
  have HP2 := Lib.hid hR
  obtain ⟨a1, a2, a3, a4, a5, ⟨x, a6⟩, ⟨y, a7⟩, a8, a9, a10, a11, a12, a13, a14⟩ := hf
  have HF2 := Lib.hid a14
  have a2' : C ≠ T := fun e => a2 e.symm
  clear p2 hR a14 hTl c1
  go_wp2_with (go_at_call 21; refine HF2.out.mono ?_; rintro e w3 ⟨rfl, rfl⟩)
  go_ret
  exact ⟨rfl, w2, C, n, q, live, used, HP2.out, rfl⟩
end Go.Proofs.Ytgnjjomfffmcaaa
