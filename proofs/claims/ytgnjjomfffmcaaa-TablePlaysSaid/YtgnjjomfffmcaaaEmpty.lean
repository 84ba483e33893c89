/- The table's small walks: empty cells, what find says where there is no table; Get, Len. No condition of its own. -/
import Derived.Test.YtgnjjomfffmcaaaFind
namespace Go.Proofs.Ytgnjjomfffmcaaa
open Go.RowKit

theorem madeZeros (n : Nat) : madeCells #[.int .i64 0, .int .i64 0] n = Array.replicate n (.int .i64 0) := by
  apply Array.ext
  · rw [size_madeCells, Array.size_replicate]
  · intro i h1 h2
    simp [madeCells]
    have : i % 2 = 0 ∨ i % 2 = 1 := by omega
    rcases this with e | e <;> simp [e]
theorem info47 : (Try.prog.info? 47).map (fun i => (i.zero, i.size, i.bytes)) = some (some (.agg #[.int .i64 0, .int .i64 0]), 2, 16) := by kernel_rfl
theorem make_cells (n : Nat) (hn : n ≤ 100000000) (w : World) :
    (Instr.makeSlice 48 (.int .i64 (n : Int)) (.int .i64 (n : Int))).run Try.prog w = .ok (.slice (some ⟨w.heap.size, 0, none⟩) n n) (w.alloc (.cells (Array.replicate (2 * n) (.int .i64 0)) 47)) := by
  obtain ⟨i0, hi, hz0, hz1, hz2⟩ := info_parts info47
  rw [run_make_at 48 47 i0 _ Try.underlying48 hi hz0 n (by rw [hz2]; omega) (by omega) w, hz1]
  have : (Value.agg #[.int .i64 0, .int .i64 0]).cells = #[.int .i64 0, .int .i64 0] := rfl
  rw [this, madeZeros, Nat.mul_comm]
theorem made_rep (w : World) (T : TypeId) (n : Nat) (v : Value) : Blk (w.alloc (.cells (Array.replicate n v) T)) w.heap.size T n (fun _ => v) := by
  have := Blk.made (w := w) T (Array.replicate n v) (fun _ => v) (fun k hk => by simp at hk; simp [hk])
  simpa using this

def ecell (i k : Nat) : Value := .int .i64 (if k % 2 = 0 ∧ k / 2 < i then -1 else 0)
set_option maxHeartbeats 400000 in
theorem empty_any (n : Nat) (h0 : 0 < n) (hn : n ≤ 100000000) (w : World) :
    Calls Try.prog 26 #[.int .i64 n] w fun e w' => e = .returned (.slice (some ⟨w.heap.size, 0, none⟩) n n) ∧ Blk w' w.heap.size 47 (2 * n) (fun k => .int .i64 (if k % 2 = 0 then -1 else 0)) ∧ Tch [] w w' := by
  have hmk := make_cells n hn w
  go_enter Try.func26, Try.ntmps26
  go_wp2
  go_loopw [4, 9] (fun _ i wq => ∃ q : Nat, q ≤ n ∧ i = .int .i64 q ∧ Blk wq w.heap.size 47 (2 * n) (ecell q) ∧ Tch [] w wq) (fun _ i _ => n - (intOf i).toNat)
  case atStart =>
    refine ⟨0, by omega, rfl, ?_, (Tch.refl _ _).new _⟩
    refine (made_rep w 47 (2 * n) (.int .i64 0)).ext (fun k hk => ?_)
    simp [ecell]
  case round =>
    obtain ⟨q, hq, rfl, hB, hT⟩ := hrel
    have HB := Lib.hid hB
    have HT := Lib.hid hT
    have hlt := hB.lt
    have fr := hB.frozen
    by_cases hqn : q < n
    · have cc := hB.cell (q * 2) (by omega)
      have e : ecell q (q * 2) = .int .i64 0 := by simp [ecell]
      rw [e] at cc
      clear hB hT e
      go_wp2
      go_roundw
      case rel =>
        refine ⟨q + 1, by omega, by go_num, (HB.out.set (q * 2) _).ext (fun k hk => ?_), HT.out.setNew (Nat.le_refl _) _⟩
        unfold ecell
        by_cases e1 : k = q * 2
        · subst e1; simp
        · simp only [if_neg e1]
          congr 1
          by_cases e2 : k % 2 = 0
          · have : (k / 2 < q) ↔ (k / 2 < q + 1) := by omega
            simp [e2, this]
          · simp [e2]
      case measure => simp [intOf]; omega
    · clear hB hT
      go_wp2
      go_ret
      refine ⟨rfl, HB.out.ext (fun k hk => ?_), HT.out⟩
      unfold ecell
      congr 1
      have : k / 2 < q := by omega
      simp [this]

set_option maxHeartbeats 400000 in
theorem find_none (w : World) (T C : Nat) (s : TS) (h : TR w T C s) (id : Int) (hz : s.n = 0 ∨ id < 0) :
    Calls Try.prog 21 #[.pointer (some ⟨T, 0, none⟩), .int .i64 id] w fun e w' => e = .returned (.tuple #[.int .i64 0, .bool false]) ∧ w = w' := by
  have hTl := h.t.lt
  by_cases hn : s.n = 0
  · have c0 : w.cell? ⟨T, 0, none⟩ = some (.slice none 0 0) := by have := h.t.cell 0 (by omega); rw [this]; simp [tslice, hn]
    clear h hz hn
    go_enter Try.func21, Try.ntmps21
    go_wp2
    exact bodyPost_ret (v := .tuple #[.int .i64 0, .bool false]) (by simp [results, Try.results21, go_sem]) rfl ⟨rfl, rfl⟩
  · have c0 := h.s0 (by omega)
    have hsm := h.small
    have hid : id < 0 := by omega
    have hnn : ((s.n : Int) == 0) = false := beq_eq_false_iff_ne.2 (by omega)
    clear h hz
    go_enter Try.func21, Try.ntmps21
    go_wp2
    exact bodyPost_ret (v := .tuple #[.int .i64 0, .bool false]) (by simp [results, Try.results21, go_sem]) rfl ⟨rfl, rfl⟩
theorem find_nil (w : World) (id : Int) : Calls Try.prog 21 #[.pointer none, .int .i64 id] w fun e w' => e = .returned (.tuple #[.int .i64 0, .bool false]) ∧ w = w' := by
  go_enter Try.func21, Try.ntmps21
  go_wp2
  exact bodyPost_ret (v := .tuple #[.int .i64 0, .bool false]) (by simp [results, Try.results21, go_sem]) rfl ⟨rfl, rfl⟩
theorem len_any (w : World) (T C : Nat) (s : TS) (h : TR w T C s) : Calls Try.prog 11 #[.pointer (some ⟨T, 0, none⟩)] w fun e w' => e = .returned (.int .i64 s.live) ∧ w = w' := by
  have c1 : w.cell? ⟨T, 1, none⟩ = some (.int .i64 s.live) := h.t.cell 1 (by omega)
  clear h
  go_enter Try.func11, Try.ntmps11
  go_wp2
  go_ret
  exact ⟨rfl, rfl⟩
theorem len_nil (w : World) : Calls Try.prog 11 #[.pointer none] w fun e w' => e = .returned (.int .i64 0) ∧ w = w' := by
  go_enter Try.func11, Try.ntmps11
  go_wp2
  go_ret
  exact ⟨rfl, rfl⟩
theorem get_nil (w : World) (id : Int) : Calls Try.prog 7 #[.pointer none, .int .i64 id] w fun e w' => e = .returned (.tuple #[.int .i64 0, .bool false]) ∧ w = w' := by
  go_enter Try.func7, Try.ntmps7
  go_wp2_with (go_at_call 21; refine (find_nil w id).mono ?_; rintro e w1 ⟨rfl, rfl⟩)
  exact bodyPost_ret (v := .tuple #[.int .i64 0, .bool false]) (by simp [results, Try.results7, go_sem]) rfl ⟨rfl, rfl⟩
theorem drop_nil (w : World) (id : Int) : Calls Try.prog 10 #[.pointer none, .int .i64 id] w fun e w' => e = .returned (.bool false) ∧ w = w' := by
  go_enter Try.func10, Try.ntmps10
  go_wp2_with (go_at_call 21; refine (find_nil w id).mono ?_; rintro e w1 ⟨rfl, rfl⟩)
  go_ret
  exact ⟨rfl, rfl⟩
theorem put_nil (w : World) (id n : Int) : Calls Try.prog 9 #[.pointer none, .int .i64 id, .int .i64 n] w fun e w' => e = .returned (.bool false) ∧ w = w' := by
  go_enter Try.func9, Try.ntmps9
  go_wp2
  go_ret
  exact ⟨rfl, rfl⟩
theorem new_any (w : World) : Calls Try.prog 13 #[] w fun e w' => e = .returned (.pointer (some ⟨w.heap.size, 0, none⟩)) ∧ TR w' w.heap.size 0 ⟨0, fun _ => 0, fun _ => 0, 0, 0⟩ ∧ Tch [] w w' := by
  go_enter Try.func13, Try.ntmps13
  go_wp2
  go_ret
  refine ⟨rfl, ⟨?_, by simp, by simp, by simp⟩, (Tch.refl _ _).new _⟩
  refine Blk.ext (Blk.made (w := w) 50 #[.slice none 0 0, .int .i64 0, .int .i64 0] (fun j => match j with | 0 => .slice none 0 0 | 1 => .int .i64 0 | _ => .int .i64 0) (fun k hk => match k, hk with | 0, _ => rfl | 1, _ => rfl | 2, _ => rfl)) (fun j hj => ?_)
  match j, hj with
  | 0, _ => rfl
  | 1, _ => rfl
  | 2, _ => rfl
end Go.Proofs.Ytgnjjomfffmcaaa
