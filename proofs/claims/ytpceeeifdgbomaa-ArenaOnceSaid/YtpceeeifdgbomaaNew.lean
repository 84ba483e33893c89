/- The walk of New over the program's arena: so many slots, none of which went; nil where they can't be. -/
import Derived.Test.YtpceeeifdgbomaaTake
namespace Go.Proofs.Ytpceeeifdgbomaa
open Go.RowKit

def St.new (n : Nat) : St := { n := n, gen := fun _ => 0, free := [], used := 0 }
theorem info3 : (Try.prog.info? 3).map (fun i => (i.zero, i.size, i.bytes)) = some (some (.int .i64 0), 1, 8) := by kernel_rfl
theorem make_ints (n : Nat) (hn : n ≤ 2000000) (w : World) :
    (Instr.makeSlice 41 (.int .i64 (n : Int)) (.int .i64 (n : Int))).run Try.prog w = .ok (.slice (some ⟨w.heap.size, 0, none⟩) n n) (w.alloc (.cells (Array.replicate n (.int .i64 0)) 3)) := by
  obtain ⟨i0, hi, hz0, hz1, hz2⟩ := info_parts info3
  rw [run_make_at 41 3 i0 _ Try.underlying41 hi hz0 n (by rw [hz2]; omega) (by omega) w, hz1]
  rw [← made_one, Nat.mul_one]
  rfl

def NewPost (n : Nat) (w : World) (e : Ending) (w' : World) : Prop :=
  ∃ A G X nx, w.heap.size ≤ A ∧ w.heap.size ≤ G ∧ w.heap.size ≤ X ∧ e = .returned (.pointer (some ⟨A, 0, none⟩)) ∧ AR w' A G X (-1) nx (St.new n) ∧ Tch [] w w'

theorem zeros_get (n k : Nat) (v : Value) (h : k < n) : (Array.replicate n v)[k]? = some v := by simp [h]
theorem new_close (n : Nat) (hn : n ≤ 1048576) (w : World) (G X : Nat) (h : (G = w.heap.size ∧ X = w.heap.size + 1) ∨ (G = w.heap.size + 1 ∧ X = w.heap.size)) :
    NewPost n w (.returned (.pointer (some ⟨w.heap.size + 1 + 1, 0, none⟩))) (((w.alloc (.cells (Array.replicate n (.int .i64 0)) 3)).alloc (.cells (Array.replicate n (.int .i64 0)) 3)).alloc
      (.cells #[.slice (some ⟨G, 0, none⟩) n n, .slice (some ⟨X, 0, none⟩) n n, .int .i64 (-1), .int .i64 0, .int .i64 0] 44)).drew := by
  have b0 : Blk (w.alloc (.cells (Array.replicate n (.int .i64 0)) 3)) w.heap.size 3 n (fun _ => .int .i64 0) := by
    have := Blk.made (w := w) 3 (Array.replicate n (.int .i64 0)) (fun _ => .int .i64 0) (fun k hk => by simp at hk; simp [hk])
    simpa using this
  have b1 : Blk ((w.alloc (.cells (Array.replicate n (.int .i64 0)) 3)).alloc (.cells (Array.replicate n (.int .i64 0)) 3)) (w.heap.size + 1) 3 n (fun _ => .int .i64 0) := by
    have := Blk.made (w := w.alloc (.cells (Array.replicate n (.int .i64 0)) 3)) 3 (Array.replicate n (.int .i64 0)) (fun _ => .int .i64 0) (fun k hk => by simp at hk; simp [hk])
    simpa using this
  have b2 := Blk.made (w := (w.alloc (.cells (Array.replicate n (.int .i64 0)) 3)).alloc (.cells (Array.replicate n (.int .i64 0)) 3)) 44
    #[.slice (some ⟨G, 0, none⟩) n n, .slice (some ⟨X, 0, none⟩) n n, .int .i64 (-1), .int .i64 0, .int .i64 0]
    (fun j => match j with | 0 => .slice (some ⟨G, 0, none⟩) n n | 1 => .slice (some ⟨X, 0, none⟩) n n | 2 => .int .i64 (-1) | 3 => .int .i64 0 | _ => .int .i64 0)
    (fun k hk => match k, hk with | 0, _ => rfl | 1, _ => rfl | 2, _ => rfl | 3, _ => rfl | 4, _ => rfl)
  have hsz : ((w.alloc (.cells (Array.replicate n (.int .i64 0)) 3)).alloc (.cells (Array.replicate n (.int .i64 0)) 3)).heap.size = w.heap.size + 1 + 1 := by rw [size_new, size_new]
  rw [hsz] at b2
  have hg : ∀ b, (b = w.heap.size ∨ b = w.heap.size + 1) → Blk ((w.alloc (.cells (Array.replicate n (.int .i64 0)) 3)).alloc (.cells (Array.replicate n (.int .i64 0)) 3)) b 3 n (fun _ => .int .i64 0) := by
    intro b hb
    rcases hb with rfl | rfl
    · exact b0.new _
    · exact b1
  refine ⟨w.heap.size + 1 + 1, G, X, fun _ => 0, by omega, by omega, by omega, rfl, ⟨⟨List.nodup_nil, (fun k hk => (by cases hk)), Nat.zero_le _, (by show n ≤ 2000000; omega), fun _ => Nat.zero_le _⟩, ?_, ?_, ?_, (by omega), (by omega), (by omega), rfl, (fun k hk => (by cases hk))⟩, ?_⟩
  · refine Blk.ext b2 (fun j hj => ?_)
    match j, hj with
    | 0, _ => rfl
    | 1, _ => rfl
    | 2, _ => rfl
    | 3, _ => rfl
    | 4, _ => rfl
  · exact (hg G (by omega)).new _
  · exact (hg X (by omega)).new _
  · exact Tch.drew ((((Tch.refl _ _).new _).new _).new _)

set_option maxHeartbeats 400000 in
theorem new_yes (n : Nat) (hn : n ≤ 1048576) (w : World) : Calls Try.prog 7 #[.int .i64 n] w (NewPost n w) := by
  have hmk := make_ints n (by omega)
  go_enter Try.func7, Try.ntmps7
  go_wp2
  go_region
  all_goals
    go_wp2
    go_ret
    exact new_close n hn w _ _ (by omega)
theorem new_no (n : Int) (h : n < 0 ∨ 1048576 < n) (w : World) : Calls Try.prog 7 #[.int .i64 n] w fun e w' => e = .returned (.pointer none) ∧ w = w' := by
  rcases h with h | h
  · go_enter Try.func7, Try.ntmps7
    go_wp2
    go_ret
    exact ⟨rfl, rfl⟩
  · have h' : ¬ n < 0 := by omega
    go_enter Try.func7, Try.ntmps7
    go_wp2
    go_ret
    exact ⟨rfl, rfl⟩
end Go.Proofs.Ytpceeeifdgbomaa
