/- The walk of Take over the program's arena: the slot that came back last, else the next one, else none; the slots' counts are bounded. -/
import Derived.Test.YtpceeeifdgbomaaGive
namespace Go.Proofs.Ytpceeeifdgbomaa
open Go.RowKit

def bump (g : Nat → Nat) (k : Nat) : Nat → Nat := fun j => if j = k then g j + 1 else g j
def St.took (s : St) (k : Nat) (fs : List Nat) : St := { s with free := fs, gen := bump s.gen k }
def St.next (s : St) : St := { s with used := s.used + 1, gen := bump s.gen s.used }

theorem handle_ret (a b : Int) (t : Bool) : Value.tuple #[.agg #[.int .i64 a, .int .i64 b], .bool t] = Value.tuple #[.agg #[.int .i64 a, .int .i64 b], .bool t] := rfl

set_option maxHeartbeats 400000 in
theorem take_none (w : World) (A G X : Nat) (top : Int) (nx : Nat → Int) (s : St) (h : AR w A G X top nx s) (hf : s.free = []) (hu : s.used = s.n) :
    Calls Try.prog 9 #[.pointer (some ⟨A, 0, none⟩)] w fun e w' => e = .returned (.tuple #[.agg #[.int .i64 0, .int .i64 0], .bool false]) ∧ Tch [] w w' := by
  have hA := h.a.lt
  have htop : top = -1 := by have := h.ch; rw [hf] at this; exact this
  subst htop
  have c0 : w.cell? ⟨A, 0, none⟩ = some (.slice (some ⟨G, 0, none⟩) s.n s.n) := h.a.cell 0 (by omega)
  have c2 : w.cell? ⟨A, 2, none⟩ = some (.int .i64 (-1)) := h.a.cell 2 (by omega)
  have c3 : w.cell? ⟨A, 3, none⟩ = some (.int .i64 s.n) := by rw [← hu]; exact h.a.cell 3 (by omega)
  clear h hf hu
  go_enter Try.func9, Try.ntmps9
  go_wp2
  go_quiet (fail)
  go_wp2
  exact bodyPost_ret (v := .tuple #[.agg #[.int .i64 0, .int .i64 0], .bool false]) (by simp [results, Try.results9, go_sem]) rfl ⟨rfl, ((((Tch.refl _ _).new _).drewN _).setNew (Nat.le_refl _) _).setNew (Nat.le_refl _) _⟩

set_option maxHeartbeats 400000 in
theorem take_top (w : World) (A G X : Nat) (top : Int) (nx : Nat → Int) (s : St) (h : AR w A G X top nx s) (k : Nat) (fs : List Nat) (hf : s.free = k :: fs) (hg : s.gen k < 1000000) :
    Calls Try.prog 9 #[.pointer (some ⟨A, 0, none⟩)] w fun e w' => e = .returned (.tuple #[.agg #[.int .i64 k, .int .i64 (s.gen k + 1 : Nat)], .bool true]) ∧ Tch [A, G, X] w w' ∧ ∃ top' nx', AR w' A G X top' nx' (s.took k fs) := by
  have hA := h.a.lt
  have hG := h.g.lt
  have hX := h.x.lt
  have htop : top = k := by have := h.ch; rw [hf] at this; exact this.1
  subst htop
  have hku : k < s.used := h.ok.lt k (by simp [hf])
  have hle := h.ok.le
  have hsm := h.ok.small
  have hfl := free_len s h.ok
  have ne1 := h.ne1
  have ne2 := h.ne2
  have ne3 := h.ne3
  have ne1' : G ≠ A := fun e => ne1 e.symm
  have ne2' : X ≠ A := fun e => ne2 e.symm
  have ne3' : X ≠ G := fun e => ne3 e.symm
  obtain ⟨z, hzz⟩ : ∃ z, z = ((s.used : Int) - s.free.length) := ⟨_, rfl⟩
  have z1 : 0 ≤ z := by omega
  have z2 : z ≤ 2000000 := by omega
  have c0 : w.cell? ⟨A, 0, none⟩ = some (.slice (some ⟨G, 0, none⟩) s.n s.n) := h.a.cell 0 (by omega)
  have c1 : w.cell? ⟨A, 1, none⟩ = some (.slice (some ⟨X, 0, none⟩) s.n s.n) := h.a.cell 1 (by omega)
  have c2 : w.cell? ⟨A, 2, none⟩ = some (.int .i64 k) := h.a.cell 2 (by omega)
  have c4 : w.cell? ⟨A, 4, none⟩ = some (.int .i64 z) := by rw [hzz]; exact h.a.cell 4 (by omega)
  have cx : w.cell? ⟨X, k, none⟩ = some (.int .i64 (nx k)) := h.x.cell k (by omega)
  have cg : w.cell? ⟨G, k, none⟩ = some (.int .i64 (s.gen k)) := h.g.cell k (by omega)
  have fa := h.a.frozen
  have fx := h.x.frozen
  have fg := h.g.frozen
  have HH := Lib.hid h
  have HZ := Lib.hid hzz
  have HF := Lib.hid hf
  clear h hzz hf
  go_enter Try.func9, Try.ntmps9
  go_wp2
  refine bodyPost_ret (v := .tuple #[.agg #[.int .i64 k, .int .i64 (s.gen k + 1)], .bool true]) (by simp [results, Try.results9, go_sem]) rfl ⟨?_, ?_, nx k, (fun j => if j = k then -2 else nx j), ?_⟩
  · rw [Int.natCast_add]; rfl
  · exact Tch.new (Tch.set (Tch.set (Tch.set (Tch.set (Tch.refl _ _) (by simp) _) (by simp) _) (by simp) _) (by simp) _) _
  · have hok := HH.out.ok
    have hF := HF.out
    have hnd := hok.nodup
    rw [hF] at hnd
    obtain ⟨hk1, hk2⟩ := List.nodup_cons.1 hnd
    refine ⟨⟨hk2, fun j hj => hok.lt j (by rw [hF]; exact List.mem_cons_of_mem _ hj), hok.le, hok.small, ?_⟩, ?_, ?_, ?_, ne1, ne2, ne3, ?_, ?_⟩
    · intro j
      show bump s.gen k j ≤ _
      unfold bump
      have := hok.few j
      by_cases e : j = k
      · subst e; simp only [if_true]; omega
      · simp only [if_neg e]; omega
    · refine (((((HH.out.a.set 2 _).setNe k _ ne2).setNe k _ ne1).set 4 _).new _).ext (fun j hj => ?_)
      have hz := HZ.out
      match j, hj with
      | 0, _ => rfl
      | 1, _ => rfl
      | 2, _ => rfl
      | 3, _ => rfl
      | 4, _ =>
        show Value.int .i64 (z + 1) = Value.int .i64 ((s.used : Int) - (fs.length : Nat))
        rw [hz, hF, List.length_cons]; congr 1; omega
    · refine (((((HH.out.g.setNe 2 _ ne1').setNe k _ ne3).set k _).setNe 4 _ ne1').new _).ext (fun j hj => ?_)
      show _ = Value.int .i64 (bump s.gen k j : Nat)
      unfold bump
      by_cases e : j = k
      · subst e; simp
      · simp [e]
    · refine (((((HH.out.x.setNe 2 _ ne2').set k _).setNe k _ ne3').setNe 4 _ ne2').new _).ext (fun j hj => ?_)
      by_cases e : j = k
      · simp [e]
      · simp [e]
    · have hc := HH.out.ch
      rw [hF] at hc
      exact chain_upd nx k (-2) _ _ hk1 hc.2
    · intro j hj hn
      by_cases e : j = k
      · simp only [if_pos e]
      · simp only [if_neg e]
        exact HH.out.busy j hj (by rw [hF]; simp; exact ⟨e, hn⟩)

set_option maxHeartbeats 400000 in
theorem take_next (w : World) (A G X : Nat) (top : Int) (nx : Nat → Int) (s : St) (h : AR w A G X top nx s) (hf : s.free = []) (hu : s.used < s.n) (hg : s.gen s.used < 1000000) :
    Calls Try.prog 9 #[.pointer (some ⟨A, 0, none⟩)] w fun e w' => e = .returned (.tuple #[.agg #[.int .i64 s.used, .int .i64 (s.gen s.used + 1 : Nat)], .bool true]) ∧ Tch [A, G, X] w w' ∧ ∃ top' nx', AR w' A G X top' nx' s.next := by
  have hA := h.a.lt
  have hG := h.g.lt
  have hX := h.x.lt
  have htop : top = -1 := by have := h.ch; rw [hf] at this; exact this
  subst htop
  have hle := h.ok.le
  have hsm := h.ok.small
  have ne1 := h.ne1
  have ne2 := h.ne2
  have ne3 := h.ne3
  have ne1' : G ≠ A := fun e => ne1 e.symm
  have ne2' : X ≠ A := fun e => ne2 e.symm
  have ne3' : X ≠ G := fun e => ne3 e.symm
  obtain ⟨u, hu'⟩ : ∃ u, u = s.used := ⟨_, rfl⟩
  have c0 : w.cell? ⟨A, 0, none⟩ = some (.slice (some ⟨G, 0, none⟩) s.n s.n) := h.a.cell 0 (by omega)
  have c1 : w.cell? ⟨A, 1, none⟩ = some (.slice (some ⟨X, 0, none⟩) s.n s.n) := h.a.cell 1 (by omega)
  have c2 : w.cell? ⟨A, 2, none⟩ = some (.int .i64 (-1)) := h.a.cell 2 (by omega)
  have c3 : w.cell? ⟨A, 3, none⟩ = some (.int .i64 u) := by rw [hu']; exact h.a.cell 3 (by omega)
  have c4 : w.cell? ⟨A, 4, none⟩ = some (.int .i64 u) := by rw [hu']; have := h.a.cell 4 (by omega); simpa [hf] using this
  have cx : w.cell? ⟨X, u, none⟩ = some (.int .i64 (nx u)) := by rw [hu']; exact h.x.cell _ (by omega)
  have cg : w.cell? ⟨G, u, none⟩ = some (.int .i64 (s.gen u)) := by rw [hu']; exact h.g.cell _ (by omega)
  have fa := h.a.frozen
  have fx := h.x.frozen
  have fg := h.g.frozen
  rw [← hu'] at hu hg ⊢
  have HU := Lib.hid hu'
  have HH := Lib.hid h
  have HF := Lib.hid hf
  clear h hf hu' hle
  go_enter Try.func9, Try.ntmps9
  go_wp2
  go_quiet (fail)
  go_wp2
  refine bodyPost_ret (v := .tuple #[.agg #[.int .i64 u, .int .i64 (s.gen u + 1)], .bool true]) (by simp [results, Try.results9, go_sem]) rfl ⟨?_, ?_, -1, (fun j => if j = u then -2 else nx j), ?_⟩
  · rw [Int.natCast_add]; rfl
  · exact Tch.setNew (Tch.setNew (Tch.set (Tch.set (Tch.set (Tch.set (((Tch.refl _ _).new _).drewN _) (by simp) _) (by simp) _) (by simp) _) (by simp) _) (Nat.le_refl _) _) (Nat.le_refl _) _
  · have hok := HH.out.ok
    have hF := HF.out
    have hU := HU.out
    have na : A ≠ w.heap.size := by omega
    have ng : G ≠ w.heap.size := by omega
    have nx' : X ≠ w.heap.size := by omega
    refine ⟨⟨hok.nodup, fun j hj => Nat.lt_succ_of_lt (hok.lt j hj), by show s.used + 1 ≤ s.n; omega, hok.small, ?_⟩, ?_, ?_, ?_, ne1, ne2, ne3, ?_, ?_⟩
    · intro j
      show bump s.gen s.used j ≤ _
      unfold bump
      have := hok.few j
      rw [← hU]
      by_cases e : j = u
      · subst e; simp only [if_true]; omega
      · simp only [if_neg e]; omega
    · refine ((((((((HH.out.a.new _).drewN _).set 3 _).setNe u _ ne2).setNe u _ ne1).set 4 _).setNe 0 _ na).setNe 1 _ na).ext (fun j hj => ?_)
      match j, hj with
      | 0, _ => rfl
      | 1, _ => rfl
      | 2, _ => rfl
      | 3, _ =>
        show Value.int .i64 ((u : Int) + 1) = Value.int .i64 ((s.used + 1 : Nat) : Int)
        rw [hU]; rfl
      | 4, _ =>
        show Value.int .i64 ((u : Int) + 1) = Value.int .i64 (((s.used + 1 : Nat) : Int) - (s.free.length : Nat))
        rw [hU, hF]; rfl
    · refine ((((((((HH.out.g.new _).drewN _).setNe 3 _ ne1').setNe u _ ne3).set u _).setNe 4 _ ne1').setNe 0 _ ng).setNe 1 _ ng).ext (fun j hj => ?_)
      show _ = Value.int .i64 (bump s.gen s.used j : Nat)
      unfold bump
      rw [← hU]
      by_cases e : j = u
      · subst e; simp
      · simp [e]
    · refine ((((((((HH.out.x.new _).drewN _).setNe 3 _ ne2').set u _).setNe u _ ne3').setNe 4 _ ne2').setNe 0 _ nx').setNe 1 _ nx').ext (fun j hj => ?_)
      by_cases e : j = u
      · simp [e]
      · simp [e]
    · show chain _ (-1) s.free
      rw [hF]; rfl
    · intro j hj hn
      by_cases e : j = u
      · simp only [if_pos e]
      · simp only [if_neg e]
        have : j < s.used + 1 := hj
        exact HH.out.busy j (by omega) hn

theorem take_nil (w : World) :
    Calls Try.prog 9 #[.pointer none] w fun e w' => e = .returned (.tuple #[.agg #[.int .i64 0, .int .i64 0], .bool false]) ∧ Tch [] w w' := by
  go_enter Try.func9, Try.ntmps9
  go_wp2
  exact bodyPost_ret (v := .tuple #[.agg #[.int .i64 0, .int .i64 0], .bool false]) (by simp [results, Try.results9, go_sem]) rfl ⟨rfl, (Tch.refl _ _).new _⟩
end Go.Proofs.Ytpceeeifdgbomaa
