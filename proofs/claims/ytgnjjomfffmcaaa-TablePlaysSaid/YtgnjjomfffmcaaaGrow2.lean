/- What holds while grow puts the old cells into the new ones. No condition of its own. -/
import Derived.Test.YtgnjjomfffmcaaaGrow
namespace Go.Proofs.Ytgnjjomfffmcaaa
open Go.RowKit

/-- So many old cells are in. -/
def GR (w0 : World) (T C' N : Nat) (s : TS) (wq : World) (q : Nat) : Prop :=
  ∃ s', s'.n = N ∧ s'.live = s.live ∧ s'.used = s.live ∧ Core s' (got s q) ∧ cntT s' N = (got s q).length ∧ TR wq T C' s' ∧ Tch [T] w0 wq
theorem GR.skip {w0 : World} {T C' N : Nat} {s : TS} {wq w' : World} {q : Nat} (h : GR w0 T C' N s wq q) (hq : ¬ 0 ≤ s.ids q) (t : Tch [] wq w') : GR w0 T C' N s w' (q + 1) := by
  obtain ⟨s', h1, h2, h3, h4, h5, h6, h7⟩ := h
  have e : got s (q + 1) = got s q := by rw [got_succ, if_neg hq, List.append_nil]
  refine ⟨s', h1, h2, h3, by rw [e]; exact h4, by rw [e]; exact h5, h6.tch t (by simp) (by simp), h7.trans (t.mono (by simp))⟩
theorem GR.tch {w0 : World} {T C' N : Nat} {s : TS} {wq w' : World} {q : Nat} (h : GR w0 T C' N s wq q) (t : Tch [] wq w') : GR w0 T C' N s w' q := by
  obtain ⟨s', h1, h2, h3, h4, h5, h6, h7⟩ := h
  exact ⟨s', h1, h2, h3, h4, h5, h6.tch t (by simp) (by simp), h7.trans (t.mono (by simp))⟩
/-- One more goes in. -/
theorem GR.put {w0 : World} {T C' N : Nat} {s : TS} {L : List (Nat × Int)} {wq : World} {q : Nat} (h : GR w0 T C' N s wq q) (hC : Core s L) (hr : Rising L) (hq : q < s.n) (h0 : 0 ≤ s.ids q) (hN : L.length < N) (hw0 : w0.heap.size ≤ C') (hb : s.ids q ≤ 2147483647) :
    ∃ i, i < N ∧ N ≤ 100000000 ∧ T < wq.heap.size ∧ T ≠ C' ∧ wq.cell? ⟨T, 0, none⟩ = some (.slice (some ⟨C', 0, none⟩) N N) ∧ (∃ x, wq.cell? ⟨C', i * 2, none⟩ = some x) ∧ (∃ x, wq.cell? ⟨C', i * 2 + 1, none⟩ = some x) ∧
      (∀ o, wq.frozen? ⟨C', o, none⟩ = false) ∧ (∀ w', Tch [] wq w' → Calls Try.prog 21 #[.pointer (some ⟨T, 0, none⟩), .int .i64 (s.ids q)] w' fun e w'' => e = .returned (.tuple #[.int .i64 (i : Nat), .bool false]) ∧ w' = w'') ∧
      (∀ w', Tch [] wq w' → GR w0 T C' N s ((w'.setCell ⟨C', i * 2, none⟩ (.int .i64 (s.ids q))).setCell ⟨C', i * 2 + 1, none⟩ (.int .i64 (s.ats q))) (q + 1)) := by
  obtain ⟨s', h1, h2, h3, h4, h5, h6, h7⟩ := h
  subst h1
  have hn : 0 < s'.n := by omega
  have hlen : (got s q).length ≤ L.length := by rw [← got_len hC (by omega) hr]; exact got_len_le s q s.n (by omega)
  obtain ⟨m, hm⟩ := Int.eq_ofNat_of_zero_le h0
  obtain ⟨D, hE⟩ := ends s' m (by omega)
  have hno : ∀ p ∈ got s q, p.1 ≠ m := fun p hp => by have := got_new hC q hq h0 p hp; omega
  have hpl := pos_lt s' m D hn
  have hf : s'.ids (pos s' m D) = -1 := by
    rcases h4.vals _ hpl with g | g | ⟨p, g, g1, _⟩
    · exact g
    · rcases hE.there with t | t
      · have t' : s'.ids (pos s' m D) = m := t
        omega
      · exact t
    · rcases hE.there with t | t
      · have t' : s'.ids (pos s' m D) = m := t
        exact absurd (by omega) (hno p g)
      · exact t
  have hids : (s'.ids (pos s' m D) == (m : Int)) = false := by rw [hf]; exact beq_eq_false_iff_ne.2 (by omega)
  refine ⟨pos s' m D, hpl, h6.small, h6.t.lt, h6.ne hn, h6.s0 hn, ⟨_, h6.id _ hpl⟩, ⟨_, h6.at _ hpl⟩, (h6.c hn).frozen, fun w' t => ?_, fun w' t => ?_⟩
  · have := find_pos w' T C' s' (h6.tch t (by simp) (by simp)) m D (by omega) hE
    rw [hids] at this
    rw [hm]
    exact this
  · have h6' := h6.tch t (by simp) (by simp)
    have hput := h4.put m (s.ats q) D hE hf hno s.live s.live
    refine ⟨s'.put (pos s' m D) m (s.ats q) s.live s.live, rfl, rfl, rfl, ?_, ?_, ?_, ?_⟩
    · refine hput.congr (fun p => ?_)
      rw [got_succ, if_pos h0, hm]
      simp
      exact or_comm
    · rw [cntT_put s' _ _ _ _ _ hf (by omega), if_pos hpl, h5, got_succ, if_pos h0]
      simp
    · have hh := (h6'.id_set _ hpl (m : Int)).at_set (pos s' m D) hpl (s.ats q)
      rw [hm]
      have es : (s'.setId (pos s' m D) m).setAt (pos s' m D) (s.ats q) = s'.put (pos s' m D) m (s.ats q) s.live s.live := by
        unfold TS.setAt TS.setId TS.put
        rw [h2, h3]
      rw [es] at hh
      exact hh
    · exact ((h7.trans (t.mono (by simp))).setNew hw0 _).setNew hw0 _
end Go.Proofs.Ytgnjjomfffmcaaa
