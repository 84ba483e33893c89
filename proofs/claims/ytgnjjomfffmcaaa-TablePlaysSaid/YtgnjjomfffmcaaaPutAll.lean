/- grow and Put over a table in memory. No condition of its own. -/
import Derived.Test.YtgnjjomfffmcaaaGrow3
namespace Go.Proofs.Ytgnjjomfffmcaaa
open Go.RowKit

/-- Room for one more. -/
def Roomy (w : World) (T C : Nat) (s : TS) (L : List (Nat × Int)) (w' : World) : Prop :=
  ∃ C' s', TR w' T C' s' ∧ TI s' L ∧ 2 * (s'.used + 1) ≤ s'.n ∧ s'.live = s.live ∧ Tch [T] w w' ∧ (C' = C ∨ w.heap.size ≤ C')

theorem TI.vals {s : TS} {L : List (Nat × Int)} (h : TI s L) (i : Nat) (hi : i < s.n) : s.ids i ≤ 2147483647 ∧ -2 ≤ s.ids i := by
  rcases (h.core (by omega)).vals i hi with g | g | ⟨p, g, g1, _⟩
  · omega
  · omega
  · have := h.few p g
    omega
theorem Grown.roomy {w w' : World} {T C N : Nat} {s : TS} {L : List (Nat × Int)} (hI : TI s L) (h : Grown w T N s w') : Roomy w T C s L w' := by
  obtain ⟨C', h1, h2, h3, s', g1, g2, g3, g4, g5, g6, g7⟩ := h
  subst g1
  have hgL : ∀ p, p ∈ got s s.n ↔ p ∈ L := by
    intro p
    by_cases hn : 0 < s.n
    · exact got_all (hI.core hn) p hn hI.rising
    · have e : s.n = 0 := by omega
      rw [hI.zero e, e]
      simp [got]
  have hlen : (got s s.n).length = L.length := by
    by_cases hn : 0 < s.n
    · exact got_len (hI.core hn) hn hI.rising
    · have e : s.n = 0 := by omega
      rw [hI.zero e, e]
      simp [got]
  have hlive := hI.live
  refine ⟨C', s', g6, ⟨fun _ => g4.congr hgL, fun e => ?_, by rw [g2]; exact hlive, by rw [g3, g5, hlen]; exact hlive, by rw [g3]; omega, hI.rising, hI.few⟩, by rw [g3]; omega, g2, g7, .inr h1⟩
  omega
theorem grow_any (w : World) (T C : Nat) (s : TS) (L : List (Nat × Int)) (h : TR w T C s) (hI : TI s L) (hl : s.live ≤ 1048576) :
    Calls Try.prog 22 #[.pointer (some ⟨T, 0, none⟩)] w fun e w' => e = .returned (.tuple #[]) ∧ Roomy w T C s L w' := by
  have hhalf := hI.half
  have hsm := h.small
  by_cases hu : 2 * (s.used + 1) ≤ s.n
  · refine (grow_skip w T C s.n s.used h.t.lt (h.s0 (by omega)) (h.t.cell 2 (by omega)) h.small hu).mono ?_
    rintro e w' ⟨rfl, t⟩
    exact ⟨rfl, C, s, h.tch t (by simp) (by simp), hI, hu, rfl, t.mono (by simp), .inl rfl⟩
  · refine (grow_do w T C s L h hI.core hI.rising hI.live hI.vals (by omega) (by omega) hl).mono ?_
    rintro e w' ⟨rfl, N, hg⟩
    exact ⟨rfl, hg.roomy hI⟩

theorem TI.put {s : TS} {L : List (Nat × Int)} (h : TI s L) (id : Nat) (v : Int) (D : Nat) (hE : Ends s id D) (hf : s.ids (pos s id D) = -1) (hno : ∀ p ∈ L, p.1 ≠ id) (hid : id ≤ 2147483647) (hroom : 2 * (s.used + 1) ≤ s.n) :
    TI (s.put (pos s id D) id v (s.live + 1) (s.used + 1)) (ins (id, v) L) := by
  have hn : 0 < s.n := by omega
  refine ⟨fun _ => ((h.core hn).put id v D hE hf hno _ _).congr (fun p => ?_), fun e => absurd e (Nat.ne_of_gt hn), ?_, ?_, hroom, rising_ins _ _ h.rising hno, fun p hp => ?_⟩
  · rw [mem_ins]; simp
  · rw [len_ins]; show s.live + 1 = _; rw [h.live]
  · show s.used + 1 = cntT (s.put (pos s id D) id v (s.live + 1) (s.used + 1)) s.n
    rw [cntT_put s _ _ _ _ _ hf (by omega), if_pos (pos_lt s id D hn), h.used]
  · rcases (mem_ins _ p L).1 hp with e | e
    · rw [e]; exact hid
    · exact h.few p e
end Go.Proofs.Ytgnjjomfffmcaaa
