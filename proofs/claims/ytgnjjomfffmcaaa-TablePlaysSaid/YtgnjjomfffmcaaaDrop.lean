/- The walk of Drop over a table in memory. No condition of its own. -/
import Derived.Test.YtgnjjomfffmcaaaGet
namespace Go.Proofs.Ytgnjjomfffmcaaa
open Go.RowKit

set_option maxHeartbeats 400000 in
theorem drop_walk (w : World) (T C n q live : Nat) (id x : Int) (hTl : T < w.heap.size) (hne : T ≠ C) (c0 : w.cell? ⟨T, 0, none⟩ = some (.slice (some ⟨C, 0, none⟩) n n)) (c1 : w.cell? ⟨T, 1, none⟩ = some (.int .i64 live))
    (cc : w.cell? ⟨C, q * 2, none⟩ = some (.int .i64 x)) (ft : ∀ o, w.frozen? ⟨T, o, none⟩ = false) (fc : ∀ o, w.frozen? ⟨C, o, none⟩ = false) (hq : q < n) (hn : n ≤ 100000000) (hl : 0 < live) (hl2 : live ≤ 100000000)
    (HF : Calls Try.prog 21 #[.pointer (some ⟨T, 0, none⟩), .int .i64 id] w fun e w' => e = .returned (.tuple #[.int .i64 (q : Nat), .bool true]) ∧ w = w') :
    Calls Try.prog 10 #[.pointer (some ⟨T, 0, none⟩), .int .i64 id] w fun e w' => e = .returned (.bool true) ∧ w' = (w.setCell ⟨C, q * 2, none⟩ (.int .i64 (-2))).setCell ⟨T, 1, none⟩ (.int .i64 ((live : Int) - 1)) := by
  have HF := Lib.hid HF
  have hne' : C ≠ T := fun e => hne e.symm
  go_enter Try.func10, Try.ntmps10
  go_wp2_with (go_at_call 21; refine HF.out.mono ?_; rintro e w1 ⟨rfl, rfl⟩)
  go_ret
  exact ⟨rfl, rfl⟩
set_option maxHeartbeats 400000 in
theorem drop_walk_no (w : World) (T : Nat) (i id : Int)
    (HF : Calls Try.prog 21 #[.pointer (some ⟨T, 0, none⟩), .int .i64 id] w fun e w' => e = .returned (.tuple #[.int .i64 i, .bool false]) ∧ w = w') :
    Calls Try.prog 10 #[.pointer (some ⟨T, 0, none⟩), .int .i64 id] w fun e w' => e = .returned (.bool false) ∧ w = w' := by
  have HF := Lib.hid HF
  go_enter Try.func10, Try.ntmps10
  go_wp2_with (go_at_call 21; refine HF.out.mono ?_; rintro e w1 ⟨rfl, rfl⟩)
  go_ret
  exact ⟨rfl, rfl⟩

/-- Drop: it tells whether the id was there; behind it it isn't. -/
theorem drop_any (w : World) (T C : Nat) (s : TS) (L : List (Nat × Int)) (h : TR w T C s) (hI : TI s L) (id : Int) (hid : id ≤ 9223372036854775807) :
    Calls Try.prog 10 #[.pointer (some ⟨T, 0, none⟩), .int .i64 id] w fun e w' => e = .returned (.bool (look L id).2) ∧ Tch [T, C] w w' ∧ ∃ s', TR w' T C s' ∧ TI s' (without L id) := by
  have hTl := h.t.lt
  have no : (∀ p ∈ L, (p.1 : Int) ≠ id) → ∀ i, (Calls Try.prog 21 #[.pointer (some ⟨T, 0, none⟩), .int .i64 id] w fun e w' => e = .returned (.tuple #[.int .i64 i, .bool false]) ∧ w = w') →
      Calls Try.prog 10 #[.pointer (some ⟨T, 0, none⟩), .int .i64 id] w fun e w' => e = .returned (.bool (look L id).2) ∧ Tch [T, C] w w' ∧ ∃ s', TR w' T C s' ∧ TI s' (without L id) := by
    intro hno i HF
    rw [look_no id hno, without_no id hno]
    refine (drop_walk_no w T i id HF).mono ?_
    rintro e w' ⟨rfl, rfl⟩
    exact ⟨rfl, Tch.refl _ _, s, h, hI⟩
  by_cases hz : s.n = 0 ∨ id < 0
  · refine no (fun p hp e => ?_) 0 (find_none w T C s h id hz)
    rcases hz with g | g
    · rw [hI.zero g] at hp; cases hp
    · omega
  · have hn : 0 < s.n := by omega
    obtain ⟨m, rfl⟩ := Int.eq_ofNat_of_zero_le (show 0 ≤ id by omega)
    obtain ⟨D, hE, hf⟩ := hI.find hn m
    have HF := find_pos w T C s h m D (by omega) hE
    have hpl := pos_lt s m D hn
    rcases hf with ⟨p, hp, e1, e2, e3⟩ | ⟨hno, e2⟩
    · have HL : look L m = (p.2, true) := by rw [← e1]; exact look_yes hI.rising p hp
      rw [HL]
      have e4 : (s.ids (pos s m D) == (m : Int)) = true := beq_iff_eq.2 e2
      rw [e4] at HF
      have hlive : 0 < s.live := by rw [hI.live]; exact List.length_pos_of_mem hp
      have hcnt := cntT_le s s.n
      have hlu : s.live ≤ 100000000 := by
        have h1 := hI.live
        have h2 := h.small
        have h3 := got_len (hI.core hn) hn hI.rising
        have h4 : (got s s.n).length ≤ s.n := by
          unfold got
          have := List.length_filterMap_le (fun i => if 0 ≤ s.ids i then some ((s.ids i).toNat, s.ats i) else none) (List.range s.n)
          simpa using this
        omega
      refine (drop_walk w T C s.n (pos s m D) s.live m _ hTl (h.ne hn) (h.s0 hn) (h.t.cell 1 (by omega)) (h.id _ hpl) h.t.frozen (h.c hn).frozen hpl h.small hlive hlu HF).mono ?_
      rintro e w' ⟨rfl, rfl⟩
      subst e1
      refine ⟨rfl, (((Tch.refl _ _).set (by simp) _).set (by simp) _), _, ?_, hI.drop hn p hp D hE e2 (s.ats (pos s p.1 D))⟩
      have hh := (h.id_set _ hpl (-2)).live_set (s.live - 1)
      have ez : (((s.live - 1 : Nat) : Int)) = (s.live : Int) - 1 := by omega
      rw [ez] at hh
      have es : ({ (s.setId (pos s p.1 D) (-2)) with live := s.live - 1 } : TS) = s.put (pos s p.1 D) (-2) (s.ats (pos s p.1 D)) (s.live - 1) s.used := by
        unfold TS.setId TS.put
        have ea : s.ats = fun j => if j = pos s p.1 D then s.ats (pos s p.1 D) else s.ats j := by
          funext j
          by_cases e : j = pos s p.1 D
          · simp [e]
          · simp [e]
        simp only [← ea]
      rw [es] at hh
      exact hh
    · have e4 : (s.ids (pos s m D) == (m : Int)) = false := by
        rw [e2]
        exact beq_eq_false_iff_ne.2 (by omega)
      rw [e4] at HF
      exact no (fun p hp e => hno p hp (by omega)) _ HF
end Go.Proofs.Ytgnjjomfffmcaaa
