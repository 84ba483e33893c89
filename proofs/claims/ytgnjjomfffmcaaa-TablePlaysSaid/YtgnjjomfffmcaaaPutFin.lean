/- Put over a table in memory. No condition of its own. -/
import Derived.Test.YtgnjjomfffmcaaaPutAll
namespace Go.Proofs.Ytgnjjomfffmcaaa
open Go.RowKit

set_option maxHeartbeats 400000 in
theorem put_bad (w : World) (T : Nat) (id v : Int) (h : id < 0 ∨ 2147483647 < id) : Calls Try.prog 9 #[.pointer (some ⟨T, 0, none⟩), .int .i64 id, .int .i64 v] w fun e w' => e = .returned (.bool false) ∧ w = w' := by
  rcases h with h | h
  · have hb : decide (id < 0) = true := decide_eq_true_iff.2 h
    go_enter Try.func9, Try.ntmps9
    go_wp2
    go_ret
    exact ⟨rfl, rfl⟩
  · have hb : decide (id < 0) = false := decide_eq_false_iff_not.2 (by omega)
    have hb2 : decide (2147483647 < id) = true := decide_eq_true_iff.2 h
    go_enter Try.func9, Try.ntmps9
    go_wp2
    go_ret
    exact ⟨rfl, rfl⟩
set_option maxHeartbeats 400000 in
theorem put_there (w : World) (T live0 : Nat) (id v i0 : Int) (hTl : T < w.heap.size) (c1 : w.cell? ⟨T, 1, none⟩ = some (.int .i64 live0)) (hl0 : live0 < 1048576) (h0 : 0 ≤ id) (h1 : id ≤ 2147483647)
    (HF : Calls Try.prog 21 #[.pointer (some ⟨T, 0, none⟩), .int .i64 id] w fun e w' => e = .returned (.tuple #[.int .i64 i0, .bool true]) ∧ w = w') :
    Calls Try.prog 9 #[.pointer (some ⟨T, 0, none⟩), .int .i64 id, .int .i64 v] w fun e w' => e = .returned (.bool false) ∧ w = w' := by
  have HF := Lib.hid HF
  go_enter Try.func9, Try.ntmps9
  go_wp2_with (go_at_call 21; refine HF.out.mono ?_; rintro e w1 ⟨rfl, rfl⟩)
  go_ret
  exact ⟨rfl, rfl⟩

/-- What Put answers, and the list behind it. -/
def puts (L : List (Nat × Int)) (id v : Int) : Bool × List (Nat × Int) :=
  if id < 0 ∨ 2147483647 < id ∨ (look L id).2 = true then (false, L) else (true, ins (id.toNat, v) L)
def PutPost (w : World) (T C : Nat) (L' : List (Nat × Int)) (w' : World) : Prop := ∃ C' s', TR w' T C' s' ∧ TI s' L' ∧ Tch [T, C] w w' ∧ (C' = C ∨ w.heap.size ≤ C')

theorem put_any (w : World) (T C : Nat) (s : TS) (L : List (Nat × Int)) (h : TR w T C s) (hI : TI s L) (id v : Int) (hfew : L.length < 1048576) :
    Calls Try.prog 9 #[.pointer (some ⟨T, 0, none⟩), .int .i64 id, .int .i64 v] w fun e w' => e = .returned (.bool (puts L id v).1) ∧ PutPost w T C (puts L id v).2 w' := by
  have same : PutPost w T C L w := ⟨C, s, h, hI, Tch.refl _ _, .inl rfl⟩
  by_cases hb : id < 0 ∨ 2147483647 < id
  · have e : puts L id v = (false, L) := by unfold puts; rw [if_pos (hb.elim .inl (fun g => .inr (.inl g)))]
    rw [e]
    refine (put_bad w T id v hb).mono ?_
    rintro e w' ⟨rfl, rfl⟩
    exact ⟨rfl, same⟩
  · obtain ⟨m, rfl⟩ := Int.eq_ofNat_of_zero_le (show 0 ≤ id by omega)
    have hTl := h.t.lt
    have c1 : w.cell? ⟨T, 1, none⟩ = some (.int .i64 s.live) := h.t.cell 1 (by omega)
    have hl := hI.live
    have hlv : s.live < 1048576 := by omega
    have new : (∀ p ∈ L, p.1 ≠ m) → ∀ i0 : Int, (Calls Try.prog 21 #[.pointer (some ⟨T, 0, none⟩), .int .i64 m] w fun e w' => e = .returned (.tuple #[.int .i64 i0, .bool false]) ∧ w = w') →
        Calls Try.prog 9 #[.pointer (some ⟨T, 0, none⟩), .int .i64 m, .int .i64 v] w fun e w' => e = .returned (.bool (puts L m v).1) ∧ PutPost w T C (puts L m v).2 w' := by
      intro hno i0 HF
      have hlk := look_no (L := L) (m : Int) (fun p hp e => hno p hp (by omega))
      have e : puts L m v = (true, ins (m, v) L) := by unfold puts; rw [if_neg (by rw [hlk]; simp; omega)]; simp
      rw [e]
      have hG := grow_any w T C s L h hI (by omega)
      refine (put_walk w T s.live m v i0 (Roomy w T C s L) (fun w2 C' n q live used => ∃ s', TR w2 T C' s' ∧ Tch [T] w w2 ∧ (C' = C ∨ w.heap.size ≤ C') ∧ q < s'.n ∧ live = s'.live ∧ used = s'.used ∧ TI (s'.put q m v (live + 1) (used + 1)) (ins (m, v) L)) hTl c1 hlv (by omega) (by omega) HF hG ?_).mono ?_
      · rintro w2 ⟨C', s', r1, r2, r3, r4, r5, r6⟩
        have hn : 0 < s'.n := by omega
        have hsm := r1.small
        have hhalf := r2.half
        obtain ⟨D, hE, hf⟩ := r2.find hn m
        rcases hf with ⟨p, hp, e1, _, _⟩ | ⟨_, hf⟩
        · exact absurd e1 (hno p hp)
        · have hpl := pos_lt s' m D hn
          have hfind := find_pos w2 T C' s' r1 m D (by omega) hE
          have hids : (s'.ids (pos s' m D) == (m : Int)) = false := by rw [hf]; exact beq_eq_false_iff_ne.2 (by omega)
          rw [hids] at hfind
          exact ⟨C', s'.n, pos s' m D, s'.live, s'.used, ⟨r1.t.lt, r1.ne hn, r1.s0 hn, r1.t.cell 1 (by omega), r1.t.cell 2 (by omega), ⟨_, r1.id _ hpl⟩, ⟨_, r1.at _ hpl⟩, r1.t.frozen, (r1.c hn).frozen, hpl, r1.small, by omega, by omega, hfind⟩,
            s', r1, r5, r6, hpl, rfl, rfl, r2.put m v D hE hf hno (by omega) r3⟩
      · rintro e w' ⟨rfl, w2, C', n, q, live, used, ⟨s', r1, r2, r3, r4, rfl, rfl, r5⟩, rfl⟩
        refine ⟨rfl, C', _, ?_, r5, ?_, r3⟩
        · exact (((r1.id_set q r4 (m : Int)).at_set q r4 v).live_set (s'.live + 1)).used_set (s'.used + 1)
        · rcases r3 with rfl | r3
          · exact ((((r2.mono (by simp)).set (by simp) _).set (by simp) _).set (by simp) _).set (by simp) _
          · exact (((((r2.mono (by simp)).setNew r3 _).setNew r3 _).set (by simp) _).set (by simp) _)
    by_cases hz : s.n = 0
    · exact new (fun p hp => by rw [hI.zero hz] at hp; cases hp) 0 (find_none w T C s h m (.inl hz))
    · obtain ⟨D, hE, hf⟩ := hI.find (by omega) m
      have HF := find_pos w T C s h m D (by omega) hE
      rcases hf with ⟨p, hp, e1, e2, e3⟩ | ⟨hno, e2⟩
      · have e4 : (s.ids (pos s m D) == (m : Int)) = true := beq_iff_eq.2 e2
        rw [e4] at HF
        have hlk : (look L m).2 = true := by rw [← e1, look_yes hI.rising p hp]
        have e : puts L m v = (false, L) := by unfold puts; rw [if_pos (.inr (.inr hlk))]
        rw [e]
        refine (put_there w T s.live m v _ hTl c1 hlv (by omega) (by omega) HF).mono ?_
        rintro e w' ⟨rfl, rfl⟩
        exact ⟨rfl, same⟩
      · have e4 : (s.ids (pos s m D) == (m : Int)) = false := by
          rw [e2]
          exact beq_eq_false_iff_ne.2 (by omega)
        rw [e4] at HF
        exact new hno _ HF
end Go.Proofs.Ytgnjjomfffmcaaa
