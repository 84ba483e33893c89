/- ArenaOnce without a program: what holds of the slots that are away, and of the handles that came back. No condition of its own. -/
import Derived.Test.YtpceeeifdgbomaaBoth
namespace Go.Proofs.Ytpceeeifdgbomaa
open Go.RowKit

structure Inv (k : Nat) (s : St) (aw ba : List (Int × Int)) : Prop where
  ok : s.ok
  n : s.n = k
  len : aw.length + s.free.length = s.used
  nd : (aw.map (·.1)).Nodup
  aw : ∀ p ∈ aw, ∃ m : Nat, p = ((m : Int), (s.gen m : Int)) ∧ m < s.used ∧ m ∉ s.free
  ba : ∀ p ∈ ba, ∃ m : Nat, p.1 = m ∧ m < s.used ∧ p.2 ≤ s.gen m ∧ (m ∈ s.free ∨ p.2 < s.gen m)

theorem Inv.new (k : Nat) (hk : k ≤ 2000000) : Inv k (St.new k) [] [] :=
  ⟨⟨List.nodup_nil, (fun k hk => (by cases hk)), Nat.zero_le _, hk, fun _ => Nat.zero_le _⟩, rfl, rfl, List.nodup_nil, (by simp), (by simp)⟩

theorem Inv.takes_ok {k : Nat} {s : St} {aw ba : List (Int × Int)} (h : Inv k s aw ba) : s.takes.2.2.1 = decide (aw.length < k) := by
  have h1 := h.len
  have h2 := h.ok.le
  have h3 := h.n
  unfold St.takes
  split
  · rename_i j fs hf
    rw [hf] at h1
    simp at h1
    show true = _
    symm; rw [decide_eq_true_iff]; omega
  · rename_i hf
    rw [hf] at h1
    simp at h1
    split
    · show false = _
      symm; rw [decide_eq_false_iff_not]; omega
    · show true = _
      symm; rw [decide_eq_true_iff]; omega

theorem Inv.takes_no {k : Nat} {s : St} {aw ba : List (Int × Int)} (h : Inv k s aw ba) (hn : s.takes.2.2.1 = false) : s.takes.2.2.2 = s := by
  unfold St.takes at hn ⊢
  split
  · rename_i j fs hf
    rw [hf] at hn; simp at hn
  · rename_i hf
    rw [hf] at hn
    simp at hn ⊢
    split
    · rfl
    · rename_i h2; simp [h2] at hn

theorem bump_self (g : Nat → Nat) (k : Nat) : bump g k k = g k + 1 := by simp [bump]
theorem bump_ne (g : Nat → Nat) (k j : Nat) (h : j ≠ k) : bump g k j = g j := by simp [bump, h]

theorem Inv.took {k : Nat} {s : St} {aw ba : List (Int × Int)} (h : Inv k s aw ba) (j : Nat) (fs : List Nat) (hf : s.free = j :: fs) (hg : s.gen j < 1000000) :
    Inv k (s.took j fs) (aw ++ [((j : Int), ((s.gen j + 1 : Nat) : Int))]) ba ∧ ∀ p ∈ aw, p.1 ≠ (j : Int) := by
  have hnd := h.ok.nodup
  rw [hf] at hnd
  obtain ⟨hk1, hk2⟩ := List.nodup_cons.1 hnd
  have hne : ∀ p ∈ aw, p.1 ≠ (j : Int) := by
    intro p hp e
    obtain ⟨m, rfl, h1, h2⟩ := h.aw p hp
    have : m = j := by simp only [] at e; omega
    subst this
    exact h2 (by rw [hf]; simp)
  have hju := h.ok.lt j (by rw [hf]; simp)
  refine ⟨⟨⟨hk2, fun i hi => h.ok.lt i (by rw [hf]; exact List.mem_cons_of_mem _ hi), h.ok.le, h.ok.small, fun i => ?_⟩, h.n, ?_, ?_, fun p hp => ?_, fun p hp => ?_⟩, hne⟩
  · show bump s.gen j i ≤ _
    by_cases e : i = j
    · subst e; rw [bump_self]; omega
    · rw [bump_ne _ _ _ e]; exact h.ok.few i
  · have := h.len
    rw [hf] at this
    simp at this ⊢
    show aw.length + 1 + fs.length = s.used
    omega
  · rw [List.map_append, List.nodup_append]
    refine ⟨h.nd, by simp, ?_⟩
    intro a ha b hb
    simp at hb
    subst hb
    obtain ⟨p, hp, rfl⟩ := List.mem_map.1 ha
    exact hne p hp
  · rcases List.mem_append.1 hp with g | g
    · obtain ⟨m, rfl, h1, h2⟩ := h.aw p g
      have : m ≠ j := fun e => h2 (by rw [hf, e]; simp)
      refine ⟨m, ?_, h1, fun hm => h2 (by rw [hf]; exact List.mem_cons_of_mem _ hm)⟩
      show _ = ((m : Int), ((bump s.gen j m : Nat) : Int))
      rw [bump_ne _ _ _ this]
    · simp at g
      subst g
      refine ⟨j, ?_, hju, hk1⟩
      show _ = ((j : Int), ((bump s.gen j j : Nat) : Int))
      rw [bump_self]
      simp
  · obtain ⟨m, h0, h1, h2, h3⟩ := h.ba p hp
    refine ⟨m, h0, h1, ?_, ?_⟩
    · show p.2 ≤ (bump s.gen j m : Nat)
      by_cases e : m = j
      · subst e; rw [bump_self]; omega
      · rw [bump_ne _ _ _ e]; exact h2
    · show m ∈ fs ∨ p.2 < (bump s.gen j m : Nat)
      by_cases e : m = j
      · subst e; rw [bump_self]; right; omega
      · rw [bump_ne _ _ _ e]
        rw [hf] at h3
        simpa [e] using h3
theorem Inv.next {k : Nat} {s : St} {aw ba : List (Int × Int)} (h : Inv k s aw ba) (hf : s.free = []) (hu : s.used < s.n) (hg : s.gen s.used < 1000000) :
    Inv k s.next (aw ++ [((s.used : Int), ((s.gen s.used + 1 : Nat) : Int))]) ba ∧ ∀ p ∈ aw, p.1 ≠ (s.used : Int) := by
  have hne : ∀ p ∈ aw, p.1 ≠ (s.used : Int) := by
    intro p hp e
    obtain ⟨m, rfl, h1, h2⟩ := h.aw p hp
    have : m = s.used := by simp only [] at e; omega
    omega
  refine ⟨⟨⟨h.ok.nodup, fun i hi => Nat.lt_succ_of_lt (h.ok.lt i hi), (by show s.used + 1 ≤ s.n; omega), h.ok.small, fun i => ?_⟩, h.n, ?_, ?_, fun p hp => ?_, fun p hp => ?_⟩, hne⟩
  · show bump s.gen s.used i ≤ _
    by_cases e : i = s.used
    · rw [e, bump_self]; omega
    · rw [bump_ne _ _ _ e]; exact h.ok.few i
  · have := h.len
    simp
    show aw.length + 1 + s.free.length = s.used + 1
    omega
  · rw [List.map_append, List.nodup_append]
    refine ⟨h.nd, by simp, ?_⟩
    intro a ha b hb
    simp at hb
    subst hb
    obtain ⟨p, hp, rfl⟩ := List.mem_map.1 ha
    exact hne p hp
  · rcases List.mem_append.1 hp with g | g
    · obtain ⟨m, rfl, h1, h2⟩ := h.aw p g
      refine ⟨m, ?_, Nat.lt_succ_of_lt h1, h2⟩
      show _ = ((m : Int), ((bump s.gen s.used m : Nat) : Int))
      rw [bump_ne _ _ _ (by omega)]
    · simp at g
      subst g
      refine ⟨s.used, ?_, Nat.lt_succ_self _, (by show s.used ∉ s.free; rw [hf]; simp)⟩
      show _ = ((s.used : Int), ((bump s.gen s.used s.used : Nat) : Int))
      rw [bump_self]
      simp
  · obtain ⟨m, h0, h1, h2, h3⟩ := h.ba p hp
    refine ⟨m, h0, Nat.lt_succ_of_lt h1, ?_, ?_⟩
    · show p.2 ≤ (bump s.gen s.used m : Nat)
      rw [bump_ne _ _ _ (by omega)]; exact h2
    · show m ∈ s.free ∨ p.2 < (bump s.gen s.used m : Nat)
      rw [bump_ne _ _ _ (by omega)]; exact h3
theorem Inv.takes_yes {k : Nat} {s : St} {aw ba : List (Int × Int)} (h : Inv k s aw ba) (hy : s.takes.2.2.1 = true) (hg : ∀ j, s.gen j < 1000000) :
    Inv k s.takes.2.2.2 (aw ++ [((s.takes.1 : Int), (s.takes.2.1 : Int))]) ba ∧ ∀ p ∈ aw, p.1 ≠ (s.takes.1 : Int) := by
  cases hf : s.free with
  | cons j fs =>
    have e : s.takes = (j, s.gen j + 1, true, s.took j fs) := by unfold St.takes; rw [hf]
    rw [e]
    exact h.took j fs hf (hg j)
  | nil =>
    have e : s.used ≠ s.n := by
      intro e
      unfold St.takes at hy
      rw [hf] at hy
      simp [e] at hy
    have e2 : s.takes = (s.used, s.gen s.used + 1, true, s.next) := by unfold St.takes; rw [hf]; simp [e]
    have := h.ok.le
    rw [e2]
    exact h.next hf (by omega) (hg _)

theorem Inv.live_aw {k : Nat} {s : St} {aw ba : List (Int × Int)} (h : Inv k s aw ba) (p : Int × Int) (hp : p ∈ aw) : s.live p.1 p.2 = true ∧ 0 ≤ p.1 ∧ p.1 < k := by
  obtain ⟨m, rfl, h1, h2⟩ := h.aw p hp
  have := h.ok.le
  have := h.n
  exact ⟨(St.live_iff s m _).2 ⟨m, rfl, h1, h2, rfl⟩, by simp, by simp only []; omega⟩
theorem Inv.live_ba {k : Nat} {s : St} {aw ba : List (Int × Int)} (h : Inv k s aw ba) (p : Int × Int) (hp : p ∈ ba) : s.live p.1 p.2 = false ∧ 0 ≤ p.1 ∧ p.1 ≤ 2000000 := by
  obtain ⟨m, h0, h1, h2, h3⟩ := h.ba p hp
  have := h.ok.le
  have := h.ok.small
  refine ⟨?_, by omega, by omega⟩
  cases hl : s.live p.1 p.2 with
  | false => rfl
  | true =>
    obtain ⟨m', e, g1, g2, g3⟩ := (St.live_iff s p.1 p.2).1 hl
    have : m' = m := by omega
    subst this
    rcases h3 with h3 | h3
    · exact absurd h3 g2
    · omega

theorem Inv.give {k : Nat} {s : St} {aw ba : List (Int × Int)} (h : Inv k s aw ba) (j : Nat) (p : Int × Int) (hj : aw[j]? = some p) :
    (s.gives p.1 p.2).1 = true ∧ ((s.gives p.1 p.2).2.gives p.1 p.2).1 = false ∧ ((s.gives p.1 p.2).2.gives p.1 p.2).2 = (s.gives p.1 p.2).2 ∧ Inv k (s.gives p.1 p.2).2 (aw.take j ++ aw.drop (j + 1)) (ba ++ [p]) := by
  have hp := List.mem_of_getElem? hj
  have hl := (h.live_aw p hp).1
  have hjl : j < aw.length := by
    rcases Nat.lt_or_ge j aw.length with g | g
    · exact g
    · rw [List.getElem?_eq_none g] at hj; cases hj
  have hsplit : aw = aw.take j ++ p :: aw.drop (j + 1) := by
    have e1 : aw.drop j = p :: aw.drop (j + 1) := by
      rw [List.drop_eq_getElem_cons hjl]
      rw [List.getElem?_eq_getElem hjl] at hj
      simp at hj
      rw [hj]
    rw [← e1, List.take_append_drop]
  obtain ⟨m, hpm, h1, h2⟩ := h.aw p hp
  have e : s.gives p.1 p.2 = (true, s.give m) := by
    unfold St.gives
    rw [hl, hpm]
    simp
  have e2 : (s.give m).live p.1 p.2 = false := by
    rw [hpm]
    simp [St.live, St.give]
  have e3 : (s.give m).gives p.1 p.2 = (false, s.give m) := by unfold St.gives; rw [e2]; simp
  rw [e]
  simp only []
  rw [e3]
  have hnd := h.nd
  rw [hsplit, List.map_append, List.map_cons] at hnd
  obtain ⟨n1, n2, n3⟩ := List.nodup_append.1 hnd
  obtain ⟨n4, n5⟩ := List.nodup_cons.1 n2
  have hmem : ∀ q ∈ aw.take j ++ aw.drop (j + 1), q ∈ aw ∧ q.1 ≠ p.1 := by
    intro q hq
    rcases List.mem_append.1 hq with g | g
    · exact ⟨List.mem_of_mem_take g, n3 q.1 (List.mem_map.2 ⟨q, g, rfl⟩) p.1 (by simp)⟩
    · exact ⟨List.mem_of_mem_drop g, fun e => n4 (e ▸ List.mem_map.2 ⟨q, g, rfl⟩)⟩
  refine ⟨trivial, rfl, rfl, ⟨⟨List.nodup_cons.2 ⟨h2, h.ok.nodup⟩, ?_, h.ok.le, h.ok.small, h.ok.few⟩, h.n, ?_, ?_, fun q hq => ?_, fun q hq => ?_⟩⟩
  · intro i hi
    rcases List.mem_cons.1 hi with rfl | hi
    · exact h1
    · exact h.ok.lt i hi
  · have := h.len
    simp only [List.length_append, List.length_take, List.length_drop]
    show _ + (s.free.length + 1) = s.used
    omega
  · rw [List.map_append]
    refine List.nodup_append.2 ⟨n1, n5, fun a ha b hb => n3 a ha b (List.mem_cons_of_mem _ hb)⟩
  · obtain ⟨hq1, hq2⟩ := hmem q hq
    obtain ⟨i, rfl, g1, g2⟩ := h.aw q hq1
    refine ⟨i, rfl, g1, fun hi => ?_⟩
    rcases List.mem_cons.1 hi with rfl | hi
    · rw [hpm] at hq2; exact hq2 rfl
    · exact g2 hi
  · rcases List.mem_append.1 hq with g | g
    · obtain ⟨i, g0, g1, g2, g3⟩ := h.ba q g
      refine ⟨i, g0, g1, g2, ?_⟩
      rcases g3 with g3 | g3
      · exact .inl (List.mem_cons_of_mem _ g3)
      · exact .inr g3
    · simp at g
      subst g
      exact ⟨m, by rw [hpm], h1, by rw [hpm]; exact Int.le_refl _, .inl (List.mem_cons_self ..)⟩
end Go.Proofs.Ytpceeeifdgbomaa
