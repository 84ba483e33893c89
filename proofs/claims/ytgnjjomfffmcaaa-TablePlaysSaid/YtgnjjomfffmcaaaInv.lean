/- The table's invariant, over the rising list of its ids with their numbers; what a rebuilt table holds. No program in sight. -/
import Derived.Test.YtgnjjomfffmcaaaMath
namespace Go.Proofs.Ytgnjjomfffmcaaa

abbrev Rising (L : List (Nat × Int)) : Prop := L.Pairwise (fun a b => a.1 < b.1)
def ins (p : Nat × Int) : List (Nat × Int) → List (Nat × Int)
  | [] => [p]
  | q :: l => if p.1 < q.1 then p :: q :: l else q :: ins p l
theorem mem_ins (p x : Nat × Int) (l : List (Nat × Int)) : x ∈ ins p l ↔ x = p ∨ x ∈ l := by
  induction l with
  | nil => simp [ins]
  | cons q l ih =>
    unfold ins
    split
    · simp
    · simp only [List.mem_cons, ih]
      constructor
      · rintro (h | h | h)
        · exact .inr (.inl h)
        · exact .inl h
        · exact .inr (.inr h)
      · rintro (h | h | h)
        · exact .inr (.inl h)
        · exact .inl h
        · exact .inr (.inr h)
theorem len_ins (p : Nat × Int) (l : List (Nat × Int)) : (ins p l).length = l.length + 1 := by
  induction l with
  | nil => rfl
  | cons q l ih =>
    unfold ins
    split
    · rfl
    · simp [ih]
theorem rising_ins (p : Nat × Int) (l : List (Nat × Int)) (h : Rising l) (hn : ∀ q ∈ l, q.1 ≠ p.1) : Rising (ins p l) := by
  induction l with
  | nil => simp [ins]
  | cons q l ih =>
    obtain ⟨h1, h2⟩ := List.pairwise_cons.1 h
    unfold ins
    split
    · rename_i hlt
      refine List.pairwise_cons.2 ⟨fun a ha => ?_, h⟩
      rcases List.mem_cons.1 ha with rfl | ha
      · exact hlt
      · exact Nat.lt_trans hlt (h1 a ha)
    · rename_i hlt
      have hq := hn q (by simp)
      refine List.pairwise_cons.2 ⟨fun a ha => ?_, ih h2 (fun a ha => hn a (List.mem_cons_of_mem _ ha))⟩
      rcases (mem_ins p a l).1 ha with rfl | ha
      · omega
      · exact h1 a ha
theorem rising_nodup {L : List (Nat × Int)} (h : Rising L) : (L.map (·.1)).Nodup := by
  rw [List.nodup_iff_pairwise_ne, List.pairwise_map]
  exact h.imp (fun hab => Nat.ne_of_lt hab)
theorem rising_one {L : List (Nat × Int)} (h : Rising L) {p q : Nat × Int} (hp : p ∈ L) (hq : q ∈ L) (e : p.1 = q.1) : p = q := by
  induction L with
  | nil => cases hp
  | cons a L ih =>
    obtain ⟨h1, h2⟩ := List.pairwise_cons.1 h
    rcases List.mem_cons.1 hp with ep | ep
    · rcases List.mem_cons.1 hq with eq | eq
      · rw [ep, eq]
      · have := h1 q eq; rw [ep] at e; omega
    · rcases List.mem_cons.1 hq with eq | eq
      · have := h1 p ep; rw [eq] at e; omega
      · exact ih h2 ep eq
/-- Rising lists with the same members are one. -/
theorem rising_eq : ∀ (L N : List (Nat × Int)), Rising L → Rising N → (∀ p, p ∈ L ↔ p ∈ N) → L = N := by
  intro L
  induction L with
  | nil =>
    intro N _ _ h
    cases N with
    | nil => rfl
    | cons q N => exact absurd ((h q).2 (by simp)) (by simp)
  | cons p L ih =>
    intro N hL hN h
    cases N with
    | nil => exact absurd ((h p).1 (by simp)) (by simp)
    | cons q N =>
      obtain ⟨l1, l2⟩ := List.pairwise_cons.1 hL
      obtain ⟨n1, n2⟩ := List.pairwise_cons.1 hN
      have hpq : p = q := by
        rcases List.mem_cons.1 ((h p).1 (by simp)) with e | e
        · exact e
        · rcases List.mem_cons.1 ((h q).2 (by simp)) with e' | e'
          · exact e'.symm
          · have := n1 p e; have := l1 q e'; omega
      subst hpq
      congr 1
      refine ih N l2 n2 (fun x => ?_)
      constructor
      · intro hx
        rcases List.mem_cons.1 ((h x).1 (List.mem_cons_of_mem _ hx)) with e | e
        · subst e; have := l1 x hx; omega
        · exact e
      · intro hx
        rcases List.mem_cons.1 ((h x).2 (List.mem_cons_of_mem _ hx)) with e | e
        · subst e; have := n1 x hx; omega
        · exact e

/-- The table holds these ids with their numbers. -/
structure TI (s : TS) (L : List (Nat × Int)) : Prop where
  core : 0 < s.n → Core s L
  zero : s.n = 0 → L = []
  live : s.live = L.length
  used : s.used = cntT s s.n
  half : 2 * s.used ≤ s.n
  rising : Rising L
  few : ∀ p ∈ L, p.1 ≤ 2147483647
theorem TI.new : TI ⟨0, fun _ => 0, fun _ => 0, 0, 0⟩ [] :=
  ⟨fun h => absurd h (by simp), fun _ => rfl, rfl, rfl, Nat.le_refl _, List.Pairwise.nil, by simp⟩

/-- What stands in the first so many cells. -/
def got (s : TS) (n : Nat) : List (Nat × Int) := (List.range n).filterMap fun i => if 0 ≤ s.ids i then some ((s.ids i).toNat, s.ats i) else none
theorem got_succ (s : TS) (n : Nat) : got s (n + 1) = got s n ++ (if 0 ≤ s.ids n then [((s.ids n).toNat, s.ats n)] else []) := by
  unfold got
  rw [List.range_succ, List.filterMap_append]
  congr 1
  by_cases h : 0 ≤ s.ids n
  · simp [h]
  · simp [h]
theorem got_mem (s : TS) (n : Nat) (p : Nat × Int) : p ∈ got s n ↔ ∃ i, i < n ∧ s.ids i = p.1 ∧ s.ats i = p.2 := by
  unfold got
  rw [List.mem_filterMap]
  constructor
  · rintro ⟨i, hi, h⟩
    split at h
    · rename_i h0
      simp at h
      subst h
      exact ⟨i, by simpa using hi, by simp; omega, rfl⟩
    · cases h
  · rintro ⟨i, hi, h1, h2⟩
    refine ⟨i, by simpa using hi, ?_⟩
    rw [if_pos (by omega), h1, h2]
    simp
theorem got_all {s : TS} {L : List (Nat × Int)} (h : Core s L) (p : Nat × Int) (hn : 0 < s.n) (hr : Rising L) : p ∈ got s s.n ↔ p ∈ L := by
  rw [got_mem]
  constructor
  · rintro ⟨i, hi, h1, h2⟩
    rcases h.vals i hi with g | g | ⟨q, g, g1, g2⟩
    · omega
    · omega
    · have : q = p := Prod.ext (by omega) (by rw [← g2, h2])
      exact this ▸ g
  · intro hp
    obtain ⟨D, hE, hD⟩ := h.place p hp
    refine ⟨pos s p.1 D, pos_lt s _ _ hn, hD, ?_⟩
    rcases h.vals _ (pos_lt s p.1 D hn) with g | g | ⟨q, g, g1, g2⟩
    · omega
    · omega
    · have : q = p := rising_one hr g hp (by omega)
      rw [g2, this]
theorem got_new {s : TS} {L : List (Nat × Int)} (h : Core s L) (n : Nat) (hn : n < s.n) (h0 : 0 ≤ s.ids n) : ∀ p ∈ got s n, p.1 ≠ (s.ids n).toNat := by
  intro p hp e
  obtain ⟨i, hi, h1, _⟩ := (got_mem s n p).1 hp
  have := h.uniq i n (by omega) hn (by omega) (by omega)
  omega
theorem got_len_le (s : TS) : ∀ n m, n ≤ m → (got s n).length ≤ (got s m).length := by
  intro n m h
  induction m with
  | zero => have : n = 0 := by omega
            subst this; exact Nat.le_refl _
  | succ m ih =>
    by_cases e : n = m + 1
    · subst e; exact Nat.le_refl _
    · rw [got_succ, List.length_append]
      have := ih (by omega)
      omega
theorem got_nodup {s : TS} {L : List (Nat × Int)} (h : Core s L) : ∀ n, n ≤ s.n → ((got s n).map (·.1)).Nodup := by
  intro n
  induction n with
  | zero => intro _; simp [got]
  | succ n ih =>
    intro hn
    rw [got_succ, List.map_append]
    by_cases h0 : 0 ≤ s.ids n
    · rw [if_pos h0]
      refine List.nodup_append.2 ⟨ih (by omega), by simp, fun a ha b hb => ?_⟩
      simp at hb
      subst hb
      obtain ⟨p, hp, rfl⟩ := List.mem_map.1 ha
      exact got_new h n (by omega) h0 p hp
    · rw [if_neg h0]
      simpa using ih (by omega)
/-- A list sorted in by its ids. -/
def insAll : List (Nat × Int) → List (Nat × Int)
  | [] => []
  | p :: l => ins p (insAll l)
theorem insAll_mem (l : List (Nat × Int)) (p : Nat × Int) : p ∈ insAll l ↔ p ∈ l := by
  induction l with
  | nil => rfl
  | cons q l ih => unfold insAll; rw [mem_ins, ih]; simp
theorem insAll_len (l : List (Nat × Int)) : (insAll l).length = l.length := by
  induction l with
  | nil => rfl
  | cons q l ih => unfold insAll; rw [len_ins, ih]; rfl
theorem insAll_rising (l : List (Nat × Int)) (h : (l.map (·.1)).Nodup) : Rising (insAll l) := by
  induction l with
  | nil => exact List.Pairwise.nil
  | cons q l ih =>
    rw [List.map_cons] at h
    obtain ⟨h1, h2⟩ := List.nodup_cons.1 h
    refine rising_ins q _ (ih h2) (fun a ha e => h1 ?_)
    rw [← e]
    exact List.mem_map.2 ⟨a, (insAll_mem l a).1 ha, rfl⟩
theorem got_len {s : TS} {L : List (Nat × Int)} (h : Core s L) (hn : 0 < s.n) (hr : Rising L) : (got s s.n).length = L.length := by
  rw [← insAll_len, rising_eq _ _ (insAll_rising _ (got_nodup h s.n (Nat.le_refl _))) hr (fun p => by rw [insAll_mem, got_all h p hn hr])]
end Go.Proofs.Ytgnjjomfffmcaaa
