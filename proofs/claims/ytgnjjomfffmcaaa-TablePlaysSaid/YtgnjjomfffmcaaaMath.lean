/- The table as numbers: searches end, what coming and going do. No program in sight. -/
import Derived.Test.YtgnjjomfffmcaaaFind
namespace Go.Proofs.Ytgnjjomfffmcaaa

theorem least (p : Nat → Prop) : ∀ n, (∃ d, d < n ∧ p d) → ∃ d, d < n ∧ p d ∧ ∀ e, e < d → ¬ p e := by
  intro n
  induction n with
  | zero => rintro ⟨d, h, _⟩; omega
  | succ n ih =>
    rintro ⟨d, h1, h2⟩
    by_cases h : ∃ d, d < n ∧ p d
    · obtain ⟨d, g1, g2, g3⟩ := ih h
      exact ⟨d, by omega, g2, g3⟩
    · have : d = n := by
        rcases Nat.lt_or_ge d n with g | g
        · exact absurd ⟨d, g, h2⟩ h
        · omega
      subst this
      exact ⟨d, by omega, h2, fun e he hp => h ⟨e, he, hp⟩⟩
def pos (s : TS) (id d : Nat) : Nat := (slotN id s.n + d) % s.n
theorem pos_lt (s : TS) (id d : Nat) (h : 0 < s.n) : pos s id d < s.n := Nat.mod_lt _ h
theorem pos_hits (s : TS) (id i : Nat) (h : i < s.n) : ∃ d, d < s.n ∧ pos s id d = i := by
  have hs := slotN_lt id s.n (by omega)
  refine ⟨(i + s.n - slotN id s.n) % s.n, Nat.mod_lt _ (by omega), ?_⟩
  unfold pos
  by_cases e : slotN id s.n ≤ i
  · rw [show i + s.n - slotN id s.n = (i - slotN id s.n) + s.n by omega, Nat.add_mod_right, Nat.mod_eq_of_lt (by omega : i - slotN id s.n < s.n), show slotN id s.n + (i - slotN id s.n) = i by omega, Nat.mod_eq_of_lt h]
  · rw [Nat.mod_eq_of_lt (by omega : i + s.n - slotN id s.n < s.n), show slotN id s.n + (i + s.n - slotN id s.n) = i + s.n by omega, Nat.add_mod_right, Nat.mod_eq_of_lt h]

/-- How many cells were taken. -/
def cntT (s : TS) (n : Nat) : Nat := (List.range n).countP fun i => s.ids i != -1
theorem cntT_succ (s : TS) (n : Nat) : cntT s (n + 1) = cntT s n + (if s.ids n != -1 then 1 else 0) := by
  unfold cntT
  rw [List.range_succ, List.countP_append, List.countP_singleton]
theorem cntT_le (s : TS) (n : Nat) : cntT s n ≤ n := by
  induction n with
  | zero => simp [cntT]
  | succ n ih => rw [cntT_succ]; split <;> omega
theorem cntT_free (s : TS) (n : Nat) (h : cntT s n < n) : ∃ i, i < n ∧ s.ids i = -1 := by
  induction n with
  | zero => omega
  | succ n ih =>
    by_cases e : s.ids n = -1
    · exact ⟨n, by omega, e⟩
    · rw [cntT_succ] at h
      have : (s.ids n != -1) = true := bne_iff_ne.2 e
      rw [this] at h
      simp at h
      obtain ⟨i, h1, h2⟩ := ih h
      exact ⟨i, by omega, h2⟩
theorem ends (s : TS) (id : Nat) (h : cntT s s.n < s.n) : ∃ D, Ends s id D := by
  obtain ⟨i, h1, h2⟩ := cntT_free s s.n h
  obtain ⟨d, g1, g2⟩ := pos_hits s id i h1
  obtain ⟨D, k1, k2, k3⟩ := least (fun d => s.ids (pos s id d) = id ∨ s.ids (pos s id d) = -1) s.n ⟨d, g1, .inr (by rw [g2]; exact h2)⟩
  exact ⟨D, k1, k2, fun d hd => ⟨fun e => k3 d hd (.inl e), fun e => k3 d hd (.inr e)⟩⟩
theorem Ends.one {s : TS} {id D E : Nat} (h : Ends s id D) (g : Ends s id E) : D = E := by
  rcases Nat.lt_trichotomy D E with e | e | e
  · have := g.first D e
    rcases h.there with t | t
    · exact absurd t this.1
    · exact absurd t this.2
  · exact e
  · have := h.first E e
    rcases g.there with t | t
    · exact absurd t this.1
    · exact absurd t this.2

/-- What the cells hold: these ids with their numbers, and no other one; each is found. -/
structure Core (s : TS) (M : List (Nat × Int)) : Prop where
  vals : ∀ i, i < s.n → s.ids i = -1 ∨ s.ids i = -2 ∨ ∃ p ∈ M, s.ids i = p.1 ∧ s.ats i = p.2
  place : ∀ p ∈ M, ∃ D, Ends s p.1 D ∧ s.ids (pos s p.1 D) = p.1
  uniq : ∀ i j, i < s.n → j < s.n → s.ids i = s.ids j → 0 ≤ s.ids i → i = j
theorem Core.congr {s : TS} {M N : List (Nat × Int)} (h : Core s M) (e : ∀ p, p ∈ M ↔ p ∈ N) : Core s N := by
  refine ⟨fun i hi => ?_, fun p hp => h.place p ((e p).2 hp), h.uniq⟩
  rcases h.vals i hi with g | g | ⟨p, g, g'⟩
  · exact .inl g
  · exact .inr (.inl g)
  · exact .inr (.inr ⟨p, (e p).1 g, g'⟩)

def TS.put (s : TS) (i : Nat) (id at' : Int) (live used : Nat) : TS := { s with ids := fun j => if j = i then id else s.ids j, ats := fun j => if j = i then at' else s.ats j, live := live, used := used }

theorem cntT_put (s : TS) (i : Nat) (id at' : Int) (live used : Nat) (h : s.ids i = -1) (hid : id ≠ -1) (n : Nat) : cntT (s.put i id at' live used) n = cntT s n + (if i < n then 1 else 0) := by
  induction n with
  | zero => simp [cntT]
  | succ n ih =>
    rw [cntT_succ, cntT_succ, ih]
    show cntT s n + _ + (if (if n = i then id else s.ids n) != -1 then 1 else 0) = _
    by_cases e : n = i
    · subst e
      simp [h, hid]
    · simp only [if_neg e]
      by_cases e2 : i < n
      · simp [e2, show i < n + 1 by omega]; omega
      · simp [e2, show ¬ i < n + 1 by omega]
theorem cntT_same (s : TS) (i : Nat) (id at' : Int) (live used : Nat) (h : s.ids i ≠ -1) (hid : id ≠ -1) (n : Nat) : cntT (s.put i id at' live used) n = cntT s n := by
  induction n with
  | zero => simp [cntT]
  | succ n ih =>
    rw [cntT_succ, cntT_succ, ih]
    show cntT s n + (if (if n = i then id else s.ids n) != -1 then 1 else 0) = _
    by_cases e : n = i
    · subst e
      simp [h, hid]
    · simp only [if_neg e]

theorem Core.put {s : TS} {M : List (Nat × Int)} (h : Core s M) (id : Nat) (v : Int) (D : Nat) (hE : Ends s id D) (hf : s.ids (pos s id D) = -1) (hno : ∀ p ∈ M, p.1 ≠ id) (live used : Nat) :
    Core (s.put (pos s id D) id v live used) ((id, v) :: M) := by
  have hn0 : 0 < s.n := by have := hE.lt; omega
  have hnot : ∀ i, i < s.n → s.ids i ≠ id := by
    intro i hi e
    rcases h.vals i hi with g | g | ⟨p, g, g', _⟩
    · omega
    · omega
    · exact hno p g (by omega)
  refine ⟨fun i hi => ?_, fun p hp => ?_, fun i j hi hj e h0 => ?_⟩
  · by_cases e : i = pos s id D
    · subst e
      right; right
      exact ⟨(id, v), by simp, by simp [TS.put], by simp [TS.put]⟩
    · rcases h.vals i hi with g | g | ⟨p, g, g', g''⟩
      · left; simp [TS.put, e, g]
      · right; left; simp [TS.put, e, g]
      · right; right
        exact ⟨p, List.mem_cons_of_mem _ g, by simp [TS.put, e, g'], by simp [TS.put, e, g'']⟩
  · rcases List.mem_cons.1 hp with rfl | hp
    · refine ⟨D, ⟨hE.lt, .inl ?_, fun d hd => ?_⟩, ?_⟩
      · show (if pos s id D = pos s id D then (id : Int) else _) = _
        simp
      · have hb := hE.first d hd
        have hne : pos s id d ≠ pos s id D := fun e => hb.2 (by show s.ids (pos s id d) = -1; rw [e]; exact hf)
        show (if pos s id d = pos s id D then (id : Int) else s.ids (pos s id d)) ≠ _ ∧ (if pos s id d = pos s id D then (id : Int) else s.ids (pos s id d)) ≠ _
        rw [if_neg hne]
        exact hb
      · show (if pos s id D = pos s id D then (id : Int) else _) = _
        simp
    · obtain ⟨E, hE', hp'⟩ := h.place p hp
      have hneE : pos s p.1 E ≠ pos s id D := fun e => by rw [e, hf] at hp'; omega
      refine ⟨E, ⟨hE'.lt, .inl ?_, fun d hd => ?_⟩, ?_⟩
      · show (if pos s p.1 E = pos s id D then (id : Int) else s.ids (pos s p.1 E)) = _
        rw [if_neg hneE]; exact hp'
      · have hb := hE'.first d hd
        have hne : pos s p.1 d ≠ pos s id D := fun e => hb.2 (by show s.ids (pos s p.1 d) = -1; rw [e]; exact hf)
        show (if pos s p.1 d = pos s id D then (id : Int) else s.ids (pos s p.1 d)) ≠ _ ∧ (if pos s p.1 d = pos s id D then (id : Int) else s.ids (pos s p.1 d)) ≠ _
        rw [if_neg hne]
        exact hb
      · show (if pos s p.1 E = pos s id D then (id : Int) else s.ids (pos s p.1 E)) = _
        rw [if_neg hneE]; exact hp'
  · have ei : (s.put (pos s id D) id v live used).ids i = if i = pos s id D then (id : Int) else s.ids i := rfl
    have ej : (s.put (pos s id D) id v live used).ids j = if j = pos s id D then (id : Int) else s.ids j := rfl
    rw [ei, ej] at e
    rw [ei] at h0
    by_cases e1 : i = pos s id D <;> by_cases e2 : j = pos s id D
    · omega
    · rw [if_pos e1, if_neg e2] at e
      exact absurd e.symm (hnot j hj)
    · rw [if_neg e1, if_pos e2] at e
      exact absurd e (hnot i hi)
    · rw [if_neg e1, if_neg e2] at e
      rw [if_neg e1] at h0
      exact h.uniq i j hi hj e h0
theorem Core.drop {s : TS} {M : List (Nat × Int)} (h : Core s M) (hnd : (M.map (·.1)).Nodup) (p : Nat × Int) (hp : p ∈ M) (D : Nat) (hE : Ends s p.1 D) (hf : s.ids (pos s p.1 D) = p.1) (v : Int) (live used : Nat) :
    Core (s.put (pos s p.1 D) (-2) v live used) (M.filter fun q => q.1 != p.1) := by
  have hn0 : 0 < s.n := by have := hE.lt; omega
  refine ⟨fun i hi => ?_, fun q hq => ?_, fun i j hi hj e h0 => ?_⟩
  · by_cases e : i = pos s p.1 D
    · subst e
      right; left
      simp [TS.put]
    · rcases h.vals i hi with g | g | ⟨q, g, g', g''⟩
      · left; simp [TS.put, e, g]
      · right; left; simp [TS.put, e, g]
      · right; right
        refine ⟨q, List.mem_filter.2 ⟨g, ?_⟩, by simp [TS.put, e, g'], by simp [TS.put, e, g'']⟩
        apply bne_iff_ne.2
        intro eq
        have h1 : s.ids i = s.ids (pos s p.1 D) := by rw [g', hf, eq]
        exact e (h.uniq i _ hi (pos_lt s _ _ hn0) h1 (by omega))
  · obtain ⟨hq1, hq2⟩ := List.mem_filter.1 hq
    have hq2 := bne_iff_ne.1 hq2
    obtain ⟨E, hE', hq'⟩ := h.place q hq1
    have hneE : pos s q.1 E ≠ pos s p.1 D := fun e => by rw [e, hf] at hq'; omega
    refine ⟨E, ⟨hE'.lt, .inl ?_, fun d hd => ?_⟩, ?_⟩
    · show (if pos s q.1 E = pos s p.1 D then (-2 : Int) else s.ids (pos s q.1 E)) = _
      rw [if_neg hneE]; exact hq'
    · have hb := hE'.first d hd
      show (if pos s q.1 d = pos s p.1 D then (-2 : Int) else s.ids (pos s q.1 d)) ≠ _ ∧ (if pos s q.1 d = pos s p.1 D then (-2 : Int) else s.ids (pos s q.1 d)) ≠ _
      by_cases e : pos s q.1 d = pos s p.1 D
      · rw [if_pos e]; constructor <;> omega
      · rw [if_neg e]; exact hb
    · show (if pos s q.1 E = pos s p.1 D then (-2 : Int) else s.ids (pos s q.1 E)) = _
      rw [if_neg hneE]; exact hq'
  · have ei : (s.put (pos s p.1 D) (-2) v live used).ids i = if i = pos s p.1 D then (-2 : Int) else s.ids i := rfl
    have ej : (s.put (pos s p.1 D) (-2) v live used).ids j = if j = pos s p.1 D then (-2 : Int) else s.ids j := rfl
    rw [ei, ej] at e
    rw [ei] at h0
    by_cases e1 : i = pos s p.1 D
    · rw [if_pos e1] at h0; omega
    · rw [if_neg e1] at e h0
      by_cases e2 : j = pos s p.1 D
      · rw [if_pos e2] at e; omega
      · rw [if_neg e2] at e
        exact h.uniq i j hi hj e h0
end Go.Proofs.Ytgnjjomfffmcaaa
