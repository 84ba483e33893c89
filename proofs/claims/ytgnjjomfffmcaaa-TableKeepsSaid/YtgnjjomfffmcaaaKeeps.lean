/- The ids that stay, as TableKeeps lays them: which list the table holds. No program in sight. -/
import Derived.Test.YtgnjjomfffmcaaaLook
namespace Go.Proofs.Ytgnjjomfffmcaaa

/-- The ids that came (those below i, by steps), without those that went. -/
def KL (b i : Nat) (o : Nat → Bool) : List (Nat × Int) := (List.range i).filterMap fun j => if o j = true then none else some (j * b, (j : Int))
def left (i : Nat) (o : Nat → Bool) : Nat := (KL 1 i o).length
theorem KL_mem (b i : Nat) (o : Nat → Bool) (p : Nat × Int) : p ∈ KL b i o ↔ ∃ j, j < i ∧ o j = false ∧ p = (j * b, (j : Int)) := by
  unfold KL
  rw [List.mem_filterMap]
  constructor
  · rintro ⟨j, hj, h⟩
    split at h
    · cases h
    · rename_i ho
      exact ⟨j, by simpa using hj, by simpa using ho, (Option.some.inj h).symm⟩
  · rintro ⟨j, hj, ho, rfl⟩
    exact ⟨j, by simpa using hj, by simp [ho]⟩
theorem KL_succ (b i : Nat) (o : Nat → Bool) : KL b (i + 1) o = KL b i o ++ (if o i = true then [] else [(i * b, (i : Int))]) := by
  unfold KL
  rw [List.range_succ, List.filterMap_append]
  congr 1
  by_cases h : o i = true
  · simp [h]
  · simp [h]
theorem KL_len (b i : Nat) (o : Nat → Bool) : (KL b i o).length = left i o := by
  unfold left
  induction i with
  | zero => rfl
  | succ i ih =>
    rw [KL_succ, KL_succ, List.length_append, List.length_append, ih]
    split <;> rfl
theorem left_succ (i : Nat) (o : Nat → Bool) : left (i + 1) o = left i o + (if o i = true then 0 else 1) := by
  unfold left
  rw [KL_succ, List.length_append]
  split <;> rfl
theorem left_le (i : Nat) (o : Nat → Bool) : left i o ≤ i := by
  induction i with
  | zero => exact Nat.le_refl _
  | succ i ih => rw [left_succ]; split <;> omega
theorem KL_rising (b i : Nat) (o : Nat → Bool) (hb : 0 < b) : Rising (KL b i o) := by
  induction i with
  | zero => exact List.Pairwise.nil
  | succ i ih =>
    rw [KL_succ]
    refine List.pairwise_append.2 ⟨ih, ?_, fun p hp q hq => ?_⟩
    · split
      · exact List.Pairwise.nil
      · exact List.pairwise_singleton _ _
    · obtain ⟨j, hj, _, rfl⟩ := (KL_mem b i o p).1 hp
      split at hq
      · cases hq
      · simp at hq
        subst hq
        exact Nat.mul_lt_mul_of_pos_right hj hb
theorem mul_inj {a c b : Nat} (hb : 0 < b) (h : a * b = c * b) : a = c := Nat.eq_of_mul_eq_mul_right hb h
theorem KL_look (b k j : Nat) (o : Nat → Bool) (hb : 0 < b) (hj : j < k) : look (KL b k o) ((j * b : Nat) : Int) = if o j = true then (0, false) else ((j : Int), true) := by
  by_cases h : o j = true
  · rw [if_pos h]
    refine look_no _ (fun p hp e => ?_)
    obtain ⟨i, _, ho, rfl⟩ := (KL_mem b k o p).1 hp
    have : i * b = j * b := Int.ofNat_inj.1 e
    have := mul_inj hb this
    subst this
    rw [h] at ho; cases ho
  · rw [if_neg h]
    exact look_yes (KL_rising b k o hb) (j * b, (j : Int)) ((KL_mem b k o _).2 ⟨j, hj, by simpa using h, rfl⟩)
theorem KL_look_no (b k : Nat) (o : Nat → Bool) : look (KL b k o) ((k * b + 1 : Nat) : Int) = (0, false) := by
  refine look_no _ (fun p hp e => ?_)
  obtain ⟨i, hi, _, rfl⟩ := (KL_mem b k o p).1 hp
  have h1 : i * b ≤ k * b := Nat.mul_le_mul_right b (by omega)
  simp only [] at e
  omega
theorem KL_puts (b i : Nat) (hb : 0 < b) (hs : i * b ≤ 2147483647) : puts (KL b i fun _ => false) ((i * b : Nat) : Int) i = (true, KL b (i + 1) fun _ => false) := by
  have hr := KL_rising b i (fun _ => false) hb
  have hno : (look (KL b i fun _ => false) ((i * b : Nat) : Int)).2 = false := by
    rw [look_no]
    intro p hp e
    obtain ⟨j, hj, _, rfl⟩ := (KL_mem b i _ p).1 hp
    have h1 : j * b < i * b := Nat.mul_lt_mul_of_pos_right hj hb
    simp only [] at e
    omega
  have hr2 := puts_rising hr ((i * b : Nat) : Int) (i : Int)
  rw [puts_yes _ _ (by omega) (by omega) hno] at hr2 ⊢
  congr 1
  refine rising_eq _ _ hr2 (KL_rising b (i + 1) _ hb) (fun p => ?_)
  rw [mem_ins, KL_mem, KL_mem]
  constructor
  · rintro (rfl | ⟨j, hj, _, rfl⟩)
    · exact ⟨i, by omega, rfl, by rw [Int.toNat_natCast]⟩
    · exact ⟨j, by omega, rfl, rfl⟩
  · rintro ⟨j, hj, _, rfl⟩
    by_cases e : j = i
    · subst e; exact .inl (by rw [Int.toNat_natCast])
    · exact .inr ⟨j, by omega, rfl, rfl⟩
def went (o : Nat → Bool) (j : Nat) : Nat → Bool := fun i => if i = j then true else o i
theorem KL_without (b k j : Nat) (o : Nat → Bool) (hb : 0 < b) : without (KL b k o) ((j * b : Nat) : Int) = KL b k (went o j) := by
  refine rising_eq _ _ (without_rising (KL_rising b k o hb) _) (KL_rising b k _ hb) (fun p => ?_)
  unfold without
  rw [List.mem_filter, KL_mem, KL_mem]
  constructor
  · rintro ⟨⟨i, hi, ho, rfl⟩, h⟩
    refine ⟨i, hi, ?_, rfl⟩
    unfold went
    have : i ≠ j := fun e => by subst e; simp at h
    rw [if_neg this]
    exact ho
  · rintro ⟨i, hi, ho, rfl⟩
    unfold went at ho
    by_cases e : i = j
    · rw [if_pos e] at ho; cases ho
    · rw [if_neg e] at ho
      refine ⟨⟨i, hi, ho, rfl⟩, bne_iff_ne.2 fun h => e ?_⟩
      have : i * b = j * b := Int.ofNat_inj.1 h
      exact mul_inj hb this
end Go.Proofs.Ytgnjjomfffmcaaa
