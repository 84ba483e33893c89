/- Take and Give of both arenas, each said as one step of the abstract state; the slots' counts are bounded. -/
import Derived.Test.YtpceeeifdgbomaaRefTake
import Derived.Test.YtpceeeifdgbomaaAwake
namespace Go.Proofs.Ytpceeeifdgbomaa
open Go.RowKit

def St.takes (s : St) : Nat × Nat × Bool × St :=
  match s.free with
  | k :: fs => (k, s.gen k + 1, true, s.took k fs)
  | [] => if s.used = s.n then (0, 0, false, s) else (s.used, s.gen s.used + 1, true, s.next)
def St.gives (s : St) (k g : Int) : Bool × St := if s.live k g then (true, s.give k.toNat) else (false, s)

def takeVal (r : Nat × Nat × Bool × St) : Value := .tuple #[.agg #[.int .i64 r.1, .int .i64 r.2.1], .bool r.2.2.1]

theorem AR.tch {w w' : World} {A G X : Nat} {top : Int} {nx : Nat → Int} {s : St} (h : AR w A G X top nx s) {bs : List Nat} (t : Tch bs w w') (h1 : ∀ k ∈ [A, G, X], k ∉ bs) : AR w' A G X top nx s := by
  have a := h.a.lt
  have b := h.g.lt
  have c := h.x.lt
  exact h.keep fun k hk => t.block k (by simp at hk; omega) (h1 k hk)

theorem take_all (w : World) (A G X : Nat) (top : Int) (nx : Nat → Int) (s : St) (h : AR w A G X top nx s) (hg : ∀ k, s.gen k < 1000000) :
    Calls Try.prog 9 #[.pointer (some ⟨A, 0, none⟩)] w fun e w' => e = .returned (takeVal s.takes) ∧ Tch [A, G, X] w w' ∧ ∃ top' nx', AR w' A G X top' nx' s.takes.2.2.2 := by
  cases hf : s.free with
  | cons k fs =>
    have : s.takes = (k, s.gen k + 1, true, s.took k fs) := by unfold St.takes; rw [hf]
    rw [this]
    exact take_top w A G X top nx s h k fs hf (hg k)
  | nil =>
    by_cases hu : s.used = s.n
    · have : s.takes = (0, 0, false, s) := by unfold St.takes; rw [hf]; simp [hu]
      rw [this]
      refine (take_none w A G X top nx s h hf hu).mono ?_
      rintro e w' ⟨rfl, t⟩
      exact ⟨rfl, t.mono (by simp), top, nx, h.tch t (by simp)⟩
    · have : s.takes = (s.used, s.gen s.used + 1, true, s.next) := by unfold St.takes; rw [hf]; simp [hu]
      rw [this]
      have := h.ok.le
      exact take_next w A G X top nx s h hf (by omega) (hg _)
theorem rtake_all (w : World) (B R G Z : Nat) (fv : Value) (s : St) (h : RR w B R G Z fv s) (hg : ∀ k, s.gen k < 1000000) :
    Calls Try.prog 10 #[.pointer (some ⟨R, 0, none⟩)] w fun e w' => e = .returned (takeVal s.takes) ∧ Tch [R, G, Z] w w' ∧ ∃ fv', RR w' B R G Z fv' s.takes.2.2.2 ∧ fv'.ownBlock = fv.ownBlock := by
  cases hf : s.free with
  | cons k fs =>
    have : s.takes = (k, s.gen k + 1, true, s.took k fs) := by unfold St.takes; rw [hf]
    rw [this]
    exact rtake_top w B R G Z fv s h k fs hf (hg k)
  | nil =>
    by_cases hu : s.used = s.n
    · have : s.takes = (0, 0, false, s) := by unfold St.takes; rw [hf]; simp [hu]
      rw [this]
      refine (rtake_none w B R G Z fv s h hf hu).mono ?_
      rintro e w' ⟨rfl, t⟩
      exact ⟨rfl, t.mono (by simp), fv, h.keep t (by simp) (by simp) (by simp) (by simp), rfl⟩
    · have : s.takes = (s.used, s.gen s.used + 1, true, s.next) := by unfold St.takes; rw [hf]; simp [hu]
      rw [this]
      have := h.ok.le
      exact rtake_next w B R G Z fv s h hf (by omega) (hg _)

theorem give_all (w : World) (A G X : Nat) (top : Int) (nx : Nat → Int) (s : St) (h : AR w A G X top nx s) (k g : Int) (hk : -9223372036854775808 ≤ k) (hk' : k ≤ 9223372036854775807) :
    Calls Try.prog 11 #[.pointer (some ⟨A, 0, none⟩), .agg #[.int .i64 k, .int .i64 g]] w fun e w' => e = .returned (.bool (s.gives k g).1) ∧ Tch [A, G, X] w w' ∧ ∃ top' nx', AR w' A G X top' nx' (s.gives k g).2 := by
  cases hl : s.live k g with
  | true =>
    obtain ⟨m, rfl, h1, h2, rfl⟩ := (St.live_iff s k g).1 hl
    have : s.gives m (s.gen m) = (true, s.give m) := by simp [St.gives, hl]
    rw [this]
    refine (give_yes w A G X top nx s h m h1 h2).mono ?_
    rintro e w' ⟨rfl, t, r⟩
    exact ⟨rfl, t.mono (by simp), r⟩
  | false =>
    have : s.gives k g = (false, s) := by simp [St.gives, hl]
    rw [this]
    refine (give_no w A G X top nx s h k g hk hk' hl).mono ?_
    rintro e w' ⟨rfl, t⟩
    exact ⟨rfl, t.mono (by simp), top, nx, h.tch t (by simp)⟩
theorem rgive_all (w : World) (B R G Z : Nat) (fv : Value) (s : St) (h : RR w B R G Z fv s) (hB : B ≤ w.heap.size) (k g : Int) (hk : -9223372036854775808 ≤ k) (hk' : k ≤ 9223372036854775807) :
    Calls Try.prog 12 #[.pointer (some ⟨R, 0, none⟩), .agg #[.int .i64 k, .int .i64 g]] w fun e w' => e = .returned (.bool (s.gives k g).1) ∧
      Tch ([R, G, Z] ++ fv.ownBlock.toList) w w' ∧ ∃ fv', RR w' B R G Z fv' (s.gives k g).2 ∧ (∀ b, fv'.ownBlock = some b → b ∈ fv.ownBlock.toList ∨ w.heap.size ≤ b) := by
  cases hl : s.live k g with
  | true =>
    obtain ⟨m, rfl, h1, h2, rfl⟩ := (St.live_iff s k g).1 hl
    have : s.gives m (s.gen m) = (true, s.give m) := by simp [St.gives, hl]
    rw [this]
    refine (rgive_yes w B R G Z fv s h hB m h1 h2).mono ?_
    rintro e w' ⟨fv', rfl, r, t, q⟩
    exact ⟨rfl, t, fv', r, q⟩
  | false =>
    have : s.gives k g = (false, s) := by simp [St.gives, hl]
    rw [this]
    refine (rgive_no w B R G Z fv s h k g hk hk' hl).mono ?_
    rintro e w' ⟨rfl, t⟩
    exact ⟨rfl, t.mono (by simp), fv, h.keep t (by simp) (by simp) (by simp) (by simp), fun b hb => .inl (by simp [hb])⟩

theorem gen_takes (s : St) (n : Nat) (h : ∀ k, s.gen k ≤ n) : ∀ k, s.takes.2.2.2.gen k ≤ n + 1 := by
  intro k
  have := h k
  unfold St.takes
  split
  · rename_i j fs _
    show bump s.gen j k ≤ _
    unfold bump
    split <;> omega
  · split
    · show s.gen k ≤ _; omega
    · show bump s.gen s.used k ≤ _
      unfold bump
      split <;> omega
theorem gen_gives (s : St) (k g : Int) : (s.gives k g).2.gen = s.gen := by
  unfold St.gives
  split <;> rfl
theorem takes_small (s : St) (h : s.ok) (n : Nat) (hg : ∀ k, s.gen k ≤ n) : s.takes.1 ≤ 2000000 ∧ s.takes.2.1 ≤ n + 1 := by
  have h1 := h.le
  have h2 := h.small
  unfold St.takes
  split
  · rename_i j fs hf
    have := h.lt j (by simp [hf])
    have := hg j
    exact ⟨by show j ≤ _; omega, by show s.gen j + 1 ≤ _; omega⟩
  · have := hg s.used
    split
    · exact ⟨Nat.zero_le _, Nat.zero_le _⟩
    · exact ⟨by show s.used ≤ _; omega, by show s.gen s.used + 1 ≤ _; omega⟩
theorem E27 : ElemT Try.prog 27 29 2 16 := by
  obtain ⟨i0, hi, hz0, hz1, hz2⟩ := info_parts (show (Try.prog.info? 29).map (fun i => (i.zero, i.size, i.bytes)) = some (some (.agg #[.int .i64 0, .int .i64 0]), 2, 16) by kernel_rfl)
  exact ⟨Try.underlying27, ⟨i0, _, hi, hz0, hz1, hz2, rfl⟩, by decide⟩
/-- The cells of a list of handles. -/
def hrows (l : List (Int × Int)) : List Value := l.flatMap fun p => [.int .i64 p.1, .int .i64 p.2]
theorem hrows_snoc (l : List (Int × Int)) (p : Int × Int) : hrows (l ++ [p]) = hrows l ++ [.int .i64 p.1, .int .i64 p.2] := by simp [hrows]
theorem hrows_len (l : List (Int × Int)) : (hrows l).length = l.length * 2 := by
  induction l with
  | nil => rfl
  | cons p l ih =>
    have : hrows (p :: l) = [.int .i64 p.1, .int .i64 p.2] ++ hrows l := rfl
    rw [this, List.length_append, ih]; simp; omega
theorem hrows_get (l : List (Int × Int)) (m : Nat) (p : Int × Int) (h : l[m]? = some p) : (hrows l)[m * 2]? = some (.int .i64 p.1) ∧ (hrows l)[m * 2 + 1]? = some (.int .i64 p.2) := by
  induction l generalizing m with
  | nil => simp at h
  | cons q l ih =>
    have e : hrows (q :: l) = [.int .i64 q.1, .int .i64 q.2] ++ hrows l := rfl
    cases m with
    | zero =>
      simp at h; subst h
      simp [e]
    | succ m =>
      simp at h
      have := ih m h
      rw [e, List.getElem?_append_right (by simp; omega), List.getElem?_append_right (by simp; omega)]
      simp only [List.length_cons, List.length_nil]
      rw [show (m + 1) * 2 - (0 + 1 + 1) = m * 2 by omega, show (m + 1) * 2 + 1 - (0 + 1 + 1) = m * 2 + 1 by omega]
      exact this
end Go.Proofs.Ytpceeeifdgbomaa
