/- The arena's abstract state, how the program's arena lies in memory, and the walks of Live and Len; the slots' counts are bounded. -/
import Derived.Test.YtpceeeifdgbomaaRows
import Derived.Test.YtpceeeifdgbomaaMem
import Derived.WalkSpells
import Derived.WalkLawsBesides
import Derived.Lib.Hide
import Derived.Deep.QuietTactic
import Derived.BigQuiet
import Derived.BigRegion
namespace Go.Proofs.Ytpceeeifdgbomaa
open Go.RowKit

/-- n slots; how often each went; those that came back, the last one first; how many were ever given. -/
structure St where
  n : Nat
  gen : Nat → Nat
  free : List Nat
  used : Nat
structure St.ok (s : St) : Prop where
  nodup : s.free.Nodup
  lt : ∀ k ∈ s.free, k < s.used
  le : s.used ≤ s.n
  small : s.n ≤ 2000000
  few : ∀ k, s.gen k ≤ 1000000
def St.live (s : St) (k g : Int) : Bool := decide (0 ≤ k) && decide (k < s.used) && decide (k.toNat ∉ s.free) && ((s.gen k.toNat : Int) == g)

/-- The list through the free ones. -/
def chain (nx : Nat → Int) : Int → List Nat → Prop
  | t, [] => t = -1
  | t, k :: fs => t = k ∧ chain nx (nx k) fs
/-- The program's arena: its struct, the counts, the list. -/
structure AR (w : World) (A G X : Nat) (top : Int) (nx : Nat → Int) (s : St) : Prop where
  ok : s.ok
  a : Blk w A 44 5 (fun j => match j with | 0 => .slice (some ⟨G, 0, none⟩) s.n s.n | 1 => .slice (some ⟨X, 0, none⟩) s.n s.n | 2 => .int .i64 top | 3 => .int .i64 s.used | _ => .int .i64 ((s.used : Int) - s.free.length))
  g : Blk w G 3 s.n (fun k => .int .i64 (s.gen k))
  x : Blk w X 3 s.n (fun k => .int .i64 (nx k))
  ne1 : A ≠ G
  ne2 : A ≠ X
  ne3 : G ≠ X
  ch : chain nx top s.free
  busy : ∀ k, k < s.used → k ∉ s.free → nx k = -2

theorem chain_ge (nx : Nat → Int) : ∀ (l : List Nat) (t : Int), chain nx t l → -1 ≤ t := by
  intro l t h
  cases l with
  | nil => have h' : t = -1 := h; omega
  | cons k l => have h' := h.1; omega
theorem chain_mem (nx : Nat → Int) : ∀ (l : List Nat) (t : Int), chain nx t l → ∀ k ∈ l, -1 ≤ nx k := by
  intro l
  induction l with
  | nil => intro t _ k hk; cases hk
  | cons a l ih =>
    intro t h k hk
    rcases List.mem_cons.1 hk with rfl | hk
    · exact chain_ge nx l _ h.2
    · exact ih _ h.2 k hk
theorem AR.keep {w w' : World} {A G X : Nat} {top : Int} {nx : Nat → Int} {s : St} (h : AR w A G X top nx s) (hb : ∀ k ∈ [A, G, X], w'.heap[k]? = w.heap[k]?) : AR w' A G X top nx s :=
  ⟨h.ok, h.a.keep (hb A (by simp)), h.g.keep (hb G (by simp)), h.x.keep (hb X (by simp)), h.ne1, h.ne2, h.ne3, h.ch, h.busy⟩

set_option maxHeartbeats 400000 in
theorem live_any (w : World) (A G X : Nat) (top : Int) (nx : Nat → Int) (s : St) (h : AR w A G X top nx s) (k g : Int) (hk : -9223372036854775808 ≤ k) (hk' : k ≤ 9223372036854775807) :
    Calls Try.prog 13 #[.pointer (some ⟨A, 0, none⟩), .agg #[.int .i64 k, .int .i64 g]] w fun e w' => e = .returned (.bool (s.live k g)) ∧ Tch [] w w' := by
  have hA := h.a.lt
  have hG := h.g.lt
  have hX := h.x.lt
  have c1 : w.cell? ⟨A, 1, none⟩ = some (.slice (some ⟨X, 0, none⟩) s.n s.n) := h.a.cell 1 (by omega)
  have c0 : w.cell? ⟨A, 0, none⟩ = some (.slice (some ⟨G, 0, none⟩) s.n s.n) := h.a.cell 0 (by omega)
  have c3 : w.cell? ⟨A, 3, none⟩ = some (.int .i64 s.used) := h.a.cell 3 (by omega)
  have hle := h.ok.le
  have hsm := h.ok.small
  by_cases k0 : 0 ≤ k
  · obtain ⟨m, rfl⟩ := Int.eq_ofNat_of_zero_le k0
    by_cases k1 : m < s.used
    · have cx : w.cell? ⟨X, m, none⟩ = some (.int .i64 (nx m)) := h.x.cell m (by omega)
      have cg : w.cell? ⟨G, m, none⟩ = some (.int .i64 (s.gen m)) := h.g.cell m (by omega)
      by_cases kf : m ∈ s.free
      · have hb : (nx m == -2) = false := beq_eq_false_iff_ne.2 (by have := chain_mem nx _ _ h.ch m kf; omega)
        have HL : Hid (s.live m g = false) := Lib.hid (by simp [St.live, kf])
        clear kf h
        go_enter Try.func13, Try.ntmps13
        go_wp2
        go_quiet (fail)
        go_wp2
        go_ret
        refine ⟨?_, ((Tch.refl _ _).new _).drewN _⟩
        rw [HL.out]; rfl
      · have hb : (nx m == -2) = true := beq_iff_eq.2 (h.busy m k1 kf)
        have HL : Hid (s.live m g = ((s.gen m : Int) == g)) := Lib.hid (by simp [St.live, kf, k1])
        clear kf h
        go_enter Try.func13, Try.ntmps13
        go_wp2
        go_quiet (fail)
        go_wp2
        go_ret
        refine ⟨?_, ((Tch.refl _ _).new _).drewN _⟩
        rw [HL.out]; rfl
    · have HL : Hid (s.live m g = false) := Lib.hid (by simp [St.live, k1])
      have hb : decide ((m : Int) < s.used) = false := by simp; omega
      clear h
      go_enter Try.func13, Try.ntmps13
      go_wp2
      go_quiet (fail)
      go_wp2
      go_ret
      refine ⟨?_, ((Tch.refl _ _).new _).drewN _⟩
      rw [HL.out]; rfl
  · have HL : Hid (s.live k g = false) := Lib.hid (by simp [St.live, k0])
    have hb : decide (0 ≤ k) = false := by simpa using k0
    clear h
    go_enter Try.func13, Try.ntmps13
    go_wp2
    go_quiet (fail)
    go_wp2
    go_ret
    refine ⟨?_, ((Tch.refl _ _).new _).drewN _⟩
    rw [HL.out]; rfl

set_option maxHeartbeats 400000 in
theorem live_nil (w : World) (k g : Int) :
    Calls Try.prog 13 #[.pointer none, .agg #[.int .i64 k, .int .i64 g]] w fun e w' => e = .returned (.bool false) ∧ Tch [] w w' := by
  go_enter Try.func13, Try.ntmps13
  go_wp2
  go_quiet (fail)
  go_wp2
  go_ret
  exact ⟨rfl, ((Tch.refl _ _).new _).drewN _⟩

theorem len_any (w : World) (A G X : Nat) (top : Int) (nx : Nat → Int) (s : St) (h : AR w A G X top nx s) :
    Calls Try.prog 15 #[.pointer (some ⟨A, 0, none⟩)] w fun e w' => e = .returned (.int .i64 ((s.used : Int) - s.free.length)) ∧ w = w' := by
  have c4 : w.cell? ⟨A, 4, none⟩ = some (.int .i64 ((s.used : Int) - s.free.length)) := h.a.cell 4 (by omega)
  generalize ((s.used : Int) - s.free.length) = z at *
  clear h
  go_enter Try.func15, Try.ntmps15
  go_wp2
  go_ret
  exact ⟨rfl, rfl⟩
theorem len_nil (w : World) : Calls Try.prog 15 #[.pointer none] w fun e w' => e = .returned (.int .i64 0) ∧ w = w' := by
  go_enter Try.func15, Try.ntmps15
  go_wp2
  go_ret
  exact ⟨rfl, rfl⟩
end Go.Proofs.Ytpceeeifdgbomaa
