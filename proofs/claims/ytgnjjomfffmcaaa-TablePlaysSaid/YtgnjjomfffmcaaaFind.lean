/- The table's places: the walks of slot, empty and find. No condition of its own. -/
import Derived.Test.YtgnjjomfffmcaaaRows
import Derived.Test.YtgnjjomfffmcaaaSl
import Derived.Test.YtgnjjomfffmcaaaAny
import Derived.WalkSpells
import Derived.WalkLawsBesides
import Derived.Lib.Hide
import Derived.Lib.EndianBits
import Derived.Deep.QuietTactic
import Derived.BigQuiet
import Derived.BigRegion
namespace Go.Proofs.Ytgnjjomfffmcaaa
open Go.RowKit

def slotN (id n : Nat) : Nat := ((id * 11400714819323198485) % 18446744073709551616 / 4294967296) % n

theorem slot_num (id n : Nat) (h0 : 0 < n) (h1 : n ≤ 9223372036854775807) : wrap64 ((IntKind.u64.wrap ((id : Int) * 11400714819323198485) / 4294967296).tmod n) = (slotN id n : Nat) := by
  rw [IntKind.wrap_u64]
  have e : ((id : Int) * 11400714819323198485 % 18446744073709551616 / 4294967296) = (((id * 11400714819323198485) % 18446744073709551616 / 4294967296 : Nat) : Int) := by omega
  rw [e, Int.tmod_eq_emod_of_nonneg (by omega)]
  unfold slotN
  have := Nat.mod_lt ((id * 11400714819323198485) % 18446744073709551616 / 4294967296) h0
  have e2 : (((id * 11400714819323198485) % 18446744073709551616 / 4294967296 : Nat) : Int) % (n : Int) = (((id * 11400714819323198485) % 18446744073709551616 / 4294967296 % n : Nat) : Int) := rfl
  rw [e2]
  generalize (id * 11400714819323198485) % 18446744073709551616 / 4294967296 % n = q at *
  unfold wrap64; omega
theorem slotN_lt (id n : Nat) (h0 : 0 < n) : slotN id n < n := Nat.mod_lt _ h0
theorem slot_any (id n : Nat) (h0 : 0 < n) (h1 : n ≤ 9223372036854775807) (h2 : id ≤ 9223372036854775807) (w : World) :
    Calls Try.prog 25 #[.int .i64 id, .int .i64 n] w fun e w' => e = .returned (.int .i64 (slotN id n)) ∧ w = w' := by
  go_enter Try.func25, Try.ntmps25
  go_wp2
  go_ret
  refine ⟨?_, rfl⟩
  show Ending.returned (.int .i64 (wrap64 ((IntKind.u64.wrap ((id : Int) * 11400714819323198485) / 4294967296).tmod n))) = _
  rw [slot_num id n h0 h1]

/-- The table as numbers: how many cells, what each holds, how many ids are there, how many cells were taken. -/
structure TS where
  n : Nat
  ids : Nat → Int
  ats : Nat → Int
  live : Nat
  used : Nat
def tcell (s : TS) (k : Nat) : Value := .int .i64 (if k % 2 = 0 then s.ids (k / 2) else s.ats (k / 2))
def tslice (C n : Nat) : Value := if n = 0 then .slice none 0 0 else .slice (some ⟨C, 0, none⟩) n n
/-- The table in memory: its struct, its cells. -/
structure TR (w : World) (T C : Nat) (s : TS) : Prop where
  t : Blk w T 50 3 (fun j => match j with | 0 => tslice C s.n | 1 => .int .i64 s.live | _ => .int .i64 s.used)
  c : 0 < s.n → Blk w C 47 (2 * s.n) (tcell s)
  ne : 0 < s.n → T ≠ C
  small : s.n ≤ 100000000
theorem TR.id {w : World} {T C : Nat} {s : TS} (h : TR w T C s) (i : Nat) (hi : i < s.n) : w.cell? ⟨C, i * 2, none⟩ = some (.int .i64 (s.ids i)) := by
  have := (h.c (by omega)).cell (i * 2) (by omega)
  rw [this]
  simp [tcell]
theorem TR.at {w : World} {T C : Nat} {s : TS} (h : TR w T C s) (i : Nat) (hi : i < s.n) : w.cell? ⟨C, i * 2 + 1, none⟩ = some (.int .i64 (s.ats i)) := by
  have := (h.c (by omega)).cell (i * 2 + 1) (by omega)
  rw [this]
  have e1 : (i * 2 + 1) % 2 = 1 := by omega
  have e2 : (i * 2 + 1) / 2 = i := by omega
  simp [tcell, e1, e2]
theorem TR.s0 {w : World} {T C : Nat} {s : TS} (h : TR w T C s) (hn : 0 < s.n) : w.cell? ⟨T, 0, none⟩ = some (.slice (some ⟨C, 0, none⟩) s.n s.n) := by
  have := h.t.cell 0 (by omega)
  rw [this]
  simp [tslice, Nat.ne_of_gt hn]

/-- Where the search of an id ends: so many steps behind its first place. -/
structure Ends (s : TS) (id D : Nat) : Prop where
  lt : D < s.n
  there : s.ids ((slotN id s.n + D) % s.n) = id ∨ s.ids ((slotN id s.n + D) % s.n) = -1
  first : ∀ d, d < D → s.ids ((slotN id s.n + d) % s.n) ≠ id ∧ s.ids ((slotN id s.n + d) % s.n) ≠ -1

theorem back_steps (h d n : Nat) (h1 : h < n) (h2 : d < n) : ((h + d) % n + n - h) % n = d := by
  by_cases e : h + d < n
  · rw [Nat.mod_eq_of_lt e, show h + d + n - h = d + n by omega, Nat.add_mod_right, Nat.mod_eq_of_lt h2]
  · have : (h + d) % n = h + d - n := by rw [Nat.mod_eq_sub_mod (by omega), Nat.mod_eq_of_lt (by omega)]
    rw [this, show h + d - n + n - h = d by omega, Nat.mod_eq_of_lt h2]

set_option maxHeartbeats 1000000 in
theorem find_any (w : World) (T C : Nat) (s : TS) (h : TR w T C s) (id D : Nat) (hid : id ≤ 9223372036854775807) (hE : Ends s id D) :
    Calls Try.prog 21 #[.pointer (some ⟨T, 0, none⟩), .int .i64 id] w fun e w' =>
      e = .returned (.tuple #[.int .i64 ((slotN id s.n + D) % s.n : Nat), .bool (s.ids ((slotN id s.n + D) % s.n) == (id : Int))]) ∧ w = w' := by
  have hn0 : 0 < s.n := by have := hE.lt; omega
  have hsm := h.small
  have hsl := slotN_lt id s.n hn0
  have c0 := h.s0 hn0
  have HC := Lib.hid (fun i hi => h.id i hi)
  have HE := Lib.hid hE
  have HS := Lib.hid (slot_any id s.n hn0 (by omega) hid)
  have hTl := h.t.lt
  generalize hhs : slotN id s.n = hs at *
  have HHS := Lib.hid hhs
  clear h hE hhs
  have hnn : ((s.n : Int) == 0) = false := beq_eq_false_iff_ne.2 (by omega)
  go_enter Try.func21, Try.ntmps21
  go_wp2_with (go_at_call 25; refine (HS.out w).mono ?_; rintro e w1 ⟨rfl, rfl⟩)
  go_loopw [7] (fun i wq => w = wq ∧ ∃ d q : Nat, d ≤ D ∧ q = (hs + d) % s.n ∧ i = .int .i64 q) (fun i _ => D - (((intOf i).toNat + s.n - hs) % s.n))
  case atStart => exact ⟨rfl, 0, hs, by omega, by rw [Nat.add_zero, Nat.mod_eq_of_lt hsl], rfl⟩
  case round =>
    obtain ⟨rfl, d, q, hd, hq, rfl⟩ := hrel
    have hDl := HE.out.lt
    have hi : q < s.n := by rw [hq]; exact Nat.mod_lt _ hn0
    have cc := HC.out _ hi
    have hbk := back_steps hs d s.n hsl (by omega)
    rw [← hq] at hbk
    by_cases hlast : d = D
    · subst hlast
      have hT := HE.out.there
      rw [HHS.out, ← hq] at hT
      have HQ := Lib.hid hq
      clear hq
      by_cases hf : s.ids q = id
      · have f1 : (s.ids q == (id : Int)) = true := beq_iff_eq.2 hf
        clear hf
        go_wp2
        refine bodyPost_ret (v := .tuple #[.int .i64 q, .bool true]) (by simp [results, Try.results21, go_sem]) rfl ⟨?_, rfl⟩
        rw [← HQ.out, f1]
      · have f1 : (s.ids q == (id : Int)) = false := beq_eq_false_iff_ne.2 hf
        have f2 : (s.ids q == -1) = true := beq_iff_eq.2 (by rcases hT with g | g; · exact absurd g hf
                                                             · exact g)
        clear hf hT
        go_wp2
        refine bodyPost_ret (v := .tuple #[.int .i64 q, .bool false]) (by simp [results, Try.results21, go_sem]) rfl ⟨?_, rfl⟩
        rw [← HQ.out, f1]
    · have hf := HE.out.first d (by omega)
      rw [HHS.out, ← hq] at hf
      have f1 : (s.ids q == (id : Int)) = false := beq_eq_false_iff_ne.2 hf.1
      have f2 : (s.ids q == -1) = false := beq_eq_false_iff_ne.2 hf.2
      have HQ := Lib.hid hq
      have hq1 : (q + 1) % s.n = (hs + (d + 1)) % s.n := by rw [hq, Nat.mod_add_mod]; rfl
      have HQ1 := Lib.hid hq1
      have hbk1 := back_steps hs (d + 1) s.n hsl (by omega)
      rw [← hq1] at hbk1
      have HB := Lib.hid hbk
      have HB1 := Lib.hid hbk1
      clear hq hf hq1 hbk hbk1
      go_wp2
      go_roundw
      case rel => exact ⟨by first | trivial | rfl, d + 1, (q + 1) % s.n, by omega, HQ1.out, rfl⟩
      case measure =>
        have e : (intOf (Value.int .i64 (((q : Int) + 1) % (s.n : Int)))).toNat = (q + 1) % s.n := rfl
        have e2 : (intOf (Value.int .i64 (q : Int))).toNat = q := rfl
        rw [e, e2, HB.out, HB1.out]
        omega
end Go.Proofs.Ytgnjjomfffmcaaa
