/- A forest whose links are made from the last node on; two forests side by side. No walk in sight. -/
import Derived.Test.YtaipladbgdcedaaTk
set_option linter.unusedSimpArgs false
set_option linter.unusedVariables false
namespace Go.Proofs.Ytaipladbgdcedaa
open Go.RowKit

/-- The links of the nodes from j on. -/
def ordQ (q : Nat → Nat) (j u : Nat) : Nat := if j ≤ u then q u else 0
section
variable {n : Nat} {q : Nat → Nat} {z : Nat → Int}
theorem ordQ_low (hq : ∀ u, 1 ≤ u → q u < u) (j u : Nat) (hu : 1 ≤ u) : ordQ q j u < u := by
  unfold ordQ
  split
  · exact hq u hu
  · omega
theorem ord_none : Gro n (fun _ => 0) z n = Gro n (ordQ q (n + 1)) z n := gro_congr (fun u h1 h2 => by unfold ordQ; rw [if_neg (by omega)]) (fun _ _ _ => rfl)
theorem ord_all (h1 : q 1 = 0) : Gro n (ordQ q 2) z n = Gro n q z n := gro_congr (fun u k1 k2 => by
  unfold ordQ
  by_cases e : 2 ≤ u
  · rw [if_pos e]
  · rw [if_neg e]
    have : u = 1 := by omega
    subst this
    exact h1.symm) (fun _ _ _ => rfl)
theorem ord_skip {i : Nat} (h : q (i + 1) = 0) : Gro n (ordQ q (i + 2)) z n = Gro n (ordQ q (i + 1)) z n := gro_congr (fun u k1 k2 => by
  unfold ordQ
  by_cases e : i + 2 ≤ u
  · rw [if_pos e, if_pos (by omega)]
  · rw [if_neg e]
    by_cases e2 : i + 1 ≤ u
    · have : u = i + 1 := by omega
      subst this
      rw [if_pos e2, h]
    · rw [if_neg e2]) (fun _ _ _ => rfl)
theorem ord_link (hn : n ≤ 100) (hq : ∀ u, 1 ≤ u → q u < u) (hz : ∀ u, InW (z u)) {i p : Nat} (hi : i < n) (hp : q (i + 1) = p + 1) : linkOk (Gro n (ordQ q (i + 2)) z n) (i : Int) (p : Int) = true ∧ linkG (Gro n (ordQ q (i + 2)) z n) (i : Int) (p : Int) = Gro n (ordQ q (i + 1)) z n := by
  have hpi : p < i := by have := hq (i + 1) (by omega); omega
  have hq2 := fun u hu => ordQ_low hq (i + 2) u hu
  have hok := gro_ok (n := n) (k := n) (q := ordQ q (i + 2)) (z := z) (Nat.le_refl _) hn hq2 hz
  have hlk : linkOk (Gro n (ordQ q (i + 2)) z n) (i : Int) (p : Int) = true := by
    refine linkOk_of (by show i < n; exact hi) (by show p < n; omega) ⟨hok, (gro_th _).2 (by omega), (gro_th _).2 (by omega), ?_, fun hm => ?_⟩
    · rw [gro_up _ (by omega)]
      unfold ordQ
      rw [if_neg (by omega)]
    · have := low_above hok (gro_low hq2) (p + 1) ((gro_th _).2 (by omega)) _ hm
      omega
  refine ⟨hlk, ?_⟩
  unfold linkG
  rw [if_pos hlk, Int.toNat_natCast, Int.toNat_natCast]
  refine fo_eq rfl (fun u => rfl) (fun u => ?_) (fun u => rfl)
  show (if u = i + 1 then p + 1 else (if 1 ≤ u ∧ u ≤ n then ordQ q (i + 2) u else 0)) = if 1 ≤ u ∧ u ≤ n then ordQ q (i + 1) u else 0
  unfold ordQ
  by_cases e : u = i + 1
  · subst e
    rw [if_pos rfl, if_pos (by omega), if_pos (by omega), hp]
  · rw [if_neg e]
    by_cases h : 1 ≤ u ∧ u ≤ n
    · rw [if_pos h, if_pos h]
      by_cases h2 : i + 2 ≤ u
      · rw [if_pos h2, if_pos (by omega)]
      · rw [if_neg h2, if_neg (by omega)]
    · rw [if_neg h, if_neg h]
end
/-- Two forests side by side. -/
structure Two (w wr : World) (F1 A1 F2 A2 m : Nat) (G H : Fo) : Prop where
  a : LF wr F1 A1 m G
  b : LF wr F2 A2 m H
  t : Tch [] w wr
  g1 : w.heap.size ≤ A1
  g2 : w.heap.size ≤ A2
  n1 : F1 ≠ A2
  n2 : A1 ≠ A2
  n3 : F2 ≠ A1
section
variable {w wr wx : World} {F1 A1 F2 A2 m : Nat} {G H G' : Fo}
theorem Two.one (h : Two w wr F1 A1 F2 A2 m G H) (k : LPost wr F1 A1 m G' wx) : Two w wx F1 A1 F2 A2 m G' H :=
  ⟨k.1, h.b.tch k.2 (by simpa using h.n3) (by simpa using Ne.symm h.n2), tch_own h.t k.2 h.g1, h.g1, h.g2, h.n1, h.n2, h.n3⟩
theorem Two.two (h : Two w wr F1 A1 F2 A2 m G H) (k : LPost wr F2 A2 m G' wx) : Two w wx F1 A1 F2 A2 m G G' :=
  ⟨h.a.tch k.2 (by simpa using h.n1) (by simpa using h.n2), k.1, tch_own h.t k.2 h.g2, h.g1, h.g2, h.n1, h.n2, h.n3⟩
theorem Two.on (h : Two w wr F1 A1 F2 A2 m G H) (t : Tch [] wr wx) : Two w wx F1 A1 F2 A2 m G H :=
  ⟨h.a.quiet t, h.b.quiet t, h.t.trans t, h.g1, h.g2, h.n1, h.n2, h.n3⟩
end
end Go.Proofs.Ytaipladbgdcedaa
