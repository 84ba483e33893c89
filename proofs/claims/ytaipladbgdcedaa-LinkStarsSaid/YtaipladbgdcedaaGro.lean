/- Forests whose nodes stand below nodes ahead of them. No walk in sight. -/
import Derived.Test.YtaipladbgdcedaaMj
set_option linter.unusedSimpArgs false
set_option linter.unusedVariables false
namespace Go.Proofs.Ytaipladbgdcedaa
open Go.RowKit

/-- The nodes 1 to k, each below the one that q names (0: a root). -/
def Gro (n : Nat) (q : Nat → Nat) (z : Nat → Int) (k : Nat) : Fo := ⟨n, fun u => decide (1 ≤ u ∧ u ≤ k), fun u => if 1 ≤ u ∧ u ≤ k then q u else 0, fun u => if 1 ≤ u ∧ u ≤ k then z u else 0⟩
theorem fo_eq {G H : Fo} (h1 : G.n = H.n) (h2 : ∀ u, G.th u = H.th u) (h3 : ∀ u, G.up u = H.up u) (h4 : ∀ u, G.wt u = H.wt u) : G = H := by
  obtain ⟨n, th, up, wt⟩ := G
  obtain ⟨n', th', up', wt'⟩ := H
  have e2 : th = th' := funext h2
  have e3 : up = up' := funext h3
  have e4 : wt = wt' := funext h4
  have e1 : n = n' := h1
  rw [e1, e2, e3, e4]
theorem low_way {up : Nat → Nat} {th : Nat → Bool} (hl : ∀ v, th v = true → up v < v) (hp : ∀ v, th v = true → up v ≠ 0 → th (up v) = true) (hr : ∀ v, th v = true → 1 ≤ v) : ∀ (k v : Nat), v ≤ k → th v = true → ∃ l, Up up v l ∧ l.length ≤ v ∧ ∀ a ∈ l, a ≤ v := by
  intro k
  induction k with
  | zero =>
    intro v hv ht
    have := hr v ht
    omega
  | succ k ih =>
    intro v hv ht
    have h1 := hl v ht
    have h2 := hr v ht
    by_cases h0 : up v = 0
    · refine ⟨[v], ⟨rfl, by omega, h0⟩, by simp; omega, by simp⟩
    · obtain ⟨l, k1, k2, k3⟩ := ih (up v) (by omega) (hp v ht h0)
      refine ⟨v :: l, ⟨rfl, by omega, k1⟩, by simp; omega, fun a ha => ?_⟩
      rcases List.mem_cons.1 ha with e | e
      · omega
      · have := k3 a e; omega
theorem low_ok {G : Fo} (rng : ∀ v, G.th v = true → 1 ≤ v ∧ v ≤ G.n) (low : ∀ v, G.th v = true → G.up v < v) (par : ∀ v, G.th v = true → G.up v ≠ 0 → G.th (G.up v) = true) (wts : ∀ v, G.th v = true → InW (G.wt v)) (off : ∀ v, G.th v = false → G.up v = 0) (small : G.n ≤ 100) : FoOk G := by
  refine ⟨rng, fun v hv => ?_, par, wts, off, small⟩
  obtain ⟨l, h1, h2, _⟩ := low_way low par (fun v hv => (rng v hv).1) v v (Nat.le_refl _) hv
  exact ⟨l, h1, by have := rng v hv; omega⟩
theorem low_above {G : Fo} (h : FoOk G) (low : ∀ v, G.th v = true → G.up v < v) (v : Nat) (hv : G.th v = true) : ∀ a ∈ G.above v, a ≤ v := by
  obtain ⟨l, h1, _, h3⟩ := low_way low h.par (fun v hv => (h.rng v hv).1) v v (Nat.le_refl _) hv
  have := up_one (h.above v hv).1 h1
  rw [this]
  exact h3
section
variable {n k : Nat} {q : Nat → Nat} {z : Nat → Int}
theorem gro_th (u : Nat) : (Gro n q z k).th u = true ↔ 1 ≤ u ∧ u ≤ k := decide_eq_true_iff
theorem gro_up (u : Nat) (h : 1 ≤ u ∧ u ≤ k) : (Gro n q z k).up u = q u := if_pos h
theorem gro_wt (u : Nat) (h : 1 ≤ u ∧ u ≤ k) : (Gro n q z k).wt u = z u := if_pos h
theorem gro_low (hq : ∀ u, 1 ≤ u → q u < u) (v : Nat) (hv : (Gro n q z k).th v = true) : (Gro n q z k).up v < v := by
  have h := (gro_th v).1 hv
  rw [gro_up v h]
  exact hq v h.1
theorem gro_ok (hk : k ≤ n) (hn : n ≤ 100) (hq : ∀ u, 1 ≤ u → q u < u) (hz : ∀ u, InW (z u)) : FoOk (Gro n q z k) := by
  refine low_ok (fun v hv => ?_) (gro_low hq) (fun v hv h0 => ?_) (fun v hv => ?_) (fun v hv => ?_) hn
  · have h := (gro_th v).1 hv
    exact ⟨h.1, Nat.le_trans h.2 hk⟩
  · have h := (gro_th v).1 hv
    rw [gro_up v h] at h0 ⊢
    have := hq v h.1
    exact (gro_th _).2 ⟨by omega, by omega⟩
  · rw [gro_wt v ((gro_th v).1 hv)]
    exact hz v
  · have h : ¬ (1 ≤ v ∧ v ≤ k) := fun h => by rw [(gro_th v).2 h] at hv; cases hv
    exact if_neg h
theorem gro_none : Gro n q z 0 = Fo.empty n := by
  have e : ∀ u, ¬ (1 ≤ u ∧ u ≤ 0) := fun u => by omega
  refine fo_eq rfl (fun u => ?_) (fun u => ?_) (fun u => ?_)
  · exact decide_eq_false_iff_not.2 (e u)
  · exact if_neg (e u)
  · exact if_neg (e u)
/-- The next node, by itself. -/
theorem gro_add (hk : k < n) : addOk (Gro n q z k) (k : Int) (z (k + 1)) = fitsB (z (k + 1)) := by
  unfold addOk
  have h1 : (Gro n q z k).th ((k : Int).toNat + 1) = false := by
    rw [Int.toNat_natCast]
    exact decide_eq_false_iff_not.2 (by omega)
  rw [h1]
  have : decide (0 ≤ (k : Int) ∧ (k : Int) < ((Gro n q z k).n : Int)) = true := decide_eq_true_iff.2 ⟨by omega, by show (k : Int) < (n : Int); omega⟩
  rw [this]
  rfl
theorem gro_addG (hk : k < n) (hz : InW (z (k + 1))) (h0 : q (k + 1) = 0) : addG (Gro n q z k) (k : Int) (z (k + 1)) = Gro n q z (k + 1) := by
  unfold addG
  rw [gro_add hk, if_pos (show fitsB (z (k + 1)) = true from decide_eq_true_iff.2 hz), Int.toNat_natCast]
  refine fo_eq rfl (fun u => ?_) (fun u => ?_) (fun u => ?_)
  · show (if u = k + 1 then true else decide (1 ≤ u ∧ u ≤ k)) = decide (1 ≤ u ∧ u ≤ k + 1)
    by_cases e : u = k + 1
    · rw [if_pos e]; exact (decide_eq_true_iff.2 (by omega)).symm
    · rw [if_neg e]
      by_cases h : 1 ≤ u ∧ u ≤ k
      · rw [decide_eq_true_iff.2 h, decide_eq_true_iff.2 (by omega)]
      · rw [decide_eq_false_iff_not.2 h, decide_eq_false_iff_not.2 (by omega)]
  · show (if 1 ≤ u ∧ u ≤ k then q u else 0) = if 1 ≤ u ∧ u ≤ k + 1 then q u else 0
    by_cases e : u = k + 1
    · subst e; rw [if_neg (by omega), if_pos (by omega), h0]
    · by_cases h : 1 ≤ u ∧ u ≤ k
      · rw [if_pos h, if_pos (by omega)]
      · rw [if_neg h, if_neg (by omega)]
  · show (if u = k + 1 then z (k + 1) else (if 1 ≤ u ∧ u ≤ k then z u else 0)) = if 1 ≤ u ∧ u ≤ k + 1 then z u else 0
    by_cases e : u = k + 1
    · subst e; rw [if_pos rfl, if_pos (by omega)]
    · rw [if_neg e]
      by_cases h : 1 ≤ u ∧ u ≤ k
      · rw [if_pos h, if_pos (by omega)]
      · rw [if_neg h, if_neg (by omega)]
end
theorem linkOk_of {G : Fo} {i j : Nat} (hi : i < G.n) (hj : j < G.n) (h : LkOk G (i + 1) (j + 1)) : linkOk G (i : Int) (j : Int) = true := by
  have h1 : hasB G (i : Int) = true := by rw [hasB_nat, h.tc, decide_eq_true_iff.2 hi]; rfl
  have h2 : hasB G (j : Int) = true := by rw [hasB_nat, h.tp, decide_eq_true_iff.2 hj]; rfl
  have h3 : parE G (i : Int) < 0 := by
    unfold parE
    rw [if_pos h1, Int.toNat_natCast, h.r]
    omega
  have h4 : sameB G (i : Int) (j : Int) = false := by
    unfold sameB rootE
    rw [h1, h2, if_pos rfl, if_pos rfl, Int.toNat_natCast, Int.toNat_natCast]
    have r1 : G.root (i + 1) = i + 1 := by
      unfold Fo.root
      rw [h.ok.above_cons _ h.tc, h.r, h.ok.above0]
      rfl
    have r2 := root_bd h.ok (j + 1) h.tp
    have : G.root (j + 1) ≠ i + 1 := fun e => h.n (e ▸ r2.2)
    rw [r1]
    simp only [Bool.true_and]
    exact beq_eq_false_iff_ne.2 (by omega)
  unfold linkOk
  rw [h1, h2, h4, decide_eq_true_iff.2 h3]
  rfl
theorem gro_lk {n k : Nat} {q : Nat → Nat} {z : Nat → Int} (hk : k < n) (hn : n ≤ 100) (hq : ∀ u, 1 ≤ u → q u < u) (hz : ∀ u, InW (z u)) (p : Nat) (hp : p < k) (q0 : q (k + 1) = 0) : linkOk (Gro n q z (k + 1)) (k : Int) (p : Int) = true := by
  have hok := gro_ok (z := z) (show k + 1 ≤ n by omega) hn hq hz
  refine linkOk_of (by show k < n; omega) (by show p < n; omega) ⟨hok, (gro_th _).2 (by omega), (gro_th _).2 (by omega), ?_, fun hm => ?_⟩
  · rw [gro_up _ (by omega), q0]
  · have := low_above hok (gro_low hq) (p + 1) ((gro_th _).2 (by omega)) _ hm
    omega
theorem gro_linkG {n k : Nat} {q : Nat → Nat} {z : Nat → Int} (hk : k < n) (hn : n ≤ 100) (hq : ∀ u, 1 ≤ u → q u < u) (hz : ∀ u, InW (z u)) (p : Nat) (hp : p < k) (q0 : q (k + 1) = 0) (q' : Nat → Nat) (h1 : ∀ u, u ≠ k + 1 → q' u = q u) (h2 : q' (k + 1) = p + 1) :
    linkG (Gro n q z (k + 1)) (k : Int) (p : Int) = Gro n q' z (k + 1) := by
  unfold linkG
  rw [gro_lk hk hn hq hz p hp q0, if_pos rfl, Int.toNat_natCast, Int.toNat_natCast]
  refine fo_eq rfl (fun u => rfl) (fun u => ?_) (fun u => rfl)
  show (if u = k + 1 then p + 1 else (if 1 ≤ u ∧ u ≤ k + 1 then q u else 0)) = if 1 ≤ u ∧ u ≤ k + 1 then q' u else 0
  by_cases e : u = k + 1
  · subst e; rw [if_pos rfl, if_pos (by omega), h2]
  · rw [if_neg e]
    by_cases h : 1 ≤ u ∧ u ≤ k + 1
    · rw [if_pos h, if_pos h, h1 u e]
    · rw [if_neg h, if_neg h]
theorem gro_congr {n k : Nat} {q q' : Nat → Nat} {z z' : Nat → Int} (h1 : ∀ u, 1 ≤ u → u ≤ k → q' u = q u) (h2 : ∀ u, 1 ≤ u → u ≤ k → z' u = z u) : Gro n q' z' k = Gro n q z k := by
  refine fo_eq rfl (fun u => rfl) (fun u => ?_) (fun u => ?_)
  · show (if 1 ≤ u ∧ u ≤ k then q' u else 0) = if 1 ≤ u ∧ u ≤ k then q u else 0
    by_cases h : 1 ≤ u ∧ u ≤ k
    · rw [if_pos h, if_pos h, h1 u h.1 h.2]
    · rw [if_neg h, if_neg h]
  · show (if 1 ≤ u ∧ u ≤ k then z' u else 0) = if 1 ≤ u ∧ u ≤ k then z u else 0
    by_cases h : 1 ≤ u ∧ u ≤ k
    · rw [if_pos h, if_pos h, h2 u h.1 h.2]
    · rw [if_neg h, if_neg h]
/-- One node more: by itself, then below the one that it names. -/
theorem gro_step {n k : Nat} {q : Nat → Nat} {z : Nat → Int} (hk : k < n) (hn : n ≤ 100) (hq : ∀ u, 1 ≤ u → q u < u) (hz : ∀ u, InW (z u)) :
    addOk (Gro n q z k) (k : Int) (z (k + 1)) = true ∧ (q (k + 1) = 0 → addG (Gro n q z k) (k : Int) (z (k + 1)) = Gro n q z (k + 1)) ∧
    (∀ p, q (k + 1) = p + 1 → ∃ G1, addG (Gro n q z k) (k : Int) (z (k + 1)) = G1 ∧ linkOk G1 (k : Int) (p : Int) = true ∧ linkG G1 (k : Int) (p : Int) = Gro n q z (k + 1)) := by
  refine ⟨?_, fun h0 => gro_addG hk (hz _) h0, fun p hp => ?_⟩
  · rw [gro_add hk]; exact decide_eq_true_iff.2 (hz _)
  · have hp2 : p < k := by have := hq (k + 1) (by omega); omega
    have hq2 : ∀ u, 1 ≤ u → (fun u => if u = k + 1 then 0 else q u) u < u := fun u hu => by
      show (if u = k + 1 then 0 else q u) < u
      split
      · omega
      · exact hq u hu
    have e : Gro n q z k = Gro n (fun u => if u = k + 1 then 0 else q u) z k := gro_congr (fun u _ hu => by rw [if_neg (by omega)]) (fun _ _ _ => rfl)
    refine ⟨Gro n (fun u => if u = k + 1 then 0 else q u) z (k + 1), ?_, ?_, ?_⟩
    · rw [e]
      exact gro_addG (q := fun u => if u = k + 1 then 0 else q u) hk (hz _) (if_pos rfl)
    · exact gro_lk hk hn hq2 hz p hp2 (if_pos rfl)
    · exact gro_linkG hk hn hq2 hz p hp2 (if_pos rfl) q (fun u hu => (if_neg hu).symm) hp
end Go.Proofs.Ytaipladbgdcedaa
