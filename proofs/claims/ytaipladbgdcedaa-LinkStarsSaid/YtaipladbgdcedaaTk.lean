/- Forests whose nodes are all there: the outer answers. No walk in sight. -/
import Derived.Test.YtaipladbgdcedaaGrown
set_option linter.unusedSimpArgs false
set_option linter.unusedVariables false
namespace Go.Proofs.Ytaipladbgdcedaa
open Go.RowKit

/-- All nodes from 1 to n are there. -/
structure Full (G : Fo) (n : Nat) : Prop where
  ok : FoOk G
  sz : G.n = n
  th : ∀ v, 1 ≤ v → v ≤ n → G.th v = true
theorem gro_full {n : Nat} {q : Nat → Nat} {z : Nat → Int} (hn : n ≤ 100) (hq : ∀ u, 1 ≤ u → q u < u) (hz : ∀ u, InW (z u)) : Full (Gro n q z n) n :=
  ⟨gro_ok (Nat.le_refl _) hn hq hz, rfl, fun v h1 h2 => (gro_th v).2 ⟨h1, h2⟩⟩
section
variable {G : Fo} {n : Nat}
theorem Full.has (F : Full G n) (v : Nat) (hv : v < n) : hasB G (v : Int) = true := by
  rw [hasB_nat, F.sz, F.th (v + 1) (by omega) (by omega), decide_eq_true_iff.2 hv]
  rfl
theorem Full.sub (F : Full G n) (v : Nat) (hv : v < n) : subC G (v : Int) = G.sub (v + 1) := by
  unfold subC
  rw [if_pos (F.has v hv), Int.toNat_natCast]
theorem Full.ssum (F : Full G n) (v : Nat) (hv : v < n) : subW G (v : Int) = G.ssum (v + 1) := by
  unfold subW
  rw [if_pos (F.has v hv), Int.toNat_natCast]
theorem Full.par (F : Full G n) (v : Nat) (hv : v < n) : parE G (v : Int) = (G.up (v + 1) : Int) - 1 := by
  unfold parE
  rw [if_pos (F.has v hv), Int.toNat_natCast]
theorem Full.root (F : Full G n) (v : Nat) (hv : v < n) : rootE G (v : Int) = (G.root (v + 1) : Int) - 1 := by
  unfold rootE
  rw [if_pos (F.has v hv), Int.toNat_natCast]
theorem Full.size (F : Full G n) (v : Nat) (hv : v < n) : sizeE G (v : Int) = G.sub (G.root (v + 1)) := by
  unfold sizeE
  rw [if_pos (F.has v hv), Int.toNat_natCast]
theorem Full.get (F : Full G n) (v : Nat) (hv : v < n) : getE G (v : Int) = G.wt (v + 1) := by
  unfold getE
  rw [if_pos (F.has v hv), Int.toNat_natCast]
theorem Full.same (F : Full G n) (a b : Nat) (ha : a < n) (hb : b < n) : sameB G (a : Int) (b : Int) = decide (G.root (a + 1) = G.root (b + 1)) := by
  unfold sameB
  rw [F.has a ha, F.has b hb, F.root a ha, F.root b hb]
  simp only [Bool.true_and]
  by_cases h : G.root (a + 1) = G.root (b + 1)
  · rw [h, decide_eq_true_iff.2 rfl]; simp
  · rw [decide_eq_false_iff_not.2 h]; exact beq_eq_false_iff_ne.2 (by omega)
theorem root_of_top (h : FoOk G) {v : Nat} (hv : G.th v = true) (h0 : G.up v = 0) : G.root v = v := by
  unfold Fo.root
  rw [h.above_cons v hv, h0, h.above0]
  rfl
theorem root_up (h : FoOk G) {v : Nat} (hv : G.th v = true) : G.up (G.root v) = 0 := by
  obtain ⟨k1, k2⟩ := root_bd h v hv
  obtain ⟨l, e⟩ := root_last h hv
  obtain ⟨l1, l2, e1, e2⟩ := up_suffix (h.above v hv).1 _ k2
  have hn := up_nodup (h.above v hv).1
  have hl2 : l2 = [] := by
    rcases List.eq_nil_or_concat l2 with e3 | ⟨m, s, e3⟩
    · exact e3
    · exfalso
      rw [List.concat_eq_append] at e3
      subst e3
      have e4 : l ++ [G.root v] = l1 ++ G.root v :: (m ++ [s]) := by rw [← e, ← e1]
      have e5 : l ++ [G.root v] = (l1 ++ G.root v :: m) ++ [s] := by rw [e4]; simp
      have e6 := (List.append_inj' e5 rfl).2
      have e7 : G.root v = s := by simpa using e6
      rw [e1] at hn
      have := (List.nodup_append.1 hn).2.1
      rw [List.nodup_cons] at this
      exact this.1 (by rw [e7]; simp)
  subst hl2
  exact e2.2.2
theorem root_eq_iff (h : FoOk G) {v : Nat} (hv : G.th v = true) : G.root v = v ↔ G.up v = 0 :=
  ⟨fun e => by have := root_up h hv; rw [e] at this; exact this, fun h0 => root_of_top h hv h0⟩
theorem root_mem (h : FoOk G) {u v : Nat} (hu : G.th u = true) (hv : v ∈ G.above u) : G.root u = G.root v := by
  obtain ⟨l1, l2, e1, e2⟩ := up_suffix (h.above u hu).1 v hv
  have hvt := h.mem_th u v hu hv
  have e3 := up_one (h.above v hvt).1 e2
  unfold Fo.root
  rw [e1, e3]
  have : (l1 ++ v :: l2).reverse = (v :: l2).reverse ++ l1.reverse := by simp
  rw [this]
  cases hr : (v :: l2).reverse with
  | nil => simp at hr
  | cons b m => rfl
/-- What is at or below a root: all of its tree. -/
theorem below_top (h : FoOk G) {r : Nat} (hr : G.th r = true) (h0 : G.up r = 0) (u : Nat) : isBelow G r u = true ↔ G.th u = true ∧ G.root u = r := by
  rw [isBelow_iff]
  constructor
  · rintro ⟨h1, h2⟩
    exact ⟨h1, by rw [root_mem h h1 h2, root_of_top h hr h0]⟩
  · rintro ⟨h1, h2⟩
    exact ⟨h1, by have := (root_bd h u h1).2; rw [h2] at this; exact this⟩
/-! ### What is below the kids, one by one -/
def kidsN (G : Fo) (v : Nat) (f : Nat → Int) (K : Nat) : Int := sumIf (kidB G v) f (List.range (K + 1))
theorem kidsN_zero (h : FoOk G) (v : Nat) (f : Nat → Int) : kidsN G v f 0 = 0 := by
  refine sumIf_none _ (fun u hu => ?_)
  have : u = 0 := by simp at hu; exact hu
  subst this
  unfold kidB
  cases h0 : G.th 0 with
  | false => rfl
  | true => have := h.rng 0 h0; omega
theorem kidsN_yes (K v : Nat) (f : Nat → Int) (ht : G.th (K + 1) = true) (hu : G.up (K + 1) = v) : kidsN G v f (K + 1) = kidsN G v f K + f (K + 1) := by
  unfold kidsN
  rw [sumIf_range _ _ (K + 1)]
  have : kidB G v (K + 1) = true := by unfold kidB; rw [ht, hu]; simp
  rw [if_pos this]
theorem kidsN_no (K v : Nat) (f : Nat → Int) (hu : G.up (K + 1) ≠ v) : kidsN G v f (K + 1) = kidsN G v f K := by
  unfold kidsN
  rw [sumIf_range _ _ (K + 1)]
  have : kidB G v (K + 1) = false := by
    unfold kidB
    have : (G.up (K + 1) == v) = false := beq_eq_false_iff_ne.2 hu
    rw [this, Bool.and_false]
  rw [this]
  simp
theorem kidsN_bd (h : FoOk G) (v K : Nat) (hK : K ≤ 100) : (-20000000000000000 ≤ kidsN G v G.sub K ∧ kidsN G v G.sub K ≤ 20000000000000000) ∧ -20000000000000000 ≤ kidsN G v G.ssum K ∧ kidsN G v G.ssum K ≤ 20000000000000000 := by
  have b1 := sumIf_far (f := kidB G v) (g := G.sub) (List.range (K + 1)) (fun u _ _ => by have := sub_bd h u; omega)
  have b2 := sumIf_far (f := kidB G v) (g := G.ssum) (List.range (K + 1)) (fun u _ _ => ssum_bd h u)
  rw [List.length_range] at b1 b2
  unfold kidsN
  omega
def isTop (G : Fo) (u : Nat) : Bool := G.th u && G.up u == 0
def topsN (G : Fo) (K : Nat) : Int := sumIf (isTop G) G.sub (List.range (K + 1))
theorem topsN_zero (h : FoOk G) : topsN G 0 = 0 := by
  refine sumIf_none _ (fun u hu => ?_)
  have : u = 0 := by simp at hu; exact hu
  subst this
  unfold isTop
  cases h0 : G.th 0 with
  | false => rfl
  | true => have := h.rng 0 h0; omega
theorem topsN_yes (K : Nat) (ht : G.th (K + 1) = true) (hu : G.up (K + 1) = 0) : topsN G (K + 1) = topsN G K + G.sub (K + 1) := by
  unfold topsN
  rw [sumIf_range _ _ (K + 1)]
  have : isTop G (K + 1) = true := by unfold isTop; rw [ht, hu]; simp
  rw [if_pos this]
theorem topsN_no (K : Nat) (hu : G.up (K + 1) ≠ 0) : topsN G (K + 1) = topsN G K := by
  unfold topsN
  rw [sumIf_range _ _ (K + 1)]
  have : isTop G (K + 1) = false := by
    unfold isTop
    have : (G.up (K + 1) == 0) = false := beq_eq_false_iff_ne.2 hu
    rw [this, Bool.and_false]
  rw [this]
  simp
theorem topsN_bd (h : FoOk G) (K : Nat) (hK : K ≤ 100) : -20000000000000000 ≤ topsN G K ∧ topsN G K ≤ 20000000000000000 := by
  have b1 := sumIf_far (f := isTop G) (g := G.sub) (List.range (K + 1)) (fun u _ _ => by have := sub_bd h u; omega)
  rw [List.length_range] at b1
  unfold topsN
  omega
theorem sumIf_ones (p : Nat → Bool) : ∀ l : List Nat, sumIf p (fun _ => 1) l = (l.countP p : Nat)
  | [] => rfl
  | a :: l => by
    show (if p a = true then 1 else 0) + sumIf p (fun _ => 1) l = _
    rw [sumIf_ones p l, List.countP_cons]
    by_cases h : p a = true
    · rw [if_pos h, if_pos h]; omega
    · rw [if_neg h, if_neg h]; omega
theorem topsN_all (h : FoOk G) : topsN G G.n = ((List.range (G.n + 1)).countP G.th : Nat) := by
  unfold topsN
  have e : sumIf (isTop G) G.sub (List.range (G.n + 1)) = sumIf (isTop G) (fun c => sumIf (isBelow G c) (fun _ => 1) (List.range (G.n + 1))) (List.range (G.n + 1)) :=
    sumIf_congr _ (fun c _ => ⟨rfl, fun _ => sub_sumIf G c⟩)
  rw [e, sum_swap, ← sumIf_ones, ← all_if G.th]
  refine sumIf_congr _ (fun u _ => ⟨rfl, fun _ => ?_⟩)
  by_cases hu : G.th u = true
  · rw [if_pos hu]
    obtain ⟨r1, r2⟩ := root_bd h u hu
    have hc := countP_one (p := fun c => isTop G c && isBelow G c u) (G.root u) (List.range (G.n + 1)) List.nodup_range (by have := h.rng _ r1; simp; omega) (fun c _ => by
      rw [Bool.and_eq_true]
      unfold isTop
      rw [Bool.and_eq_true, beq_iff_eq]
      constructor
      · rintro ⟨⟨k1, k2⟩, k3⟩
        exact ((below_top h k1 k2 u).1 k3).2.symm
      · intro e
        subst e
        exact ⟨⟨r1, root_up h hu⟩, (isBelow_iff G _ u).2 ⟨hu, r2⟩⟩)
    rw [hc]
    rfl
  · rw [if_neg hu]
    have hc : (List.range (G.n + 1)).countP (fun c => isTop G c && isBelow G c u) = 0 := List.countP_eq_zero.2 (fun c _ => by
      rw [Bool.and_eq_true]
      rintro ⟨_, k⟩
      exact hu ((isBelow_iff G c u).1 k).1)
    rw [hc]
    rfl
theorem countP_range1 (p : Nat → Bool) (h0 : p 0 = false) : ∀ n : Nat, (∀ v, 1 ≤ v → v ≤ n → p v = true) → (List.range (n + 1)).countP p = n
  | 0, _ => by simp [h0]
  | n + 1, h => by
    rw [List.range_succ, List.countP_append, countP_range1 p h0 n (fun v h1 h2 => h v h1 (by omega))]
    simp [h (n + 1) (by omega) (by omega)]
theorem Full.tops (F : Full G n) : topsN G n = (n : Int) := by
  have := topsN_all F.ok
  rw [F.sz] at this
  rw [this, countP_range1 G.th (by
    cases h0 : G.th 0 with
    | false => rfl
    | true => have := F.ok.rng 0 h0; omega) n F.th]
theorem Full.kids (F : Full G n) (v : Nat) (h1 : 1 ≤ v) (h2 : v ≤ n) : G.sub v = 1 + kidsN G v G.sub n ∧ G.ssum v = G.wt v + kidsN G v G.ssum n := by
  have k1 := kid_sub F.ok (F.th v h1 h2)
  have k2 := kid_ssum F.ok (F.th v h1 h2)
  rw [F.sz] at k1 k2
  exact ⟨k1, k2⟩
end
end Go.Proofs.Ytaipladbgdcedaa
