/- Ways in forests whose root is another one: the same edges, the same ways. No walk in sight. -/
import Derived.Test.YtaipladbgdcedaaCm
set_option linter.unusedSimpArgs false
set_option linter.unusedVariables false
namespace Go.Proofs.Ytaipladbgdcedaa
open Go.RowKit

section
variable {G : Fo}
/-- A forest is known by its edges and its roots. -/
theorem fo_edges {H K : Fo} (hH : FoOk H) (hK : FoOk K) (hn : H.n = K.n) (hth : ∀ u, H.th u = K.th u) (hwt : ∀ u, H.wt u = K.wt u) (h0 : ∀ u, H.th u = true → H.up u = 0 → K.up u = 0)
    (h1 : ∀ u, H.th u = true → H.up u ≠ 0 → K.up u = H.up u ∨ K.up (H.up u) = u) : H = K := by
  have key : ∀ d u, H.th u = true → H.dp u ≤ d → H.up u = K.up u := by
    intro d
    induction d with
    | zero =>
      intro u hu hd
      have := hH.dp_up u hu
      omega
    | succ d ih =>
      intro u hu hd
      by_cases hz : H.up u = 0
      · rw [hz, h0 u hu hz]
      · have e1 := hH.dp_up u hu
        have hp := hH.par u hu hz
        have e2 := ih (H.up u) hp (by omega)
        rcases h1 u hu hz with k | k
        · exact k.symm
        · exfalso
          have e3 := hH.dp_up (H.up u) hp
          rw [e2, k] at e3
          omega
  refine fo_eq hn hth (fun u => ?_) hwt
  cases hu : H.th u with
  | true => exact key _ u hu (Nat.le_refl _)
  | false => rw [hH.off u hu, hK.off u (by rw [← hth]; exact hu)]
theorem ev_edge (h : FoOk G) {x : Nat} (hx : G.th x = true) (u : Nat) (hu : (G.ev x).up u ≠ 0) : G.up u = (G.ev x).up u ∨ G.up ((G.ev x).up u) = u := by
  by_cases hm : u ∈ G.above x
  · right
    obtain ⟨l1, l2, e1, e2⟩ := up_suffix (h.above x hx).1 u hm
    rw [ev_up_on h hx e1] at hu ⊢
    rcases List.eq_nil_or_concat l1 with e | ⟨m, s, e⟩
    · subst e; exact absurd rfl hu
    · rw [List.concat_eq_append] at e
      subst e
      rw [lst_snoc]
      obtain ⟨m1, m2, f1, f2⟩ := up_suffix (h.above x hx).1 s (by rw [e1]; simp)
      have hn := up_nodup (h.above x hx).1
      have e3 : m ++ s :: (u :: l2) = m1 ++ s :: m2 := by rw [← f1, e1]; simp
      have e4 : u :: l2 = m2 := split_one m m1 (by have := hn; rw [e1] at this; simpa using this) e3
      subst e4
      have f3 : Up G.up (G.up s) (u :: l2) := f2.2.2
      exact f3.1.symm
  · left
    show G.up u = if u ∈ G.above x then prv 0 (G.above x) u else G.up u
    rw [if_neg hm]
theorem ev_edge2 (h : FoOk G) {x : Nat} (hx : G.th x = true) (u : Nat) (hu : G.up u ≠ 0) : (G.ev x).up u = G.up u ∨ (G.ev x).up (G.up u) = u := by
  by_cases hm : u ∈ G.above x
  · right
    obtain ⟨l1, l2, e1, e2⟩ := up_suffix (h.above x hx).1 u hm
    have f3 : Up G.up (G.up u) l2 := e2.2.2
    cases l2 with
    | nil => exact absurd f3 hu
    | cons b l2 =>
      have e3 : G.above x = (l1 ++ [u]) ++ G.up u :: l2 := by rw [e1, ← f3.1]; simp
      rw [ev_up_on h hx e3, lst_snoc]
  · left
    show (if u ∈ G.above x then prv 0 (G.above x) u else G.up u) = G.up u
    rw [if_neg hm]
theorem root_of_up (h : FoOk G) {u r : Nat} (hu : G.th u = true) {l : List Nat} (e : G.above u = l ++ [r]) : G.root u = r := by
  unfold Fo.root
  rw [e]
  simp [hd]
/-- Which node is the root now. -/
theorem ev_root (h : FoOk G) {x : Nat} (hx : G.th x = true) (u : Nat) (hu : G.th u = true) : (G.root u = G.root x → (G.ev x).root u = x) ∧ (G.root u ≠ G.root x → (G.ev x).root u = G.root u ∧ (G.ev x).above u = G.above u) := by
  rcases meet h hx u hu with ⟨h1, h2⟩ | ⟨P, t, l1, l2, h1, e1, e2, h2⟩
  · have ea := ev_above_of h hx u h2 hu
    refine ⟨fun e => ?_, fun _ => ⟨by unfold Fo.root; rw [ea], ea⟩⟩
    exfalso
    have r1 := (root_bd h u hu).2
    have r2 := (root_bd h x hx).2
    rw [← e] at r2
    exact h1 _ r1 r2
  · have ea := ev_above_of h hx u h2 hu
    have hx1 : ∃ m, (G.ev x).above u = m ++ [x] := by
      rw [ea]
      have hxs := h.above_cons x hx
      rcases List.eq_nil_or_concat l1.reverse with e | ⟨m, s, e⟩
      · have e' : l1 = [] := by simpa using e
        subst e'
        rw [e2] at hxs
        have : t = x := by simpa using (List.cons.inj hxs).1
        subst this
        exact ⟨P, by simp⟩
      · rw [List.concat_eq_append] at e
        have e' : l1 = s :: m.reverse := by
          have := congrArg List.reverse e
          simpa using this
        rw [e2, e'] at hxs
        have : s = x := by simpa using (List.cons.inj hxs).1
        subst this
        exact ⟨P ++ t :: m, by rw [e]; simp⟩
    obtain ⟨m, hm⟩ := hx1
    have hr : (G.ev x).root u = x := root_of_up (ev_ok h hx) hu hm
    refine ⟨fun _ => hr, fun ne => absurd ?_ ne⟩
    have m1 : t ∈ G.above u := by rw [e1]; simp
    have m2 : t ∈ G.above x := by rw [e2]; simp
    rw [root_mem h hu m1, root_mem h hx m2]
theorem ev_same (h : FoOk G) {x : Nat} (hx : G.th x = true) (a b : Nat) (ha : G.th a = true) (hb : G.th b = true) : (G.ev x).root a = (G.ev x).root b ↔ G.root a = G.root b := by
  obtain ⟨a1, a2⟩ := ev_root h hx a ha
  obtain ⟨b1, b2⟩ := ev_root h hx b hb
  by_cases ea : G.root a = G.root x
  · by_cases eb : G.root b = G.root x
    · rw [a1 ea, b1 eb, ea, eb]; simp
    · rw [a1 ea, (b2 eb).1]
      constructor
      · intro e
        exfalso
        apply eb
        have k := root_bd h b hb
        have k2 := root_mem h hb k.2
        rw [← e] at k2
        exact e.symm.trans k2
      · intro e
        exact absurd (e.symm.trans ea) eb
  · by_cases eb : G.root b = G.root x
    · rw [b1 eb, (a2 ea).1]
      constructor
      · intro e
        exfalso
        apply ea
        have k := root_bd h a ha
        have k2 := root_mem h ha k.2
        rw [e] at k2
        exact e.trans k2
      · intro e
        exact absurd (e.trans eb) ea
    · rw [(a2 ea).1, (b2 eb).1]
/-- Made the root, one behind the other: as if at once. -/
theorem ev_ev (h : FoOk G) {x y : Nat} (hx : G.th x = true) (hy : G.th y = true) (hs : G.root x = G.root y) : (G.ev x).ev y = G.ev y := by
  have h1 := ev_ok h hx
  have hy1 : (G.ev x).th y = true := hy
  refine fo_edges (ev_ok h1 hy1) (ev_ok h hy) rfl (fun _ => rfl) (fun _ => rfl) (fun u hu h0 => ?_) (fun u hu h0 => ?_)
  · have hu' : G.th u = true := hu
    have r0 := root_of_top (ev_ok h1 hy1) hu h0
    obtain ⟨k1, k2⟩ := ev_root h1 hy1 u hu
    by_cases e : G.root u = G.root y
    · have e2 : (G.ev x).root u = (G.ev x).root y := (ev_same h hx u y hu' hy).2 e
      have := k1 e2
      rw [r0] at this
      subst this
      have r1 := (ev_root h hy u hu').1 rfl
      exact (root_eq_iff (ev_ok h hy) hu').1 r1
    · have e2 : (G.ev x).root u ≠ (G.ev x).root y := fun e3 => e ((ev_same h hx u y hu' hy).1 e3)
      have k3 := (k2 e2).1
      rw [r0] at k3
      have k4 := ((ev_root h hx u hu').2 (by rw [hs]; exact e)).1
      rw [k4] at k3
      have k5 := ((ev_root h hy u hu').2 e).1
      rw [← k3] at k5
      exact (root_eq_iff (ev_ok h hy) hu').1 k5
  · have two : ∀ a b : Nat, b ≠ 0 → G.up a = b → (G.ev y).up a = b ∨ (G.ev y).up b = a := fun a b hb e => by
      have := ev_edge2 h hy a (by rw [e]; exact hb)
      rw [e] at this
      exact this
    have hu0 := h.nz u hu
    rcases ev_edge h1 hy1 u h0 with k | k
    · have k' : (G.ev x).up u ≠ 0 := by rw [k]; exact h0
      have := ev_edge h hx u k'
      rw [k] at this
      rcases this with j | j
      · exact two u _ h0 j
      · exact (two _ u hu0 j).symm
    · have := ev_edge h hx (((G.ev x).ev y).up u) (by rw [k]; exact hu0)
      rw [k] at this
      rcases this with j | j
      · exact (two _ u hu0 j).symm
      · exact two u _ h0 j
/-- A way, from its other end. -/
theorem way_back (h : FoOk G) {a b : Nat} (ha : G.th a = true) (hb : G.th b = true) (hs : G.root a = G.root b) : (G.ev b).above a = ((G.ev a).above b).reverse := by
  have h1 := ev_ok h ha
  have hb1 : (G.ev a).th b = true := hb
  have hr : (G.ev a).root b = a := (ev_root h ha b hb).1 hs.symm
  obtain ⟨l, hl⟩ := root_last h1 hb1
  rw [hr] at hl
  have := ev_on h1 hb1 l.length l [] a rfl (by rw [hl])
  have e := ev_above_of h1 hb1 a this ha
  rw [ev_ev h ha hb hs] at e
  rw [e, hl]
  simp
theorem psum_back (h : FoOk G) {a b : Nat} (ha : G.th a = true) (hb : G.th b = true) (hs : G.root a = G.root b) : G.psum b a = G.psum a b := by
  unfold Fo.psum
  rw [way_back h ha hb hs, List.map_reverse, sumL_rev]
theorem psum_ev (h : FoOk G) {x a b : Nat} (hx : G.th x = true) (ha : G.th a = true) (hs : G.root x = G.root a) : (G.ev x).psum a b = G.psum a b := by
  unfold Fo.psum
  rw [ev_ev h hx ha hs]
  rfl
/-- A way by the lowest node above both ends. -/
theorem way_split (h : FoOk G) {a b : Nat} (ha : G.th a = true) (hb : G.th b = true) (hs : G.root a = G.root b) : ∃ P t l, G.lca a b = t ∧ G.th t = true ∧ t ∈ G.above a ∧ t ∈ G.above b ∧ (G.ev a).above b = P ++ t :: l ∧ (G.ev a).above t = t :: l ∧ (G.ev t).above b = P ++ [t] := by
  rcases meet h ha b hb with ⟨h1, h2⟩ | ⟨P, t, l1, l2, h1, e1, e2, h2⟩
  · exfalso
    have r1 := (root_bd h b hb).2
    have r2 := (root_bd h a ha).2
    rw [hs] at r2
    exact h1 _ r1 r2
  · have m1 : t ∈ G.above b := by rw [e1]; simp
    have m2 : t ∈ G.above a := by rw [e2]; simp
    have ht := h.mem_th a t ha m2
    refine ⟨P, t, l1.reverse, lca_of e1 m2 h1, ht, m2, m1, ev_above_of h ha b h2 hb, ev_above_of h ha t (ev_on h ha _ l1 l2 t rfl e2) ht, ?_⟩
    obtain ⟨k1, k2, f1, f2⟩ := up_suffix (h.above a ha).1 t m2
    have hn := up_nodup (h.above b hb).1
    rw [e1] at hn
    have hna := up_nodup (h.above a ha).1
    have e3 : l2 = k2 := split_one l1 k1 (by rw [← e2]; exact hna) (by rw [← e2, ← f1])
    subst e3
    have e4 : G.above t = t :: l2 := up_one (h.above t ht).1 f2
    have hP : ∀ u ∈ P, u ∉ G.above t := fun u hu hm => by
      rw [e4] at hm
      exact (List.nodup_append.1 hn).2.2 u hu u hm rfl
    refine ev_above_of h ht b (ev_off h ht (t :: l2) [t] P b hP (by rw [← e1]; exact (h.above b hb).1) (fun t' ht' => ?_)) hb
    obtain ⟨rfl, h3, _⟩ := ht'
    refine ⟨rfl, h3, ?_⟩
    show (G.ev t).up t = 0
    rw [ev_up_on h ht (l1 := []) (l2 := l2) e4]
    rfl
end
/-- Of two ways that meet in one node. -/
theorem sum_meet (A B : List Int) (z : Int) : (sumL (z :: B)).c + (sumL (A ++ [z])).c - 1 = (sumL (A ++ z :: B)).c ∧ (sumL (z :: B)).s + (sumL (A ++ [z])).s - z = (sumL (A ++ z :: B)).s ∧ min (sumL (z :: B)).mn (sumL (A ++ [z])).mn = (sumL (A ++ z :: B)).mn ∧ max (sumL (z :: B)).mx (sumL (A ++ [z])).mx = (sumL (A ++ z :: B)).mx := by
  have e1 : sumL (z :: B) = ej (Sm.one z) (sumL B) := rfl
  have e2 : sumL (A ++ [z]) = ej (sumL A) (Sm.one z) := by rw [sumL_append, sumL_one]
  have e3 : sumL (A ++ z :: B) = ej (sumL A) (ej (Sm.one z) (sumL B)) := by rw [sumL_append]; rfl
  rw [e1, e2, e3]
  have nA := sumL_nn A
  have nB := sumL_nn B
  generalize sumL A = p at *
  generalize sumL B = q at *
  obtain ⟨p0, p1, p2, p3⟩ := p
  obtain ⟨q0, q1, q2, q3⟩ := q
  simp only [] at nA nB
  unfold ej Sm.one
  by_cases h1 : p0 = 0
  · by_cases h2 : q0 = 0
    · simp [h1, h2]
    · have h3 : ¬ (1 + q0 = 0) := by omega
      simp [h1, h2, h3] <;> omega
  · by_cases h2 : q0 = 0
    · have h3 : ¬ (p0 + 1 = 0) := by omega
      simp [h1, h2, h3] <;> omega
    · have h3 : ¬ (1 + q0 = 0) := by omega
      have h4 : ¬ (p0 + 1 = 0) := by omega
      simp [h1, h2, h3, h4] <;> omega
end Go.Proofs.Ytaipladbgdcedaa
