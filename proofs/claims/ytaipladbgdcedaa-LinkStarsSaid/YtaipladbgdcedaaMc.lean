/- Splay trees, and the walk of splay. No condition of its own. -/
import Derived.Test.YtaipladbgdcedaaMb
set_option linter.unusedSimpArgs false
set_option linter.unusedVariables false
namespace Go.Proofs.Ytaipladbgdcedaa
open Go.RowKit

/-- A splay tree's shape. -/
inductive T where
  | nil
  | node (l : T) (x : Nat) (r : T)
def T.rt : T → Nat
  | .nil => 0
  | .node _ x _ => x
def T.ord : T → List Nat
  | .nil => []
  | .node l x r => l.ord ++ x :: r.ord

/-- Sums without the machine's ends. -/
def ej (a b : Sm) : Sm := if a.c = 0 then b else if b.c = 0 then a else ⟨a.c + b.c, a.s + b.s, min a.mn b.mn, max a.mx b.mx⟩
def sumL : List Int → Sm
  | [] => ⟨0, 0, 0, 0⟩
  | a :: l => ej (Sm.one a) (sumL l)
theorem sumL_c (l : List Int) : (sumL l).c = l.length := by
  induction l with
  | nil => rfl
  | cons a l ih =>
    unfold sumL ej Sm.one
    simp only [Int.one_ne_zero, if_false]
    split
    · rename_i h; rw [ih] at h; simp; omega
    · simp; omega
theorem sumL_pos (a : Int) (l : List Int) : (sumL (a :: l)).c ≠ 0 := by rw [sumL_c]; simp; omega
theorem ej_assoc (a b c : Sm) (ha : 0 ≤ a.c) (hb : 0 ≤ b.c) (hc : 0 ≤ c.c) : ej (ej a b) c = ej a (ej b c) := by
  obtain ⟨a0, a1, a2, a3⟩ := a
  obtain ⟨b0, b1, b2, b3⟩ := b
  obtain ⟨c0, c1, c2, c3⟩ := c
  simp only [] at ha hb hc
  unfold ej
  by_cases h1 : a0 = 0
  · simp [h1]
  · by_cases h2 : b0 = 0
    · simp [h1, h2]
    · by_cases h3 : c0 = 0
      · simp [h1, h2, h3]
        intro h4; omega
      · have e1 : ¬ a0 + b0 = 0 := by omega
        have e2 : ¬ b0 + c0 = 0 := by omega
        simp [h1, h2, h3, e1, e2]
        omega
theorem ej_comm (a b : Sm) (ha : a.c = 0 → a = ⟨0, 0, 0, 0⟩) (hb : b.c = 0 → b = ⟨0, 0, 0, 0⟩) : ej a b = ej b a := by
  unfold ej
  by_cases h1 : a.c = 0
  · by_cases h2 : b.c = 0
    · rw [ha h1, hb h2]
    · simp [h1, h2]
  · by_cases h2 : b.c = 0
    · simp [h1, h2]
    · simp [h1, h2]
      omega
theorem sumL_zero (l : List Int) (h : (sumL l).c = 0) : sumL l = ⟨0, 0, 0, 0⟩ := by
  cases l with
  | nil => rfl
  | cons a l => exact absurd h (sumL_pos a l)
theorem sumL_nn (l : List Int) : 0 ≤ (sumL l).c := by rw [sumL_c]; omega
theorem sumL_append (l m : List Int) : sumL (l ++ m) = ej (sumL l) (sumL m) := by
  induction l with
  | nil => simp [sumL, ej]
  | cons a l ih =>
    show ej (Sm.one a) (sumL (l ++ m)) = ej (ej (Sm.one a) (sumL l)) (sumL m)
    rw [ih, ej_assoc _ _ _ (by simp [Sm.one]) (sumL_nn l) (sumL_nn m)]
theorem sumL_one (a : Int) : sumL [a] = Sm.one a := by simp [sumL, ej, Sm.one]
theorem sumL_rev (l : List Int) : sumL l.reverse = sumL l := by
  induction l with
  | nil => rfl
  | cons a l ih =>
    rw [List.reverse_cons, sumL_append, ih, sumL_one]
    show ej (sumL l) (Sm.one a) = ej (Sm.one a) (sumL l)
    exact ej_comm _ _ (sumL_zero l) (fun h => by simp [Sm.one] at h)
/-- Weights lie between these ends. -/
def InW (z : Int) : Prop := -1099511627776 ≤ z ∧ z ≤ 1099511627776
theorem sumL_bd (l : List Int) (h : ∀ a ∈ l, InW a) : -1099511627776 * (l.length : Int) ≤ (sumL l).s ∧ (sumL l).s ≤ 1099511627776 * (l.length : Int) ∧ InW (sumL l).mn ∧ InW (sumL l).mx := by
  induction l with
  | nil => simp [sumL, InW]
  | cons a l ih =>
    obtain ⟨i1, i2, i3, i4⟩ := ih (fun b hb => h b (List.mem_cons_of_mem _ hb))
    have ha := h a (by simp)
    unfold sumL ej Sm.one
    unfold InW at *
    simp only [Int.one_ne_zero, if_false, List.length_cons]
    split
    · simp only []; omega
    · simp only []; omega
theorem sumL_cons_pos (a : Int) (l : List Int) (h : l ≠ []) : sumL (a :: l) = ⟨1 + (sumL l).c, a + (sumL l).s, min a (sumL l).mn, max a (sumL l).mx⟩ := by
  have : ¬ (sumL l).c = 0 := by
    cases l with
    | nil => exact absurd rfl h
    | cons b l => exact sumL_pos b l
  show ej (Sm.one a) (sumL l) = _
  unfold ej Sm.one
  simp only [Int.one_ne_zero, if_false, this]
theorem sumL_lift (l : List Int) (z : Int) : sumL (l.map (· + z)) = if (sumL l).c = 0 then sumL l else ⟨(sumL l).c, (sumL l).s + (sumL l).c * z, (sumL l).mn + z, (sumL l).mx + z⟩ := by
  induction l with
  | nil => rfl
  | cons a l ih =>
    by_cases hl : l = []
    · subst hl
      simp [sumL, ej, Sm.one]
    · rw [List.map_cons, sumL_cons_pos _ _ (by simpa using hl), sumL_cons_pos _ _ hl, ih]
      have hc : ¬ (sumL l).c = 0 := by
        cases l with
        | nil => exact absurd rfl hl
        | cons b l => exact sumL_pos b l
      have hn := sumL_nn l
      rw [if_neg hc, if_neg (by simp only []; omega)]
      simp only [Sm.mk.injEq]
      refine ⟨trivial, ?_, by omega, by omega⟩
      rw [Int.add_mul]; omega
theorem wrap_id {z : Int} (h : -9223372036854775808 ≤ z ∧ z ≤ 9223372036854775807) : wrap64 z = z := by unfold wrap64; omega
theorem join_ej (a b : Sm) (h1 : -9223372036854775808 ≤ a.c + b.c ∧ a.c + b.c ≤ 9223372036854775807) (h2 : -9223372036854775808 ≤ a.s + b.s ∧ a.s + b.s ≤ 9223372036854775807) : Sm.join a b = ej a b := by
  unfold Sm.join ej
  rw [wrap_id h1, wrap_id h2]

/-- How many hang at these nodes, and what these and those weigh. -/
def tnL (st : St) : List Nat → Int
  | [] => 0
  | v :: l => 1 + (st v).vn + tnL st l
def tsL (st : St) (g : Nat → Int) : List Nat → Int
  | [] => 0
  | v :: l => g v + (st v).vs + tsL st g l
theorem tnL_append (st : St) (l m : List Nat) : tnL st (l ++ m) = tnL st l + tnL st m := by
  induction l with
  | nil => simp [tnL]
  | cons v l ih => simp only [List.cons_append, tnL, ih]; omega
theorem tsL_append (st : St) (g : Nat → Int) (l m : List Nat) : tsL st g (l ++ m) = tsL st g l + tsL st g m := by
  induction l with
  | nil => simp [tsL]
  | cons v l ih => simp only [List.cons_append, tsL, ih]; omega
theorem tnL_congr {st st' : St} {l : List Nat} (h : ∀ v ∈ l, (st' v).vn = (st v).vn) : tnL st' l = tnL st l := by
  induction l with
  | nil => rfl
  | cons v l ih => simp only [tnL]; rw [h v (by simp), ih (fun a ha => h a (List.mem_cons_of_mem _ ha))]
theorem tsL_congr {st st' : St} {g g' : Nat → Int} {l : List Nat} (h : ∀ v ∈ l, (st' v).vs = (st v).vs ∧ g' v = g v) : tsL st' g' l = tsL st g l := by
  induction l with
  | nil => rfl
  | cons v l ih => simp only [tsL]; rw [(h v (by simp)).1, (h v (by simp)).2, ih (fun a ha => h a (List.mem_cons_of_mem _ ha))]
theorem tsL_lift (st : St) (g : Nat → Int) (z : Int) (l : List Nat) : tsL st (fun v => g v + z) l = tsL st g l + z * (l.length : Int) := by
  induction l with
  | nil => simp [tsL]
  | cons v l ih =>
    simp only [tsL, List.length_cons, ih]
    have : z * ((l.length + 1 : Nat) : Int) = z * (l.length : Int) + z := by rw [Int.natCast_add, Int.mul_add]; simp
    omega
/-- What hangs at nodes is no more than this. -/
structure Bd (st : St) : Prop where
  vn : ∀ v, 0 ≤ (st v).vn ∧ (st v).vn ≤ 1048576
  vs : ∀ v, -1125899906842624 ≤ (st v).vs ∧ (st v).vs ≤ 1125899906842624
  zero : st 0 = Nd.zero
theorem tnL_bd {st : St} (h : Bd st) (l : List Nat) : 0 ≤ tnL st l ∧ tnL st l ≤ 1048577 * (l.length : Int) := by
  induction l with
  | nil => simp [tnL]
  | cons v l ih => have := h.vn v; simp only [tnL, List.length_cons]; omega
theorem tsL_bd {st : St} {g : Nat → Int} (h : Bd st) (l : List Nat) (hg : ∀ v ∈ l, InW (g v)) : -1126999418470400 * (l.length : Int) ≤ tsL st g l ∧ tsL st g l ≤ 1126999418470400 * (l.length : Int) := by
  induction l with
  | nil => simp [tsL]
  | cons v l ih =>
    have := h.vs v
    have h2 := hg v (by simp)
    have h3 := ih (fun a ha => hg a (List.mem_cons_of_mem _ ha))
    unfold InW at h2
    simp only [tsL, List.length_cons]; omega

/-- The nodes hold this tree: below the node p, mirrored or not, with these weights, less what waits above. -/
def Lay (st : St) : (Nat → Int) → Bool → Nat → T → Prop
  | _, _, _, .nil => True
  | g, rv, p, .node l x r =>
    (x ≠ 0 ∧ (st x).p = p ∧ (st x).l = (if rv = true then r.rt else l.rt) ∧ (st x).r = (if rv = true then l.rt else r.rt) ∧ (st x).w = g x ∧
      (∀ v ∈ (T.node l x r).ord, InW (g v) ∧ InW (g v - (st x).add)) ∧ (st x).sum = sumL ((T.node l x r).ord.map g) ∧ (st x).tn = tnL st (T.node l x r).ord ∧ (st x).ts = tsL st g (T.node l x r).ord) ∧
    Lay st (fun v => g v - (st x).add) (rv ^^ (st x).rev) x l ∧ Lay st (fun v => g v - (st x).add) (rv ^^ (st x).rev) x r

theorem lay_congr {st st' : St} {g g' : Nat → Int} {rv : Bool} {p : Nat} {t : T} (hs : ∀ v ∈ t.ord, st' v = st v) (hg : ∀ v ∈ t.ord, g' v = g v) (h : Lay st g rv p t) : Lay st' g' rv p t := by
  induction t generalizing g g' rv p with
  | nil => trivial
  | node l x r il ir =>
    obtain ⟨⟨h0, h1, h2, h3, h4, h5, h6, h7, h8⟩, hl, hr⟩ := h
    have hx : st' x = st x := hs x (by simp [T.ord])
    have ho : ∀ v ∈ l.ord ++ x :: r.ord, st' v = st v := hs
    have hog : ∀ v ∈ l.ord ++ x :: r.ord, g' v = g v := hg
    refine ⟨⟨h0, by rw [hx]; exact h1, by rw [hx]; exact h2, by rw [hx]; exact h3, by rw [hx, hg x (by simp [T.ord])]; exact h4, fun v hv => ?_, ?_, ?_, ?_⟩, ?_, ?_⟩
    · rw [hg v hv, hx]; exact h5 v hv
    · rw [hx, h6]
      congr 1
      exact List.map_congr_left (fun v hv => (hg v hv).symm)
    · rw [hx, h7]
      exact (tnL_congr (fun v hv => by rw [hs v hv])).symm
    · rw [hx, h8]
      exact (tsL_congr (fun v hv => ⟨by rw [hs v hv], hg v hv⟩)).symm
    · rw [hx]
      exact il (fun v hv => ho v (by simp [hv])) (fun v hv => congrArg (· - (st x).add) (hog v (by simp [hv]))) hl
    · rw [hx]
      exact ir (fun v hv => ho v (by simp [hv])) (fun v hv => congrArg (· - (st x).add) (hog v (by simp [hv]))) hr
theorem lay_g {st : St} {g g' : Nat → Int} {rv : Bool} {p : Nat} {t : T} (hg : ∀ v, g' v = g v) (h : Lay st g rv p t) : Lay st g' rv p t := lay_congr (fun _ _ => rfl) (fun v _ => hg v) h
theorem lay_in {st : St} {g : Nat → Int} {rv : Bool} {p : Nat} {t : T} (h : Lay st g rv p t) : ∀ v ∈ t.ord, InW (g v) := by
  cases t with
  | nil => intro v hv; cases hv
  | node l x r => exact fun v hv => (h.1.2.2.2.2.2.1 v hv).1
theorem rt_mem {t : T} (h : t.rt ≠ 0) : t.rt ∈ t.ord := by
  cases t with
  | nil => exact absurd rfl h
  | node l x r => simp [T.rt, T.ord]
/-- What a node's fields must be to hold the same tree with another top. -/
theorem lay_top {st st' : St} {g : Nat → Int} {rv : Bool} {p p' : Nat} {l r : T} {x : Nat} (hn : (T.node l x r).ord.Nodup) (hs : ∀ v ∈ (T.node l x r).ord, v ≠ x → st' v = st v)
    (hx : st' x = { st x with p := p' }) (h : Lay st g rv p (.node l x r)) : Lay st' g rv p' (.node l x r) := by
  obtain ⟨⟨h0, h1, h2, h3, h4, h5, h6, h7, h8⟩, hl, hr⟩ := h
  have hn' : (l.ord ++ x :: r.ord).Nodup := hn
  rw [List.nodup_append] at hn'
  obtain ⟨n1, n2, n3⟩ := hn'
  rw [List.nodup_cons] at n2
  have hs' : ∀ v ∈ l.ord ++ x :: r.ord, v ≠ x → st' v = st v := hs
  have hv : ∀ v ∈ (T.node l x r).ord, (st' v).vn = (st v).vn ∧ (st' v).vs = (st v).vs := by
    intro v hv
    by_cases e : v = x
    · subst e; rw [hx]; exact ⟨rfl, rfl⟩
    · rw [hs v hv e]; exact ⟨rfl, rfl⟩
  refine ⟨⟨h0, by rw [hx], by rw [hx]; exact h2, by rw [hx]; exact h3, by rw [hx]; exact h4, fun v hv => by rw [hx]; exact h5 v hv, ?_, ?_, ?_⟩, ?_, ?_⟩
  · have : (st' x).sum = (st x).sum := by rw [hx]; rfl
    rw [this, h6]
  · have : (st' x).tn = (st x).tn := by rw [hx]
    rw [this, h7]
    exact (tnL_congr (fun v hv' => (hv v hv').1)).symm
  · have : (st' x).ts = (st x).ts := by rw [hx]
    rw [this, h8]
    exact (tsL_congr (fun v hv' => ⟨(hv v hv').2, rfl⟩)).symm
  · have e1 : (st' x).add = (st x).add := by rw [hx]
    have e2 : (st' x).rev = (st x).rev := by rw [hx]
    rw [e1, e2]
    exact lay_congr (fun v hv => hs' v (by simp [hv]) (fun e => n3 v hv x (by simp) e)) (fun _ _ => rfl) hl
  · have e1 : (st' x).add = (st x).add := by rw [hx]
    have e2 : (st' x).rev = (st x).rev := by rw [hx]
    rw [e1, e2]
    exact lay_congr (fun v hv => hs' v (by simp [hv]) (fun e => n2.1 (e ▸ hv))) (fun _ _ => rfl) hr
theorem lay_p {st st' : St} {g : Nat → Int} {rv : Bool} {p p' : Nat} {t : T} (hn : t.ord.Nodup) (hs : ∀ v ∈ t.ord, v ≠ t.rt → st' v = st v)
    (hx : t.rt ≠ 0 → st' t.rt = { st t.rt with p := p' }) (h : Lay st g rv p t) : Lay st' g rv p' t := by
  cases t with
  | nil => trivial
  | node l x r => exact lay_top hn hs (hx (by exact h.1.1)) h
theorem node_split {l r : T} {x : Nat} (hn : (T.node l x r).ord.Nodup) : l.ord.Nodup ∧ r.ord.Nodup ∧ x ∉ l.ord ∧ x ∉ r.ord ∧ ∀ v ∈ l.ord, v ∉ r.ord := by
  have hn' : (l.ord ++ x :: r.ord).Nodup := hn
  rw [List.nodup_append] at hn'
  obtain ⟨n1, n2, n3⟩ := hn'
  rw [List.nodup_cons] at n2
  exact ⟨n1, n2.2, fun e => n3 x e x (by simp) rfl, n2.1, fun v hv hr => n3 v hv v (by simp [hr]) rfl⟩
/-- Turned round. -/
theorem lay_flip {st : St} {g : Nat → Int} {rv : Bool} {p : Nat} {t : T} (hn : t.ord.Nodup) (h : Lay st g rv p t) : Lay (flipF st t.rt) g (!rv) p t := by
  cases t with
  | nil => trivial
  | node l x r =>
    obtain ⟨⟨h0, h1, h2, h3, h4, h5, h6, h7, h8⟩, hl, hr⟩ := h
    obtain ⟨n1, n2, n3, n4, n5⟩ := node_split hn
    have e : flipF st (T.node l x r).rt = st.upd x (flipN (st x)) := by unfold flipF; rw [if_neg (by exact h0)]; rfl
    rw [e]
    have hv : ∀ v, ((st.upd x (flipN (st x))) v).vn = (st v).vn ∧ ((st.upd x (flipN (st x))) v).vs = (st v).vs := by
      intro v
      by_cases e : v = x
      · subst e; rw [St.upd_same]; exact ⟨rfl, rfl⟩
      · rw [St.upd_ne _ _ _ _ e]; exact ⟨rfl, rfl⟩
    unfold Lay
    rw [St.upd_same, tnL_congr (fun v _ => (hv v).1), tsL_congr (fun v _ => ⟨(hv v).2, rfl⟩)]
    refine ⟨⟨h0, h1, ?_, ?_, h4, h5, h6, h7, h8⟩, ?_, ?_⟩
    · show (st x).r = _
      rw [h3]; cases rv <;> rfl
    · show (st x).l = _
      rw [h2]; cases rv <;> rfl
    · have e2 : (!rv ^^ (flipN (st x)).rev) = (rv ^^ (st x).rev) := by
        show (!rv ^^ !(st x).rev) = _
        cases rv <;> cases (st x).rev <;> rfl
      rw [e2]
      exact lay_congr (fun v hv => St.upd_ne _ _ _ _ (fun e => n3 (e ▸ hv))) (fun _ _ => rfl) hl
    · have e2 : (!rv ^^ (flipN (st x)).rev) = (rv ^^ (st x).rev) := by
        show (!rv ^^ !(st x).rev) = _
        cases rv <;> cases (st x).rev <;> rfl
      rw [e2]
      exact lay_congr (fun v hv => St.upd_ne _ _ _ _ (fun e => n4 (e ▸ hv))) (fun _ _ => rfl) hr
end Go.Proofs.Ytaipladbgdcedaa
namespace Go.Proofs.Ytaipladbgdcedaa
open Go.RowKit

theorem mul_bd {c z Z : Int} (h0 : 0 ≤ c) (h1 : c ≤ 1000) (h2 : -Z ≤ z) (h3 : z ≤ Z) (hZ : 0 ≤ Z) : -(1000 * Z) ≤ c * z ∧ c * z ≤ 1000 * Z := by
  have a1 := Int.mul_le_mul_of_nonneg_left h3 h0
  have a2 := Int.mul_le_mul_of_nonneg_left h2 h0
  have a3 := Int.mul_le_mul_of_nonneg_right h1 hZ
  have a4 : c * -Z = -(c * Z) := Int.mul_neg _ _
  omega
/-- Nothing that hangs at nodes is another, nor which are there. -/
structure Sv (st st' : St) : Prop where
  vn : ∀ v, (st' v).vn = (st v).vn
  vs : ∀ v, (st' v).vs = (st v).vs
  th : ∀ v, (st' v).th = (st v).th
  zero : st' 0 = st 0
theorem Sv.refl (st : St) : Sv st st := ⟨fun _ => rfl, fun _ => rfl, fun _ => rfl, rfl⟩
theorem Sv.trans {a b c : St} (h : Sv a b) (k : Sv b c) : Sv a c := ⟨fun v => (k.vn v).trans (h.vn v), fun v => (k.vs v).trans (h.vs v), fun v => (k.th v).trans (h.th v), k.zero.trans h.zero⟩
theorem Sv.upd (st : St) (x : Nat) (y : Nd) (hx : x ≠ 0) (h1 : y.vn = (st x).vn) (h2 : y.vs = (st x).vs) (h3 : y.th = (st x).th) : Sv st (st.upd x y) := by
  refine ⟨fun v => ?_, fun v => ?_, fun v => ?_, St.upd_ne _ _ _ _ (fun e => hx e.symm)⟩
  all_goals
    by_cases e : v = x
    · subst e; rw [St.upd_same]; assumption
    · rw [St.upd_ne _ _ _ _ e]
theorem Sv.bd {st st' : St} (h : Sv st st') (b : Bd st) : Bd st' := ⟨fun v => by rw [h.vn]; exact b.vn v, fun v => by rw [h.vs]; exact b.vs v, by rw [h.zero]; exact b.zero⟩
theorem sv_flip (st : St) (x : Nat) : Sv st (flipF st x) := by
  unfold flipF
  split
  · exact Sv.refl _
  · exact Sv.upd _ _ _ (by assumption) rfl rfl rfl
theorem sv_lift (st : St) (x : Nat) (z : Int) : Sv st (liftF st x z) := by
  unfold liftF
  split
  · exact Sv.refl _
  · rename_i h
    exact Sv.upd _ _ _ (fun e => h (.inl e)) rfl rfl rfl
theorem sv_pull (st : St) (x : Nat) (hx : x ≠ 0) : Sv st (pullF st x) := Sv.upd _ _ _ hx rfl rfl rfl
theorem flip_ne (st : St) (x v : Nat) (h : v ≠ x) : flipF st x v = st v := by
  unfold flipF
  split
  · rfl
  · exact St.upd_ne _ _ _ _ h
theorem lift_ne (st : St) (x : Nat) (z : Int) (v : Nat) (h : v ≠ x) : liftF st x z v = st v := by
  unfold liftF
  split
  · rfl
  · exact St.upd_ne _ _ _ _ h
theorem pull_ne (st : St) (x v : Nat) (h : v ≠ x) : pullF st x v = st v := St.upd_ne _ _ _ _ h

theorem len_pos (l r : T) (x : Nat) : 0 < (T.node l x r).ord.length := by simp [T.ord]; omega
/-- All raised. -/
theorem lay_lift {st : St} {g : Nat → Int} {rv : Bool} {p : Nat} {t : T} (z : Int) (hn : t.ord.Nodup) (hb : Bd st) (hlen : t.ord.length ≤ 1000) (hz : ∀ v ∈ t.ord, InW (g v + z)) (h : Lay st g rv p t) : Lay (liftF st t.rt z) (fun v => g v + z) rv p t := by
  cases t with
  | nil => trivial
  | node l x r =>
    by_cases hz0 : z = 0
    · subst hz0
      have e : liftF st (T.node l x r).rt 0 = st := by unfold liftF; rw [if_pos (.inr rfl)]
      rw [e]
      exact lay_g (fun v => Int.add_zero _) h
    · obtain ⟨⟨h0, h1, h2, h3, h4, h5, h6, h7, h8⟩, hl, hr⟩ := h
      obtain ⟨n1, n2, n3, n4, n5⟩ := node_split hn
      have e : liftF st (T.node l x r).rt z = st.upd x (liftN (st x) z) := by
        show liftF st x z = _
        unfold liftF
        rw [if_neg (not_or.2 ⟨h0, hz0⟩)]
      rw [e]
      have hpos := len_pos l r x
      generalize hO : (T.node l x r).ord = O at *
      have hxO : x ∈ O := by rw [← hO]; simp [T.ord]
      have hgx := (h5 x hxO).1
      have hgx2 := (h5 x hxO).2
      have hgz := hz x hxO
      unfold InW at hgx hgx2 hgz
      have hv : ∀ v, ((st.upd x (liftN (st x) z)) v).vn = (st v).vn ∧ ((st.upd x (liftN (st x) z)) v).vs = (st v).vs := by
        intro v
        by_cases e : v = x
        · subst e; rw [St.upd_same]; exact ⟨rfl, rfl⟩
        · rw [St.upd_ne _ _ _ _ e]; exact ⟨rfl, rfl⟩
      have hS := sumL_bd (O.map g) (fun a ha => by
        obtain ⟨v, hv, rfl⟩ := List.mem_map.1 ha
        exact (h5 v hv).1)
      have hcl := sumL_c (O.map g)
      rw [List.length_map] at hS hcl
      have hts := tsL_bd hb O (fun v hv => (h5 v hv).1)
      have hm := mul_bd (c := (O.length : Int)) (z := z) (Z := 2199023255552) (by omega) (by omega) (by omega) (by omega) (by omega)
      have hm' : z * (O.length : Int) = (O.length : Int) * z := Int.mul_comm _ _
      have hcn : ¬ (sumL (O.map g)).c = 0 := by omega
      have hmn := hS.2.2.1
      have hmx := hS.2.2.2
      unfold InW at hmn hmx
      have hlift : (st x).sum.lift z = sumL (O.map fun v => g v + z) := by
        rw [h6]
        have e1 : (O.map fun v => g v + z) = (O.map g).map (· + z) := by rw [List.map_map]; rfl
        rw [e1, sumL_lift, if_neg hcn]
        unfold Sm.lift
        rw [if_neg hcn, hcl, wrap_id (z := (O.length : Int) * z) (by omega), wrap_id (by omega), wrap_id (by omega), wrap_id (by omega)]
      unfold Lay
      rw [St.upd_same, hO]
      have hadd : (liftN (st x) z).add = (st x).add + z := by
        show wrap64 ((st x).add + z) = _
        rw [wrap_id (by omega)]
      refine ⟨⟨h0, h1, h2, h3, ?_, ?_, ?_, ?_, ?_⟩, ?_, ?_⟩
      · show wrap64 ((st x).w + z) = g x + z
        rw [h4, wrap_id (by omega)]
      · intro v hv
        refine ⟨hz v hv, ?_⟩
        rw [hadd]
        have := (h5 v hv).2
        have e : g v + z - ((st x).add + z) = g v - (st x).add := by omega
        rw [e]
        exact this
      · show (st x).sum.lift z = _
        exact hlift
      · show (st x).tn = _
        rw [h7]
        exact (tnL_congr (fun v _ => (hv v).1)).symm
      · show wrap64 ((st x).ts + wrap64 (z * ((st x).sum.lift z).c)) = _
        rw [hlift, sumL_c, List.length_map, h8, wrap_id (z := z * (O.length : Int)) (by omega), wrap_id (by omega)]
        rw [tsL_congr (st := st) (g := fun v => g v + z) (fun v _ => ⟨(hv v).2, rfl⟩), tsL_lift]
      · rw [hadd]
        exact lay_congr (fun v hv => St.upd_ne _ _ _ _ (fun e => n3 (e ▸ hv))) (fun v _ => by simp only []; omega) hl
      · rw [hadd]
        exact lay_congr (fun v hv => St.upd_ne _ _ _ _ (fun e => n4 (e ▸ hv))) (fun v _ => by simp only []; omega) hr
/-- Two trees laid beside each other, the first turned round. -/
theorem rt_out {t u : T} (h : ∀ v ∈ t.ord, v ∉ u.ord) (v : Nat) (hv : v ∈ u.ord) (h0 : v ≠ 0) : v ≠ t.rt := by
  intro e
  by_cases ht : t.rt = 0
  · omega
  · exact h _ (rt_mem ht) (e ▸ hv)
theorem lay_nz {st : St} {g : Nat → Int} {rv : Bool} {p : Nat} {t : T} (h : Lay st g rv p t) : ∀ v ∈ t.ord, v ≠ 0 := by
  induction t generalizing g rv p with
  | nil => intro v hv; cases hv
  | node l x r il ir =>
    intro v hv
    have hv' : v ∈ l.ord ++ x :: r.ord := hv
    rcases List.mem_append.1 hv' with e | e
    · exact il h.2.1 v e
    · rcases List.mem_cons.1 e with e | e
      · subst e; exact h.1.1
      · exact ir h.2.2 v e
/-- What push does: nothing waits at the node, and its tree is the same. -/
theorem lay_push {st : St} {g : Nat → Int} {p : Nat} {l r : T} {x : Nat} (hn : (T.node l x r).ord.Nodup) (hb : Bd st) (hlen : (T.node l x r).ord.length ≤ 1000) (h : Lay st g false p (.node l x r)) :
    Lay (pushF st x) g false p (.node l x r) ∧ (pushF st x x).rev = false ∧ (pushF st x x).add = 0 ∧ (∀ v, v ∉ (T.node l x r).ord → pushF st x v = st v) ∧ Sv st (pushF st x) := by
  obtain ⟨⟨h0, h1, h2, h3, h4, h5, h6, h7, h8⟩, hl, hr⟩ := h
  obtain ⟨n1, n2, n3, n4, n5⟩ := node_split hn
  simp only [Bool.false_eq_true, if_false] at h2 h3
  have zl := lay_nz hl
  have zr := lay_nz hr
  have len : l.ord.length ≤ 1000 ∧ r.ord.length ≤ 1000 := by
    have : (l.ord ++ x :: r.ord).length ≤ 1000 := hlen
    simp at this
    omega
  have hO : ∀ v, v ∈ (T.node l x r).ord ↔ v ∈ l.ord ∨ v = x ∨ v ∈ r.ord := by intro v; simp [T.ord]
  have xl : x ≠ l.rt := fun e => by
    by_cases ht : l.rt = 0
    · omega
    · exact n3 (e ▸ rt_mem ht)
  have xr : x ≠ r.rt := fun e => by
    by_cases ht : r.rt = 0
    · omega
    · exact n4 (e ▸ rt_mem ht)
  -- the flips
  have F : ∃ s1, s1 = push1 st x ∧ Lay s1 (fun v => g v - (st x).add) false x l ∧ Lay s1 (fun v => g v - (st x).add) false x r ∧ (∀ v, v ≠ l.rt → v ≠ r.rt → s1 v = st v) ∧ Sv st s1 := by
    refine ⟨_, rfl, ?_⟩
    unfold push1
    by_cases hv : (st x).rev = true
    · rw [if_pos hv, h2, h3]
      rw [hv] at hl hr
      refine ⟨?_, ?_, fun v v1 v2 => by rw [flip_ne _ _ _ v2, flip_ne _ _ _ v1], (sv_flip _ _).trans (sv_flip _ _)⟩
      · exact lay_congr (fun v hv => flip_ne _ _ _ (rt_out (fun a ha hb => n5 a hb ha) v hv (zl v hv))) (fun _ _ => rfl) (lay_flip n1 hl)
      · exact lay_flip n2 (lay_congr (fun v hv => flip_ne _ _ _ (rt_out n5 v hv (zr v hv))) (fun _ _ => rfl) hr)
    · have hv' : (st x).rev = false := by simpa using hv
      rw [if_neg hv]
      rw [hv'] at hl hr
      exact ⟨hl, hr, fun _ _ _ => rfl, Sv.refl _⟩
  obtain ⟨s1, e1, f1, f2, f3, f4⟩ := F
  rw [pushF_eq, ← e1, h2, h3]
  have hb1 := f4.bd hb
  have g1 := lay_lift (st x).add n1 hb1 len.1 (fun v hv => by
    have := (h5 v ((hO v).2 (.inl hv))).1
    have e : g v - (st x).add + (st x).add = g v := by omega
    rw [e]; exact this) f1
  have f2' : Lay (liftF s1 l.rt (st x).add) (fun v => g v - (st x).add) false x r := lay_congr (fun v hv => lift_ne _ _ _ _ (rt_out n5 v hv (zr v hv))) (fun _ _ => rfl) f2
  have g2 := lay_lift (st x).add n2 ((sv_lift _ _ _).bd hb1) len.2 (fun v hv => by
    have := (h5 v ((hO v).2 (.inr (.inr hv)))).1
    have e : g v - (st x).add + (st x).add = g v := by omega
    rw [e]; exact this) f2'
  have g1' : Lay (liftF (liftF s1 l.rt (st x).add) r.rt (st x).add) (fun v => g v - (st x).add + (st x).add) false x l := lay_congr (fun v hv => lift_ne _ _ _ _ (rt_out (fun a ha hb => n5 a hb ha) v hv (zl v hv))) (fun _ _ => rfl) g1
  have k1 := lay_g (g' := g) (fun v => by omega) g1'
  have k2 := lay_g (g' := g) (fun v => by omega) g2
  have k3 : ∀ v, v ≠ l.rt → v ≠ r.rt → liftF (liftF s1 l.rt (st x).add) r.rt (st x).add v = st v := fun v v1 v2 => by rw [lift_ne _ _ _ _ v2, lift_ne _ _ _ _ v1, f3 v v1 v2]
  have k4 : Sv st (liftF (liftF s1 l.rt (st x).add) r.rt (st x).add) := (f4.trans (sv_lift _ _ _)).trans (sv_lift _ _ _)
  generalize liftF (liftF s1 l.rt (st x).add) r.rt (st x).add = s2 at *
  have hx2 := k3 x xl xr
  have SV : Sv s2 (s2.upd x { s2 x with rev := false, add := 0 }) := Sv.upd _ _ _ h0 rfl rfl rfl
  have k5 := k4.trans SV
  refine ⟨?_, by rw [St.upd_same], by rw [St.upd_same], fun v hv => ?_, k5⟩
  · unfold Lay
    rw [St.upd_same, hx2]
    refine ⟨⟨h0, h1, by simpa using h2, by simpa using h3, h4, fun v hv => ⟨(h5 v hv).1, by simpa using (h5 v hv).1⟩, h6, ?_, ?_⟩, ?_, ?_⟩
    · show (st x).tn = _
      rw [h7]
      rw [hx2] at k5
      exact (tnL_congr (fun v _ => k5.vn v)).symm
    · show (st x).ts = _
      rw [h8]
      rw [hx2] at k5
      exact (tsL_congr (fun v _ => ⟨k5.vs v, rfl⟩)).symm
    · exact lay_congr (fun v hv => St.upd_ne _ _ _ _ (fun e => n3 (e ▸ hv))) (fun v _ => Int.sub_zero _) k1
    · exact lay_congr (fun v hv => St.upd_ne _ _ _ _ (fun e => n4 (e ▸ hv))) (fun v _ => Int.sub_zero _) k2
  · have hv' := fun e => hv ((hO v).2 e)
    by_cases v0 : v = 0
    · subst v0; exact k5.zero
    · rw [St.upd_ne _ _ _ _ (fun e => hv' (.inr (.inl e)))]
      refine k3 v (fun e => ?_) (fun e => ?_)
      · exact hv' (.inl (e ▸ rt_mem (by omega)))
      · exact hv' (.inr (.inr (e ▸ rt_mem (by omega))))
/-- What pull does: a node over its kids' trees. -/
theorem lay_pull {st : St} {g : Nat → Int} {p : Nat} {l r : T} {x : Nat} (hn : (T.node l x r).ord.Nodup) (hb : Bd st) (hlen : (T.node l x r).ord.length ≤ 1000) (hx0 : x ≠ 0) (hp : (st x).p = p) (h2 : (st x).l = l.rt) (h3 : (st x).r = r.rt) (h4 : (st x).w = g x)
    (hg : InW (g x)) (hrev : (st x).rev = false) (hadd : (st x).add = 0) (hl : Lay st g false x l) (hr : Lay st g false x r) : Lay (pullF st x) g false p (.node l x r) := by
  obtain ⟨n1, n2, n3, n4, n5⟩ := node_split hn
  have len : l.ord.length + r.ord.length + 1 ≤ 1000 := by
    have : (l.ord ++ x :: r.ord).length ≤ 1000 := hlen
    simp at this
    omega
  have kid : ∀ (t : T), Lay st g false x t → (st t.rt).sum = sumL (t.ord.map g) ∧ (st t.rt).tn = tnL st t.ord ∧ (st t.rt).ts = tsL st g t.ord := by
    intro t ht
    cases t with
    | nil =>
      show (st 0).sum = _ ∧ (st 0).tn = _ ∧ (st 0).ts = _
      rw [hb.zero]
      exact ⟨rfl, rfl, rfl⟩
    | node a y b => exact ⟨ht.1.2.2.2.2.2.2.1, ht.1.2.2.2.2.2.2.2.1, ht.1.2.2.2.2.2.2.2.2⟩
  obtain ⟨a1, a2, a3⟩ := kid l hl
  obtain ⟨b1, b2, b3⟩ := kid r hr
  have il := lay_in hl
  have ir := lay_in hr
  have SV : Sv st (pullF st x) := sv_pull st x hx0
  have inO : ∀ v ∈ (T.node l x r).ord, InW (g v) := by
    intro v hv
    have hv' : v ∈ l.ord ++ x :: r.ord := hv
    rcases List.mem_append.1 hv' with e | e
    · exact il v e
    · rcases List.mem_cons.1 e with e | e
      · subst e; exact hg
      · exact ir v e
  have hsum : (pullN (st x) (st (st x).l) (st (st x).r)).sum = sumL ((T.node l x r).ord.map g) := by
    show ((st (st x).l).sum.join (Sm.one (st x).w)).join (st (st x).r).sum = _
    rw [h2, h3, h4, a1, b1]
    have L1 := sumL_bd (l.ord.map g) (fun a ha => by
      obtain ⟨v, hv, rfl⟩ := List.mem_map.1 ha
      exact il v hv)
    have R1 := sumL_bd (r.ord.map g) (fun a ha => by
      obtain ⟨v, hv, rfl⟩ := List.mem_map.1 ha
      exact ir v hv)
    have cl := sumL_c (l.ord.map g)
    have cr := sumL_c (r.ord.map g)
    rw [List.length_map] at L1 R1 cl cr
    unfold InW at hg
    have e1 : Sm.join (sumL (l.ord.map g)) (Sm.one (g x)) = sumL (l.ord.map g ++ [g x]) := by
      rw [sumL_append, sumL_one, join_ej _ _ (by show -9223372036854775808 ≤ (sumL (l.ord.map g)).c + 1 ∧ (sumL (l.ord.map g)).c + 1 ≤ _; omega) (by show -9223372036854775808 ≤ (sumL (l.ord.map g)).s + g x ∧ (sumL (l.ord.map g)).s + g x ≤ _; omega)]
    have M1 := sumL_bd (l.ord.map g ++ [g x]) (fun a ha => by
      rcases List.mem_append.1 ha with ha | ha
      · obtain ⟨v, hv, rfl⟩ := List.mem_map.1 ha
        exact il v hv
      · simp at ha; subst ha; exact hg)
    have cm := sumL_c (l.ord.map g ++ [g x])
    simp only [List.length_append, List.length_map, List.length_cons, List.length_nil] at M1 cm
    rw [e1, join_ej _ _ (by omega) (by omega), ← sumL_append]
    congr 1
    show _ = (l.ord ++ x :: r.ord).map g
    simp
  have T1 := tnL_bd hb l.ord
  have T2 := tnL_bd hb r.ord
  have T3 := hb.vn x
  have S1 := tsL_bd hb l.ord il
  have S2 := tsL_bd hb r.ord ir
  have S3 := hb.vs x
  unfold Lay
  have ex : pullF st x x = pullN (st x) (st (st x).l) (st (st x).r) := St.upd_same _ _ _
  rw [ex]
  refine ⟨⟨hx0, hp, by simp only [Bool.false_eq_true, if_false]; exact h2, by simp only [Bool.false_eq_true, if_false]; exact h3, h4, fun v hv => ⟨inO v hv, ?_⟩, hsum, ?_, ?_⟩, ?_, ?_⟩
  · show InW (g v - (st x).add)
    rw [hadd, Int.sub_zero]
    exact inO v hv
  · show wrap64 (wrap64 (wrap64 ((st (st x).l).tn + (st (st x).r).tn) + (st x).vn) + 1) = _
    rw [h2, h3, a2, b2, wrap_id (z := tnL st l.ord + tnL st r.ord) (by omega), wrap_id (z := _ + (st x).vn) (by omega), wrap_id (by omega)]
    rw [tnL_congr (st := st) (fun v _ => SV.vn v)]
    show _ = tnL st (l.ord ++ x :: r.ord)
    rw [tnL_append]
    simp only [tnL]
    omega
  · show wrap64 (wrap64 (wrap64 ((st (st x).l).ts + (st (st x).r).ts) + (st x).vs) + (st x).w) = _
    unfold InW at hg
    rw [h2, h3, h4, a3, b3, wrap_id (z := tsL st g l.ord + tsL st g r.ord) (by omega), wrap_id (z := _ + (st x).vs) (by omega), wrap_id (by omega)]
    rw [tsL_congr (st := st) (g := g) (fun v _ => ⟨SV.vs v, rfl⟩)]
    show _ = tsL st g (l.ord ++ x :: r.ord)
    rw [tsL_append]
    simp only [tsL]
    omega
  · have e1 : (pullN (st x) (st (st x).l) (st (st x).r)).add = 0 := hadd
    have e2 : (pullN (st x) (st (st x).l) (st (st x).r)).rev = false := hrev
    rw [e1, e2]
    exact lay_congr (fun v hv => pull_ne _ _ _ (fun e => n3 (e ▸ hv))) (fun v _ => Int.sub_zero _) hl
  · have e1 : (pullN (st x) (st (st x).l) (st (st x).r)).add = 0 := hadd
    have e2 : (pullN (st x) (st (st x).l) (st (st x).r)).rev = false := hrev
    rw [e1, e2]
    exact lay_congr (fun v hv => pull_ne _ _ _ (fun e => n4 (e ▸ hv))) (fun v _ => Int.sub_zero _) hr
end Go.Proofs.Ytaipladbgdcedaa
namespace Go.Proofs.Ytaipladbgdcedaa
open Go.RowKit

/-- A step of the way up: the node above, whether one comes from its left, and its other kid. -/
structure Fr where
  d : Bool
  y : Nat
  s : T
def plug1 (f : Fr) (t : T) : T := if f.d = true then .node t f.y f.s else .node f.s f.y t
def plug : List Fr → T → T
  | [], t => t
  | f :: C, t => plug C (plug1 f t)
def par (C : List Fr) (p0 : Nat) : Nat := match C with
  | [] => p0
  | f :: _ => f.y
def Clean (st : St) (C : List Fr) : Prop := ∀ f ∈ C, (st f.y).rev = false ∧ (st f.y).add = 0
def preL : List Fr → List Nat
  | [] => []
  | f :: C => preL C ++ (if f.d = true then [] else f.s.ord ++ [f.y])
def postL : List Fr → List Nat
  | [] => []
  | f :: C => (if f.d = true then f.y :: f.s.ord else []) ++ postL C
theorem plug1_ord (f : Fr) (t : T) : (plug1 f t).ord = (if f.d = true then [] else f.s.ord ++ [f.y]) ++ t.ord ++ (if f.d = true then f.y :: f.s.ord else []) := by
  unfold plug1
  split
  · simp [T.ord]
  · simp [T.ord]
theorem plug_ord (C : List Fr) (t : T) : (plug C t).ord = preL C ++ t.ord ++ postL C := by
  induction C generalizing t with
  | nil => simp [plug, preL, postL]
  | cons f C ih =>
    show (plug C (plug1 f t)).ord = _
    rw [ih, plug1_ord]
    simp [preL, postL]
theorem plug1_rt (f : Fr) (t : T) : (plug1 f t).rt = f.y := by
  unfold plug1
  split <;> rfl
theorem plug_mem (C : List Fr) (t : T) (v : Nat) : v ∈ (plug C t).ord ↔ v ∈ t.ord ∨ v ∈ preL C ∨ v ∈ postL C := by
  rw [plug_ord]
  simp
  constructor
  · rintro (h | h | h)
    · exact .inr (.inl h)
    · exact .inl h
    · exact .inr (.inr h)
  · rintro (h | h | h)
    · exact .inr (.inl h)
    · exact .inl h
    · exact .inr (.inr h)
theorem fr_mem {C : List Fr} {f : Fr} (h : f ∈ C) : f.y ∈ preL C ∨ f.y ∈ postL C := by
  induction C with
  | nil => cases h
  | cons e C ih =>
    rcases List.mem_cons.1 h with g | g
    · subst g
      by_cases hd : f.d = true
      · exact .inr (by simp [postL, hd])
      · exact .inl (by simp [preL, hd])
    · rcases ih g with k | k
      · exact .inl (by simp [preL, k])
      · exact .inr (by simp [postL, k])
theorem fr_sub {C : List Fr} {f : Fr} (h : f ∈ C) (v : Nat) (hv : v ∈ f.s.ord) : v ∈ preL C ∨ v ∈ postL C := by
  induction C with
  | nil => cases h
  | cons e C ih =>
    rcases List.mem_cons.1 h with g | g
    · subst g
      by_cases hd : f.d = true
      · exact .inr (by simp [postL, hd, hv])
      · exact .inl (by simp [preL, hd, hv])
    · rcases ih g with k | k
      · exact .inl (by simp [preL, k])
      · exact .inr (by simp [postL, k])
theorem cx_cons (f : Fr) (C : List Fr) (v : Nat) : (v ∈ preL (f :: C) ∨ v ∈ postL (f :: C)) ↔ v = f.y ∨ v ∈ f.s.ord ∨ v ∈ preL C ∨ v ∈ postL C := by
  by_cases hd : f.d = true
  · simp [preL, postL, hd]
    constructor
    · rintro (h | h | h | h)
      · exact .inr (.inr (.inl h))
      · exact .inl h
      · exact .inr (.inl h)
      · exact .inr (.inr (.inr h))
    · rintro (h | h | h | h)
      · exact .inr (.inl h)
      · exact .inr (.inr (.inl h))
      · exact .inl h
      · exact .inr (.inr (.inr h))
  · simp [preL, postL, hd]
    constructor
    · rintro ((h | h | h) | h)
      · exact .inr (.inr (.inl h))
      · exact .inr (.inl h)
      · exact .inl h
      · exact .inr (.inr (.inr h))
    · rintro (h | h | h | h)
      · exact .inl (.inr (.inr h))
      · exact .inl (.inr (.inl h))
      · exact .inl (.inl h)
      · exact .inr h
theorem plug_nodup {C : List Fr} {t : T} (h : (plug C t).ord.Nodup) : t.ord.Nodup ∧ ∀ v ∈ t.ord, v ∉ preL C ∧ v ∉ postL C := by
  rw [plug_ord, List.nodup_append, List.nodup_append] at h
  obtain ⟨⟨_, h2, h3⟩, _, h5⟩ := h
  exact ⟨h2, fun v hv => ⟨fun e => h3 v e v hv rfl, fun e => h5 v (by simp [hv]) v e rfl⟩⟩
/-- A tree that stands within another. -/
theorem lay_focus {st : St} {g : Nat → Int} {p0 : Nat} {C : List Fr} {t : T} (hc : Clean st C) (h : Lay st g false p0 (plug C t)) : Lay st g false (par C p0) t := by
  induction C generalizing t with
  | nil => exact h
  | cons f C ih =>
    have h1 := ih (fun e he => hc e (List.mem_cons_of_mem _ he)) (t := plug1 f t) h
    obtain ⟨c1, c2⟩ := hc f (by simp)
    unfold plug1 at h1
    show Lay st g false f.y t
    by_cases hd : f.d = true
    · rw [if_pos hd] at h1
      have := h1.2.1
      rw [c1, c2] at this
      exact lay_g (fun v => (Int.sub_zero _).symm) this
    · rw [if_neg hd] at h1
      have := h1.2.2
      rw [c1, c2] at this
      exact lay_g (fun v => (Int.sub_zero _).symm) this
/-- Another tree of the same nodes in its place. -/
theorem lay_step {st st' : St} {g : Nat → Int} {p : Nat} {f : Fr} {t t' : T} (hc : (st f.y).rev = false ∧ (st f.y).add = 0) (h : Lay st g false p (plug1 f t)) (ho : t'.ord = t.ord) (ht : Lay st' g false f.y t') (sv : Sv st st')
    (hs : ∀ v ∈ f.s.ord, st' v = st v) (hy : st' f.y = if f.d = true then { st f.y with l := t'.rt } else { st f.y with r := t'.rt }) : Lay st' g false p (plug1 f t') := by
  obtain ⟨c1, c2⟩ := hc
  unfold plug1 at h ⊢
  by_cases hd : f.d = true
  · rw [if_pos hd] at h hy ⊢
    obtain ⟨⟨h0, h1, h2, h3, h4, h5, h6, h7, h8⟩, hl, hr⟩ := h
    have eo : (T.node t' f.y f.s).ord = (T.node t f.y f.s).ord := by show t'.ord ++ _ = t.ord ++ _; rw [ho]
    unfold Lay
    rw [hy, eo]
    refine ⟨⟨h0, h1, rfl, h3, h4, h5, h6, ?_, ?_⟩, ?_, ?_⟩
    · exact h7.trans (tnL_congr (fun v _ => sv.vn v)).symm
    · exact h8.trans (tsL_congr (fun v _ => ⟨sv.vs v, rfl⟩)).symm
    · show Lay st' (fun v => g v - (st f.y).add) (false ^^ (st f.y).rev) f.y t'
      rw [c1, c2]
      exact lay_g (fun v => Int.sub_zero _) ht
    · exact lay_congr hs (fun _ _ => rfl) hr
  · rw [if_neg hd] at h hy ⊢
    obtain ⟨⟨h0, h1, h2, h3, h4, h5, h6, h7, h8⟩, hl, hr⟩ := h
    have eo : (T.node f.s f.y t').ord = (T.node f.s f.y t).ord := by show f.s.ord ++ f.y :: t'.ord = f.s.ord ++ f.y :: t.ord; rw [ho]
    unfold Lay
    rw [hy, eo]
    refine ⟨⟨h0, h1, h2, rfl, h4, h5, h6, ?_, ?_⟩, ?_, ?_⟩
    · exact h7.trans (tnL_congr (fun v _ => sv.vn v)).symm
    · exact h8.trans (tsL_congr (fun v _ => ⟨sv.vs v, rfl⟩)).symm
    · exact lay_congr hs (fun _ _ => rfl) hl
    · show Lay st' (fun v => g v - (st f.y).add) (false ^^ (st f.y).rev) f.y t'
      rw [c1, c2]
      exact lay_g (fun v => Int.sub_zero _) ht
theorem lay_kid {st : St} {g : Nat → Int} {p : Nat} {f : Fr} {t : T} (h : Lay st g false p (plug1 f t)) : (if f.d = true then (st f.y).l else (st f.y).r) = t.rt ∧ (if f.d = true then (st f.y).r else (st f.y).l) = f.s.rt ∧ (st f.y).p = p ∧ f.y ≠ 0 := by
  unfold plug1 at h
  by_cases hd : f.d = true
  · rw [if_pos hd] at h
    rw [if_pos hd, if_pos hd]
    obtain ⟨⟨h0, h1, h2, h3, _⟩, _, _⟩ := h
    exact ⟨by simpa using h2, by simpa using h3, h1, h0⟩
  · rw [if_neg hd] at h
    rw [if_neg hd, if_neg hd]
    obtain ⟨⟨h0, h1, h2, h3, _⟩, _, _⟩ := h
    exact ⟨by simpa using h3, by simpa using h2, h1, h0⟩
theorem lay_replace0 {st st' : St} {g : Nat → Int} {p0 : Nat} (sv : Sv st st') : ∀ (C : List Fr) (t t' : T), Clean st C → Lay st g false p0 (plug C t) → t'.ord = t.ord → t'.rt = t.rt → Lay st' g false (par C p0) t' → (∀ v, v ∈ preL C ∨ v ∈ postL C → st' v = st v) → Lay st' g false p0 (plug C t') := by
  intro C
  induction C with
  | nil => intro t t' _ _ _ _ ht _; exact ht
  | cons f C ih =>
    intro t t' hc h ho hrt ht hs
    have hc' : Clean st C := fun e he => hc e (List.mem_cons_of_mem _ he)
    have h1 := lay_focus hc' (t := plug1 f t) h
    have hsf : st' f.y = st f.y := hs _ (fr_mem (by simp))
    have hk := (lay_kid h1).1
    refine ih (plug1 f t) (plug1 f t') hc' h ?_ (by rw [plug1_rt, plug1_rt]) ?_ (fun v hv => hs v ((cx_cons f C v).2 (.inr (.inr hv))))
    · rw [plug1_ord, plug1_ord, ho]
    · refine lay_step (hc f (by simp)) h1 ho ht sv (fun v hv => hs v ((cx_cons f C v).2 (.inr (.inl hv)))) ?_
      rw [hsf, hrt]
      by_cases hd : f.d = true
      · rw [if_pos hd] at hk ⊢; rw [← hk]
      · rw [if_neg hd] at hk ⊢; rw [← hk]
/-- Another tree of the same nodes in a tree's place, with another top. -/
theorem lay_replace {st st' : St} {g : Nat → Int} {p0 : Nat} (sv : Sv st st') (C : List Fr) (t t' : T) (hc : Clean st C) (h : Lay st g false p0 (plug C t)) (ho : t'.ord = t.ord) (ht : Lay st' g false (par C p0) t')
    (hn : (plug C t).ord.Nodup) (hs : ∀ v, v ∈ preL C ∨ v ∈ postL C → v ≠ par C p0 → st' v = st v) (hy : ∀ f C', C = f :: C' → st' f.y = if f.d = true then { st f.y with l := t'.rt } else { st f.y with r := t'.rt }) : Lay st' g false p0 (plug C t') := by
  cases C with
  | nil => exact ht
  | cons f C =>
    have hc' : Clean st C := fun e he => hc e (List.mem_cons_of_mem _ he)
    have h1 := lay_focus hc' (t := plug1 f t) h
    obtain ⟨n1, n2⟩ := plug_nodup (C := C) (t := plug1 f t) hn
    have hns : ∀ v ∈ f.s.ord, v ≠ f.y := by
      intro v hv e
      rw [plug1_ord] at n1
      by_cases hd : f.d = true
      · simp [hd] at n1
        have := (List.nodup_append.1 n1).2.1
        rw [List.nodup_cons] at this
        exact this.1 (e ▸ hv)
      · simp [hd] at n1
        have := (List.nodup_append.1 n1).2.2 v hv f.y (by simp)
        exact this e
    refine lay_replace0 sv C (plug1 f t) (plug1 f t') hc' h (by rw [plug1_ord, plug1_ord, ho]) (by rw [plug1_rt, plug1_rt]) ?_ (fun v hv => hs v ((cx_cons f C v).2 (.inr (.inr hv))) (fun e => ?_))
    · exact lay_step (hc f (by simp)) h1 ho ht sv (fun v hv => hs v ((cx_cons f C v).2 (.inr (.inl hv))) (hns v hv)) (hy f C rfl)
    · have e' : v = f.y := e
      have hm : f.y ∈ (plug1 f t).ord := by rw [plug1_ord]; by_cases hd : f.d = true <;> simp [hd]
      rw [e'] at hv
      rcases hv with k | k
      · exact (n2 _ hm).1 k
      · exact (n2 _ hm).2 k
end Go.Proofs.Ytaipladbgdcedaa
namespace Go.Proofs.Ytaipladbgdcedaa
open Go.RowKit

/-- From the left. -/
theorem rot_left {st s4 : St} {g : Nat → Int} {q p x : Nat} {a b s : T} (hn : (T.node (.node a x b) p s).ord.Nodup) (hb : Bd st) (hlen : (T.node (.node a x b) p s).ord.length ≤ 1000)
    (h : Lay st g false q (.node (.node a x b) p s)) (cx : (st x).rev = false ∧ (st x).add = 0) (cp : (st p).rev = false ∧ (st p).add = 0) (sv : Sv st s4)
    (hx : s4 x = { st x with r := p, p := q }) (hp : s4 p = { st p with l := b.rt, p := x }) (hbr : b.rt ≠ 0 → s4 b.rt = { st b.rt with p := p }) (hs : ∀ v, v ∈ a.ord ∨ v ∈ b.ord ∨ v ∈ s.ord → v ≠ b.rt → s4 v = st v) :
    Lay (pullF (pullF s4 p) x) g false q (.node a x (.node b p s)) := by
  have hin := lay_in h
  obtain ⟨⟨p0, p1, p2, p3, p4, _⟩, hl, hr⟩ := h
  simp only [Bool.false_eq_true, if_false] at p2 p3
  rw [cp.1, cp.2] at hl hr
  have hl : Lay st g false p _ := lay_g (g' := g) (fun v => (Int.sub_zero _).symm) hl
  have hr : Lay st g false p _ := lay_g (g' := g) (fun v => (Int.sub_zero _).symm) hr
  obtain ⟨⟨x0, x1, x2, x3, x4, _⟩, ha, hbb⟩ := hl
  simp only [Bool.false_eq_true, if_false] at x2 x3
  rw [cx.1, cx.2] at ha hbb
  have ha : Lay st g false x a := lay_g (g' := g) (fun v => (Int.sub_zero _).symm) ha
  have hbb : Lay st g false x b := lay_g (g' := g) (fun v => (Int.sub_zero _).symm) hbb
  obtain ⟨n1, n2, n3, n4, n5⟩ := node_split hn
  obtain ⟨m1, m2, m3, m4, m5⟩ := node_split n1
  have hO : ∀ v, v ∈ (T.node a x b).ord ↔ v ∈ a.ord ∨ v = x ∨ v ∈ b.ord := by intro v; simp [T.ord]
  have xp : x ≠ p := fun e => n3 ((hO p).2 (.inr (.inl e.symm)))
  have za := lay_nz ha
  have zb := lay_nz hbb
  have zs := lay_nz hr
  have len : a.ord.length + b.ord.length + s.ord.length + 2 ≤ 1000 := by
    have : ((a.ord ++ x :: b.ord) ++ p :: s.ord).length ≤ 1000 := hlen
    simp at this
    omega
  have hb4 := sv.bd hb
  -- the kids in the new nodes
  have ka : Lay s4 g false x a := lay_congr (fun v hv => hs v (.inl hv) (rt_out (fun u hu hu' => m5 u hu' hu) v hv (za v hv))) (fun _ _ => rfl) ha
  have kb : Lay s4 g false p b := lay_p m2 (fun v hv hne => hs v (.inr (.inl hv)) hne) (fun e => hbr e) hbb
  have ks : Lay s4 g false p s := lay_congr (fun v hv => hs v (.inr (.inr hv)) (rt_out (fun u hu hu' => n5 u ((hO u).2 (.inr (.inr hu))) hu') v hv (zs v hv))) (fun _ _ => rfl) hr
  have nbp : (T.node b p s).ord.Nodup := by
    show (b.ord ++ p :: s.ord).Nodup
    refine List.nodup_append.2 ⟨m2, List.nodup_cons.2 ⟨n4, n2⟩, fun u hu v hv => ?_⟩
    rcases List.mem_cons.1 hv with e | e
    · subst e; exact fun e => n3 (e ▸ (hO u).2 (.inr (.inr hu)))
    · exact fun e' => n5 u ((hO u).2 (.inr (.inr hu))) (e' ▸ e)
  have inO : ∀ v, v = x ∨ v = p ∨ v ∈ a.ord ∨ v ∈ b.ord ∨ v ∈ s.ord → InW (g v) := by
    intro v hv
    refine hin v ?_
    show v ∈ (a.ord ++ x :: b.ord) ++ p :: s.ord
    simp
    rcases hv with e | e | e | e | e <;> simp [e]
  have P5 : Lay (pullF s4 p) g false x (.node b p s) := by
    refine lay_pull nbp hb4 (by show (b.ord ++ p :: s.ord).length ≤ 1000; simp; omega) p0 (by rw [hp]) (by rw [hp]) (by rw [hp]; exact p3) (by rw [hp]; exact p4) (inO p (.inr (.inl rfl))) (by rw [hp]; exact cp.1) (by rw [hp]; exact cp.2) kb ks
  have npa : p ∉ a.ord := fun e => n3 ((hO p).2 (.inl e))
  have ka5 : Lay (pullF s4 p) g false x a := lay_congr (fun v hv => pull_ne _ _ _ (fun e => npa (e ▸ hv))) (fun _ _ => rfl) ka
  have hx5 : pullF s4 p x = { st x with r := p, p := q } := by rw [pull_ne _ _ _ xp, hx]
  have nall : (T.node a x (.node b p s)).ord.Nodup := by
    show (a.ord ++ x :: (b.ord ++ p :: s.ord)).Nodup
    have hn' : ((a.ord ++ x :: b.ord) ++ p :: s.ord).Nodup := hn
    simpa using hn'
  refine lay_pull nall ((sv_pull s4 p p0).bd hb4) (by show (a.ord ++ x :: (b.ord ++ p :: s.ord)).length ≤ 1000; simp; omega) x0 (by rw [hx5]) (by rw [hx5]; exact x2) (by rw [hx5]; rfl) (by rw [hx5]; exact x4) (inO x (.inl rfl)) (by rw [hx5]; exact cx.1) (by rw [hx5]; exact cx.2) ka5 P5
/-- From the right. -/
theorem rot_right {st s4 : St} {g : Nat → Int} {q p x : Nat} {a b s : T} (hn : (T.node s p (.node a x b)).ord.Nodup) (hb : Bd st) (hlen : (T.node s p (.node a x b)).ord.length ≤ 1000)
    (h : Lay st g false q (.node s p (.node a x b))) (cx : (st x).rev = false ∧ (st x).add = 0) (cp : (st p).rev = false ∧ (st p).add = 0) (sv : Sv st s4)
    (hx : s4 x = { st x with l := p, p := q }) (hp : s4 p = { st p with r := a.rt, p := x }) (har : a.rt ≠ 0 → s4 a.rt = { st a.rt with p := p }) (hs : ∀ v, v ∈ a.ord ∨ v ∈ b.ord ∨ v ∈ s.ord → v ≠ a.rt → s4 v = st v) :
    Lay (pullF (pullF s4 p) x) g false q (.node (.node s p a) x b) := by
  have hin := lay_in h
  obtain ⟨⟨p0, p1, p2, p3, p4, _⟩, hl, hr⟩ := h
  simp only [Bool.false_eq_true, if_false] at p2 p3
  rw [cp.1, cp.2] at hl hr
  have hl : Lay st g false p _ := lay_g (g' := g) (fun v => (Int.sub_zero _).symm) hl
  have hr : Lay st g false p _ := lay_g (g' := g) (fun v => (Int.sub_zero _).symm) hr
  obtain ⟨⟨x0, x1, x2, x3, x4, _⟩, ha, hbb⟩ := hr
  simp only [Bool.false_eq_true, if_false] at x2 x3
  rw [cx.1, cx.2] at ha hbb
  have ha : Lay st g false x a := lay_g (g' := g) (fun v => (Int.sub_zero _).symm) ha
  have hbb : Lay st g false x b := lay_g (g' := g) (fun v => (Int.sub_zero _).symm) hbb
  obtain ⟨n1, n2, n3, n4, n5⟩ := node_split hn
  obtain ⟨m1, m2, m3, m4, m5⟩ := node_split n2
  have hO : ∀ v, v ∈ (T.node a x b).ord ↔ v ∈ a.ord ∨ v = x ∨ v ∈ b.ord := by intro v; simp [T.ord]
  have xp : x ≠ p := fun e => n4 ((hO p).2 (.inr (.inl e.symm)))
  have za := lay_nz ha
  have zb := lay_nz hbb
  have zs := lay_nz hl
  have len : a.ord.length + b.ord.length + s.ord.length + 2 ≤ 1000 := by
    have : (s.ord ++ p :: (a.ord ++ x :: b.ord)).length ≤ 1000 := hlen
    simp at this
    omega
  have hb4 := sv.bd hb
  have kb : Lay s4 g false x b := lay_congr (fun v hv => hs v (.inr (.inl hv)) (rt_out m5 v hv (zb v hv))) (fun _ _ => rfl) hbb
  have ka : Lay s4 g false p a := lay_p m1 (fun v hv hne => hs v (.inl hv) hne) (fun e => har e) ha
  have ks : Lay s4 g false p s := lay_congr (fun v hv => hs v (.inr (.inr hv)) (rt_out (fun u hu hu' => n5 u hu' ((hO u).2 (.inl hu))) v hv (zs v hv))) (fun _ _ => rfl) hl
  have nbp : (T.node s p a).ord.Nodup := by
    show (s.ord ++ p :: a.ord).Nodup
    refine List.nodup_append.2 ⟨n1, List.nodup_cons.2 ⟨fun e => n4 ((hO p).2 (.inl e)), m1⟩, fun u hu v hv => ?_⟩
    rcases List.mem_cons.1 hv with e | e
    · subst e; exact fun e => n3 (e ▸ hu)
    · exact fun e' => n5 u hu ((hO u).2 (.inl (e' ▸ e)))
  have inO : ∀ v, v = x ∨ v = p ∨ v ∈ a.ord ∨ v ∈ b.ord ∨ v ∈ s.ord → InW (g v) := by
    intro v hv
    refine hin v ?_
    show v ∈ s.ord ++ p :: (a.ord ++ x :: b.ord)
    simp
    rcases hv with e | e | e | e | e <;> simp [e]
  have P5 : Lay (pullF s4 p) g false x (.node s p a) := by
    refine lay_pull nbp hb4 (by show (s.ord ++ p :: a.ord).length ≤ 1000; simp; omega) p0 (by rw [hp]) (by rw [hp]; exact p2) (by rw [hp]) (by rw [hp]; exact p4) (inO p (.inr (.inl rfl))) (by rw [hp]; exact cp.1) (by rw [hp]; exact cp.2) ks ka
  have npb : p ∉ b.ord := fun e => n4 ((hO p).2 (.inr (.inr e)))
  have kb5 : Lay (pullF s4 p) g false x b := lay_congr (fun v hv => pull_ne _ _ _ (fun e => npb (e ▸ hv))) (fun _ _ => rfl) kb
  have hx5 : pullF s4 p x = { st x with l := p, p := q } := by rw [pull_ne _ _ _ xp, hx]
  have nall : (T.node (.node s p a) x b).ord.Nodup := by
    show ((s.ord ++ p :: a.ord) ++ x :: b.ord).Nodup
    have hn' : (s.ord ++ p :: (a.ord ++ x :: b.ord)).Nodup := hn
    simpa using hn'
  refine lay_pull nall ((sv_pull s4 p p0).bd hb4) (by show ((s.ord ++ p :: a.ord) ++ x :: b.ord).length ≤ 1000; simp; omega) x0 (by rw [hx5]) (by rw [hx5]; rfl) (by rw [hx5]; exact x3) (by rw [hx5]; exact x4) (inO x (.inl rfl)) (by rw [hx5]; exact cx.1) (by rw [hx5]; exact cx.2) P5 kb5

/-- The tree behind a turn. -/
def rot (d : Bool) (p : Nat) (s a : T) (x : Nat) (b : T) : T := if d = true then .node a x (.node b p s) else .node (.node s p a) x b
theorem rot_ord (d : Bool) (p : Nat) (s a : T) (x : Nat) (b : T) : (rot d p s a x b).ord = (plug1 ⟨d, p, s⟩ (.node a x b)).ord := by
  unfold rot plug1
  cases d <;> simp [T.ord]
theorem rot_rt (d : Bool) (p : Nat) (s a : T) (x : Nat) (b : T) : (rot d p s a x b).rt = x := by
  unfold rot
  cases d <;> rfl
/-- What stands above a splay tree knows no node of it as a kid. -/
def Apart (st : St) (p0 : Nat) (O : List Nat) : Prop := p0 = 0 ∨ (p0 ∉ O ∧ (∀ v ∈ O, (st p0).l ≠ v) ∧ ∀ v ∈ O, (st p0).r ≠ v)
theorem turn0_nodes {st : St} {x p q bb : Nat} {d : Bool} (hx0 : x ≠ 0) (hp0 : p ≠ 0) (xp : x ≠ p) (xq : x ≠ q) (pq : p ≠ q) (nbx : bb ≠ x) (nbp : bb ≠ p) (nbq : bb ≠ 0 → bb ≠ q)
    (hk : if d = true then (st p).l = x else ((st p).l ≠ x ∧ (st p).r = x)) (hbb : bb = if d = true then (st x).r else (st x).l) (s1 : St) (hs1 : s1 = turn1 st x p q) (h1x : s1 x = st x) (h1p : s1 p = st p) (h1b : bb ≠ 0 → s1 bb = st bb) :
    turn0 st x p q x = (if d = true then { st x with r := p, p := q } else { st x with l := p, p := q }) ∧ turn0 st x p q p = (if d = true then { st p with l := bb, p := x } else { st p with r := bb, p := x }) ∧
      (bb ≠ 0 → turn0 st x p q bb = { st bb with p := p }) ∧ ∀ v, v ≠ x → v ≠ p → (v ≠ bb ∨ bb = 0) → turn0 st x p q v = s1 v := by
  have e0 : turn0 st x p q = turn4 (turn3 (turn2 s1 x p) (turnB s1 x p) p) x p q := by rw [hs1]; rfl
  have hd : ((s1 p).l = x) ↔ d = true := by
    rw [h1p]
    by_cases h : d = true
    · rw [if_pos h] at hk; simp [h, hk]
    · rw [if_neg h] at hk; simp [h, hk.1]
  have eB : turnB s1 x p = bb := by
    unfold turnB
    rw [hbb, h1x]
    by_cases h : d = true
    · rw [if_pos (hd.2 h), if_pos h]
    · rw [if_neg (fun e => h (hd.1 e)), if_neg h]
  rw [eB] at e0
  have e2 : ∀ v, turn2 s1 x p v = if v = x then (if d = true then { st x with r := p } else { st x with l := p }) else if v = p then (if d = true then { st p with l := bb } else { st p with r := bb }) else s1 v := by
    intro v
    unfold turn2
    by_cases h : d = true
    · rw [if_pos (hd.2 h), if_pos h, if_pos h, hbb, if_pos h, h1x, h1p]
      unfold St.upd
      rfl
    · rw [if_neg (fun e => h (hd.1 e)), if_neg h, if_neg h, hbb, if_neg h, h1x, h1p]
      unfold St.upd
      rfl
  generalize turn2 s1 x p = s2 at *
  have e3 : ∀ v, turn3 s2 bb p v = if bb ≠ 0 ∧ v = bb then { s1 bb with p := p } else s2 v := by
    intro v
    unfold turn3
    by_cases h : bb = 0
    · rw [if_pos h, if_neg (fun e => e.1 h)]
    · rw [if_neg h]
      by_cases e : v = bb
      · rw [if_pos ⟨h, e⟩, e, St.upd_same, e2 bb, if_neg nbx, if_neg nbp]
      · rw [if_neg (fun k => e k.2), St.upd_ne _ _ _ _ e]
  generalize turn3 s2 bb p = s3 at *
  have e4 : ∀ v, turn4 s3 x p q v = if v = x then { s3 x with p := q } else if v = p then { s3 p with p := x } else s3 v := by
    intro v
    unfold turn4
    unfold St.upd
    rfl
  rw [e0]
  have k3x : s3 x = s2 x := by rw [e3, if_neg (fun k => nbx k.2.symm)]
  have k3p : s3 p = s2 p := by rw [e3, if_neg (fun k => nbp k.2.symm)]
  refine ⟨?_, ?_, fun h => ?_, fun v v1 v2 v3 => ?_⟩
  · rw [e4, if_pos rfl, k3x, e2, if_pos rfl]
    by_cases h : d = true <;> simp [h]
  · rw [e4, if_neg (Ne.symm xp), if_pos rfl, k3p, e2, if_neg (Ne.symm xp), if_pos rfl]
    by_cases h : d = true <;> simp [h]
  · rw [e4, if_neg nbx, if_neg nbp, e3, if_pos ⟨h, rfl⟩, h1b h]
  · rw [e4, if_neg v1, if_neg v2, e3, if_neg (fun k => by rcases v3 with g | g; · exact g k.2
                                                          · exact k.1 g), e2, if_neg v1, if_neg v2]
end Go.Proofs.Ytaipladbgdcedaa
namespace Go.Proofs.Ytaipladbgdcedaa
open Go.RowKit

theorem sv_turn0 {st : St} {x p q : Nat} (hx : x ≠ 0) (hp : p ≠ 0) (xp : x ≠ p) (hq : topB st p = true ∨ q ≠ 0) : Sv st (turn0 st x p q) := by
  have a1 : Sv st (turn1 st x p q) := by
    unfold turn1
    split
    · exact Sv.refl _
    · rename_i h
      have hq0 : q ≠ 0 := hq.resolve_left h
      split
      · exact Sv.upd _ _ _ hq0 rfl rfl rfl
      · exact Sv.upd _ _ _ hq0 rfl rfl rfl
  have two : ∀ (s : St) (y z : Nd), y.vn = (s p).vn → y.vs = (s p).vs → y.th = (s p).th → z.vn = (s x).vn → z.vs = (s x).vs → z.th = (s x).th → Sv s ((s.upd p y).upd x z) := fun s y z h1 h2 h3 h4 h5 h6 =>
    (Sv.upd s p y hp h1 h2 h3).trans (Sv.upd _ x z hx (by rw [St.upd_ne _ _ _ _ xp]; exact h4) (by rw [St.upd_ne _ _ _ _ xp]; exact h5) (by rw [St.upd_ne _ _ _ _ xp]; exact h6))
  have a2 : Sv (turn1 st x p q) (turn2 (turn1 st x p q) x p) := by
    unfold turn2
    split
    · exact two _ _ _ rfl rfl rfl rfl rfl rfl
    · exact two _ _ _ rfl rfl rfl rfl rfl rfl
  have a3 : ∀ (s : St) (b : Nat), Sv s (turn3 s b p) := by
    intro s b
    unfold turn3
    split
    · exact Sv.refl _
    · exact Sv.upd _ _ _ (by assumption) rfl rfl rfl
  exact ((a1.trans a2).trans (a3 _ _)).trans (two _ _ _ rfl rfl rfl rfl rfl rfl)
theorem rt_lt {t : T} {m : Nat} (h : ∀ v ∈ t.ord, v < m) (hm : 0 < m) : t.rt < m := by
  by_cases e : t.rt = 0
  · omega
  · exact h _ (rt_mem e)
theorem rt_ne {t : T} {x : Nat} (h : x ∉ t.ord) (hx : x ≠ 0) : t.rt ≠ x := by
  intro e
  by_cases e0 : t.rt = 0
  · omega
  · exact h (e ▸ rt_mem e0)
/-- Nothing waits at a node. -/
def Cln (st : St) (x : Nat) : Prop := (st x).rev = false ∧ (st x).add = 0
/-- What a turn leaves. -/
structure Turned (m : Nat) (st st' : St) (g : Nat → Int) (p0 : Nat) (d : Bool) (p : Nat) (s : T) (C : List Fr) (a : T) (x : Nat) (b : T) : Prop where
  ok : TurnOk m st x p (par C p0)
  lay : Lay st' g false p0 (plug C (rot d p s a x b))
  cc : Clean st' C
  cx : Cln st' x
  cp : Cln st' p
  sv : Sv st st'
  out : ∀ v, v ∉ (plug (⟨d, p, s⟩ :: C) (.node a x b)).ord → st' v = st v
set_option maxHeartbeats 800000 in
theorem lay_turn {st : St} {g : Nat → Int} {p0 : Nat} {d : Bool} {p : Nat} {s : T} {C : List Fr} {a : T} {x : Nat} {b : T} {m : Nat} (hn : (plug (⟨d, p, s⟩ :: C) (.node a x b)).ord.Nodup) (hb : Bd st) (hlen : (plug (⟨d, p, s⟩ :: C) (.node a x b)).ord.length ≤ 1000)
    (hm : ∀ v ∈ (plug (⟨d, p, s⟩ :: C) (.node a x b)).ord, v < m) (hp0 : p0 < m) (h : Lay st g false p0 (plug (⟨d, p, s⟩ :: C) (.node a x b))) (hc : Clean st (⟨d, p, s⟩ :: C)) (cx : Cln st x) (ap : Apart st p0 (plug (⟨d, p, s⟩ :: C) (.node a x b)).ord) :
    Turned m st (pullF (pullF (turn0 st x p (par C p0)) p) x) g p0 d p s C a x b := by
  have hc' : Clean st C := fun e he => hc e (List.mem_cons_of_mem _ he)
  have cp : Cln st p := hc ⟨d, p, s⟩ (by simp)
  obtain ⟨q, hq⟩ : ∃ q, q = par C p0 := ⟨_, rfl⟩
  rw [← hq]
  obtain ⟨N1, N2⟩ := plug_nodup (C := C) (t := plug1 ⟨d, p, s⟩ (.node a x b)) hn
  have L1 : Lay st g false q (plug1 ⟨d, p, s⟩ (.node a x b)) := by rw [hq]; exact lay_focus hc' (t := plug1 ⟨d, p, s⟩ (.node a x b)) h
  have L2 : Lay st g false p (.node a x b) := lay_focus (C := [⟨d, p, s⟩]) (p0 := q) (fun e he => hc e (by simp at he; simp [he])) L1
  obtain ⟨k1, k2, k3, k4⟩ := lay_kid L1
  simp only [T.rt] at k1
  obtain ⟨⟨x0, x1, x2, x3, _⟩, _, _⟩ := id L2
  simp only [Bool.false_eq_true, if_false] at x2 x3
  have inT : ∀ v, v ∈ (plug1 ⟨d, p, s⟩ (.node a x b)).ord ↔ v = p ∨ v ∈ s.ord ∨ v ∈ a.ord ∨ v = x ∨ v ∈ b.ord := by
    intro v
    rw [plug1_ord]
    cases d
    · simp [T.ord]
      constructor
      · rintro (e | e | e | e | e) <;> simp [e]
      · rintro (e | e | e | e | e) <;> simp [e]
    · simp [T.ord]
      constructor
      · rintro (e | e | e | e | e) <;> simp [e]
      · rintro (e | e | e | e | e) <;> simp [e]
  have mem : ∀ v, v ∈ (plug (⟨d, p, s⟩ :: C) (.node a x b)).ord ↔ v ∈ (plug1 ⟨d, p, s⟩ (.node a x b)).ord ∨ v ∈ preL C ∨ v ∈ postL C := fun v => plug_mem C (plug1 ⟨d, p, s⟩ (.node a x b)) v
  have hm1 : ∀ v ∈ (plug1 ⟨d, p, s⟩ (.node a x b)).ord, v < m := fun v hv => hm v ((mem v).2 (.inl hv))
  have hxm := hm1 x ((inT x).2 (by simp))
  have hpm := hm1 p ((inT p).2 (by simp))
  -- apart
  have dist : p ∉ s.ord ∧ p ∉ a.ord ∧ p ≠ x ∧ p ∉ b.ord ∧ x ∉ s.ord ∧ x ∉ a.ord ∧ x ∉ b.ord := by
    have N1' := N1
    unfold plug1 at N1'
    cases d
    · obtain ⟨n1, n2, n3, n4, n5⟩ := node_split (l := s) (r := .node a x b) N1'
      obtain ⟨m1, m2, m3, m4, m5⟩ := node_split n2
      have hO : ∀ v, v ∈ (T.node a x b).ord ↔ v ∈ a.ord ∨ v = x ∨ v ∈ b.ord := by intro v; simp [T.ord]
      exact ⟨n3, fun e => n4 ((hO p).2 (.inl e)), fun e => n4 ((hO p).2 (.inr (.inl e))), fun e => n4 ((hO p).2 (.inr (.inr e))), fun e => n5 x e ((hO x).2 (.inr (.inl rfl))), m3, m4⟩
    · obtain ⟨n1, n2, n3, n4, n5⟩ := node_split (l := .node a x b) (r := s) N1'
      obtain ⟨m1, m2, m3, m4, m5⟩ := node_split n1
      have hO : ∀ v, v ∈ (T.node a x b).ord ↔ v ∈ a.ord ∨ v = x ∨ v ∈ b.ord := by intro v; simp [T.ord]
      exact ⟨n4, fun e => n3 ((hO p).2 (.inl e)), fun e => n3 ((hO p).2 (.inr (.inl e))), fun e => n3 ((hO p).2 (.inr (.inr e))), fun e => n5 x ((hO x).2 (.inr (.inl rfl))) e, m3, m4⟩
  obtain ⟨d1, d2, d3, d4, d5, d6, d7⟩ := dist
  have qout : ∀ v ∈ (plug1 ⟨d, p, s⟩ (.node a x b)).ord, v ≠ 0 → v ≠ q := by
    intro v hv hv0 e
    cases C with
    | nil =>
      have e' : v = p0 := by rw [e, hq]; rfl
      rcases ap with g0 | ⟨g0, _⟩
      · omega
      · exact g0 (e' ▸ (mem v).2 (.inl hv))
    | cons f C =>
      have e' : v = f.y := by rw [e, hq]; rfl
      rcases fr_mem (C := f :: C) (f := f) (by simp) with k | k
      · exact (N2 v hv).1 (e' ▸ k)
      · exact (N2 v hv).2 (e' ▸ k)
  have hqm : q < m := by
    cases C with
    | nil => rw [hq]; exact hp0
    | cons f C =>
      have e' : q = f.y := by rw [hq]; rfl
      rw [e']
      exact hm _ ((mem _).2 (.inr (fr_mem (by simp))))
  have xq := qout x ((inT x).2 (by simp)) x0
  have pq := qout p ((inT p).2 (by simp)) k4
  have hm0 : 0 < m := by omega
  have am : a.rt < m := rt_lt (fun v hv => hm1 v ((inT v).2 (by simp [hv]))) hm0
  have bm : b.rt < m := rt_lt (fun v hv => hm1 v ((inT v).2 (by simp [hv]))) hm0
  have sm : s.rt < m := rt_lt (fun v hv => hm1 v ((inT v).2 (by simp [hv]))) hm0
  have ax := rt_ne d6 x0
  have bx := rt_ne d7 x0
  have sx := rt_ne d5 x0
  have apn := rt_ne d2 k4
  have bpn := rt_ne d4 k4
  have spn := rt_ne d1 k4
  have hk : if d = true then (st p).l = x else ((st p).l ≠ x ∧ (st p).r = x) := by
    cases d
    · simp only [Bool.false_eq_true, if_false] at k1 k2 ⊢
      exact ⟨by rw [k2]; exact sx, k1⟩
    · simpa using k1
  have pl : (st p).l < m ∧ (st p).r < m ∧ (st p).l ≠ p ∧ (st p).r ≠ p := by
    cases d
    · simp only [Bool.false_eq_true, if_false] at k1 k2
      rw [k1, k2]
      exact ⟨sm, hxm, spn, fun e => d3 e.symm⟩
    · simp only [if_true] at k1 k2
      rw [k1, k2]
      exact ⟨hxm, sm, fun e => d3 e.symm, spn⟩
  have ok : TurnOk m st x p q := ⟨x1, k3, hxm, hpm, hqm, fun e => d3 e.symm, xq, pq, by rw [x2]; exact am, by rw [x3]; exact bm, pl.1, pl.2.1, by rw [x2]; exact ⟨ax, apn⟩, by rw [x3]; exact ⟨bx, bpn⟩, pl.2.2.1, pl.2.2.2⟩
  -- what stands above
  have top : (C = [] ∧ topB st p = true) ∨ (∃ f C', C = f :: C' ∧ topB st p = false) := by
    cases C with
    | nil =>
      refine .inl ⟨rfl, ?_⟩
      have e : q = p0 := hq
      unfold topB
      rw [k3, e]
      rcases ap with g0 | ⟨_, g1, g2⟩
      · simp [g0]
      · have m1 := g1 p ((mem p).2 (.inl ((inT p).2 (by simp))))
        have m2 := g2 p ((mem p).2 (.inl ((inT p).2 (by simp))))
        simp [m1, m2]
    | cons f C =>
      refine .inr ⟨f, C, rfl, ?_⟩
      have e : q = f.y := hq
      have L3 : Lay st g false (par C p0) (plug1 f (plug1 ⟨d, p, s⟩ (.node a x b))) := lay_focus (fun e he => hc' e (List.mem_cons_of_mem _ he)) (t := plug1 f (plug1 ⟨d, p, s⟩ (.node a x b))) h
      obtain ⟨j1, j2, j3, j4⟩ := lay_kid L3
      rw [plug1_rt] at j1
      unfold topB
      rw [k3, e]
      have e0 : (f.y == 0) = false := beq_eq_false_iff_ne.2 j4
      rw [e0]
      by_cases hd : f.d = true
      · rw [if_pos hd] at j1; simp [j1]
      · rw [if_neg hd] at j1; simp [j1]
  have hq0 : topB st p = true ∨ q ≠ 0 := by
    rcases top with ⟨_, t⟩ | ⟨f, C', e, _⟩
    · exact .inl t
    · right
      subst e
      have e' : q = f.y := hq
      rw [e']
      have L3 : Lay st g false (par C' p0) (plug1 f (plug1 ⟨d, p, s⟩ (.node a x b))) := lay_focus (fun e he => hc' e (List.mem_cons_of_mem _ he)) (t := plug1 f (plug1 ⟨d, p, s⟩ (.node a x b))) h
      exact (lay_kid L3).2.2.2
  -- the node above it
  obtain ⟨s1, hs1⟩ : ∃ s1, s1 = turn1 st x p q := ⟨_, rfl⟩
  have s1ne : ∀ v, v ≠ q → s1 v = st v := by
    intro v hv
    rw [hs1]
    unfold turn1
    split
    · rfl
    · split <;> exact St.upd_ne _ _ _ _ hv
  have s1nil : C = [] → s1 = st := by
    intro e
    rcases top with ⟨_, t⟩ | ⟨f, C', e', _⟩
    · rw [hs1]; unfold turn1; rw [if_pos t]
    · rw [e] at e'; cases e'
  have s1q : ∀ f C', C = f :: C' → s1 f.y = if f.d = true then { st f.y with l := x } else { st f.y with r := x } := by
    intro f C' e
    rcases top with ⟨e', _⟩ | ⟨_, _, _, t⟩
    · rw [e] at e'; cases e'
    · subst e
      have e' : q = f.y := hq
      have L3 : Lay st g false (par C' p0) (plug1 f (plug1 ⟨d, p, s⟩ (.node a x b))) := lay_focus (fun e he => hc' e (List.mem_cons_of_mem _ he)) (t := plug1 f (plug1 ⟨d, p, s⟩ (.node a x b))) h
      obtain ⟨j1, j2, j3, j4⟩ := lay_kid L3
      rw [plug1_rt] at j1
      simp only [] at j1
      rw [hs1, e']
      unfold turn1
      rw [if_neg (by rw [t]; simp)]
      by_cases hd : f.d = true
      · rw [if_pos hd] at j1 ⊢
        rw [if_pos j1, St.upd_same]
      · rw [if_neg hd] at j1 j2 ⊢
        have : (st f.y).l ≠ p := by
          rw [j2]
          refine rt_ne (fun e => ?_) k4
          have hv := (inT p).2 (.inl rfl)
          rcases fr_sub (C := f :: C') (f := f) (by simp) p e with k | k
          · exact (N2 p hv).1 k
          · exact (N2 p hv).2 k
        rw [if_neg this, St.upd_same]
  obtain ⟨bb, hbb⟩ : ∃ bb, bb = if d = true then b.rt else a.rt := ⟨_, rfl⟩
  have hbx : bb ≠ x ∧ bb ≠ p := by rw [hbb]; split; exact ⟨bx, bpn⟩; exact ⟨ax, apn⟩
  have hbT : bb ≠ 0 → bb ∈ (plug1 ⟨d, p, s⟩ (.node a x b)).ord := by
    intro h0
    rw [hbb] at h0 ⊢
    cases d
    · simp only [Bool.false_eq_true, if_false] at h0 ⊢
      exact (inT _).2 (by simp [rt_mem h0])
    · simp only [if_true] at h0 ⊢
      exact (inT _).2 (by simp [rt_mem h0])
  have hbq : bb ≠ 0 → bb ≠ q := fun h0 => qout bb (hbT h0) h0
  obtain ⟨t1, t2, t3, t4⟩ := turn0_nodes (st := st) (x := x) (p := p) (q := q) (bb := bb) (d := d) x0 k4 (fun e => d3 e.symm) xq pq hbx.1 hbx.2 hbq hk (by rw [hbb, x2, x3]) s1 hs1 (s1ne x xq) (s1ne p pq) (fun h0 => s1ne bb (hbq h0))
  have SV := sv_turn0 (st := st) (x := x) (p := p) (q := q) x0 k4 (fun e => d3 e.symm) hq0
  generalize turn0 st x p q = s4 at *
  have SV' : Sv st (pullF (pullF s4 p) x) := (SV.trans (sv_pull s4 p k4)).trans (sv_pull _ x x0)
  have lenT : (plug1 ⟨d, p, s⟩ (.node a x b)).ord.length ≤ 1000 := by
    have : (preL C ++ (plug1 ⟨d, p, s⟩ (.node a x b)).ord ++ postL C).length ≤ 1000 := by rw [← plug_ord]; exact hlen
    simp at this
    omega
  have keep : ∀ v, v ∈ a.ord ∨ v ∈ b.ord ∨ v ∈ s.ord → v ≠ bb → s4 v = st v := by
    intro v hv hvb
    have hvT : v ∈ (plug1 ⟨d, p, s⟩ (.node a x b)).ord := (inT v).2 (by rcases hv with e | e | e <;> simp [e])
    have vx : v ≠ x := fun e => by subst e; rcases hv with e | e | e; exact d6 e; exact d7 e; exact d5 e
    have vp : v ≠ p := fun e => by subst e; rcases hv with e | e | e; exact d2 e; exact d4 e; exact d1 e
    have v0 : v ≠ 0 := lay_nz L1 v hvT
    rw [t4 v vx vp (.inl hvb), s1ne v (qout v hvT v0)]
  have LR : Lay (pullF (pullF s4 p) x) g false q (rot d p s a x b) := by
    unfold plug1 at L1 N1 lenT
    cases d
    · simp only [Bool.false_eq_true, if_false] at L1 N1 lenT t1 t2 hbb
      subst hbb
      exact rot_right N1 hb lenT L1 cx cp SV t1 t2 (fun e => t3 e) keep
    · simp only [if_true] at L1 N1 lenT t1 t2 hbb
      subst hbb
      exact rot_left N1 hb lenT L1 cx cp SV t1 t2 (fun e => t3 e) keep
  have far : ∀ v, v ∉ (plug1 ⟨d, p, s⟩ (.node a x b)).ord → pullF (pullF s4 p) x v = s1 v := by
    intro v hv
    have vx : v ≠ x := fun e => hv ((inT v).2 (by simp [e]))
    have vp : v ≠ p := fun e => hv ((inT v).2 (by simp [e]))
    rw [pull_ne _ _ _ vx, pull_ne _ _ _ vp]
    refine t4 v vx vp ?_
    by_cases h0 : bb = 0
    · exact .inr h0
    · exact .inl (fun e => hv (e ▸ hbT h0))
  have ctxout : ∀ v, v ∈ preL C ∨ v ∈ postL C → v ∉ (plug1 ⟨d, p, s⟩ (.node a x b)).ord := fun v hv e => by
    rcases hv with k | k
    · exact (N2 v e).1 k
    · exact (N2 v e).2 k
  have hy : ∀ f C', C = f :: C' → pullF (pullF s4 p) x f.y = if f.d = true then { st f.y with l := (rot d p s a x b).rt } else { st f.y with r := (rot d p s a x b).rt } := by
    intro f C' e
    rw [rot_rt, far f.y (ctxout _ (fr_mem (by rw [e]; simp))), s1q f C' e]
  refine ⟨hq ▸ ok, ?_, ?_, ?_, ?_, SV', ?_⟩
  · refine lay_replace SV' C (plug1 ⟨d, p, s⟩ (.node a x b)) _ hc' h (rot_ord d p s a x b) (by rw [← hq]; exact LR) hn (fun v hv hvq => ?_) hy
    rw [far v (ctxout v hv), s1ne v (by rw [hq]; exact hvq)]
  · intro f hf
    by_cases e : f.y = q
    · cases C with
      | nil => cases hf
      | cons f0 C0 =>
        have e' : q = f0.y := hq
        have c0 := hc' f0 (by simp)
        rw [e, e', hy f0 C0 rfl]
        split
        · exact c0
        · exact c0
    · rw [far f.y (ctxout _ (fr_mem hf)), s1ne f.y e]
      exact hc' f hf
  · have e : pullF (pullF s4 p) x x = pullN (pullF s4 p x) (pullF s4 p (pullF s4 p x).l) (pullF s4 p (pullF s4 p x).r) := St.upd_same _ _ _
    unfold Cln
    rw [e]
    show (pullF s4 p x).rev = false ∧ (pullF s4 p x).add = 0
    rw [pull_ne _ _ _ (fun e => d3 e.symm), t1]
    split
    · exact cx
    · exact cx
  · unfold Cln
    rw [pull_ne _ _ _ d3]
    have e : pullF s4 p p = pullN (s4 p) (s4 (s4 p).l) (s4 (s4 p).r) := St.upd_same _ _ _
    rw [e]
    show (s4 p).rev = false ∧ (s4 p).add = 0
    rw [t2]
    split
    · exact cp
    · exact cp
  · intro v hv
    have v1 : v ∉ (plug1 ⟨d, p, s⟩ (.node a x b)).ord := fun e => hv ((mem v).2 (.inl e))
    rw [far v v1]
    cases C with
    | nil => rw [s1nil rfl]
    | cons f C =>
      refine s1ne v (fun e => hv ((mem v).2 (.inr ?_)))
      have e' : q = f.y := hq
      rw [e, e']
      exact fr_mem (by simp)
end Go.Proofs.Ytaipladbgdcedaa
namespace Go.Proofs.Ytaipladbgdcedaa
open Go.RowKit

theorem plug_append (D E : List Fr) (t : T) : plug (D ++ E) t = plug E (plug D t) := by
  induction D generalizing t with
  | nil => rfl
  | cons f D ih => exact ih (plug1 f t)
theorem plug_snoc_rt (D : List Fr) (f : Fr) (t : T) : (plug (D ++ [f]) t).rt = f.y := by
  rw [plug_append]
  exact plug1_rt f _
theorem focus_any {st : St} {p0 : Nat} {C : List Fr} {t : T} : ∀ {g : Nat → Int} {rv : Bool}, Lay st g rv p0 (plug C t) → ∃ g' rv', Lay st g' rv' (par C p0) t := by
  induction C generalizing t with
  | nil => exact fun h => ⟨_, _, h⟩
  | cons f C ih =>
    intro g rv h
    obtain ⟨g1, rv1, h1⟩ := ih (t := plug1 f t) h
    unfold plug1 at h1
    by_cases hd : f.d = true
    · rw [if_pos hd] at h1
      exact ⟨_, _, h1.2.1⟩
    · rw [if_neg hd] at h1
      exact ⟨_, _, h1.2.2⟩
theorem lay_rt {st : St} {g : Nat → Int} {rv : Bool} {p : Nat} {t : T} (h : Lay st g rv p t) (h0 : t.rt ≠ 0) : (st t.rt).p = p := by
  cases t with
  | nil => exact absurd rfl h0
  | node l x r => exact h.1.2.1
theorem lay_rt_nz {st : St} {g : Nat → Int} {rv : Bool} {p : Nat} {f : Fr} {t : T} (h : Lay st g rv p (plug1 f t)) : f.y ≠ 0 ∧ ((st f.y).l = t.rt ∨ (st f.y).r = t.rt) := by
  unfold plug1 at h
  by_cases hd : f.d = true
  · rw [if_pos hd] at h
    obtain ⟨⟨h0, h1, h2, h3, _⟩, _, _⟩ := h
    refine ⟨h0, ?_⟩
    cases rv
    · exact .inl (by simpa using h2)
    · exact .inr (by simpa using h3)
  · rw [if_neg hd] at h
    obtain ⟨⟨h0, h1, h2, h3, _⟩, _, _⟩ := h
    refine ⟨h0, ?_⟩
    cases rv
    · exact .inr (by simpa using h3)
    · exact .inl (by simpa using h2)
/-- Who is the top: the one with nothing around. -/
theorem top_nil {st : St} {g : Nat → Int} {rv : Bool} {p0 : Nat} {t : T} (h : Lay st g rv p0 t) (h0 : t.rt ≠ 0) (ap : Apart st p0 t.ord) : (st t.rt).p = p0 ∧ topB st t.rt = true := by
  have hp := lay_rt h h0
  refine ⟨hp, ?_⟩
  unfold topB
  rw [hp]
  rcases ap with g0 | ⟨_, g1, g2⟩
  · simp [g0]
  · simp [g1 _ (rt_mem h0), g2 _ (rt_mem h0)]
theorem top_cons {st : St} {g : Nat → Int} {rv : Bool} {p0 : Nat} {f : Fr} {C : List Fr} {t : T} (h : Lay st g rv p0 (plug (f :: C) t)) (h0 : t.rt ≠ 0) : (st t.rt).p = f.y ∧ topB st t.rt = false ∧ f.y ≠ 0 := by
  obtain ⟨g1, rv1, h1⟩ := focus_any (C := f :: C) (t := t) h
  obtain ⟨g2, rv2, h2⟩ := focus_any (C := C) (t := plug1 f t) h
  have hp : (st t.rt).p = f.y := lay_rt h1 h0
  obtain ⟨k0, k1⟩ := lay_rt_nz h2
  refine ⟨hp, ?_, k0⟩
  unfold topB
  rw [hp]
  have e0 : (f.y == 0) = false := beq_eq_false_iff_ne.2 k0
  rw [e0]
  rcases k1 with e | e
  · simp [e]
  · simp [e]
/-- A push within a tree. -/
theorem push_step {st : St} {g : Nat → Int} {p0 : Nat} {E : List Fr} {l r : T} {y : Nat} (hn : (plug E (.node l y r)).ord.Nodup) (hb : Bd st) (hlen : (plug E (.node l y r)).ord.length ≤ 1000) (hc : Clean st E) (h : Lay st g false p0 (plug E (.node l y r))) :
    Lay (pushF st y) g false p0 (plug E (.node l y r)) ∧ Cln (pushF st y) y ∧ Clean (pushF st y) E ∧ Sv st (pushF st y) ∧ ∀ v, v ∉ (plug E (.node l y r)).ord → pushF st y v = st v := by
  obtain ⟨n1, n2⟩ := plug_nodup hn
  have len1 : (T.node l y r).ord.length ≤ 1000 := by
    have : (preL E ++ (T.node l y r).ord ++ postL E).length ≤ 1000 := by rw [← plug_ord]; exact hlen
    simp only [List.length_append] at this
    omega
  obtain ⟨k1, k2, k3, k4, k5⟩ := lay_push n1 hb len1 (lay_focus hc h)
  have out : ∀ v, v ∈ preL E ∨ v ∈ postL E → pushF st y v = st v := fun v hv => k4 v (fun e => by
    rcases hv with k | k
    · exact (n2 v e).1 k
    · exact (n2 v e).2 k)
  refine ⟨lay_replace0 k5 E _ _ hc h rfl rfl k1 out, ⟨k2, k3⟩, fun f hf => ?_, k5, fun v hv => k4 v (fun e => hv ((plug_mem E _ v).2 (.inl e)))⟩
  rw [out f.y (fr_mem hf)]
  exact hc f hf
/-- The tree is a node's. -/
theorem plug_node (D : List Fr) (a : T) (x : Nat) (b : T) : ∃ l r, plug D (.node a x b) = .node l (plug D (.node a x b)).rt r := by
  induction D generalizing a x b with
  | nil => exact ⟨a, b, rfl⟩
  | cons f D ih =>
    show ∃ l r, plug D (plug1 f (.node a x b)) = .node l (plug D (plug1 f (.node a x b))).rt r
    unfold plug1
    split
    · exact ih _ _ _
    · exact ih _ _ _
theorem node_rt {t l r : T} {y : Nat} (h : t = .node l y r) : t.rt = y := by subst h; rfl
/-- A splay tree's lay and what else splay must know. -/
structure SB (m : Nat) (st : St) (p0 : Nat) (O : List Nat) : Prop where
  n : O.Nodup
  len : O.length ≤ 1000
  lt : ∀ v ∈ O, v < m
  lp : p0 < m
  bd : Bd st
  ap : Apart st p0 O
theorem SB.next {m : Nat} {st st' : St} {p0 : Nat} {O : List Nat} (h : SB m st p0 O) (sv : Sv st st') (out : ∀ v, v ∉ O → st' v = st v) : SB m st' p0 O := by
  refine ⟨h.n, h.len, h.lt, h.lp, sv.bd h.bd, ?_⟩
  rcases h.ap with g | ⟨g, g1, g2⟩
  · exact .inl g
  · exact .inr ⟨g, by rw [out p0 g]; exact g1, by rw [out p0 g]; exact g2⟩
/-- One turn of the last loop: from a frame over a node to the tree behind the turn. -/
theorem turn_step {m : Nat} {st : St} {g : Nat → Int} {p0 : Nat} {O : List Nat} {f : Fr} {C : List Fr} {a b : T} {x : Nat} (hO : (plug (f :: C) (.node a x b)).ord = O) (sb : SB m st p0 O) (h : Lay st g false p0 (plug (f :: C) (.node a x b))) (hc : Clean st (f :: C)) (cx : Cln st x) :
    Turned m st (pullF (pullF (turn0 st x f.y (par C p0)) f.y) x) g p0 f.d f.y f.s C a x b := by
  obtain ⟨d, p, s⟩ := f
  subst hO
  exact lay_turn sb.n sb.bd sb.len sb.lt sb.lp h hc cx sb.ap
/-- The node's kids behind a turn. -/
theorem rot_node (d : Bool) (p : Nat) (s a : T) (x : Nat) (b : T) : ∃ a' b', rot d p s a x b = .node a' x b' := by
  unfold rot
  cases d
  · exact ⟨_, _, rfl⟩
  · exact ⟨_, _, rfl⟩
/-- Of three in a row the middle one is turned up first: the node stands below it then. -/
theorem rot_zig (d : Bool) (p q : Nat) (s1 s2 a : T) (x : Nat) (b : T) :
    ∃ A B s', plug1 ⟨d, p, s1⟩ (.node a x b) = .node A p B ∧ rot d q s2 A p B = plug1 ⟨d, p, s'⟩ (.node a x b) := by
  cases d
  · exact ⟨s1, .node a x b, .node s2 q s1, rfl, rfl⟩
  · exact ⟨.node a x b, s1, .node s1 q s2, rfl, rfl⟩
end Go.Proofs.Ytaipladbgdcedaa
namespace Go.Proofs.Ytaipladbgdcedaa
open Go.RowKit

theorem E48 : ElemT Try.prog 48 3 1 8 := by
  obtain ⟨i0, hi, hz0, hz1, hz2⟩ := info_parts (show (Try.prog.info? 3).map (fun i => (i.zero, i.size, i.bytes)) = some (some (.int .i64 0), 1, 8) by kernel_rfl)
  exact ⟨Try.underlying48, ⟨i0, _, hi, hz0, hz1, hz2, rfl⟩, by decide⟩
def nrow (l : List Nat) : List Value := l.map fun v : Nat => Value.int .i64 (v : Int)
theorem nrow_get (l : List Nat) (j : Nat) (hj : j < l.length) : (nrow l)[j]? = some (.int .i64 (l[j] : Nat)) := by simp [nrow, hj]
/-- The state of a splay tree while it is splayed. -/
structure SS (m : Nat) (s0 st : St) (g : Nat → Int) (p0 : Nat) (O : List Nat) (C : List Fr) (a : T) (x : Nat) (b : T) : Prop where
  lay : Lay st g false p0 (plug C (.node a x b))
  ord : (plug C (.node a x b)).ord = O
  sb : SB m st p0 O
  sv : Sv s0 st
  out : ∀ v, v ∉ O → st v = s0 v
theorem SS.x0 {m : Nat} {s0 st : St} {g : Nat → Int} {p0 : Nat} {O : List Nat} {C : List Fr} {a : T} {x : Nat} {b : T} (h : SS m s0 st g p0 O C a x b) : x ≠ 0 := by
  obtain ⟨g', rv, hh⟩ := focus_any h.lay
  exact hh.1.1
theorem SS.frs {m : Nat} {s0 st : St} {g : Nat → Int} {p0 : Nat} {O : List Nat} {C : List Fr} {a : T} {x : Nat} {b : T} (h : SS m s0 st g p0 O C a x b) : ∀ f ∈ C, f.y ∈ O := fun f hf => by
  rw [← h.ord]
  exact (plug_mem C _ _).2 (.inr (fr_mem hf))
theorem SS.xO {m : Nat} {s0 st : St} {g : Nat → Int} {p0 : Nat} {O : List Nat} {C : List Fr} {a : T} {x : Nat} {b : T} (h : SS m s0 st g p0 O C a x b) : x ∈ O := by
  rw [← h.ord]
  exact (plug_mem C _ _).2 (.inl (by simp [T.ord]))
def isN : List Fr → Bool
  | [] => true
  | _ :: _ => false
/-- Of a step of the way up: what it is, and whether it is the last one. -/
theorem SS.way {m : Nat} {s0 st : St} {g : Nat → Int} {p0 : Nat} {O : List Nat} {C : List Fr} {a : T} {x : Nat} {b : T} (h : SS m s0 st g p0 O C a x b) (D E : List Fr) (e : C = D ++ E) :
    (plug D (.node a x b)).rt ∈ O ∧ (plug D (.node a x b)).rt ≠ 0 ∧ (st (plug D (.node a x b)).rt).p = par E p0 ∧ topB st (plug D (.node a x b)).rt = isN E := by
  subst e
  have hl := h.lay
  have ho := h.ord
  rw [plug_append] at hl ho
  obtain ⟨l, r, hp⟩ := plug_node D a x b
  have hm : (plug D (.node a x b)).rt ∈ (plug D (.node a x b)).ord := by rw [hp]; simp [T.rt, T.ord]
  have hO : (plug D (.node a x b)).rt ∈ O := by rw [← ho]; exact (plug_mem E _ _).2 (.inl hm)
  have h0 : (plug D (.node a x b)).rt ≠ 0 := by
    obtain ⟨g1, rv1, h1⟩ := focus_any hl
    exact lay_nz h1 _ hm
  refine ⟨hO, h0, ?_⟩
  cases E with
  | nil =>
    have ap := h.sb.ap
    rw [← ho] at ap
    exact top_nil hl h0 ap
  | cons f E =>
    obtain ⟨k1, k2, _⟩ := top_cons hl h0
    exact ⟨k1, k2⟩
/-- A push on the way down. -/
theorem SS.push {m : Nat} {s0 st : St} {g : Nat → Int} {p0 : Nat} {O : List Nat} {C : List Fr} {a : T} {x : Nat} {b : T} (h : SS m s0 st g p0 O C a x b) (D E : List Fr) (e : C = D ++ E) (hc : Clean st E) :
    SS m s0 (pushF st (plug D (.node a x b)).rt) g p0 O C a x b ∧ Cln (pushF st (plug D (.node a x b)).rt) (plug D (.node a x b)).rt ∧ Clean (pushF st (plug D (.node a x b)).rt) E ∧
      (st (plug D (.node a x b)).rt).l < m ∧ (st (plug D (.node a x b)).rt).r < m := by
  subst e
  have hl := h.lay
  have ho := h.ord
  rw [plug_append] at hl ho
  obtain ⟨l, r, hp⟩ := plug_node D a x b
  generalize (plug D (.node a x b)).rt = y at hp ⊢
  rw [hp] at hl ho
  obtain ⟨k1, k2, k3, k4, k5⟩ := push_step (by rw [ho]; exact h.sb.n) h.sb.bd (by rw [ho]; exact h.sb.len) hc hl
  have hm0 : 0 < m := by have := h.sb.lp; omega
  obtain ⟨⟨_, _, f2, f3, _⟩, _, _⟩ := lay_focus hc hl
  simp only [Bool.false_eq_true, if_false] at f2 f3
  have lm : ∀ v, v ∈ (T.node l y r).ord → v < m := fun v hv => h.sb.lt v (by rw [← ho]; exact (plug_mem E _ _).2 (.inl hv))
  refine ⟨⟨by rw [plug_append, hp]; exact k1, by rw [plug_append, hp]; exact ho, h.sb.next k4 (fun v hv => k5 v (by rw [ho]; exact hv)), h.sv.trans k4, fun v hv => (k5 v (by rw [ho]; exact hv)).trans (h.out v hv)⟩, k2, k3, ?_, ?_⟩
  · rw [f2]; exact rt_lt (fun v hv => lm v (by simp [T.ord, hv])) hm0
  · rw [f3]; exact rt_lt (fun v hv => lm v (by simp [T.ord, hv])) hm0
/-- A turn of the last loop. -/
theorem SS.turn {m : Nat} {s0 st : St} {g : Nat → Int} {p0 : Nat} {O : List Nat} {f : Fr} {C : List Fr} {a : T} {x : Nat} {b : T} (h : SS m s0 st g p0 O (f :: C) a x b) (hc : Clean st (f :: C)) (cx : Cln st x) :
    TurnOk m st x f.y (par C p0) ∧ Cln (pullF (pullF (turn0 st x f.y (par C p0)) f.y) x) f.y ∧ ∃ a' b', rot f.d f.y f.s a x b = .node a' x b' ∧ SS m s0 (pullF (pullF (turn0 st x f.y (par C p0)) f.y) x) g p0 O C a' x b' ∧ Clean (pullF (pullF (turn0 st x f.y (par C p0)) f.y) x) C ∧ Cln (pullF (pullF (turn0 st x f.y (par C p0)) f.y) x) x := by
  have t := turn_step h.ord h.sb h.lay hc cx
  obtain ⟨a', b', e⟩ := rot_node f.d f.y f.s a x b
  have hl := t.lay
  rw [e] at hl
  have ho : (plug C (.node a' x b')).ord = O := by
    rw [← e, plug_ord, rot_ord, ← plug_ord]
    exact h.ord
  have hout : ∀ v, v ∉ O → pullF (pullF (turn0 st x f.y (par C p0)) f.y) x v = st v := fun v hv => t.out v (by rw [show plug (⟨f.d, f.y, f.s⟩ :: C) (.node a x b) = plug (f :: C) (.node a x b) from rfl, h.ord]; exact hv)
  exact ⟨t.ok, t.cp, a', b', e, ⟨hl, ho, h.sb.next t.sv hout, h.sv.trans t.sv, fun v hv => (hout v hv).trans (h.out v hv)⟩, t.cc, t.cx⟩

theorem nrow_get' (l : List Nat) (j : Nat) : (nrow l)[j]? = (l[j]?).map fun v : Nat => Value.int .i64 (v : Int) := by simp [nrow]
theorem nrow_len (l : List Nat) : (nrow l).length = l.length := by simp [nrow]
theorem nrow_one (l : List Nat) : ∀ u ∈ nrow l, u.oneCell' = true := by
  intro u hu
  obtain ⟨x, _, rfl⟩ := List.mem_map.1 hu
  rfl
/-- What splay leaves. -/
def SplayPost (w : World) (F A m : Nat) (st : St) (g : Nat → Int) (p0 : Nat) (O : List Nat) (x : Nat) (e : Ending) (w' : World) : Prop :=
  e = .returned (.tuple #[]) ∧ ∃ st' a b, FR w' F A m st' ∧ Tch [A] w w' ∧ SS m st st' g p0 O [] a x b ∧ Cln st' x
def WayR (w : World) (F A m : Nat) (st : St) (C : List Fr) (a : T) (x : Nat) (b : T) (v y : Value) (wr : World) : Prop :=
  ∃ D E, C = D ++ E ∧ y = .int .i64 ((plug D (.node a x b)).rt : Nat) ∧ wr.ownsRow w.heap.size 3 1 v (D.length + 1) (nrow (x :: D.map (·.y))) ∧ Tch [] w wr
def PushR (w : World) (F A m : Nat) (s0 : St) (g : Nat → Int) (p0 : Nat) (O : List Nat) (C : List Fr) (a : T) (x : Nat) (b : T) (v i : Value) (wr : World) : Prop :=
  ∃ st k, FR wr F A m st ∧ SS m s0 st g p0 O C a x b ∧ Tch [A] w wr ∧ wr.ownsRow w.heap.size 3 1 v (C.length + 1) (nrow (x :: C.map (·.y))) ∧ k ≤ C.length + 1 ∧ (∃ z : Int, z = (k : Int) - 1 ∧ i = .int .i64 z) ∧ Clean st (C.drop (k - 1)) ∧ (k = 0 → Cln st x)
def TurnR (w : World) (F A m : Nat) (s0 : St) (g : Nat → Int) (p0 : Nat) (O : List Nat) (x : Nat) (n : Nat) (wr : World) : Prop :=
  ∃ st C a b, C.length = n ∧ FR wr F A m st ∧ SS m s0 st g p0 O C a x b ∧ Tch [A] w wr ∧ Clean st C ∧ Cln st x
theorem ways_get (C : List Fr) (a : T) (x : Nat) (b : T) (D E : List Fr) (e : C = D ++ E) : (x :: C.map (·.y))[D.length]? = some (plug D (.node a x b)).rt := by
  subst e
  rcases List.eq_nil_or_concat D with h | ⟨D', f, h⟩
  · subst h; rfl
  · subst h
    rw [List.concat_eq_append, plug_snoc_rt]
    simp

/-- A turn leaves what waits at each node. -/
theorem pull_keeps (st : St) (x v : Nat) : (pullF st x v).rev = (st v).rev ∧ (pullF st x v).add = (st v).add := by
  by_cases e : v = x
  · subst e
    have : pullF st v v = pullN (st v) (st (st v).l) (st (st v).r) := St.upd_same _ _ _
    rw [this]
    exact ⟨rfl, rfl⟩
  · rw [pull_ne _ _ _ e]; exact ⟨rfl, rfl⟩
theorem upd_keeps (st : St) (x : Nat) (y : Nd) (h1 : y.rev = (st x).rev) (h2 : y.add = (st x).add) (v : Nat) : ((st.upd x y) v).rev = (st v).rev ∧ ((st.upd x y) v).add = (st v).add := by
  by_cases e : v = x
  · subst e; rw [St.upd_same]; exact ⟨h1, h2⟩
  · rw [St.upd_ne _ _ _ _ e]; exact ⟨rfl, rfl⟩
theorem turn_keeps (st : St) (x p q v : Nat) (xp : x ≠ p) : (pullF (pullF (turn0 st x p q) p) x v).rev = (st v).rev ∧ (pullF (pullF (turn0 st x p q) p) x v).add = (st v).add := by
  have a1 : ∀ s : St, ∀ v, (turn1 s x p q v).rev = (s v).rev ∧ (turn1 s x p q v).add = (s v).add := by
    intro s v
    unfold turn1
    split
    · exact ⟨rfl, rfl⟩
    · split
      · (refine upd_keeps _ _ _ ?_ ?_ v <;> rfl)
      · (refine upd_keeps _ _ _ ?_ ?_ v <;> rfl)
  have two : ∀ (s : St) (y z : Nd), y.rev = (s p).rev → y.add = (s p).add → z.rev = (s x).rev → z.add = (s x).add → ∀ v, (((s.upd p y).upd x z) v).rev = (s v).rev ∧ (((s.upd p y).upd x z) v).add = (s v).add := by
    intro s y z h1 h2 h3 h4 v
    have k1 := upd_keeps s p y h1 h2 v
    have k2 := upd_keeps (s.upd p y) x z (by rw [St.upd_ne _ _ _ _ xp]; exact h3) (by rw [St.upd_ne _ _ _ _ xp]; exact h4) v
    exact ⟨k2.1.trans k1.1, k2.2.trans k1.2⟩
  have a2 : ∀ s : St, ∀ v, (turn2 s x p v).rev = (s v).rev ∧ (turn2 s x p v).add = (s v).add := by
    intro s v
    unfold turn2
    split
    · (refine two _ _ _ ?_ ?_ ?_ ?_ v <;> rfl)
    · (refine two _ _ _ ?_ ?_ ?_ ?_ v <;> rfl)
  have a3 : ∀ (s : St) (b : Nat), ∀ v, (turn3 s b p v).rev = (s v).rev ∧ (turn3 s b p v).add = (s v).add := by
    intro s b v
    unfold turn3
    split
    · exact ⟨rfl, rfl⟩
    · (refine upd_keeps _ _ _ ?_ ?_ v <;> rfl)
  have a4 : ∀ s : St, ∀ v, (turn4 s x p q v).rev = (s v).rev ∧ (turn4 s x p q v).add = (s v).add := fun s v => by refine two _ _ _ ?_ ?_ ?_ ?_ v <;> rfl
  have k5 := pull_keeps (pullF (turn0 st x p q) p) x v
  have k4 := pull_keeps (turn0 st x p q) p v
  have k3 : (turn0 st x p q v).rev = (st v).rev ∧ (turn0 st x p q v).add = (st v).add := by
    unfold turn0
    have b4 := a4 (turn3 (turn2 (turn1 st x p q) x p) (turnB (turn1 st x p q) x p) p) v
    have b3 := a3 (turn2 (turn1 st x p q) x p) (turnB (turn1 st x p q) x p) v
    have b2 := a2 (turn1 st x p q) v
    have b1 := a1 st v
    exact ⟨((b4.1.trans b3.1).trans b2.1).trans b1.1, ((b4.2.trans b3.2).trans b2.2).trans b1.2⟩
  exact ⟨(k5.1.trans k4.1).trans k3.1, (k5.2.trans k4.2).trans k3.2⟩
/-- From which side a node comes. -/
theorem SS.side {m : Nat} {s0 st : St} {g : Nat → Int} {p0 : Nat} {O : List Nat} {f : Fr} {C : List Fr} {a : T} {x : Nat} {b : T} (h : SS m s0 st g p0 O (f :: C) a x b) (hc : Clean st (f :: C)) : (((st f.y).l : Int) == (x : Int)) = f.d := by
  have hc' : Clean st C := fun e he => hc e (List.mem_cons_of_mem _ he)
  obtain ⟨k1, k2, _, _⟩ := lay_kid (lay_focus hc' (t := plug1 f (.node a x b)) h.lay)
  by_cases hd : f.d = true
  · rw [if_pos hd] at k1
    rw [k1, hd]
    simp [T.rt]
  · rw [if_neg hd] at k1 k2
    have hd' : f.d = false := by simpa using hd
    rw [hd', k2]
    refine beq_eq_false_iff_ne.2 (fun e => ?_)
    have hn := h.sb.n
    rw [← h.ord] at hn
    obtain ⟨n1, n2⟩ := plug_nodup (C := f :: C) hn
    have hx : x ∈ (T.node a x b).ord := by simp [T.ord]
    have hs : x ∈ f.s.ord := by
      have e' : f.s.rt = x := by omega
      rw [← e']
      exact rt_mem (by rw [e']; exact h.x0)
    rcases fr_sub (C := f :: C) (f := f) (by simp) x hs with k | k
    · exact (n2 x hx).1 k
    · exact (n2 x hx).2 k
/-- The tree seen from the node above. -/
theorem SS.upper {m : Nat} {s0 st : St} {g : Nat → Int} {p0 : Nat} {O : List Nat} {f : Fr} {C : List Fr} {a : T} {x : Nat} {b : T} (h : SS m s0 st g p0 O (f :: C) a x b) (A B : T) (e : plug1 f (.node a x b) = .node A f.y B) : SS m s0 st g p0 O C A f.y B :=
  ⟨by rw [← e]; exact h.lay, by rw [← e]; exact h.ord, h.sb, h.sv, h.out⟩
/-- Of three in a row from one side: the middle one is turned up. -/
theorem SS.zig {m : Nat} {s0 st : St} {g : Nat → Int} {p0 : Nat} {O : List Nat} {f f2 : Fr} {C : List Fr} {a : T} {x : Nat} {b : T} (h : SS m s0 st g p0 O (f :: f2 :: C) a x b) (hc : Clean st (f :: f2 :: C)) (cx : Cln st x) (hd : f2.d = f.d) :
    TurnOk m st f.y f2.y (par C p0) ∧ ∃ s', SS m s0 (pullF (pullF (turn0 st f.y f2.y (par C p0)) f2.y) f.y) g p0 O (⟨f.d, f.y, s'⟩ :: C) a x b ∧ Clean (pullF (pullF (turn0 st f.y f2.y (par C p0)) f2.y) f.y) (⟨f.d, f.y, s'⟩ :: C) ∧ Cln (pullF (pullF (turn0 st f.y f2.y (par C p0)) f2.y) f.y) x := by
  obtain ⟨A, B, s', e1, e2⟩ := rot_zig f.d f.y f2.y f.s f2.s a x b
  have hu := h.upper A B e1
  have hc' : Clean st (f2 :: C) := fun e he => hc e (List.mem_cons_of_mem _ he)
  have cy : Cln st f.y := hc f (by simp)
  obtain ⟨ok, _, a', b', er, hS, hcc, hcy⟩ := hu.turn hc' cy
  rw [hd, e2] at er
  refine ⟨ok, s', ⟨?_, ?_, hS.sb, hS.sv, hS.out⟩, fun e he => ?_, ?_⟩
  · have := hS.lay
    rw [← er] at this
    exact this
  · have := hS.ord
    rw [← er] at this
    exact this
  · rcases List.mem_cons.1 he with e' | e'
    · subst e'; exact hcy
    · exact hcc e e'
  · have k := turn_keeps st f.y f2.y (par C p0) x ok.xp
    unfold Cln
    rw [k.1, k.2]
    exact cx
def Least (P : Nat → Prop) (n : Nat) : Prop := P n ∧ ∀ k, k < n → ¬ P k
theorem least_ex (P : Nat → Prop) : ∀ n, P n → ∃ k, Least P k := by
  intro n
  induction n using Nat.strongRecOn with
  | ind n ih =>
    intro hn
    by_cases h : ∃ k, k < n ∧ P k
    · obtain ⟨k, hk, hp⟩ := h
      exact ih k hk hp
    · exact ⟨n, hn, fun k hk hp => h ⟨k, hk, hp⟩⟩
theorem eps_eq {P : Nat → Prop} {n : Nat} (h : Least P n) : Classical.epsilon (Least P) = n := by
  have h2 := Classical.epsilon_spec (p := Least P) ⟨n, h⟩
  rcases Nat.lt_trichotomy (Classical.epsilon (Least P)) n with g | g | g
  · exact absurd h2.1 (h.2 _ g)
  · exact g
  · exact absurd h.1 (h2.2 _ g)
theorem eps_le {P : Nat → Prop} {k : Nat} (h : P k) : Classical.epsilon (Least P) ≤ k := by
  obtain ⟨n, hn⟩ := least_ex P k h
  rw [eps_eq hn]
  rcases Nat.lt_or_ge k n with g | g
  · exact absurd h (hn.2 k g)
  · exact g
def slen : Value → Nat
  | .slice _ n _ => n
  | _ => 0
theorem clean_drop {st : St} {C : List Fr} {a : T} {x : Nat} {b : T} (j : Nat) (h0 : 0 < j) (hj : j ≤ C.length) (h : Clean st (C.drop j)) (hy : Cln st (plug (C.take j) (.node a x b)).rt) : Clean st (C.drop (j - 1)) := by
  have e : C.drop (j - 1) = C[j - 1] :: C.drop j := by
    rw [List.drop_eq_getElem_cons (by omega)]
    congr 2
    omega
  have e2 : C.take j = C.take (j - 1) ++ [C[j - 1]] := by
    have := List.take_succ_eq_append_getElem (l := C) (i := j - 1) (by omega)
    rw [← this]
    congr 1
    omega
  rw [e2, plug_snoc_rt] at hy
  rw [e]
  intro f hf
  rcases List.mem_cons.1 hf with k | k
  · subst k; exact hy
  · exact h f k

set_option maxRecDepth 100000 in
set_option maxHeartbeats 4000000 in
theorem splay_any (w : World) (F A m : Nat) (st : St) (h : FR w F A m st) (g : Nat → Int) (p0 : Nat) (O : List Nat) (C : List Fr) (a : T) (x : Nat) (b : T) (hS : SS m st st g p0 O C a x b) :
    Calls Try.prog 57 #[.pointer (some ⟨F, 0, none⟩), .int .i64 x] w (SplayPost w F A m st g p0 O x) := by
  have hs := h.small
  have hlenC : C.length ≤ 1000 := by
    have h1 := hS.sb.len
    rw [← hS.ord, plug_ord] at h1
    have : ∀ C : List Fr, C.length ≤ (preL C).length + (postL C).length := by
      intro C
      induction C with
      | nil => simp
      | cons f C ih =>
        by_cases hd : f.d = true
        · simp [preL, postL, hd]; omega
        · simp [preL, postL, hd]; omega
    have := this C
    simp only [List.length_append] at h1
    omega
  obtain ⟨hF1, hA1⟩ := h.lt
  have HH := Lib.hid h
  have HS := Lib.hid hS
  clear h hS
  go_enter Try.func57, Try.ntmps57
  go_wp2_with fail
  have hR : WayR w F A m st C a x b (.slice (some ⟨w.heap.size, 0, none⟩) 1 1) (.int .i64 x) (w.alloc (.cells #[.int .i64 x] 3)) :=
    ⟨[], C, rfl, rfl, by have := World.ownsRow_lit (base := w.heap.size) (e := 3) (size := 1) w #[.int .i64 x] 1 (Nat.le_refl _) (by unfold maxLen; omega) (by simp); simpa [nrow] using this, (Tch.refl _ _).new _⟩
  go_loopw [4, 5] (fun v y wr => WayR w F A m st C a x b v y wr) (fun v _ _ => C.length + 1 - slen v)
  case atStart => exact hR
  case round =>
    clear hR
    obtain ⟨D, E, hCe, rfl, ho, hT⟩ := hrel
    obtain ⟨k1, k2, k3, k4⟩ := HS.out.way D E hCe
    have hym := HS.out.sb.lt _ k1
    have hDl : D.length ≤ C.length := by rw [hCe]; simp
    have hg := ways_get C a x b D E hCe
    have hmap : C.map (·.y) = D.map (·.y) ++ E.map (·.y) := by rw [hCe]; simp
    obtain ⟨y, hy⟩ : ∃ y, y = (plug D (.node a x b)).rt := ⟨_, rfl⟩
    rw [← hy] at hym k1 k2 k3 k4 hg
    have h1 := HH.out.quiet hT
    have hpm : (st y).p < m := by
      rw [k3]
      cases E with
      | nil => exact HS.out.sb.lp
      | cons f E => exact HS.out.sb.lt _ (HS.out.frs f (by rw [hCe]; simp))
    obtain ⟨va, vc, rfl, _⟩ := owns_form ho
    have HTOP := Lib.hid (top_any wr F A m st h1 y hym hpm)
    rw [k4] at HTOP
    have hsz := hT.size
    cases E with
    | cons f E =>
      simp only [isN] at HTOP
      have c0 := h1.c0
      have fyp := h1.at_p y hym
      rw [k3] at fyp
      simp only [par] at fyp
      obtain ⟨hF2, hA2⟩ := h1.lt
      have HO := Lib.hid ho
      have HT := Lib.hid hT
      have HY := Lib.hid hy
      have HC := Lib.hid hCe
      clear h1 ho hT hg hmap k1 k2 k3 k4 hy hCe hpm
      rw [← HY.out]
      go_wp2_with fail
      go_at_call 58
      refine HTOP.out.mono ?_
      rintro e w2 ⟨rfl, rfl⟩
      go_wp2_with (at_builtin; (refine wpList_append1 E48 rfl (.tmp 24) (.tmp 26) rfl w.heap.size (.slice va (D.length + 1) vc) (D.length + 1) (nrow (x :: D.map (·.y))) (owns_new HO.out _) rfl _ _ [.int .i64 (f.y : Int)] rfl rfl (0, 0) 3 (heap_new_at _ _ _ (by simp)) (by simp [Value.oneCell']) (by unfold maxLen; omega) (by omega) (by simp; omega) ?_); intro va' vc' w' r1 r2 r3)
      go_roundw
      case rel =>
        refine ⟨D ++ [f], E, by rw [HC.out]; simp, by rw [plug_snoc_rt], ?_, ?_⟩
        · have e1 : (D ++ [f]).length = D.length + 1 := by simp
          have e2 : nrow (x :: (D ++ [f]).map (·.y)) = nrow (x :: D.map (·.y)) ++ [.int .i64 (f.y : Int)] := by simp [nrow]
          rw [e1, e2]
          exact r1
        · have t1 := HT.out.new (.cells #[.int .i64 (f.y : Int)] 3)
          exact ⟨r2.os.trans t1.os, r2.tape.trans t1.tape, r2.output.trans t1.output, Nat.le_trans t1.size r2.size, fun k hk hn => (r2.block k (Nat.lt_of_lt_of_le hk t1.size) (fun e => by
            have := (HO.out.lt k (by simpa using e)).1
            omega)).trans (t1.block k hk hn)⟩
      case measure =>
        have : D.length < C.length := by rw [HC.out]; simp
        show C.length + 1 - (D.length + 1 + 1) < C.length + 1 - (D.length + 1)
        omega
    | nil =>
      simp only [isN] at HTOP
      have hDC : D = C := by rw [hCe]; simp
      subst hDC
      have HO := Lib.hid ho
      have HT := Lib.hid hT
      have HY := Lib.hid hy
      clear h1 ho hT hg hmap k1 k2 k3 k4 hy hCe hpm
      rw [← HY.out]
      go_wp2_with fail
      go_at_call 58
      refine HTOP.out.mono ?_
      rintro e w2 ⟨rfl, rfl⟩
      go_wp2_with fail
      clear HTOP HY hym
      have hR : PushR w F A m st g p0 O D a x b (.slice va (D.length + 1) vc) (.int .i64 (D.length : Int)) wr :=
        ⟨st, D.length + 1, HH.out.quiet HT.out, HS.out, HT.out.mono (by simp), HO.out, Nat.le_refl _, ⟨_, by omega, rfl⟩, by
          have : D.drop (D.length + 1 - 1) = [] := by simp
          rw [this]
          exact (fun f hf => by cases hf), fun e => by omega⟩
      go_loopw [6] (fun i wr => PushR w F A m st g p0 O D a x b (.slice va (D.length + 1) vc) i wr) (fun i _ => (intOf i + 1).toNat)
      case atStart => exact hR
      case round =>
        clear hR
        obtain ⟨st1, k, h1, hS1, hT1, ho1, hk, ⟨z, hz, rfl⟩, hc1, hx1⟩ := hrel
        obtain ⟨hF2, hA2⟩ := h1.lt
        by_cases hk0 : k = 0
        · subst hk0
          have hz' : z = -1 := by omega
          subst hz'
          have hc1' : Clean st1 D := by simpa using hc1
          have hR2 : TurnR w F A m st g p0 O x D.length wr := ⟨st1, D, a, b, rfl, h1, hS1, hT1, hc1', hx1 rfl⟩
          have HR2 := Lib.hid hR2
          clear h1 hS1 hT1 ho1 hk hz hc1 hx1 hc1' hR2
          go_wp2_with fail
          go_loopw [7, 8] (fun _ _ wr => ∃ n, TurnR w F A m st g p0 O x n wr) (fun _ _ wr => Classical.epsilon (Least (fun n => TurnR w F A m st g p0 O x n wr)))
          case atStart => exact ⟨_, HR2.out⟩
          case round =>
            clear HR2
            obtain ⟨n0, hn0⟩ := hrel
            obtain ⟨n, hL⟩ := least_ex (fun n => TurnR w F A m st g p0 O x n wr) n0 hn0
            have HL := Lib.hid hL
            obtain ⟨⟨st1, C, a1, b1, hlen, h1, hS1, T1, hc1, hx1⟩, _⟩ := hL
            clear hn0
            have hxm := hS1.sb.lt _ hS1.xO
            cases C with
            | nil =>
              obtain ⟨q1, q2, q3, q4⟩ := hS1.way [] [] rfl
              have HTOP := Lib.hid (top_any wr F A m st1 h1 x hxm (by have : (st1 x).p = p0 := q3; rw [this]; exact hS1.sb.lp))
              have q4' : topB st1 x = true := q4
              rw [q4'] at HTOP
              have HE := Lib.hid (show FR wr F A m st1 ∧ Tch [A] w wr ∧ SS m st st1 g p0 O [] a1 x b1 ∧ Cln st1 x from ⟨h1, T1, hS1, hx1⟩)
              clear h1 hS1 T1 hc1 hx1 q1 q2 q3 q4 q4'
              go_wp2_with fail
              go_at_call 58
              refine HTOP.out.mono ?_
              rintro e w2 ⟨rfl, rfl⟩
              go_wp2_with fail
              exact bodyPost_end (v := .tuple #[]) (by simp [results, Try.results57, go_sem]) rfl ⟨rfl, st1, a1, b1, HE.out.1, HE.out.2.1, HE.out.2.2.1, HE.out.2.2.2⟩
            | cons f C =>
              obtain ⟨q1, q2, q3, q4⟩ := hS1.way [] (f :: C) rfl
              have q3' : (st1 x).p = f.y := q3
              have q4' : topB st1 x = false := q4
              have hfm := hS1.sb.lt _ (hS1.frs f (by simp))
              have HTOP := Lib.hid (top_any wr F A m st1 h1 x hxm (by rw [q3']; exact hfm))
              rw [q4'] at HTOP
              have c0 := h1.c0
              have fxp := h1.at_p x hxm
              rw [q3'] at fxp
              obtain ⟨hF2, hA2⟩ := h1.lt
              obtain ⟨r1, r2, r3, r4⟩ := hS1.way [f] C rfl
              have r3' : (st1 f.y).p = par C p0 := by have := r3; rw [show (plug [f] (.node a1 x b1)).rt = f.y from plug1_rt f _] at this; exact this
              have r4' : topB st1 f.y = isN C := by have := r4; rw [show (plug [f] (.node a1 x b1)).rt = f.y from plug1_rt f _] at this; exact this
              have hgm : par C p0 < m := by
                cases C with
                | nil => exact hS1.sb.lp
                | cons f2 C => exact hS1.sb.lt _ (hS1.frs f2 (by simp))
              have HTOP2 := Lib.hid (top_any wr F A m st1 h1 f.y hfm (by rw [r3']; exact hgm))
              rw [r4'] at HTOP2
              have H1 := Lib.hid h1
              have HS1 := Lib.hid hS1
              have HT1 := Lib.hid T1
              have HC1 := Lib.hid hc1
              have HX1 := Lib.hid hx1
              have HN := Lib.hid hlen
              cases C with
              | nil =>
                simp only [isN] at HTOP2
                obtain ⟨ok, _, a2, b2, _, hS2, hc2, hx2⟩ := hS1.turn hc1 hx1
                have HTU := Lib.hid (turn_any wr F A m st1 h1 x f.y (par [] p0) ok)
                have HR := Lib.hid (show SS m st _ g p0 O [] a2 x b2 ∧ Clean _ [] ∧ Cln _ x from ⟨hS2, hc2, hx2⟩)
                clear h1 hS1 T1 hc1 hx1 hlen q1 q2 q3 q4 q3' q4' r1 r2 r3 r4 r3' r4' ok hS2 hc2 hx2
                go_wp2_with fail
                go_at_call 58
                refine HTOP.out.mono ?_
                rintro e w2 ⟨rfl, rfl⟩
                go_wp2_with fail
                go_at_call 58
                refine HTOP2.out.mono ?_
                rintro e w2 ⟨rfl, rfl⟩
                go_wp2_with fail
                go_at_call 74
                refine HTU.out.mono ?_
                rintro e w3 ⟨rfl, h3, T3⟩
                have hRel : TurnR w F A m st g p0 O x 0 w3 := ⟨_, [], a2, b2, rfl, h3, HR.out.1, HT1.out.trans T3, HR.out.2.1, HR.out.2.2⟩
                have HRel := Lib.hid hRel
                clear h3 T3 hRel
                go_wp2_with fail
                go_roundw
                case rel => exact ⟨0, HRel.out⟩
                case measure =>
                  have e1 := eps_eq HL.out
                  have e2 := eps_le (P := fun n => TurnR w F A m st g p0 O x n w3) HRel.out
                  have e3 := HN.out
                  simp at e3
                  show Classical.epsilon (Least _) < Classical.epsilon (Least _)
                  rw [e1]
                  omega
              | cons f2 C =>
                simp only [isN] at HTOP2
                have hc1' : Clean st1 (f2 :: C) := fun e he => hc1 e (List.mem_cons_of_mem _ he)
                obtain ⟨A0, B0, s', ez, _⟩ := rot_zig f.d f.y f2.y f.s f2.s a1 x b1
                have hup := hS1.upper A0 B0 ez
                have d1 := hS1.side hc1
                have d2 := hup.side hc1'
                have fgl := h1.at_l f2.y hgm
                have fpl := h1.at_l f.y hfm
                have fpp := h1.at_p f.y hfm
                rw [r3'] at fpp
                simp only [par] at fpp
                have hgm2 : f2.y < m := hgm
                by_cases hdd : f2.d = f.d
                · obtain ⟨ok, s2, hS2, hc2, hx2⟩ := hS1.zig hc1 hx1 hdd
                  have HTU := Lib.hid (fun (wq : World) (hq : FR wq F A m st1) => turn_any wq F A m st1 hq f.y f2.y (par C p0) ok)
                  generalize pullF (pullF (turn0 st1 f.y f2.y (par C p0)) f2.y) f.y = st2 at HTU hS2 hc2 hx2
                  obtain ⟨ok2, _, a3, b3, _, hS3, hc3, hx3⟩ := hS2.turn hc2 hx2
                  have HOK2 := Lib.hid ok2
                  have HR := Lib.hid (show SS m st _ g p0 O C a3 x b3 ∧ Clean _ C ∧ Cln _ x from ⟨hS3, hc3, hx3⟩)
                  have hbb : (f2.d == f.d) = true := beq_iff_eq.2 hdd
                  clear h1 hS1 T1 hc1 hx1 hlen q1 q2 q3 q4 q3' q4' r1 r2 r3 r4 r3' r4' ok hS2 hc2 hx2 ok2 hS3 hc3 hx3 hdd hup ez hc1'
                  go_wp2_with fail
                  go_at_call 58
                  refine HTOP.out.mono ?_
                  rintro e w2 ⟨rfl, rfl⟩
                  go_wp2_with fail
                  go_at_call 58
                  refine HTOP2.out.mono ?_
                  rintro e w2 ⟨rfl, rfl⟩
                  go_wp2_with fail
                  go_quiet (fail)
                  go_wp2_with fail
                  go_at_call 74
                  refine (HTU.out _ (H1.out.drewN _)).mono ?_
                  rintro e w3 ⟨rfl, h3, T3'⟩
                  have T3 : Tch [A] wr w3 := ((Tch.refl [A] wr).drewN _).trans T3'
                  clear T3'
                  go_wp2_with fail
                  go_at_call 74
                  refine (turn_any _ F A m st2 h3 x f.y (par C p0) HOK2.out).mono ?_
                  rintro e w4 ⟨rfl, h4, T4⟩
                  have hRel : TurnR w F A m st g p0 O x C.length w4 := ⟨_, C, a3, b3, rfl, h4, HR.out.1, (HT1.out.trans T3).trans T4, HR.out.2.1, HR.out.2.2⟩
                  have HRel := Lib.hid hRel
                  clear h3 T3 h4 T4 hRel
                  go_wp2_with fail
                  go_roundw
                  case rel => exact ⟨_, HRel.out⟩
                  case measure =>
                    have e1 := eps_eq HL.out
                    have e2 := eps_le (P := fun n => TurnR w F A m st g p0 O x n w4) HRel.out
                    have e3 := HN.out
                    simp at e3
                    show Classical.epsilon (Least _) < Classical.epsilon (Least _)
                    rw [e1]
                    omega
                · obtain ⟨ok, _, a2, b2, _, hS2, hc2, hx2⟩ := hS1.turn hc1 hx1
                  have ok : TurnOk m st1 x f.y f2.y := ok
                  have HTU := Lib.hid (fun (wq : World) (hq : FR wq F A m st1) => turn_any wq F A m st1 hq x f.y f2.y ok)
                  simp only [par] at hS2 hc2 hx2
                  generalize pullF (pullF (turn0 st1 x f.y f2.y) f.y) x = st2 at HTU hS2 hc2 hx2
                  obtain ⟨ok2, _, a3, b3, _, hS3, hc3, hx3⟩ := hS2.turn hc2 hx2
                  have HOK2 := Lib.hid ok2
                  have HR := Lib.hid (show SS m st _ g p0 O C a3 x b3 ∧ Clean _ C ∧ Cln _ x from ⟨hS3, hc3, hx3⟩)
                  have hbb : (f2.d == f.d) = false := beq_eq_false_iff_ne.2 hdd
                  clear h1 hS1 T1 hc1 hx1 hlen q1 q2 q3 q4 q3' q4' r1 r2 r3 r4 r3' r4' ok hS2 hc2 hx2 ok2 hS3 hc3 hx3 hdd hup ez hc1'
                  go_wp2_with fail
                  go_at_call 58
                  refine HTOP.out.mono ?_
                  rintro e w2 ⟨rfl, rfl⟩
                  go_wp2_with fail
                  go_at_call 58
                  refine HTOP2.out.mono ?_
                  rintro e w2 ⟨rfl, rfl⟩
                  go_wp2_with fail
                  go_quiet (fail)
                  go_wp2_with fail
                  go_at_call 74
                  refine (HTU.out _ (H1.out.drewN _)).mono ?_
                  rintro e w3 ⟨rfl, h3, T3'⟩
                  have T3 : Tch [A] wr w3 := ((Tch.refl [A] wr).drewN _).trans T3'
                  clear T3'
                  go_wp2_with fail
                  go_at_call 74
                  refine (turn_any _ F A m st2 h3 x f2.y (par C p0) HOK2.out).mono ?_
                  rintro e w4 ⟨rfl, h4, T4⟩
                  have hRel : TurnR w F A m st g p0 O x C.length w4 := ⟨_, C, a3, b3, rfl, h4, HR.out.1, (HT1.out.trans T3).trans T4, HR.out.2.1, HR.out.2.2⟩
                  have HRel := Lib.hid hRel
                  clear h3 T3 h4 T4 hRel
                  go_wp2_with fail
                  go_roundw
                  case rel => exact ⟨_, HRel.out⟩
                  case measure =>
                    have e1 := eps_eq HL.out
                    have e2 := eps_le (P := fun n => TurnR w F A m st g p0 O x n w4) HRel.out
                    have e3 := HN.out
                    simp at e3
                    show Classical.epsilon (Least _) < Classical.epsilon (Least _)
                    rw [e1]
                    omega
        · have hk1 : 0 < k := by omega
          obtain ⟨j, rfl⟩ : ∃ j, k = j + 1 := ⟨k - 1, by omega⟩
          have hz' : z = (j : Int) := by omega
          subst hz'
          have hjl : j ≤ D.length := by omega
          have hsplit : D = D.take j ++ D.drop j := (List.take_append_drop j D).symm
          have hgw := ways_get D a x b (D.take j) (D.drop j) hsplit
          have htl : (D.take j).length = j := by simp; omega
          rw [htl] at hgw
          have hcd : Clean st1 (D.drop j) := by simpa using hc1
          obtain ⟨p1, p2, p3, p4, p5⟩ := hS1.push (D.take j) (D.drop j) hsplit hcd
          have q1 := (hS1.way (D.take j) (D.drop j) hsplit).1
          have hcdrop : 0 < j → ∀ s : St, Clean s (D.drop j) → Cln s (plug (D.take j) (.node a x b)).rt → Clean s (D.drop (j - 1)) := fun h0 s => clean_drop j h0 hjl
          have hx0 : j = 0 → (plug (D.take j) (.node a x b)).rt = x := fun e => by subst e; rfl
          generalize (plug (D.take j) (.node a x b)).rt = y2 at *
          have hy2m := hS1.sb.lt _ q1
          have HPU := Lib.hid (push_any wr F A m st1 h1 y2 hy2m p4 p5)
          have HO1 := Lib.hid ho1
          have HT1 := Lib.hid hT1
          have HP1 := Lib.hid (And.intro p1 (And.intro p2 p3))
          have HCD := Lib.hid hcdrop
          have HX0 := Lib.hid hx0
          obtain ⟨gv, gc, ev, hg1, hg2⟩ := owns_some ho1 (by omega)
          simp at ev
          obtain ⟨ev1, ev2⟩ := ev
          subst ev1 ev2
          have cj : wr.cell? ⟨gv, j, none⟩ = some (.int .i64 (y2 : Int)) := by
            refine (owns_cell ho1 j (by omega)).trans ?_
            rw [nrow_get', hgw]
            rfl
          have hgA : gv ≠ A := by
            intro e
            have := (ho1.lt gv rfl).1
            omega
          clear h1 hS1 hT1 ho1 hz hc1 hx1 hsplit hgw htl hcd p1 p2 p3 p4 p5 hcdrop hx0 hk0 q1
          go_wp2_with fail
          go_at_call 56
          refine HPU.out.mono ?_
          rintro e w3 ⟨rfl, h3, T3⟩
          have H3 := Lib.hid h3
          have HO3 := Lib.hid (owns_tch HO1.out T3 (fun b hb e => by
            have hb' : b = gv := by simpa [Value.ownBlock] using hb.symm
            simp at e
            exact hgA (hb' ▸ e)))
          have HT3 := Lib.hid (HT1.out.trans T3)
          clear h3 T3
          go_wp2_with fail
          go_roundw
          case rel =>
            refine ⟨_, j, H3.out, HP1.out.1, HT3.out, HO3.out, by omega, ⟨_, rfl, rfl⟩, ?_, fun e => ?_⟩
            · rcases Nat.eq_zero_or_pos j with e | e
              · subst e; exact HP1.out.2.2
              · exact HCD.out e _ HP1.out.2.2 HP1.out.2.1
            · have := HP1.out.2.1
              rw [HX0.out e] at this ⊢
              exact this
          case measure => simp [intOf]
end Go.Proofs.Ytaipladbgdcedaa
