/- Forests by parents; the walks of access and of what only looks. No condition of its own. -/
import Derived.Test.YtaipladbgdcedaaMc
set_option linter.unusedSimpArgs false
set_option linter.unusedVariables false
namespace Go.Proofs.Ytaipladbgdcedaa
open Go.RowKit

/-- A forest: nodes from 1 to n, whether they are there, their parents (0: none), their weights. -/
structure Fo where
  n : Nat
  th : Nat → Bool
  up : Nat → Nat
  wt : Nat → Int
/-- The whole way up from a node. -/
def Up (up : Nat → Nat) : Nat → List Nat → Prop
  | v, [] => v = 0
  | v, a :: l => a = v ∧ v ≠ 0 ∧ Up up (up v) l
def aboveF (up : Nat → Nat) : Nat → Nat → List Nat
  | 0, _ => []
  | k + 1, v => if v = 0 then [] else v :: aboveF up k (up v)
def Fo.above (G : Fo) (v : Nat) : List Nat := aboveF G.up (G.n + 1) v
theorem up_one {up : Nat → Nat} : ∀ {v : Nat} {l l' : List Nat}, Up up v l → Up up v l' → l = l' := by
  intro v l
  induction l generalizing v with
  | nil =>
    intro l' h h'
    cases l' with
    | nil => rfl
    | cons a l' => exact absurd h h'.2.1
  | cons a l ih =>
    intro l' h h'
    cases l' with
    | nil => exact absurd h' h.2.1
    | cons b l' =>
      obtain ⟨rfl, h1, h2⟩ := h
      obtain ⟨rfl, h3, h4⟩ := h'
      rw [ih h2 h4]
theorem above_of {up : Nat → Nat} : ∀ {k v : Nat} {l : List Nat}, Up up v l → l.length ≤ k → aboveF up k v = l := by
  intro k
  induction k with
  | zero =>
    intro v l h hl
    have : l = [] := List.length_eq_zero_iff.1 (by omega)
    subst this
    rfl
  | succ k ih =>
    intro v l h hl
    unfold aboveF
    cases l with
    | nil =>
      have h' : v = 0 := h
      rw [if_pos h']
    | cons a l =>
      obtain ⟨rfl, h1, h2⟩ := h
      rw [if_neg h1, ih h2 (by simp at hl; omega)]
theorem up_nz {up : Nat → Nat} : ∀ {v : Nat} {l : List Nat}, Up up v l → ∀ a ∈ l, a ≠ 0 := by
  intro v l
  induction l generalizing v with
  | nil => intro _ a ha; cases ha
  | cons b l ih =>
    intro h a ha
    obtain ⟨rfl, h1, h2⟩ := h
    rcases List.mem_cons.1 ha with e | e
    · subst e; exact h1
    · exact ih h2 a e
/-- The way of a node on a way is the rest of it. -/
theorem up_suffix {up : Nat → Nat} : ∀ {v : Nat} {l : List Nat}, Up up v l → ∀ a ∈ l, ∃ l1 l2, l = l1 ++ a :: l2 ∧ Up up a (a :: l2) := by
  intro v l
  induction l generalizing v with
  | nil => intro _ a ha; cases ha
  | cons b l ih =>
    intro h a ha
    obtain ⟨rfl, h1, h2⟩ := id h
    rcases List.mem_cons.1 ha with e | e
    · subst e; exact ⟨[], l, rfl, h⟩
    · obtain ⟨l1, l2, e1, e2⟩ := ih h2 a e
      exact ⟨b :: l1, l2, by rw [e1]; rfl, e2⟩
theorem up_nodup {up : Nat → Nat} : ∀ {l : List Nat} {v : Nat}, Up up v l → l.Nodup := by
  intro l
  induction l with
  | nil => intro _ _; exact List.nodup_nil
  | cons b l ih =>
    intro v h
    obtain ⟨rfl, h1, h2⟩ := id h
    refine List.nodup_cons.2 ⟨fun hb => ?_, ih h2⟩
    obtain ⟨l1, l2, e1, e2⟩ := up_suffix h2 b hb
    have := congrArg List.length (up_one h e2)
    rw [e1] at this
    simp at this
    omega
structure FoOk (G : Fo) : Prop where
  rng : ∀ v, G.th v = true → 1 ≤ v ∧ v ≤ G.n
  way : ∀ v, G.th v = true → ∃ l, Up G.up v l ∧ l.length ≤ G.n
  par : ∀ v, G.th v = true → G.up v ≠ 0 → G.th (G.up v) = true
  wts : ∀ v, G.th v = true → InW (G.wt v)
  off : ∀ v, G.th v = false → G.up v = 0
  small : G.n ≤ 100
section
variable {G : Fo}
theorem FoOk.above (h : FoOk G) (v : Nat) (hv : G.th v = true) : Up G.up v (G.above v) ∧ (G.above v).length ≤ G.n := by
  obtain ⟨l, hl, hn⟩ := h.way v hv
  have e : G.above v = l := above_of hl (by omega)
  rw [e]
  exact ⟨hl, hn⟩
theorem FoOk.above0 (_ : FoOk G) : G.above 0 = [] := by
  unfold Fo.above aboveF
  rw [if_pos rfl]
theorem FoOk.nz (h : FoOk G) (v : Nat) (hv : G.th v = true) : v ≠ 0 := by have := h.rng v hv; omega
theorem FoOk.above_cons (h : FoOk G) (v : Nat) (hv : G.th v = true) : G.above v = v :: G.above (G.up v) := by
  obtain ⟨hu, hl⟩ := h.above v hv
  generalize G.above v = l at hu hl
  cases l with
  | nil => exact absurd hu (h.nz v hv)
  | cons a l =>
    obtain ⟨rfl, h1, h2⟩ := hu
    have : G.above (G.up a) = l := above_of h2 (by simp at hl; omega)
    rw [this]
theorem FoOk.above_th (h : FoOk G) : ∀ (k v : Nat), (G.above v).length ≤ k → G.th v = true → ∀ a ∈ G.above v, G.th a = true := by
  intro k
  induction k with
  | zero =>
    intro v hk hv a ha
    have := List.length_pos_of_mem ha
    omega
  | succ k ih =>
    intro v hk hv a ha
    rw [h.above_cons v hv] at ha hk
    rcases List.mem_cons.1 ha with e | e
    · subst e; exact hv
    · by_cases h0 : G.up v = 0
      · rw [h0, h.above0] at e; cases e
      · exact ih (G.up v) (by simp at hk; omega) (h.par v hv h0) a e
theorem FoOk.mem_th (h : FoOk G) (v a : Nat) (hv : G.th v = true) (ha : a ∈ G.above v) : G.th a = true := h.above_th _ v (Nat.le_refl _) hv a ha
theorem FoOk.self (h : FoOk G) (v : Nat) (hv : G.th v = true) : v ∈ G.above v := by rw [h.above_cons v hv]; simp
/-- Above a node above is above. -/
theorem FoOk.trans (h : FoOk G) (u v a : Nat) (hu : G.th u = true) (hv : v ∈ G.above u) (ha : a ∈ G.above v) : a ∈ G.above u := by
  obtain ⟨h1, h2⟩ := h.above u hu
  obtain ⟨l1, l2, e1, e2⟩ := up_suffix h1 v hv
  have hvt := h.mem_th u v hu hv
  rw [up_one (h.above v hvt).1 e2] at ha
  rw [e1]
  simp only [List.mem_append]
  exact .inr ha
/-- How deep a node is. -/
def Fo.dp (G : Fo) (v : Nat) : Nat := (G.above v).length
theorem FoOk.dp_up (h : FoOk G) (v : Nat) (hv : G.th v = true) : G.dp v = G.dp (G.up v) + 1 := by
  unfold Fo.dp
  rw [h.above_cons v hv]
  simp
theorem FoOk.dp_lt (h : FoOk G) (v a : Nat) (hv : G.th v = true) (ha : a ∈ G.above v) (hne : a ≠ v) : G.dp a < G.dp v := by
  obtain ⟨h1, h2⟩ := h.above v hv
  obtain ⟨l1, l2, e1, e2⟩ := up_suffix h1 a ha
  have hat := h.mem_th v a hv ha
  unfold Fo.dp
  rw [up_one (h.above a hat).1 e2, e1]
  cases l1 with
  | nil =>
    have := h.above_cons v hv
    rw [e1] at this
    simp at this
    exact absurd this.1 hne
  | cons b l1 => simp; omega
end
/-- How many are at or below a node, and what they weigh. -/
def isBelow (G : Fo) (v u : Nat) : Bool := G.th u && (G.above u).contains v
def Fo.sub (G : Fo) (v : Nat) : Int := ((List.range (G.n + 1)).countP (isBelow G v) : Nat)
def sumIf (f : Nat → Bool) (g : Nat → Int) : List Nat → Int
  | [] => 0
  | u :: l => (if f u = true then g u else 0) + sumIf f g l
def Fo.ssum (G : Fo) (v : Nat) : Int := sumIf (isBelow G v) G.wt (List.range (G.n + 1))
theorem isBelow_iff (G : Fo) (v u : Nat) : isBelow G v u = true ↔ G.th u = true ∧ v ∈ G.above u := by
  unfold isBelow
  rw [Bool.and_eq_true, List.contains_iff_mem]
theorem isBelow0 {G : Fo} (h : FoOk G) (u : Nat) : isBelow G 0 u = false := by
  cases hb : isBelow G 0 u with
  | false => rfl
  | true =>
    obtain ⟨h1, h2⟩ := (isBelow_iff G 0 u).1 hb
    exact absurd rfl (up_nz (h.above u h1).1 0 h2)
theorem sub_zero {G : Fo} (h : FoOk G) : G.sub 0 = 0 := by
  unfold Fo.sub
  rw [List.countP_eq_zero.2 (fun u _ => by rw [isBelow0 h]; simp)]
  rfl
theorem sumIf_none {f : Nat → Bool} {g : Nat → Int} (l : List Nat) (h : ∀ u ∈ l, f u = false) : sumIf f g l = 0 := by
  induction l with
  | nil => rfl
  | cons a l ih =>
    unfold sumIf
    rw [h a (by simp), ih (fun u hu => h u (List.mem_cons_of_mem _ hu))]
    simp
theorem ssum_zero {G : Fo} (h : FoOk G) : G.ssum 0 = 0 := sumIf_none _ (fun u _ => isBelow0 h u)
theorem sumIf_bd {f : Nat → Bool} {g : Nat → Int} (l : List Nat) (h : ∀ u ∈ l, f u = true → InW (g u)) : -1099511627776 * (l.length : Int) ≤ sumIf f g l ∧ sumIf f g l ≤ 1099511627776 * (l.length : Int) := by
  induction l with
  | nil => simp [sumIf]
  | cons a l ih =>
    have h1 := ih (fun u hu => h u (List.mem_cons_of_mem _ hu))
    unfold sumIf
    by_cases hf : f a = true
    · have := h a (by simp) hf
      unfold InW at this
      rw [if_pos hf, List.length_cons]
      omega
    · rw [if_neg hf, List.length_cons]
      omega
theorem ssum_bd {G : Fo} (h : FoOk G) (v : Nat) : -111050674405376 ≤ G.ssum v ∧ G.ssum v ≤ 111050674405376 := by
  have := sumIf_bd (f := isBelow G v) (g := G.wt) (List.range (G.n + 1)) (fun u _ hu => h.wts u ((isBelow_iff G v u).1 hu).1)
  rw [List.length_range] at this
  have := h.small
  unfold Fo.ssum
  omega
theorem sub_bd {G : Fo} (h : FoOk G) (v : Nat) : 0 ≤ G.sub v ∧ G.sub v ≤ 101 := by
  have h1 := List.countP_le_length (p := isBelow G v) (l := List.range (G.n + 1))
  rw [List.length_range] at h1
  have := h.small
  unfold Fo.sub
  omega
theorem countP_lt {p q : Nat → Bool} (x : Nat) : ∀ (l : List Nat), (∀ u ∈ l, p u = true → q u = true) → x ∈ l → p x = false → q x = true → l.countP p + 1 ≤ l.countP q := by
  intro l
  induction l with
  | nil => intro _ hx; cases hx
  | cons a l ih =>
    intro h hx h1 h2
    rw [List.countP_cons, List.countP_cons]
    rcases List.mem_cons.1 hx with e | e
    · subst e
      rw [h1, h2]
      have : l.countP p ≤ l.countP q := by
        have h' : ∀ u ∈ l, p u = true → q u = true := fun u hu => h u (List.mem_cons_of_mem _ hu)
        clear ih hx h
        induction l with
        | nil => simp
        | cons b l ih2 =>
          rw [List.countP_cons, List.countP_cons]
          have k := ih2 (fun u hu => h' u (List.mem_cons_of_mem _ hu))
          have k2 := h' b (by simp)
          by_cases hb : p b = true
          · rw [if_pos hb, if_pos (k2 hb)]; omega
          · rw [if_neg hb]; split <;> omega
      simp; omega
    · have k := ih (fun u hu => h u (List.mem_cons_of_mem _ hu)) e h1 h2
      have k2 := h a (by simp)
      by_cases hb : p a = true
      · rw [if_pos hb, if_pos (k2 hb)]; omega
      · rw [if_neg hb]; split <;> omega
/-- A kid has fewer below. -/
theorem sub_kid {G : Fo} (h : FoOk G) (c v : Nat) (hc : G.th c = true) (hv : G.up c = v) (hv0 : v ≠ 0) : G.sub c + 1 ≤ G.sub v := by
  have hvt : G.th v = true := by rw [← hv]; exact h.par c hc (by rw [hv]; exact hv0)
  unfold Fo.sub
  have := countP_lt (p := isBelow G c) (q := isBelow G v) v (List.range (G.n + 1)) (fun u _ hu => ?_) (by have := h.rng v hvt; simp; omega) ?_ ((isBelow_iff G v v).2 ⟨hvt, h.self v hvt⟩)
  · omega
  · obtain ⟨h1, h2⟩ := (isBelow_iff G c u).1 hu
    refine (isBelow_iff G v u).2 ⟨h1, h.trans u c v h1 h2 ?_⟩
    rw [h.above_cons c hc, hv]
    exact List.mem_cons_of_mem _ (h.self v hvt)
  · cases hb : isBelow G c v with
    | false => rfl
    | true =>
      obtain ⟨_, h2⟩ := (isBelow_iff G c v).1 hb
      have d1 := h.dp_up c hc
      rw [hv] at d1
      by_cases e : c = v
      · subst e; omega
      · have := h.dp_lt v c hvt h2 e
        omega
theorem sub_self {G : Fo} (h : FoOk G) (v : Nat) (hv : G.th v = true) : 1 ≤ G.sub v := by
  unfold Fo.sub
  have : 0 < (List.range (G.n + 1)).countP (isBelow G v) := List.countP_pos_iff.2 ⟨v, by have := h.rng v hv; simp; omega, (isBelow_iff G v v).2 ⟨hv, h.self v hv⟩⟩
  omega
end Go.Proofs.Ytaipladbgdcedaa
namespace Go.Proofs.Ytaipladbgdcedaa
open Go.RowKit

def hd : List Nat → Nat
  | [] => 0
  | v :: _ => v
/-- A way down: each node's parent is the one ahead of it. -/
def Dn (up : Nat → Nat) : Nat → List Nat → Prop
  | _, [] => True
  | p, v :: l => up v = p ∧ Dn up v l
theorem dn_append {up : Nat → Nat} : ∀ {p : Nat} {l m : List Nat} {y : Nat}, Dn up p (l ++ y :: m) ↔ (Dn up p (l ++ [y]) ∧ Dn up y m) := by
  intro p l
  induction l generalizing p with
  | nil => intro m y; simp [Dn]
  | cons a l ih =>
    intro m y
    show (up a = p ∧ Dn up a (l ++ y :: m)) ↔ ((up a = p ∧ Dn up a (l ++ [y])) ∧ Dn up y m)
    rw [ih]
    constructor
    · rintro ⟨h1, h2, h3⟩; exact ⟨⟨h1, h2⟩, h3⟩
    · rintro ⟨⟨h1, h2⟩, h3⟩; exact ⟨h1, h2, h3⟩
/-- What hangs at the nodes of a path beside it. -/
def VN (st : St) (G : Fo) : List Nat → Prop
  | [] => True
  | v :: l => (st v).vn = G.sub v - 1 - G.sub (hd l) ∧ (st v).vs = G.ssum v - G.wt v - G.ssum (hd l) ∧ VN st G l
theorem vn_congr {st st' : St} {G : Fo} {l : List Nat} (h : ∀ v ∈ l, (st' v).vn = (st v).vn ∧ (st' v).vs = (st v).vs) (k : VN st G l) : VN st' G l := by
  induction l with
  | nil => trivial
  | cons v l ih =>
    obtain ⟨k1, k2, k3⟩ := k
    exact ⟨by rw [(h v (by simp)).1]; exact k1, by rw [(h v (by simp)).2]; exact k2, ih (fun u hu => h u (List.mem_cons_of_mem _ hu)) k3⟩
theorem vn_tn {st : St} {G : Fo} (h : FoOk G) {l : List Nat} (k : VN st G l) : tnL st l = G.sub (hd l) := by
  induction l with
  | nil => exact (sub_zero h).symm
  | cons v l ih =>
    obtain ⟨k1, k2, k3⟩ := k
    show 1 + (st v).vn + tnL st l = G.sub v
    rw [ih k3, k1]; omega
theorem vn_ts {st : St} {G : Fo} (h : FoOk G) {l : List Nat} (k : VN st G l) : tsL st G.wt l = G.ssum (hd l) := by
  induction l with
  | nil => exact (ssum_zero h).symm
  | cons v l ih =>
    obtain ⟨k1, k2, k3⟩ := k
    show G.wt v + (st v).vs + tsL st G.wt l = G.ssum v
    rw [ih k3, k2]; omega
theorem hd_append (l m : List Nat) (y : Nat) : hd (l ++ y :: m) = hd (l ++ [y]) := by
  cases l with
  | nil => rfl
  | cons a l => rfl
/-- A path cut behind a node, or continued there. -/
theorem vn_append {st : St} {G : Fo} {l m : List Nat} {y : Nat} : VN st G (l ++ y :: m) ↔ ((∀ st' : St, (∀ v ∈ l, (st' v).vn = (st v).vn ∧ (st' v).vs = (st v).vs) → ∀ m' : List Nat, VN st' G (y :: m') → VN st' G (l ++ y :: m')) ∧ VN st G (y :: m)) := by
  induction l with
  | nil =>
    constructor
    · intro h; exact ⟨fun _ _ _ h' => h', h⟩
    · intro h; exact h.2
  | cons a l ih =>
    constructor
    · intro h
      obtain ⟨k1, k2, k3⟩ := h
      obtain ⟨j1, j2⟩ := ih.1 k3
      refine ⟨fun st' hs m' hm => ?_, j2⟩
      refine ⟨?_, ?_, j1 st' (fun v hv => hs v (List.mem_cons_of_mem _ hv)) m' hm⟩
      · rw [(hs a (by simp)).1, k1]
        exact congrArg (fun k => G.sub a - 1 - G.sub k) ((hd_append l m y).trans (hd_append l m' y).symm)
      · rw [(hs a (by simp)).2, k2]
        exact congrArg (fun k => G.ssum a - G.wt a - G.ssum k) ((hd_append l m y).trans (hd_append l m' y).symm)
    · intro h
      exact h.1 st (fun _ _ => ⟨rfl, rfl⟩) m h.2

theorem nodup_len : ∀ (m : Nat) (l : List Nat), l.Nodup → (∀ v ∈ l, v < m) → l.length ≤ m := by
  intro m
  induction m with
  | zero =>
    intro l _ h
    cases l with
    | nil => simp
    | cons a l => exact absurd (h a (by simp)) (by omega)
  | succ m ih =>
    intro l hn h
    have h1 := ih (l.erase m) (hn.erase m) (fun v hv => by
      have hv1 := h v (List.mem_of_mem_erase hv)
      have hv2 : v ≠ m := fun e => by subst e; exact hn.not_mem_erase hv
      omega)
    rw [List.length_erase] at h1
    split at h1 <;> omega
abbrev Path := Nat × T
/-- A path in its splay tree. -/
structure PO (st : St) (G : Fo) (q : Path) : Prop where
  lay : Lay st G.wt false q.1 q.2
  ne : q.2.rt ≠ 0
  dn : Dn G.up q.1 q.2.ord
  vn : VN st G q.2.ord
def nodes (Ps : List Path) : List Nat := Ps.flatMap (·.2.ord)
/-- The nodes hold the forest, cut into these paths. -/
structure Inv (m : Nat) (st : St) (G : Fo) (Ps : List Path) : Prop where
  po : ∀ q ∈ Ps, PO st G q
  nd : (nodes Ps).Nodup
  cov : ∀ v, v ∈ nodes Ps ↔ G.th v = true
  th : ∀ v, (st v).th = G.th v
  off : ∀ v, G.th v = false → st v = Nd.zero
  bd : Bd st
  ok : FoOk G
  m : m = G.n + 1
theorem nodes_perm {Ps Qs : List Path} (h : Ps.Perm Qs) : (nodes Ps).Perm (nodes Qs) := List.Perm.flatMap_right _ h
theorem Inv.perm {m : Nat} {st : St} {G : Fo} {Ps Qs : List Path} (h : Inv m st G Ps) (p : Ps.Perm Qs) : Inv m st G Qs :=
  ⟨fun q hq => h.po q (p.mem_iff.2 hq), (nodes_perm p).nodup_iff.1 h.nd, fun v => ((nodes_perm p).mem_iff).symm.trans (h.cov v), h.th, h.off, h.bd, h.ok, h.m⟩
section
variable {m : Nat} {st : St} {G : Fo} {Ps : List Path}
theorem nodes_cons (q : Path) (R : List Path) : nodes (q :: R) = q.2.ord ++ nodes R := by simp [nodes]
theorem Inv.find (h : Inv m st G Ps) (v : Nat) (hv : G.th v = true) : ∃ q R, Ps.Perm (q :: R) ∧ v ∈ q.2.ord := by
  have h1 := (h.cov v).2 hv
  unfold nodes at h1
  obtain ⟨q, hq, hv'⟩ := List.mem_flatMap.1 h1
  obtain ⟨l1, l2, e⟩ := List.append_of_mem hq
  refine ⟨q, l1 ++ l2, ?_, hv'⟩
  rw [e]
  exact List.perm_middle
theorem Inv.apart {q : Path} {R : List Path} (h : Inv m st G (q :: R)) : ∀ v ∈ q.2.ord, v ∉ nodes R := by
  have hn := h.nd
  rw [nodes_cons] at hn
  exact fun v hv hv' => (List.nodup_append.1 hn).2.2 v hv v hv' rfl
theorem Inv.node_th {q : Path} (h : Inv m st G Ps) (hq : q ∈ Ps) (v : Nat) (hv : v ∈ q.2.ord) : G.th v = true := (h.cov v).1 (List.mem_flatMap.2 ⟨q, hq, hv⟩)
/-- Along a path down the depth grows. -/
theorem dn_deep {G : Fo} (h : FoOk G) : ∀ {l : List Nat} {p : Nat}, (∀ v ∈ l, G.th v = true) → Dn G.up p l → ∀ v ∈ l, G.dp p < G.dp v := by
  intro l
  induction l with
  | nil => intro p _ _ v hv; cases hv
  | cons a l ih =>
    intro p ht hd v hv
    obtain ⟨h1, h2⟩ := hd
    have ha := h.dp_up a (ht a (by simp))
    rw [h1] at ha
    rcases List.mem_cons.1 hv with e | e
    · subst e; omega
    · have := ih (fun u hu => ht u (List.mem_cons_of_mem _ hu)) h2 v e
      omega
theorem dn_par {G : Fo} (h : FoOk G) {l : List Nat} {p : Nat} (hl : l ≠ []) (ht : ∀ v ∈ l, G.th v = true) (hd : Dn G.up p l) : (p ≠ 0 → G.th p = true) ∧ p ∉ l := by
  refine ⟨fun hp => ?_, fun hp => ?_⟩
  · cases l with
    | nil => exact absurd rfl hl
    | cons a l =>
      have h1 := hd.1
      have := h.par a (ht a (by simp)) (by rw [h1]; exact hp)
      rw [h1] at this
      exact this
  · have := dn_deep h ht hd p hp
    omega
/-- Which kids a laid node may name. -/
theorem lay_kids {st : St} {g : Nat → Int} {rv : Bool} {p : Nat} {t : T} (h : Lay st g rv p t) : ∀ y ∈ t.ord, ((st y).l = 0 ∨ (st y).l ∈ t.ord) ∧ ((st y).r = 0 ∨ (st y).r ∈ t.ord) := by
  induction t generalizing g rv p with
  | nil => intro y hy; cases hy
  | node l x r il ir =>
    obtain ⟨⟨h0, h1, h2, h3, _⟩, hl, hr⟩ := h
    have ml : ∀ v, v ∈ l.ord → v ∈ (T.node l x r).ord := fun v hv => by simp [T.ord, hv]
    have mr : ∀ v, v ∈ r.ord → v ∈ (T.node l x r).ord := fun v hv => by simp [T.ord, hv]
    have rl : l.rt = 0 ∨ l.rt ∈ (T.node l x r).ord := by
      by_cases e : l.rt = 0
      · exact .inl e
      · exact .inr (ml _ (rt_mem e))
    have rr : r.rt = 0 ∨ r.rt ∈ (T.node l x r).ord := by
      by_cases e : r.rt = 0
      · exact .inl e
      · exact .inr (mr _ (rt_mem e))
    intro y hy
    have hy' : y ∈ l.ord ++ x :: r.ord := hy
    rcases List.mem_append.1 hy' with e | e
    · obtain ⟨k1, k2⟩ := il hl y e
      exact ⟨k1.imp_right (ml _), k2.imp_right (ml _)⟩
    · rcases List.mem_cons.1 e with e | e
      · subst e
        rw [h2, h3]
        cases rv
        · exact ⟨rl, rr⟩
        · exact ⟨rr, rl⟩
      · obtain ⟨k1, k2⟩ := ir hr y e
        exact ⟨k1.imp_right (mr _), k2.imp_right (mr _)⟩
theorem Inv.sb {p : Nat} {t : T} {R : List Path} (h : Inv m st G ((p, t) :: R)) : SB m st p t.ord := by
  have hq := h.po (p, t) (by simp)
  have ht : ∀ v ∈ t.ord, G.th v = true := fun v hv => h.node_th (q := (p, t)) (by simp) v hv
  have hne : t.ord ≠ [] := fun e => by
    have := rt_mem hq.ne
    simp only [] at this
    rw [e] at this
    cases this
  obtain ⟨d1, d2⟩ := dn_par h.ok hne ht hq.dn
  have hnd : t.ord.Nodup := by
    have hn := h.nd
    rw [nodes_cons] at hn
    exact (List.nodup_append.1 hn).1
  have hm := h.m
  have hlt : ∀ v ∈ t.ord, v < m := fun v hv => by have := h.ok.rng v (ht v hv); omega
  refine ⟨hnd, ?_, hlt, ?_, h.bd, ?_⟩
  · have h1 : t.ord.length ≤ m := nodup_len m _ hnd hlt
    have := h.ok.small
    omega
  · by_cases hp : p = 0
    · omega
    · have := h.ok.rng p (d1 hp); omega
  · by_cases hp : p = 0
    · exact .inl hp
    · right
      refine ⟨d2, ?_⟩
      obtain ⟨q2, hq2, hp2⟩ : ∃ q2 ∈ R, p ∈ q2.2.ord := by
        have := (h.cov p).2 (d1 hp)
        rw [nodes_cons] at this
        rcases List.mem_append.1 this with e | e
        · exact absurd e d2
        · exact List.mem_flatMap.1 e
      obtain ⟨k1, k2⟩ := lay_kids (h.po q2 (List.mem_cons_of_mem _ hq2)).lay p hp2
      have out : ∀ v ∈ t.ord, v ∉ q2.2.ord := fun v hv hv' => h.apart v hv (List.mem_flatMap.2 ⟨q2, hq2, hv'⟩)
      have nz : ∀ v ∈ t.ord, v ≠ 0 := fun v hv => h.ok.nz v (ht v hv)
      refine ⟨fun v hv e => ?_, fun v hv e => ?_⟩
      · rcases k1 with g | g
        · exact nz v hv (by omega)
        · exact out v hv (e ▸ g)
      · rcases k2 with g | g
        · exact nz v hv (by omega)
        · exact out v hv (e ▸ g)
/-- A path stands with another tree of the same order. -/
theorem Inv.swap {p : Nat} {t t' : T} {R : List Path} {st' : St} (h : Inv m st G ((p, t) :: R)) (hl : Lay st' G.wt false p t') (ho : t'.ord = t.ord) (sv : Sv st st') (out : ∀ v, v ∉ t.ord → st' v = st v) : Inv m st' G ((p, t') :: R) := by
  have hq := h.po (p, t) (by simp)
  have en : nodes ((p, t') :: R) = nodes ((p, t) :: R) := by rw [nodes_cons, nodes_cons, ho]
  have hap := h.apart
  refine ⟨fun q hq' => ?_, by rw [en]; exact h.nd, fun v => by rw [en]; exact h.cov v, fun v => (sv.th v).trans (h.th v), fun v hv => ?_, sv.bd h.bd, h.ok, h.m⟩
  · rcases List.mem_cons.1 hq' with e | e
    · subst e
      refine ⟨hl, ?_, by simp only []; rw [ho]; exact hq.dn, by simp only []; rw [ho]; exact vn_congr (fun v _ => ⟨sv.vn v, sv.vs v⟩) hq.vn⟩
      cases t' with
      | nil =>
        have := rt_mem hq.ne
        simp only [] at this
        rw [← ho] at this
        cases this
      | node a x b => exact hl.1.1
    · have k := h.po q (List.mem_cons_of_mem _ e)
      have same : ∀ v ∈ q.2.ord, st' v = st v := fun v hv => out v (fun hv' => hap v hv' (List.mem_flatMap.2 ⟨q, e, hv⟩))
      exact ⟨lay_congr same (fun _ _ => rfl) k.lay, k.ne, k.dn, vn_congr (fun v _ => ⟨sv.vn v, sv.vs v⟩) k.vn⟩
  · have : v ∉ t.ord := fun e => by
      have := h.node_th (q := (p, t)) (by simp) v e
      rw [hv] at this; cases this
    rw [out v this]
    exact h.off v hv
end
end Go.Proofs.Ytaipladbgdcedaa
namespace Go.Proofs.Ytaipladbgdcedaa
open Go.RowKit

/-- A path below a node, if there is one. -/
def op1 (y : Nat) : T → List Path
  | .nil => []
  | .node l x r => [(y, .node l x r)]
theorem nodes_op1 (y : Nat) (t : T) : nodes (op1 y t) = t.ord := by
  cases t with
  | nil => rfl
  | node l x r => simp [op1, nodes]
theorem nodes_append (P Q : List Path) : nodes (P ++ Q) = nodes P ++ nodes Q := by simp [nodes]
def accN (st : St) (y last : Nat) : Nd := { st y with vn := wrap64 ((st y).vn + wrap64 ((st (st y).r).tn - (st last).tn)), vs := wrap64 ((st y).vs + wrap64 ((st (st y).r).ts - (st last).ts)), r := last }
def accF (st : St) (y last : Nat) : St := pullF (st.upd y (accN st y last)) y
theorem lay_tot {st : St} {g : Nat → Int} {p : Nat} {t : T} (hz : st 0 = Nd.zero) (h : Lay st g false p t) : (st t.rt).tn = tnL st t.ord ∧ (st t.rt).ts = tsL st g t.ord := by
  cases t with
  | nil =>
    show (st 0).tn = _ ∧ (st 0).ts = _
    rw [hz]
    exact ⟨rfl, rfl⟩
  | node a y b => exact ⟨h.1.2.2.2.2.2.2.2.1, h.1.2.2.2.2.2.2.2.2⟩
section
variable {m : Nat} {st : St} {G : Fo}
theorem hd_kid {up : Nat → Nat} {y : Nat} {l : List Nat} (hd' : Dn up y l) (h : l ≠ []) : up (hd l) = y ∧ hd l ∈ l := by
  cases l with
  | nil => exact absurd rfl h
  | cons a l => exact ⟨hd'.1, by simp [hd]⟩
set_option maxHeartbeats 800000 in
theorem acc_step {p y : Nat} {a b L : T} {R : List Path} (h : Inv m st G ((p, .node a y b) :: (op1 y L ++ R))) (cy : Cln st y) :
    Inv m (accF st y L.rt) G ((p, .node a y L) :: (op1 y b ++ R)) ∧ Cln (accF st y L.rt) y ∧ (accF st y L.rt y).p = p ∧ (st y).r < m ∧ L.rt < m ∧ (st y).r ≠ y ∧ L.rt ≠ y ∧ (st y).l < m ∧ (st y).l ≠ y := by
  have hq := h.po (p, .node a y b) (by simp)
  obtain ⟨⟨y0, yp, yl, yr, yw, _⟩, ha, hb⟩ := hq.lay
  simp only [Bool.false_eq_true, if_false] at yl yr
  rw [cy.1, cy.2] at ha hb
  have ha : Lay st G.wt false y a := lay_g (g' := G.wt) (fun v => (Int.sub_zero _).symm) ha
  have hb : Lay st G.wt false y b := lay_g (g' := G.wt) (fun v => (Int.sub_zero _).symm) hb
  have hL : Lay st G.wt false y L ∧ Dn G.up y L.ord ∧ VN st G L.ord := by
    cases L with
    | nil => exact ⟨trivial, trivial, trivial⟩
    | node l x r =>
      have k := h.po (y, .node l x r) (by simp [op1])
      exact ⟨k.lay, k.dn, k.vn⟩
  obtain ⟨hL, dL, vL⟩ := hL
  have hdn : Dn G.up p (a.ord ++ y :: b.ord) := hq.dn
  obtain ⟨dn1, dn2⟩ := dn_append.1 hdn
  have hvn : VN st G (a.ord ++ y :: b.ord) := hq.vn
  obtain ⟨vn1, vn2⟩ := vn_append.1 hvn
  obtain ⟨v1, v2, vb⟩ := vn2
  have hz := h.bd.zero
  obtain ⟨tb, sb⟩ := lay_tot hz hb
  obtain ⟨tL, sL⟩ := lay_tot hz hL
  rw [vn_tn h.ok vb] at tb
  rw [vn_ts h.ok vb] at sb
  rw [vn_tn h.ok vL] at tL
  rw [vn_ts h.ok vL] at sL
  have en : nodes ((p, T.node a y b) :: (op1 y L ++ R)) = (a.ord ++ y :: b.ord) ++ (L.ord ++ nodes R) := by rw [nodes_cons, nodes_append, nodes_op1]; rfl
  have en' : nodes ((p, T.node a y L) :: (op1 y b ++ R)) = (a.ord ++ y :: L.ord) ++ (b.ord ++ nodes R) := by rw [nodes_cons, nodes_append, nodes_op1]; rfl
  have hperm : (nodes ((p, T.node a y L) :: (op1 y b ++ R))).Perm (nodes ((p, T.node a y b) :: (op1 y L ++ R))) := by
    rw [en, en']
    simp only [List.append_assoc, List.cons_append]
    exact List.Perm.append_left _ (List.Perm.cons _ (List.perm_append_comm_assoc _ _ _))
  have hnd := h.nd
  have hnd' := hperm.nodup_iff.2 hnd
  have hthy : G.th y = true := h.node_th (q := (p, .node a y b)) (by simp) y (by simp [T.ord])
  have hthL : ∀ v ∈ L.ord, G.th v = true := fun v hv => (h.cov v).1 (by rw [en]; simp [hv])
  have hthb : ∀ v ∈ b.ord, G.th v = true := fun v hv => (h.cov v).1 (by rw [en]; simp [hv])
  have htha : ∀ v ∈ a.ord, G.th v = true := fun v hv => (h.cov v).1 (by rw [en]; simp [hv])
  rw [en'] at hnd'
  have nAL : (T.node a y L).ord.Nodup := (List.nodup_append.1 hnd').1
  rw [en] at hnd
  have nAB : (T.node a y b).ord.Nodup := (List.nodup_append.1 hnd).1
  obtain ⟨_, _, ya, yb, _⟩ := node_split nAB
  obtain ⟨_, _, _, yL, _⟩ := node_split nAL
  have hap := h.apart
  -- the new numbers
  have sy := sub_bd h.ok y
  have sb1 := sub_bd h.ok (hd b.ord)
  have sL1 := sub_bd h.ok (hd L.ord)
  have ssy := ssum_bd h.ok y
  have ssb := ssum_bd h.ok (hd b.ord)
  have ssL := ssum_bd h.ok (hd L.ord)
  have wy := h.ok.wts y hthy
  unfold InW at wy
  have low : 0 ≤ G.sub y - 1 - G.sub (hd L.ord) := by
    by_cases e : L.ord = []
    · rw [e]
      have := sub_self h.ok y hthy
      have z : G.sub (hd []) = 0 := sub_zero h.ok
      omega
    · obtain ⟨k1, k2⟩ := hd_kid dL e
      have := sub_kid h.ok (hd L.ord) y (hthL _ k2) k1 y0
      omega
  obtain ⟨s1, hs1⟩ : ∃ s1, s1 = st.upd y (accN st y L.rt) := ⟨_, rfl⟩
  have hs1y : s1 y = { st y with vn := G.sub y - 1 - G.sub (hd L.ord), vs := G.ssum y - G.wt y - G.ssum (hd L.ord), r := L.rt } := by
    rw [hs1, St.upd_same]
    unfold accN
    rw [yr, tb, tL, sb, sL, v1, v2, wrap_id (z := G.sub (hd b.ord) - G.sub (hd L.ord)) (by omega), wrap_id (z := G.ssum (hd b.ord) - G.ssum (hd L.ord)) (by omega), wrap_id (by omega), wrap_id (by omega)]
    simp only [Nd.mk.injEq, true_and, and_true]
    omega
  have hs1ne : ∀ v, v ≠ y → s1 v = st v := fun v hv => by rw [hs1]; exact St.upd_ne _ _ _ _ hv
  have bd1 : Bd s1 := by
    refine ⟨fun v => ?_, fun v => ?_, ?_⟩
    · by_cases e : v = y
      · subst e; rw [hs1y]; simp only []; omega
      · rw [hs1ne v e]; exact h.bd.vn v
    · by_cases e : v = y
      · subst e; rw [hs1y]; simp only []; omega
      · rw [hs1ne v e]; exact h.bd.vs v
    · rw [hs1ne 0 (fun e => y0 e.symm)]; exact hz
  have la : Lay s1 G.wt false y a := lay_congr (fun v hv => hs1ne v (fun e => ya (e ▸ hv))) (fun _ _ => rfl) ha
  have lL : Lay s1 G.wt false y L := lay_congr (fun v hv => hs1ne v (fun e => yL (e ▸ hv))) (fun _ _ => rfl) hL
  have hm := h.m
  have lt : ∀ v, G.th v = true → v < m := fun v hv => by have := h.ok.rng v hv; omega
  have hAL : ∀ v ∈ (T.node a y L).ord, G.th v = true := by
    intro v hv
    have hv' : v ∈ a.ord ++ y :: L.ord := hv
    rcases List.mem_append.1 hv' with e | e
    · exact htha v e
    · rcases List.mem_cons.1 e with e | e
      · subst e; exact hthy
      · exact hthL v e
  have len : (T.node a y L).ord.length ≤ 1000 := by
    have := nodup_len m _ nAL (fun v hv => lt v (hAL v hv))
    have := h.ok.small
    omega
  have LP : Lay (pullF s1 y) G.wt false p (.node a y L) := lay_pull nAL bd1 len y0 (by rw [hs1y]; exact yp) (by rw [hs1y]; exact yl) (by rw [hs1y]) (by rw [hs1y]; exact yw) wy (by rw [hs1y]; exact cy.1) (by rw [hs1y]; exact cy.2) la lL
  have eF : accF st y L.rt = pullF s1 y := by rw [hs1]; rfl
  rw [eF]
  have fne : ∀ v, v ≠ y → pullF s1 y v = st v := fun v hv => by rw [pull_ne _ _ _ hv, hs1ne v hv]
  have fy : pullF s1 y y = pullN (s1 y) (s1 (s1 y).l) (s1 (s1 y).r) := St.upd_same _ _ _
  have fyv : (pullF s1 y y).vn = G.sub y - 1 - G.sub (hd L.ord) ∧ (pullF s1 y y).vs = G.ssum y - G.wt y - G.ssum (hd L.ord) := by
    have e1 : (pullF s1 y y).vn = (s1 y).vn := by rw [fy]; rfl
    have e2 : (pullF s1 y y).vs = (s1 y).vs := by rw [fy]; rfl
    rw [e1, e2, hs1y]
    exact ⟨rfl, rfl⟩
  have keep : ∀ v, v ≠ y → (pullF s1 y v).vn = (st v).vn ∧ (pullF s1 y v).vs = (st v).vs := fun v hv => by rw [fne v hv]; exact ⟨rfl, rfl⟩
  have SV : Sv s1 (pullF s1 y) := sv_pull s1 y y0
  have am : (st y).l < m := by
    rw [yl]; exact rt_lt (fun v hv => lt v (htha v hv)) (by omega)
  have bm : (st y).r < m := by
    rw [yr]; exact rt_lt (fun v hv => lt v (hthb v hv)) (by omega)
  refine ⟨⟨?_, ?_, ?_, ?_, ?_, SV.bd bd1, h.ok, hm⟩, ?_, ?_, bm, rt_lt (fun v hv => lt v (hthL v hv)) (by omega), ?_, rt_ne yL y0, am, ?_⟩
  · intro q hq'
    rcases List.mem_cons.1 hq' with e | e
    · subst e
      refine ⟨LP, y0, ?_, ?_⟩
      · exact dn_append.2 ⟨dn1, dL⟩
      · refine vn1 _ (fun v hv => keep v (fun e => ya (e ▸ hv))) L.ord ⟨fyv.1, fyv.2, ?_⟩
        exact vn_congr (fun v hv => keep v (fun e => yL (e ▸ hv))) vL
    · rcases List.mem_append.1 e with e | eR
      · cases b with
        | nil => cases e
        | node l x r =>
          have : q = (y, .node l x r) := by simpa [op1] using e
          subst this
          exact ⟨lay_congr (fun v hv => fne v (fun e => yb (e ▸ hv))) (fun _ _ => rfl) hb, hb.1.1, dn2, vn_congr (fun v hv => keep v (fun e => yb (e ▸ hv))) vb⟩
      · have k := h.po q (List.mem_cons_of_mem _ (List.mem_append.2 (.inr eR)))
        have hy : ∀ v ∈ q.2.ord, v ≠ y := fun v hv e' => by
          subst e'
          exact hap v (by simp [T.ord]) (List.mem_flatMap.2 ⟨q, List.mem_append.2 (.inr eR), hv⟩)
        exact ⟨lay_congr (fun v hv => fne v (hy v hv)) (fun _ _ => rfl) k.lay, k.ne, k.dn, vn_congr (fun v hv => keep v (hy v hv)) k.vn⟩
  · rw [en']; exact hnd'
  · exact fun v => (hperm.mem_iff).trans (h.cov v)
  · intro v
    by_cases e : v = y
    · subst e
      have : (pullF s1 v v).th = (s1 v).th := by rw [fy]; rfl
      rw [this, hs1y]
      exact h.th v
    · rw [fne v e]; exact h.th v
  · intro v hv
    have : v ≠ y := fun e => by subst e; rw [hthy] at hv; cases hv
    rw [fne v this]
    exact h.off v hv
  · unfold Cln
    rw [fy]
    show (s1 y).rev = false ∧ (s1 y).add = 0
    rw [hs1y]
    exact cy
  · rw [fy]
    show (s1 y).p = p
    rw [hs1y]
    exact yp
  · rw [yr]; exact rt_ne yb y0
  · rw [yl]; exact rt_ne ya y0
end
end Go.Proofs.Ytaipladbgdcedaa
namespace Go.Proofs.Ytaipladbgdcedaa
open Go.RowKit

theorem t_split (t : T) (x : Nat) (h : x ∈ t.ord) : ∃ C a b, t = plug C (.node a x b) := by
  induction t with
  | nil => cases h
  | node l y r il ir =>
    have h' : x ∈ l.ord ++ y :: r.ord := h
    rcases List.mem_append.1 h' with e | e
    · obtain ⟨C, a, b, e1⟩ := il e
      exact ⟨C ++ [⟨true, y, r⟩], a, b, by rw [plug_append, ← e1]; rfl⟩
    · rcases List.mem_cons.1 e with e | e
      · subst e; exact ⟨[], l, r, rfl⟩
      · obtain ⟨C, a, b, e1⟩ := ir e
        exact ⟨C ++ [⟨false, y, l⟩], a, b, by rw [plug_append, ← e1]; rfl⟩
def SpInv (w : World) (F A m : Nat) (G : Fo) (p : Nat) (O : List Nat) (R : List Path) (x : Nat) (e : Ending) (w' : World) : Prop :=
  e = .returned (.tuple #[]) ∧ ∃ st' a b, FR w' F A m st' ∧ Tch [A] w w' ∧ Inv m st' G ((p, .node a x b) :: R) ∧ (T.node a x b).ord = O ∧ Cln st' x
theorem splay_inv (w : World) (F A m : Nat) (st : St) (h : FR w F A m st) (G : Fo) (p : Nat) (t : T) (R : List Path) (hI : Inv m st G ((p, t) :: R)) (x : Nat) (hx : x ∈ t.ord) :
    Calls Try.prog 57 #[.pointer (some ⟨F, 0, none⟩), .int .i64 x] w (SpInv w F A m G p t.ord R x) := by
  obtain ⟨C, a, b, rfl⟩ := t_split t x hx
  have hS : SS m st st G.wt p (plug C (.node a x b)).ord C a x b := ⟨(hI.po (p, plug C (.node a x b)) (by simp)).lay, rfl, hI.sb, Sv.refl _, fun _ _ => rfl⟩
  refine (splay_any w F A m st h G.wt p _ C a x b hS).mono ?_
  rintro e w' ⟨rfl, st', a', b', h1, t1, s1, c1⟩
  exact ⟨rfl, st', a', b', h1, t1, hI.swap s1.lay s1.ord s1.sv s1.out, s1.ord, c1⟩
theorem dn_above {G : Fo} (h : FoOk G) : ∀ (l : List Nat) (p y : Nat), (∀ v ∈ l ++ [y], G.th v = true) → Dn G.up p (l ++ [y]) → G.above y = (l ++ [y]).reverse ++ G.above p := by
  intro l
  induction l with
  | nil =>
    intro p y ht hd
    rw [h.above_cons y (ht y (by simp)), hd.1]
    rfl
  | cons c l ih =>
    intro p y ht hd
    have h2 : G.up c = p ∧ Dn G.up c (l ++ [y]) := hd
    rw [ih c y (fun v hv => ht v (List.mem_cons_of_mem _ hv)) h2.2, h.above_cons c (ht c (by simp)), h2.1]
    simp
/-- While access comes up. -/
def AccR (w : World) (F A m : Nat) (G : Fo) (Ps : List Path) (x : Nat) (tq : T) (last y : Value) (wr : World) : Prop :=
  ∃ st L R yy, (∀ q ∈ Ps, (∀ v ∈ q.2.ord, v ∉ G.above x) → q ∈ R) ∧ last = .int .i64 (L.rt : Nat) ∧ y = .int .i64 (yy : Nat) ∧ FR wr F A m st ∧ Tch [A] w wr ∧ Inv m st G (op1 yy L ++ R) ∧ L.ord.reverse ++ G.above yy = G.above x ∧ (yy ≠ 0 → G.th yy = true ∧ (0, tq) ∈ R ∧ ∀ v ∈ L.ord, v ∉ tq.ord) ∧
    (yy = 0 → ∃ l1 l2, G.above x = l1 ++ L.rt :: l2 ∧ L.rt ∈ tq.ord ∧ ∀ v ∈ l1, v ∉ tq.ord)
/-- What access leaves: the way to the node is one path, and the node is its top. -/
structure Accd (w : World) (F A m : Nat) (G : Fo) (Ps : List Path) (x : Nat) (st : St) (a : T) (R : List Path) (w' : World) : Prop where
  fr : FR w' F A m st
  tch : Tch [A] w w'
  inv : Inv m st G ((0, .node a x .nil) :: R)
  way : a.ord ++ [x] = (G.above x).reverse
  cln : Cln st x
  keep : ∀ q ∈ Ps, (∀ v ∈ q.2.ord, v ∉ G.above x) → q ∈ R
def AccPost (w : World) (F A m : Nat) (G : Fo) (Ps : List Path) (x : Nat) (tq : T) (e : Ending) (w' : World) : Prop :=
  ∃ last : Nat, e = .returned (.int .i64 last) ∧ (∃ l1 l2, G.above x = l1 ++ last :: l2 ∧ last ∈ tq.ord ∧ ∀ v ∈ l1, v ∉ tq.ord) ∧ ∃ st a R, Accd w F A m G Ps x st a R w'
/-- One round of it. -/
theorem acc_round {m : Nat} {st : St} {G : Fo} {x y p : Nat} {tq a b L : T} {R : List Path} (hI : Inv m st G ((p, .node a y b) :: (op1 y L ++ R))) (cy : Cln st y) (hw : L.ord.reverse ++ G.above y = G.above x) (hq : (0, tq) ∈ (p, .node a y b) :: R ∨ ((p, T.node a y b).2.ord = tq.ord ∧ p = 0)) (hL : ∀ v ∈ L.ord, v ∉ tq.ord)
    (hr : ∃ r ∈ tq.ord, r ∈ G.above x) :
    (T.node a y L).ord.reverse ++ G.above p = G.above x ∧ (p ≠ 0 → G.th p = true ∧ (0, tq) ∈ op1 y b ++ R ∧ ∀ v ∈ (T.node a y L).ord, v ∉ tq.ord) ∧ (p = 0 → ∃ l1 l2, G.above x = l1 ++ y :: l2 ∧ y ∈ tq.ord ∧ ∀ v ∈ l1, v ∉ tq.ord) ∧ (G.above p).length < (G.above y).length := by
  have hpo := hI.po (p, .node a y b) (by simp)
  have hdn : Dn G.up p (a.ord ++ y :: b.ord) := hpo.dn
  obtain ⟨dn1, dn2⟩ := dn_append.1 hdn
  have hth : ∀ v ∈ a.ord ++ [y], G.th v = true := fun v hv => hI.node_th (q := (p, .node a y b)) (by simp) v (by
    show v ∈ a.ord ++ y :: b.ord
    simp at hv ⊢
    rcases hv with e | e <;> simp [e])
  have hay := dn_above hI.ok a.ord p y hth dn1
  have hpth : p ≠ 0 → G.th p = true := (dn_par hI.ok (l := a.ord ++ [y]) (by simp) hth dn1).1
  have hlen : (G.above p).length < (G.above y).length := by rw [hay]; simp; omega
  have hord : (T.node a y L).ord.reverse ++ G.above p = G.above x := by
    show (a.ord ++ y :: L.ord).reverse ++ _ = _
    rw [← hw, hay]
    simp
  have fin : (tq.ord = a.ord ++ y :: b.ord ∧ p = 0) → (p ≠ 0 → G.th p = true ∧ (0, tq) ∈ op1 y b ++ R ∧ ∀ v ∈ (T.node a y L).ord, v ∉ tq.ord) ∧ (p = 0 → ∃ l1 l2, G.above x = l1 ++ y :: l2 ∧ y ∈ tq.ord ∧ ∀ v ∈ l1, v ∉ tq.ord) := by
    rintro ⟨e1, e2⟩
    refine ⟨fun h => absurd e2 h, fun _ => ⟨L.ord.reverse, a.ord.reverse ++ G.above p, ?_, by rw [e1]; simp, fun v hv => hL v (by simpa using hv)⟩⟩
    rw [← hw, hay]
    simp
  rcases hq with hq | ⟨e1, e2⟩
  · rcases List.mem_cons.1 hq with e | e
    · have e1 : p = 0 := (congrArg Prod.fst e).symm
      have e2 : tq = .node a y b := congrArg Prod.snd e
      obtain ⟨k1, k2⟩ := fin ⟨by rw [e2]; rfl, e1⟩
      exact ⟨hord, k1, k2, hlen⟩
    · have hap := hI.apart
      have out : ∀ v ∈ a.ord ++ y :: b.ord, v ∉ tq.ord := fun v hv hv' => hap v hv (List.mem_flatMap.2 ⟨(0, tq), List.mem_append.2 (.inr e), hv'⟩)
      have hp0 : p ≠ 0 := by
        intro e0
        obtain ⟨r, hr1, hr2⟩ := hr
        rw [← hord, e0, hI.ok.above0, List.append_nil, List.mem_reverse] at hr2
        have hr3 : r ∈ a.ord ++ y :: L.ord := hr2
        rcases List.mem_append.1 hr3 with g | g
        · exact out r (by simp [g]) hr1
        · rcases List.mem_cons.1 g with g | g
          · subst g; exact out r (by simp) hr1
          · exact hL r g hr1
      refine ⟨hord, fun _ => ⟨hpth hp0, List.mem_append.2 (.inr e), fun v hv => ?_⟩, fun e0 => absurd e0 hp0, hlen⟩
      have hv' : v ∈ a.ord ++ y :: L.ord := hv
      rcases List.mem_append.1 hv' with g | g
      · exact out v (by simp [g])
      · rcases List.mem_cons.1 g with g | g
        · subst g; exact out v (by simp)
        · exact hL v g
  · obtain ⟨k1, k2⟩ := fin ⟨e1.symm, e2⟩
    exact ⟨hord, k1, k2, hlen⟩

set_option maxRecDepth 100000 in
set_option maxHeartbeats 4000000 in
theorem access_any (w : World) (F A m : Nat) (st : St) (h : FR w F A m st) (G : Fo) (Ps : List Path) (hI : Inv m st G Ps) (x : Nat) (hx : G.th x = true) (tq : T) (hq : (0, tq) ∈ Ps) (hr : ∃ r ∈ tq.ord, r ∈ G.above x) :
    Calls Try.prog 52 #[.pointer (some ⟨F, 0, none⟩), .int .i64 x] w (AccPost w F A m G Ps x tq) := by
  have hs := h.small
  have hok := hI.ok
  have hxm : x < m := by have := hok.rng x hx; have := hI.m; omega
  have HOK := Lib.hid hok
  have HR := Lib.hid hr
  have HX := Lib.hid hx
  have hS : AccR w F A m G Ps x tq (.int .i64 0) (.int .i64 x) w := ⟨st, .nil, Ps, x, fun q hq _ => hq, rfl, rfl, h, Tch.refl _ _, hI, by simp [T.ord], fun _ => ⟨hx, hq, by simp [T.ord]⟩, fun e => absurd e (hok.nz x hx)⟩
  obtain ⟨hF1, hA1⟩ := h.lt
  clear h hI hq hok hr hx
  go_enter Try.func52, Try.ntmps52
  go_wp2_with fail
  go_loopw [5, 6, 7] (fun last y _ wr => AccR w F A m G Ps x tq last y wr) (fun _ y _ _ => (G.above (intOf y).toNat).length)
  case atStart => exact hS
  case round =>
    clear hS
    obtain ⟨st1, L, R, y, hkp, rfl, rfl, h1, T1, hI1, hw1, hy1, hz1⟩ := hrel
    obtain ⟨hF2, hA2⟩ := h1.lt
    have HKP := Lib.hid hkp
    clear hkp
    by_cases hy0 : y = 0
    · subst hy0
      have hwx : L.ord.reverse = G.above x := by rw [← hw1, HOK.out.above0, List.append_nil]
      have hxL : x ∈ L.ord := by
        have := HOK.out.self x HX.out
        rw [← hwx] at this
        simpa using this
      have eop : op1 0 L = [(0, L)] := by
        cases L with
        | nil => cases hxL
        | node _ _ _ => rfl
      rw [eop] at hI1
      have HSP := Lib.hid (splay_inv wr F A m st1 h1 G 0 L R hI1 x hxL)
      have HZ := Lib.hid (hz1 rfl)
      have HT := Lib.hid T1
      have HW := Lib.hid hwx
      clear h1 T1 hI1 hw1 hy1 hz1 hwx hxL eop
      go_wp2_with fail
      go_at_call 57
      refine HSP.out.mono ?_
      rintro e w3 ⟨rfl, st3, a3, b3, h3, T3, hI3, ho3, hc3⟩
      have HE : AccPost w F A m G Ps x tq (.returned (.int .i64 (L.rt : Nat))) w3 := by
        have hord : a3.ord ++ x :: b3.ord = (G.above x).reverse := by
          have e1 : a3.ord ++ x :: b3.ord = L.ord := ho3
          rw [e1, ← HW.out, List.reverse_reverse]
        have hb : b3 = .nil := by
          cases b3 with
          | nil => rfl
          | node c z d =>
            exfalso
            have hdn : Dn G.up 0 (a3.ord ++ x :: (T.node c z d).ord) := (hI3.po (0, .node a3 x (.node c z d)) (by simp)).dn
            obtain ⟨_, d2⟩ := dn_append.1 hdn
            have hzt : ∀ v ∈ (T.node c z d).ord, G.th v = true := fun v hv => hI3.node_th (q := (0, .node a3 x (.node c z d))) (by simp) v (by show v ∈ a3.ord ++ x :: (T.node c z d).ord; simp [hv])
            have hzm : z ∈ (T.node c z d).ord := by simp [T.ord]
            have hdeep := dn_deep HOK.out hzt d2 z hzm
            have hza : z ∈ G.above x := by
              have : z ∈ (G.above x).reverse := by rw [← hord]; simp [hzm]
              simpa using this
            by_cases e : z = x
            · subst e; omega
            · have := HOK.out.dp_lt x z HX.out hza e
              omega
        subst hb
        exact ⟨L.rt, rfl, HZ.out, st3, a3, R, h3, HT.out.trans T3, hI3, hord, hc3, HKP.out⟩
      have HE := Lib.hid HE
      clear h3 T3 hI3 ho3 hc3
      go_wp2_with fail
      go_ret
      exact HE.out
    · obtain ⟨hyt, hqR, hLq⟩ := hy1 hy0
      have hym : y < m := by have := HOK.out.rng y hyt; have := hI1.m; omega
      have hyL : y ∉ L.ord := by
        intro e
        have hnd := up_nodup (HOK.out.above x HX.out).1
        rw [← hw1] at hnd
        exact (List.nodup_append.1 hnd).2.2 y (by simpa using e) y (HOK.out.self y hyt) rfl
      obtain ⟨p, t, R2, hperm, hyt2⟩ : ∃ p t R2, R.Perm ((p, t) :: R2) ∧ y ∈ t.ord := by
        have h0 := (hI1.cov y).2 hyt
        rw [nodes_append, nodes_op1] at h0
        rcases List.mem_append.1 h0 with e | e
        · exact absurd e hyL
        · obtain ⟨q, hq, hyq⟩ := List.mem_flatMap.1 e
          obtain ⟨l1, l2, e2⟩ := List.append_of_mem hq
          exact ⟨q.1, q.2, l1 ++ l2, by rw [e2]; exact List.perm_middle, hyq⟩
      have hI2 : Inv m st1 G ((p, t) :: (op1 y L ++ R2)) := hI1.perm ((List.Perm.append_left _ hperm).trans List.perm_middle)
      have hq2 : (0, tq) ∈ (p, t) :: R2 := hperm.mem_iff.1 hqR
      have HSP := Lib.hid (splay_inv wr F A m st1 h1 G p t _ hI2 y hyt2)
      have HT := Lib.hid T1
      have HW := Lib.hid hw1
      have HQ := Lib.hid hq2
      have hkp2 : ∀ q ∈ Ps, (∀ v ∈ q.2.ord, v ∉ G.above x) → q ∈ R2 := by
        intro q hq hv
        rcases List.mem_cons.1 (hperm.mem_iff.1 (HKP.out q hq hv)) with e | e
        · exfalso
          subst e
          refine hv y hyt2 ?_
          rw [← hw1]
          exact List.mem_append.2 (.inr (HOK.out.self y hyt))
        · exact e
      have HKP2 := Lib.hid hkp2
      have HL := Lib.hid hLq
      have HY0 := Lib.hid hy0
      have hyb : ((y : Int) != 0) = true := bne_iff_ne.2 (by omega)
      clear hkp2 h1 T1 hI1 hw1 hy1 hz1 hqR hLq hI2 hq2 hperm hyt2 hyL hy0
      go_wp2_with fail
      go_at_call 57
      refine HSP.out.mono ?_
      rintro e w3 ⟨rfl, st3, a3, b3, h3, T3, hI3, ho3, hc3⟩
      obtain ⟨I4, c4, p4, rm, lm, ry, ly, klm, kly⟩ := acc_step hI3 hc3
      have hRd := acc_round hI3 hc3 HW.out (by
        rcases List.mem_cons.1 HQ.out with e | e
        · have e1 : p = 0 := (congrArg Prod.fst e).symm
          have e2 : tq = t := congrArg Prod.snd e
          right
          exact ⟨by rw [e2]; exact ho3, e1⟩
        · exact .inl (List.mem_cons_of_mem _ e)) HL.out HR.out
      have c0 := h3.c0
      have fz := h3.fz
      have gvn := h3.at_vn y hym
      have gvs := h3.at_vs y hym
      have gr := h3.at_r y hym
      obtain ⟨r, hre⟩ : ∃ r, r = (st3 y).r := ⟨_, rfl⟩
      rw [← hre] at gr rm ry
      have grtn := h3.at_tn r rm
      have grts := h3.at_ts r rm
      have gltn := h3.at_tn L.rt lm
      have glts := h3.at_ts L.rt lm
      obtain ⟨hF3, hA3⟩ := h3.lt
      have H3 := Lib.hid h3
      have HT3 := Lib.hid (HT.out.trans T3)
      have HRE := Lib.hid hre
      have HI4 := Lib.hid I4
      have HP4 := Lib.hid p4
      have HRD := Lib.hid hRd
      have HKL := Lib.hid (And.intro klm kly)
      have HRY := Lib.hid (And.intro ry (And.intro rm (And.intro ly lm)))
      obtain ⟨ll, hll⟩ : ∃ ll, ll = L.rt := ⟨_, rfl⟩
      rw [← hll] at gltn glts lm ly ⊢
      have HLL := Lib.hid hll
      clear h3 T3 hI3 ho3 hc3 I4 c4 p4 hre hRd klm kly hll
      go_wp2_with fail
      refine region_any (.takes [0, 1, 2, 3, 4, 5, 6, 7, 8, 9, 10, 11, 12, 13, 14, 15, 16, 17, 18, 19, 20, 21, 22, 23, 24, 25, 26] (.fork 27 [] .done .none)) (by kernel_rfl) (by kernel_rfl) rfl ?_
      go_wp2_with first | (with_reducible exact wpE_none) | (with_reducible refine wpE_takes_nil ?_) | (with_reducible refine wpE_done ?_) | (refine wpE_take rfl rfl (fun _ _ => ?_)) | (refine wpE_skip rfl rfl ?_) | (refine wpE_fork rfl rfl (fun _ _ => ?_) ?_) | (with_reducible exact agains_nil) | (refine agains_cons rfl (fun _ => ?_) ?_) | (with_reducible refine wpE_same ?_) | (refine And.intro (rfl : (_ : World) = _) ?_) | (with_reducible refine wpE_and ?_ ?_)
      refine region_any (.takes [0, 1, 2, 3, 4, 5, 6, 7, 8, 9, 10, 11, 12, 13, 14, 15, 16, 17, 18, 19, 20, 21, 22, 23, 24, 25, 26] (.fork 27 [] .done .none)) (by kernel_rfl) (by kernel_rfl) rfl ?_
      go_wp2_with first | (with_reducible exact wpE_none) | (with_reducible refine wpE_takes_nil ?_) | (with_reducible refine wpE_done ?_) | (refine wpE_take rfl rfl (fun _ _ => ?_)) | (refine wpE_skip rfl rfl ?_) | (refine wpE_fork rfl rfl (fun _ _ => ?_) ?_) | (with_reducible exact agains_nil) | (refine agains_cons rfl (fun _ => ?_) ?_) | (with_reducible refine wpE_same ?_) | (refine And.intro (rfl : (_ : World) = _) ?_) | (with_reducible refine wpE_and ?_ ?_)
      have X4 : FR _ F A m (st3.upd y (accN st3 y ll)) := (((H3.out.set_vn y hym (y * 15 + 10) rfl (wrap64 ((st3 y).vn + wrap64 ((st3 r).tn - (st3 ll).tn)))).set_vs y hym (y * 15 + 11) rfl (wrap64 ((st3 y).vs + wrap64 ((st3 r).ts - (st3 ll).ts)))).set_r y hym (y * 15 + 1) rfl ll).eq (by
        simp only [St.upd_upd, St.upd_same]
        unfold accN
        rw [← HRE.out])
      have Y4 := (((HT3.out.cellA (A := A) (by simp) (y * 15 + 10) (.int .i64 (wrap64 ((st3 y).vn + wrap64 ((st3 r).tn - (st3 ll).tn))))).cellA (A := A) (by simp) (y * 15 + 11) (.int .i64 (wrap64 ((st3 y).vs + wrap64 ((st3 r).ts - (st3 ll).ts))))).cellA (A := A) (by simp) (y * 15 + 1) (.int .i64 (ll : Int)))
      have k1 : ((st3.upd y (accN st3 y ll)) y).l < m := by rw [St.upd_same]; exact HKL.out.1
      have k2 : ((st3.upd y (accN st3 y ll)) y).r < m := by rw [St.upd_same]; show ll < m; rw [HLL.out]; exact HRY.out.2.2.2
      have k3 : ((st3.upd y (accN st3 y ll)) y).l ≠ y := by rw [St.upd_same]; exact HKL.out.2
      have k4 : ((st3.upd y (accN st3 y ll)) y).r ≠ y := by rw [St.upd_same]; show ll ≠ y; rw [HLL.out]; exact HRY.out.2.2.1
      go_at_call 63
      refine (pull_any _ F A m (st3.upd y (accN st3 y ll)) (by first | exact X4 | exact X4.drew | exact X4.drew.drew) y hym k1 k2 k3 k4).mono ?_
      rintro e w5 ⟨rfl, h5, T5'⟩
      have T5 : Tch [A] w w5 := Tch.trans (by first | exact Y4 | exact Y4.drew | exact Y4.drew.drew) T5'
      have h5 : FR w5 F A m (accF st3 y ll) := h5
      have c05 := h5.c0
      have g5p := h5.at_p y hym
      obtain ⟨hF5, hA5⟩ := h5.lt
      rw [HLL.out, HP4.out] at g5p
      have H5 := Lib.hid h5
      have HT5 := Lib.hid T5
      clear X4 Y4 k1 k2 k3 k4 h5 T5 T5'
      go_wp2_with fail
      go_roundw
      case rel =>
        refine ⟨accF st3 y ll, .node a3 y L, op1 y b3 ++ R2, p, fun q hq hv => List.mem_append.2 (.inr (HKP2.out q hq hv)), rfl, rfl, H5.out, HT5.out, ?_, HRD.out.1, HRD.out.2.1, HRD.out.2.2.1⟩
        rw [HLL.out]
        exact HI4.out
      case measure =>
        have := HRD.out.2.2.2
        show (G.above (intOf (Value.int .i64 (p : Int))).toNat).length < (G.above (intOf (Value.int .i64 (y : Int))).toNat).length
        simpa [intOf] using this
end Go.Proofs.Ytaipladbgdcedaa
namespace Go.Proofs.Ytaipladbgdcedaa
open Go.RowKit

/-- The forest at F holds this forest. -/
def LF (w : World) (F A m : Nat) (G : Fo) : Prop := ∃ st Ps, FR w F A m st ∧ Inv m st G Ps
theorem LF.tch {w w' : World} {F A m : Nat} {G : Fo} (h : LF w F A m G) {bs : List Nat} (t : Tch bs w w') (h1 : F ∉ bs) (h2 : A ∉ bs) : LF w' F A m G := by
  obtain ⟨st, Ps, a, b⟩ := h
  exact ⟨st, Ps, a.tch t h1 h2, b⟩
theorem LF.quiet {w w' : World} {F A m : Nat} {G : Fo} (h : LF w F A m G) (t : Tch [] w w') : LF w' F A m G := h.tch t (by simp) (by simp)
theorem LF.lt {w : World} {F A m : Nat} {G : Fo} (h : LF w F A m G) : F < w.heap.size ∧ A < w.heap.size := by
  obtain ⟨st, Ps, a, b⟩ := h
  exact a.lt
theorem LF.ok {w : World} {F A m : Nat} {G : Fo} (h : LF w F A m G) : FoOk G := by
  obtain ⟨st, Ps, a, b⟩ := h
  exact b.ok
theorem LF.hm {w : World} {F A m : Nat} {G : Fo} (h : LF w F A m G) : m = G.n + 1 := by
  obtain ⟨st, Ps, a, b⟩ := h
  exact b.m
/-- The path of a tree's root. -/
theorem Inv.rootp {m : Nat} {st : St} {G : Fo} {Ps : List Path} (h : Inv m st G Ps) (x : Nat) (hx : G.th x = true) : ∃ tq, (0, tq) ∈ Ps ∧ ∃ r ∈ tq.ord, r ∈ G.above x := by
  obtain ⟨hu, _⟩ := h.ok.above x hx
  have hne : G.above x ≠ [] := by rw [h.ok.above_cons x hx]; simp
  obtain ⟨l, r, hl⟩ : ∃ l r, G.above x = l ++ [r] := by
    rcases List.eq_nil_or_concat (G.above x) with e | ⟨l, r, e⟩
    · exact absurd e hne
    · exact ⟨l, r, by rw [e, List.concat_eq_append]⟩
  have hr : r ∈ G.above x := by rw [hl]; simp
  have hrt := h.ok.mem_th x r hx hr
  obtain ⟨l1, l2, e1, e2⟩ := up_suffix hu r hr
  have hnd := up_nodup hu
  have hl2 : l2 = [] := by
    rw [hl] at e1 hnd
    rcases List.eq_nil_or_concat l2 with e | ⟨l3, c, e⟩
    · exact e
    · exfalso
      rw [e, List.concat_eq_append] at e1
      have e3 : l ++ [r] = (l1 ++ r :: l3) ++ [c] := by rw [e1]; simp
      have e4 := List.append_inj' e3 rfl
      rw [e4.1] at hnd
      have hrc : r = c := by simpa using e4.2
      subst hrc
      exact (List.nodup_append.1 hnd).2.2 r (by simp) r (by simp) rfl
  subst hl2
  have hup : G.up r = 0 := e2.2.2
  obtain ⟨q, R, hp, hrq⟩ := h.find r hrt
  have hq : q ∈ Ps := hp.mem_iff.2 (by simp)
  have hdn := (h.po q hq).dn
  obtain ⟨m1, m2, em⟩ := List.append_of_mem hrq
  rw [em] at hdn
  obtain ⟨d1, _⟩ := dn_append.1 hdn
  have hq0 : q.1 = 0 := by
    rcases List.eq_nil_or_concat m1 with e | ⟨m3, c, e⟩
    · subst e; rw [← d1.1]; exact hup
    · exfalso
      rw [e, List.concat_eq_append] at d1 em
      have d2 : Dn G.up q.1 (m3 ++ c :: [r]) := by simpa using d1
      obtain ⟨_, d3⟩ := dn_append.1 d2
      have : G.up r = c := d3.1
      have hc : G.th c = true := h.node_th hq c (by rw [em]; simp)
      exact h.ok.nz c hc (by omega)
  exact ⟨q.2, by rw [← hq0]; exact hq, r, hrq, hr⟩
def AccL (w : World) (F A m : Nat) (G : Fo) (x : Nat) (e : Ending) (w' : World) : Prop := ∃ last : Nat, e = .returned (.int .i64 last) ∧ ∃ Ps st a R, Accd w F A m G Ps x st a R w'
theorem access_lf (w : World) (F A m : Nat) (G : Fo) (h : LF w F A m G) (x : Nat) (hx : G.th x = true) : Calls Try.prog 52 #[.pointer (some ⟨F, 0, none⟩), .int .i64 x] w (AccL w F A m G x) := by
  obtain ⟨st, Ps, h1, h2⟩ := h
  obtain ⟨tq, h3, h4⟩ := h2.rootp x hx
  refine (access_any w F A m st h1 G Ps h2 x hx tq h3 h4).mono ?_
  rintro e w' ⟨last, rfl, _, r⟩
  exact ⟨last, rfl, Ps, r⟩
/-- What access leaves, as splay sees it. -/
theorem Accd.ss {w : World} {F A m : Nat} {G : Fo} {Ps : List Path} {x : Nat} {st : St} {a : T} {R : List Path} {w' : World} (h : Accd w F A m G Ps x st a R w') : SS m st st G.wt 0 (T.node a x .nil).ord [] a x .nil :=
  ⟨(h.inv.po (0, .node a x .nil) (by simp)).lay, rfl, h.inv.sb, Sv.refl _, fun _ _ => rfl⟩
def Fo.root (G : Fo) (x : Nat) : Nat := hd (G.above x).reverse
def LPost (w : World) (F A m : Nat) (G : Fo) (w' : World) : Prop := LF w' F A m G ∧ Tch [A] w w'
/-- While one goes down to the first. -/
def RootR (w : World) (F A m : Nat) (G : Fo) (s1 : St) (O : List Nat) (y : Value) (wr : World) : Prop :=
  ∃ st C a yy b, y = .int .i64 (yy : Nat) ∧ FR wr F A m st ∧ Tch [A] w wr ∧ SS m s1 st G.wt 0 O C a yy b ∧ Clean st C ∧ Cln st yy ∧ preL C = []
theorem ss_kids {m : Nat} {s0 st : St} {g : Nat → Int} {p0 : Nat} {O : List Nat} {C : List Fr} {a : T} {x : Nat} {b : T} (h : SS m s0 st g p0 O C a x b) (hc : Clean st C) : (st x).l = a.rt ∧ (st x).r = b.rt ∧ (st x).w = g x := by
  obtain ⟨⟨_, _, f2, f3, f4, _⟩, _, _⟩ := lay_focus hc h.lay
  exact ⟨by simpa using f2, by simpa using f3, f4⟩
theorem SS.down_l {m : Nat} {s0 st : St} {g : Nat → Int} {p0 : Nat} {O : List Nat} {C : List Fr} {a1 b1 : T} {z x : Nat} {b : T} (h : SS m s0 st g p0 O C (.node a1 z b1) x b) : SS m s0 st g p0 O (⟨true, x, b⟩ :: C) a1 z b1 := ⟨h.lay, h.ord, h.sb, h.sv, h.out⟩
theorem SS.down_r {m : Nat} {s0 st : St} {g : Nat → Int} {p0 : Nat} {O : List Nat} {C : List Fr} {a1 b1 : T} {z x : Nat} {a : T} (h : SS m s0 st g p0 O C a x (.node a1 z b1)) : SS m s0 st g p0 O (⟨false, x, a⟩ :: C) a1 z b1 := ⟨h.lay, h.ord, h.sb, h.sv, h.out⟩
theorem clean_cons {st : St} {f : Fr} {C : List Fr} (h : Clean st C) (hf : Cln st f.y) : Clean st (f :: C) := fun e he => by
  rcases List.mem_cons.1 he with k | k
  · subst k; exact hf
  · exact h e k
/-- Of two on a path the one ahead is less deep. -/
theorem dp_order {G : Fo} (h : FoOk G) {O l1 l2 : List Nat} {p y z : Nat} (hth : ∀ v ∈ O, G.th v = true) (hd' : Dn G.up p O) (e : O = l1 ++ y :: l2) (hz : z ∈ l2) : G.dp y < G.dp z := by
  subst e
  obtain ⟨_, d2⟩ := dn_append.1 hd'
  exact dn_deep h (fun v hv => hth v (by simp [hv])) d2 z hz

set_option maxRecDepth 100000 in
set_option maxHeartbeats 4000000 in
theorem root_any (w : World) (F A m : Nat) (G : Fo) (h : LF w F A m G) (x : Nat) (hx : G.th x = true) :
    Calls Try.prog 53 #[.pointer (some ⟨F, 0, none⟩), .int .i64 x] w fun e w' => e = .returned (.int .i64 (G.root x : Nat)) ∧ LPost w F A m G w' := by
  have hok := h.ok
  have hm := h.hm
  have hsm := hok.small
  have hxm : x < m := by have := hok.rng x hx; omega
  have HA := Lib.hid (access_lf w F A m G h x hx)
  have HOK := Lib.hid hok
  clear h hok
  go_enter Try.func53, Try.ntmps53
  go_wp2_with fail
  go_at_call 52
  refine HA.out.mono ?_
  rintro e w1 ⟨last, rfl, Ps1, st1, a1, R1, hA⟩
  have hS := hA.ss
  obtain ⟨q1, q2, q3, q4, q5⟩ := hS.push [] [] rfl (fun f hf => by cases hf)
  have HPU := Lib.hid (push_any w1 F A m st1 hA.fr x hxm q4 q5)
  have hR0 : ∀ w2, FR w2 F A m (pushF st1 x) → Tch [A] w1 w2 → RootR w F A m G st1 (T.node a1 x .nil).ord (.int .i64 (x : Int)) w2 := fun w2 h2 t2 => ⟨_, [], a1, x, .nil, rfl, h2, hA.tch.trans t2, q1, q3, q2, rfl⟩
  have HR0 := Lib.hid hR0
  have HAc := Lib.hid hA
  clear hS q1 q2 q3 q4 q5 hR0 hA
  go_wp2_with fail
  go_at_call 56
  refine HPU.out.mono ?_
  rintro e w2 ⟨rfl, h2, T2⟩
  have hR := HR0.out w2 h2 T2
  clear h2 T2
  have hth : ∀ v ∈ (T.node a1 x .nil).ord, G.th v = true := fun v hv => HAc.out.inv.node_th (q := (0, .node a1 x .nil)) (by simp) v hv
  have hdn : Dn G.up 0 (T.node a1 x .nil).ord := (HAc.out.inv.po (0, .node a1 x .nil) (by simp)).dn
  have hway : (T.node a1 x .nil).ord = (G.above x).reverse := by
    have := HAc.out.way
    show a1.ord ++ x :: [] = _
    exact this
  have HTH := Lib.hid hth
  have HDN := Lib.hid hdn
  have HWY := Lib.hid hway
  have HI := Lib.hid HAc.out.inv
  generalize hO : (T.node a1 x .nil).ord = O at *
  have HO := Lib.hid hO
  clear hO
  clear hth hdn hway HR0 HPU
  go_wp2_with fail
  go_loopw [1] (fun y wr => RootR w F A m G st1 O y wr) (fun y _ => G.dp (intOf y).toNat)
  case atStart => exact hR
  case round =>
    clear hR
    obtain ⟨st, C, a, y, b, rfl, h1, T1, hS, hc, hy, hpre⟩ := hrel
    obtain ⟨kl, kr, _⟩ := ss_kids hS hc
    have hym := hS.sb.lt _ hS.xO
    have c0 := h1.c0
    have fyl := h1.at_l y hym
    rw [kl] at fyl
    obtain ⟨hF, hA⟩ := h1.lt
    cases a with
    | nil =>
      have HSP := Lib.hid (splay_any wr F A m st h1 G.wt 0 O C .nil y b (by
        exact ⟨hS.lay, hS.ord, hS.sb, Sv.refl _, fun _ _ => rfl⟩))
      have hroot : G.root x = y := by
        unfold Fo.root
        rw [← HWY.out, ← hS.ord, plug_ord, hpre]
        rfl
      have HRT := Lib.hid hroot
      have HT := Lib.hid T1
      have HS := Lib.hid hS
      have fyl' : wr.cell? ⟨A, y * 15, none⟩ = some (.int .i64 0) := fyl
      clear fyl h1 T1 hS hc hy hpre kl kr hroot
      go_wp2_with fail
      go_at_call 57
      refine HSP.out.mono ?_
      rintro e w3 ⟨rfl, st3, a3, b3, h3, T3, S3, c3⟩
      have HE : LPost w F A m G w3 := ⟨⟨st3, _, h3, HI.out.swap (t' := .node a3 y b3) S3.lay (S3.ord.trans HO.out.symm) (HS.out.sv.trans S3.sv) (fun v hv => by
        rw [HO.out] at hv
        exact (S3.out v hv).trans (HS.out.out v hv))⟩, HT.out.trans T3⟩
      have HE := Lib.hid HE
      clear h3 T3 S3 c3
      go_wp2_with fail
      go_ret
      exact ⟨by rw [HRT.out]; rfl, HE.out⟩
    | node a2 z b2 =>
      have hz0 : z ≠ 0 := hS.down_l.x0
      have hzb : ((z : Int) != 0) = true := bne_iff_ne.2 (by omega)
      have fyl' : wr.cell? ⟨A, y * 15, none⟩ = some (.int .i64 (z : Int)) := fyl
      have hcc := clean_cons (f := ⟨true, y, b⟩) hc hy
      obtain ⟨p1, p2, p3, p4, p5⟩ := hS.down_l.push [] (⟨true, y, b⟩ :: C) rfl hcc
      have e0 : (plug [] (T.node a2 z b2)).rt = z := rfl
      rw [e0] at p1 p2 p3 p4 p5
      have hzm := hS.sb.lt _ hS.down_l.xO
      have HPU := Lib.hid (push_any wr F A m st h1 z hzm p4 p5)
      have HN := Lib.hid (And.intro p1 (And.intro p2 p3))
      have HT := Lib.hid T1
      have hpre2 : preL (⟨true, y, b⟩ :: C) = [] := by simp [preL, hpre]
      have HPR := Lib.hid hpre2
      have hdp : G.dp z < G.dp y := by
        refine dp_order HOK.out HTH.out HDN.out (l1 := preL C ++ a2.ord) (l2 := b2.ord ++ y :: b.ord ++ postL C) ?_ (by simp)
        rw [← hS.ord, plug_ord]
        simp [T.ord]
      clear fyl h1 T1 hS hc hy hpre kl kr hcc p1 p2 p3 p4 p5 hpre2 hz0 e0
      go_wp2_with fail
      go_at_call 56
      refine HPU.out.mono ?_
      rintro e w3 ⟨rfl, h3, T3⟩
      have H3 := Lib.hid h3
      have HT3 := Lib.hid (HT.out.trans T3)
      clear h3 T3
      go_wp2_with fail
      go_roundw
      case rel => exact ⟨_, ⟨true, y, b⟩ :: C, a2, z, b2, rfl, H3.out, HT3.out, HN.out.1, HN.out.2.2, HN.out.2.1, HPR.out⟩
      case measure => simpa [intOf] using hdp
end Go.Proofs.Ytaipladbgdcedaa
namespace Go.Proofs.Ytaipladbgdcedaa
open Go.RowKit

/-- Is a node there, by its outer number? -/
def hasB (G : Fo) (v : Int) : Bool := decide (0 ≤ v ∧ v < (G.n : Int)) && G.th (v.toNat + 1)
theorem hasB_nat (G : Fo) (k : Nat) : hasB G (k : Int) = (decide (k < G.n) && G.th (k + 1)) := by
  unfold hasB
  have : (decide (0 ≤ (k : Int) ∧ (k : Int) < (G.n : Int))) = decide (k < G.n) := by
    by_cases h : k < G.n
    · rw [decide_eq_true_iff.2 h, decide_eq_true_iff.2 (by omega)]
    · rw [decide_eq_false_iff_not.2 h, decide_eq_false_iff_not.2 (by omega)]
  rw [this, Int.toNat_natCast]
theorem hasB_yes {G : Fo} (h : FoOk G) {v : Int} (hv : hasB G v = true) : ∃ k : Nat, v = (k : Int) ∧ k < G.n ∧ G.th (k + 1) = true := by
  unfold hasB at hv
  rw [Bool.and_eq_true, decide_eq_true_eq] at hv
  obtain ⟨k, rfl⟩ := Int.eq_ofNat_of_zero_le hv.1.1
  exact ⟨k, rfl, by omega, by simpa using hv.2⟩
set_option maxHeartbeats 400000 in
theorem has_any (w : World) (F A m : Nat) (G : Fo) (h : LF w F A m G) (v : Int) : Calls Try.prog 31 #[.pointer (some ⟨F, 0, none⟩), .int .i64 v] w fun e w' => e = .returned (.bool (hasB G v)) ∧ w = w' := by
  obtain ⟨st, Ps, h1, hI⟩ := h
  have hok := hI.ok
  have hm := hI.m
  have hs := hok.small
  have c0 := h1.c0
  have hm1 : 1 ≤ m := by omega
  have hm2 : m ≤ 101 := by omega
  obtain ⟨hF, hA⟩ := h1.lt
  by_cases h0 : 0 ≤ v
  · obtain ⟨k, rfl⟩ := Int.eq_ofNat_of_zero_le h0
    by_cases hk : k < G.n
    · have f := h1.at_th (k + 1) (by omega)
      rw [hI.th] at f
      rw [hasB_nat, decide_eq_true_iff.2 hk, Bool.true_and]
      clear h1 hI hok h0
      generalize G.th (k + 1) = B at *
      have hkm : (k : Int) < (m : Int) - 1 := by omega
      have hkm2 : k + 1 < m := by omega
      clear hm
      go_enter Try.func31, Try.ntmps31
      go_wp2
      go_ret
      exact ⟨rfl, rfl⟩
    · rw [hasB_nat, decide_eq_false_iff_not.2 hk, Bool.false_and]
      have hkm : ¬ (k : Int) < (m : Int) - 1 := by omega
      clear h1 hI hok h0 hm
      go_enter Try.func31, Try.ntmps31
      go_wp2
      go_ret
      exact ⟨rfl, rfl⟩
  · have e : hasB G v = false := by
      unfold hasB
      rw [decide_eq_false_iff_not.2 (by omega), Bool.false_and]
    rw [e]
    clear h1 hI hok
    go_enter Try.func31, Try.ntmps31
    go_wp2
    go_ret
    exact ⟨rfl, rfl⟩
theorem has_nil (w : World) (v : Int) : Calls Try.prog 31 #[.pointer none, .int .i64 v] w fun e w' => e = .returned (.bool false) ∧ w = w' := by
  go_enter Try.func31, Try.ntmps31
  go_wp2
  go_ret
  exact ⟨rfl, rfl⟩
/-- A node's outer root. -/
def rootE (G : Fo) (v : Int) : Int := if hasB G v = true then (G.root (v.toNat + 1) : Int) - 1 else -1
theorem root_bd {G : Fo} (h : FoOk G) (x : Nat) (hx : G.th x = true) : G.th (G.root x) = true ∧ G.root x ∈ G.above x := by
  have hne : (G.above x).reverse ≠ [] := by rw [h.above_cons x hx]; simp
  have hm : G.root x ∈ G.above x := by
    unfold Fo.root
    cases e : (G.above x).reverse with
    | nil => exact absurd e hne
    | cons a l =>
      have : a ∈ (G.above x).reverse := by rw [e]; simp
      simpa [hd] using this
  exact ⟨h.mem_th x _ hx hm, hm⟩
theorem Root_any (w : World) (F A m : Nat) (G : Fo) (h : LF w F A m G) (v : Int) : Calls Try.prog 20 #[.pointer (some ⟨F, 0, none⟩), .int .i64 v] w fun e w' => e = .returned (.int .i64 (rootE G v)) ∧ LPost w F A m G w' := by
  have HH := Lib.hid (has_any w F A m G h v)
  have hok := h.ok
  have hs := hok.small
  unfold rootE
  cases hv : hasB G v with
  | false =>
    rw [hv] at HH
    rw [if_neg (by simp)]
    have HL := Lib.hid h
    clear h hok hv
    go_enter Try.func20, Try.ntmps20
    go_wp2_with (go_at_call 31; refine HH.out.mono ?_; rintro e w1 ⟨rfl, rfl⟩)
    go_ret
    exact ⟨rfl, HL.out, Tch.refl _ _⟩
  | true =>
    rw [hv] at HH
    rw [if_pos rfl]
    obtain ⟨k, rfl, hk, hth⟩ := hasB_yes hok hv
    rw [Int.toNat_natCast]
    have HR := root_any w F A m G h (k + 1) hth
    have e1 : ((k + 1 : Nat) : Int) = (k : Int) + 1 := by omega
    rw [e1] at HR
    obtain ⟨rt, _⟩ := root_bd hok (k + 1) hth
    have hr1 := hok.rng _ rt
    have HR := Lib.hid HR
    clear h hok hv hth e1 rt
    generalize G.root (k + 1) = r at *
    go_enter Try.func20, Try.ntmps20
    go_wp2_with (go_at_call 31; refine HH.out.mono ?_; rintro e w1 ⟨rfl, rfl⟩)
    go_at_call 53
    refine HR.out.mono ?_
    rintro e w2 ⟨rfl, h2⟩
    have H2 := Lib.hid h2
    clear h2
    go_wp2_with fail
    go_ret
    exact ⟨rfl, H2.out⟩
theorem Root_nil (w : World) (v : Int) : Calls Try.prog 20 #[.pointer none, .int .i64 v] w fun e w' => e = .returned (.int .i64 (-1)) ∧ w = w' := by
  go_enter Try.func20, Try.ntmps20
  go_wp2_with (go_at_call 31; refine (has_nil _ _).mono ?_; rintro e w1 ⟨rfl, rfl⟩)
  go_ret
  exact ⟨rfl, rfl⟩
/-- While one goes to the last ahead of a node. -/
def ParR (w : World) (F A m : Nat) (G : Fo) (s1 : St) (O : List Nat) (x : Nat) (y : Value) (wr : World) : Prop :=
  ∃ st C a yy b, y = .int .i64 (yy : Nat) ∧ FR wr F A m st ∧ Tch [A] w wr ∧ SS m s1 st G.wt 0 O C a yy b ∧ Clean st C ∧ Cln st yy ∧ postL C = [x]
/-- A node's outer parent. -/
def parE (G : Fo) (v : Int) : Int := if hasB G v = true then (G.up (v.toNat + 1) : Int) - 1 else -1
theorem parent_no (w : World) (F A m : Nat) (G : Fo) (h : LF w F A m G) (v : Int) (hv : hasB G v = false) : Calls Try.prog 21 #[.pointer (some ⟨F, 0, none⟩), .int .i64 v] w fun e w' => e = .returned (.int .i64 (-1)) ∧ w = w' := by
  have HH := has_any w F A m G h v
  rw [hv] at HH
  have HH := Lib.hid HH
  clear h hv
  go_enter Try.func21, Try.ntmps21
  go_wp2_with (go_at_call 31; refine HH.out.mono ?_; rintro e w1 ⟨rfl, rfl⟩)
  go_ret
  exact ⟨rfl, rfl⟩
set_option maxRecDepth 100000 in
set_option maxHeartbeats 4000000 in
theorem parent_yes (w : World) (F A m : Nat) (G : Fo) (h : LF w F A m G) (k : Nat) (hk : k < G.n) (hth : G.th (k + 1) = true) : Calls Try.prog 21 #[.pointer (some ⟨F, 0, none⟩), .int .i64 k] w fun e w' => e = .returned (.int .i64 ((G.up (k + 1) : Int) - 1)) ∧ LPost w F A m G w' := by
  have HH := has_any w F A m G h k
  rw [hasB_nat, decide_eq_true_iff.2 hk, hth] at HH
  have HH := Lib.hid HH
  have hok := h.ok
  have hs := hok.small
  have hm := h.hm
  have e1 : ((k + 1 : Nat) : Int) = (k : Int) + 1 := by omega
  have HAC := access_lf w F A m G h (k + 1) hth
  rw [e1] at HAC
  have HAC := Lib.hid HAC
  have HOK := Lib.hid hok
  have HTH := Lib.hid hth
  have hkm : k + 1 < m := by omega
  clear h hok hth
  go_enter Try.func21, Try.ntmps21
  go_wp2_with (go_at_call 31; refine HH.out.mono ?_; rintro e w1 ⟨rfl, rfl⟩)
  go_at_call 52
  refine HAC.out.mono ?_
  rintro e w1 ⟨last, rfl, Ps1, st1, a1, R1, hA⟩
  have hS := hA.ss
  obtain ⟨q1, q2, q3, q4, q5⟩ := hS.push [] [] rfl (fun f hf => by cases hf)
  have HPU := push_any w1 F A m st1 hA.fr (k + 1) hkm q4 q5
  rw [e1] at HPU
  have HPU := Lib.hid HPU
  have HQ := Lib.hid (And.intro q1 q2)
  have HAc := Lib.hid hA
  clear hS q1 q2 q3 q4 q5 hA
  go_wp2_with fail
  go_at_call 56
  refine HPU.out.mono ?_
  rintro e w2 ⟨rfl, h2, T2⟩
  have hQ : SS m st1 (pushF st1 (k + 1)) G.wt 0 (T.node a1 (k + 1) .nil).ord [] a1 (k + 1) .nil := HQ.out.1
  have hQ2 : Cln (pushF st1 (k + 1)) (k + 1) := HQ.out.2
  have h2 : FR w2 F A m (pushF st1 (k + 1)) := h2
  generalize pushF st1 (k + 1) = s2 at *
  obtain ⟨kl, kr, _⟩ := ss_kids hQ (fun f hf => by cases hf)
  have c0 := h2.c0
  have fl := h2.at_l (k + 1) hkm
  rw [kl] at fl
  obtain ⟨hF2, hA2⟩ := h2.lt
  have hT2 := HAc.out.tch.trans T2
  have hway : (T.node a1 (k + 1) .nil).ord = (G.above (k + 1)).reverse := HAc.out.way
  have hdn : Dn G.up 0 (T.node a1 (k + 1) .nil).ord := (HAc.out.inv.po (0, .node a1 (k + 1) .nil) (by simp)).dn
  have hthO : ∀ v ∈ (T.node a1 (k + 1) .nil).ord, G.th v = true := fun v hv => HAc.out.inv.node_th (q := (0, .node a1 (k + 1) .nil)) (by simp) v hv
  have HI := Lib.hid HAc.out.inv
  have HDN := Lib.hid hdn
  have HTO := Lib.hid hthO
  cases a1 with
  | nil =>
    have hup : G.up (k + 1) = 0 := by
      have : Dn G.up 0 [k + 1] := hdn
      exact this.1
    have HE : LPost w F A m G w2 := ⟨⟨s2, _, h2, HI.out.swap (t' := .node .nil (k + 1) .nil) hQ.lay hQ.ord hQ.sv hQ.out⟩, hT2⟩
    have HE := Lib.hid HE
    have fl' : w2.cell? ⟨A, (k + 1) * 15, none⟩ = some (.int .i64 0) := fl
    clear fl hQ hQ2 h2 T2 kl kr hT2 hway hdn hthO HQ HPU
    have HUP := Lib.hid hup
    clear hup
    go_wp2_with fail
    go_ret
    exact ⟨by rw [HUP.out]; rfl, HE.out⟩
  | node a2 z b2 =>
    have hz0 : z ≠ 0 := hQ.down_l.x0
    have hzb : ((z : Int) == 0) = false := beq_eq_false_iff_ne.2 (by omega)
    have fl' : w2.cell? ⟨A, (k + 1) * 15, none⟩ = some (.int .i64 (z : Int)) := fl
    have hcc := clean_cons (f := ⟨true, k + 1, .nil⟩) (C := []) (st := s2) (fun f hf => by cases hf) hQ2
    obtain ⟨p1, p2, p3, p4, p5⟩ := hQ.down_l.push [] [⟨true, k + 1, .nil⟩] rfl hcc
    have e0 : (plug [] (T.node a2 z b2)).rt = z := rfl
    rw [e0] at p1 p2 p3 p4 p5
    have hzm := hQ.sb.lt _ hQ.down_l.xO
    have HPU2 := Lib.hid (push_any w2 F A m s2 h2 z hzm p4 p5)
    have HN := Lib.hid (And.intro p1 (And.intro p2 p3))
    have HT := Lib.hid hT2
    generalize hO : (T.node (T.node a2 z b2) (k + 1) .nil).ord = O at *
    have HO := Lib.hid hO
    clear hO fl hQ hQ2 h2 T2 kl kr hT2 hway hdn hthO HQ HPU hcc p1 p2 p3 p4 p5 hz0 e0
    go_wp2_with fail
    go_at_call 56
    refine HPU2.out.mono ?_
    rintro e w3 ⟨rfl, h3, T3⟩
    have hR : ParR w F A m G st1 O (k + 1) (.int .i64 (z : Int)) w3 := ⟨_, [⟨true, k + 1, .nil⟩], a2, z, b2, rfl, h3, HT.out.trans T3, HN.out.1, HN.out.2.2, HN.out.2.1, rfl⟩
    have HR := Lib.hid hR
    clear hR h3 T3 HPU2 fl' c0 hF2 hA2 hzb
    go_wp2_with fail
    go_loopw [5] (fun y wr => ParR w F A m G st1 O (k + 1) y wr) (fun y _ => G.n + 1 - G.dp (intOf y).toNat)
    case atStart => exact HR.out
    case round =>
      clear HR
      obtain ⟨st, C, a, y, b, rfl, h1, T1, hS, hc, hy, hpost⟩ := hrel
      obtain ⟨kl, kr, _⟩ := ss_kids hS hc
      have hym := hS.sb.lt _ hS.xO
      have hyt := HTO.out y hS.xO
      have c0 := h1.c0
      have fyr := h1.at_r y hym
      rw [kr] at fyr
      obtain ⟨hF, hA⟩ := h1.lt
      cases b with
      | nil =>
        have HSP := Lib.hid (splay_any wr F A m st h1 G.wt 0 O C a y .nil (by
          exact ⟨hS.lay, hS.ord, hS.sb, Sv.refl _, fun _ _ => rfl⟩))
        have hup : G.up (k + 1) = y := by
          have h9 := HDN.out
          rw [← hS.ord, plug_ord, hpost] at h9
          have h10 : Dn G.up 0 ((preL C ++ a.ord) ++ y :: [k + 1]) := by simpa [T.ord] using h9
          exact (dn_append.1 h10).2.1
        have hyr := HOK.out.rng y hyt
        have HUP := Lib.hid hup
        have HT := Lib.hid T1
        have HS := Lib.hid hS
        have fyr' : wr.cell? ⟨A, y * 15 + 1, none⟩ = some (.int .i64 0) := fyr
        clear fyr h1 T1 hS hc hy hpost kl kr hup hyt
        go_wp2_with fail
        go_at_call 57
        refine HSP.out.mono ?_
        rintro e w4 ⟨rfl, st3, a3, b3, h3, T3, S3, c3⟩
        have HE : LPost w F A m G w4 := ⟨⟨st3, _, h3, HI.out.swap (t' := .node a3 y b3) S3.lay (S3.ord.trans HO.out.symm) (HS.out.sv.trans S3.sv) (fun v hv => by
          rw [HO.out] at hv
          exact (S3.out v hv).trans (HS.out.out v hv))⟩, HT.out.trans T3⟩
        have HE := Lib.hid HE
        clear h3 T3 S3 c3
        go_wp2_with fail
        go_ret
        exact ⟨by rw [HUP.out]; rfl, HE.out⟩
      | node b1 z b3 =>
        have hz0 : z ≠ 0 := hS.down_r.x0
        have hzb : ((z : Int) != 0) = true := bne_iff_ne.2 (by omega)
        have fyr' : wr.cell? ⟨A, y * 15 + 1, none⟩ = some (.int .i64 (z : Int)) := fyr
        have hcc := clean_cons (f := ⟨false, y, a⟩) hc hy
        obtain ⟨p1, p2, p3, p4, p5⟩ := hS.down_r.push [] (⟨false, y, a⟩ :: C) rfl hcc
        have e0 : (plug [] (T.node b1 z b3)).rt = z := rfl
        rw [e0] at p1 p2 p3 p4 p5
        have hzm := hS.sb.lt _ hS.down_r.xO
        have hzt := HTO.out z hS.down_r.xO
        have HPU3 := Lib.hid (push_any wr F A m st h1 z hzm p4 p5)
        have HN3 := Lib.hid (And.intro p1 (And.intro p2 p3))
        have HT3 := Lib.hid T1
        have hpost2 : postL (⟨false, y, a⟩ :: C) = [k + 1] := by simp [postL, hpost]
        have HPR := Lib.hid hpost2
        have hdp : G.dp y < G.dp z := by
          refine dp_order HOK.out HTO.out HDN.out (l1 := preL C ++ a.ord) (l2 := (T.node b1 z b3).ord ++ postL C) ?_ (by simp [T.ord])
          rw [← hS.ord, plug_ord]
          simp [T.ord]
        have hdz : G.dp z ≤ G.n := (HOK.out.above z hzt).2
        clear fyr h1 T1 hS hc hy hpost kl kr hcc p1 p2 p3 p4 p5 hpost2 hz0 e0 hyt hzt
        go_wp2_with fail
        go_at_call 56
        refine HPU3.out.mono ?_
        rintro e w4 ⟨rfl, h4, T4⟩
        have H4 := Lib.hid h4
        have HT4 := Lib.hid (HT3.out.trans T4)
        clear h4 T4
        go_wp2_with fail
        go_roundw
        case rel => exact ⟨_, ⟨false, y, a⟩ :: C, b1, z, b3, rfl, H4.out, HT4.out, HN3.out.1, HN3.out.2.2, HN3.out.2.1, HPR.out⟩
        case measure => simp [intOf]; omega
theorem Parent_any (w : World) (F A m : Nat) (G : Fo) (h : LF w F A m G) (v : Int) : Calls Try.prog 21 #[.pointer (some ⟨F, 0, none⟩), .int .i64 v] w fun e w' => e = .returned (.int .i64 (parE G v)) ∧ LPost w F A m G w' := by
  unfold parE
  cases hv : hasB G v with
  | false =>
    rw [if_neg (by simp)]
    refine (parent_no w F A m G h v hv).mono ?_
    rintro e w' ⟨rfl, rfl⟩
    exact ⟨rfl, h, Tch.refl _ _⟩
  | true =>
    rw [if_pos rfl]
    obtain ⟨k, rfl, hk, hth⟩ := hasB_yes h.ok hv
    rw [Int.toNat_natCast]
    exact parent_yes w F A m G h k hk hth
theorem Parent_nil (w : World) (v : Int) : Calls Try.prog 21 #[.pointer none, .int .i64 v] w fun e w' => e = .returned (.int .i64 (-1)) ∧ w = w' := by
  go_enter Try.func21, Try.ntmps21
  go_wp2_with (go_at_call 31; refine (has_nil _ _).mono ?_; rintro e w1 ⟨rfl, rfl⟩)
  go_ret
  exact ⟨rfl, rfl⟩
end Go.Proofs.Ytaipladbgdcedaa
namespace Go.Proofs.Ytaipladbgdcedaa
open Go.RowKit

def sameB (G : Fo) (a b : Int) : Bool := hasB G a && hasB G b && (rootE G a == rootE G b)
theorem LPost.trans {w w1 w2 : World} {F A m : Nat} {G G' : Fo} (h : LPost w F A m G w1) (k : LPost w1 F A m G' w2) : LPost w F A m G' w2 := ⟨k.1, h.2.trans k.2⟩
theorem Same_any (w : World) (F A m : Nat) (G : Fo) (h : LF w F A m G) (a b : Int) : Calls Try.prog 17 #[.pointer (some ⟨F, 0, none⟩), .int .i64 a, .int .i64 b] w fun e w' => e = .returned (.bool (sameB G a b)) ∧ LPost w F A m G w' := by
  have HA := Lib.hid (has_any w F A m G h a)
  have HB := Lib.hid (has_any w F A m G h b)
  have HL := Lib.hid h
  unfold sameB
  cases ha : hasB G a with
  | false =>
    rw [ha] at HA
    simp only [Bool.false_and]
    clear h ha
    go_enter Try.func17, Try.ntmps17
    go_wp2_with (go_at_call 31; refine HA.out.mono ?_; rintro e w1 ⟨rfl, rfl⟩)
    go_ret
    exact ⟨rfl, HL.out, Tch.refl _ _⟩
  | true =>
    rw [ha] at HA
    simp only [Bool.true_and]
    cases hb : hasB G b with
    | false =>
      rw [hb] at HB
      simp only [Bool.false_and]
      clear h ha hb
      go_enter Try.func17, Try.ntmps17
      go_wp2_with fail
      go_at_call 31
      refine HA.out.mono ?_
      rintro e w1 ⟨rfl, rfl⟩
      go_wp2_with fail
      go_at_call 31
      refine HB.out.mono ?_
      rintro e w1 ⟨rfl, rfl⟩
      go_wp2_with fail
      go_ret
      exact ⟨rfl, HL.out, Tch.refl _ _⟩
    | true =>
      rw [hb] at HB
      simp only [Bool.true_and]
      have HR := Lib.hid (Root_any w F A m G h a)
      have HR2 := Lib.hid (fun w2 (h2 : LF w2 F A m G) => Root_any w2 F A m G h2 b)
      clear h ha hb
      generalize rootE G a = ra at *
      generalize rootE G b = rb at *
      go_enter Try.func17, Try.ntmps17
      go_wp2_with fail
      go_at_call 31
      refine HA.out.mono ?_
      rintro e w1 ⟨rfl, rfl⟩
      go_wp2_with fail
      go_at_call 31
      refine HB.out.mono ?_
      rintro e w1 ⟨rfl, rfl⟩
      go_wp2_with fail
      go_at_call 20
      refine HR.out.mono ?_
      rintro e w2 ⟨rfl, h2⟩
      have H2 := Lib.hid h2
      clear h2
      go_wp2_with fail
      go_at_call 20
      refine (HR2.out w2 H2.out.1).mono ?_
      rintro e w3 ⟨rfl, h3⟩
      have H3 := Lib.hid (H2.out.trans h3)
      clear h3
      go_wp2_with fail
      go_ret
      exact ⟨rfl, H3.out⟩
theorem Same_nil (w : World) (a b : Int) : Calls Try.prog 17 #[.pointer none, .int .i64 a, .int .i64 b] w fun e w' => e = .returned (.bool false) ∧ w = w' := by
  go_enter Try.func17, Try.ntmps17
  go_wp2_with (go_at_call 31; refine (has_nil _ _).mono ?_; rintro e w1 ⟨rfl, rfl⟩)
  go_ret
  exact ⟨rfl, rfl⟩
/-- The lowest node above both. -/
def Fo.lca (G : Fo) (x y : Nat) : Nat := ((G.above y).find? fun v => (G.above x).contains v).getD 0
def lcaE (G : Fo) (a b : Int) : Int := if sameB G a b = true then (G.lca (a.toNat + 1) (b.toNat + 1) : Int) - 1 else -1
theorem sameB_yes {G : Fo} (h : FoOk G) {a b : Int} (hs : sameB G a b = true) : ∃ i j : Nat, a = (i : Int) ∧ b = (j : Int) ∧ i < G.n ∧ j < G.n ∧ G.th (i + 1) = true ∧ G.th (j + 1) = true ∧ G.root (i + 1) = G.root (j + 1) := by
  unfold sameB at hs
  rw [Bool.and_eq_true, Bool.and_eq_true] at hs
  obtain ⟨⟨h1, h2⟩, h3⟩ := hs
  obtain ⟨i, rfl, hi, hi2⟩ := hasB_yes h h1
  obtain ⟨j, rfl, hj, hj2⟩ := hasB_yes h h2
  refine ⟨i, j, rfl, rfl, hi, hj, hi2, hj2, ?_⟩
  have := beq_iff_eq.1 h3
  unfold rootE at this
  rw [if_pos h1, if_pos h2, Int.toNat_natCast, Int.toNat_natCast] at this
  omega
theorem lca_of {G : Fo} {x y last : Nat} {l1 l2 : List Nat} (e : G.above y = l1 ++ last :: l2) (h1 : last ∈ G.above x) (h2 : ∀ v ∈ l1, v ∉ G.above x) : G.lca x y = last := by
  unfold Fo.lca
  rw [e, List.find?_append]
  have h3 : l1.find? (fun v => (G.above x).contains v) = none := List.find?_eq_none.2 (fun v hv => by simpa using h2 v hv)
  rw [h3]
  simp [h1]
theorem Lca_any (w : World) (F A m : Nat) (G : Fo) (h : LF w F A m G) (a b : Int) : Calls Try.prog 22 #[.pointer (some ⟨F, 0, none⟩), .int .i64 a, .int .i64 b] w fun e w' => e = .returned (.int .i64 (lcaE G a b)) ∧ LPost w F A m G w' := by
  have HS := Lib.hid (Same_any w F A m G h a b)
  have hok := h.ok
  have hs := hok.small
  unfold lcaE
  cases hv : sameB G a b with
  | false =>
    rw [hv] at HS
    rw [if_neg (by simp)]
    clear h hok hv
    go_enter Try.func22, Try.ntmps22
    go_wp2_with fail
    go_at_call 17
    refine HS.out.mono ?_
    rintro e w1 ⟨rfl, h1⟩
    have H1 := Lib.hid h1
    clear h1
    go_wp2_with fail
    go_ret
    exact ⟨rfl, H1.out⟩
  | true =>
    rw [hv] at HS
    rw [if_pos rfl]
    obtain ⟨i, j, rfl, rfl, hi, hj, hi2, hj2, hr⟩ := sameB_yes hok hv
    rw [Int.toNat_natCast, Int.toNat_natCast]
    have e1 : ((i + 1 : Nat) : Int) = (i : Int) + 1 := by omega
    have e2 : ((j + 1 : Nat) : Int) = (j : Int) + 1 := by omega
    have HAC := Lib.hid (fun w2 (h2 : LF w2 F A m G) => access_lf w2 F A m G h2 (i + 1) hi2)
    rw [e1] at HAC
    have key : ∀ w2 w3 Ps2 st2 a2 R2, Accd w2 F A m G Ps2 (i + 1) st2 a2 R2 w3 → Calls Try.prog 52 #[.pointer (some ⟨F, 0, none⟩), .int .i64 ((j + 1 : Nat) : Int)] w3 fun e w' => e = .returned (.int .i64 (G.lca (i + 1) (j + 1) : Nat)) ∧ LPost w3 F A m G w' := by
      intro w2 w3 Ps2 st2 a2 R2 hA
      have hord : (T.node a2 (i + 1) .nil).ord = (G.above (i + 1)).reverse := hA.way
      obtain ⟨r1, r2⟩ := root_bd hok (i + 1) hi2
      obtain ⟨r3, r4⟩ := root_bd hok (j + 1) hj2
      refine (access_any w3 F A m st2 hA.fr G _ hA.inv (j + 1) hj2 (.node a2 (i + 1) .nil) (by simp) ⟨G.root (i + 1), by rw [hord]; simpa using r2, by rw [hr]; exact r4⟩).mono ?_
      rintro e w' ⟨last, rfl, ⟨l1, l2, k1, k2, k3⟩, st4, a4, R4, h4⟩
      rw [hord] at k2 k3
      rw [lca_of k1 (by simpa using k2) (fun v hv => by simpa using k3 v hv)]
      exact ⟨rfl, ⟨st4, _, h4.fr, h4.inv⟩, h4.tch⟩
    have hlca : G.lca (i + 1) (j + 1) ≤ 1000 := by
      unfold Fo.lca
      cases hf : (G.above (j + 1)).find? (fun v => (G.above (i + 1)).contains v) with
      | none => simp
      | some v =>
        have := hok.rng v (hok.mem_th (j + 1) v hj2 (List.mem_of_find?_eq_some hf))
        simp; omega
    rw [e2] at key
    have KEY := Lib.hid key
    clear h hok hv hi2 hj2 hr e1 e2 key
    generalize G.lca (i + 1) (j + 1) = c at *
    go_enter Try.func22, Try.ntmps22
    go_wp2_with fail
    go_at_call 17
    refine HS.out.mono ?_
    rintro e w1 ⟨rfl, h1⟩
    have H1 := Lib.hid h1
    clear h1
    go_wp2_with fail
    go_at_call 52
    refine (HAC.out w1 H1.out.1).mono ?_
    rintro e w2 ⟨last, rfl, Ps2, st2, a2, R2, h2⟩
    have H2 := Lib.hid h2
    clear h2
    go_wp2_with fail
    go_at_call 52
    refine (KEY.out w1 w2 Ps2 st2 a2 R2 H2.out).mono ?_
    rintro e w3 ⟨rfl, h3⟩
    have H3 := Lib.hid h3
    clear h3
    go_wp2_with fail
    go_ret
    exact ⟨rfl, H3.out.1, (H1.out.2.trans H2.out.tch).trans H3.out.2⟩
theorem Lca_nil (w : World) (a b : Int) : Calls Try.prog 22 #[.pointer none, .int .i64 a, .int .i64 b] w fun e w' => e = .returned (.int .i64 (-1)) ∧ w = w' := by
  go_enter Try.func22, Try.ntmps22
  go_wp2_with (go_at_call 17; refine (Same_nil _ _ _).mono ?_; rintro e w1 ⟨rfl, rfl⟩)
  go_ret
  exact ⟨rfl, rfl⟩
/-- A node's outer weight. -/
def getE (G : Fo) (v : Int) : Int := if hasB G v = true then G.wt (v.toNat + 1) else 0
theorem Get_any (w : World) (F A m : Nat) (G : Fo) (h : LF w F A m G) (v : Int) : Calls Try.prog 29 #[.pointer (some ⟨F, 0, none⟩), .int .i64 v] w fun e w' => e = .returned (.tuple #[.int .i64 (getE G v), .bool (hasB G v)]) ∧ LPost w F A m G w' := by
  have HH := Lib.hid (has_any w F A m G h v)
  have hok := h.ok
  have hs := hok.small
  have hm := h.hm
  unfold getE
  cases hv : hasB G v with
  | false =>
    rw [hv] at HH
    rw [if_neg (by simp)]
    have HL := Lib.hid h
    clear h hok hv hm
    go_enter Try.func29, Try.ntmps29
    go_wp2_with (go_at_call 31; refine HH.out.mono ?_; rintro e w1 ⟨rfl, rfl⟩)
    exact bodyPost_ret (v := .tuple #[.int .i64 0, .bool false]) (by simp [results, Try.results29, go_sem]) rfl ⟨rfl, HL.out, Tch.refl _ _⟩
  | true =>
    rw [hv] at HH
    rw [if_pos rfl]
    obtain ⟨k, rfl, hk, hth⟩ := hasB_yes hok hv
    rw [Int.toNat_natCast]
    have e1 : ((k + 1 : Nat) : Int) = (k : Int) + 1 := by omega
    obtain ⟨st, Ps, h1, hI⟩ := h
    obtain ⟨q, R, hp, hq⟩ := hI.find (k + 1) hth
    have HSP := splay_inv w F A m st h1 G q.1 q.2 R (hI.perm hp) (k + 1) hq
    rw [e1] at HSP
    have HSP := Lib.hid HSP
    have hkm : k + 1 < m := by omega
    clear h1 hI hp hq hok hv hth e1 hm
    go_enter Try.func29, Try.ntmps29
    go_wp2_with (go_at_call 31; refine HH.out.mono ?_; rintro e w1 ⟨rfl, rfl⟩)
    go_at_call 57
    refine HSP.out.mono ?_
    rintro e w2 ⟨rfl, st2, a2, b2, h2, T2, hI2, _, _⟩
    have hw : (st2 (k + 1)).w = G.wt (k + 1) := (hI2.po (q.1, .node a2 (k + 1) b2) (by simp)).lay.1.2.2.2.2.1
    have c0 := h2.c0
    have fw := h2.at_w (k + 1) hkm
    rw [hw] at fw
    obtain ⟨hF, hA⟩ := h2.lt
    have HE := Lib.hid (show LPost w F A m G w2 from ⟨⟨st2, _, h2, hI2⟩, T2⟩)
    clear h2 T2 hI2 hw
    go_wp2_with fail
    exact bodyPost_ret (v := .tuple #[.int .i64 (G.wt (k + 1)), .bool true]) (by simp [results, Try.results29, go_sem]) rfl ⟨rfl, HE.out⟩
/-- What is at or below a node, by its outer number. -/
def subC (G : Fo) (v : Int) : Int := if hasB G v = true then G.sub (v.toNat + 1) else 0
def subW (G : Fo) (v : Int) : Int := if hasB G v = true then G.ssum (v.toNat + 1) else 0
theorem Accd.nums {w : World} {F A m : Nat} {G : Fo} {Ps : List Path} {x : Nat} {st : St} {a : T} {R : List Path} {w' : World} (h : Accd w F A m G Ps x st a R w') : (st x).vn + 1 = G.sub x ∧ (st x).vs + (st x).w = G.ssum x ∧ (st x).tn = G.sub (G.root x) ∧ InW (st x).w := by
  have hp := h.inv.po (0, .node a x .nil) (by simp)
  have hv : VN st G (a.ord ++ x :: []) := hp.vn
  obtain ⟨_, v1, v2, _⟩ := vn_append.1 hv
  have z1 : G.sub (hd []) = 0 := sub_zero h.inv.ok
  have z2 : G.ssum (hd []) = 0 := ssum_zero h.inv.ok
  obtain ⟨_, _, _, _, hw, hin, _, ht, _⟩ := hp.lay.1
  have htn : (st x).tn = tnL st (T.node a x .nil).ord := ht
  have hw' : (st x).w = G.wt x := hw
  refine ⟨by omega, by omega, ?_, ?_⟩
  · rw [htn, vn_tn h.inv.ok hp.vn]
    unfold Fo.root
    rw [← h.way]
    rfl
  · rw [hw']
    exact (hin x (by simp [T.ord])).1
theorem Sub_any (w : World) (F A m : Nat) (G : Fo) (h : LF w F A m G) (v : Int) : Calls Try.prog 23 #[.pointer (some ⟨F, 0, none⟩), .int .i64 v] w fun e w' => e = .returned (.tuple #[.int .i64 (subC G v), .int .i64 (subW G v), .bool (hasB G v)]) ∧ LPost w F A m G w' := by
  have HH := Lib.hid (has_any w F A m G h v)
  have hok := h.ok
  have hs := hok.small
  have hm := h.hm
  unfold subC subW
  cases hv : hasB G v with
  | false =>
    rw [hv] at HH
    rw [if_neg (by simp), if_neg (by simp)]
    have HL := Lib.hid h
    clear h hok hv hm
    go_enter Try.func23, Try.ntmps23
    go_wp2_with (go_at_call 31; refine HH.out.mono ?_; rintro e w1 ⟨rfl, rfl⟩)
    exact bodyPost_ret (v := .tuple #[.int .i64 0, .int .i64 0, .bool false]) (by simp [results, Try.results23, go_sem]) rfl ⟨rfl, HL.out, Tch.refl _ _⟩
  | true =>
    rw [hv] at HH
    rw [if_pos rfl, if_pos rfl]
    obtain ⟨k, rfl, hk, hth⟩ := hasB_yes hok hv
    rw [Int.toNat_natCast]
    have e1 : ((k + 1 : Nat) : Int) = (k : Int) + 1 := by omega
    have HAC := access_lf w F A m G h (k + 1) hth
    rw [e1] at HAC
    have HAC := Lib.hid HAC
    have hkm : k + 1 < m := by omega
    have hsb := sub_bd hok (k + 1)
    have hss := ssum_bd hok (k + 1)
    clear h hok hv hth e1 hm
    go_enter Try.func23, Try.ntmps23
    go_wp2_with (go_at_call 31; refine HH.out.mono ?_; rintro e w1 ⟨rfl, rfl⟩)
    go_at_call 52
    refine HAC.out.mono ?_
    rintro e w2 ⟨last, rfl, Ps2, st2, a2, R2, h2⟩
    obtain ⟨n1, n2, n3, n4⟩ := h2.nums
    have c0 := h2.fr.c0
    have fw := h2.fr.at_w (k + 1) hkm
    have fvn := h2.fr.at_vn (k + 1) hkm
    have fvs := h2.fr.at_vs (k + 1) hkm
    obtain ⟨hF, hA⟩ := h2.fr.lt
    have HE := Lib.hid (show LPost w F A m G w2 from ⟨⟨st2, _, h2.fr, h2.inv⟩, h2.tch⟩)
    generalize (st2 (k + 1)).vn = z1 at *
    generalize (st2 (k + 1)).vs = z2 at *
    generalize (st2 (k + 1)).w = z3 at *
    have b1 : 0 ≤ z1 + 1 ∧ z1 + 1 ≤ 101 := by omega
    have b2 : -111050674405376 ≤ z2 + z3 ∧ z2 + z3 ≤ 111050674405376 := by omega
    have N1 := Lib.hid n1
    have N2 := Lib.hid n2
    clear h2 n1 n2 n3 n4 hsb hss
    go_wp2_with fail
    go_quiet (fail)
    go_wp2_with fail
    exact bodyPost_ret (v := .tuple #[.int .i64 (z1 + 1), .int .i64 (z2 + z3), .bool true]) (by simp [results, Try.results23, go_sem]) rfl ⟨by rw [N1.out, N2.out], HE.out.1.quiet ((Tch.refl _ _).drewN _), HE.out.2.drewN _⟩
/-- A tree's size, by one of its nodes' outer number. -/
def sizeE (G : Fo) (v : Int) : Int := if hasB G v = true then G.sub (G.root (v.toNat + 1)) else 0
theorem Size_any (w : World) (F A m : Nat) (G : Fo) (h : LF w F A m G) (v : Int) : Calls Try.prog 16 #[.pointer (some ⟨F, 0, none⟩), .int .i64 v] w fun e w' => e = .returned (.int .i64 (sizeE G v)) ∧ LPost w F A m G w' := by
  have HH := Lib.hid (has_any w F A m G h v)
  have hok := h.ok
  have hs := hok.small
  have hm := h.hm
  unfold sizeE
  cases hv : hasB G v with
  | false =>
    rw [hv] at HH
    rw [if_neg (by simp)]
    have HL := Lib.hid h
    clear h hok hv hm
    go_enter Try.func16, Try.ntmps16
    go_wp2_with (go_at_call 31; refine HH.out.mono ?_; rintro e w1 ⟨rfl, rfl⟩)
    go_ret
    exact ⟨rfl, HL.out, Tch.refl _ _⟩
  | true =>
    rw [hv] at HH
    rw [if_pos rfl]
    obtain ⟨k, rfl, hk, hth⟩ := hasB_yes hok hv
    rw [Int.toNat_natCast]
    have e1 : ((k + 1 : Nat) : Int) = (k : Int) + 1 := by omega
    have HAC := access_lf w F A m G h (k + 1) hth
    rw [e1] at HAC
    have HAC := Lib.hid HAC
    have hkm : k + 1 < m := by omega
    clear h hok hv hth e1 hm
    go_enter Try.func16, Try.ntmps16
    go_wp2_with (go_at_call 31; refine HH.out.mono ?_; rintro e w1 ⟨rfl, rfl⟩)
    go_at_call 52
    refine HAC.out.mono ?_
    rintro e w2 ⟨last, rfl, Ps2, st2, a2, R2, h2⟩
    obtain ⟨n1, n2, n3, n4⟩ := h2.nums
    have c0 := h2.fr.c0
    have ft := h2.fr.at_tn (k + 1) hkm
    rw [n3] at ft
    obtain ⟨hF, hA⟩ := h2.fr.lt
    have HE := Lib.hid (show LPost w F A m G w2 from ⟨⟨st2, _, h2.fr, h2.inv⟩, h2.tch⟩)
    clear h2 n1 n2 n3 n4
    go_wp2_with fail
    go_ret
    exact ⟨rfl, HE.out⟩
theorem Size_nil (w : World) (v : Int) : Calls Try.prog 16 #[.pointer none, .int .i64 v] w fun e w' => e = .returned (.int .i64 0) ∧ w = w' := by
  go_enter Try.func16, Try.ntmps16
  go_wp2_with (go_at_call 31; refine (has_nil _ _).mono ?_; rintro e w1 ⟨rfl, rfl⟩)
  go_ret
  exact ⟨rfl, rfl⟩
end Go.Proofs.Ytaipladbgdcedaa
