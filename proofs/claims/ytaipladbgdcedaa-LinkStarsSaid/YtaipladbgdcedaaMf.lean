/- The walks of Link, Cut and Drop. No condition of its own. -/
import Derived.Test.YtaipladbgdcedaaMe
set_option linter.unusedSimpArgs false
set_option linter.unusedVariables false
namespace Go.Proofs.Ytaipladbgdcedaa
open Go.RowKit

theorem countP_add {p q r : Nat → Bool} : ∀ (l : List Nat), (∀ u ∈ l, ¬ (p u = true ∧ q u = true)) → (∀ u ∈ l, r u = true ↔ (p u = true ∨ q u = true)) → (l.countP r : Int) = (l.countP p : Int) + (l.countP q : Int) := by
  intro l
  induction l with
  | nil => intro _ _; rfl
  | cons a l ih =>
    intro h1 h2
    have k := ih (fun u hu => h1 u (List.mem_cons_of_mem _ hu)) (fun u hu => h2 u (List.mem_cons_of_mem _ hu))
    have a1 := h1 a (by simp)
    have a2 := h2 a (by simp)
    rw [List.countP_cons, List.countP_cons, List.countP_cons]
    by_cases hq : q a = true
    · have hp : ¬ p a = true := fun hp => a1 ⟨hp, hq⟩
      rw [if_pos hq, if_neg hp, if_pos (a2.2 (.inr hq))]; omega
    · by_cases hp : p a = true
      · rw [if_neg hq, if_pos hp, if_pos (a2.2 (.inl hp))]; omega
      · have hr : ¬ r a = true := fun hr => by
          rcases a2.1 hr with g | g
          · exact hp g
          · exact hq g
        rw [if_neg hq, if_neg hp, if_neg hr]; omega
theorem sumIf_add {p q r : Nat → Bool} {g : Nat → Int} : ∀ (l : List Nat), (∀ u ∈ l, ¬ (p u = true ∧ q u = true)) → (∀ u ∈ l, r u = true ↔ (p u = true ∨ q u = true)) → sumIf r g l = sumIf p g l + sumIf q g l := by
  intro l
  induction l with
  | nil => intro _ _; rfl
  | cons a l ih =>
    intro h1 h2
    have k := ih (fun u hu => h1 u (List.mem_cons_of_mem _ hu)) (fun u hu => h2 u (List.mem_cons_of_mem _ hu))
    have a1 := h1 a (by simp)
    have a2 := h2 a (by simp)
    unfold sumIf
    by_cases hq : q a = true
    · have hp : ¬ p a = true := fun hp => a1 ⟨hp, hq⟩
      rw [if_pos hq, if_neg hp, if_pos (a2.2 (.inr hq))]; omega
    · by_cases hp : p a = true
      · rw [if_neg hq, if_pos hp, if_pos (a2.2 (.inl hp))]; omega
      · have hr : ¬ r a = true := fun hr => by
          rcases a2.1 hr with g | g
          · exact hp g
          · exact hq g
        rw [if_neg hq, if_neg hp, if_neg hr]; omega
/-- A root below a node. -/
def Fo.link (G : Fo) (c p : Nat) : Fo := { G with up := fun u => if u = c then p else G.up u }
structure LkOk (G : Fo) (c p : Nat) : Prop where
  ok : FoOk G
  tc : G.th c = true
  tp : G.th p = true
  r : G.up c = 0
  n : c ∉ G.above p
section
variable {G : Fo} {c p : Nat}
theorem lk_off (Q W : List Nat) : ∀ (P : List Nat) (v : Nat), c ∉ P → Up G.up v (P ++ Q) → (∀ t, Up G.up t Q → Up (G.link c p).up t W) → Up (G.link c p).up v (P ++ W) := by
  intro P
  induction P with
  | nil => intro v _ hu hw; exact hw v hu
  | cons a P ih =>
    intro v hp hu hw
    obtain ⟨rfl, h1, h2⟩ := hu
    refine ⟨rfl, h1, ?_⟩
    have e : (G.link c p).up a = G.up a := by
      show (if a = c then p else G.up a) = _
      rw [if_neg (fun e => hp (by simp [e]))]
    rw [e]
    exact ih _ (fun hu => hp (List.mem_cons_of_mem _ hu)) h2 hw
theorem lk_way (h : LkOk G c p) (u : Nat) (hu : G.th u = true) : Up (G.link c p).up u (if c ∈ G.above u then G.above u ++ G.above p else G.above u) := by
  obtain ⟨hU, _⟩ := h.ok.above u hu
  have none : ∀ v, G.th v = true → c ∉ G.above v → Up (G.link c p).up v (G.above v) := by
    intro v hv hc
    have := lk_off (G := G) (c := c) (p := p) [] [] (G.above v) v hc (by simpa using (h.ok.above v hv).1) (fun t ht => ht)
    simpa using this
  by_cases hc : c ∈ G.above u
  · rw [if_pos hc]
    obtain ⟨l1, l2, e1, e2⟩ := up_suffix hU c hc
    have hl2 : l2 = [] := by
      have h3 : Up G.up (G.up c) l2 := e2.2.2
      rw [h.r] at h3
      cases l2 with
      | nil => rfl
      | cons b l2 => exact absurd rfl h3.2.1
    subst hl2
    have hn := up_nodup hU
    rw [e1] at hn
    have hcl : c ∉ l1 := fun k => (List.nodup_append.1 hn).2.2 c k c (by simp) rfl
    have := lk_off (G := G) (c := c) (p := p) [c] (c :: G.above p) l1 u hcl (by rw [← e1]; exact hU) (fun t ht => by
      obtain ⟨rfl, h1, _⟩ := ht
      refine ⟨rfl, h1, ?_⟩
      have e3 : (G.link c p).up c = p := by
        show (if c = c then p else G.up c) = p
        rw [if_pos rfl]
      rw [e3]
      exact none p h.tp h.n)
    rw [e1]
    simpa using this
  · rw [if_neg hc]
    exact none u hu hc
theorem lk_ok (h : LkOk G c p) : FoOk (G.link c p) := by
  refine ⟨h.ok.rng, fun v hv => ?_, fun v hv hp => ?_, h.ok.wts, fun v hv => ?_, h.ok.small⟩
  · refine ⟨_, lk_way h v hv, ?_⟩
    refine way_len (G := G) h.ok (lk_way h v hv) (fun w hw => ?_)
    split at hw
    · rcases List.mem_append.1 hw with e | e
      · exact h.ok.mem_th v w hv e
      · exact h.ok.mem_th p w h.tp e
    · exact h.ok.mem_th v w hv hw
  · have hp' : (if v = c then p else G.up v) ≠ 0 := hp
    show G.th (if v = c then p else G.up v) = true
    by_cases e : v = c
    · rw [if_pos e]; exact h.tp
    · rw [if_neg e] at hp' ⊢; exact h.ok.par v hv hp'
  · have e : v ≠ c := fun e => by
      have hv' : G.th v = false := hv
      rw [e, h.tc] at hv'; cases hv'
    show (if v = c then p else G.up v) = 0
    rw [if_neg e]
    exact h.ok.off v hv
theorem lk_above (h : LkOk G c p) (u : Nat) (hu : G.th u = true) : (G.link c p).above u = if c ∈ G.above u then G.above u ++ G.above p else G.above u :=
  up_one ((lk_ok h).above u hu).1 (lk_way h u hu)
/-- No node is above the new parent and above one of the new kid's tree. -/
theorem lk_apart (h : LkOk G c p) (u v : Nat) (hu : G.th u = true) (hc : c ∈ G.above u) (hv : v ∈ G.above u) : v ∉ G.above p := by
  intro hvp
  obtain ⟨l1, l2, e1, e2⟩ := up_suffix (h.ok.above u hu).1 v hv
  have hvt := h.ok.mem_th u v hu hv
  have hav := up_one (h.ok.above v hvt).1 e2
  have hcv : c ∈ G.above v := by
    obtain ⟨m1, m2, f1, f2⟩ := up_suffix (h.ok.above u hu).1 c hc
    have hm2 : m2 = [] := by
      have h3 : Up G.up (G.up c) m2 := f2.2.2
      rw [h.r] at h3
      cases m2 with
      | nil => rfl
      | cons b m2 => exact absurd rfl h3.2.1
    subst hm2
    rw [hav]
    rcases List.eq_nil_or_concat l2 with g | ⟨m3, d, g⟩
    · subst g
      have := List.append_inj' (e1.symm.trans f1) rfl
      have h5 : v = c := by simpa using this.2
      simp [h5]
    · rw [List.concat_eq_append] at g
      subst g
      have h6 : (l1 ++ v :: m3) ++ [d] = m1 ++ [c] := by rw [← f1, e1]; simp
      have h5 : d = c := by simpa using (List.append_inj' h6 rfl).2
      simp [h5]
  exact h.n (h.ok.trans p v c h.tp hvp hcv)
theorem lk_below (h : LkOk G c p) (v u : Nat) : isBelow (G.link c p) v u = true ↔ (isBelow G v u = true ∨ (v ∈ G.above p ∧ isBelow G c u = true)) := by
  rw [isBelow_iff, isBelow_iff, isBelow_iff]
  show (G.th u = true ∧ _) ↔ _
  constructor
  · rintro ⟨a, b⟩
    rw [lk_above h u a] at b
    by_cases hc : c ∈ G.above u
    · rw [if_pos hc] at b
      rcases List.mem_append.1 b with e | e
      · exact .inl ⟨a, e⟩
      · exact .inr ⟨e, a, hc⟩
    · rw [if_neg hc] at b
      exact .inl ⟨a, b⟩
  · rintro (⟨a, b⟩ | ⟨a, b, d⟩)
    · refine ⟨a, ?_⟩
      rw [lk_above h u a]
      split
      · exact List.mem_append.2 (.inl b)
      · exact b
    · refine ⟨b, ?_⟩
      rw [lk_above h u b, if_pos d]
      exact List.mem_append.2 (.inr a)
theorem lk_sub (h : LkOk G c p) (v : Nat) : (G.link c p).sub v = G.sub v + (if v ∈ G.above p then G.sub c else 0) ∧ (G.link c p).ssum v = G.ssum v + (if v ∈ G.above p then G.ssum c else 0) := by
  by_cases hv : v ∈ G.above p
  · rw [if_pos hv, if_pos hv]
    have d : ∀ u, ¬ (isBelow G v u = true ∧ isBelow G c u = true) := fun u ⟨a, b⟩ => by
      obtain ⟨a1, a2⟩ := (isBelow_iff G v u).1 a
      obtain ⟨_, b2⟩ := (isBelow_iff G c u).1 b
      exact lk_apart h u v a1 b2 a2 hv
    have e : ∀ u, isBelow (G.link c p) v u = true ↔ (isBelow G v u = true ∨ isBelow G c u = true) := fun u => by
      rw [lk_below h]
      constructor
      · rintro (k | k)
        · exact .inl k
        · exact .inr k.2
      · rintro (k | k)
        · exact .inl k
        · exact .inr ⟨hv, k⟩
    exact ⟨countP_add _ (fun u _ => d u) (fun u _ => e u), sumIf_add _ (fun u _ => d u) (fun u _ => e u)⟩
  · rw [if_neg hv, if_neg hv, Int.add_zero, Int.add_zero]
    have e : ∀ u, isBelow (G.link c p) v u = isBelow G v u := fun u => by
      rw [Bool.eq_iff_iff, lk_below h]
      constructor
      · rintro (k | k)
        · exact k
        · exact absurd k.1 hv
      · exact .inl
    refine ⟨?_, sumIf_congr _ (fun u _ => ⟨e u, fun _ => rfl⟩)⟩
    unfold Fo.sub
    congr 1
    exact List.countP_congr (fun u _ => by rw [e u])
end
end Go.Proofs.Ytaipladbgdcedaa
namespace Go.Proofs.Ytaipladbgdcedaa
open Go.RowKit

theorem vn_grow {st st' : St} {G G' : Fo} {x : Nat} {d1 d2 : Int} (z1 : G'.ssum 0 = 0) (z2 : G.ssum 0 = 0) (z3 : G'.sub 0 = 0) (z4 : G.sub 0 = 0) (hw : ∀ v, G'.wt v = G.wt v) : ∀ (l : List Nat), (∀ v ∈ l ++ [x], G'.sub v = G.sub v + d1 ∧ G'.ssum v = G.ssum v + d2) → (∀ v ∈ l, (st' v).vn = (st v).vn ∧ (st' v).vs = (st v).vs) →
    (st' x).vn = (st x).vn + d1 → (st' x).vs = (st x).vs + d2 → VN st G (l ++ [x]) → VN st' G' (l ++ [x]) := by
  intro l
  induction l with
  | nil =>
    intro h _ hx1 hx2 k
    obtain ⟨k1, k2, _⟩ := k
    obtain ⟨a3, a4⟩ := h x (by simp)
    have z5 : G.ssum (hd []) = 0 := z2
    have z6 : G'.ssum (hd []) = 0 := z1
    have z7 : G.sub (hd []) = 0 := z4
    have z8 : G'.sub (hd []) = 0 := z3
    exact ⟨by rw [hx1, k1, a3, z7, z8]; omega, by rw [hx2, k2, a4, hw, z5, z6]; omega, trivial⟩
  | cons a l ih =>
    intro h hs hx1 hx2 k
    have k' : (st a).vn = G.sub a - 1 - G.sub (hd (l ++ [x])) ∧ (st a).vs = G.ssum a - G.wt a - G.ssum (hd (l ++ [x])) ∧ VN st G (l ++ [x]) := k
    obtain ⟨k1, k2, k3⟩ := k'
    obtain ⟨a3, a4⟩ := h a (by simp)
    have hm : hd (l ++ [x]) ∈ l ++ [x] := by
      cases l with
      | nil => simp [hd]
      | cons b l => simp [hd]
    obtain ⟨b3, b4⟩ := h _ (List.mem_cons_of_mem _ hm)
    have hi := ih (fun v hv => h v (List.mem_cons_of_mem _ hv)) (fun v hv => hs v (List.mem_cons_of_mem _ hv)) hx1 hx2 k3
    show (st' a).vn = G'.sub a - 1 - G'.sub (hd (l ++ [x])) ∧ (st' a).vs = G'.ssum a - G'.wt a - G'.ssum (hd (l ++ [x])) ∧ VN st' G' (l ++ [x])
    refine ⟨by rw [(hs a (by simp)).1, k1, a3, b3]; omega, by rw [(hs a (by simp)).2, k2, a4, b4, hw]; omega, hi⟩
theorem dn_lk {G : Fo} {c p : Nat} : ∀ {l : List Nat} {q : Nat}, c ∉ l → Dn G.up q l → Dn (G.link c p).up q l := by
  intro l
  induction l with
  | nil => intro q _ _; trivial
  | cons v l ih =>
    intro q hn hd'
    refine ⟨?_, ih (fun e => hn (List.mem_cons_of_mem _ e)) hd'.2⟩
    have e3 : (G.link c p).up v = G.up v := by
      show (if v = c then p else G.up v) = _
      rw [if_neg (fun e => hn (by simp [e]))]
    rw [e3]
    exact hd'.1
def lkN1 (st : St) (c p : Nat) : St := st.upd c { st c with p := p }
def lkN2 (st : St) (c p : Nat) : St := st.upd p { st p with vn := wrap64 ((st p).vn + (st c).tn), vs := wrap64 ((st p).vs + (st c).ts) }
section
variable {G : Fo} {c p : Nat}
set_option maxHeartbeats 1000000 in
theorem inv_link {m : Nat} {st : St} {a : T} {R : List Path} (hI : Inv m st G ((0, .node a p .nil) :: (0, .node .nil c .nil) :: R)) (h : LkOk G c p) (hw : a.ord ++ [p] = (G.above p).reverse) (cy : Cln st p) :
    Inv m (pullF (lkN2 (lkN1 st c p) c p) p) (G.link c p) ((0, .node a p .nil) :: (p, .node .nil c .nil) :: R) ∧ (st p).l = a.rt ∧ (st p).r = 0 := by
  have hok := h.ok
  have ok' := lk_ok h
  have hp := hI.po (0, .node a p .nil) (by simp)
  have hc := hI.po (0, .node .nil c .nil) (by simp)
  obtain ⟨⟨p0, pp, pl, pr, pw, _⟩, ha, _⟩ := hp.lay
  simp only [Bool.false_eq_true, if_false] at pl pr
  rw [cy.1, cy.2] at ha
  have ha : Lay st G.wt false p a := lay_g (g' := G.wt) (fun v => (Int.sub_zero _).symm) ha
  have c0 : c ≠ 0 := hok.nz c h.tc
  have hcp : c ≠ p := fun e => h.n (by rw [e]; exact hok.self p h.tp)
  -- what the kid's tree has
  obtain ⟨tc, sc⟩ := lay_tot hI.bd.zero hc.lay
  rw [vn_tn hok hc.vn] at tc
  rw [vn_ts hok hc.vn] at sc
  have tc : (st c).tn = G.sub c := tc
  have sc : (st c).ts = G.ssum c := sc
  obtain ⟨_, v1, v2, _⟩ := vn_append.1 (show VN st G (a.ord ++ p :: []) from hp.vn)
  have zs : G.sub (hd []) = 0 := sub_zero hok
  have zss : G.ssum (hd []) = 0 := ssum_zero hok
  rw [zs] at v1
  rw [zss] at v2
  have sp := sub_bd hok p
  have scb := sub_bd hok c
  have ssp := ssum_bd hok p
  have ssc := ssum_bd hok c
  have wp := hok.wts p h.tp
  unfold InW at wp
  have sp1 := sub_self hok p h.tp
  obtain ⟨s1, hs1⟩ : ∃ s1, s1 = lkN1 st c p := ⟨_, rfl⟩
  obtain ⟨s2, hs2⟩ : ∃ s2, s2 = lkN2 s1 c p := ⟨_, rfl⟩
  rw [← hs1, ← hs2]
  have e1c : s1 c = { st c with p := p } := by rw [hs1]; exact St.upd_same _ _ _
  have e1 : ∀ v, v ≠ c → s1 v = st v := fun v hv => by rw [hs1]; exact St.upd_ne _ _ _ _ hv
  have e2p : s2 p = { st p with vn := (st p).vn + G.sub c, vs := (st p).vs + G.ssum c } := by
    have : s2 p = { s1 p with vn := wrap64 ((s1 p).vn + (s1 c).tn), vs := wrap64 ((s1 p).vs + (s1 c).ts) } := by rw [hs2]; exact St.upd_same _ _ _
    rw [this, e1 p (fun e => hcp e.symm), e1c]
    simp only []
    rw [tc, sc, wrap_id (by omega), wrap_id (by omega)]
  have e2 : ∀ v, v ≠ p → s2 v = s1 v := fun v hv => by rw [hs2]; exact St.upd_ne _ _ _ _ hv
  have e2c : s2 c = { st c with p := p } := by rw [e2 c hcp, e1c]
  have bd2 : Bd s2 := by
    refine ⟨fun v => ?_, fun v => ?_, ?_⟩
    · by_cases e : v = p
      · subst e; rw [e2p]; simp only []; omega
      · by_cases e' : v = c
        · subst e'; rw [e2c]; exact hI.bd.vn v
        · rw [e2 v e, e1 v e']; exact hI.bd.vn v
    · by_cases e : v = p
      · subst e; rw [e2p]; simp only []; omega
      · by_cases e' : v = c
        · subst e'; rw [e2c]; exact hI.bd.vs v
        · rw [e2 v e, e1 v e']; exact hI.bd.vs v
    · rw [e2 0 (fun e => p0 e.symm), e1 0 (fun e => c0 e.symm)]; exact hI.bd.zero
  have hnd := hI.nd
  rw [nodes_cons] at hnd
  have n1 : (T.node a p .nil).ord.Nodup := (List.nodup_append.1 hnd).1
  have hap := hI.apart
  have hca : c ∉ a.ord := fun e => hap c (by simp [T.ord, e]) (by rw [nodes_cons]; simp [T.ord])
  obtain ⟨_, _, pa, _, _⟩ := node_split n1
  have same : ∀ v, v ≠ p → v ≠ c → pullF s2 p v = st v := fun v h1 h2 => by rw [pull_ne _ _ _ h1, e2 v h1, e1 v h2]
  have fc : pullF s2 p c = { st c with p := p } := by rw [pull_ne _ _ _ hcp, e2c]
  have fp : pullF s2 p p = pullN (s2 p) (s2 (s2 p).l) (s2 (s2 p).r) := St.upd_same _ _ _
  have fpv : (pullF s2 p p).vn = (st p).vn + G.sub c ∧ (pullF s2 p p).vs = (st p).vs + G.ssum c := by
    have k1 : (pullF s2 p p).vn = (s2 p).vn := by rw [fp]; rfl
    have k2 : (pullF s2 p p).vs = (s2 p).vs := by rw [fp]; rfl
    rw [k1, k2, e2p]
    exact ⟨rfl, rfl⟩
  have LP : Lay (pullF s2 p) (G.link c p).wt false 0 (.node a p .nil) :=
    lay_pull n1 bd2 hI.sb.len p0 (by rw [e2p]; exact pp) (by rw [e2p]; exact pl) (by rw [e2p]; exact pr) (by rw [e2p]; exact pw) wp (by rw [e2p]; exact cy.1) (by rw [e2p]; exact cy.2)
      (lay_congr (fun v hv => by rw [e2 v (fun e => pa (e ▸ hv)), e1 v (fun e => hca (e ▸ hv))]) (fun _ _ => rfl) ha) trivial
  have inA : ∀ v, v ∈ a.ord ++ [p] ↔ v ∈ G.above p := fun v => by rw [hw]; simp
  have en : nodes ((0, T.node a p .nil) :: (p, T.node .nil c .nil) :: R) = nodes ((0, T.node a p .nil) :: (0, T.node .nil c .nil) :: R) := by simp [nodes]
  have hcn : ∀ q ∈ R, ∀ v ∈ q.2.ord, v ≠ c ∧ v ∉ a.ord ++ [p] := by
    intro q hq v hv
    refine ⟨fun e => ?_, fun e => ?_⟩
    · have h2 := (List.nodup_append.1 hnd).2.1
      rw [nodes_cons] at h2
      exact (List.nodup_append.1 h2).2.2 c (by simp [T.ord]) v (List.mem_flatMap.2 ⟨q, hq, hv⟩) e.symm
    · refine hap v ?_ (by rw [nodes_cons]; exact List.mem_append.2 (.inr (List.mem_flatMap.2 ⟨q, hq, hv⟩)))
      show v ∈ a.ord ++ p :: []
      exact e
  refine ⟨⟨fun q hq => ?_, by rw [en]; exact hI.nd, fun v => by rw [en]; exact hI.cov v, fun v => ?_, fun v hv => ?_, (sv_pull s2 p p0).bd bd2, ok', hI.m⟩, pl, pr⟩
  · rcases List.mem_cons.1 hq with e | e
    · subst e
      refine ⟨LP, p0, dn_lk (fun e => ?_) hp.dn, ?_⟩
      · have e' : c ∈ a.ord ++ [p] := e
        rcases List.mem_append.1 e' with g | g
        · exact hca g
        · exact hcp (by simpa using g)
      · show VN (pullF s2 p) (G.link c p) (a.ord ++ [p])
        refine vn_grow (d1 := G.sub c) (d2 := G.ssum c) (ssum_zero ok') (ssum_zero hok) (sub_zero ok') (sub_zero hok) (fun _ => rfl) a.ord (fun v hv => ?_) (fun v hv => ?_) fpv.1 fpv.2 hp.vn
        · obtain ⟨k1, k2⟩ := lk_sub h v
          rw [if_pos ((inA v).1 hv)] at k1 k2
          exact ⟨k1, k2⟩
        · rw [same v (fun e => pa (e ▸ hv)) (fun e => hca (e ▸ hv))]
          exact ⟨rfl, rfl⟩
    · rcases List.mem_cons.1 e with e | e
      · subst e
        obtain ⟨k1, k2⟩ := lk_sub h c
        rw [if_neg h.n, Int.add_zero] at k1 k2
        refine ⟨?_, c0, ⟨?_, trivial⟩, ⟨?_, ?_, trivial⟩⟩
        · exact lay_top (st := st) (by simp [T.ord]) (fun v hv hne => absurd (by simpa [T.ord] using hv) hne) (by rw [fc]) hc.lay
        · show (if c = c then p else G.up c) = p
          rw [if_pos rfl]
        · obtain ⟨j1, _, _⟩ := hc.vn
          show (pullF s2 p c).vn = (G.link c p).sub c - 1 - (G.link c p).sub 0
          rw [fc, k1, sub_zero ok']
          have j1' : (st c).vn = G.sub c - 1 - G.sub 0 := j1
          rw [sub_zero hok] at j1'
          exact j1'
        · obtain ⟨_, j2, _⟩ := hc.vn
          show (pullF s2 p c).vs = (G.link c p).ssum c - G.wt c - (G.link c p).ssum 0
          rw [fc, k2, ssum_zero ok']
          have j2' : (st c).vs = G.ssum c - G.wt c - G.ssum 0 := j2
          rw [ssum_zero hok] at j2'
          exact j2'
      · have k := hI.po q (List.mem_cons_of_mem _ (List.mem_cons_of_mem _ e))
        have hv : ∀ v ∈ q.2.ord, pullF s2 p v = st v := fun v hv => by
          obtain ⟨w1, w2⟩ := hcn q e v hv
          exact same v (fun e' => w2 (by simp [e'])) w1
        refine ⟨lay_congr hv (fun _ _ => rfl) k.lay, k.ne, dn_lk (fun e' => (hcn q e c e').1 rfl) k.dn, vn_congrG (G := G) (G' := G.link c p) (fun v h' => ?_) (by rw [sub_zero ok', sub_zero hok]) (by rw [ssum_zero ok', ssum_zero hok]) k.vn⟩
        obtain ⟨k1, k2⟩ := lk_sub h v
        have hva : v ∉ G.above p := fun e' => (hcn q e v h').2 ((inA v).2 e')
        rw [if_neg hva, Int.add_zero] at k1 k2
        rw [hv v h', k1, k2, sub_zero ok', sub_zero hok, ssum_zero ok', ssum_zero hok]
        exact ⟨rfl, rfl, rfl, rfl, rfl⟩
  · show _ = G.th v
    by_cases e : v = p
    · subst e
      have k : (pullF s2 v v).th = (s2 v).th := by rw [fp]; rfl
      rw [k, e2p]; exact hI.th v
    · by_cases e' : v = c
      · subst e'; rw [fc]; exact hI.th v
      · rw [same v e e']; exact hI.th v
  · have hv' : G.th v = false := hv
    rw [same v (fun e => by rw [e, h.tp] at hv'; cases hv') (fun e => by rw [e, h.tc] at hv'; cases hv')]
    exact hI.off v hv'
end
end Go.Proofs.Ytaipladbgdcedaa
namespace Go.Proofs.Ytaipladbgdcedaa
open Go.RowKit

/-- May the one become the other's kid? -/
def linkOk (G : Fo) (c p : Int) : Bool := hasB G c && hasB G p && decide (parE G c < 0) && !sameB G c p
def linkG (G : Fo) (c p : Int) : Fo := if linkOk G c p = true then G.link (c.toNat + 1) (p.toNat + 1) else G
theorem link_lk {G : Fo} (h : FoOk G) {c p : Int} (hl : linkOk G c p = true) : ∃ i j : Nat, c = (i : Int) ∧ p = (j : Int) ∧ LkOk G (i + 1) (j + 1) := by
  unfold linkOk at hl
  rw [Bool.and_eq_true, Bool.and_eq_true, Bool.and_eq_true, decide_eq_true_eq] at hl
  obtain ⟨⟨⟨h1, h2⟩, h3⟩, h4⟩ := hl
  obtain ⟨i, rfl, hi, hi2⟩ := hasB_yes h h1
  obtain ⟨j, rfl, hj, hj2⟩ := hasB_yes h h2
  have hup : G.up (i + 1) = 0 := by
    unfold parE at h3
    rw [if_pos h1, Int.toNat_natCast] at h3
    omega
  refine ⟨i, j, rfl, rfl, h, hi2, hj2, hup, fun hc => ?_⟩
  have hr1 : G.root (i + 1) = i + 1 := by
    unfold Fo.root
    rw [h.above_cons _ hi2, hup, h.above0]
    rfl
  obtain ⟨l1, l2, e1, e2⟩ := up_suffix (h.above (j + 1) hj2).1 (i + 1) hc
  have hl2 : l2 = [] := by
    have h5 : Up G.up (G.up (i + 1)) l2 := e2.2.2
    rw [hup] at h5
    cases l2 with
    | nil => rfl
    | cons b l2 => exact absurd rfl h5.2.1
  subst hl2
  have hr2 : G.root (j + 1) = i + 1 := by
    unfold Fo.root
    rw [e1]
    simp [hd]
  have : sameB G i j = true := by
    unfold sameB rootE
    rw [h1, h2, if_pos rfl, if_pos rfl, Int.toNat_natCast, Int.toNat_natCast, hr1, hr2]
    simp
  rw [this] at h4
  cases h4
set_option maxRecDepth 100000 in
theorem link_no (w : World) (F A m : Nat) (G : Fo) (h : LF w F A m G) (c p : Int) (hv : linkOk G c p = false) : Calls Try.prog 27 #[.pointer (some ⟨F, 0, none⟩), .int .i64 c, .int .i64 p] w fun e w' => e = .returned (.bool false) ∧ LPost w F A m G w' := by
  have HC := Lib.hid (has_any w F A m G h c)
  have HP := Lib.hid (has_any w F A m G h p)
  have HPA := Lib.hid (Parent_any w F A m G h c)
  have HS := Lib.hid (fun w2 (h2 : LF w2 F A m G) => Same_any w2 F A m G h2 c p)
  have HL := Lib.hid h
  unfold linkOk at hv
  cases h1 : hasB G c with
  | false =>
    rw [h1] at HC
    clear h h1 hv
    go_enter Try.func27, Try.ntmps27
    go_wp2_with (go_at_call 31; refine HC.out.mono ?_; rintro e w1 ⟨rfl, rfl⟩)
    go_ret
    exact ⟨rfl, HL.out, Tch.refl _ _⟩
  | true =>
    rw [h1] at HC hv
    cases h2 : hasB G p with
    | false =>
      rw [h2] at HP
      clear h h1 h2 hv
      go_enter Try.func27, Try.ntmps27
      go_wp2_with fail
      go_at_call 31
      refine HC.out.mono ?_
      rintro e w1 ⟨rfl, rfl⟩
      go_wp2_with fail
      go_at_call 31
      refine HP.out.mono ?_
      rintro e w1 ⟨rfl, rfl⟩
      go_wp2_with fail
      go_ret
      exact ⟨rfl, HL.out, Tch.refl _ _⟩
    | true =>
      rw [h2] at HP hv
      simp only [Bool.true_and] at hv
      generalize parE G c = z at *
      by_cases h3 : z < 0
      · rw [decide_eq_true_iff.2 h3, Bool.true_and] at hv
        have hs : sameB G c p = true := by simpa using hv
        rw [hs] at HS
        have hz : decide (0 ≤ z) = false := decide_eq_false_iff_not.2 (by omega)
        clear h h1 h2 hv h3 hs
        go_enter Try.func27, Try.ntmps27
        go_wp2_with fail
        go_at_call 31
        refine HC.out.mono ?_
        rintro e w1 ⟨rfl, rfl⟩
        go_wp2_with fail
        go_at_call 31
        refine HP.out.mono ?_
        rintro e w1 ⟨rfl, rfl⟩
        go_wp2_with fail
        go_at_call 21
        refine HPA.out.mono ?_
        rintro e w2 ⟨rfl, k2⟩
        have H2 := Lib.hid k2
        clear k2
        go_wp2_with fail
        go_at_call 17
        refine (HS.out w2 H2.out.1).mono ?_
        rintro e w3 ⟨rfl, k3⟩
        have H3 := Lib.hid k3
        clear k3
        go_wp2_with fail
        go_ret
        exact ⟨rfl, H2.out.trans H3.out⟩
      · have hz : decide (0 ≤ z) = true := decide_eq_true_iff.2 (by omega)
        clear h h1 h2 hv h3
        go_enter Try.func27, Try.ntmps27
        go_wp2_with fail
        go_at_call 31
        refine HC.out.mono ?_
        rintro e w1 ⟨rfl, rfl⟩
        go_wp2_with fail
        go_at_call 31
        refine HP.out.mono ?_
        rintro e w1 ⟨rfl, rfl⟩
        go_wp2_with fail
        go_at_call 21
        refine HPA.out.mono ?_
        rintro e w2 ⟨rfl, k2⟩
        have H2 := Lib.hid k2
        clear k2
        go_wp2_with fail
        go_ret
        exact ⟨rfl, H2.out⟩
def Lkd (w : World) (F A m : Nat) (G : Fo) (c p : Nat) (e : Ending) (w' : World) : Prop := ∃ last : Nat, e = .returned (.int .i64 last) ∧ ∃ st a R, FR w' F A m st ∧ Tch [A] w w' ∧ Inv m st G ((0, .node a p .nil) :: (0, .node .nil c .nil) :: R) ∧ a.ord ++ [p] = (G.above p).reverse ∧ Cln st p
/-- Behind the second access the first one's node is still by itself. -/
theorem link_two (w0 w : World) (F A m : Nat) (G : Fo) (c p : Nat) (h : LkOk G c p) (Ps : List Path) (st : St) (a : T) (R : List Path) (hA : Accd w0 F A m G Ps c st a R w) : Calls Try.prog 52 #[.pointer (some ⟨F, 0, none⟩), .int .i64 p] w (Lkd w F A m G c p) := by
  have hac : G.above c = [c] := by rw [h.ok.above_cons c h.tc, h.r, h.ok.above0]
  have ha : a = .nil := by
    have hw := hA.way
    rw [hac] at hw
    cases a with
    | nil => rfl
    | node l x r =>
      exfalso
      have := congrArg List.length hw
      simp only [T.ord, List.length_append, List.length_cons, List.length_nil, List.length_reverse] at this
      omega
  subst ha
  obtain ⟨tq, hq1, hq2⟩ := hA.inv.rootp p h.tp
  refine (access_any w F A m st hA.fr G _ hA.inv p h.tp tq hq1 hq2).mono ?_
  rintro e w' ⟨last, rfl, _, st4, a4, R4, h4⟩
  have hk := h4.keep (0, .node .nil c .nil) (by simp) (fun v hv => by
    have : v = c := by simpa [T.ord] using hv
    rw [this]; exact h.n)
  obtain ⟨l1, l2, e⟩ := List.append_of_mem hk
  refine ⟨last, rfl, st4, a4, l1 ++ l2, h4.fr, h4.tch, h4.inv.perm ?_, h4.way, h4.cln⟩
  rw [e]
  exact List.Perm.cons _ List.perm_middle
set_option maxRecDepth 100000 in
set_option maxHeartbeats 4000000 in
theorem link_yes (w : World) (F A m : Nat) (G : Fo) (h : LF w F A m G) (i j : Nat) (hv : linkOk G i j = true) (hk : LkOk G (i + 1) (j + 1)) : Calls Try.prog 27 #[.pointer (some ⟨F, 0, none⟩), .int .i64 i, .int .i64 j] w fun e w' => e = .returned (.bool true) ∧ LPost w F A m (G.link (i + 1) (j + 1)) w' := by
  have HC := has_any w F A m G h i
  have HP := has_any w F A m G h j
  have HPA := Parent_any w F A m G h i
  have HS := fun w2 (h2 : LF w2 F A m G) => Same_any w2 F A m G h2 i j
  unfold linkOk at hv
  rw [Bool.and_eq_true, Bool.and_eq_true, Bool.and_eq_true, decide_eq_true_eq] at hv
  obtain ⟨⟨⟨h1, h2⟩, h3⟩, h4⟩ := hv
  rw [h1] at HC
  rw [h2] at HP
  have h4' : sameB G i j = false := by simpa using h4
  rw [h4'] at HS
  have e1 : ((i + 1 : Nat) : Int) = (i : Int) + 1 := by omega
  have e2 : ((j + 1 : Nat) : Int) = (j : Int) + 1 := by omega
  have HAC := fun w2 (h2 : LF w2 F A m G) => access_lf w2 F A m G h2 (i + 1) hk.tc
  rw [e1] at HAC
  have H2A := fun w0 w2 Ps st a R (hA : Accd w0 F A m G Ps (i + 1) st a R w2) => link_two w0 w2 F A m G (i + 1) (j + 1) hk Ps st a R hA
  rw [e2] at H2A
  have hm := h.hm
  have hs := h.ok.small
  have hir := hk.ok.rng _ hk.tc
  have hjr := hk.ok.rng _ hk.tp
  have him : i + 1 < m := by omega
  have hjm : j + 1 < m := by omega
  generalize parE G i = z at *
  have hz : decide (0 ≤ z) = false := decide_eq_false_iff_not.2 (by omega)
  have HC := Lib.hid HC
  have HP := Lib.hid HP
  have HPA := Lib.hid HPA
  have HS := Lib.hid HS
  have HAC := Lib.hid HAC
  have H2A := Lib.hid H2A
  have HK := Lib.hid hk
  clear h h1 h2 h3 h4 h4' e1 e2 hk hm
  go_enter Try.func27, Try.ntmps27
  go_wp2_with fail
  go_at_call 31
  refine HC.out.mono ?_
  rintro e w1 ⟨rfl, rfl⟩
  go_wp2_with fail
  go_at_call 31
  refine HP.out.mono ?_
  rintro e w1 ⟨rfl, rfl⟩
  go_wp2_with fail
  go_at_call 21
  refine HPA.out.mono ?_
  rintro e w2 ⟨rfl, k2⟩
  have H2 := Lib.hid k2
  clear k2
  go_wp2_with fail
  go_at_call 17
  refine (HS.out w2 H2.out.1).mono ?_
  rintro e w3 ⟨rfl, k3⟩
  have H3 := Lib.hid (H2.out.trans k3)
  clear k3
  go_wp2_with fail
  go_at_call 52
  refine (HAC.out w3 H3.out.1).mono ?_
  rintro e w4 ⟨last, rfl, Ps4, st4, a4, R4, k4⟩
  have H4 := Lib.hid k4
  clear k4
  go_wp2_with fail
  go_at_call 52
  refine (H2A.out w3 w4 Ps4 st4 a4 R4 H4.out).mono ?_
  rintro e w5 ⟨last5, rfl, st, a, R, k5, T5, I5, W5, C5⟩
  obtain ⟨I6, kl, kr⟩ := inv_link I5 HK.out W5 C5
  have hsb := I5.sb
  have c0 := k5.c0
  have fz := k5.fz
  have gcp := k5.at_p (i + 1) him
  have gctn := k5.at_tn (i + 1) him
  have gcts := k5.at_ts (i + 1) him
  have gpvn := k5.at_vn (j + 1) hjm
  have gpvs := k5.at_vs (j + 1) hjm
  obtain ⟨hF, hA⟩ := k5.lt
  have hpa : (j + 1) ∉ a.ord := (node_split hsb.n).2.2.1
  have hall : ∀ v ∈ a.ord, v < m := fun v hv => hsb.lt v (by simp [T.ord, hv])
  have hij : i + 1 ≠ j + 1 := fun e => HK.out.n (by rw [e]; exact HK.out.ok.self _ HK.out.tp)
  have al : a.rt < m := rt_lt hall (by omega)
  have an : a.rt ≠ j + 1 := rt_ne hpa (by omega)
  have hT := Lib.hid ((H3.out.2.trans H4.out.tch).trans T5)
  have H5 := Lib.hid k5
  have HI := Lib.hid I6
  have HKL := Lib.hid (And.intro kl kr)
  have HAN := Lib.hid (And.intro al an)
  clear k5 T5 I5 W5 C5 I6 kl kr hsb hpa hall al an
  go_wp2_with fail
  refine region_any (.takes [0, 1, 2, 3, 4, 5, 6, 7, 8, 9, 10, 11, 12, 13, 14, 15, 16, 17, 18, 19, 20] (.fork 21 [] .done .none)) (by kernel_rfl) (by kernel_rfl) rfl ?_
  go_wp2_with first | (with_reducible exact wpE_none) | (with_reducible refine wpE_takes_nil ?_) | (with_reducible refine wpE_done ?_) | (refine wpE_take rfl rfl (fun _ _ => ?_)) | (refine wpE_skip rfl rfl ?_) | (refine wpE_fork rfl rfl (fun _ _ => ?_) ?_) | (with_reducible exact agains_nil) | (refine agains_cons rfl (fun _ => ?_) ?_) | (with_reducible refine wpE_same ?_) | (refine And.intro (rfl : (_ : World) = _) ?_) | (with_reducible refine wpE_and ?_ ?_)
  refine region_any (.takes [0, 1, 2, 3, 4, 5, 6, 7, 8, 9, 10, 11, 12, 13, 14, 15, 16, 17, 18, 19, 20] (.fork 21 [] .done .none)) (by kernel_rfl) (by kernel_rfl) rfl ?_
  go_wp2_with first | (with_reducible exact wpE_none) | (with_reducible refine wpE_takes_nil ?_) | (with_reducible refine wpE_done ?_) | (refine wpE_take rfl rfl (fun _ _ => ?_)) | (refine wpE_skip rfl rfl ?_) | (refine wpE_fork rfl rfl (fun _ _ => ?_) ?_) | (with_reducible exact agains_nil) | (refine agains_cons rfl (fun _ => ?_) ?_) | (with_reducible refine wpE_same ?_) | (refine And.intro (rfl : (_ : World) = _) ?_) | (with_reducible refine wpE_and ?_ ?_)
  have X : FR _ F A m (lkN2 (lkN1 st (i + 1) (j + 1)) (i + 1) (j + 1)) := (((H5.out.set_p (i + 1) him ((i + 1) * 15 + 2) rfl (j + 1)).set_vn (j + 1) hjm ((j + 1) * 15 + 10) rfl (wrap64 ((st (j + 1)).vn + (st (i + 1)).tn))).set_vs (j + 1) hjm ((j + 1) * 15 + 11) rfl (wrap64 ((st (j + 1)).vs + (st (i + 1)).ts))).eq (by
    unfold lkN2 lkN1
    simp only [St.upd_upd, St.upd_same, St.upd_ne _ _ _ _ (Ne.symm hij)])
  have Y := ((hT.out.cellA (A := A) (by simp) ((i + 1) * 15 + 2) (.int .i64 ((j : Int) + 1))).cellA (A := A) (by simp) ((j + 1) * 15 + 10) (.int .i64 (wrap64 ((st (j + 1)).vn + (st (i + 1)).tn)))).cellA (A := A) (by simp) ((j + 1) * 15 + 11) (.int .i64 (wrap64 ((st (j + 1)).vs + (st (i + 1)).ts)))
  have kk : (lkN2 (lkN1 st (i + 1) (j + 1)) (i + 1) (j + 1) (j + 1)).l = a.rt ∧ (lkN2 (lkN1 st (i + 1) (j + 1)) (i + 1) (j + 1) (j + 1)).r = 0 := by
    unfold lkN2 lkN1
    rw [St.upd_same, St.upd_ne _ _ _ _ (Ne.symm hij)]
    exact HKL.out
  have e2 : ((j + 1 : Nat) : Int) = (j : Int) + 1 := by omega
  have PU := fun (wq : World) (hq : FR wq F A m (lkN2 (lkN1 st (i + 1) (j + 1)) (i + 1) (j + 1))) => pull_any wq F A m _ hq (j + 1) hjm (by rw [kk.1]; exact HAN.out.1) (by rw [kk.2]; omega) (by rw [kk.1]; exact HAN.out.2) (by rw [kk.2]; omega)
  rw [e2] at PU
  go_at_call 63
  refine (PU _ X.drew.drew).mono ?_
  rintro e w6 ⟨rfl, h6, T6⟩
  have HE := Lib.hid (show LPost w F A m (G.link (i + 1) (j + 1)) w6 from ⟨⟨_, _, h6, HI.out⟩, Tch.trans Y.drew.drew T6⟩)
  clear X Y PU h6 T6 kk e2
  go_wp2_with fail
  go_ret
  exact ⟨rfl, HE.out⟩
theorem Link_any (w : World) (F A m : Nat) (G : Fo) (h : LF w F A m G) (c p : Int) : Calls Try.prog 27 #[.pointer (some ⟨F, 0, none⟩), .int .i64 c, .int .i64 p] w fun e w' => e = .returned (.bool (linkOk G c p)) ∧ LPost w F A m (linkG G c p) w' := by
  unfold linkG
  cases hv : linkOk G c p with
  | false =>
    rw [if_neg (by simp)]
    exact link_no w F A m G h c p hv
  | true =>
    rw [if_pos rfl]
    obtain ⟨i, j, rfl, rfl, hk⟩ := link_lk h.ok hv
    rw [Int.toNat_natCast, Int.toNat_natCast]
    exact link_yes w F A m G h i j hv hk
end Go.Proofs.Ytaipladbgdcedaa
namespace Go.Proofs.Ytaipladbgdcedaa
open Go.RowKit

/-- A node cut off. -/
def Fo.cut (G : Fo) (c : Nat) : Fo := { G with up := fun u => if u = c then 0 else G.up u }
section
variable {G : Fo} {c : Nat}
theorem ct_link (hc : G.up c ≠ 0) : (G.cut c).link c (G.up c) = G := by
  have : ((G.cut c).link c (G.up c)).up = G.up := by
    funext u
    show (if u = c then G.up c else (if u = c then 0 else G.up u)) = G.up u
    by_cases e : u = c
    · rw [if_pos e, e]
    · rw [if_neg e, if_neg e]
  show (⟨G.n, G.th, ((G.cut c).link c (G.up c)).up, G.wt⟩ : Fo) = G
  rw [this]
theorem ct_off (Q W : List Nat) : ∀ (P : List Nat) (v : Nat), c ∉ P → Up G.up v (P ++ Q) → (∀ t, Up G.up t Q → Up (G.cut c).up t W) → Up (G.cut c).up v (P ++ W) := by
  intro P
  induction P with
  | nil => intro v _ hu hw; exact hw v hu
  | cons a P ih =>
    intro v hp hu hw
    obtain ⟨rfl, h1, h2⟩ := hu
    refine ⟨rfl, h1, ?_⟩
    have e : (G.cut c).up a = G.up a := by
      show (if a = c then 0 else G.up a) = _
      rw [if_neg (fun e => hp (by simp [e]))]
    rw [e]
    exact ih _ (fun hu => hp (List.mem_cons_of_mem _ hu)) h2 hw
theorem ct_way (h : FoOk G) (hc : G.th c = true) (u : Nat) (hu : G.th u = true) : (c ∉ G.above u ∧ Up (G.cut c).up u (G.above u)) ∨ (∃ l1 l2, G.above u = l1 ++ c :: l2 ∧ Up (G.cut c).up u (l1 ++ [c])) := by
  obtain ⟨hU, _⟩ := h.above u hu
  by_cases hm : c ∈ G.above u
  · right
    obtain ⟨l1, l2, e1, e2⟩ := up_suffix hU c hm
    have hn := up_nodup hU
    rw [e1] at hn
    have hcl : c ∉ l1 := fun k => (List.nodup_append.1 hn).2.2 c k c (by simp) rfl
    refine ⟨l1, l2, e1, ct_off (c :: l2) [c] l1 u hcl (by rw [← e1]; exact hU) (fun t ht => ?_)⟩
    obtain ⟨rfl, h1, _⟩ := ht
    refine ⟨rfl, h1, ?_⟩
    show (if c = c then 0 else G.up c) = 0
    rw [if_pos rfl]
  · left
    refine ⟨hm, ?_⟩
    have := ct_off (G := G) (c := c) [] [] (G.above u) u hm (by simpa using hU) (fun t ht => ht)
    simpa using this
theorem ct_ok (h : FoOk G) (hc : G.th c = true) : FoOk (G.cut c) := by
  refine ⟨h.rng, fun v hv => ?_, fun v hv hp => ?_, h.wts, fun v hv => ?_, h.small⟩
  · rcases ct_way h hc v hv with ⟨_, k⟩ | ⟨l1, l2, e, k⟩
    · exact ⟨_, k, way_len (G := G) h k (fun w hw => h.mem_th v w hv hw)⟩
    · refine ⟨_, k, way_len (G := G) h k (fun w hw => h.mem_th v w hv ?_)⟩
      rw [e]
      rcases List.mem_append.1 hw with g | g
      · simp [g]
      · have : w = c := by simpa using g
        simp [this]
  · have hp' : (if v = c then 0 else G.up v) ≠ 0 := hp
    show G.th (if v = c then 0 else G.up v) = true
    by_cases e : v = c
    · rw [if_pos e] at hp'; exact absurd rfl hp'
    · rw [if_neg e] at hp' ⊢; exact h.par v hv hp'
  · show (if v = c then 0 else G.up v) = 0
    split
    · rfl
    · exact h.off v hv
/-- What is cut off could be linked again. -/
theorem ct_lk (h : FoOk G) (hc : G.th c = true) (hp : G.up c ≠ 0) : LkOk (G.cut c) c (G.up c) := by
  have hpt := h.par c hc hp
  have hcp : c ∉ G.above (G.up c) := by
    have hn := up_nodup (h.above c hc).1
    rw [h.above_cons c hc] at hn
    exact (List.nodup_cons.1 hn).1
  refine ⟨ct_ok h hc, hc, hpt, ?_, ?_⟩
  · show (if c = c then 0 else G.up c) = 0
    rw [if_pos rfl]
  · rcases ct_way h hc (G.up c) hpt with ⟨k1, k2⟩ | ⟨l1, l2, e, _⟩
    · rw [up_one ((ct_ok h hc).above (G.up c) hpt).1 k2]
      exact k1
    · exact absurd (by rw [e]; simp) hcp
theorem ct_above_par (h : FoOk G) (hc : G.th c = true) (hp : G.up c ≠ 0) : (G.cut c).above (G.up c) = G.above (G.up c) := by
  have hpt := h.par c hc hp
  have hcp : c ∉ G.above (G.up c) := by
    have hn := up_nodup (h.above c hc).1
    rw [h.above_cons c hc] at hn
    exact (List.nodup_cons.1 hn).1
  rcases ct_way h hc (G.up c) hpt with ⟨k1, k2⟩ | ⟨l1, l2, e, _⟩
  · exact up_one ((ct_ok h hc).above (G.up c) hpt).1 k2
  · exact absurd (by rw [e]; simp) hcp
theorem ct_sub (h : FoOk G) (hc : G.th c = true) (hp : G.up c ≠ 0) (v : Nat) : (G.cut c).sub v = G.sub v - (if v ∈ G.above (G.up c) then G.sub c else 0) ∧ (G.cut c).ssum v = G.ssum v - (if v ∈ G.above (G.up c) then G.ssum c else 0) := by
  have L := ct_lk h hc hp
  have hcp : c ∉ G.above (G.up c) := by
    have := L.n
    rw [ct_above_par h hc hp] at this
    exact this
  obtain ⟨k1, k2⟩ := lk_sub L v
  obtain ⟨j1, j2⟩ := lk_sub L c
  rw [ct_link hp, ct_above_par h hc hp] at k1 k2 j1 j2
  rw [if_neg hcp] at j1 j2
  by_cases hv : v ∈ G.above (G.up c)
  · rw [if_pos hv] at k1 k2 ⊢
    rw [if_pos hv]
    omega
  · rw [if_neg hv] at k1 k2 ⊢
    rw [if_neg hv]
    omega
end
end Go.Proofs.Ytaipladbgdcedaa
namespace Go.Proofs.Ytaipladbgdcedaa
open Go.RowKit

theorem vn_cut {st st' : St} {G G' : Fo} {c : Nat} (z1 : G'.ssum 0 = 0) (z3 : G'.sub 0 = 0) (hw : ∀ v, G'.wt v = G.wt v) : ∀ (l : List Nat), (∀ v ∈ l, G'.sub v = G.sub v - G.sub c ∧ G'.ssum v = G.ssum v - G.ssum c) → (∀ v ∈ l, (st' v).vn = (st v).vn ∧ (st' v).vs = (st v).vs) → VN st G (l ++ [c]) → VN st' G' l := by
  intro l
  induction l with
  | nil => intro _ _ _; trivial
  | cons a l ih =>
    intro h hs k
    have k' : (st a).vn = G.sub a - 1 - G.sub (hd (l ++ [c])) ∧ (st a).vs = G.ssum a - G.wt a - G.ssum (hd (l ++ [c])) ∧ VN st G (l ++ [c]) := k
    obtain ⟨k1, k2, k3⟩ := k'
    obtain ⟨a3, a4⟩ := h a (by simp)
    have hi := ih (fun v hv => h v (List.mem_cons_of_mem _ hv)) (fun v hv => hs v (List.mem_cons_of_mem _ hv)) k3
    have hn : G'.sub (hd l) = G.sub (hd (l ++ [c])) - G.sub c ∧ G'.ssum (hd l) = G.ssum (hd (l ++ [c])) - G.ssum c := by
      cases l with
      | nil =>
        have e1 : G'.sub (hd []) = 0 := z3
        have e2 : G'.ssum (hd []) = 0 := z1
        show G'.sub (hd []) = G.sub c - G.sub c ∧ G'.ssum (hd []) = G.ssum c - G.ssum c
        omega
      | cons b l => exact h b (by simp)
    refine ⟨by rw [(hs a (by simp)).1, k1, a3, hn.1]; omega, by rw [(hs a (by simp)).2, k2, a4, hw, hn.2]; omega, hi⟩
theorem dn_ct {G : Fo} {c : Nat} : ∀ {l : List Nat} {q : Nat}, c ∉ l → Dn G.up q l → Dn (G.cut c).up q l := by
  intro l
  induction l with
  | nil => intro q _ _; trivial
  | cons v l ih =>
    intro q hn hd'
    refine ⟨?_, ih (fun e => hn (List.mem_cons_of_mem _ e)) hd'.2⟩
    have e3 : (G.cut c).up v = G.up v := by
      show (if v = c then 0 else G.up v) = _
      rw [if_neg (fun e => hn (by simp [e]))]
    rw [e3]
    exact hd'.1
theorem dn_front {up : Nat → Nat} : ∀ {l m : List Nat} {q : Nat}, Dn up q (l ++ m) → Dn up q l := by
  intro l
  induction l with
  | nil => intro m q _; trivial
  | cons a l ih => intro m q h; exact ⟨h.1, ih h.2⟩
def ctN (st : St) (t c : Nat) : St := (st.upd t { st t with p := 0 }).upd c { st c with l := 0 }
section
variable {G : Fo} {c : Nat}
set_option maxHeartbeats 1000000 in
theorem inv_cut {m : Nat} {st : St} {a : T} {R : List Path} (hI : Inv m st G ((0, .node a c .nil) :: R)) (hc : G.th c = true) (hp : G.up c ≠ 0) (hw : a.ord ++ [c] = (G.above c).reverse) (cy : Cln st c) :
    Inv m (pullF (ctN st a.rt c) c) (G.cut c) ((0, a) :: (0, .node .nil c .nil) :: R) ∧ a.rt ≠ 0 ∧ a.rt ≠ c ∧ a.rt < m ∧ (st c).l = a.rt ∧ (st c).r = 0 := by
  have hok := hI.ok
  have ok' := ct_ok hok hc
  have hpo := hI.po (0, .node a c .nil) (by simp)
  obtain ⟨⟨c0, cp, cl, cr, cw, _⟩, ha, _⟩ := hpo.lay
  simp only [Bool.false_eq_true, if_false] at cl cr
  rw [cy.1, cy.2] at ha
  have ha : Lay st G.wt false c a := lay_g (g' := G.wt) (fun v => (Int.sub_zero _).symm) ha
  have hnd := hI.nd
  rw [nodes_cons] at hnd
  have n1 : (T.node a c .nil).ord.Nodup := (List.nodup_append.1 hnd).1
  obtain ⟨na, _, ca, _, _⟩ := node_split n1
  have hap := hI.apart
  have hway : a.ord = (G.above (G.up c)).reverse := by
    rw [hok.above_cons c hc, List.reverse_cons] at hw
    exact (List.append_inj' hw rfl).1
  have inA : ∀ v, v ∈ a.ord ↔ v ∈ G.above (G.up c) := fun v => by rw [hway]; simp
  have hpt := hok.par c hc hp
  have hane : a.rt ≠ 0 := by
    intro e
    have h1 : G.up c ∈ a.ord := (inA _).2 (hok.self _ hpt)
    cases a with
    | nil => cases h1
    | node l x r => exact ha.1.1 e
  have hac : a.rt ≠ c := rt_ne ca c0
  have ham : a.rt ∈ a.ord := rt_mem hane
  have hlt : ∀ v ∈ (T.node a c .nil).ord, v < m := hI.sb.lt
  have wc := hok.wts c hc
  obtain ⟨s2, hs2⟩ : ∃ s2, s2 = ctN st a.rt c := ⟨_, rfl⟩
  rw [← hs2]
  have e2c : s2 c = { st c with l := 0 } := by rw [hs2]; exact St.upd_same _ _ _
  have e2 : ∀ v, v ≠ c → s2 v = (st.upd a.rt { st a.rt with p := 0 }) v := fun v hv => by rw [hs2]; exact St.upd_ne _ _ _ _ hv
  have e2t : s2 a.rt = { st a.rt with p := 0 } := by rw [e2 _ hac, St.upd_same]
  have e2o : ∀ v, v ≠ c → v ≠ a.rt → s2 v = st v := fun v h1 h2 => by rw [e2 v h1, St.upd_ne _ _ _ _ h2]
  have SV2 : Sv st s2 := by
    rw [hs2]
    unfold ctN
    refine (Sv.upd st a.rt { st a.rt with p := 0 } hane rfl rfl rfl).trans (Sv.upd _ c { st c with l := 0 } c0 ?_ ?_ ?_)
    all_goals rw [St.upd_ne _ _ _ _ (fun e => hac e.symm)]
  have SV : Sv st (pullF s2 c) := SV2.trans (sv_pull s2 c c0)
  have fo : ∀ v, v ≠ c → pullF s2 c v = s2 v := fun v hv => pull_ne _ _ _ hv
  have La : Lay (pullF s2 c) G.wt false 0 a := lay_p na (fun v hv hne => by
    have hvc : v ≠ c := fun e => ca (e ▸ hv)
    rw [fo v hvc, e2o v hvc hne]) (fun _ => by rw [fo _ hac, e2t]) ha
  have Lc : Lay (pullF s2 c) G.wt false 0 (.node .nil c .nil) :=
    lay_pull (by simp [T.ord]) (SV2.bd hI.bd) (by simp [T.ord]) c0 (by rw [e2c]; exact cp) (by rw [e2c]; rfl) (by rw [e2c]; exact cr) (by rw [e2c]; exact cw) wc (by rw [e2c]; exact cy.1) (by rw [e2c]; exact cy.2) trivial trivial
  have hca : c ∉ G.above (G.up c) := fun e => ca ((inA c).2 e)
  have en : nodes ((0, a) :: (0, T.node .nil c .nil) :: R) = nodes ((0, T.node a c .nil) :: R) := by simp [nodes, T.ord]
  refine ⟨⟨fun q hq => ?_, by rw [en]; exact hI.nd, fun v => by rw [en]; exact hI.cov v, fun v => (SV.th v).trans (hI.th v), fun v hv => ?_, SV.bd hI.bd, ok', hI.m⟩, hane, hac, hlt _ (by simp [T.ord, ham]), cl, cr⟩
  · rcases List.mem_cons.1 hq with e | e
    · subst e
      refine ⟨La, hane, dn_ct ca (dn_front (m := [c]) hpo.dn), ?_⟩
      refine vn_cut (G := G) (G' := G.cut c) (c := c) (ssum_zero ok') (sub_zero ok') (fun _ => rfl) a.ord (fun v hv => ?_) (fun v _ => ⟨SV.vn v, SV.vs v⟩) hpo.vn
      obtain ⟨k1, k2⟩ := ct_sub hok hc hp v
      rw [if_pos ((inA v).1 hv)] at k1 k2
      exact ⟨k1, k2⟩
    · rcases List.mem_cons.1 e with e | e
      · subst e
        obtain ⟨k1, k2⟩ := ct_sub hok hc hp c
        rw [if_neg hca, Int.sub_zero] at k1 k2
        obtain ⟨_, j1, j2, _⟩ := vn_append.1 (show VN st G (a.ord ++ c :: []) from hpo.vn)
        refine ⟨Lc, c0, ⟨?_, trivial⟩, ⟨?_, ?_, trivial⟩⟩
        · show (if c = c then 0 else G.up c) = 0
          rw [if_pos rfl]
        · show (pullF s2 c c).vn = (G.cut c).sub c - 1 - (G.cut c).sub 0
          have j1' : (st c).vn = G.sub c - 1 - G.sub 0 := j1
          rw [SV.vn, j1', k1, sub_zero ok', sub_zero hok]
        · show (pullF s2 c c).vs = (G.cut c).ssum c - G.wt c - (G.cut c).ssum 0
          have j2' : (st c).vs = G.ssum c - G.wt c - G.ssum 0 := j2
          rw [SV.vs, j2', k2, ssum_zero ok', ssum_zero hok]
      · have k := hI.po q (List.mem_cons_of_mem _ e)
        have out : ∀ v ∈ q.2.ord, v ∉ (T.node a c .nil).ord := fun v hv hv' => hap v hv' (List.mem_flatMap.2 ⟨q, e, hv⟩)
        have hvc : ∀ v ∈ q.2.ord, v ≠ c := fun v hv e' => out v hv (by rw [e']; simp [T.ord])
        have hva : ∀ v ∈ q.2.ord, v ∉ a.ord := fun v hv e' => out v hv (by simp [T.ord, e'])
        have same : ∀ v ∈ q.2.ord, pullF s2 c v = st v := fun v hv => by
          rw [fo v (hvc v hv), e2o v (hvc v hv) (fun e' => hva v hv (e' ▸ ham))]
        refine ⟨lay_congr same (fun _ _ => rfl) k.lay, k.ne, dn_ct (fun e' => hvc c e' rfl) k.dn, vn_congrG (G := G) (G' := G.cut c) (fun v h' => ?_) (by rw [sub_zero ok', sub_zero hok]) (by rw [ssum_zero ok', ssum_zero hok]) k.vn⟩
        obtain ⟨k1, k2⟩ := ct_sub hok hc hp v
        have hv2 : v ∉ G.above (G.up c) := fun e' => hva v h' ((inA v).2 e')
        rw [if_neg hv2, Int.sub_zero] at k1 k2
        rw [same v h', k1, k2, sub_zero ok', sub_zero hok, ssum_zero ok', ssum_zero hok]
        exact ⟨rfl, rfl, rfl, rfl, rfl⟩
  · have hv' : G.th v = false := hv
    have hvc : v ≠ c := fun e => by rw [e, hc] at hv'; cases hv'
    have hvt : v ≠ a.rt := fun e => by
      have := hI.node_th (q := (0, .node a c .nil)) (by simp) a.rt (by simp [T.ord, ham])
      rw [← e, hv'] at this; cases this
    rw [fo v hvc, e2o v hvc hvt]
    exact hI.off v hv'
end
end Go.Proofs.Ytaipladbgdcedaa
namespace Go.Proofs.Ytaipladbgdcedaa
open Go.RowKit

def cutOk (G : Fo) (c : Int) : Bool := decide (0 ≤ parE G c)
def cutG (G : Fo) (c : Int) : Fo := if cutOk G c = true then G.cut (c.toNat + 1) else G
theorem cut_no (w : World) (F A m : Nat) (G : Fo) (h : LF w F A m G) (c : Int) (hv : cutOk G c = false) : Calls Try.prog 32 #[.pointer (some ⟨F, 0, none⟩), .int .i64 c] w fun e w' => e = .returned (.bool false) ∧ LPost w F A m G w' := by
  have HP := Lib.hid (Parent_any w F A m G h c)
  unfold cutOk at hv
  generalize parE G c = z at *
  have hz : decide (z < 0) = true := by
    have := decide_eq_false_iff_not.1 hv
    exact decide_eq_true_iff.2 (by omega)
  clear h hv
  go_enter Try.func32, Try.ntmps32
  go_wp2_with fail
  go_at_call 21
  refine HP.out.mono ?_
  rintro e w2 ⟨rfl, h2⟩
  have H2 := Lib.hid h2
  clear h2
  go_wp2_with fail
  go_ret
  exact ⟨rfl, H2.out⟩
set_option maxRecDepth 100000 in
set_option maxHeartbeats 4000000 in
theorem cut_yes (w : World) (F A m : Nat) (G : Fo) (h : LF w F A m G) (i : Nat) (hth : G.th (i + 1) = true) (hup : G.up (i + 1) ≠ 0) (hp : 0 ≤ parE G i) : Calls Try.prog 32 #[.pointer (some ⟨F, 0, none⟩), .int .i64 i] w fun e w' => e = .returned (.bool true) ∧ LPost w F A m (G.cut (i + 1)) w' := by
  have HP := Lib.hid (Parent_any w F A m G h i)
  have e1 : ((i + 1 : Nat) : Int) = (i : Int) + 1 := by omega
  have HAC := fun w2 (h2 : LF w2 F A m G) => access_lf w2 F A m G h2 (i + 1) hth
  rw [e1] at HAC
  have HAC := Lib.hid HAC
  have hm := h.hm
  have hs := h.ok.small
  have hir := h.ok.rng _ hth
  have him : i + 1 < m := by omega
  have HTH := Lib.hid hth
  have HUP := Lib.hid hup
  generalize parE G i = z at *
  have hz : decide (z < 0) = false := decide_eq_false_iff_not.2 (by omega)
  clear h hm hth hup
  go_enter Try.func32, Try.ntmps32
  go_wp2_with fail
  go_at_call 21
  refine HP.out.mono ?_
  rintro e w2 ⟨rfl, h2⟩
  have H2 := Lib.hid h2
  clear h2
  go_wp2_with fail
  go_at_call 52
  refine (HAC.out w2 H2.out.1).mono ?_
  rintro e w3 ⟨last, rfl, Ps, st, a, R, hA⟩
  have hS := hA.ss
  obtain ⟨q1, q2, q3, q4, q5⟩ := hS.push [] [] rfl (fun f hf => by cases hf)
  have HPU := push_any w3 F A m st hA.fr (i + 1) him q4 q5
  rw [e1] at HPU
  have HPU := Lib.hid HPU
  have hI3 := hA.inv.swap (t' := .node a (i + 1) .nil) q1.lay q1.ord q1.sv q1.out
  have q2 : Cln (pushF st (i + 1)) (i + 1) := q2
  have hI3 : Inv m (pushF st (i + 1)) G ((0, .node a (i + 1) .nil) :: R) := hI3
  have hC := inv_cut hI3 HTH.out HUP.out hA.way q2
  have HC := Lib.hid hC
  have HT := Lib.hid (H2.out.2.trans hA.tch)
  clear hS q1 q2 q3 q4 q5 hA hI3 hC e1
  go_wp2_with fail
  go_at_call 56
  refine HPU.out.mono ?_
  rintro e w4 ⟨rfl, h4, T4⟩
  have h4 : FR w4 F A m (pushF st (i + 1)) := h4
  generalize pushF st (i + 1) = s at *
  obtain ⟨t, ht⟩ : ∃ t, t = a.rt := ⟨_, rfl⟩
  obtain ⟨k0, k1, k2, k3, k4, k5⟩ := HC.out
  rw [← ht] at k0 k1 k2 k3 k4
  have c0 := h4.c0
  have fz := h4.fz
  have gl := h4.at_l (i + 1) him
  rw [k4] at gl
  have gp := h4.at_p t k3
  obtain ⟨hF, hA⟩ := h4.lt
  have HI := Lib.hid k0
  have HK := Lib.hid (And.intro k1 (And.intro k2 (And.intro k4 k5)))
  have H4 := Lib.hid h4
  have HT4 := Lib.hid (HT.out.trans T4)
  have htm := k3
  clear h4 T4 k0 k1 k2 k3 k4 k5 HC ht
  go_wp2_with fail
  refine region_any (.takes [0, 1, 2, 3, 4, 5, 6, 7, 8, 9, 10, 11, 12, 13, 14] (.fork 15 [] .done .none)) (by kernel_rfl) (by kernel_rfl) rfl ?_
  go_wp2_with first | (with_reducible exact wpE_none) | (with_reducible refine wpE_takes_nil ?_) | (with_reducible refine wpE_done ?_) | (refine wpE_take rfl rfl (fun _ _ => ?_)) | (refine wpE_skip rfl rfl ?_) | (refine wpE_fork rfl rfl (fun _ _ => ?_) ?_) | (with_reducible exact agains_nil) | (refine agains_cons rfl (fun _ => ?_) ?_) | (with_reducible refine wpE_same ?_) | (refine And.intro (rfl : (_ : World) = _) ?_) | (with_reducible refine wpE_and ?_ ?_)
  have X : FR _ F A m (ctN s t (i + 1)) := ((H4.out.set_p t htm (t * 15 + 2) rfl 0).set_l (i + 1) him ((i + 1) * 15) rfl 0).eq (by
    unfold ctN
    rw [St.upd_ne _ _ _ _ (Ne.symm HK.out.2.1)])
  have Y := (HT4.out.cellA (A := A) (by simp) (t * 15 + 2) (.int .i64 0)).cellA (A := A) (by simp) ((i + 1) * 15) (.int .i64 0)
  have kk : (ctN s t (i + 1) (i + 1)).l = 0 ∧ (ctN s t (i + 1) (i + 1)).r = 0 := by
    unfold ctN
    rw [St.upd_same]
    exact ⟨rfl, HK.out.2.2.2⟩
  have e2 : ((i + 1 : Nat) : Int) = (i : Int) + 1 := by omega
  have PU := fun (wq : World) (hq : FR wq F A m (ctN s t (i + 1))) => pull_any wq F A m _ hq (i + 1) him (by rw [kk.1]; omega) (by rw [kk.2]; omega) (by rw [kk.1]; omega) (by rw [kk.2]; omega)
  rw [e2] at PU
  go_at_call 63
  refine (PU _ (by first | exact X | exact X.drew)).mono ?_
  rintro e w6 ⟨rfl, h6, T6⟩
  have HE := Lib.hid (show LPost w F A m (G.cut (i + 1)) w6 from ⟨⟨_, _, h6, HI.out⟩, Tch.trans (by first | exact Y | exact Y.drew) T6⟩)
  clear X Y PU h6 T6 kk e2
  go_wp2_with fail
  go_ret
  exact ⟨rfl, HE.out⟩
theorem Cut_any (w : World) (F A m : Nat) (G : Fo) (h : LF w F A m G) (c : Int) : Calls Try.prog 32 #[.pointer (some ⟨F, 0, none⟩), .int .i64 c] w fun e w' => e = .returned (.bool (cutOk G c)) ∧ LPost w F A m (cutG G c) w' := by
  unfold cutG
  cases hv : cutOk G c with
  | false =>
    rw [if_neg (by simp)]
    exact cut_no w F A m G h c hv
  | true =>
    rw [if_pos rfl]
    have hp : 0 ≤ parE G c := decide_eq_true_iff.1 hv
    cases hb : hasB G c with
    | false =>
      unfold parE at hp
      rw [if_neg (by rw [hb]; simp)] at hp
      omega
    | true =>
      obtain ⟨i, rfl, hi, hth⟩ := hasB_yes h.ok hb
      rw [Int.toNat_natCast]
      have hp2 := hp
      unfold parE at hp2
      rw [if_pos hb, Int.toNat_natCast] at hp2
      exact cut_yes w F A m G h i hth (by omega) hp
end Go.Proofs.Ytaipladbgdcedaa
namespace Go.Proofs.Ytaipladbgdcedaa
open Go.RowKit

/-- A node less. -/
def Fo.drop (G : Fo) (x : Nat) : Fo := { G with th := fun u => if u = x then false else G.th u }
section
variable {G : Fo} {x : Nat}
theorem drop_add (hx : G.th x = true) : (G.drop x).add x (G.wt x) = G := by
  have h1 : ((G.drop x).add x (G.wt x)).th = G.th := by
    funext u
    show (if u = x then true else (if u = x then false else G.th u)) = G.th u
    by_cases e : u = x
    · rw [if_pos e, e, hx]
    · rw [if_neg e, if_neg e]
  have h2 : ((G.drop x).add x (G.wt x)).wt = G.wt := by
    funext u
    show (if u = x then G.wt x else G.wt u) = G.wt u
    by_cases e : u = x
    · rw [if_pos e, e]
    · rw [if_neg e]
  show (⟨G.n, ((G.drop x).add x (G.wt x)).th, G.up, ((G.drop x).add x (G.wt x)).wt⟩ : Fo) = G
  rw [h1, h2]
/-- A tree of one node. -/
theorem alone (h : FoOk G) (hx : G.th x = true) (h1 : G.sub (G.root x) ≤ 1) : G.up x = 0 ∧ ∀ u, G.th u = true → x ∈ G.above u → u = x := by
  have hb : ∀ u, G.th u = true → G.root x ∈ G.above u → u = x := by
    intro u hu hr
    by_cases e : u = x
    · exact e
    · exfalso
      have hr2 := (root_bd h x hx).2
      have := countP_lt (p := fun v => decide (v = u)) (q := isBelow G (G.root x)) x (List.range (G.n + 1)) (fun v _ hv => by
        have : v = u := by simpa using hv
        rw [this]
        exact (isBelow_iff G _ u).2 ⟨hu, hr⟩) (by have := h.rng x hx; simp; omega) (by simpa using fun e' => e e'.symm) ((isBelow_iff G _ x).2 ⟨hx, hr2⟩)
      have h2 := countP_one (p := fun v => decide (v = u)) u (List.range (G.n + 1)) List.nodup_range (by have := h.rng u hu; simp; omega) (fun v _ => by simp)
      unfold Fo.sub at h1
      omega
  refine ⟨?_, fun u hu hxu => hb u hu (h.trans u x _ hu hxu (root_bd h x hx).2)⟩
  have hr := root_bd h x hx
  have e := hb (G.root x) hr.1 (h.self _ hr.1)
  obtain ⟨l, hl⟩ := root_last h hx
  rw [e] at hl
  have hc := h.above_cons x hx
  cases l with
  | nil =>
    rw [hl] at hc
    have : G.above (G.up x) = [] := by simpa using hc.symm
    by_cases h0 : G.up x = 0
    · exact h0
    · rw [h.above_cons _ (h.par x hx h0)] at this
      cases this
  | cons b l =>
    have hn := up_nodup (h.above x hx).1
    rw [hl] at hc hn
    have hbx : b = x := by
      have : b = x := by simpa using (List.cons.inj (show b :: (l ++ [x]) = x :: G.above (G.up x) from hc)).1
      exact this
    subst hbx
    have hn' : (b :: (l ++ [b])).Nodup := hn
    exact absurd (by simp) (List.nodup_cons.1 hn').1
theorem drop_ok (h : FoOk G) (hx : G.th x = true) (h1 : G.sub (G.root x) ≤ 1) : FoOk (G.drop x) := by
  obtain ⟨hu, hk⟩ := alone h hx h1
  have thd : ∀ v, (G.drop x).th v = true → v ≠ x ∧ G.th v = true := by
    intro v hv
    have hv' : (if v = x then false else G.th v) = true := hv
    by_cases e : v = x
    · rw [if_pos e] at hv'; cases hv'
    · rw [if_neg e] at hv'; exact ⟨e, hv'⟩
  refine ⟨fun v hv => h.rng v (thd v hv).2, fun v hv => h.way v (thd v hv).2, fun v hv hp => ?_, fun v hv => h.wts v (thd v hv).2, fun v hv => ?_, h.small⟩
  · obtain ⟨e, hv'⟩ := thd v hv
    have hp' : G.up v ≠ 0 := hp
    have ht := h.par v hv' hp'
    show (if G.up v = x then false else G.th (G.up v)) = true
    have : G.up v ≠ x := fun e' => e (hk v hv' (by rw [h.above_cons v hv', e']; exact List.mem_cons_of_mem _ (h.self x hx)))
    rw [if_neg this]
    exact ht
  · have hv' : (if v = x then false else G.th v) = false := hv
    by_cases e : v = x
    · rw [e]; exact hu
    · rw [if_neg e] at hv'; exact h.off v hv'
theorem drop_sub (h : FoOk G) (hx : G.th x = true) (h1 : G.sub (G.root x) ≤ 1) (v : Nat) (hv : v ≠ x) : (G.drop x).sub v = G.sub v ∧ (G.drop x).ssum v = G.ssum v := by
  have hd := drop_ok h hx h1
  have hx' : (G.drop x).th x = false := by
    show (if x = x then false else G.th x) = false
    rw [if_pos rfl]
  have hr := h.rng x hx
  have k1 := add_sub (z := G.wt x) hd hx' hr.1 hr.2 v
  have k2 := add_ssum (z := G.wt x) hd hx' hr.1 hr.2 v
  rw [drop_add hx, if_neg hv, Int.add_zero] at k1 k2
  exact ⟨k1.symm, k2.symm⟩
theorem inv_drop {m : Nat} {st : St} {a : T} {R : List Path} (hI : Inv m st G ((0, .node a x .nil) :: R)) (hx : G.th x = true) (hw : a.ord ++ [x] = (G.above x).reverse) (h1 : G.sub (G.root x) ≤ 1) : Inv m (st.upd x Nd.zero) (G.drop x) R := by
  have hok := hI.ok
  have hd := drop_ok hok hx h1
  obtain ⟨hu, hk⟩ := alone hok hx h1
  have hax : G.above x = [x] := by rw [hok.above_cons x hx, hu, hok.above0]
  have ha : a.ord = [] := by
    rw [hax] at hw
    have := congrArg List.length hw
    simp at this
    exact this
  have x0 := hok.nz x hx
  have hap := hI.apart
  have hnd := hI.nd
  rw [nodes_cons] at hnd
  have xR : x ∉ nodes R := hap x (by simp [T.ord])
  have ne : ∀ v, v ≠ x → (st.upd x Nd.zero) v = st v := fun v hv => St.upd_ne _ _ _ _ hv
  refine ⟨fun q hq => ?_, (List.nodup_append.1 hnd).2.1, fun v => ?_, fun v => ?_, fun v hv => ?_, ⟨fun v => ?_, fun v => ?_, by rw [ne 0 (fun e => x0 e.symm)]; exact hI.bd.zero⟩, hd, hI.m⟩
  · have k := hI.po q (List.mem_cons_of_mem _ hq)
    have hv : ∀ v ∈ q.2.ord, v ≠ x := fun v hv e => xR (e ▸ List.mem_flatMap.2 ⟨q, hq, hv⟩)
    refine ⟨lay_congr (fun v h => ne v (hv v h)) (fun _ _ => rfl) k.lay, k.ne, k.dn, vn_congrG (G := G) (G' := G.drop x) (fun v h' => ?_) (by rw [sub_zero hd, sub_zero hok]) (by rw [ssum_zero hd, ssum_zero hok]) k.vn⟩
    obtain ⟨k1, k2⟩ := drop_sub hok hx h1 v (hv v h')
    rw [ne v (hv v h'), k1, k2, sub_zero hd, sub_zero hok, ssum_zero hd, ssum_zero hok]
    exact ⟨rfl, rfl, rfl, rfl, rfl⟩
  · have hc := hI.cov v
    rw [nodes_cons] at hc
    have hc' : v ∈ (a.ord ++ [x]) ++ nodes R ↔ G.th v = true := hc
    rw [ha] at hc'
    show v ∈ nodes R ↔ (if v = x then false else G.th v) = true
    by_cases e : v = x
    · rw [if_pos e]
      constructor
      · intro h; exact absurd (e ▸ h) xR
      · intro h; cases h
    · rw [if_neg e, ← hc']
      simp [e]
  · show _ = (if v = x then false else G.th v)
    by_cases e : v = x
    · rw [if_pos e, e, St.upd_same]; rfl
    · rw [if_neg e, ne v e]; exact hI.th v
  · have hv' : (if v = x then false else G.th v) = false := hv
    by_cases e : v = x
    · rw [e, St.upd_same]
    · rw [if_neg e] at hv'
      rw [ne v e]
      exact hI.off v hv'
  · by_cases e : v = x
    · rw [e, St.upd_same]; simp [Nd.zero]
    · rw [ne v e]; exact hI.bd.vn v
  · by_cases e : v = x
    · rw [e, St.upd_same]; simp [Nd.zero]
    · rw [ne v e]; exact hI.bd.vs v
end
end Go.Proofs.Ytaipladbgdcedaa
namespace Go.Proofs.Ytaipladbgdcedaa
open Go.RowKit

def dropOk (G : Fo) (v : Int) : Bool := hasB G v && decide (G.sub (G.root (v.toNat + 1)) ≤ 1)
def dropG (G : Fo) (v : Int) : Fo := if dropOk G v = true then G.drop (v.toNat + 1) else G
set_option maxRecDepth 100000 in
set_option maxHeartbeats 4000000 in
theorem Drop_any (w : World) (F A m : Nat) (G : Fo) (h : LF w F A m G) (v : Int) : Calls Try.prog 33 #[.pointer (some ⟨F, 0, none⟩), .int .i64 v] w fun e w' => e = .returned (.bool (dropOk G v)) ∧ LPost w F A m (dropG G v) w' := by
  have HH := Lib.hid (has_any w F A m G h v)
  have hok := h.ok
  have hs := hok.small
  have hm := h.hm
  unfold dropG
  unfold dropOk
  cases hv : hasB G v with
  | false =>
    rw [hv] at HH
    rw [Bool.false_and, if_neg (by simp)]
    have HL := Lib.hid h
    clear h hok hv hm
    go_enter Try.func33, Try.ntmps33
    go_wp2_with (go_at_call 31; refine HH.out.mono ?_; rintro e w1 ⟨rfl, rfl⟩)
    go_ret
    exact ⟨rfl, HL.out, Tch.refl _ _⟩
  | true =>
    rw [hv] at HH
    rw [Bool.true_and]
    obtain ⟨k, rfl, hk, hth⟩ := hasB_yes hok hv
    rw [Int.toNat_natCast]
    have e1 : ((k + 1 : Nat) : Int) = (k : Int) + 1 := by omega
    have HAC := access_lf w F A m G h (k + 1) hth
    rw [e1] at HAC
    have HAC := Lib.hid HAC
    have hkm : k + 1 < m := by omega
    have HTH := Lib.hid hth
    clear h hok hv hth e1 hm
    cases h1 : decide (G.sub (G.root (k + 1)) ≤ 1) with
    | false =>
      have h1' : decide (1 < G.sub (G.root (k + 1))) = true := decide_eq_true_iff.2 (by have := decide_eq_false_iff_not.1 h1; omega)
      rw [if_neg (by simp)]
      clear h1
      go_enter Try.func33, Try.ntmps33
      go_wp2_with (go_at_call 31; refine HH.out.mono ?_; rintro e w1 ⟨rfl, rfl⟩)
      go_at_call 52
      refine HAC.out.mono ?_
      rintro e w2 ⟨last, rfl, Ps2, st2, a2, R2, h2⟩
      obtain ⟨n1, n2, n3, n4⟩ := h2.nums
      have c0 := h2.fr.c0
      have ft := h2.fr.at_tn (k + 1) hkm
      rw [n3] at ft
      obtain ⟨hF, hA⟩ := h2.fr.lt
      have HE := Lib.hid (show LPost w F A m G w2 from ⟨⟨st2, _, h2.fr, h2.inv⟩, h2.tch⟩)
      clear h2 n1 n2 n3 n4
      generalize G.sub (G.root (k + 1)) = z at *
      go_wp2_with fail
      go_ret
      exact ⟨rfl, HE.out⟩
    | true =>
      have h1' : decide (1 < G.sub (G.root (k + 1))) = false := decide_eq_false_iff_not.2 (by have := decide_eq_true_iff.1 h1; omega)
      rw [if_pos rfl]
      have HZ := Lib.hid (decide_eq_true_iff.1 h1)
      clear h1
      go_enter Try.func33, Try.ntmps33
      go_wp2_with (go_at_call 31; refine HH.out.mono ?_; rintro e w1 ⟨rfl, rfl⟩)
      go_at_call 52
      refine HAC.out.mono ?_
      rintro e w2 ⟨last, rfl, Ps2, st2, a2, R2, h2⟩
      obtain ⟨n1, n2, n3, n4⟩ := h2.nums
      have c0 := h2.fr.c0
      have ft := h2.fr.at_tn (k + 1) hkm
      rw [n3] at ft
      have fxl := h2.fr.at_l (k + 1) hkm; have fxr := h2.fr.at_r (k + 1) hkm; have fxp := h2.fr.at_p (k + 1) hkm; have fxrev := h2.fr.at_rev (k + 1) hkm; have fxw := h2.fr.at_w (k + 1) hkm; have fxadd := h2.fr.at_add (k + 1) hkm; have fxc := h2.fr.at_c (k + 1) hkm; have fxs := h2.fr.at_s (k + 1) hkm; have fxmn := h2.fr.at_mn (k + 1) hkm; have fxmx := h2.fr.at_mx (k + 1) hkm; have fxvn := h2.fr.at_vn (k + 1) hkm; have fxvs := h2.fr.at_vs (k + 1) hkm; have fxts := h2.fr.at_ts (k + 1) hkm; have fxth := h2.fr.at_th (k + 1) hkm
      obtain ⟨hF, hA⟩ := h2.fr.lt
      have HI := Lib.hid (inv_drop h2.inv HTH.out h2.way HZ.out)
      have H1 := Lib.hid h2.fr
      have HT := Lib.hid h2.tch
      have fz := h2.fr.fz
      clear h2 n1 n2 n3 n4 HZ
      generalize G.sub (G.root (k + 1)) = z at *
      go_wp2_with fail
      go_ret
      have X : FR _ F A m (st2.upd (k + 1) Nd.zero) := ((((((((((((((((H1.out.set_l (k + 1) hkm ((k + 1) * 15) rfl 0).set_r (k + 1) hkm ((k + 1) * 15 + 1) rfl 0).set_p (k + 1) hkm ((k + 1) * 15 + 2) rfl 0).set_rev (k + 1) hkm ((k + 1) * 15 + 3) rfl false).set_w (k + 1) hkm ((k + 1) * 15 + 4) rfl 0).set_add (k + 1) hkm ((k + 1) * 15 + 5) rfl 0).set_c (k + 1) hkm ((k + 1) * 15 + 6) rfl 0).set_s (k + 1) hkm ((k + 1) * 15 + 7) rfl 0).set_mn (k + 1) hkm ((k + 1) * 15 + 8) rfl 0).set_mx (k + 1) hkm ((k + 1) * 15 + 9) rfl 0).set_vn (k + 1) hkm ((k + 1) * 15 + 10) rfl 0).set_vs (k + 1) hkm ((k + 1) * 15 + 11) rfl 0).set_tn (k + 1) hkm ((k + 1) * 15 + 12) rfl 0).set_ts (k + 1) hkm ((k + 1) * 15 + 13) rfl 0).set_th (k + 1) hkm ((k + 1) * 15 + 14) rfl false)).eq (by simp only [St.upd_upd, St.upd_same]; rfl)
      have Y := (((((((((((((((HT.out.cellA (A := A) (by simp) ((k + 1) * 15) (.int .i64 0)).cellA (A := A) (by simp) ((k + 1) * 15 + 1) (.int .i64 0)).cellA (A := A) (by simp) ((k + 1) * 15 + 2) (.int .i64 0)).cellA (A := A) (by simp) ((k + 1) * 15 + 3) (.bool false)).cellA (A := A) (by simp) ((k + 1) * 15 + 4) (.int .i64 0)).cellA (A := A) (by simp) ((k + 1) * 15 + 5) (.int .i64 0)).cellA (A := A) (by simp) ((k + 1) * 15 + 6) (.int .i64 0)).cellA (A := A) (by simp) ((k + 1) * 15 + 7) (.int .i64 0)).cellA (A := A) (by simp) ((k + 1) * 15 + 8) (.int .i64 0)).cellA (A := A) (by simp) ((k + 1) * 15 + 9) (.int .i64 0)).cellA (A := A) (by simp) ((k + 1) * 15 + 10) (.int .i64 0)).cellA (A := A) (by simp) ((k + 1) * 15 + 11) (.int .i64 0)).cellA (A := A) (by simp) ((k + 1) * 15 + 12) (.int .i64 0)).cellA (A := A) (by simp) ((k + 1) * 15 + 13) (.int .i64 0)).cellA (A := A) (by simp) ((k + 1) * 15 + 14) (.bool false))
      exact ⟨rfl, ⟨_, _, X, HI.out⟩, Y⟩
theorem Drop_nil (w : World) (v : Int) : Calls Try.prog 33 #[.pointer none, .int .i64 v] w fun e w' => e = .returned (.bool false) ∧ w = w' := by
  go_enter Try.func33, Try.ntmps33
  go_wp2_with (go_at_call 31; refine (has_nil _ _).mono ?_; rintro e w1 ⟨rfl, rfl⟩)
  go_ret
  exact ⟨rfl, rfl⟩
end Go.Proofs.Ytaipladbgdcedaa
