/- The walk of PathAdd; what Check asks of the nodes. No condition of its own. -/
import Derived.Test.YtaipladbgdcedaaMf
set_option linter.unusedSimpArgs false
set_option linter.unusedVariables false
namespace Go.Proofs.Ytaipladbgdcedaa
open Go.RowKit

/-- Some nodes' weights raised. -/
def Fo.raise (G : Fo) (z : Int) : List Nat → Fo
  | [] => G
  | u :: L => (G.raise z L).set u ((G.raise z L).wt u + z)
section
variable {G : Fo} {z : Int}
theorem raise_n : ∀ L, (G.raise z L).n = G.n
  | [] => rfl
  | _ :: L => raise_n L
theorem raise_th : ∀ L, (G.raise z L).th = G.th
  | [] => rfl
  | _ :: L => raise_th L
theorem raise_up : ∀ L, (G.raise z L).up = G.up
  | [] => rfl
  | _ :: L => raise_up L
theorem raise_wt : ∀ (L : List Nat), L.Nodup → ∀ u, (G.raise z L).wt u = if u ∈ L then G.wt u + z else G.wt u
  | [], _, u => by simp [Fo.raise]
  | v :: L, hn, u => by
    obtain ⟨h1, h2⟩ := List.nodup_cons.1 hn
    show (if u = v then (G.raise z L).wt v + z else (G.raise z L).wt u) = _
    by_cases e : u = v
    · subst e
      rw [if_pos rfl, if_pos (by simp), raise_wt L h2, if_neg h1]
    · rw [if_neg e, raise_wt L h2]
      simp [e]
theorem raise_above (L : List Nat) (u : Nat) : (G.raise z L).above u = G.above u := by
  unfold Fo.above
  rw [raise_up, raise_n]
theorem raise_sub (L : List Nat) (v : Nat) : (G.raise z L).sub v = G.sub v := by
  induction L with
  | nil => rfl
  | cons u L ih => exact ih
theorem raise_ok (h : FoOk G) : ∀ (L : List Nat), L.Nodup → (∀ u ∈ L, InW (G.wt u + z)) → FoOk (G.raise z L)
  | [], _, _ => h
  | v :: L, hn, hz => by
    obtain ⟨h1, h2⟩ := List.nodup_cons.1 hn
    refine set_ok (raise_ok h L h2 (fun u hu => hz u (List.mem_cons_of_mem _ hu))) ?_
    rw [raise_wt L h2, if_neg h1]
    exact hz v (by simp)
theorem raise_ssum (h : FoOk G) (v : Nat) : ∀ (L : List Nat), L.Nodup → (∀ u ∈ L, G.th u = true ∧ InW (G.wt u + z)) → (G.raise z L).ssum v = G.ssum v + z * ((L.countP (fun u => decide (v ∈ G.above u)) : Nat) : Int)
  | [], _, _ => by simp [Fo.raise]
  | x :: L, hn, hz => by
    obtain ⟨h1, h2⟩ := List.nodup_cons.1 hn
    have hz2 := fun u hu => hz u (List.mem_cons_of_mem _ hu)
    have hok := raise_ok h L h2 (fun u hu => (hz2 u hu).2)
    have k := set_ssum (G := G.raise z L) (x := x) (z := (G.raise z L).wt x + z) hok (by rw [raise_th]; exact (hz x (by simp)).1) v
    show ((G.raise z L).set x ((G.raise z L).wt x + z)).ssum v = _
    rw [k, raise_ssum h v L h2 hz2, raise_above, List.countP_cons]
    by_cases hv : v ∈ G.above x
    · rw [if_pos hv, if_pos (by simpa using hv)]
      rw [Int.natCast_add, Int.mul_add]
      simp
      omega
    · rw [if_neg hv, if_neg (by simpa using hv)]
      simp
/-- In a way, those at or below a node are those behind it. -/
theorem VN.raise {st st' : St} {G' : Fo} (z1 : G'.ssum 0 = 0) (z2 : G.ssum 0 = 0) : ∀ (l : List Nat), (∀ v ∈ l, (st' v).vn = (st v).vn ∧ (st' v).vs = (st v).vs ∧ G'.wt v = G.wt v + z) → (∀ v, G'.sub v = G.sub v) → (∀ p v s, l = p ++ v :: s → G'.ssum v = G.ssum v + z * ((s.length + 1 : Nat) : Int)) → VN st G l → VN st' G' l := by
  intro l
  induction l with
  | nil => intro _ _ _ _; trivial
  | cons a l ih =>
    intro h hs hc k
    obtain ⟨k1, k2, k3⟩ := k
    obtain ⟨a1, a2, a3⟩ := h a (by simp)
    have ca := hc [] a l rfl
    refine ⟨by rw [a1, k1, hs, hs], ?_, ih (fun v hv => h v (List.mem_cons_of_mem _ hv)) hs (fun p v s e => hc (a :: p) v s (by rw [e]; rfl)) k3⟩
    rw [a2, k2, ca, a3]
    cases l with
    | nil =>
      show _ = _ - _ - G'.ssum 0
      rw [z1]
      show G.ssum a - G.wt a - G.ssum 0 = _
      rw [z2]
      simp
      omega
    | cons b l =>
      show G.ssum a - G.wt a - G.ssum b = _ - _ - G'.ssum b
      rw [hc [a] b l rfl]
      simp only [List.length_cons, Int.natCast_add, Int.mul_add]
      simp
      omega
end
end Go.Proofs.Ytaipladbgdcedaa
namespace Go.Proofs.Ytaipladbgdcedaa
open Go.RowKit

theorem up_tail {up : Nat → Nat} {v : Nat} {l2 : List Nat} : ∀ (l1 : List Nat) (b : Nat), Up up b (l1 ++ v :: l2) → Up up v (v :: l2)
  | [], b, h => by
    have e : b = v := h.1.symm
    subst e
    exact h
  | _ :: l1, b, h => up_tail l1 (up b) h.2.2
section
variable {G : Fo} {z : Int}
theorem way_tail (h : FoOk G) {b v : Nat} (hb : G.th b = true) {l1 l2 : List Nat} (e : G.above b = l1 ++ v :: l2) : G.above v = v :: l2 := by
  have hv := h.mem_th b v hb (by rw [e]; simp)
  have k := (h.above b hb).1
  rw [e] at k
  exact up_one (h.above v hv).1 (up_tail l1 b k)
theorem way_count (h : FoOk G) {b v : Nat} (hb : G.th b = true) {l1 l2 : List Nat} (e : G.above b = l1 ++ v :: l2) : (G.above b).countP (fun u => decide (v ∈ G.above u)) = l1.length + 1 := by
  have hv := h.mem_th b v hb (by rw [e]; simp)
  have hn := up_nodup (h.above v hv).1
  rw [way_tail h hb e] at hn
  have n1 := (List.nodup_cons.1 hn).1
  have c1 : l1.countP (fun u => decide (v ∈ G.above u)) = l1.length := List.countP_eq_length.2 (fun u hu => by
    obtain ⟨p, s, rfl⟩ := List.append_of_mem hu
    have e' : G.above b = p ++ u :: (s ++ v :: l2) := by rw [e]; simp
    rw [way_tail h hb e']
    simp)
  have c2 : l2.countP (fun u => decide (v ∈ G.above u)) = 0 := List.countP_eq_zero.2 (fun u hu => by
    obtain ⟨p, s, rfl⟩ := List.append_of_mem hu
    have e' : G.above b = (l1 ++ v :: p) ++ u :: s := by rw [e]; simp
    rw [way_tail h hb e']
    intro hd
    exact n1 (List.mem_append_right _ (by simpa using hd)))
  rw [e, List.countP_append, List.countP_cons, c1, c2, if_pos (by simpa using h.self v hv)]
set_option maxHeartbeats 800000 in
theorem inv_raise {m b : Nat} {st : St} {a : T} {R : List Path} (hI : Inv m st G ((0, .node a b .nil) :: R)) (hb : G.th b = true) (hw : a.ord ++ [b] = (G.above b).reverse) (hz : ∀ u ∈ G.above b, InW (G.wt u + z)) :
    Inv m (liftF st b z) (G.raise z (G.above b)) ((0, .node a b .nil) :: R) := by
  have hok := hI.ok
  have hN := up_nodup (hok.above b hb).1
  have ok' := raise_ok hok (G.above b) hN hz
  have hp := hI.po (0, .node a b .nil) (by simp)
  have SV := sv_lift st b z
  have hnd := hI.nd
  rw [nodes_cons] at hnd
  have n1 : (T.node a b .nil).ord.Nodup := (List.nodup_append.1 hnd).1
  have hap := hI.apart
  have inA : ∀ v, v ∈ a.ord ++ [b] ↔ v ∈ G.above b := fun v => by rw [hw]; simp
  have hthz : ∀ u ∈ G.above b, G.th u = true ∧ InW (G.wt u + z) := fun u hu => ⟨hok.mem_th b u hb hu, hz u hu⟩
  have wt1 : ∀ v, v ∈ a.ord ++ [b] → (G.raise z (G.above b)).wt v = G.wt v + z := fun v hv => by rw [raise_wt _ hN, if_pos ((inA v).1 hv)]
  have wt0 : ∀ v, v ∉ a.ord ++ [b] → (G.raise z (G.above b)).wt v = G.wt v := fun v hv => by rw [raise_wt _ hN, if_neg (fun e => hv ((inA v).2 e))]
  have LP : Lay (liftF st b z) (G.raise z (G.above b)).wt false 0 (.node a b .nil) :=
    lay_congr (fun _ _ => rfl) (fun v hv => wt1 v hv) (lay_lift (t := .node a b .nil) z n1 hI.bd hI.sb.len (fun v hv => hz v ((inA v).1 hv)) hp.lay)
  refine ⟨fun q hq => ?_, hI.nd, fun v => by rw [raise_th]; exact hI.cov v, fun v => by rw [raise_th]; exact (SV.th v).trans (hI.th v), fun v hv => ?_, SV.bd hI.bd, ok', by rw [raise_n]; exact hI.m⟩
  · rcases List.mem_cons.1 hq with e | e
    · subst e
      refine ⟨LP, hp.ne, by rw [raise_up]; exact hp.dn, ?_⟩
      have hv : VN st G (a.ord ++ [b]) := hp.vn
      show VN (liftF st b z) (G.raise z (G.above b)) (a.ord ++ [b])
      refine VN.raise (ssum_zero ok') (ssum_zero hok) _ (fun v hv => ⟨SV.vn v, SV.vs v, wt1 v hv⟩) (fun v => raise_sub _ v) (fun p v s e => ?_) hv
      have e' : G.above b = s.reverse ++ v :: p.reverse := by
        have := congrArg List.reverse (hw.symm.trans e)
        simpa using this
      rw [raise_ssum hok v _ hN hthz, way_count hok hb e', List.length_reverse]
    · have k := hI.po q (List.mem_cons_of_mem _ e)
      have out : ∀ v ∈ q.2.ord, v ∉ a.ord ++ [b] := fun v hv hv' => hap v hv' (List.mem_flatMap.2 ⟨q, e, hv⟩)
      have hvx : ∀ v ∈ q.2.ord, v ≠ b := fun v hv e => out v hv (by simp [e])
      refine ⟨lay_congr (fun v h => lift_ne _ _ _ _ (hvx v h)) (fun v h => wt0 v (out v h)) k.lay, k.ne, by rw [raise_up]; exact k.dn, vn_congrG (G := G) (G' := G.raise z (G.above b)) (fun v h => ?_) (raise_sub _ 0) ((ssum_zero ok').trans (ssum_zero hok).symm) k.vn⟩
      have e3 : (G.raise z (G.above b)).ssum v = G.ssum v := by
        rw [raise_ssum hok v _ hN hthz, List.countP_eq_zero.2 (fun u hu => ?_)]
        · simp
        · intro hd
          have hd' : v ∈ G.above u := by simpa using hd
          exact out v h ((inA v).2 (hok.trans b u v hb hu hd'))
      refine ⟨SV.vn v, SV.vs v, by rw [raise_sub, raise_sub], ?_, wt0 v (out v h)⟩
      rw [e3, ssum_zero ok', ssum_zero hok]
  · rw [raise_th] at hv
    have e : v ≠ b := fun e => by subst e; rw [hb] at hv; cases hv
    rw [lift_ne _ _ _ _ e]
    exact hI.off v hv
end
end Go.Proofs.Ytaipladbgdcedaa
namespace Go.Proofs.Ytaipladbgdcedaa
open Go.RowKit

theorem raise_ev (G : Fo) (z : Int) (x : Nat) : ∀ (L : List Nat), (G.raise z L).ev x = (G.ev x).raise z L
  | [] => rfl
  | u :: L => by
    show ((G.raise z L).ev x).set u (((G.raise z L).ev x).wt u + z) = ((G.ev x).raise z L).set u (((G.ev x).raise z L).wt u + z)
    rw [raise_ev G z x L]
theorem raise_back {G : Fo} (h : FoOk G) {x : Nat} (hx : G.th x = true) (z : Int) (L : List Nat) : ((G.ev x).raise z L).ev (G.root x) = G.raise z L := by
  rw [raise_ev, ev_back h hx]
/-- What PathAdd does, by outer numbers. -/
def pathAddOk (G : Fo) (a b z : Int) : Bool := sameB G a b && (addB (sumE G a b).mn z && addB (sumE G a b).mx z)
def pathAddG (G : Fo) (a b z : Int) : Fo := if pathAddOk G a b z = true then G.raise z ((G.ev (a.toNat + 1)).above (b.toNat + 1)) else G
end Go.Proofs.Ytaipladbgdcedaa
namespace Go.Proofs.Ytaipladbgdcedaa
open Go.RowKit

theorem sumL_in (l : List Int) : ∀ a ∈ l, (sumL l).mn ≤ a ∧ a ≤ (sumL l).mx := by
  induction l with
  | nil => intro a ha; cases ha
  | cons b l ih =>
    intro a ha
    by_cases e : l = []
    · subst e
      have : a = b := by simpa using ha
      subst this
      rw [sumL_one]
      exact ⟨Int.le_refl _, Int.le_refl _⟩
    · rw [sumL_cons_pos b l e]
      show min b (sumL l).mn ≤ a ∧ a ≤ max b (sumL l).mx
      rcases List.mem_cons.1 ha with e1 | e1
      · subst e1; omega
      · have := ih a e1; omega
set_option maxRecDepth 100000 in
set_option maxHeartbeats 4000000 in
theorem PathAdd_no (w : World) (F A m : Nat) (G : Fo) (h : LF w F A m G) (a b z : Int) (hv : pathAddOk G a b z = false) : Calls Try.prog 28 #[.pointer (some ⟨F, 0, none⟩), .int .i64 a, .int .i64 b, .int .i64 z] w fun e w' => e = .returned (.bool false) ∧ LPost w F A m G w' := by
  have HP := Lib.hid (Path_any w F A m G h a b)
  unfold pathAddOk at hv
  generalize sumE G a b = q at *
  obtain ⟨q0, q1, q2, q3⟩ := q
  have A1 := Lib.hid (fun w => add_any q2 z w)
  have A2 := Lib.hid (fun w => add_any q3 z w)
  simp only [Sm.val] at HP hv
  cases hs : sameB G a b with
  | false =>
    rw [hs] at HP
    clear hs hv h
    go_enter Try.func28, Try.ntmps28
    go_wp2_with fail
    go_at_call 18
    refine HP.out.mono ?_
    rintro e w2 ⟨rfl, h2⟩
    have H2 := Lib.hid h2
    clear h2
    go_wp2_with fail
    go_ret
    exact ⟨rfl, H2.out.1.quiet ((Tch.refl _ _).new _), H2.out.2.new _⟩
  | true =>
    rw [hs] at HP hv
    simp only [Bool.true_and] at hv
    clear hs h
    go_enter Try.func28, Try.ntmps28
    go_wp2_with fail
    go_at_call 18
    refine HP.out.mono ?_
    rintro e w2 ⟨rfl, h2⟩
    have H2 := Lib.hid h2
    clear h2
    go_wp2_with fail
    go_at_call 64
    refine (A1.out _).mono ?_
    rintro e w3 ⟨v3, rfl, rfl⟩
    go_wp2_with fail
    go_at_call 64
    refine (A2.out _).mono ?_
    rintro e w4 ⟨v4, rfl, rfl⟩
    generalize addB q2 z = b1 at *
    generalize addB q3 z = b2 at *
    cases b1 <;> cases b2 <;> (try (simp at hv; done))
    all_goals
      go_wp2_with fail
      go_ret
      exact ⟨rfl, H2.out.1.quiet ((Tch.refl _ _).new _), H2.out.2.new _⟩
set_option maxRecDepth 100000 in
set_option maxHeartbeats 4000000 in
theorem PathAdd_yes (w : World) (F A m : Nat) (G : Fo) (h : LF w F A m G) (i j : Nat) (z : Int) (hi : G.th (i + 1) = true) (hj : G.th (j + 1) = true) (hv : sameB G i j = true) (h1 : addB (G.psum (i + 1) (j + 1)).mn z = true) (h2 : addB (G.psum (i + 1) (j + 1)).mx z = true) : Calls Try.prog 28 #[.pointer (some ⟨F, 0, none⟩), .int .i64 i, .int .i64 j, .int .i64 z] w fun e w' => e = .returned (.bool true) ∧ LPost w F A m (G.raise z ((G.ev (i + 1)).above (j + 1))) w' := by
  have HP := Path_any w F A m G h i j
  have hq : sumE G i j = G.psum (i + 1) (j + 1) := by unfold sumE; rw [if_pos hv, Int.toNat_natCast, Int.toNat_natCast]
  rw [hv, hq] at HP
  have hok := h.ok
  have hz : ∀ u ∈ (G.ev (i + 1)).above (j + 1), InW ((G.ev (i + 1)).wt u + z) := by
    intro u hu
    have := sumL_in (((G.ev (i + 1)).above (j + 1)).map G.wt) (G.wt u) (List.mem_map.2 ⟨u, hu, rfl⟩)
    have k : (G.psum (i + 1) (j + 1)).mn ≤ G.wt u ∧ G.wt u ≤ (G.psum (i + 1) (j + 1)).mx := this
    unfold addB at h1 h2
    simp only [Bool.and_eq_true] at h1 h2
    have f1 : -1099511627776 ≤ (G.psum (i + 1) (j + 1)).mn + z ∧ (G.psum (i + 1) (j + 1)).mn + z ≤ 1099511627776 := decide_eq_true_iff.1 h1.1.2
    have f2 : -1099511627776 ≤ (G.psum (i + 1) (j + 1)).mx + z ∧ (G.psum (i + 1) (j + 1)).mx + z ≤ 1099511627776 := decide_eq_true_iff.1 h2.1.2
    show -1099511627776 ≤ G.wt u + z ∧ G.wt u + z ≤ 1099511627776
    omega
  have HZ := Lib.hid hz
  generalize G.psum (i + 1) (j + 1) = q at *
  obtain ⟨q0, q1, q2, q3⟩ := q
  have A1 := fun w => add_any q2 z w
  have A2 := fun w => add_any q3 z w
  unfold AddPost at A1 A2
  rw [show addB q2 z = true from h1] at A1
  rw [show addB q3 z = true from h2] at A2
  have A1 := Lib.hid A1
  have A2 := Lib.hid A2
  simp only [Sm.val] at HP
  have HP := Lib.hid HP
  have hs := hok.small
  have hm := h.hm
  have hir := hok.rng _ hi
  have hjr := hok.rng _ hj
  have e1 : ((i + 1 : Nat) : Int) = (i : Int) + 1 := by omega
  have e2 : ((j + 1 : Nat) : Int) = (j : Int) + 1 := by omega
  have HR := fun (w2 : World) (h2 : LF w2 F A m G) => root_any w2 F A m G h2 (i + 1) hi
  rw [e1] at HR
  have HR := Lib.hid HR
  have HPA := fun (w2 : World) (h2 : LF w2 F A m G) => path_any w2 F A m G h2 (i + 1) (j + 1) hi hj
  rw [e1, e2] at HPA
  have HPA := Lib.hid HPA
  have hjm : j + 1 < m := by omega
  have HLI := fun (w2 : World) (st : St) (h2 : FR w2 F A m st) => lift_node w2 F A m st h2 (j + 1) hjm z
  rw [e2] at HLI
  have HLI := Lib.hid HLI
  have HB := Lib.hid (raise_back hok hi z ((G.ev (i + 1)).above (j + 1)))
  obtain ⟨rt, _⟩ := root_bd hok (i + 1) hi
  have HE := Lib.hid (fun (w2 : World) (h2 : LF w2 F A m ((G.ev (i + 1)).raise z ((G.ev (i + 1)).above (j + 1)))) => evert_any w2 F A m _ h2 (G.root (i + 1)) (by rw [raise_th]; exact rt))
  have HJ := Lib.hid (show (G.ev (i + 1)).th (j + 1) = true from hj)
  have hrr := hok.rng _ rt
  clear h hv hok hi hj e1 e2 rt hm hq hz h1 h2
  obtain ⟨r, hr⟩ : ∃ r, r = G.root (i + 1) := ⟨_, rfl⟩
  rw [← hr] at HR HB HE hrr
  clear hr
  go_enter Try.func28, Try.ntmps28
  go_wp2_with fail
  go_at_call 18
  refine HP.out.mono ?_
  rintro e w2 ⟨rfl, h2⟩
  have H2 := Lib.hid h2
  clear h2
  go_wp2_with fail
  go_at_call 64
  refine (A1.out _).mono ?_
  rintro e w3 ⟨v3, rfl, rfl⟩
  go_wp2_with fail
  go_at_call 64
  refine (A2.out _).mono ?_
  rintro e w4 ⟨v4, rfl, rfl⟩
  go_wp2_with fail
  go_at_call 53
  refine (HR.out _ (H2.out.1.quiet ((Tch.refl _ _).new _))).mono ?_
  rintro e w5 ⟨rfl, h5⟩
  have H5 := Lib.hid (And.intro h5.1 ((H2.out.2.new _).trans h5.2))
  clear h5 H2
  go_wp2_with fail
  go_at_call 54
  refine (HPA.out w5 H5.out.1).mono ?_
  rintro e w6 ⟨rfl, Ps6, st6, a6, R6, h6⟩
  have HI := Lib.hid (inv_raise h6.inv HJ.out h6.way HZ.out)
  have HT := Lib.hid (H5.out.2.trans h6.tch)
  have HF := Lib.hid h6.fr
  clear h6 H5 HZ
  go_wp2_with fail
  go_at_call 65
  refine (HLI.out w6 st6 HF.out).mono ?_
  rintro e w7 ⟨rfl, h7, T7⟩
  have L7 := Lib.hid (show LF w7 F A m _ from ⟨_, _, h7, HI.out⟩)
  have T7 := Lib.hid (HT.out.trans T7)
  clear h7 HF HT
  go_wp2_with fail
  go_at_call 55
  refine (HE.out w7 L7.out).mono ?_
  rintro e w8 ⟨rfl, h8⟩
  rw [HB.out] at h8
  have H8 := Lib.hid h8
  clear h8
  go_wp2_with fail
  go_ret
  exact ⟨rfl, H8.out.1, T7.out.trans H8.out.2⟩
theorem PathAdd_any (w : World) (F A m : Nat) (G : Fo) (h : LF w F A m G) (a b z : Int) : Calls Try.prog 28 #[.pointer (some ⟨F, 0, none⟩), .int .i64 a, .int .i64 b, .int .i64 z] w fun e w' => e = .returned (.bool (pathAddOk G a b z)) ∧ LPost w F A m (pathAddG G a b z) w' := by
  unfold pathAddG
  cases hv : pathAddOk G a b z with
  | false =>
    rw [if_neg (by simp)]
    exact PathAdd_no w F A m G h a b z hv
  | true =>
    rw [if_pos rfl]
    unfold pathAddOk at hv
    rw [Bool.and_eq_true, Bool.and_eq_true] at hv
    obtain ⟨h1, h2, h3⟩ := hv
    obtain ⟨i, j, rfl, rfl, _, _, hi, hj, _⟩ := sameB_yes h.ok h1
    have hq : sumE G i j = G.psum (i + 1) (j + 1) := by unfold sumE; rw [if_pos h1, Int.toNat_natCast, Int.toNat_natCast]
    rw [hq] at h2 h3
    rw [Int.toNat_natCast, Int.toNat_natCast]
    exact PathAdd_yes w F A m G h i j z hi hj h1 h2 h3
end Go.Proofs.Ytaipladbgdcedaa
namespace Go.Proofs.Ytaipladbgdcedaa
open Go.RowKit

theorem few_any (w : World) (n : Int) (h0 : 0 ≤ n) (h1 : n < 256) : Calls Try.prog 34 #[.int .u8 n] w fun e w' => e = .returned (.int .i64 (n % 41)) ∧ w = w' := by
  go_enter Try.func34, Try.ntmps34
  go_wp2
  go_ret
  exact ⟨rfl, rfl⟩
end Go.Proofs.Ytaipladbgdcedaa
namespace Go.Proofs.Ytaipladbgdcedaa
open Go.RowKit

theorem all_add (f h : Nat → Int) : ∀ (R : List Nat), sumIf (fun _ => true) (fun u => f u + h u) R = sumIf (fun _ => true) f R + sumIf (fun _ => true) h R
  | [] => rfl
  | a :: R => by
    unfold sumIf
    rw [all_add f h R]
    simp
    omega
theorem all_if (p : Nat → Bool) (g : Nat → Int) : ∀ (R : List Nat), sumIf (fun _ => true) (fun u => if p u = true then g u else 0) R = sumIf p g R
  | [] => rfl
  | a :: R => by
    unfold sumIf
    rw [all_if p g R]
    simp
theorem sum_swap (p : Nat → Bool) (q : Nat → Nat → Bool) (g : Nat → Int) (R : List Nat) : ∀ (S : List Nat), sumIf p (fun c => sumIf (q c) g R) S = sumIf (fun _ => true) (fun u => g u * ((S.countP (fun c => p c && q c u) : Nat) : Int)) R
  | [] => by
    have : ∀ (R : List Nat), sumIf (fun _ => true) (fun u => g u * ((([] : List Nat).countP (fun c => p c && q c u) : Nat) : Int)) R = 0 := by
      intro R
      induction R with
      | nil => rfl
      | cons a R ih =>
        unfold sumIf
        rw [ih]
        simp
    rw [this]
    rfl
  | c :: S => by
    have e : sumIf (fun _ => true) (fun u => g u * (((c :: S).countP (fun c => p c && q c u) : Nat) : Int)) R = sumIf (fun _ => true) (fun u => (if (p c && q c u) = true then g u else 0) + g u * ((S.countP (fun c => p c && q c u) : Nat) : Int)) R := by
      refine sumIf_congr R (fun u _ => ⟨rfl, fun _ => ?_⟩)
      rw [List.countP_cons]
      by_cases h : (p c && q c u) = true
      · rw [if_pos h, if_pos h, Int.natCast_add, Int.mul_add]
        simp
        omega
      · rw [if_neg h, if_neg h]
        simp
    rw [e, all_add, all_if (fun u => p c && q c u), ← sum_swap p q g R S]
    have ec : sumIf p (fun c => sumIf (q c) g R) (c :: S) = (if p c = true then sumIf (q c) g R else 0) + sumIf p (fun c => sumIf (q c) g R) S := rfl
    rw [ec]
    cases hp : p c with
    | false =>
      rw [if_neg (by simp), sumIf_none R (fun u _ => by rw [Bool.false_and])]
    | true =>
      rw [if_pos rfl]
      simp only [Bool.true_and]
section
variable {G : Fo}
def kidB (G : Fo) (y c : Nat) : Bool := G.th c && G.up c == y
theorem kid_count (h : FoOk G) {y : Nat} (hy : G.th y = true) (u : Nat) : (List.range (G.n + 1)).countP (fun c => kidB G y c && isBelow G c u) = if isBelow G y u = true ∧ u ≠ y then 1 else 0 := by
  have y0 := h.nz y hy
  by_cases hu : isBelow G y u = true ∧ u ≠ y
  · rw [if_pos hu]
    obtain ⟨hb, hne⟩ := hu
    obtain ⟨hut, hya⟩ := (isBelow_iff G y u).1 hb
    obtain ⟨l1, l2, e⟩ := List.append_of_mem hya
    rcases List.eq_nil_or_concat l1 with e1 | ⟨l, c, e1⟩
    · exfalso
      rw [e1, h.above_cons u hut] at e
      exact hne (by simpa using (List.cons.inj (show u :: G.above (G.up u) = y :: l2 from e)).1)
    · rw [e1] at e
      have e' : G.above u = l ++ c :: (y :: l2) := by rw [e]; simp
      have hct := h.mem_th u c hut (by rw [e']; simp)
      have hc := way_tail h hut e'
      have hcu : G.up c = y := by
        have k := (h.above c hct).1
        rw [hc] at k
        exact k.2.2.1.symm
      refine countP_one c (List.range (G.n + 1)) List.nodup_range (by have := h.rng c hct; simp; omega) (fun v _ => ?_)
      constructor
      · intro hv
        unfold kidB at hv
        simp only [Bool.and_eq_true, beq_iff_eq] at hv
        obtain ⟨⟨hvt, hvu⟩, hvb⟩ := hv
        obtain ⟨s, t, es⟩ := List.append_of_mem ((isBelow_iff G v u).1 hvb).2
        have hvw := way_tail h hut es
        have hyw := way_tail h hut e
        rw [h.above_cons v hvt, hvu, hyw] at hvw
        have ht : t = y :: l2 := (List.cons.inj hvw).2.symm
        rw [ht, e'] at es
        have := List.append_inj' es (by simp)
        exact ((List.cons.inj this.2).1).symm
      · intro hv
        rw [hv]
        unfold kidB
        simp only [Bool.and_eq_true, beq_iff_eq]
        exact ⟨⟨hct, hcu⟩, (isBelow_iff G c u).2 ⟨hut, by rw [e']; simp⟩⟩
  · rw [if_neg hu]
    refine List.countP_eq_zero.2 (fun c _ hc => hu ?_)
    unfold kidB at hc
    simp only [Bool.and_eq_true, beq_iff_eq] at hc
    obtain ⟨⟨hct, hcu⟩, hcb⟩ := hc
    obtain ⟨hut, hca⟩ := (isBelow_iff G c u).1 hcb
    have hyc : y ∈ G.above c := by rw [h.above_cons c hct, hcu]; exact List.mem_cons_of_mem _ (h.self y hy)
    refine ⟨(isBelow_iff G y u).2 ⟨hut, h.trans u c y hut hca hyc⟩, fun e => ?_⟩
    subst e
    have d1 := h.dp_up c hct
    rw [hcu] at d1
    by_cases e : c = u
    · subst e; omega
    · have := h.dp_lt u c hut hca e
      omega
/-- What is below a node: itself, and what is below its kids. -/
theorem kid_tot (h : FoOk G) {y : Nat} (hy : G.th y = true) (g : Nat → Int) : sumIf (isBelow G y) g (List.range (G.n + 1)) = g y + sumIf (kidB G y) (fun c => sumIf (isBelow G c) g (List.range (G.n + 1))) (List.range (G.n + 1)) := by
  rw [sum_swap]
  have hr := h.rng y hy
  have e1 : sumIf (fun u => decide (u = y)) g (List.range (G.n + 1)) = g y := sumIf_one y _ List.nodup_range (by simp; omega) (fun u _ => by simp)
  rw [← e1, ← all_if (isBelow G y), ← all_if (fun u => decide (u = y)), ← all_add]
  refine sumIf_congr _ (fun u _ => ⟨rfl, fun _ => ?_⟩)
  rw [kid_count h hy]
  by_cases e : u = y
  · subst e
    have hb : isBelow G u u = true := (isBelow_iff G u u).2 ⟨hy, h.self u hy⟩
    simp [hb]
  · by_cases hb : isBelow G y u = true
    · simp [hb, e]
    · simp [hb, e]
theorem kid_ssum (h : FoOk G) {y : Nat} (hy : G.th y = true) : G.ssum y = G.wt y + sumIf (kidB G y) G.ssum (List.range (G.n + 1)) := kid_tot h hy G.wt
theorem sub_sumIf (G : Fo) (v : Nat) : G.sub v = sumIf (isBelow G v) (fun _ => 1) (List.range (G.n + 1)) := by
  unfold Fo.sub
  induction List.range (G.n + 1) with
  | nil => rfl
  | cons a l ih =>
    rw [List.countP_cons]
    unfold sumIf
    rw [← ih, Int.natCast_add]
    by_cases hb : isBelow G v a = true
    · simp [hb]; omega
    · simp [hb]
theorem kid_sub (h : FoOk G) {y : Nat} (hy : G.th y = true) : G.sub y = 1 + sumIf (kidB G y) G.sub (List.range (G.n + 1)) := by
  rw [sub_sumIf G y, kid_tot h hy]
  congr 1
  exact sumIf_congr _ (fun c _ => ⟨rfl, fun _ => (sub_sumIf G c).symm⟩)
end
end Go.Proofs.Ytaipladbgdcedaa
namespace Go.Proofs.Ytaipladbgdcedaa
open Go.RowKit

/-- What a path's root holds. -/
theorem root_holds {m : Nat} {st : St} {G : Fo} {Ps : List Path} (hI : Inv m st G Ps) (p : Nat) (t : T) (hq : (p, t) ∈ Ps) : topB st t.rt = true ∧ (st t.rt).p = p ∧ (st t.rt).tn = G.sub (hd t.ord) ∧ (st t.rt).ts = G.ssum (hd t.ord) ∧ G.up (hd t.ord) = p ∧ hd t.ord ∈ t.ord := by
  obtain ⟨l1, l2, e⟩ := List.append_of_mem hq
  have hI2 : Inv m st G ((p, t) :: (l1 ++ l2)) := hI.perm (by rw [e]; exact List.perm_middle)
  have hp := hI2.po (p, t) (by simp)
  have k := top_nil hp.lay hp.ne hI2.sb.ap
  have tt := lay_tot hI2.bd.zero hp.lay
  have hne : t.ord ≠ [] := fun e0 => by
    have := rt_mem hp.ne
    simp only [] at this
    rw [e0] at this
    cases this
  have hk := hd_kid hp.dn hne
  exact ⟨k.2, k.1, tt.1.trans (vn_tn hI2.ok hp.vn), tt.2.trans (vn_ts hI2.ok hp.vn), hk.1, hk.2⟩
/-- A top is a path's root. -/
theorem top_root {m : Nat} {st : St} {G : Fo} {Ps : List Path} (hI : Inv m st G Ps) (u : Nat) (hu : G.th u = true) (ht : topB st u = true) : ∃ p t, (p, t) ∈ Ps ∧ t.rt = u := by
  obtain ⟨⟨p, t⟩, R, hp, hm⟩ := hI.find u hu
  refine ⟨p, t, hp.mem_iff.2 (by simp), ?_⟩
  obtain ⟨C, a, b, e⟩ := t_split t u hm
  cases C with
  | nil => rw [e]; rfl
  | cons f C =>
    exfalso
    have hI2 := hI.perm hp
    have hl : Lay st G.wt false p t := (hI2.po (p, t) (by simp)).lay
    rw [e] at hl
    have k := top_cons hl (hI.ok.nz u hu)
    have k2 : topB st u = false := k.2.1
    rw [k2] at ht
    cases ht
end Go.Proofs.Ytaipladbgdcedaa
namespace Go.Proofs.Ytaipladbgdcedaa
open Go.RowKit

def lsum : List Int → Int
  | [] => 0
  | a :: l => a + lsum l
theorem sumIf_list {g : Nat → Int} {R : List Nat} (hR : R.Nodup) : ∀ (L : List Nat) (p : Nat → Bool), L.Nodup → (∀ x ∈ L, x ∈ R) → (∀ x ∈ R, p x = true ↔ x ∈ L) → sumIf p g R = lsum (L.map g)
  | [], p, _, _, h => sumIf_none R (fun u hu => by
      cases hp : p u with
      | false => rfl
      | true => exact absurd ((h u hu).1 hp) (by simp))
  | a :: L, p, hn, hm, h => by
    obtain ⟨n1, n2⟩ := List.nodup_cons.1 hn
    have k := sumIf_add (p := fun x => decide (x = a)) (q := fun x => decide (x ∈ L)) (r := p) (g := g) R (fun u _ hu => by
      obtain ⟨h1, h2⟩ := hu
      have e1 : u = a := by simpa using h1
      have e2 : u ∈ L := by simpa using h2
      exact n1 (e1 ▸ e2)) (fun u hu => by rw [h u hu]; simp)
    rw [k, sumIf_one a R hR (hm a (by simp)) (fun u _ => by simp), sumIf_list hR L _ n2 (fun x hx => hm x (List.mem_cons_of_mem _ hx)) (fun x _ => by simp)]
    rfl
theorem pick_nodup (f : Path → Nat) : ∀ (Ps : List Path), (nodes Ps).Nodup → (∀ q ∈ Ps, f q ∈ q.2.ord) → (Ps.map f).Nodup
  | [], _, _ => List.nodup_nil
  | q :: Ps, hn, hf => by
    rw [nodes_cons] at hn
    obtain ⟨_, n2, n3⟩ := List.nodup_append.1 hn
    refine List.nodup_cons.2 ⟨fun hm => ?_, pick_nodup f Ps n2 (fun r hr => hf r (List.mem_cons_of_mem _ hr))⟩
    obtain ⟨r, hr, e⟩ := List.mem_map.1 hm
    have h1 := hf r (List.mem_cons_of_mem _ hr)
    rw [e] at h1
    exact n3 _ (hf q (by simp)) _ (List.mem_flatMap.2 ⟨r, hr, h1⟩) rfl
end Go.Proofs.Ytaipladbgdcedaa
namespace Go.Proofs.Ytaipladbgdcedaa
open Go.RowKit

def topOf (st : St) (G : Fo) (y x : Nat) : Bool := G.th x && (topB st x && (st x).p == y)
def hung (y : Nat) (Ps : List Path) : List Path := Ps.filter (fun q => q.1 == y)
theorem hung_nodup {f : Path → Nat} {y : Nat} {Ps : List Path} (hn : (nodes Ps).Nodup) (hf : ∀ q ∈ Ps, f q ∈ q.2.ord) : ((hung y Ps).map f).Nodup :=
  List.Nodup.sublist (List.Sublist.map f List.filter_sublist) (pick_nodup f Ps hn hf)
/-- What the tops under a node hold. -/
theorem top_sum {m : Nat} {st : St} {G : Fo} {Ps : List Path} (hI : Inv m st G Ps) (y : Nat) (g : Nat → Int) (f : Nat → Int) (hg : ∀ q ∈ Ps, g q.2.rt = f (hd q.2.ord)) : sumIf (topOf st G y) g (List.range m) = lsum (((hung y Ps).map (fun q => hd q.2.ord)).map f) := by
  have hrt : ∀ q ∈ Ps, q.2.rt ∈ q.2.ord := fun q hq => rt_mem (hI.po q hq).ne
  have e : ((hung y Ps).map (fun q => q.2.rt)).map g = ((hung y Ps).map (fun q => hd q.2.ord)).map f := by
    rw [List.map_map, List.map_map]
    exact List.map_congr_left (fun q hq => hg q (List.mem_filter.1 hq).1)
  rw [← e]
  refine sumIf_list List.nodup_range _ _ (hung_nodup hI.nd hrt) (fun x hx => ?_) (fun x _ => ?_)
  · obtain ⟨q, hq, rfl⟩ := List.mem_map.1 hx
    have hq' := (List.mem_filter.1 hq).1
    have := hI.ok.rng _ (hI.node_th hq' _ (hrt q hq'))
    have := hI.m
    simp
    omega
  · unfold topOf
    simp only [Bool.and_eq_true, beq_iff_eq]
    constructor
    · rintro ⟨h1, h2, h3⟩
      obtain ⟨p, t, hq, rfl⟩ := top_root hI x h1 h2
      have k := root_holds hI p t hq
      refine List.mem_map.2 ⟨(p, t), List.mem_filter.2 ⟨hq, ?_⟩, rfl⟩
      have : p = y := k.2.1.symm.trans h3
      simp [this]
    · intro hx
      obtain ⟨⟨p, t⟩, hq, rfl⟩ := List.mem_map.1 hx
      obtain ⟨hq', hy⟩ := List.mem_filter.1 hq
      have k := root_holds hI p t hq'
      have hy' : p = y := by simpa using hy
      exact ⟨hI.node_th hq' _ (hrt _ hq'), k.1, k.2.1.trans hy'⟩
end Go.Proofs.Ytaipladbgdcedaa
namespace Go.Proofs.Ytaipladbgdcedaa
open Go.RowKit

theorem dn_up {up : Nat → Nat} : ∀ (l : List Nat) (p d c : Nat) (s : List Nat), Dn up p (l ++ d :: c :: s) → up c = d
  | [], _, _, _, _, h => h.2.1
  | _ :: l, _, d, c, s, h => dn_up l _ d c s h.2
/-- A kid is the head of a path hung there, or the next in its parent's path. -/
theorem kid_where {m : Nat} {st : St} {G : Fo} {Ps : List Path} (hI : Inv m st G Ps) (c : Nat) (hc : G.th c = true) : (∃ q ∈ Ps, hd q.2.ord = c ∧ q.1 = G.up c) ∨ (∃ q ∈ Ps, ∃ l s, q.2.ord = l ++ G.up c :: c :: s) := by
  obtain ⟨⟨p, t⟩, R, hp, hm⟩ := hI.find c hc
  have hq : (p, t) ∈ Ps := hp.mem_iff.2 (by simp)
  have hpo := hI.po _ hq
  have hdn : Dn G.up p t.ord := hpo.dn
  have hm : c ∈ t.ord := hm
  obtain ⟨l, s, e⟩ := List.append_of_mem hm
  rcases List.eq_nil_or_concat l with e1 | ⟨l', d, e1⟩
  · refine .inl ⟨(p, t), hq, ?_, ?_⟩
    · show hd t.ord = c
      rw [e, e1]; rfl
    · rw [e, e1] at hdn
      exact hdn.1.symm
  · refine .inr ⟨(p, t), hq, l', s, ?_⟩
    have e2 : t.ord = l' ++ d :: c :: s := by rw [e, e1]; simp
    rw [e2] at hdn
    rw [dn_up l' p d c s hdn]
    exact e2
end Go.Proofs.Ytaipladbgdcedaa
namespace Go.Proofs.Ytaipladbgdcedaa
open Go.RowKit

theorem split_one {y : Nat} {s s' : List Nat} : ∀ (l l' : List Nat), (l ++ y :: s).Nodup → l ++ y :: s = l' ++ y :: s' → s = s'
  | [], [], _, e => (List.cons.inj e).2
  | [], b :: l', hn, e => by
    have e' : y :: s = b :: (l' ++ y :: s') := e
    obtain ⟨e1, e2⟩ := List.cons.inj e'
    exact absurd (by rw [e2]; simp) (List.nodup_cons.1 hn).1
  | a :: l, [], hn, e => by
    have e' : a :: (l ++ y :: s) = y :: s' := e
    obtain ⟨e1, e2⟩ := List.cons.inj e'
    exact absurd (by rw [e1]; simp) (List.nodup_cons.1 hn).1
  | a :: l, b :: l', hn, e => by
    have e' : a :: (l ++ y :: s) = b :: (l' ++ y :: s') := e
    exact split_one l l' (List.nodup_cons.1 hn).2 (List.cons.inj e').2
/-- A node's kids, as a list. -/
theorem kid_sum {m : Nat} {st : St} {G : Fo} {Ps : List Path} (hI : Inv m st G Ps) (y : Nat) (hy : G.th y = true) (f : Nat → Int) (f0 : f 0 = 0) : ∃ p t l s, (p, t) ∈ Ps ∧ t.ord = l ++ y :: s ∧ sumIf (kidB G y) f (List.range (G.n + 1)) = f (hd s) + lsum (((hung y Ps).map (fun q => hd q.2.ord)).map f) := by
  obtain ⟨⟨p, t⟩, R, hp, hm⟩ := hI.find y hy
  have hq : (p, t) ∈ Ps := hp.mem_iff.2 (by simp)
  have hm : y ∈ t.ord := hm
  obtain ⟨l, s, e⟩ := List.append_of_mem hm
  refine ⟨p, t, l, s, hq, e, ?_⟩
  have hI2 := hI.perm hp
  have hap := hI2.apart
  have hnt : t.ord.Nodup := hI2.sb.n
  have hdn : Dn G.up p t.ord := (hI.po _ hq).dn
  have hhd : ∀ q ∈ Ps, hd q.2.ord ∈ q.2.ord ∧ G.up (hd q.2.ord) = q.1 := fun q hq => ⟨(root_holds hI q.1 q.2 hq).2.2.2.2.2, (root_holds hI q.1 q.2 hq).2.2.2.2.1⟩
  have nd2 := hung_nodup (y := y) (f := fun q => hd q.2.ord) hI.nd (fun q hq => (hhd q hq).1)
  have hin : ∀ x, G.th x = true → x ∈ List.range (G.n + 1) := fun x hx => by have := hI.ok.rng x hx; simp; omega
  have mem2 : ∀ x, x ∈ (hung y Ps).map (fun q => hd q.2.ord) → G.th x = true ∧ G.up x = y := fun x hx => by
    obtain ⟨q, hq', rfl⟩ := List.mem_map.1 hx
    obtain ⟨k1, k2⟩ := List.mem_filter.1 hq'
    exact ⟨hI.node_th k1 _ (hhd q k1).1, (hhd q k1).2.trans (by simpa using k2)⟩
  have whr : ∀ c, G.th c = true → G.up c = y → c ∈ (hung y Ps).map (fun q => hd q.2.ord) ∨ ∃ s', s = c :: s' := fun c hc hu => by
    rcases kid_where hI c hc with ⟨q, h1, h2, h3⟩ | ⟨q, h1, l', s', h2⟩
    · exact .inl (List.mem_map.2 ⟨q, List.mem_filter.2 ⟨h1, by simp [h3, hu]⟩, h2⟩)
    · refine .inr ⟨s', ?_⟩
      rw [hu] at h2
      rcases List.mem_cons.1 (hp.mem_iff.1 h1) with e1 | e1
      · subst e1
        rw [e] at hnt
        exact split_one l l' hnt (e.symm.trans h2)
      · exact absurd (List.mem_flatMap.2 ⟨q, e1, by rw [h2]; simp⟩) (hap y hm)
  cases s with
  | nil =>
    show _ = f 0 + _
    rw [f0, Int.zero_add]
    refine sumIf_list List.nodup_range _ _ nd2 (fun x hx => hin x (mem2 x hx).1) (fun c _ => ?_)
    unfold kidB
    simp only [Bool.and_eq_true, beq_iff_eq]
    constructor
    · rintro ⟨h1, h2⟩
      rcases whr c h1 h2 with k | ⟨s', k⟩
      · exact k
      · cases k
    · exact fun h => mem2 c h
  | cons d s =>
    have hd1 : d ∈ t.ord := by rw [e]; simp
    have hdt : G.th d = true := hI.node_th hq d hd1
    have hdu : G.up d = y := by rw [e] at hdn; exact dn_up l p y d s hdn
    have dn : d ∉ (hung y Ps).map (fun q => hd q.2.ord) := fun hx => by
      obtain ⟨q, hq', e2⟩ := List.mem_map.1 hx
      have k1 := (List.mem_filter.1 hq').1
      have e2 : hd q.2.ord = d := e2
      rcases List.mem_cons.1 (hp.mem_iff.1 k1) with e1 | e1
      · subst e1
        have e3 : hd t.ord = d := e2
        rw [e] at e3 hnt
        cases l with
        | nil =>
          have : y = d := e3
          subst this
          exact (List.nodup_cons.1 hnt).1 (by simp)
        | cons b l =>
          have : b = d := e3
          subst this
          exact (List.nodup_cons.1 hnt).1 (by simp)
      · exact hap d hd1 (List.mem_flatMap.2 ⟨q, e1, e2 ▸ (hhd q k1).1⟩)
    show _ = lsum ((d :: (hung y Ps).map (fun q => hd q.2.ord)).map f)
    refine sumIf_list List.nodup_range _ _ (List.nodup_cons.2 ⟨dn, nd2⟩) (fun x hx => ?_) (fun c _ => ?_)
    · rcases List.mem_cons.1 hx with e1 | e1
      · rw [e1]; exact hin d hdt
      · exact hin x (mem2 x e1).1
    · unfold kidB
      simp only [Bool.and_eq_true, beq_iff_eq]
      constructor
      · rintro ⟨h1, h2⟩
        rcases whr c h1 h2 with k | ⟨s', k⟩
        · exact List.mem_cons_of_mem _ k
        · rw [(List.cons.inj k).1]; simp
      · intro h
        rcases List.mem_cons.1 h with e1 | e1
        · rw [e1]; exact ⟨hdt, hdu⟩
        · exact mem2 c e1
end Go.Proofs.Ytaipladbgdcedaa
namespace Go.Proofs.Ytaipladbgdcedaa
open Go.RowKit

theorem vn_tops {m : Nat} {st : St} {G : Fo} {Ps : List Path} (hI : Inv m st G Ps) (y : Nat) (hy : G.th y = true) : sumIf (topOf st G y) (fun x => (st x).tn) (List.range m) = (st y).vn ∧ sumIf (topOf st G y) (fun x => (st x).ts) (List.range m) = (st y).vs := by
  have t1 := top_sum hI y (fun x => (st x).tn) G.sub (fun q hq => (root_holds hI q.1 q.2 hq).2.2.1)
  have t2 := top_sum hI y (fun x => (st x).ts) G.ssum (fun q hq => (root_holds hI q.1 q.2 hq).2.2.2.1)
  constructor
  · obtain ⟨p, t, l, s, hq, e, k⟩ := kid_sum hI y hy G.sub (sub_zero hI.ok)
    have hv : VN st G t.ord := (hI.po _ hq).vn
    rw [e] at hv
    have v := (vn_append.1 hv).2.1
    have := kid_sub hI.ok hy
    rw [t1, v]
    omega
  · obtain ⟨p, t, l, s, hq, e, k⟩ := kid_sum hI y hy G.ssum (ssum_zero hI.ok)
    have hv : VN st G t.ord := (hI.po _ hq).vn
    rw [e] at hv
    have v := (vn_append.1 hv).2.2.1
    have := kid_ssum hI.ok hy
    rw [t2, v]
    omega
end Go.Proofs.Ytaipladbgdcedaa
namespace Go.Proofs.Ytaipladbgdcedaa
open Go.RowKit

theorem sum_three (A B : List Int) (z : Int) (hA : ∀ a ∈ A, InW a) (hB : ∀ a ∈ B, InW a) (hz : InW z) (lA : A.length ≤ 1000) (lB : B.length ≤ 1000) : ((sumL A).join (Sm.one z)).join (sumL B) = sumL (A ++ z :: B) := by
  have L1 := sumL_bd A hA
  have R1 := sumL_bd B hB
  have cl := sumL_c A
  have cr := sumL_c B
  have hz' := hz
  unfold InW at hz'
  have e1 : Sm.join (sumL A) (Sm.one z) = sumL (A ++ [z]) := by
    rw [sumL_append, sumL_one, join_ej _ _ (by show -9223372036854775808 ≤ (sumL A).c + 1 ∧ (sumL A).c + 1 ≤ _; omega) (by show -9223372036854775808 ≤ (sumL A).s + z ∧ (sumL A).s + z ≤ _; omega)]
  have M1 := sumL_bd (A ++ [z]) (fun a ha => by
    rcases List.mem_append.1 ha with ha | ha
    · exact hA a ha
    · simp at ha; subst ha; exact hz)
  have cm := sumL_c (A ++ [z])
  simp only [List.length_append, List.length_cons, List.length_nil] at M1 cm
  rw [e1, join_ej _ _ (by omega) (by omega), ← sumL_append]
  congr 1
  simp
theorem sum_flip (A B : List Int) (z : Int) : sumL (B ++ z :: A) = sumL (A ++ z :: B) := by
  have e : (A ++ z :: B).reverse = B.reverse ++ ([z] ++ A.reverse) := by simp
  have e2 : B ++ z :: A = B ++ ([z] ++ A) := rfl
  rw [← sumL_rev (A ++ z :: B), e, e2, sumL_append, sumL_append, sumL_append, sumL_append, sumL_rev, sumL_rev]
/-- What Check asks of a node. -/
structure NOk (st : St) (x : Nat) : Prop where
  kl : (st x).l ≠ 0 → (st (st x).l).p = x
  kr : (st x).r ≠ 0 → (st (st x).r).p = x
  sm : (((st (st x).l).sum.join (Sm.one (wrap64 ((st x).w - (st x).add)))).join (st (st x).r).sum).lift (st x).add = (st x).sum
  tn : (st x).tn = wrap64 (wrap64 (wrap64 ((st (st x).l).tn + (st (st x).r).tn) + (st x).vn) + 1)
  ts : (st x).ts = wrap64 (wrap64 (wrap64 (wrap64 ((st (st x).l).ts + (st (st x).r).ts) + (st x).vs) + (st x).w) + wrap64 ((st x).add * wrap64 ((st x).c - 1)))
theorem nok_of {st : St} {g : Nat → Int} {rv : Bool} {p : Nat} {l r : T} {x : Nat} (hb : Bd st) (hlen : (T.node l x r).ord.length ≤ 1000) (h : Lay st g rv p (.node l x r)) : NOk st x := by
  obtain ⟨⟨h0, h1, h2, h3, h4, h5, h6, h7, h8⟩, hl, hr⟩ := h
  have len : l.ord.length + r.ord.length + 1 ≤ 1000 := by
    have : (l.ord ++ x :: r.ord).length ≤ 1000 := hlen
    simp at this
    omega
  have hxO : x ∈ (T.node l x r).ord := by simp [T.ord]
  have hgx := (h5 x hxO).1
  have hgx2 := (h5 x hxO).2
  have hin : ∀ v ∈ l.ord ++ x :: r.ord, InW (g v) ∧ InW (g v - (st x).add) := h5
  generalize hz : (st x).add = z at *
  have kid : ∀ (t : T), Lay st (fun v => g v - z) (rv ^^ (st x).rev) x t → (t.rt ≠ 0 → (st t.rt).p = x) ∧ (st t.rt).sum = sumL (t.ord.map (fun v => g v - z)) ∧ (st t.rt).tn = tnL st t.ord ∧ (st t.rt).ts = tsL st (fun v => g v - z) t.ord := by
    intro t ht
    refine ⟨lay_rt ht, ?_⟩
    cases t with
    | nil =>
      show (st 0).sum = _ ∧ (st 0).tn = _ ∧ (st 0).ts = _
      rw [hb.zero]
      exact ⟨rfl, rfl, rfl⟩
    | node a y b => exact ⟨ht.1.2.2.2.2.2.2.1, ht.1.2.2.2.2.2.2.2.1, ht.1.2.2.2.2.2.2.2.2⟩
  obtain ⟨a0, a1, a2, a3⟩ := kid l hl
  obtain ⟨b0, b1, b2, b3⟩ := kid r hr
  have T1 := tnL_bd hb l.ord
  have T2 := tnL_bd hb r.ord
  have T3 := hb.vn x
  have S1 := tsL_bd (g := fun v => g v - z) hb l.ord (fun v hv => (hin v (by simp [hv])).2)
  have S2 := tsL_bd (g := fun v => g v - z) hb r.ord (fun v hv => (hin v (by simp [hv])).2)
  have S3 := hb.vs x
  have il : ∀ a ∈ l.ord.map (fun v => g v - z), InW a := fun a ha => by
    obtain ⟨v, hv, rfl⟩ := List.mem_map.1 ha
    exact (hin v (by simp [hv])).2
  have ir : ∀ a ∈ r.ord.map (fun v => g v - z), InW a := fun a ha => by
    obtain ⟨v, hv, rfl⟩ := List.mem_map.1 ha
    exact (hin v (by simp [hv])).2
  have hgx' := hgx
  have hgx2' := hgx2
  unfold InW at hgx' hgx2'
  have hwz : wrap64 ((st x).w - z) = g x - z := by rw [h4, wrap_id (by omega)]
  have hlenO : (T.node l x r).ord.length = l.ord.length + r.ord.length + 1 := by
    show (l.ord ++ x :: r.ord).length = _
    simp; omega
  have hc : (st x).c = (l.ord.length : Int) + r.ord.length + 1 := by
    have e : (st x).c = (st x).sum.c := rfl
    rw [e, h6, sumL_c, List.length_map, hlenO]
    omega
  have hm1 := mul_bd (c := (l.ord.length : Int) + r.ord.length + 1) (z := z) (Z := 2199023255552) (by omega) (by omega) (by omega) (by omega) (by omega)
  have hm2 := mul_bd (c := (l.ord.length : Int) + r.ord.length) (z := z) (Z := 2199023255552) (by omega) (by omega) (by omega) (by omega) (by omega)
  -- the sum, lifted
  have hsum : (sumL (l.ord.map (fun v => g v - z) ++ (g x - z) :: r.ord.map (fun v => g v - z))).lift z = (st x).sum := by
    have e0 : l.ord.map (fun v => g v - z) ++ (g x - z) :: r.ord.map (fun v => g v - z) = (T.node l x r).ord.map (fun v => g v - z) := by
      show _ = (l.ord ++ x :: r.ord).map _
      simp
    have e1 : (T.node l x r).ord.map g = ((T.node l x r).ord.map (fun v => g v - z)).map (· + z) := by
      rw [List.map_map]
      refine List.map_congr_left (fun v _ => ?_)
      show g v = g v - z + z
      omega
    have hS := sumL_bd ((T.node l x r).ord.map (fun v => g v - z)) (fun a ha => by
      obtain ⟨v, hv, rfl⟩ := List.mem_map.1 ha
      exact (h5 v hv).2)
    have hcl := sumL_c ((T.node l x r).ord.map (fun v => g v - z))
    rw [List.length_map, hlenO] at hS hcl
    have hcl' : (sumL ((T.node l x r).ord.map (fun v => g v - z))).c = (l.ord.length : Int) + r.ord.length + 1 := by omega
    obtain ⟨s1, s2, s3, s4⟩ := hS
    unfold InW at s3 s4
    rw [h6, e0, e1, sumL_lift]
    unfold Sm.lift
    rw [if_neg (by omega), if_neg (by omega), hcl', wrap_id (z := _ * z) (by omega), wrap_id (by omega), wrap_id (by omega), wrap_id (by omega)]
  have e3 : tsL st g (T.node l x r).ord = (st (T.rt l)).ts + (st (T.rt r)).ts + (st x).vs + g x + z * ((l.ord.length : Int) + r.ord.length) := by
    have f1 : tsL st g (T.node l x r).ord = tsL st g (l.ord ++ x :: r.ord) := rfl
    have g1 : ∀ L : List Nat, tsL st g L = tsL st (fun v => g v - z) L + z * (L.length : Int) := fun L => by
      rw [← tsL_lift]
      exact tsL_congr (fun v _ => ⟨rfl, by show g v = g v - z + z; omega⟩)
    rw [f1, tsL_append]
    simp only [tsL]
    rw [g1 l.ord, g1 r.ord, a3, b3, Int.mul_add]
    omega
  have e4 : tnL st (T.node l x r).ord = (st (T.rt l)).tn + (st (T.rt r)).tn + (st x).vn + 1 := by
    have f1 : tnL st (T.node l x r).ord = tnL st (l.ord ++ x :: r.ord) := rfl
    rw [f1, tnL_append]
    simp only [tnL]
    omega
  have m1 : z * ((l.ord.length : Int) + r.ord.length) = ((l.ord.length : Int) + r.ord.length) * z := Int.mul_comm _ _
  have w1 : wrap64 ((st x).c - 1) = (l.ord.length : Int) + r.ord.length := by rw [hc, wrap_id (by omega)]; omega
  cases rv
  · simp only [Bool.false_eq_true, if_false] at h2 h3
    refine ⟨?_, ?_, ?_, ?_, ?_⟩
    · rw [h2]; exact a0
    · rw [h3]; exact b0
    · rw [h2, h3, a1, b1, hz, hwz, sum_three _ _ _ il ir hgx2 (by simp; omega) (by simp; omega)]
      exact hsum
    · rw [h2, h3, h7, e4, wrap_id (z := (st l.rt).tn + (st r.rt).tn) (by omega), wrap_id (z := _ + (st x).vn) (by omega), wrap_id (by omega)]
    · rw [h2, h3, h8, e3, hz, w1, h4, wrap_id (z := (st l.rt).ts + (st r.rt).ts) (by omega), wrap_id (z := _ + (st x).vs) (by omega), wrap_id (z := _ + g x) (by omega), wrap_id (z := z * _) (by omega), wrap_id (by omega)]
  · simp only [if_true] at h2 h3
    refine ⟨?_, ?_, ?_, ?_, ?_⟩
    · rw [h2]; exact b0
    · rw [h3]; exact a0
    · rw [h2, h3, a1, b1, hz, hwz, sum_three _ _ _ ir il hgx2 (by simp; omega) (by simp; omega), sum_flip]
      exact hsum
    · rw [h2, h3, h7, e4, wrap_id (z := (st r.rt).tn + (st l.rt).tn) (by omega), wrap_id (z := _ + (st x).vn) (by omega), wrap_id (by omega)]
      omega
    · rw [h2, h3, h8, e3, hz, w1, h4, wrap_id (z := (st r.rt).ts + (st l.rt).ts) (by omega), wrap_id (z := _ + (st x).vs) (by omega), wrap_id (z := _ + g x) (by omega), wrap_id (z := z * _) (by omega), wrap_id (by omega)]
      omega
theorem plug_len (C : List Fr) : ∀ t : T, t.ord.length ≤ (plug C t).ord.length := by
  induction C with
  | nil => exact fun _ => Nat.le_refl _
  | cons f C ih =>
    intro t
    refine Nat.le_trans ?_ (ih (plug1 f t))
    unfold plug1
    split <;> simp [T.ord] <;> omega
theorem nok {m : Nat} {st : St} {G : Fo} {Ps : List Path} (hI : Inv m st G Ps) (x : Nat) (hx : G.th x = true) : NOk st x := by
  obtain ⟨⟨p, t⟩, R, hp, hm⟩ := hI.find x hx
  have hm : x ∈ t.ord := hm
  have hI2 := hI.perm hp
  obtain ⟨C, a, b, rfl⟩ := t_split t x hm
  obtain ⟨g', rv', h⟩ := focus_any (hI2.po (p, plug C (.node a x b)) (by simp)).lay
  refine nok_of hI.bd ?_ h
  have h1 := hI2.sb.n
  have h2 := hI2.sb.len
  have h3 := plug_len C (.node a x b)
  omega
/-- The kids of a node that is there are nodes. -/
theorem kids_lt {m : Nat} {st : St} {G : Fo} {Ps : List Path} (hI : Inv m st G Ps) (x : Nat) (hx : x < m) : (st x).l < m ∧ (st x).r < m ∧ (st x).p < m := by
  have hm := hI.m
  cases hth : G.th x with
  | false =>
    rw [hI.off x hth]
    refine ⟨?_, ?_, ?_⟩ <;> (show 0 < m; omega)
  | true =>
    obtain ⟨⟨p, t⟩, R, hp, hmm⟩ := hI.find x hth
    have hmm : x ∈ t.ord := hmm
    have hI2 := hI.perm hp
    have hl := (hI2.po (p, t) (by simp)).lay
    have hsb := hI2.sb
    obtain ⟨k1, k2⟩ := lay_kids hl x hmm
    refine ⟨?_, ?_, ?_⟩
    · rcases k1 with e | e
      · omega
      · exact hsb.lt _ e
    · rcases k2 with e | e
      · omega
      · exact hsb.lt _ e
    · obtain ⟨C, a, b, rfl⟩ := t_split t x hmm
      cases C with
      | nil => rw [hl.1.2.1]; exact hsb.lp
      | cons f C =>
        have k := top_cons (t := .node a x b) hl (hI.ok.nz x hth)
        have k1 : (st x).p = f.y := k.1
        rw [k1]
        refine hsb.lt _ ?_
        have : ∀ (C : List Fr) (t : T), ∀ v ∈ t.ord, v ∈ (plug C t).ord := by
          intro C
          induction C with
          | nil => exact fun _ _ h => h
          | cons f C ih => exact fun t v hv => ih _ v (by unfold plug1; split <;> simp [T.ord, hv])
        refine this C _ _ ?_
        unfold plug1
        split <;> simp [T.ord]
end Go.Proofs.Ytaipladbgdcedaa
namespace Go.Proofs.Ytaipladbgdcedaa
open Go.RowKit

def hungOf (st : St) (G : Fo) (g : Nat → Int) (x y : Nat) : Int := if y = 0 then 0 else sumIf (topOf st G y) g (List.range x)
theorem sumIf_snoc (f : Nat → Bool) (g : Nat → Int) (x : Nat) : ∀ l : List Nat, sumIf f g (l ++ [x]) = sumIf f g l + (if f x = true then g x else 0)
  | [] => by simp [sumIf]
  | a :: l => by
    show (if f a = true then g a else 0) + sumIf f g (l ++ [x]) = (if f a = true then g a else 0) + sumIf f g l + _
    rw [sumIf_snoc f g x l]
    omega
theorem sumIf_range (f : Nat → Bool) (g : Nat → Int) (x : Nat) : sumIf f g (List.range (x + 1)) = sumIf f g (List.range x) + (if f x = true then g x else 0) := by
  rw [List.range_succ, sumIf_snoc]
theorem hung_skip {st : St} {G : Fo} (g : Nat → Int) {x : Nat} (h : G.th x = false ∨ (st x).p = 0 ∨ topB st x = false) : hungOf st G g (x + 1) = hungOf st G g x := by
  funext y
  unfold hungOf
  by_cases hy : y = 0
  · rw [if_pos hy, if_pos hy]
  · rw [if_neg hy, if_neg hy, sumIf_range]
    have : topOf st G y x = false := by
      unfold topOf
      rcases h with h | h | h
      · rw [h, Bool.false_and]
      · rw [h]
        have : ((0 : Nat) == y) = false := beq_eq_false_iff_ne.2 (by omega)
        rw [this, Bool.and_false, Bool.and_false]
      · rw [h, Bool.false_and, Bool.and_false]
    rw [this]
    simp
theorem hung_add {st : St} {G : Fo} (g : Nat → Int) {x : Nat} (h1 : G.th x = true) (h2 : (st x).p ≠ 0) (h3 : topB st x = true) (y : Nat) : hungOf st G g (x + 1) y = if y = (st x).p then hungOf st G g x (st x).p + g x else hungOf st G g x y := by
  unfold hungOf
  by_cases hy : y = 0
  · subst hy
    rw [if_pos rfl, if_neg (Ne.symm h2), if_pos rfl]
  · rw [if_neg hy, if_neg hy, if_neg h2, sumIf_range]
    by_cases e : y = (st x).p
    · subst e
      rw [if_pos rfl]
      have : topOf st G (st x).p x = true := by unfold topOf; rw [h1, h3]; simp
      rw [if_pos this]
    · rw [if_neg e]
      have : topOf st G y x = false := by
        unfold topOf
        have : ((st x).p == y) = false := beq_eq_false_iff_ne.2 (fun h => e h.symm)
        rw [this, Bool.and_false, Bool.and_false]
      rw [this]
      simp
theorem sumIf_far {f : Nat → Bool} {g : Nat → Int} (l : List Nat) (h : ∀ u ∈ l, f u = true → -111050674405376 ≤ g u ∧ g u ≤ 111050674405376) : -111050674405376 * (l.length : Int) ≤ sumIf f g l ∧ sumIf f g l ≤ 111050674405376 * (l.length : Int) := by
  induction l with
  | nil => simp [sumIf]
  | cons a l ih =>
    have h1 := ih (fun u hu => h u (List.mem_cons_of_mem _ hu))
    unfold sumIf
    by_cases hf : f a = true
    · have := h a (by simp) hf
      rw [if_pos hf, List.length_cons]
      omega
    · rw [if_neg hf, List.length_cons]
      omega
theorem top_bd {m : Nat} {st : St} {G : Fo} {Ps : List Path} (hI : Inv m st G Ps) (x : Nat) (h1 : G.th x = true) (h2 : topB st x = true) : (0 ≤ (st x).tn ∧ (st x).tn ≤ 101) ∧ -111050674405376 ≤ (st x).ts ∧ (st x).ts ≤ 111050674405376 := by
  obtain ⟨p, t, hq, e⟩ := top_root hI x h1 h2
  obtain ⟨_, _, k1, k2, _⟩ := root_holds hI p t hq
  rw [e] at k1 k2
  rw [k1, k2]
  exact ⟨sub_bd hI.ok _, ssum_bd hI.ok _⟩
theorem hung_bd {m : Nat} {st : St} {G : Fo} {Ps : List Path} (hI : Inv m st G Ps) (x y : Nat) (hx : x ≤ m) : (-20000000000000000 ≤ hungOf st G (fun x => (st x).tn) x y ∧ hungOf st G (fun x => (st x).tn) x y ≤ 20000000000000000) ∧ -20000000000000000 ≤ hungOf st G (fun x => (st x).ts) x y ∧ hungOf st G (fun x => (st x).ts) x y ≤ 20000000000000000 := by
  have hm := hI.m
  have hs := hI.ok.small
  have top : ∀ u, topOf st G y u = true → G.th u = true ∧ topB st u = true := fun u hu => by
    unfold topOf at hu
    rw [Bool.and_eq_true, Bool.and_eq_true] at hu
    exact ⟨hu.1, hu.2.1⟩
  have b1 := sumIf_far (f := topOf st G y) (g := fun x => (st x).tn) (List.range x) (fun u _ hu => by have := top_bd hI u (top u hu).1 (top u hu).2; omega)
  have b2 := sumIf_far (f := topOf st G y) (g := fun x => (st x).ts) (List.range x) (fun u _ hu => by have := top_bd hI u (top u hu).1 (top u hu).2; omega)
  rw [List.length_range] at b1 b2
  unfold hungOf
  split <;> omega
/-- The memory while Check goes through the nodes: the forest as it is, and what hangs at each node so far. -/
structure CK (w wr : World) (F A m : Nat) (st : St) (V1 V2 : Nat) (u1 u2 : Nat → Int) : Prop where
  fr : FR wr F A m st
  t : Tch [] w wr
  b1 : Blk wr V1 3 m (fun k => .int .i64 (u1 k))
  b2 : Blk wr V2 3 m (fun k => .int .i64 (u2 k))
  f1 : w.heap.size ≤ V1
  f2 : w.heap.size ≤ V2
  ne : V1 ≠ V2
  hF : F < w.heap.size
  hA : A < w.heap.size
section
variable {w wr wx : World} {F A m : Nat} {st : St} {V1 V2 : Nat} {u1 u2 : Nat → Int}
theorem CK.on (h : CK w wr F A m st V1 V2 u1 u2) (t : Tch [] wr wx) : CK w wx F A m st V1 V2 u1 u2 :=
  ⟨h.fr.quiet t, h.t.trans t, t.blk h.b1 (by simp), t.blk h.b2 (by simp), h.f1, h.f2, h.ne, h.hF, h.hA⟩
theorem CK.set1 (h : CK w wr F A m st V1 V2 u1 u2) (p : Nat) (z : Int) (o : Nat) (ho : o = p) : CK w (wr.setCell ⟨V1, o, none⟩ (.int .i64 z)) F A m st V1 V2 (fun y => if y = p then z else u1 y) u2 := by
  subst ho
  have n1 := h.hF
  have n2 := h.hA
  have n3 := h.f1
  refine ⟨h.fr.tch (bs := [V1]) ((Tch.refl _ _).set (by simp) _) (by simp; omega) (by simp; omega), h.t.setNew h.f1 _, (h.b1.set o _).ext (fun k _ => ?_), h.b2.setNe _ _ (Ne.symm h.ne), h.f1, h.f2, h.ne, h.hF, h.hA⟩
  by_cases e : k = o
  · simp [e]
  · simp [e]
theorem CK.set2 (h : CK w wr F A m st V1 V2 u1 u2) (p : Nat) (z : Int) (o : Nat) (ho : o = p) : CK w (wr.setCell ⟨V2, o, none⟩ (.int .i64 z)) F A m st V1 V2 u1 (fun y => if y = p then z else u2 y) := by
  subst ho
  have n1 := h.hF
  have n2 := h.hA
  have n3 := h.f2
  refine ⟨h.fr.tch (bs := [V2]) ((Tch.refl _ _).set (by simp) _) (by simp; omega) (by simp; omega), h.t.setNew h.f2 _, h.b1.setNe _ _ h.ne, (h.b2.set o _).ext (fun k _ => ?_), h.f1, h.f2, h.ne, h.hF, h.hA⟩
  by_cases e : k = o
  · simp [e]
  · simp [e]
theorem CK.drew (h : CK w wr F A m st V1 V2 u1 u2) : CK w wr.drew F A m st V1 V2 u1 u2 := h.on (Tch.refl _ _).drew
theorem CK.eq (h : CK w wr F A m st V1 V2 u1 u2) {u3 u4 : Nat → Int} (h1 : ∀ y, u3 y = u1 y) (h2 : ∀ y, u4 y = u2 y) : CK w wr F A m st V1 V2 u3 u4 := by
  have e1 : u3 = u1 := funext h1
  have e2 : u4 = u2 := funext h2
  rw [e1, e2]
  exact h
end
theorem make_ints48 (n : Nat) (hn : n ≤ 2000000) (w : World) :
    (Instr.makeSlice 48 (.int .i64 (n : Int)) (.int .i64 (n : Int))).run Try.prog w = .ok (.slice (some ⟨w.heap.size, 0, none⟩) n n) (w.alloc (.cells (Array.replicate n (.int .i64 0)) 3)) := by
  obtain ⟨i0, hi, hz0, hz1, hz2⟩ := info_parts (show (Try.prog.info? 3).map (fun i => (i.zero, i.size, i.bytes)) = some (some (.int .i64 0), 1, 8) by kernel_rfl)
  rw [run_make_at 48 3 i0 _ Try.underlying48 hi hz0 n (by rw [hz2]; omega) (by omega) w, hz1]
  rw [← made_one, Nat.mul_one]
  rfl
theorem zero_ints (n : Nat) (w : World) : Blk (w.alloc (.cells (Array.replicate n (.int .i64 0)) 3)) w.heap.size 3 n (fun _ => .int .i64 0) := by
  have := Blk.made (w := w) 3 (Array.replicate n (.int .i64 0)) (fun _ => .int .i64 0) (fun k hk => by simp at hk; simp [hk])
  simpa using this
theorem hung_one {G : Fo} (h : FoOk G) (st : St) (g : Nat → Int) (y : Nat) : hungOf st G g 1 y = 0 := by
  unfold hungOf
  split
  · rfl
  · refine sumIf_none _ (fun u hu => ?_)
    have : u = 0 := by simp at hu; exact hu
    subst this
    unfold topOf
    cases h0 : G.th 0 with
    | false => rfl
    | true => have := h.rng 0 h0; omega
theorem made_ck {w : World} {F A m : Nat} {st : St} {G : Fo} (hG : FoOk G) (h : FR w F A m st) (V1 V2 : Nat) (hV : (V1 = w.heap.size ∧ V2 = w.heap.size + 1) ∨ (V1 = w.heap.size + 1 ∧ V2 = w.heap.size)) :
    CK w ((w.alloc (.cells (Array.replicate m (.int .i64 0)) 3)).alloc (.cells (Array.replicate m (.int .i64 0)) 3)) F A m st V1 V2 (hungOf st G (fun x => (st x).tn) 1) (hungOf st G (fun x => (st x).ts) 1) := by
  have a := (zero_ints m w).new (.cells (Array.replicate m (.int .i64 0)) 3)
  have b := zero_ints m (w.alloc (.cells (Array.replicate m (.int .i64 0)) 3))
  rw [size_new] at b
  have T := ((Tch.refl [] w).new (.cells (Array.replicate m (.int .i64 0)) 3)).new (.cells (Array.replicate m (.int .i64 0)) 3)
  have hg : ∀ (g : Nat → Int) (X : Nat), (X = w.heap.size ∨ X = w.heap.size + 1) → Blk ((w.alloc (.cells (Array.replicate m (.int .i64 0)) 3)).alloc (.cells (Array.replicate m (.int .i64 0)) 3)) X 3 m (fun k => .int .i64 (hungOf st G g 1 k)) := by
    intro g X hX
    rcases hX with e | e
    · subst e; exact a.ext (fun k _ => by rw [hung_one hG])
    · subst e; exact b.ext (fun k _ => by rw [hung_one hG])
  exact ⟨h.quiet T, T, hg _ _ (by omega), hg _ _ (by omega), by omega, by omega, by omega, h.lt.1, h.lt.2⟩
/-- The two kids' copies. -/
def KidR (w1 : World) (nl nr : Nd) (v8 v9 : Value) (wx : World) : Prop :=
  ∃ L R, v8 = .pointer (some ⟨L, 0, none⟩) ∧ v9 = .pointer (some ⟨R, 0, none⟩) ∧ Blk wx L 65 15 (ncell nl) ∧ Blk wx R 65 15 (ncell nr) ∧ Tch [] w1 wx
/-- What the walks read of a block that holds a node. -/
structure NB (W : World) (X : Nat) (y : Nd) : Prop where
  l : W.cell? ⟨X, 0, none⟩ = some (.int .i64 (y.l : Int))
  r : W.cell? ⟨X, 1, none⟩ = some (.int .i64 (y.r : Int))
  p : W.cell? ⟨X, 2, none⟩ = some (.int .i64 (y.p : Int))
  rev : W.cell? ⟨X, 3, none⟩ = some (.bool y.rev)
  w : W.cell? ⟨X, 4, none⟩ = some (.int .i64 y.w)
  add : W.cell? ⟨X, 5, none⟩ = some (.int .i64 y.add)
  c : W.cell? ⟨X, 6, none⟩ = some (.int .i64 y.c)
  s : W.cell? ⟨X, 7, none⟩ = some (.int .i64 y.s)
  mn : W.cell? ⟨X, 8, none⟩ = some (.int .i64 y.mn)
  mx : W.cell? ⟨X, 9, none⟩ = some (.int .i64 y.mx)
  vn : W.cell? ⟨X, 10, none⟩ = some (.int .i64 y.vn)
  vs : W.cell? ⟨X, 11, none⟩ = some (.int .i64 y.vs)
  tn : W.cell? ⟨X, 12, none⟩ = some (.int .i64 y.tn)
  ts : W.cell? ⟨X, 13, none⟩ = some (.int .i64 y.ts)
  th : W.cell? ⟨X, 14, none⟩ = some (.bool y.th)
theorem nb_of {w : World} {X : Nat} {y : Nd} (h : Blk w X 65 15 (ncell y)) : NB w X y :=
  ⟨h.cell 0 (by omega), h.cell 1 (by omega), h.cell 2 (by omega), h.cell 3 (by omega), h.cell 4 (by omega), h.cell 5 (by omega), h.cell 6 (by omega), h.cell 7 (by omega), h.cell 8 (by omega), h.cell 9 (by omega), h.cell 10 (by omega), h.cell 11 (by omega), h.cell 12 (by omega), h.cell 13 (by omega), h.cell 14 (by omega)⟩
def cellsA (y : Nd) : Obj := .cells #[.int .i64 y.l, .int .i64 y.r, .int .i64 y.p, .bool y.rev, .int .i64 y.w, .int .i64 y.add, .int .i64 y.c, .int .i64 y.s, .int .i64 y.mn, .int .i64 y.mx, .int .i64 y.vn, .int .i64 y.vs, .int .i64 y.tn, .int .i64 y.ts, .bool y.th] 65
theorem kids_made (w1 : World) (a b : Nd) : Blk ((w1.alloc (cellsA a)).alloc (cellsA b)) w1.heap.size 65 15 (ncell a) ∧ Blk ((w1.alloc (cellsA a)).alloc (cellsA b)) (w1.heap.size + 1) 65 15 (ncell b) ∧ Tch [] w1 ((w1.alloc (cellsA a)).alloc (cellsA b)) := by
  have h1 := node_made w1 a
  have h2 := node_made (w1.alloc (cellsA a)) b
  rw [size_new] at h2
  exact ⟨h1.new _, h2, ((Tch.refl _ _).new _).new _⟩
theorem hung_all {m : Nat} {st : St} {G : Fo} {Ps : List Path} (hI : Inv m st G Ps) (x : Nat) (hx : G.th x = true) : hungOf st G (fun x => (st x).tn) m x = (st x).vn ∧ hungOf st G (fun x => (st x).ts) m x = (st x).vs := by
  have h := vn_tops hI x hx
  unfold hungOf
  rw [if_neg (hI.ok.nz x hx), if_neg (hI.ok.nz x hx)]
  exact h
/-- What the walk of the node's sum reads. -/
structure C18 (W : World) (X L R : Nat) (y a b : Nd) : Prop where
  x4 : W.cell? ⟨X, 4, none⟩ = some (.int .i64 y.w)
  x5 : W.cell? ⟨X, 5, none⟩ = some (.int .i64 y.add)
  l6 : W.cell? ⟨L, 6, none⟩ = some (.int .i64 a.c)
  l7 : W.cell? ⟨L, 7, none⟩ = some (.int .i64 a.s)
  l8 : W.cell? ⟨L, 8, none⟩ = some (.int .i64 a.mn)
  l9 : W.cell? ⟨L, 9, none⟩ = some (.int .i64 a.mx)
  r6 : W.cell? ⟨R, 6, none⟩ = some (.int .i64 b.c)
  r7 : W.cell? ⟨R, 7, none⟩ = some (.int .i64 b.s)
  r8 : W.cell? ⟨R, 8, none⟩ = some (.int .i64 b.mn)
  r9 : W.cell? ⟨R, 9, none⟩ = some (.int .i64 b.mx)
  zX : X < W.heap.size
  zL : L < W.heap.size
  zR : R < W.heap.size
theorem c18_of {W : World} {X L R : Nat} {y a b : Nd} (h1 : Blk W X 65 15 (ncell y)) (h2 : Blk W L 65 15 (ncell a)) (h3 : Blk W R 65 15 (ncell b)) : C18 W X L R y a b :=
  have n1 := nb_of h1
  have n2 := nb_of h2
  have n3 := nb_of h3
  ⟨n1.w, n1.add, n2.c, n2.s, n2.mn, n2.mx, n3.c, n3.s, n3.mn, n3.mx, h1.lt, h2.lt, h3.lt⟩
theorem lift_agg (a0 a1 a2 a3 z : Int) (w : World) : Calls Try.prog 59 #[.agg #[.int .i64 a0, .int .i64 a1, .int .i64 a2, .int .i64 a3], .int .i64 z] w fun e w' =>
    ∃ q : Sm, q = Sm.lift ⟨a0, a1, a2, a3⟩ z ∧ e = .returned (.agg #[.int .i64 q.c, .int .i64 q.s, .int .i64 q.mn, .int .i64 q.mx]) ∧ Tch [] w w' :=
  (lift_any ⟨a0, a1, a2, a3⟩ z w).mono fun e w' ⟨he, t⟩ => ⟨_, rfl, he, t⟩
def SumR (wk : World) (q : Sm) (v : Value) (wx : World) : Prop := ∃ S, v = .pointer (some ⟨S, 0, none⟩) ∧ Blk wx S 29 4 (scell q) ∧ Tch [] wk wx
theorem SumR.drew {wk wx : World} {q : Sm} {v : Value} (h : SumR wk q v wx) : SumR wk q v wx.drew := by
  obtain ⟨S, e, b, t⟩ := h
  exact ⟨S, e, b.drew, t.drew⟩
theorem sumr_set {wk wl : World} {S : Nat} {q0 q : Sm} (h : Blk wl S 29 4 (scell q0)) (hS : wk.heap.size ≤ S) (t : Tch [] wk wl) : SumR wk q (.pointer (some ⟨S, 0, none⟩)) ((((wl.setCell ⟨S, 0, none⟩ (.int .i64 q.c)).setCell ⟨S, 1, none⟩ (.int .i64 q.s)).setCell ⟨S, 2, none⟩ (.int .i64 q.mn)).setCell ⟨S, 3, none⟩ (.int .i64 q.mx)) :=
  ⟨S, rfl, sum_set h, (((t.setNew hS _).setNew hS _).setNew hS _).setNew hS _⟩
theorem sumr_made {wk wl : World} {q : Sm} (t : Tch [] wk wl) : SumR wk q (.pointer (some ⟨wl.heap.size, 0, none⟩)) (wl.alloc (.cells #[.int .i64 q.c, .int .i64 q.s, .int .i64 q.mn, .int .i64 q.mx] 29)) :=
  ⟨_, rfl, sum_made wl q, t.new _⟩
end Go.Proofs.Ytaipladbgdcedaa
