/- The walks of New, Add, Set, Evert and Path. No condition of its own. -/
import Derived.Test.YtaipladbgdcedaaMd
set_option linter.unusedSimpArgs false
set_option linter.unusedVariables false
namespace Go.Proofs.Ytaipladbgdcedaa
open Go.RowKit

theorem countP_one {p : Nat → Bool} (x : Nat) : ∀ (l : List Nat), l.Nodup → x ∈ l → (∀ u ∈ l, p u = true ↔ u = x) → l.countP p = 1 := by
  intro l
  induction l with
  | nil => intro _ hx; cases hx
  | cons a l ih =>
    intro hn hx h
    obtain ⟨n1, n2⟩ := List.nodup_cons.1 hn
    rw [List.countP_cons]
    rcases List.mem_cons.1 hx with e | e
    · subst e
      have h0 : l.countP p = 0 := List.countP_eq_zero.2 (fun u hu hp => n1 (((h u (List.mem_cons_of_mem _ hu)).1 hp) ▸ hu))
      rw [h0, if_pos ((h x (by simp)).2 rfl)]
    · rw [ih n2 e (fun u hu => h u (List.mem_cons_of_mem _ hu)), if_neg (fun hp => n1 (((h a (by simp)).1 hp) ▸ e))]
theorem sumIf_one {f : Nat → Bool} {g : Nat → Int} (x : Nat) : ∀ (l : List Nat), l.Nodup → x ∈ l → (∀ u ∈ l, f u = true ↔ u = x) → sumIf f g l = g x := by
  intro l
  induction l with
  | nil => intro _ hx; cases hx
  | cons a l ih =>
    intro hn hx h
    obtain ⟨n1, n2⟩ := List.nodup_cons.1 hn
    unfold sumIf
    rcases List.mem_cons.1 hx with e | e
    · subst e
      have h0 : sumIf f g l = 0 := sumIf_none l (fun u hu => by
        cases hf : f u with
        | false => rfl
        | true => exact absurd (((h u (List.mem_cons_of_mem _ hu)).1 hf) ▸ hu) n1)
      rw [h0, if_pos ((h x (by simp)).2 rfl)]
      omega
    · rw [ih n2 e (fun u hu => h u (List.mem_cons_of_mem _ hu)), if_neg (fun hp => n1 (((h a (by simp)).1 hp) ▸ e))]
      omega
theorem sumIf_congr {f f' : Nat → Bool} {g g' : Nat → Int} (l : List Nat) (h : ∀ u ∈ l, f' u = f u ∧ (f u = true → g' u = g u)) : sumIf f' g' l = sumIf f g l := by
  induction l with
  | nil => rfl
  | cons a l ih =>
    unfold sumIf
    obtain ⟨h1, h2⟩ := h a (by simp)
    rw [ih (fun u hu => h u (List.mem_cons_of_mem _ hu)), h1]
    by_cases hf : f a = true
    · rw [if_pos hf, if_pos hf, h2 hf]
    · rw [if_neg hf, if_neg hf]
theorem vn_congrG {st st' : St} {G G' : Fo} : ∀ {l : List Nat}, (∀ v ∈ l, (st' v).vn = (st v).vn ∧ (st' v).vs = (st v).vs ∧ G'.sub v - G'.sub 0 = G.sub v - G.sub 0 ∧ G'.ssum v - G'.ssum 0 = G.ssum v - G.ssum 0 ∧ G'.wt v = G.wt v) → G'.sub 0 = G.sub 0 → G'.ssum 0 = G.ssum 0 → VN st G l → VN st' G' l := by
  intro l
  induction l with
  | nil => intro _ _ _ _; trivial
  | cons a l ih =>
    intro h z1 z2 k
    obtain ⟨k1, k2, k3⟩ := k
    obtain ⟨a1, a2, a3, a4, a5⟩ := h a (by simp)
    have hn : G'.sub (hd l) = G.sub (hd l) ∧ G'.ssum (hd l) = G.ssum (hd l) := by
      cases l with
      | nil => exact ⟨z1, z2⟩
      | cons b l =>
        obtain ⟨_, _, b3, b4, _⟩ := h b (by simp)
        show G'.sub b = G.sub b ∧ G'.ssum b = G.ssum b
        omega
    refine ⟨?_, ?_, ih (fun v hv => h v (List.mem_cons_of_mem _ hv)) z1 z2 k3⟩
    · rw [a1, k1, hn.1]; omega
    · rw [a2, k2, hn.2]; omega
/-- The empty forest. -/
def Fo.empty (n : Nat) : Fo := ⟨n, fun _ => false, fun _ => 0, fun _ => 0⟩
theorem inv_empty (n : Nat) (hn : n ≤ 100) : Inv (n + 1) (fun _ => Nd.zero) (Fo.empty n) [] := by
  refine ⟨by simp, by simp [nodes], ?_, fun _ => rfl, fun _ _ => rfl, ⟨fun v => ⟨?_, ?_⟩, fun v => ⟨?_, ?_⟩, rfl⟩, ⟨?_, ?_, ?_, ?_, fun _ _ => rfl, hn⟩, rfl⟩
  · intro v; simp [nodes, Fo.empty]
  all_goals simp [Nd.zero, Fo.empty]
theorem info65 : (Try.prog.info? 65).map (fun i => (i.zero.map (·.cells.toList), i.size, i.bytes)) = some (some [.int .i64 0, .int .i64 0, .int .i64 0, .bool false, .int .i64 0, .int .i64 0, .int .i64 0, .int .i64 0, .int .i64 0, .int .i64 0, .int .i64 0, .int .i64 0, .int .i64 0, .int .i64 0, .bool false], 15, 120) := by kernel_rfl
theorem make_nodes (n : Nat) (hn : n ≤ 1000) (w : World) :
    ∃ cs : Array Value, (Instr.makeSlice 66 (.int .i64 (n : Int)) (.int .i64 (n : Int))).run Try.prog w = .ok (.slice (some ⟨w.heap.size, 0, none⟩) n n) (w.alloc (.cells cs 65)) ∧ cs.size = n * 15 ∧ ∀ k, k < n * 15 → cs[k]? = some (ncell Nd.zero (k % 15)) := by
  have h := info65
  cases hi : Try.prog.info? 65 with
  | none => rw [hi] at h; cases h
  | some i =>
    rw [hi] at h
    simp only [Option.map_some, Option.some.injEq, Prod.mk.injEq] at h
    obtain ⟨h1, h2, h3⟩ := h
    cases hz : i.zero with
    | none => rw [hz] at h1; cases h1
    | some z =>
      rw [hz] at h1
      simp only [Option.map_some, Option.some.injEq] at h1
      have hzc : z.cells = #[.int .i64 0, .int .i64 0, .int .i64 0, .bool false, .int .i64 0, .int .i64 0, .int .i64 0, .int .i64 0, .int .i64 0, .int .i64 0, .int .i64 0, .int .i64 0, .int .i64 0, .int .i64 0, .bool false] := Array.toList_inj.1 (by rw [h1])
      refine ⟨madeCells z.cells (n * i.size), run_make_at 66 65 i z Try.underlying66 hi hz n (by rw [h3]; omega) (by omega) w, ?_, ?_⟩
      · rw [size_madeCells, h2]
      · intro k hk
        have hz15 : z.cells.size = 15 := by rw [hzc]; rfl
        rw [h2]
        unfold madeCells
        have hk' : k % 15 < 15 := Nat.mod_lt _ (by omega)
        rw [Array.getElem?_map]
        have : (Array.range (n * 15))[k]? = some k := by simp [hk]
        rw [this, hz15]
        simp only [Option.map_some, Option.some.injEq]
        generalize hj : k % 15 = j at *
        rw [hzc]
        match j, hk' with
        | 0, _ => rfl
        | 1, _ => rfl
        | 2, _ => rfl
        | 3, _ => rfl
        | 4, _ => rfl
        | 5, _ => rfl
        | 6, _ => rfl
        | 7, _ => rfl
        | 8, _ => rfl
        | 9, _ => rfl
        | 10, _ => rfl
        | 11, _ => rfl
        | 12, _ => rfl
        | 13, _ => rfl
        | 14, _ => rfl
def NewPost (n : Nat) (w : World) (e : Ending) (w' : World) : Prop := ∃ F A, e = .returned (.pointer (some ⟨F, 0, none⟩)) ∧ LF w' F A (n + 1) (Fo.empty n) ∧ Tch [] w w' ∧ w.heap.size ≤ F ∧ w.heap.size ≤ A ∧ F ≠ A
theorem new_any (n : Nat) (hn : n ≤ 100) (w : World) : Calls Try.prog 25 #[.int .i64 n] w (NewPost n w) := by
  obtain ⟨cs, hmk, hsz, hcs⟩ := make_nodes (n + 1) (by omega) w
  have e1 : ((n + 1 : Nat) : Int) = (n : Int) + 1 := by omega
  rw [e1] at hmk
  have HZ := Lib.hid hsz
  have HC := Lib.hid hcs
  have h1 : decide ((n : Int) < 0) = false := decide_eq_false_iff_not.2 (by omega)
  have h2 : decide ((1048576 : Int) < (n : Int)) = false := decide_eq_false_iff_not.2 (by omega)
  have hmk' : ∀ w', w' = w → (Instr.makeSlice 66 (.int .i64 ((n : Int) + 1)) (.int .i64 ((n : Int) + 1))).run Try.prog w' = .ok (.slice (some ⟨w.heap.size, 0, none⟩) (n + 1) (n + 1)) (w.alloc (.cells cs 65)) := fun w' e => by subst e; exact hmk
  clear hsz hcs e1 hmk'
  go_enter Try.func25, Try.ntmps25
  go_wp2
  go_ret
  refine ⟨w.heap.size + 1, w.heap.size, by simp, ⟨fun _ => Nd.zero, [], ⟨?_, ?_, by omega, by omega⟩, inv_empty n hn⟩, ((Tch.refl _ _).new _).new _, by omega, Nat.le_refl _, by omega⟩
  · have := Blk.made (w := w.alloc (.cells cs 65)) 68 #[.slice (some ⟨w.heap.size, 0, none⟩) (n + 1) (n + 1)] (fun _ => .slice (some ⟨w.heap.size, 0, none⟩) (n + 1) (n + 1)) (fun k hk => match k, hk with | 0, _ => rfl)
    simpa using this
  · have b := Blk.made (w := w) 65 cs (fun k => ncell Nd.zero (k % 15)) (fun k hk => HC.out k (by rw [← HZ.out]; exact hk))
    rw [HZ.out] at b
    exact b.new _
theorem new_none (z : Int) (hz : z < 0 ∨ 1048576 < z) (w : World) : Calls Try.prog 25 #[.int .i64 z] w fun e w' => e = .returned (.pointer none) ∧ w = w' := by
  by_cases h0 : z < 0
  · have h1 : decide (z < 0) = true := decide_eq_true_iff.2 h0
    go_enter Try.func25, Try.ntmps25
    go_wp2
    go_ret
    exact ⟨rfl, rfl⟩
  · have h1 : decide (z < 0) = false := decide_eq_false_iff_not.2 h0
    have h2 : decide (1048576 < z) = true := decide_eq_true_iff.2 (by omega)
    go_enter Try.func25, Try.ntmps25
    go_wp2
    go_ret
    exact ⟨rfl, rfl⟩
end Go.Proofs.Ytaipladbgdcedaa
namespace Go.Proofs.Ytaipladbgdcedaa
open Go.RowKit

/-- A node more. -/
def Fo.add (G : Fo) (x : Nat) (z : Int) : Fo := { G with th := fun u => if u = x then true else G.th u, wt := fun u => if u = x then z else G.wt u }
section
variable {G : Fo} {x : Nat} {z : Int}
theorem add_ok (h : FoOk G) (hx : G.th x = false) (h1 : 1 ≤ x) (h2 : x ≤ G.n) (hz : InW z) : FoOk (G.add x z) := by
  have hu := h.off x hx
  refine ⟨fun v hv => ?_, fun v hv => ?_, fun v hv hp => ?_, fun v hv => ?_, fun v hv => ?_, h.small⟩
  · by_cases e : v = x
    · subst e; exact ⟨h1, h2⟩
    · exact h.rng v (by simpa [Fo.add, e] using hv)
  · by_cases e : v = x
    · subst e
      exact ⟨[v], ⟨rfl, by omega, hu⟩, by show 1 ≤ G.n; omega⟩
    · exact h.way v (by simpa [Fo.add, e] using hv)
  · by_cases e : v = x
    · subst e; exact absurd hu hp
    · have := h.par v (by simpa [Fo.add, e] using hv) hp
      show (if G.up v = x then true else G.th (G.up v)) = true
      rw [this]; simp
  · by_cases e : v = x
    · subst e; simpa [Fo.add] using hz
    · have := h.wts v (by simpa [Fo.add, e] using hv)
      simpa [Fo.add, e] using this
  · by_cases e : v = x
    · subst e; simp [Fo.add] at hv
    · exact h.off v (by simpa [Fo.add, e] using hv)
theorem add_above (v : Nat) : (G.add x z).above v = G.above v := rfl
theorem above_one (h : FoOk G) (hx : G.th x = false) (h1 : 1 ≤ x) : G.above x = [x] := by
  have hu := h.off x hx
  exact above_of (l := [x]) ⟨rfl, by omega, hu⟩ (by simp)
theorem add_below (h : FoOk G) (hx : G.th x = false) (h1 : 1 ≤ x) (v u : Nat) : isBelow (G.add x z) v u = if u = x then decide (v = x) else isBelow G v u := by
  unfold isBelow
  rw [add_above]
  by_cases e : u = x
  · subst e
    rw [if_pos rfl, above_one h hx h1]
    simp [Fo.add]
  · rw [if_neg e]
    simp [Fo.add, e]
theorem below_off (h : FoOk G) (hx : G.th x = false) (u : Nat) : isBelow G x u = false := by
  cases hb : isBelow G x u with
  | false => rfl
  | true =>
    obtain ⟨a, b⟩ := (isBelow_iff G x u).1 hb
    have := h.mem_th u x a b
    rw [hx] at this; cases this
theorem below_self_off (hx : G.th x = false) (v : Nat) : isBelow G v x = false := by
  unfold isBelow
  rw [hx, Bool.false_and]
theorem add_sub (h : FoOk G) (hx : G.th x = false) (h1 : 1 ≤ x) (h2 : x ≤ G.n) (v : Nat) : (G.add x z).sub v = G.sub v + (if v = x then 1 else 0) := by
  unfold Fo.sub
  show (((List.range (G.n + 1)).countP (isBelow (G.add x z) v) : Nat) : Int) = _
  by_cases e : v = x
  · subst e
    rw [if_pos rfl, countP_one v (List.range (G.n + 1)) List.nodup_range (by simp; omega) (fun u _ => ?_), List.countP_eq_zero.2 (fun u _ => by rw [below_off h hx]; simp)]
    · rfl
    · rw [add_below h hx h1]
      by_cases eu : u = v
      · simp [eu]
      · rw [if_neg eu, below_off h hx]; simp [eu]
  · rw [if_neg e, Int.add_zero]
    congr 1
    refine List.countP_congr (fun u _ => ?_)
    rw [add_below h hx h1]
    by_cases eu : u = x
    · subst eu; rw [if_pos rfl, below_self_off hx]; simp [e]
    · rw [if_neg eu]
theorem add_ssum (h : FoOk G) (hx : G.th x = false) (h1 : 1 ≤ x) (h2 : x ≤ G.n) (v : Nat) : (G.add x z).ssum v = G.ssum v + (if v = x then z else 0) := by
  unfold Fo.ssum
  show sumIf (isBelow (G.add x z) v) (G.add x z).wt (List.range (G.n + 1)) = _
  by_cases e : v = x
  · subst e
    rw [if_pos rfl, sumIf_one v (List.range (G.n + 1)) List.nodup_range (by simp; omega) (fun u _ => ?_), sumIf_none _ (fun u _ => below_off h hx u)]
    · simp [Fo.add]
    · rw [add_below h hx h1]
      by_cases eu : u = v
      · simp [eu]
      · rw [if_neg eu, below_off h hx]; simp [eu]
  · rw [if_neg e, Int.add_zero]
    refine sumIf_congr _ (fun u _ => ⟨?_, fun hb => ?_⟩)
    · rw [add_below h hx h1]
      by_cases eu : u = x
      · subst eu; rw [if_pos rfl, below_self_off hx]; simp [e]
      · rw [if_neg eu]
    · have eu : u ≠ x := fun e => by subst e; rw [below_self_off hx] at hb; cases hb
      simp [Fo.add, eu]
def addNd (z : Int) : Nd := { Nd.zero with w := z, th := true }
set_option maxHeartbeats 800000 in
theorem inv_add {m : Nat} {st : St} {Ps : List Path} (hI : Inv m st G Ps) (hx : G.th x = false) (h1 : 1 ≤ x) (h2 : x ≤ G.n) (hz : InW z) : Inv m (pullF (st.upd x (addNd z)) x) (G.add x z) ((0, .node .nil x .nil) :: Ps) := by
  have hok := hI.ok
  have ok' := add_ok hok hx h1 h2 hz
  have x0 : x ≠ 0 := by omega
  obtain ⟨s1, hs1⟩ : ∃ s1, s1 = st.upd x (addNd z) := ⟨_, rfl⟩
  rw [← hs1]
  have e1 : s1 x = addNd z := by rw [hs1, St.upd_same]
  have ne1 : ∀ v, v ≠ x → s1 v = st v := fun v hv => by rw [hs1]; exact St.upd_ne _ _ _ _ hv
  have bd1 : Bd s1 := by
    refine ⟨fun v => ?_, fun v => ?_, by rw [ne1 0 (fun e => x0 e.symm)]; exact hI.bd.zero⟩
    · by_cases e : v = x
      · subst e; rw [e1]; simp [addNd, Nd.zero]
      · rw [ne1 v e]; exact hI.bd.vn v
    · by_cases e : v = x
      · subst e; rw [e1]; simp [addNd, Nd.zero]
      · rw [ne1 v e]; exact hI.bd.vs v
  have LP : Lay (pullF s1 x) (G.add x z).wt false 0 (.node .nil x .nil) :=
    lay_pull (by simp [T.ord]) bd1 (by simp [T.ord]) x0 (by rw [e1]; rfl) (by rw [e1]; rfl) (by rw [e1]; rfl) (by rw [e1]; simp [addNd, Fo.add]) (by simpa [Fo.add] using hz) (by rw [e1]; rfl) (by rw [e1]; rfl) trivial trivial
  have xout : x ∉ nodes Ps := fun e => by
    have := (hI.cov x).1 e
    rw [hx] at this; cases this
  have fne : ∀ v, v ≠ x → pullF s1 x v = st v := fun v hv => by rw [pull_ne _ _ _ hv, ne1 v hv]
  have fx : pullF s1 x x = pullN (s1 x) (s1 (s1 x).l) (s1 (s1 x).r) := St.upd_same _ _ _
  have z0 : (G.add x z).sub 0 = G.sub 0 := by rw [sub_zero ok', sub_zero hok]
  have y0 : (G.add x z).ssum 0 = G.ssum 0 := by rw [ssum_zero ok', ssum_zero hok]
  refine ⟨fun q hq => ?_, ?_, fun v => ?_, fun v => ?_, fun v hv => ?_, (sv_pull s1 x x0).bd bd1, ok', hI.m⟩
  · rcases List.mem_cons.1 hq with e | e
    · subst e
      refine ⟨LP, x0, ⟨hok.off x hx, trivial⟩, ⟨?_, ?_, trivial⟩⟩
      · have e2 : (pullF s1 x x).vn = 0 := by rw [fx]; show (s1 x).vn = 0; rw [e1]; rfl
        have e3 : G.sub x = 0 := by
          unfold Fo.sub
          rw [List.countP_eq_zero.2 (fun u _ => by rw [below_off hok hx]; simp)]
          rfl
        show (pullF s1 x x).vn = (G.add x z).sub x - 1 - (G.add x z).sub 0
        rw [e2, add_sub hok hx h1 h2, e3, sub_zero ok', if_pos rfl]
        omega
      · have e2 : (pullF s1 x x).vs = 0 := by rw [fx]; show (s1 x).vs = 0; rw [e1]; rfl
        have e3 : G.ssum x = 0 := sumIf_none _ (fun u _ => below_off hok hx u)
        have e4 : (G.add x z).wt x = z := by simp [Fo.add]
        show (pullF s1 x x).vs = (G.add x z).ssum x - (G.add x z).wt x - (G.add x z).ssum 0
        rw [e2, add_ssum hok hx h1 h2, e3, e4, ssum_zero ok', if_pos rfl]
        omega
    · have k := hI.po q e
      have hv : ∀ v ∈ q.2.ord, v ≠ x := fun v hv e' => xout (e' ▸ List.mem_flatMap.2 ⟨q, e, hv⟩)
      refine ⟨lay_congr (fun v h => fne v (hv v h)) (fun v h => by simp [Fo.add, hv v h]) k.lay, k.ne, k.dn, vn_congrG (fun v h => ?_) z0 y0 k.vn⟩
      rw [fne v (hv v h), z0, y0, add_sub hok hx h1 h2, add_ssum hok hx h1 h2, if_neg (hv v h), if_neg (hv v h)]
      refine ⟨rfl, rfl, by omega, by omega, by simp [Fo.add, hv v h]⟩
  · rw [nodes_cons]
    show ([x] ++ nodes Ps).Nodup
    exact List.nodup_cons.2 ⟨xout, hI.nd⟩
  · rw [nodes_cons]
    show v ∈ [x] ++ nodes Ps ↔ (if v = x then true else G.th v) = true
    by_cases e : v = x
    · subst e; simp
    · have := hI.cov v
      simp [e, this]
  · show _ = (if v = x then true else G.th v)
    by_cases e : v = x
    · subst e
      rw [if_pos rfl, fx]
      show (s1 v).th = true
      rw [e1]; rfl
    · rw [if_neg e, fne v e]; exact hI.th v
  · have e : v ≠ x := fun e => by subst e; simp [Fo.add] at hv
    rw [fne v e]
    exact hI.off v (by simpa [Fo.add, e] using hv)
end
/-- Add by outer numbers. -/
def addOk (G : Fo) (v z : Int) : Bool := decide (0 ≤ v ∧ v < (G.n : Int)) && !G.th (v.toNat + 1) && fitsB z
def addG (G : Fo) (v z : Int) : Fo := if addOk G v z = true then G.add (v.toNat + 1) z else G
theorem add_no (w : World) (F A m : Nat) (G : Fo) (h : LF w F A m G) (v z : Int) (hv : addOk G v z = false) : Calls Try.prog 26 #[.pointer (some ⟨F, 0, none⟩), .int .i64 v, .int .i64 z] w fun e w' => e = .returned (.bool false) ∧ w = w' := by
  have HF := fits_any z
  obtain ⟨st, Ps, h1, hI⟩ := h
  have hok := hI.ok
  have hm := hI.m
  have hs := hok.small
  have c0 := h1.c0
  have hm1 : 1 ≤ m := by omega
  have hm2 : m ≤ 101 := by omega
  obtain ⟨hF, hA⟩ := h1.lt
  by_cases h0 : 0 ≤ v
  · obtain ⟨k, rfl⟩ := Int.eq_ofNat_of_zero_le h0
    have h0' : decide ((k : Int) < 0) = false := decide_eq_false_iff_not.2 (by omega)
    by_cases hk : k < G.n
    · have f := h1.at_th (k + 1) (by omega)
      rw [hI.th] at f
      unfold addOk at hv
      rw [decide_eq_true_iff.2 (by omega), Bool.true_and, Int.toNat_natCast] at hv
      have hkm : (k : Int) < (m : Int) - 1 := by omega
      have hkm2 : k + 1 < m := by omega
      have hkb : decide ((m : Int) - 1 ≤ (k : Int)) = false := decide_eq_false_iff_not.2 (by omega)
      clear h1 hI hok h0 hm
      cases hb : G.th (k + 1) with
      | true =>
        rw [hb] at f
        clear hb hv HF
        go_enter Try.func26, Try.ntmps26
        go_wp2
        go_ret
        exact ⟨rfl, rfl⟩
      | false =>
        rw [hb] at f hv
        simp at hv
        rw [hv] at HF
        have HF := Lib.hid HF
        clear hb hv
        go_enter Try.func26, Try.ntmps26
        go_wp2_with (go_at_call 62; refine (HF.out _).mono ?_; rintro e w1 ⟨rfl, rfl⟩)
        go_ret
        exact ⟨rfl, rfl⟩
    · have hkb : decide ((m : Int) - 1 ≤ (k : Int)) = true := decide_eq_true_iff.2 (by omega)
      clear h1 hI hok h0 hm hv HF
      go_enter Try.func26, Try.ntmps26
      go_wp2
      go_ret
      exact ⟨rfl, rfl⟩
  · have h0' : decide (v < 0) = true := decide_eq_true_iff.2 (by omega)
    clear h1 hI hok hv HF
    go_enter Try.func26, Try.ntmps26
    go_wp2
    go_ret
    exact ⟨rfl, rfl⟩
set_option maxRecDepth 100000 in
set_option maxHeartbeats 4000000 in
theorem add_yes (w : World) (F A m : Nat) (G : Fo) (h : LF w F A m G) (k : Nat) (z : Int) (hk : k < G.n) (hth : G.th (k + 1) = false) (hz : fitsB z = true) : Calls Try.prog 26 #[.pointer (some ⟨F, 0, none⟩), .int .i64 k, .int .i64 z] w fun e w' => e = .returned (.bool true) ∧ LPost w F A m (G.add (k + 1) z) w' := by
  have HF := fits_any z
  rw [hz] at HF
  have HF := Lib.hid HF
  have hzw : InW z := of_decide_eq_true (p := -1099511627776 ≤ z ∧ z ≤ 1099511627776) hz
  obtain ⟨st, Ps, h1, hI⟩ := h
  have hok := hI.ok
  have hm := hI.m
  have hs := hok.small
  have c0 := h1.c0
  have hm1 : 1 ≤ m := by omega
  have hm2 : m ≤ 101 := by omega
  obtain ⟨hF, hA⟩ := h1.lt
  have hkm2 : k + 1 < m := by omega
  have fxl := h1.at_l (k + 1) hkm2; have fxr := h1.at_r (k + 1) hkm2; have fxp := h1.at_p (k + 1) hkm2; have fxrev := h1.at_rev (k + 1) hkm2; have fxw := h1.at_w (k + 1) hkm2; have fxadd := h1.at_add (k + 1) hkm2; have fxc := h1.at_c (k + 1) hkm2; have fxs := h1.at_s (k + 1) hkm2; have fxmn := h1.at_mn (k + 1) hkm2; have fxmx := h1.at_mx (k + 1) hkm2; have fxvn := h1.at_vn (k + 1) hkm2; have fxvs := h1.at_vs (k + 1) hkm2; have fxtn := h1.at_tn (k + 1) hkm2; have fxts := h1.at_ts (k + 1) hkm2; have fxth := h1.at_th (k + 1) hkm2
  rw [hI.th, hth] at fxth
  have hkb : decide ((m : Int) - 1 ≤ (k : Int)) = false := decide_eq_false_iff_not.2 (by omega)
  have h0' : decide ((k : Int) < 0) = false := decide_eq_false_iff_not.2 (by omega)
  have fz := h1.fz
  have H1 := Lib.hid h1
  have HI := Lib.hid (inv_add hI hth (by omega) (by omega) hzw)
  have hoff := hI.off (k + 1) hth
  have HO := Lib.hid hoff
  clear h1 hI hok hm hz hth hoff
  go_enter Try.func26, Try.ntmps26
  go_wp2_with (go_at_call 62; refine (HF.out _).mono ?_; rintro e w1 ⟨rfl, rfl⟩)
  have X : FR _ F A m (st.upd (k + 1) (addNd z)) := ((((((((((((((((H1.out.set_l (k + 1) hkm2 ((k + 1) * 15) rfl 0).set_r (k + 1) hkm2 ((k + 1) * 15 + 1) rfl 0).set_p (k + 1) hkm2 ((k + 1) * 15 + 2) rfl 0).set_rev (k + 1) hkm2 ((k + 1) * 15 + 3) rfl false).set_w (k + 1) hkm2 ((k + 1) * 15 + 4) rfl z).set_add (k + 1) hkm2 ((k + 1) * 15 + 5) rfl 0).set_c (k + 1) hkm2 ((k + 1) * 15 + 6) rfl 0).set_s (k + 1) hkm2 ((k + 1) * 15 + 7) rfl 0).set_mn (k + 1) hkm2 ((k + 1) * 15 + 8) rfl 0).set_mx (k + 1) hkm2 ((k + 1) * 15 + 9) rfl 0).set_vn (k + 1) hkm2 ((k + 1) * 15 + 10) rfl 0).set_vs (k + 1) hkm2 ((k + 1) * 15 + 11) rfl 0).set_tn (k + 1) hkm2 ((k + 1) * 15 + 12) rfl 0).set_ts (k + 1) hkm2 ((k + 1) * 15 + 13) rfl 0).set_th (k + 1) hkm2 ((k + 1) * 15 + 14) rfl true)).eq (by simp only [St.upd_upd, St.upd_same]; rfl)
  have Y := ((((((((((((((((Tch.refl [A] w).cellA (A := A) (by simp) ((k + 1) * 15) (.int .i64 0)).cellA (A := A) (by simp) ((k + 1) * 15 + 1) (.int .i64 0)).cellA (A := A) (by simp) ((k + 1) * 15 + 2) (.int .i64 0)).cellA (A := A) (by simp) ((k + 1) * 15 + 3) (.bool false)).cellA (A := A) (by simp) ((k + 1) * 15 + 4) (.int .i64 z)).cellA (A := A) (by simp) ((k + 1) * 15 + 5) (.int .i64 0)).cellA (A := A) (by simp) ((k + 1) * 15 + 6) (.int .i64 0)).cellA (A := A) (by simp) ((k + 1) * 15 + 7) (.int .i64 0)).cellA (A := A) (by simp) ((k + 1) * 15 + 8) (.int .i64 0)).cellA (A := A) (by simp) ((k + 1) * 15 + 9) (.int .i64 0)).cellA (A := A) (by simp) ((k + 1) * 15 + 10) (.int .i64 0)).cellA (A := A) (by simp) ((k + 1) * 15 + 11) (.int .i64 0)).cellA (A := A) (by simp) ((k + 1) * 15 + 12) (.int .i64 0)).cellA (A := A) (by simp) ((k + 1) * 15 + 13) (.int .i64 0)).cellA (A := A) (by simp) ((k + 1) * 15 + 14) (.bool true))
  have e1 : ((k + 1 : Nat) : Int) = (k : Int) + 1 := by omega
  have PU := fun (wq : World) (hq : FR wq F A m (st.upd (k + 1) (addNd z))) => pull_any wq F A m (st.upd (k + 1) (addNd z)) hq (k + 1) hkm2 (by rw [St.upd_same]; show 0 < m; omega) (by rw [St.upd_same]; show 0 < m; omega) (by rw [St.upd_same]; show 0 ≠ k + 1; omega) (by rw [St.upd_same]; show 0 ≠ k + 1; omega)
  rw [e1] at PU
  go_at_call 63
  refine (PU _ X).mono ?_
  rintro e w5 ⟨rfl, h5, T5⟩
  have HE := Lib.hid (show LPost w F A m (G.add (k + 1) z) w5 from ⟨⟨_, _, h5, HI.out⟩, Tch.trans Y T5⟩)
  clear X Y PU h5 T5
  go_wp2_with fail
  go_ret
  exact ⟨rfl, HE.out⟩
theorem Add_any (w : World) (F A m : Nat) (G : Fo) (h : LF w F A m G) (v z : Int) : Calls Try.prog 26 #[.pointer (some ⟨F, 0, none⟩), .int .i64 v, .int .i64 z] w fun e w' => e = .returned (.bool (addOk G v z)) ∧ LPost w F A m (addG G v z) w' := by
  unfold addG
  cases hv : addOk G v z with
  | false =>
    rw [if_neg (by simp)]
    refine (add_no w F A m G h v z hv).mono ?_
    rintro e w' ⟨rfl, rfl⟩
    exact ⟨rfl, h, Tch.refl _ _⟩
  | true =>
    rw [if_pos rfl]
    unfold addOk at hv
    rw [Bool.and_eq_true, Bool.and_eq_true, decide_eq_true_eq] at hv
    obtain ⟨⟨⟨h0, h1⟩, h2⟩, h3⟩ := hv
    obtain ⟨k, rfl⟩ := Int.eq_ofNat_of_zero_le h0
    rw [Int.toNat_natCast] at h2 ⊢
    exact add_yes w F A m G h k z (by omega) (by simpa using h2) h3
theorem Add_nil (w : World) (v z : Int) : Calls Try.prog 26 #[.pointer none, .int .i64 v, .int .i64 z] w fun e w' => e = .returned (.bool false) ∧ w = w' := by
  go_enter Try.func26, Try.ntmps26
  go_wp2
  go_ret
  exact ⟨rfl, rfl⟩
end Go.Proofs.Ytaipladbgdcedaa
namespace Go.Proofs.Ytaipladbgdcedaa
open Go.RowKit

theorem sumIf_upd {f : Nat → Bool} {g g' : Nat → Int} (x : Nat) : ∀ (l : List Nat), l.Nodup → x ∈ l → (∀ u, u ≠ x → g' u = g u) → sumIf f g' l = sumIf f g l + (if f x = true then g' x - g x else 0) := by
  intro l
  induction l with
  | nil => intro _ hx; cases hx
  | cons a l ih =>
    intro hn hx h
    obtain ⟨n1, n2⟩ := List.nodup_cons.1 hn
    unfold sumIf
    rcases List.mem_cons.1 hx with e | e
    · subst e
      have h0 : sumIf f g' l = sumIf f g l := sumIf_congr l (fun u hu => ⟨rfl, fun _ => h u (fun e => n1 (e ▸ hu))⟩)
      rw [h0]
      split <;> omega
    · have ha : a ≠ x := fun e' => n1 (e' ▸ e)
      rw [ih n2 e h, h a ha]
      omega
/-- A node with another weight. -/
def Fo.set (G : Fo) (x : Nat) (z : Int) : Fo := { G with wt := fun u => if u = x then z else G.wt u }
section
variable {G : Fo} {x : Nat} {z : Int}
theorem set_ok (h : FoOk G) (hz : InW z) : FoOk (G.set x z) := by
  refine ⟨h.rng, h.way, h.par, fun v hv => ?_, h.off, h.small⟩
  by_cases e : v = x
  · subst e; simpa [Fo.set] using hz
  · have := h.wts v hv
    simpa [Fo.set, e] using this
theorem set_sub (v : Nat) : (G.set x z).sub v = G.sub v := rfl
theorem set_ssum (hok : FoOk G) (hx : G.th x = true) (v : Nat) : (G.set x z).ssum v = G.ssum v + (if v ∈ G.above x then z - G.wt x else 0) := by
  unfold Fo.ssum
  have hr := hok.rng x hx
  have := sumIf_upd (f := isBelow G v) (g := G.wt) (g' := (G.set x z).wt) x (List.range (G.n + 1)) List.nodup_range (by simp; omega) (fun u hu => by simp [Fo.set, hu])
  have e1 : (G.set x z).wt x = z := by simp [Fo.set]
  rw [e1] at this
  have e2 : (if isBelow G v x = true then z - G.wt x else 0) = (if v ∈ G.above x then z - G.wt x else 0) := by
    by_cases hv : v ∈ G.above x
    · rw [if_pos hv, if_pos ((isBelow_iff G v x).2 ⟨hx, hv⟩)]
    · rw [if_neg hv, if_neg (fun hb => hv ((isBelow_iff G v x).1 hb).2)]
  rw [e2] at this
  exact this
/-- Along the way the sums grow alike. -/
theorem vn_shift {st st' : St} {G G' : Fo} {x : Nat} {d : Int} (z1 : G'.ssum 0 = 0) (z2 : G.ssum 0 = 0) (z3 : G'.sub 0 = G.sub 0) : ∀ (l : List Nat), (∀ v ∈ l ++ [x], (st' v).vn = (st v).vn ∧ (st' v).vs = (st v).vs ∧ G'.sub v = G.sub v ∧ G'.ssum v = G.ssum v + d) → (∀ v ∈ l, G'.wt v = G.wt v) → G'.wt x = G.wt x + d → VN st G (l ++ [x]) → VN st' G' (l ++ [x]) := by
  intro l
  induction l with
  | nil =>
    intro h _ hx k
    obtain ⟨k1, k2, _⟩ := k
    obtain ⟨a1, a2, a3, a4⟩ := h x (by simp)
    have z4 : G.ssum (hd []) = 0 := z2
    have z5 : G'.ssum (hd []) = 0 := z1
    have z6 : G'.sub (hd []) = G.sub (hd []) := z3
    exact ⟨by rw [a1, k1, a3, z6], by rw [a2, k2, a4, hx, z4, z5]; omega, trivial⟩
  | cons a l ih =>
    intro h hw hx k
    have k' : (st a).vn = G.sub a - 1 - G.sub (hd (l ++ [x])) ∧ (st a).vs = G.ssum a - G.wt a - G.ssum (hd (l ++ [x])) ∧ VN st G (l ++ [x]) := k
    obtain ⟨k1, k2, k3⟩ := k'
    obtain ⟨a1, a2, a3, a4⟩ := h a (by simp)
    have hm : hd (l ++ [x]) ∈ l ++ [x] := by
      cases l with
      | nil => simp [hd]
      | cons b l => simp [hd]
    obtain ⟨b1, b2, b3, b4⟩ := h _ (List.mem_cons_of_mem _ hm)
    have hi := ih (fun v hv => h v (List.mem_cons_of_mem _ hv)) (fun v hv => hw v (List.mem_cons_of_mem _ hv)) hx k3
    show (st' a).vn = G'.sub a - 1 - G'.sub (hd (l ++ [x])) ∧ (st' a).vs = G'.ssum a - G'.wt a - G'.ssum (hd (l ++ [x])) ∧ VN st' G' (l ++ [x])
    refine ⟨by rw [a1, k1, a3, b3], by rw [a2, k2, a4, b4, hw a (by simp)]; omega, hi⟩
set_option maxHeartbeats 800000 in
theorem inv_set {m : Nat} {st : St} {a : T} {R : List Path} (hI : Inv m st G ((0, .node a x .nil) :: R)) (hx : G.th x = true) (hw : a.ord ++ [x] = (G.above x).reverse) (cx : Cln st x) (hz : InW z) :
    Inv m (pullF (st.upd x { st x with w := z }) x) (G.set x z) ((0, .node a x .nil) :: R) := by
  have hok := hI.ok
  have ok' := set_ok (x := x) (z := z) hok hz
  have hp := hI.po (0, .node a x .nil) (by simp)
  obtain ⟨⟨x0, xp, xl, xr, xw, _⟩, ha, _⟩ := hp.lay
  simp only [Bool.false_eq_true, if_false] at xl xr
  rw [cx.1, cx.2] at ha
  have ha : Lay st G.wt false x a := lay_g (g' := G.wt) (fun v => (Int.sub_zero _).symm) ha
  obtain ⟨s1, hs1⟩ : ∃ s1, s1 = st.upd x { st x with w := z } := ⟨_, rfl⟩
  rw [← hs1]
  have e1 : s1 x = { st x with w := z } := by rw [hs1, St.upd_same]
  have ne1 : ∀ v, v ≠ x → s1 v = st v := fun v hv => by rw [hs1]; exact St.upd_ne _ _ _ _ hv
  have SV1 : Sv st s1 := by rw [hs1]; exact Sv.upd _ _ _ x0 rfl rfl rfl
  have SV : Sv st (pullF s1 x) := SV1.trans (sv_pull s1 x x0)
  have hnd := hI.nd
  rw [nodes_cons] at hnd
  have n1 : (T.node a x .nil).ord.Nodup := (List.nodup_append.1 hnd).1
  obtain ⟨_, _, xa, _, _⟩ := node_split n1
  have hap := hI.apart
  have hlt : ∀ v ∈ (T.node a x .nil).ord, v < m := hI.sb.lt
  have LP : Lay (pullF s1 x) (G.set x z).wt false 0 (.node a x .nil) :=
    lay_pull n1 (SV1.bd hI.bd) hI.sb.len x0 (by rw [e1]; exact xp) (by rw [e1]; exact xl) (by rw [e1]; exact xr) (by rw [e1]; simp [Fo.set]) (by simpa [Fo.set] using hz) (by rw [e1]; exact cx.1) (by rw [e1]; exact cx.2)
      (lay_congr (fun v hv => ne1 v (fun e => xa (e ▸ hv))) (fun v hv => by have : v ≠ x := fun e => xa (e ▸ hv); simp [Fo.set, this]) ha) trivial
  have fne : ∀ v, v ≠ x → pullF s1 x v = st v := fun v hv => by rw [pull_ne _ _ _ hv, ne1 v hv]
  have inA : ∀ v, v ∈ a.ord ++ [x] ↔ v ∈ G.above x := fun v => by rw [hw]; simp
  refine ⟨fun q hq => ?_, hI.nd, hI.cov, fun v => (SV.th v).trans (hI.th v), fun v hv => ?_, SV.bd hI.bd, ok', hI.m⟩
  · rcases List.mem_cons.1 hq with e | e
    · subst e
      refine ⟨LP, x0, hp.dn, ?_⟩
      have hv : VN st G (a.ord ++ [x]) := hp.vn
      show VN (pullF s1 x) (G.set x z) (a.ord ++ [x])
      refine vn_shift (d := z - G.wt x) (ssum_zero ok') (ssum_zero hok) rfl a.ord (fun v hv => ⟨SV.vn v, SV.vs v, rfl, ?_⟩) (fun v hv => ?_) (by simp [Fo.set]; omega) hv
      · rw [set_ssum hok hx, if_pos ((inA v).1 hv)]
      · have : v ≠ x := fun e => xa (e ▸ hv)
        simp [Fo.set, this]
    · have k := hI.po q (List.mem_cons_of_mem _ e)
      have out : ∀ v ∈ q.2.ord, v ∉ a.ord ++ [x] := fun v hv hv' => hap v hv' (List.mem_flatMap.2 ⟨q, e, hv⟩)
      have hvx : ∀ v ∈ q.2.ord, v ≠ x := fun v hv e => out v hv (by simp [e])
      refine ⟨lay_congr (fun v h => fne v (hvx v h)) (fun v h => by simp [Fo.set, hvx v h]) k.lay, k.ne, k.dn, vn_congrG (G := G) (G' := G.set x z) (fun v h => ?_) rfl ((ssum_zero ok').trans (ssum_zero hok).symm) k.vn⟩
      have e3 : (G.set x z).ssum v = G.ssum v := by rw [set_ssum hok hx, if_neg (fun e => out v h ((inA v).2 e))]; omega
      refine ⟨SV.vn v, SV.vs v, rfl, ?_, by simp [Fo.set, hvx v h]⟩
      rw [e3, ssum_zero ok', ssum_zero hok]
  · have hv' : G.th v = false := hv
    have e : v ≠ x := fun e => by subst e; rw [hx] at hv'; cases hv'
    rw [fne v e]
    exact hI.off v hv'
end
def setOk (G : Fo) (v z : Int) : Bool := hasB G v && fitsB z
def setG (G : Fo) (v z : Int) : Fo := if setOk G v z = true then G.set (v.toNat + 1) z else G
theorem Set_any (w : World) (F A m : Nat) (G : Fo) (h : LF w F A m G) (v z : Int) : Calls Try.prog 30 #[.pointer (some ⟨F, 0, none⟩), .int .i64 v, .int .i64 z] w fun e w' => e = .returned (.bool (setOk G v z)) ∧ LPost w F A m (setG G v z) w' := by
  have HH := Lib.hid (has_any w F A m G h v)
  have HF := Lib.hid (fits_any z)
  have hok := h.ok
  have hs := hok.small
  have hm := h.hm
  unfold setG
  cases hv : hasB G v with
  | false =>
    have e1 : setOk G v z = false := by unfold setOk; rw [hv, Bool.false_and]
    rw [e1, if_neg (by simp)]
    rw [hv] at HH
    have HL := Lib.hid h
    clear h hok hv hm e1
    go_enter Try.func30, Try.ntmps30
    go_wp2_with (go_at_call 31; refine HH.out.mono ?_; rintro e w1 ⟨rfl, rfl⟩)
    go_ret
    exact ⟨rfl, HL.out, Tch.refl _ _⟩
  | true =>
    rw [hv] at HH
    cases hz : fitsB z with
    | false =>
      have e1 : setOk G v z = false := by unfold setOk; rw [hz, Bool.and_false]
      rw [e1, if_neg (by simp)]
      rw [hz] at HF
      have HL := Lib.hid h
      clear h hok hv hm e1 hz
      go_enter Try.func30, Try.ntmps30
      go_wp2_with fail
      go_at_call 31
      refine HH.out.mono ?_
      rintro e w1 ⟨rfl, rfl⟩
      go_wp2_with fail
      go_at_call 62
      refine (HF.out _).mono ?_
      rintro e w1 ⟨rfl, rfl⟩
      go_wp2_with fail
      go_ret
      exact ⟨rfl, HL.out, Tch.refl _ _⟩
    | true =>
      have e1 : setOk G v z = true := by unfold setOk; rw [hz, hv]; rfl
      rw [e1, if_pos rfl]
      rw [hz] at HF
      have hzw : InW z := of_decide_eq_true (p := -1099511627776 ≤ z ∧ z ≤ 1099511627776) hz
      obtain ⟨k, rfl, hk, hth⟩ := hasB_yes hok hv
      rw [Int.toNat_natCast]
      have e2 : ((k + 1 : Nat) : Int) = (k : Int) + 1 := by omega
      have HAC := access_lf w F A m G h (k + 1) hth
      rw [e2] at HAC
      have HAC := Lib.hid HAC
      have hkm : k + 1 < m := by omega
      have HTH := Lib.hid hth
      have HZ := Lib.hid hzw
      clear h hok hv hth e1 hz hm hzw
      go_enter Try.func30, Try.ntmps30
      go_wp2_with fail
      go_at_call 31
      refine HH.out.mono ?_
      rintro e w1 ⟨rfl, rfl⟩
      go_wp2_with fail
      go_at_call 62
      refine (HF.out _).mono ?_
      rintro e w1 ⟨rfl, rfl⟩
      go_wp2_with fail
      go_at_call 52
      refine HAC.out.mono ?_
      rintro e w2 ⟨last, rfl, Ps2, st2, a2, R2, h2⟩
      obtain ⟨kl, kr, _⟩ := ss_kids h2.ss (fun f hf => by cases hf)
      have hI2 := inv_set h2.inv HTH.out h2.way h2.cln HZ.out
      have hsb := h2.inv.sb
      have c0 := h2.fr.c0
      have fw := h2.fr.at_w (k + 1) hkm
      have fz := h2.fr.fz
      obtain ⟨hF, hA⟩ := h2.fr.lt
      have hxa : (k + 1) ∉ a2.ord := by
        have := hsb.n
        exact (node_split this).2.2.1
      have hall : ∀ v ∈ a2.ord, v < m := fun v hv => hsb.lt v (by simp [T.ord, hv])
      have X := h2.fr.set_w (k + 1) hkm ((k + 1) * 15 + 4) rfl z
      have Y := h2.tch.cellA (A := A) (by simp) ((k + 1) * 15 + 4) (.int .i64 z)
      have PU := pull_any _ F A m _ X (k + 1) hkm (by rw [St.upd_same]; show (st2 (k + 1)).l < m; rw [kl]; exact rt_lt hall (by omega)) (by rw [St.upd_same]; show (st2 (k + 1)).r < m; rw [kr]; show 0 < m; omega) (by rw [St.upd_same]; show (st2 (k + 1)).l ≠ k + 1; rw [kl]; exact rt_ne hxa (by omega)) (by rw [St.upd_same]; show (st2 (k + 1)).r ≠ k + 1; rw [kr]; show 0 ≠ k + 1; omega)
      rw [e2] at PU
      have HPU := Lib.hid PU
      have HY := Lib.hid Y
      have HI := Lib.hid hI2
      clear h2 kl kr hI2 hsb hxa hall X Y PU
      go_wp2_with fail
      go_at_call 63
      refine HPU.out.mono ?_
      rintro e w5 ⟨rfl, h5, T5⟩
      have HE := Lib.hid (show LPost w F A m (G.set (k + 1) z) w5 from ⟨⟨_, _, h5, HI.out⟩, HY.out.trans T5⟩)
      clear h5 T5
      go_wp2_with fail
      go_ret
      exact ⟨rfl, HE.out⟩
end Go.Proofs.Ytaipladbgdcedaa
namespace Go.Proofs.Ytaipladbgdcedaa
open Go.RowKit

def T.mir : T → T
  | .nil => .nil
  | .node l x r => .node r.mir x l.mir
theorem mir_ord (t : T) : t.mir.ord = t.ord.reverse := by
  induction t with
  | nil => rfl
  | node l x r il ir =>
    show r.mir.ord ++ x :: l.mir.ord = (l.ord ++ x :: r.ord).reverse
    rw [il, ir]
    simp
theorem mir_rt (t : T) : t.mir.rt = t.rt := by cases t <;> rfl
theorem tnL_rev (st : St) (l : List Nat) : tnL st l.reverse = tnL st l := by
  induction l with
  | nil => rfl
  | cons a l ih =>
    rw [List.reverse_cons, tnL_append, ih]
    show tnL st l + (1 + (st a).vn + tnL st []) = 1 + (st a).vn + tnL st l
    have : tnL st [] = 0 := rfl
    omega
theorem tsL_rev (st : St) (g : Nat → Int) (l : List Nat) : tsL st g l.reverse = tsL st g l := by
  induction l with
  | nil => rfl
  | cons a l ih =>
    rw [List.reverse_cons, tsL_append, ih]
    show tsL st g l + (g a + (st a).vs + tsL st g []) = g a + (st a).vs + tsL st g l
    have : tsL st g [] = 0 := rfl
    omega
theorem lay_mir {st : St} {g : Nat → Int} {rv : Bool} {p : Nat} {t : T} (h : Lay st g rv p t) : Lay st g (!rv) p t.mir := by
  induction t generalizing g rv p with
  | nil => trivial
  | node l x r il ir =>
    obtain ⟨⟨h0, h1, h2, h3, h4, h5, h6, h7, h8⟩, hl, hr⟩ := h
    have eo : (T.node r.mir x l.mir).ord = (T.node l x r).ord.reverse := mir_ord (.node l x r)
    have ev : (!rv ^^ (st x).rev) = !(rv ^^ (st x).rev) := by cases rv <;> cases (st x).rev <;> rfl
    show Lay st g (!rv) p (.node r.mir x l.mir)
    unfold Lay
    rw [eo, ev, mir_rt, mir_rt]
    refine ⟨⟨h0, h1, ?_, ?_, h4, fun v hv => h5 v (by simpa using hv), ?_, ?_, ?_⟩, ir hr, il hl⟩
    · rw [h2]; cases rv <;> rfl
    · rw [h3]; cases rv <;> rfl
    · rw [h6, List.map_reverse, sumL_rev]
    · rw [h7, tnL_rev]
    · rw [h8, tsL_rev]

/-- The last of a list; 0: it is empty. -/
def lst (l : List Nat) : Nat := hd l.reverse
theorem lst_snoc (l : List Nat) (s : Nat) : lst (l ++ [s]) = s := by simp [lst, hd]
theorem lst_mem (l : List Nat) : lst l = 0 ∨ lst l ∈ l := by
  rcases List.eq_nil_or_concat l with e | ⟨m, c, e⟩
  · subst e; exact .inl rfl
  · subst e
    rw [List.concat_eq_append, lst_snoc]
    exact .inr (by simp)
/-- What stands ahead of a node in a list. -/
def prv : Nat → List Nat → Nat → Nat
  | _, [], _ => 0
  | p, a :: l, u => if u = a then p else prv a l u
theorem prv_split : ∀ (l1 : List Nat) (p v : Nat) (l2 : List Nat), v ∉ l1 → prv p (l1 ++ v :: l2) v = if l1 = [] then p else lst l1 := by
  intro l1
  induction l1 with
  | nil => intro p v l2 _; simp [prv]
  | cons a l ih =>
    intro p v l2 hv
    have h1 : v ≠ a := fun e => hv (by simp [e])
    have h2 : v ∉ l := fun e => hv (by simp [e])
    show (if v = a then p else prv a (l ++ v :: l2) v) = _
    rw [if_neg h1, ih a v l2 h2, if_neg (List.cons_ne_nil a l)]
    by_cases e : l = []
    · subst e; rw [if_pos rfl]; rfl
    · rw [if_neg e]
      rcases List.eq_nil_or_concat l with e' | ⟨m, c, e'⟩
      · exact absurd e' e
      · rw [e', List.concat_eq_append, lst_snoc, ← List.cons_append, lst_snoc]
theorem prv_at (l1 : List Nat) (v : Nat) (l2 : List Nat) (h : v ∉ l1) : prv 0 (l1 ++ v :: l2) v = lst l1 := by
  rw [prv_split l1 0 v l2 h]
  by_cases e : l1 = []
  · subst e; rfl
  · rw [if_neg e]
/-- The node is its tree's root. -/
def Fo.ev (G : Fo) (x : Nat) : Fo := { G with up := fun u => if u ∈ G.above x then prv 0 (G.above x) u else G.up u }
section
variable {G : Fo} {x : Nat}
theorem ev_up_on (h : FoOk G) (hx : G.th x = true) {l1 l2 : List Nat} {t : Nat} (e : G.above x = l1 ++ t :: l2) : (G.ev x).up t = lst l1 := by
  have hn := up_nodup (h.above x hx).1
  rw [e] at hn
  have ht : t ∉ l1 := fun h1 => (List.nodup_append.1 hn).2.2 t h1 t (by simp) rfl
  show (if t ∈ G.above x then prv 0 (G.above x) t else G.up t) = _
  rw [if_pos (by rw [e]; simp), e, prv_at l1 t l2 ht]
/-- The way from a node of the way. -/
theorem ev_on (h : FoOk G) (hx : G.th x = true) : ∀ (n : Nat) (l1 l2 : List Nat) (t : Nat), l1.length = n → G.above x = l1 ++ t :: l2 → Up (G.ev x).up t (t :: l1.reverse) := by
  intro n
  induction n with
  | zero =>
    intro l1 l2 t hl e
    have e0 : l1 = [] := List.length_eq_zero_iff.1 hl
    subst e0
    have ht := up_nz (h.above x hx).1 t (by rw [e]; simp)
    refine ⟨rfl, ht, ?_⟩
    rw [ev_up_on h hx e]
    rfl
  | succ n ih =>
    intro l1 l2 t hl e
    rcases List.eq_nil_or_concat l1 with e' | ⟨m, s, e'⟩
    · subst e'; cases hl
    · rw [List.concat_eq_append] at e'
      subst e'
      have ht := up_nz (h.above x hx).1 t (by rw [e]; simp)
      refine ⟨rfl, ht, ?_⟩
      rw [ev_up_on h hx e, lst_snoc]
      have := ih m (t :: l2) s (by simp at hl; omega) (by rw [e]; simp)
      simpa using this
theorem ev_off (h : FoOk G) (hx : G.th x = true) (Q W : List Nat) : ∀ (P : List Nat) (v : Nat), (∀ u ∈ P, u ∉ G.above x) → Up G.up v (P ++ Q) → (∀ t, Up G.up t Q → Up (G.ev x).up t W) → Up (G.ev x).up v (P ++ W) := by
  intro P
  induction P with
  | nil => intro v _ hu hw; exact hw v hu
  | cons a P ih =>
    intro v hp hu hw
    obtain ⟨rfl, h1, h2⟩ := hu
    refine ⟨rfl, h1, ?_⟩
    have e : (G.ev x).up a = G.up a := by
      show (if a ∈ G.above x then prv 0 (G.above x) a else G.up a) = _
      rw [if_neg (hp a (by simp))]
    rw [e]
    exact ih _ (fun u hu => hp u (List.mem_cons_of_mem _ hu)) h2 hw
/-- A node's way up meets the way turned round, or does not. -/
theorem meet (h : FoOk G) (hx : G.th x = true) (u : Nat) (hu : G.th u = true) :
    ((∀ v ∈ G.above u, v ∉ G.above x) ∧ Up (G.ev x).up u (G.above u)) ∨
    ∃ P t l1 l2, (∀ v ∈ P, v ∉ G.above x) ∧ G.above u = P ++ t :: l2 ∧ G.above x = l1 ++ t :: l2 ∧ Up (G.ev x).up u (P ++ t :: l1.reverse) := by
  obtain ⟨hU, _⟩ := h.above u hu
  by_cases hm : ∀ v ∈ G.above u, v ∉ G.above x
  · left
    refine ⟨hm, ?_⟩
    have := ev_off h hx [] [] (G.above u) u hm (by simpa using hU) (fun t ht => ht)
    simpa using this
  · right
    have : ∃ P t Q, G.above u = P ++ t :: Q ∧ (∀ v ∈ P, v ∉ G.above x) ∧ t ∈ G.above x := by
      have gen : ∀ l : List Nat, (¬ ∀ v ∈ l, v ∉ G.above x) → ∃ P t Q, l = P ++ t :: Q ∧ (∀ v ∈ P, v ∉ G.above x) ∧ t ∈ G.above x := by
        intro l
        induction l with
        | nil => intro hn; exact absurd (by simp) hn
        | cons a l ih =>
          intro hn
          by_cases ha : a ∈ G.above x
          · exact ⟨[], a, l, rfl, by simp, ha⟩
          · obtain ⟨P, t, Q, e, h1, h2⟩ := ih (fun h' => hn (fun v hv => by
              rcases List.mem_cons.1 hv with e | e
              · subst e; exact ha
              · exact h' v e))
            exact ⟨a :: P, t, Q, by rw [e]; rfl, fun v hv => by
              rcases List.mem_cons.1 hv with e | e
              · subst e; exact ha
              · exact h1 v e, h2⟩
      exact gen _ hm
    obtain ⟨P, t, Q, e, hP, ht⟩ := this
    have htt := h.mem_th x t hx ht
    obtain ⟨l1, l2, e1, e2⟩ := up_suffix (h.above x hx).1 t ht
    obtain ⟨m1, m2, f1, f2⟩ := up_suffix hU t (by rw [e]; simp)
    have hn := up_nodup hU
    have hQ : Q = l2 := by
      have hm2 : m2 = l2 := by
        have := up_one f2 e2
        simpa using this
      have : P ++ t :: Q = m1 ++ t :: m2 := by rw [← e, ← f1]
      rw [e] at hn
      have hPt : t ∉ P := fun h1 => (List.nodup_append.1 hn).2.2 t h1 t (by simp) rfl
      rw [← e, f1] at hn
      have hmt : t ∉ m1 := fun h1 => (List.nodup_append.1 hn).2.2 t h1 t (by simp) rfl
      have key : ∀ (A B : List Nat) (Q1 Q2 : List Nat), t ∉ A → t ∉ B → A ++ t :: Q1 = B ++ t :: Q2 → Q1 = Q2 := by
        intro A
        induction A with
        | nil =>
          intro B Q1 Q2 _ hB he
          cases B with
          | nil => simpa using he
          | cons b B =>
            simp at he
            exact absurd (he.1 ▸ (by simp : b ∈ b :: B)) hB
        | cons a A ih =>
          intro B Q1 Q2 hA hB he
          cases B with
          | nil =>
            simp at he
            exact absurd (he.1 ▸ (by simp : a ∈ a :: A)) hA
          | cons b B =>
            simp at he
            exact ih B Q1 Q2 (fun h1 => hA (by simp [h1])) (fun h1 => hB (by simp [h1])) he.2
      rw [key P m1 Q m2 hPt hmt this, hm2]
    subst hQ
    refine ⟨P, t, l1, Q, hP, e, e1, ?_⟩
    refine ev_off h hx (t :: Q) (t :: l1.reverse) P u hP (by rw [← e]; exact hU) (fun t' ht' => ?_)
    obtain ⟨rfl, _, _⟩ := ht'
    exact ev_on h hx _ l1 Q t rfl e1
end
end Go.Proofs.Ytaipladbgdcedaa
namespace Go.Proofs.Ytaipladbgdcedaa
open Go.RowKit

theorem countP_diff {p q r : Nat → Bool} : ∀ (l : List Nat), (∀ u ∈ l, q u = true → p u = true) → (∀ u ∈ l, r u = true ↔ (p u = true ∧ ¬ q u = true)) → (l.countP r : Int) = (l.countP p : Int) - (l.countP q : Int) := by
  intro l
  induction l with
  | nil => intro _ _; rfl
  | cons a l ih =>
    intro h1 h2
    have k := ih (fun u hu => h1 u (List.mem_cons_of_mem _ hu)) (fun u hu => h2 u (List.mem_cons_of_mem _ hu))
    have a1 := h1 a (by simp)
    have a2 := h2 a (by simp)
    rw [List.countP_cons, List.countP_cons, List.countP_cons]
    by_cases hq : q a = true
    · have hp := a1 hq
      have hr : ¬ r a = true := fun hr => (a2.1 hr).2 hq
      rw [if_pos hq, if_pos hp, if_neg hr]; omega
    · by_cases hp : p a = true
      · have hr := a2.2 ⟨hp, hq⟩
        rw [if_neg hq, if_pos hp, if_pos hr]; omega
      · have hr : ¬ r a = true := fun hr => hp (a2.1 hr).1
        rw [if_neg hq, if_neg hp, if_neg hr]; omega
theorem sumIf_diff {p q r : Nat → Bool} {g : Nat → Int} : ∀ (l : List Nat), (∀ u ∈ l, q u = true → p u = true) → (∀ u ∈ l, r u = true ↔ (p u = true ∧ ¬ q u = true)) → sumIf r g l = sumIf p g l - sumIf q g l := by
  intro l
  induction l with
  | nil => intro _ _; rfl
  | cons a l ih =>
    intro h1 h2
    have k := ih (fun u hu => h1 u (List.mem_cons_of_mem _ hu)) (fun u hu => h2 u (List.mem_cons_of_mem _ hu))
    have a1 := h1 a (by simp)
    have a2 := h2 a (by simp)
    unfold sumIf
    by_cases hq : q a = true
    · have hp := a1 hq
      have hr : ¬ r a = true := fun hr => (a2.1 hr).2 hq
      rw [if_pos hq, if_pos hp, if_neg hr]; omega
    · by_cases hp : p a = true
      · have hr := a2.2 ⟨hp, hq⟩
        rw [if_neg hq, if_pos hp, if_pos hr]; omega
      · have hr : ¬ r a = true := fun hr => hp (a2.1 hr).1
        rw [if_neg hq, if_neg hp, if_neg hr]; omega
section
variable {G : Fo} {x : Nat}
theorem way_len {G : Fo} {up : Nat → Nat} {u : Nat} {L : List Nat} (h : FoOk G) (hu : Up up u L) (ht : ∀ v ∈ L, G.th v = true) : L.length ≤ G.n := by
  have := nodup_len (G.n + 1) (0 :: L) (List.nodup_cons.2 ⟨fun e => up_nz hu 0 e rfl, up_nodup hu⟩) (fun v hv => by
    rcases List.mem_cons.1 hv with e | e
    · omega
    · have := h.rng v (ht v e); omega)
  simp at this
  exact this
theorem ev_way (h : FoOk G) (hx : G.th x = true) (u : Nat) (hu : G.th u = true) : ∃ L, Up (G.ev x).up u L ∧ ∀ v ∈ L, G.th v = true := by
  rcases meet h hx u hu with ⟨_, h2⟩ | ⟨P, t, l1, l2, h1, e1, e2, h2⟩
  · exact ⟨_, h2, fun v hv => h.mem_th u v hu hv⟩
  · refine ⟨_, h2, fun v hv => ?_⟩
    rcases List.mem_append.1 hv with e | e
    · exact h.mem_th u v hu (by rw [e1]; simp [e])
    · refine h.mem_th x v hx ?_
      rw [e2]
      rcases List.mem_cons.1 e with e | e
      · simp [e]
      · have := List.mem_reverse.1 e
        simp [this]
theorem ev_ok (h : FoOk G) (hx : G.th x = true) : FoOk (G.ev x) := by
  refine ⟨h.rng, fun v hv => ?_, fun v hv hp => ?_, h.wts, fun v hv => ?_, h.small⟩
  · obtain ⟨L, h1, h2⟩ := ev_way h hx v hv
    exact ⟨L, h1, way_len (G := G) h h1 h2⟩
  · by_cases hm : v ∈ G.above x
    · obtain ⟨l1, l2, e⟩ := List.append_of_mem hm
      have e3 := ev_up_on h hx e
      rw [e3] at hp ⊢
      rcases lst_mem l1 with g | g
      · exact absurd g hp
      · exact h.mem_th x _ hx (by rw [e]; simp [g])
    · have e3 : (G.ev x).up v = G.up v := by
        show (if v ∈ G.above x then prv 0 (G.above x) v else G.up v) = _
        rw [if_neg hm]
      rw [e3] at hp ⊢
      exact h.par v hv hp
  · have hm : v ∉ G.above x := fun e => by
      have := h.mem_th x v hx e
      have hv' : G.th v = false := hv
      rw [hv'] at this; cases this
    show (if v ∈ G.above x then prv 0 (G.above x) v else G.up v) = _
    rw [if_neg hm]
    exact h.off v hv
theorem ev_above_of (h : FoOk G) (hx : G.th x = true) (u : Nat) {L : List Nat} (hU : Up (G.ev x).up u L) (hu : G.th u = true) : (G.ev x).above u = L :=
  up_one ((ev_ok h hx).above u hu).1 hU
theorem root_last (h : FoOk G) (hx : G.th x = true) : ∃ l, G.above x = l ++ [G.root x] := by
  have hne : G.above x ≠ [] := by rw [h.above_cons x hx]; simp
  rcases List.eq_nil_or_concat (G.above x) with e | ⟨l, r, e⟩
  · exact absurd e hne
  · rw [List.concat_eq_append] at e
    refine ⟨l, ?_⟩
    have : G.root x = r := by
      unfold Fo.root
      rw [e]
      simp [hd]
    rw [this]
    exact e
theorem ev_mem_off (h : FoOk G) (hx : G.th x = true) (u v : Nat) (hu : G.th u = true) (hv : v ∉ G.above x) : v ∈ (G.ev x).above u ↔ v ∈ G.above u := by
  rcases meet h hx u hu with ⟨_, h2⟩ | ⟨P, t, l1, l2, h1, e1, e2, h2⟩
  · rw [ev_above_of h hx u h2 hu]
  · rw [ev_above_of h hx u h2 hu, e1]
    rw [e2] at hv
    simp at hv ⊢
    constructor
    · rintro (g | g | g)
      · exact .inl g
      · exact absurd g hv.2.1
      · exact absurd g hv.1
    · rintro (g | g | g)
      · exact .inl g
      · exact absurd g hv.2.1
      · exact absurd g hv.2.2
theorem ev_mem_on (h : FoOk G) (hx : G.th x = true) (u v : Nat) (hu : G.th u = true) {l1 l2 : List Nat} (e : G.above x = l1 ++ v :: l2) : v ∈ (G.ev x).above u ↔ (G.root x ∈ G.above u ∧ ¬ lst l1 ∈ G.above u) := by
  have hn := up_nodup (h.above x hx).1
  have hz : (0 : Nat) ∉ G.above u := fun h0 => up_nz (h.above u hu).1 0 h0 rfl
  have hvx : v ∈ G.above x := by rw [e]; simp
  obtain ⟨lr, hlr⟩ := root_last h hx
  rcases meet h hx u hu with ⟨h1, h2⟩ | ⟨P, t, k1, m2, h1, e1, e2, h2⟩
  · rw [ev_above_of h hx u h2 hu]
    constructor
    · intro g; exact absurd hvx (h1 v g)
    · intro g; exact absurd (by rw [hlr]; simp) (h1 _ g.1)
  · rw [ev_above_of h hx u h2 hu]
    have hroot : G.root x ∈ G.above u := by
      rw [e1]
      have : G.root x ∈ t :: m2 := by
        rcases List.eq_nil_or_concat m2 with g | ⟨m3, c, g⟩
        · subst g
          rw [e2] at hlr
          have := List.append_inj' hlr rfl
          have h5 : t = G.root x := by simpa using this.2
          simp [h5]
        · rw [List.concat_eq_append] at g
          subst g
          rw [e2] at hlr
          have h6 : (k1 ++ t :: m3) ++ [c] = lr ++ [G.root x] := by rw [← hlr]; simp
          have := List.append_inj' h6 rfl
          have h5 : c = G.root x := by simpa using this.2
          simp [h5]
      exact List.mem_append.2 (.inr this)
    have hvP : v ∉ P := fun g => h1 v g hvx
    rw [e2] at hn
    have nk : ∀ w ∈ k1, w ∉ t :: m2 := fun w hw hw' => (List.nodup_append.1 hn).2.2 w hw w hw' rfl
    have lP : lst l1 ∉ P := fun g => by
      rcases lst_mem l1 with k | k
      · exact hz (by rw [e1]; rw [k] at g; simp [g])
      · exact h1 _ g (by rw [e]; simp [k])
    have low : (∀ w ∈ l1, w ∈ k1) → lst l1 ∉ G.above u := by
      intro hs g
      rw [e1] at g
      rcases List.mem_append.1 g with g | g
      · exact lP g
      · rcases lst_mem l1 with k | k
        · exact hz (by rw [e1, ← k]; exact List.mem_append.2 (.inr g))
        · exact nk _ (hs _ k) g
    have e3 : l1 ++ v :: l2 = k1 ++ t :: m2 := by rw [← e, ← e2]
    rcases List.append_eq_append_iff.1 e3 with ⟨a', f1, f2⟩ | ⟨c', f1, f2⟩
    · constructor
      · intro _
        exact ⟨hroot, low (fun w hw => by rw [f1]; simp [hw])⟩
      · intro _
        cases a' with
        | nil =>
          have : v = t := by simp at f2; exact f2.1
          simp [this]
        | cons b a' =>
          have : v = b := by simp at f2; exact f2.1
          subst this
          refine List.mem_append.2 (.inr (List.mem_cons_of_mem _ (List.mem_reverse.2 ?_)))
          rw [f1]; simp
    · cases c' with
      | nil =>
        have hvt : t = v := by simp at f2; exact f2.1
        constructor
        · intro _
          exact ⟨hroot, low (fun w hw => by rw [f1] at hw; simpa using hw)⟩
        · intro _; simp [hvt]
      | cons b c' =>
        have hbt : t = b ∧ m2 = c' ++ v :: l2 := by simpa using f2
        obtain ⟨rfl, hm2⟩ := hbt
        constructor
        · intro g
          exfalso
          rcases List.mem_append.1 g with g | g
          · exact hvP g
          · rcases List.mem_cons.1 g with g | g
            · subst g
              rw [hm2] at hn
              have := (List.nodup_append.1 hn).2.1
              rw [List.nodup_cons] at this
              exact this.1 (by simp)
            · exact nk v (List.mem_reverse.1 g) (by rw [hm2]; simp)
        · rintro ⟨_, g⟩
          exfalso
          apply g
          rw [e1]
          refine List.mem_append.2 (.inr ?_)
          rcases List.eq_nil_or_concat c' with k | ⟨c3, c, k⟩
          · subst k
            rw [f1, lst_snoc]; simp
          · rw [List.concat_eq_append] at k
            subst k
            have : l1 = (k1 ++ t :: c3) ++ [c] := by rw [f1]; simp
            rw [this, lst_snoc, hm2]
            simp
theorem below_root (h : FoOk G) (hx : G.th x = true) {w : Nat} (hw : w = 0 ∨ w ∈ G.above x) (u : Nat) (hb : isBelow G w u = true) : isBelow G (G.root x) u = true := by
  obtain ⟨h1, h2⟩ := (isBelow_iff G w u).1 hb
  rcases hw with e | e
  · subst e
    exact absurd rfl (up_nz (h.above u h1).1 0 h2)
  · refine (isBelow_iff G _ u).2 ⟨h1, ?_⟩
    obtain ⟨lr, hlr⟩ := root_last h hx
    obtain ⟨l1, l2, e1, e2⟩ := up_suffix (h.above x hx).1 w e
    have hwt := h.mem_th x w hx e
    refine h.trans u w _ h1 h2 ?_
    rw [up_one (h.above w hwt).1 e2]
    rcases List.eq_nil_or_concat l2 with g | ⟨m3, c, g⟩
    · subst g
      rw [e1] at hlr
      have := (List.append_inj' hlr rfl).2
      have h5 : w = G.root x := by simpa using this
      simp [h5]
    · rw [List.concat_eq_append] at g
      subst g
      rw [e1] at hlr
      have h6 : (l1 ++ w :: m3) ++ [c] = lr ++ [G.root x] := by rw [← hlr]; simp
      have h5 : c = G.root x := by simpa using (List.append_inj' h6 rfl).2
      simp [h5]
theorem ev_sub_off (h : FoOk G) (hx : G.th x = true) (v : Nat) (hv : v ∉ G.above x) : (G.ev x).sub v = G.sub v ∧ (G.ev x).ssum v = G.ssum v := by
  have hb : ∀ u, isBelow (G.ev x) v u = isBelow G v u := by
    intro u
    unfold isBelow
    show (G.th u && _) = (G.th u && _)
    cases ht : G.th u with
    | false => rfl
    | true =>
      have := ev_mem_off h hx u v ht hv
      rw [Bool.true_and, Bool.true_and, Bool.eq_iff_iff, List.contains_iff_mem, List.contains_iff_mem]
      exact this
  refine ⟨?_, sumIf_congr _ (fun u _ => ⟨hb u, fun _ => rfl⟩)⟩
  unfold Fo.sub
  congr 1
  exact List.countP_congr (fun u _ => by rw [hb u])
theorem ev_sub_on (h : FoOk G) (hx : G.th x = true) (v : Nat) {l1 l2 : List Nat} (e : G.above x = l1 ++ v :: l2) : (G.ev x).sub v = G.sub (G.root x) - G.sub (lst l1) ∧ (G.ev x).ssum v = G.ssum (G.root x) - G.ssum (lst l1) := by
  have hw : lst l1 = 0 ∨ lst l1 ∈ G.above x := (lst_mem l1).imp_right (fun k => by rw [e]; simp [k])
  have hb : ∀ u, isBelow (G.ev x) v u = true ↔ (isBelow G (G.root x) u = true ∧ ¬ isBelow G (lst l1) u = true) := by
    intro u
    rw [isBelow_iff, isBelow_iff, isBelow_iff]
    show (G.th u = true ∧ _) ↔ _
    constructor
    · rintro ⟨a, b⟩
      obtain ⟨c, d⟩ := (ev_mem_on h hx u v a e).1 b
      exact ⟨⟨a, c⟩, fun k => d k.2⟩
    · rintro ⟨⟨a, c⟩, d⟩
      exact ⟨a, (ev_mem_on h hx u v a e).2 ⟨c, fun k => d ⟨a, k⟩⟩⟩
  exact ⟨countP_diff _ (fun u _ hq => below_root h hx hw u hq) (fun u _ => hb u), sumIf_diff _ (fun u _ hq => below_root h hx hw u hq) (fun u _ => hb u)⟩
end
end Go.Proofs.Ytaipladbgdcedaa
namespace Go.Proofs.Ytaipladbgdcedaa
open Go.RowKit

section
variable {G : Fo} {x : Nat}
theorem dn_ev (h : FoOk G) (hx : G.th x = true) : ∀ (l2 l1 : List Nat), G.above x = l1 ++ l2 → Dn (G.ev x).up (lst l1) l2 := by
  intro l2
  induction l2 with
  | nil => intro _ _; trivial
  | cons v l2 ih =>
    intro l1 e
    refine ⟨ev_up_on h hx e, ?_⟩
    have := ih (l1 ++ [v]) (by rw [e]; simp)
    rw [lst_snoc] at this
    exact this
theorem dn_ev_off : ∀ {l : List Nat} {p : Nat}, (∀ v ∈ l, v ∉ G.above x) → Dn G.up p l → Dn (G.ev x).up p l := by
  intro l
  induction l with
  | nil => intro p _ _; trivial
  | cons v l ih =>
    intro p hn hd'
    refine ⟨?_, ih (fun u hu => hn u (List.mem_cons_of_mem _ hu)) hd'.2⟩
    have e3 : (G.ev x).up v = G.up v := by
      show (if v ∈ G.above x then prv 0 (G.above x) v else G.up v) = _
      rw [if_neg (hn v (by simp))]
    rw [e3]
    exact hd'.1
theorem vn_ev {st st' : St} (h : FoOk G) (hx : G.th x = true) (hv : VN st G (G.above x).reverse) (hs : ∀ v, (st' v).vn = (st v).vn ∧ (st' v).vs = (st v).vs) : ∀ (l2 l1 : List Nat), G.above x = l1 ++ l2 → VN st' (G.ev x) l2 := by
  have hok' := ev_ok h hx
  intro l2
  induction l2 with
  | nil => intro _ _; trivial
  | cons v l2 ih =>
    intro l1 e
    have hi := ih (l1 ++ [v]) (by rw [e]; simp)
    have hold : VN st G (l2.reverse ++ v :: l1.reverse) := by
      have : (G.above x).reverse = l2.reverse ++ v :: l1.reverse := by rw [e]; simp
      rw [← this]; exact hv
    obtain ⟨_, k1, k2, _⟩ := vn_append.1 hold
    have k1' : (st v).vn = G.sub v - 1 - G.sub (lst l1) := k1
    have k2' : (st v).vs = G.ssum v - G.wt v - G.ssum (lst l1) := k2
    obtain ⟨s1, s2⟩ := ev_sub_on h hx v e
    have nx : (G.ev x).sub (hd l2) = G.sub (G.root x) - G.sub v ∧ (G.ev x).ssum (hd l2) = G.ssum (G.root x) - G.ssum v := by
      cases l2 with
      | nil =>
        obtain ⟨lr, hlr⟩ := root_last h hx
        rw [e] at hlr
        have : v = G.root x := by simpa using (List.append_inj' hlr rfl).2
        rw [← this]
        have z1 : (G.ev x).sub (hd []) = 0 := sub_zero hok'
        have z2 : (G.ev x).ssum (hd []) = 0 := ssum_zero hok'
        exact ⟨by omega, by omega⟩
      | cons w l2 =>
        have := ev_sub_on h hx w (l1 := l1 ++ [v]) (l2 := l2) (by rw [e]; simp)
        rw [lst_snoc] at this
        exact this
    refine ⟨?_, ?_, hi⟩
    · rw [(hs v).1, k1', s1, nx.1]; omega
    · rw [(hs v).2, k2', s2, nx.2]
      show _ = _ - G.wt v - _
      omega
theorem inv_ev {m : Nat} {st : St} {a : T} {R : List Path} (hI : Inv m st G ((0, .node a x .nil) :: R)) (hx : G.th x = true) (hw : a.ord ++ [x] = (G.above x).reverse) : Inv m (flipF st x) (G.ev x) ((0, .node .nil x a.mir) :: R) := by
  have hok := hI.ok
  have ok' := ev_ok hok hx
  have hp := hI.po (0, .node a x .nil) (by simp)
  have x0 : x ≠ 0 := hok.nz x hx
  have hnd := hI.nd
  rw [nodes_cons] at hnd
  have n1 : (T.node a x .nil).ord.Nodup := (List.nodup_append.1 hnd).1
  have hord : (T.node a x .nil).ord = (G.above x).reverse := hw
  have hmord : (T.node .nil x a.mir).ord = G.above x := by
    have := mir_ord (.node a x .nil)
    rw [hord, List.reverse_reverse] at this
    exact this
  have LF1 : Lay (flipF st x) G.wt true 0 (.node a x .nil) := lay_flip n1 hp.lay
  have LF2 : Lay (flipF st x) G.wt false 0 (.node .nil x a.mir) := lay_mir LF1
  have SV := sv_flip st x
  have hap := hI.apart
  have en : (nodes ((0, T.node .nil x a.mir) :: R)).Perm (nodes ((0, T.node a x .nil) :: R)) := by
    rw [nodes_cons, nodes_cons]
    show ((T.node .nil x a.mir).ord ++ nodes R).Perm ((T.node a x .nil).ord ++ nodes R)
    rw [hmord, hord]
    exact List.Perm.append_right _ (List.reverse_perm _).symm
  refine ⟨fun q hq => ?_, en.nodup_iff.2 hI.nd, fun v => (en.mem_iff).trans (hI.cov v), fun v => (SV.th v).trans (hI.th v), fun v hv => ?_, SV.bd hI.bd, ok', hI.m⟩
  · rcases List.mem_cons.1 hq with e | e
    · subst e
      refine ⟨LF2, x0, ?_, ?_⟩
      · show Dn (G.ev x).up 0 (T.node .nil x a.mir).ord
        rw [hmord]
        exact dn_ev hok hx _ [] rfl
      · show VN (flipF st x) (G.ev x) (T.node .nil x a.mir).ord
        rw [hmord]
        have hv : VN st G (T.node a x .nil).ord := hp.vn
        rw [hord] at hv
        exact vn_ev hok hx hv (fun v => ⟨SV.vn v, SV.vs v⟩) _ [] rfl
    · have k := hI.po q (List.mem_cons_of_mem _ e)
      have out : ∀ v ∈ q.2.ord, v ∉ G.above x := fun v hv hv' => hap v (by rw [hord]; simpa using hv') (List.mem_flatMap.2 ⟨q, e, hv⟩)
      have hvx : ∀ v ∈ q.2.ord, v ≠ x := fun v hv e => out v hv (by rw [e]; exact hok.self x hx)
      refine ⟨lay_congr (fun v h => flip_ne _ _ _ (hvx v h)) (fun _ _ => rfl) k.lay, k.ne, dn_ev_off out k.dn, vn_congrG (G := G) (G' := G.ev x) (fun v h => ?_) (by rw [sub_zero ok', sub_zero hok]) (by rw [ssum_zero ok', ssum_zero hok]) k.vn⟩
      obtain ⟨s1, s2⟩ := ev_sub_off hok hx v (out v h)
      exact ⟨SV.vn v, SV.vs v, by rw [s1, sub_zero ok', sub_zero hok], by rw [s2, ssum_zero ok', ssum_zero hok], rfl⟩
  · have hv' : G.th v = false := hv
    have e : v ≠ x := fun e => by subst e; rw [hx] at hv'; cases hv'
    rw [flip_ne _ _ _ e]
    exact hI.off v hv'
end
theorem evert_any (w : World) (F A m : Nat) (G : Fo) (h : LF w F A m G) (x : Nat) (hx : G.th x = true) : Calls Try.prog 55 #[.pointer (some ⟨F, 0, none⟩), .int .i64 x] w fun e w' => e = .returned (.tuple #[]) ∧ LPost w F A m (G.ev x) w' := by
  have hok := h.ok
  have hm := h.hm
  have hxm : x < m := by have := hok.rng x hx; omega
  have HAC := Lib.hid (access_lf w F A m G h x hx)
  have HX := Lib.hid hx
  clear h hok hm hx
  go_enter Try.func55, Try.ntmps55
  go_wp2_with fail
  go_at_call 52
  refine HAC.out.mono ?_
  rintro e w2 ⟨last, rfl, Ps2, st2, a2, R2, h2⟩
  have HI := Lib.hid (inv_ev h2.inv HX.out h2.way)
  have HFL := Lib.hid (flip_any w2 F A m st2 h2.fr x hxm)
  have HT := Lib.hid h2.tch
  clear h2
  go_wp2_with fail
  go_at_call 73
  refine HFL.out.mono ?_
  rintro e w3 ⟨rfl, h3, T3⟩
  have HE := Lib.hid (show LPost w F A m (G.ev x) w3 from ⟨⟨_, _, h3, HI.out⟩, HT.out.trans T3⟩)
  clear h3 T3
  go_wp2_with fail
  exact bodyPost_end (v := .tuple #[]) (by simp [results, Try.results55, go_sem]) rfl ⟨rfl, HE.out⟩
/-- Evert by outer numbers. -/
def evG (G : Fo) (v : Int) : Fo := if hasB G v = true then G.ev (v.toNat + 1) else G
theorem Evert_any (w : World) (F A m : Nat) (G : Fo) (h : LF w F A m G) (v : Int) : Calls Try.prog 19 #[.pointer (some ⟨F, 0, none⟩), .int .i64 v] w fun e w' => e = .returned (.bool (hasB G v)) ∧ LPost w F A m (evG G v) w' := by
  have HH := Lib.hid (has_any w F A m G h v)
  have hok := h.ok
  have hs := hok.small
  unfold evG
  cases hv : hasB G v with
  | false =>
    rw [hv] at HH
    rw [if_neg (by simp)]
    have HL := Lib.hid h
    clear h hok hv
    go_enter Try.func19, Try.ntmps19
    go_wp2_with (go_at_call 31; refine HH.out.mono ?_; rintro e w1 ⟨rfl, rfl⟩)
    go_ret
    exact ⟨rfl, HL.out, Tch.refl _ _⟩
  | true =>
    rw [hv] at HH
    rw [if_pos rfl]
    obtain ⟨k, rfl, hk, hth⟩ := hasB_yes hok hv
    rw [Int.toNat_natCast]
    have e1 : ((k + 1 : Nat) : Int) = (k : Int) + 1 := by omega
    have HEV := evert_any w F A m G h (k + 1) hth
    rw [e1] at HEV
    have HEV := Lib.hid HEV
    clear h hok hv hth e1
    go_enter Try.func19, Try.ntmps19
    go_wp2_with (go_at_call 31; refine HH.out.mono ?_; rintro e w1 ⟨rfl, rfl⟩)
    go_at_call 55
    refine HEV.out.mono ?_
    rintro e w2 ⟨rfl, h2⟩
    have H2 := Lib.hid h2
    clear h2
    go_wp2_with fail
    go_ret
    exact ⟨rfl, H2.out⟩
end Go.Proofs.Ytaipladbgdcedaa
namespace Go.Proofs.Ytaipladbgdcedaa
open Go.RowKit

section
variable {G : Fo} {x : Nat}
/-- Turned round the way back. -/
theorem ev_back (h : FoOk G) (hx : G.th x = true) : (G.ev x).ev (G.root x) = G := by
  obtain ⟨lr, hlr⟩ := root_last h hx
  have hway : (G.ev x).above (G.root x) = (G.above x).reverse := by
    have := ev_on h hx lr.length lr [] (G.root x) rfl (by rw [hlr])
    obtain ⟨rt, _⟩ := root_bd h x hx
    rw [ev_above_of h hx _ this rt, hlr]
    simp
  have hup : ∀ u, ((G.ev x).ev (G.root x)).up u = G.up u := by
    intro u
    show (if u ∈ (G.ev x).above (G.root x) then prv 0 ((G.ev x).above (G.root x)) u else (if u ∈ G.above x then prv 0 (G.above x) u else G.up u)) = _
    rw [hway]
    by_cases hu : u ∈ G.above x
    · rw [if_pos (by simpa using hu)]
      obtain ⟨l1, l2, e1, e2⟩ := up_suffix (h.above x hx).1 u hu
      have hn := up_nodup (h.above x hx).1
      rw [e1] at hn ⊢
      have hu2 : u ∉ l2.reverse := fun k => by
        have := (List.nodup_append.1 hn).2.1
        rw [List.nodup_cons] at this
        exact this.1 (by simpa using k)
      have er : (l1 ++ u :: l2).reverse = l2.reverse ++ u :: l1.reverse := by simp
      rw [er, prv_at l2.reverse u l1.reverse hu2]
      unfold lst
      rw [List.reverse_reverse]
      obtain ⟨_, _, h3⟩ := e2
      cases l2 with
      | nil =>
        have h4 : G.up u = 0 := h3
        rw [h4]; rfl
      | cons b l2 => exact h3.1
    · rw [if_neg (by simpa using hu), if_neg hu]
  have : ((G.ev x).ev (G.root x)).up = G.up := funext hup
  show (⟨G.n, G.th, ((G.ev x).ev (G.root x)).up, G.wt⟩ : Fo) = G
  rw [this]
end
def AccT (w : World) (F A m : Nat) (G : Fo) (x : Nat) (e : Ending) (w' : World) : Prop := e = .returned (.tuple #[]) ∧ ∃ Ps st a R, Accd w F A m G Ps x st a R w'
theorem Accd.from {w0 w : World} {F A m : Nat} {G : Fo} {Ps : List Path} {x : Nat} {st : St} {a : T} {R : List Path} {w' : World} (h : Accd w F A m G Ps x st a R w') (t : Tch [A] w0 w) : Accd w0 F A m G Ps x st a R w' := ⟨h.fr, t.trans h.tch, h.inv, h.way, h.cln, h.keep⟩
theorem path_any (w : World) (F A m : Nat) (G : Fo) (h : LF w F A m G) (a b : Nat) (ha : G.th a = true) (hb : G.th b = true) : Calls Try.prog 54 #[.pointer (some ⟨F, 0, none⟩), .int .i64 a, .int .i64 b] w (AccT w F A m (G.ev a) b) := by
  have HE := Lib.hid (evert_any w F A m G h a ha)
  have HA := Lib.hid (fun w2 (h2 : LF w2 F A m (G.ev a)) => access_lf w2 F A m (G.ev a) h2 b hb)
  clear h ha hb
  go_enter Try.func54, Try.ntmps54
  go_wp2_with fail
  go_at_call 55
  refine HE.out.mono ?_
  rintro e w2 ⟨rfl, h2⟩
  have H2 := Lib.hid h2
  clear h2
  go_wp2_with fail
  go_at_call 52
  refine (HA.out w2 H2.out.1).mono ?_
  rintro e w3 ⟨last, rfl, Ps, st, a3, R, h3⟩
  have H3 := Lib.hid (h3.from H2.out.2)
  clear h3
  go_wp2_with fail
  exact bodyPost_end (v := .tuple #[]) (by simp [results, Try.results54, go_sem]) rfl ⟨rfl, Ps, st, a3, R, H3.out⟩
/-- What a way weighs. -/
def Fo.psum (G : Fo) (a b : Nat) : Sm := sumL (((G.ev a).above b).map G.wt)
theorem Accd.sum {w : World} {F A m : Nat} {G : Fo} {Ps : List Path} {x : Nat} {st : St} {a : T} {R : List Path} {w' : World} (h : Accd w F A m G Ps x st a R w') : (st x).sum = sumL ((G.above x).map G.wt) := by
  have hp := h.inv.po (0, .node a x .nil) (by simp)
  have e1 : (st x).sum = sumL ((T.node a x .nil).ord.map G.wt) := hp.lay.1.2.2.2.2.2.2.1
  have e2 : (T.node a x .nil).ord = (G.above x).reverse := h.way
  rw [e1, e2, List.map_reverse, sumL_rev]
def scell (q : Sm) : Nat → Value := fun k => match k with | 0 => .int .i64 q.c | 1 => .int .i64 q.s | 2 => .int .i64 q.mn | _ => .int .i64 q.mx
theorem sum_made (w : World) (q : Sm) : Blk (w.alloc (.cells #[.int .i64 q.c, .int .i64 q.s, .int .i64 q.mn, .int .i64 q.mx] 29)) w.heap.size 29 4 (scell q) :=
  Blk.made (w := w) 29 #[.int .i64 q.c, .int .i64 q.s, .int .i64 q.mn, .int .i64 q.mx] (scell q) (fun k hk => match k, hk with | 0, _ => rfl | 1, _ => rfl | 2, _ => rfl | 3, _ => rfl)
def sumE (G : Fo) (a b : Int) : Sm := if sameB G a b = true then G.psum (a.toNat + 1) (b.toNat + 1) else ⟨0, 0, 0, 0⟩
theorem sum_set {w : World} {X : Nat} {q q' : Sm} (h : Blk w X 29 4 (scell q)) : Blk ((((w.setCell ⟨X, 0, none⟩ (.int .i64 q'.c)).setCell ⟨X, 1, none⟩ (.int .i64 q'.s)).setCell ⟨X, 2, none⟩ (.int .i64 q'.mn)).setCell ⟨X, 3, none⟩ (.int .i64 q'.mx)) X 29 4 (scell q') :=
  ((((h.set 0 _).set 1 _).set 2 _).set 3 _).ext (fun k hk => match k, hk with | 0, _ => rfl | 1, _ => rfl | 2, _ => rfl | 3, _ => rfl)
theorem sum_tch {w0 w : World} {A X : Nat} {q' : Sm} (t : Tch [A] w0 w) (hX : w0.heap.size ≤ X) : Tch [A] w0 ((((w.setCell ⟨X, 0, none⟩ (.int .i64 q'.c)).setCell ⟨X, 1, none⟩ (.int .i64 q'.s)).setCell ⟨X, 2, none⟩ (.int .i64 q'.mn)).setCell ⟨X, 3, none⟩ (.int .i64 q'.mx)) :=
  (((t.setNew hX _).setNew hX _).setNew hX _).setNew hX _
theorem sum_lf {w : World} {F A m X : Nat} {G : Fo} {q' : Sm} (h : LF w F A m G) (hF : F ≠ X) (hA : A ≠ X) : LF ((((w.setCell ⟨X, 0, none⟩ (.int .i64 q'.c)).setCell ⟨X, 1, none⟩ (.int .i64 q'.s)).setCell ⟨X, 2, none⟩ (.int .i64 q'.mn)).setCell ⟨X, 3, none⟩ (.int .i64 q'.mx)) F A m G :=
  h.tch (bs := [X]) (((((Tch.refl [X] w).set (by simp) _).set (by simp) _).set (by simp) _).set (by simp) _) (by simpa using hF) (by simpa using hA)
theorem Path_no (w : World) (F A m : Nat) (G : Fo) (h : LF w F A m G) (a b : Int) (hv : sameB G a b = false) : Calls Try.prog 18 #[.pointer (some ⟨F, 0, none⟩), .int .i64 a, .int .i64 b] w fun e w' => e = .returned (.tuple #[(⟨0, 0, 0, 0⟩ : Sm).val, .bool false]) ∧ LPost w F A m G w' := by
  have hl := h.lt
  have HS := fun (w2 : World) (h2 : LF w2 F A m G) => Same_any w2 F A m G h2 a b
  rw [hv] at HS
  have HS := Lib.hid HS
  have HL := Lib.hid h
  clear h hv
  go_enter Try.func18, Try.ntmps18
  go_wp2_with fail
  go_at_call 17
  refine (HS.out _ (HL.out.quiet ((Tch.refl _ _).new _))).mono ?_
  rintro e w2 ⟨rfl, h2⟩
  have hb : Blk w2 w.heap.size 29 4 (scell ⟨0, 0, 0, 0⟩) := h2.2.blk (sum_made w ⟨0, 0, 0, 0⟩) (by simp; omega)
  have c0 : w2.cell? ⟨w.heap.size, 0, none⟩ = some (.int .i64 0) := hb.cell 0 (by omega)
  have c1 : w2.cell? ⟨w.heap.size, 1, none⟩ = some (.int .i64 0) := hb.cell 1 (by omega)
  have c2 : w2.cell? ⟨w.heap.size, 2, none⟩ = some (.int .i64 0) := hb.cell 2 (by omega)
  have c3 : w2.cell? ⟨w.heap.size, 3, none⟩ = some (.int .i64 0) := hb.cell 3 (by omega)
  have fz := hb.frozen
  have hX := hb.lt
  have h3 := ((Tch.refl [A] w).new (.cells #[.int .i64 0, .int .i64 0, .int .i64 0, .int .i64 0] 29)).trans h2.2
  have HB := Lib.hid hb
  have H2 := Lib.hid h2
  have H3 := Lib.hid h3
  clear h2 h3 hb
  generalize hXe : w.heap.size = X at *
  have HX := Lib.hid hXe
  clear hXe
  go_wp2_with fail
  have bF := sum_set (q' := ⟨0, 0, 0, 0⟩) HB.out
  have tF := sum_tch (q' := ⟨0, 0, 0, 0⟩) H3.out (by rw [HX.out]; exact Nat.le_refl X)
  have lF := sum_lf (q' := ⟨0, 0, 0, 0⟩) H2.out.1 (X := X) (by omega) (by omega)
  have HE := Lib.hid (And.intro lF tF)
  clear c0 c1 c2 c3 fz hX tF lF
  simp only [] at bF HE
  generalize (((w2.setCell ⟨X, 0, none⟩ (.int .i64 0)).setCell ⟨X, 1, none⟩ (.int .i64 0)).setCell ⟨X, 2, none⟩ (.int .i64 0)).setCell ⟨X, 3, none⟩ (.int .i64 0) = wF at *
  have c0 : wF.cell? ⟨X, 0, none⟩ = some (.int .i64 0) := bF.cell 0 (by omega)
  have c1 : wF.cell? ⟨X, 1, none⟩ = some (.int .i64 0) := bF.cell 1 (by omega)
  have c2 : wF.cell? ⟨X, 2, none⟩ = some (.int .i64 0) := bF.cell 2 (by omega)
  have c3 : wF.cell? ⟨X, 3, none⟩ = some (.int .i64 0) := bF.cell 3 (by omega)
  have hX := bF.lt
  exact bodyPost_ret (v := .tuple #[.agg #[.int .i64 0, .int .i64 0, .int .i64 0, .int .i64 0], .bool false]) (by simp [results, Try.results18, go_sem, c0, c1, c2, c3, hX]) rfl ⟨rfl, HE.out⟩
theorem Path_yes (w : World) (F A m : Nat) (G : Fo) (h : LF w F A m G) (i j : Nat) (hi : G.th (i + 1) = true) (hj : G.th (j + 1) = true) (hv : sameB G i j = true) : Calls Try.prog 18 #[.pointer (some ⟨F, 0, none⟩), .int .i64 i, .int .i64 j] w fun e w' => e = .returned (.tuple #[(G.psum (i + 1) (j + 1)).val, .bool true]) ∧ LPost w F A m G w' := by
  have hl := h.lt
  have hok := h.ok
  have hs := hok.small
  have hm := h.hm
  have hir := hok.rng _ hi
  have hjr := hok.rng _ hj
  have e1 : ((i + 1 : Nat) : Int) = (i : Int) + 1 := by omega
  have e2 : ((j + 1 : Nat) : Int) = (j : Int) + 1 := by omega
  have HS := fun (w2 : World) (h2 : LF w2 F A m G) => Same_any w2 F A m G h2 i j
  rw [hv] at HS
  have HS := Lib.hid HS
  have HR := fun (w2 : World) (h2 : LF w2 F A m G) => root_any w2 F A m G h2 (i + 1) hi
  rw [e1] at HR
  have HR := Lib.hid HR
  have HP := fun (w2 : World) (h2 : LF w2 F A m G) => path_any w2 F A m G h2 (i + 1) (j + 1) hi hj
  rw [e1, e2] at HP
  have HP := Lib.hid HP
  have HB := Lib.hid (ev_back hok hi)
  obtain ⟨rt, _⟩ := root_bd hok (i + 1) hi
  have HE := Lib.hid (fun (w2 : World) (h2 : LF w2 F A m (G.ev (i + 1))) => evert_any w2 F A m (G.ev (i + 1)) h2 (G.root (i + 1)) rt)
  have hrr := hok.rng _ rt
  have HL := Lib.hid h
  have hjm : j + 1 < m := by omega
  clear h hv hok hi hj e1 e2 rt hm
  obtain ⟨r, hr⟩ : ∃ r, r = G.root (i + 1) := ⟨_, rfl⟩
  rw [← hr] at HR HB HE hrr
  have HRR := Lib.hid hr
  clear hr
  go_enter Try.func18, Try.ntmps18
  go_wp2_with fail
  go_at_call 17
  refine (HS.out _ (HL.out.quiet ((Tch.refl _ _).new _))).mono ?_
  rintro e w2 ⟨rfl, h2⟩
  have H2 := Lib.hid h2
  clear h2
  go_wp2_with fail
  go_at_call 53
  refine (HR.out w2 H2.out.1).mono ?_
  rintro e w3 ⟨rfl, h3⟩
  have H3 := Lib.hid h3
  clear h3
  go_wp2_with fail
  go_at_call 54
  refine (HP.out w3 H3.out.1).mono ?_
  rintro e w4 ⟨rfl, Ps4, st4, a4, R4, h4⟩
  have hsum := h4.sum
  have t4 := (((Tch.refl [A] w).new (.cells #[.int .i64 0, .int .i64 0, .int .i64 0, .int .i64 0] 29)).trans H2.out.2).trans (H3.out.2.trans h4.tch)
  have hXb : Blk w4 w.heap.size 29 4 (scell ⟨0, 0, 0, 0⟩) := (H2.out.2.trans (H3.out.2.trans h4.tch)).blk (sum_made w ⟨0, 0, 0, 0⟩) (by simp; omega)
  have c0 := h4.fr.c0
  have gc := h4.fr.at_c (j + 1) hjm
  have gs := h4.fr.at_s (j + 1) hjm
  have gmn := h4.fr.at_mn (j + 1) hjm
  have gmx := h4.fr.at_mx (j + 1) hjm
  obtain ⟨q, hq⟩ : ∃ q, q = (st4 (j + 1)).sum := ⟨_, rfl⟩
  have q1 : (st4 (j + 1)).c = q.c := by rw [hq]; rfl
  have q2 : (st4 (j + 1)).s = q.s := by rw [hq]; rfl
  have q3 : (st4 (j + 1)).mn = q.mn := by rw [hq]; rfl
  have q4 : (st4 (j + 1)).mx = q.mx := by rw [hq]; rfl
  rw [q1] at gc
  rw [q2] at gs
  rw [q3] at gmn
  rw [q4] at gmx
  rw [← hq] at hsum
  obtain ⟨hF, hA⟩ := h4.fr.lt
  have lf4 : LF w4 F A m (G.ev (i + 1)) := ⟨st4, _, h4.fr, h4.inv⟩
  have HQ := Lib.hid hsum
  have HT4 := Lib.hid t4
  have HX4 := Lib.hid hXb
  have HL4 := Lib.hid lf4
  clear h4 hsum t4 hXb q1 q2 q3 q4 hq lf4
  go_wp2_with fail
  have hS4 := sum_made w4 q
  have lf5 := HL4.out.quiet ((Tch.refl [] w4).new (.cells #[.int .i64 q.c, .int .i64 q.s, .int .i64 q.mn, .int .i64 q.mx] 29))
  have t5 := HT4.out.new (.cells #[.int .i64 q.c, .int .i64 q.s, .int .i64 q.mn, .int .i64 q.mx] 29)
  have hX5 := HX4.out.new (.cells #[.int .i64 q.c, .int .i64 q.s, .int .i64 q.mn, .int .i64 q.mx] 29)
  have hXlt := HX4.out.lt
  clear c0 gc gs gmn gmx
  generalize w4.alloc (.cells #[.int .i64 q.c, .int .i64 q.s, .int .i64 q.mn, .int .i64 q.mx] 29) = w5 at *
  generalize hSe : w4.heap.size = S at *
  generalize hXe : w.heap.size = X at *
  go_at_call 55
  refine (HE.out w5 lf5).mono ?_
  rintro e w6 ⟨rfl, h6⟩
  rw [HB.out] at h6
  have b6 := h6.2.blk hX5 (by simp; omega)
  have s6 := h6.2.blk hS4 (by simp; omega)
  have t6 := t5.trans h6.2
  have x0 : w6.cell? ⟨S, 0, none⟩ = some (.int .i64 q.c) := s6.cell 0 (by omega)
  have x1 : w6.cell? ⟨S, 1, none⟩ = some (.int .i64 q.s) := s6.cell 1 (by omega)
  have x2 : w6.cell? ⟨S, 2, none⟩ = some (.int .i64 q.mn) := s6.cell 2 (by omega)
  have x3 : w6.cell? ⟨S, 3, none⟩ = some (.int .i64 q.mx) := s6.cell 3 (by omega)
  have y0 : w6.cell? ⟨X, 0, none⟩ = some (.int .i64 0) := b6.cell 0 (by omega)
  have y1 : w6.cell? ⟨X, 1, none⟩ = some (.int .i64 0) := b6.cell 1 (by omega)
  have y2 : w6.cell? ⟨X, 2, none⟩ = some (.int .i64 0) := b6.cell 2 (by omega)
  have y3 : w6.cell? ⟨X, 3, none⟩ = some (.int .i64 0) := b6.cell 3 (by omega)
  have fz := b6.frozen
  have hX6 := b6.lt
  have hS6 := s6.lt
  have bF := sum_set (q' := q) b6
  have tF := sum_tch (q' := q) t6 (by rw [hXe]; exact Nat.le_refl X)
  have lF := sum_lf (q' := q) h6.1 (X := X) (by omega) (by omega)
  have BF := Lib.hid bF
  have HEE := Lib.hid (And.intro lF tF)
  clear h6 b6 s6 t6 bF tF lF lf5 t5 hX5 hS4 hSe hXe
  go_wp2_with fail
  clear x0 x1 x2 x3 y0 y1 y2 y3 fz
  generalize (((w6.setCell ⟨X, 0, none⟩ (.int .i64 q.c)).setCell ⟨X, 1, none⟩ (.int .i64 q.s)).setCell ⟨X, 2, none⟩ (.int .i64 q.mn)).setCell ⟨X, 3, none⟩ (.int .i64 q.mx) = wF at *
  have c0 : wF.cell? ⟨X, 0, none⟩ = some (.int .i64 q.c) := BF.out.cell 0 (by omega)
  have c1 : wF.cell? ⟨X, 1, none⟩ = some (.int .i64 q.s) := BF.out.cell 1 (by omega)
  have c2 : wF.cell? ⟨X, 2, none⟩ = some (.int .i64 q.mn) := BF.out.cell 2 (by omega)
  have c3 : wF.cell? ⟨X, 3, none⟩ = some (.int .i64 q.mx) := BF.out.cell 3 (by omega)
  have hX := BF.out.lt
  exact bodyPost_ret (v := .tuple #[.agg #[.int .i64 q.c, .int .i64 q.s, .int .i64 q.mn, .int .i64 q.mx], .bool true]) (by simp [results, Try.results18, go_sem, c0, c1, c2, c3, hX]) rfl ⟨by rw [HQ.out]; rfl, HEE.out⟩
/-- Path by outer numbers. -/
theorem Path_any (w : World) (F A m : Nat) (G : Fo) (h : LF w F A m G) (a b : Int) : Calls Try.prog 18 #[.pointer (some ⟨F, 0, none⟩), .int .i64 a, .int .i64 b] w fun e w' => e = .returned (.tuple #[(sumE G a b).val, .bool (sameB G a b)]) ∧ LPost w F A m G w' := by
  unfold sumE
  cases hv : sameB G a b with
  | false =>
    rw [if_neg (by simp)]
    exact Path_no w F A m G h a b hv
  | true =>
    rw [if_pos rfl]
    obtain ⟨i, j, rfl, rfl, _, _, hi, hj, _⟩ := sameB_yes h.ok hv
    rw [Int.toNat_natCast, Int.toNat_natCast]
    exact Path_yes w F A m G h i j hi hj hv
end Go.Proofs.Ytaipladbgdcedaa
