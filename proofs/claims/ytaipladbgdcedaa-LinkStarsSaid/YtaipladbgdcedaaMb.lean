/- The forest in memory, and the walks of its small steps. No condition of its own. -/
import Derived.Test.YtaipladbgdcedaaMa
import Derived.Test.YtaipladbgdcedaaProg
import Derived.Deep.QuietTactic
import Derived.BigQuiet
import Derived.Lib.Hide
import Derived.Deep.CutRange
set_option linter.unusedSimpArgs false
set_option linter.unusedVariables false
namespace Go.Proofs.Ytaipladbgdcedaa
open Go.RowKit

/-- A node. -/
structure Nd where
  l : Nat
  r : Nat
  p : Nat
  rev : Bool
  w : Int
  add : Int
  c : Int
  s : Int
  mn : Int
  mx : Int
  vn : Int
  vs : Int
  tn : Int
  ts : Int
  th : Bool
  deriving DecidableEq
def Nd.zero : Nd := ⟨0, 0, 0, false, 0, 0, 0, 0, 0, 0, 0, 0, 0, 0, false⟩
abbrev St := Nat → Nd
def St.upd (st : St) (x : Nat) (y : Nd) : St := fun k => if k = x then y else st k
theorem St.upd_same (st : St) (x : Nat) (y : Nd) : (st.upd x y) x = y := by simp [St.upd]
theorem St.upd_ne (st : St) (x : Nat) (y : Nd) (k : Nat) (h : k ≠ x) : (st.upd x y) k = st k := by simp [St.upd, h]
theorem St.upd_upd (st : St) (x : Nat) (y z : Nd) : (st.upd x y).upd x z = st.upd x z := by
  funext k
  unfold St.upd
  split <;> rfl
theorem St.upd_self (st : St) (x : Nat) : st.upd x (st x) = st := by
  funext k
  unfold St.upd
  split
  · rename_i h; rw [h]
  · rfl
def ncell (y : Nd) : Nat → Value
  | 0 => .int .i64 (y.l : Int)
  | 1 => .int .i64 (y.r : Int)
  | 2 => .int .i64 (y.p : Int)
  | 3 => .bool y.rev
  | 4 => .int .i64 (y.w : Int)
  | 5 => .int .i64 (y.add : Int)
  | 6 => .int .i64 (y.c : Int)
  | 7 => .int .i64 (y.s : Int)
  | 8 => .int .i64 (y.mn : Int)
  | 9 => .int .i64 (y.mx : Int)
  | 10 => .int .i64 (y.vn : Int)
  | 11 => .int .i64 (y.vs : Int)
  | 12 => .int .i64 (y.tn : Int)
  | 13 => .int .i64 (y.ts : Int)
  | _ => .bool y.th

/-- The forest F has its nodes in the block A: so many, and these. -/
structure FR (w : World) (F A m : Nat) (st : St) : Prop where
  f : Blk w F 68 1 (fun _ => .slice (some ⟨A, 0, none⟩) m m)
  a : Blk w A 65 (m * 15) (fun k => ncell (st (k / 15)) (k % 15))
  ne : F ≠ A
  small : m ≤ 2000000
section
variable {w w' : World} {F A m : Nat} {st : St}
theorem FR.tch (h : FR w F A m st) {bs : List Nat} (t : Tch bs w w') (h1 : F ∉ bs) (h2 : A ∉ bs) : FR w' F A m st := ⟨t.blk h.f h1, t.blk h.a h2, h.ne, h.small⟩
theorem FR.quiet (h : FR w F A m st) (t : Tch [] w w') : FR w' F A m st := h.tch t (by simp) (by simp)
theorem FR.lt (h : FR w F A m st) : F < w.heap.size ∧ A < w.heap.size := ⟨h.f.lt, h.a.lt⟩
theorem FR.c0 (h : FR w F A m st) : w.cell? ⟨F, 0, none⟩ = some (.slice (some ⟨A, 0, none⟩) m m) := h.f.cell 0 (by omega)
theorem FR.at (h : FR w F A m st) (x j : Nat) (hx : x < m) (hj : j < 15) : w.cell? ⟨A, x * 15 + j, none⟩ = some (ncell (st x) j) := by
  have := h.a.cell (x * 15 + j) (by omega)
  rw [this]
  have e1 : (x * 15 + j) / 15 = x := by omega
  have e2 : (x * 15 + j) % 15 = j := by omega
  rw [e1, e2]
theorem FR.fz (h : FR w F A m st) (o : Nat) : w.frozen? ⟨A, o, none⟩ = false := h.a.frozen o
/-- One store into a node. -/
theorem FR.set1 (h : FR w F A m st) (x j : Nat) (hx : x < m) (hj : j < 15) (o : Nat) (ho : o = x * 15 + j) (v : Value) (nd : Nd) (hv : ∀ k, k < 15 → ncell nd k = if k = j then v else ncell (st x) k) : FR (w.setCell ⟨A, o, none⟩ v) F A m (st.upd x nd) := by
  subst ho
  refine ⟨h.f.setNe _ _ h.ne, ((h.a.set (x * 15 + j) v).ext (fun k hk => ?_)), h.ne, h.small⟩
  by_cases e : k = x * 15 + j
  · subst e
    have e1 : (x * 15 + j) / 15 = x := by omega
    have e2 : (x * 15 + j) % 15 = j := by omega
    rw [if_pos rfl, e1, e2, St.upd_same, hv j hj, if_pos rfl]
  · rw [if_neg e]
    by_cases e1 : k / 15 = x
    · rw [e1, St.upd_same, hv _ (Nat.mod_lt _ (by omega)), if_neg (by omega)]
    · rw [St.upd_ne _ _ _ _ e1]
theorem Tch.cellA {bs : List Nat} {a : World} (t : Tch bs a w) (hA : A ∈ bs) (o : Nat) (v : Value) : Tch bs a (w.setCell ⟨A, o, none⟩ v) := t.set hA v
theorem FR.set_l (h : FR w F A m st) (x : Nat) (hx : x < m) (o : Nat) (ho : o = x * 15 + 0) (z : Nat) : FR (w.setCell ⟨A, o, none⟩ (.int .i64 (z : Int))) F A m (st.upd x { st x with l := z }) :=
  h.set1 x 0 hx (by omega) o ho _ _ (fun k hk => match k, hk with | 0, _ => rfl | 1, _ => rfl | 2, _ => rfl | 3, _ => rfl | 4, _ => rfl | 5, _ => rfl | 6, _ => rfl | 7, _ => rfl | 8, _ => rfl | 9, _ => rfl | 10, _ => rfl | 11, _ => rfl | 12, _ => rfl | 13, _ => rfl | 14, _ => rfl)
theorem FR.set_r (h : FR w F A m st) (x : Nat) (hx : x < m) (o : Nat) (ho : o = x * 15 + 1) (z : Nat) : FR (w.setCell ⟨A, o, none⟩ (.int .i64 (z : Int))) F A m (st.upd x { st x with r := z }) :=
  h.set1 x 1 hx (by omega) o ho _ _ (fun k hk => match k, hk with | 0, _ => rfl | 1, _ => rfl | 2, _ => rfl | 3, _ => rfl | 4, _ => rfl | 5, _ => rfl | 6, _ => rfl | 7, _ => rfl | 8, _ => rfl | 9, _ => rfl | 10, _ => rfl | 11, _ => rfl | 12, _ => rfl | 13, _ => rfl | 14, _ => rfl)
theorem FR.set_p (h : FR w F A m st) (x : Nat) (hx : x < m) (o : Nat) (ho : o = x * 15 + 2) (z : Nat) : FR (w.setCell ⟨A, o, none⟩ (.int .i64 (z : Int))) F A m (st.upd x { st x with p := z }) :=
  h.set1 x 2 hx (by omega) o ho _ _ (fun k hk => match k, hk with | 0, _ => rfl | 1, _ => rfl | 2, _ => rfl | 3, _ => rfl | 4, _ => rfl | 5, _ => rfl | 6, _ => rfl | 7, _ => rfl | 8, _ => rfl | 9, _ => rfl | 10, _ => rfl | 11, _ => rfl | 12, _ => rfl | 13, _ => rfl | 14, _ => rfl)
theorem FR.set_rev (h : FR w F A m st) (x : Nat) (hx : x < m) (o : Nat) (ho : o = x * 15 + 3) (z : Bool) : FR (w.setCell ⟨A, o, none⟩ (.bool z)) F A m (st.upd x { st x with rev := z }) :=
  h.set1 x 3 hx (by omega) o ho _ _ (fun k hk => match k, hk with | 0, _ => rfl | 1, _ => rfl | 2, _ => rfl | 3, _ => rfl | 4, _ => rfl | 5, _ => rfl | 6, _ => rfl | 7, _ => rfl | 8, _ => rfl | 9, _ => rfl | 10, _ => rfl | 11, _ => rfl | 12, _ => rfl | 13, _ => rfl | 14, _ => rfl)
theorem FR.set_w (h : FR w F A m st) (x : Nat) (hx : x < m) (o : Nat) (ho : o = x * 15 + 4) (z : Int) : FR (w.setCell ⟨A, o, none⟩ (.int .i64 (z : Int))) F A m (st.upd x { st x with w := z }) :=
  h.set1 x 4 hx (by omega) o ho _ _ (fun k hk => match k, hk with | 0, _ => rfl | 1, _ => rfl | 2, _ => rfl | 3, _ => rfl | 4, _ => rfl | 5, _ => rfl | 6, _ => rfl | 7, _ => rfl | 8, _ => rfl | 9, _ => rfl | 10, _ => rfl | 11, _ => rfl | 12, _ => rfl | 13, _ => rfl | 14, _ => rfl)
theorem FR.set_add (h : FR w F A m st) (x : Nat) (hx : x < m) (o : Nat) (ho : o = x * 15 + 5) (z : Int) : FR (w.setCell ⟨A, o, none⟩ (.int .i64 (z : Int))) F A m (st.upd x { st x with add := z }) :=
  h.set1 x 5 hx (by omega) o ho _ _ (fun k hk => match k, hk with | 0, _ => rfl | 1, _ => rfl | 2, _ => rfl | 3, _ => rfl | 4, _ => rfl | 5, _ => rfl | 6, _ => rfl | 7, _ => rfl | 8, _ => rfl | 9, _ => rfl | 10, _ => rfl | 11, _ => rfl | 12, _ => rfl | 13, _ => rfl | 14, _ => rfl)
theorem FR.set_c (h : FR w F A m st) (x : Nat) (hx : x < m) (o : Nat) (ho : o = x * 15 + 6) (z : Int) : FR (w.setCell ⟨A, o, none⟩ (.int .i64 (z : Int))) F A m (st.upd x { st x with c := z }) :=
  h.set1 x 6 hx (by omega) o ho _ _ (fun k hk => match k, hk with | 0, _ => rfl | 1, _ => rfl | 2, _ => rfl | 3, _ => rfl | 4, _ => rfl | 5, _ => rfl | 6, _ => rfl | 7, _ => rfl | 8, _ => rfl | 9, _ => rfl | 10, _ => rfl | 11, _ => rfl | 12, _ => rfl | 13, _ => rfl | 14, _ => rfl)
theorem FR.set_s (h : FR w F A m st) (x : Nat) (hx : x < m) (o : Nat) (ho : o = x * 15 + 7) (z : Int) : FR (w.setCell ⟨A, o, none⟩ (.int .i64 (z : Int))) F A m (st.upd x { st x with s := z }) :=
  h.set1 x 7 hx (by omega) o ho _ _ (fun k hk => match k, hk with | 0, _ => rfl | 1, _ => rfl | 2, _ => rfl | 3, _ => rfl | 4, _ => rfl | 5, _ => rfl | 6, _ => rfl | 7, _ => rfl | 8, _ => rfl | 9, _ => rfl | 10, _ => rfl | 11, _ => rfl | 12, _ => rfl | 13, _ => rfl | 14, _ => rfl)
theorem FR.set_mn (h : FR w F A m st) (x : Nat) (hx : x < m) (o : Nat) (ho : o = x * 15 + 8) (z : Int) : FR (w.setCell ⟨A, o, none⟩ (.int .i64 (z : Int))) F A m (st.upd x { st x with mn := z }) :=
  h.set1 x 8 hx (by omega) o ho _ _ (fun k hk => match k, hk with | 0, _ => rfl | 1, _ => rfl | 2, _ => rfl | 3, _ => rfl | 4, _ => rfl | 5, _ => rfl | 6, _ => rfl | 7, _ => rfl | 8, _ => rfl | 9, _ => rfl | 10, _ => rfl | 11, _ => rfl | 12, _ => rfl | 13, _ => rfl | 14, _ => rfl)
theorem FR.set_mx (h : FR w F A m st) (x : Nat) (hx : x < m) (o : Nat) (ho : o = x * 15 + 9) (z : Int) : FR (w.setCell ⟨A, o, none⟩ (.int .i64 (z : Int))) F A m (st.upd x { st x with mx := z }) :=
  h.set1 x 9 hx (by omega) o ho _ _ (fun k hk => match k, hk with | 0, _ => rfl | 1, _ => rfl | 2, _ => rfl | 3, _ => rfl | 4, _ => rfl | 5, _ => rfl | 6, _ => rfl | 7, _ => rfl | 8, _ => rfl | 9, _ => rfl | 10, _ => rfl | 11, _ => rfl | 12, _ => rfl | 13, _ => rfl | 14, _ => rfl)
theorem FR.set_vn (h : FR w F A m st) (x : Nat) (hx : x < m) (o : Nat) (ho : o = x * 15 + 10) (z : Int) : FR (w.setCell ⟨A, o, none⟩ (.int .i64 (z : Int))) F A m (st.upd x { st x with vn := z }) :=
  h.set1 x 10 hx (by omega) o ho _ _ (fun k hk => match k, hk with | 0, _ => rfl | 1, _ => rfl | 2, _ => rfl | 3, _ => rfl | 4, _ => rfl | 5, _ => rfl | 6, _ => rfl | 7, _ => rfl | 8, _ => rfl | 9, _ => rfl | 10, _ => rfl | 11, _ => rfl | 12, _ => rfl | 13, _ => rfl | 14, _ => rfl)
theorem FR.set_vs (h : FR w F A m st) (x : Nat) (hx : x < m) (o : Nat) (ho : o = x * 15 + 11) (z : Int) : FR (w.setCell ⟨A, o, none⟩ (.int .i64 (z : Int))) F A m (st.upd x { st x with vs := z }) :=
  h.set1 x 11 hx (by omega) o ho _ _ (fun k hk => match k, hk with | 0, _ => rfl | 1, _ => rfl | 2, _ => rfl | 3, _ => rfl | 4, _ => rfl | 5, _ => rfl | 6, _ => rfl | 7, _ => rfl | 8, _ => rfl | 9, _ => rfl | 10, _ => rfl | 11, _ => rfl | 12, _ => rfl | 13, _ => rfl | 14, _ => rfl)
theorem FR.set_tn (h : FR w F A m st) (x : Nat) (hx : x < m) (o : Nat) (ho : o = x * 15 + 12) (z : Int) : FR (w.setCell ⟨A, o, none⟩ (.int .i64 (z : Int))) F A m (st.upd x { st x with tn := z }) :=
  h.set1 x 12 hx (by omega) o ho _ _ (fun k hk => match k, hk with | 0, _ => rfl | 1, _ => rfl | 2, _ => rfl | 3, _ => rfl | 4, _ => rfl | 5, _ => rfl | 6, _ => rfl | 7, _ => rfl | 8, _ => rfl | 9, _ => rfl | 10, _ => rfl | 11, _ => rfl | 12, _ => rfl | 13, _ => rfl | 14, _ => rfl)
theorem FR.set_ts (h : FR w F A m st) (x : Nat) (hx : x < m) (o : Nat) (ho : o = x * 15 + 13) (z : Int) : FR (w.setCell ⟨A, o, none⟩ (.int .i64 (z : Int))) F A m (st.upd x { st x with ts := z }) :=
  h.set1 x 13 hx (by omega) o ho _ _ (fun k hk => match k, hk with | 0, _ => rfl | 1, _ => rfl | 2, _ => rfl | 3, _ => rfl | 4, _ => rfl | 5, _ => rfl | 6, _ => rfl | 7, _ => rfl | 8, _ => rfl | 9, _ => rfl | 10, _ => rfl | 11, _ => rfl | 12, _ => rfl | 13, _ => rfl | 14, _ => rfl)
theorem FR.set_th (h : FR w F A m st) (x : Nat) (hx : x < m) (o : Nat) (ho : o = x * 15 + 14) (z : Bool) : FR (w.setCell ⟨A, o, none⟩ (.bool z)) F A m (st.upd x { st x with th := z }) :=
  h.set1 x 14 hx (by omega) o ho _ _ (fun k hk => match k, hk with | 0, _ => rfl | 1, _ => rfl | 2, _ => rfl | 3, _ => rfl | 4, _ => rfl | 5, _ => rfl | 6, _ => rfl | 7, _ => rfl | 8, _ => rfl | 9, _ => rfl | 10, _ => rfl | 11, _ => rfl | 12, _ => rfl | 13, _ => rfl | 14, _ => rfl)
theorem FR.at_l (h : FR w F A m st) (x : Nat) (hx : x < m) : w.cell? ⟨A, x * 15, none⟩ = some (.int .i64 ((st x).l : Int)) := h.at x 0 hx (by omega)
theorem FR.at_r (h : FR w F A m st) (x : Nat) (hx : x < m) : w.cell? ⟨A, x * 15 + 1, none⟩ = some (.int .i64 ((st x).r : Int)) := h.at x 1 hx (by omega)
theorem FR.at_p (h : FR w F A m st) (x : Nat) (hx : x < m) : w.cell? ⟨A, x * 15 + 2, none⟩ = some (.int .i64 ((st x).p : Int)) := h.at x 2 hx (by omega)
theorem FR.at_rev (h : FR w F A m st) (x : Nat) (hx : x < m) : w.cell? ⟨A, x * 15 + 3, none⟩ = some (.bool (st x).rev) := h.at x 3 hx (by omega)
theorem FR.at_w (h : FR w F A m st) (x : Nat) (hx : x < m) : w.cell? ⟨A, x * 15 + 4, none⟩ = some (.int .i64 ((st x).w : Int)) := h.at x 4 hx (by omega)
theorem FR.at_add (h : FR w F A m st) (x : Nat) (hx : x < m) : w.cell? ⟨A, x * 15 + 5, none⟩ = some (.int .i64 ((st x).add : Int)) := h.at x 5 hx (by omega)
theorem FR.at_c (h : FR w F A m st) (x : Nat) (hx : x < m) : w.cell? ⟨A, x * 15 + 6, none⟩ = some (.int .i64 ((st x).c : Int)) := h.at x 6 hx (by omega)
theorem FR.at_s (h : FR w F A m st) (x : Nat) (hx : x < m) : w.cell? ⟨A, x * 15 + 7, none⟩ = some (.int .i64 ((st x).s : Int)) := h.at x 7 hx (by omega)
theorem FR.at_mn (h : FR w F A m st) (x : Nat) (hx : x < m) : w.cell? ⟨A, x * 15 + 8, none⟩ = some (.int .i64 ((st x).mn : Int)) := h.at x 8 hx (by omega)
theorem FR.at_mx (h : FR w F A m st) (x : Nat) (hx : x < m) : w.cell? ⟨A, x * 15 + 9, none⟩ = some (.int .i64 ((st x).mx : Int)) := h.at x 9 hx (by omega)
theorem FR.at_vn (h : FR w F A m st) (x : Nat) (hx : x < m) : w.cell? ⟨A, x * 15 + 10, none⟩ = some (.int .i64 ((st x).vn : Int)) := h.at x 10 hx (by omega)
theorem FR.at_vs (h : FR w F A m st) (x : Nat) (hx : x < m) : w.cell? ⟨A, x * 15 + 11, none⟩ = some (.int .i64 ((st x).vs : Int)) := h.at x 11 hx (by omega)
theorem FR.at_tn (h : FR w F A m st) (x : Nat) (hx : x < m) : w.cell? ⟨A, x * 15 + 12, none⟩ = some (.int .i64 ((st x).tn : Int)) := h.at x 12 hx (by omega)
theorem FR.at_ts (h : FR w F A m st) (x : Nat) (hx : x < m) : w.cell? ⟨A, x * 15 + 13, none⟩ = some (.int .i64 ((st x).ts : Int)) := h.at x 13 hx (by omega)
theorem FR.at_th (h : FR w F A m st) (x : Nat) (hx : x < m) : w.cell? ⟨A, x * 15 + 14, none⟩ = some (.bool (st x).th) := h.at x 14 hx (by omega)
end
end Go.Proofs.Ytaipladbgdcedaa
namespace Go.Proofs.Ytaipladbgdcedaa
open Go.RowKit

/-- A sum: how many, what they come to, the least, the greatest. -/
structure Sm where
  c : Int
  s : Int
  mn : Int
  mx : Int
  deriving DecidableEq
def Sm.val (a : Sm) : Value := .agg #[.int .i64 a.c, .int .i64 a.s, .int .i64 a.mn, .int .i64 a.mx]
def Sm.join (a b : Sm) : Sm := if a.c = 0 then b else if b.c = 0 then a else ⟨wrap64 (a.c + b.c), wrap64 (a.s + b.s), min a.mn b.mn, max a.mx b.mx⟩
def Sm.lift (a : Sm) (z : Int) : Sm := if a.c = 0 then a else ⟨a.c, wrap64 (a.s + wrap64 (a.c * z)), wrap64 (a.mn + z), wrap64 (a.mx + z)⟩
def Sm.one (w : Int) : Sm := ⟨1, w, w, w⟩

theorem one_any (x : Int) (w : World) : Calls Try.prog 61 #[.int .i64 x] w fun e w' => e = .returned (Sm.one x).val ∧ Tch [] w w' := by
  go_enter Try.func61, Try.ntmps61
  go_wp2
  exact bodyPost_ret (v := (Sm.one x).val) (by simp [results, Try.results61, go_sem, Sm.val, Sm.one]) rfl ⟨rfl, (Tch.refl _ _).new _⟩
set_option maxHeartbeats 1000000 in
theorem join_any (a b : Sm) (w : World) : Calls Try.prog 60 #[a.val, b.val] w fun e w' => e = .returned (a.join b).val ∧ Tch [] w w' := by
  obtain ⟨a0, a1, a2, a3⟩ := a
  obtain ⟨b0, b1, b2, b3⟩ := b
  unfold Sm.val Sm.join
  simp only []
  by_cases h0 : a0 = 0
  · subst h0
    rw [if_pos rfl]
    go_enter Try.func60, Try.ntmps60
    go_wp2
    exact bodyPost_ret (v := _) (by simp [results, Try.results60, go_sem]) rfl ⟨rfl, (((Tch.refl _ _).new _).new _).new _⟩
  · have e0 : (a0 == 0) = false := beq_eq_false_iff_ne.2 h0
    rw [if_neg h0]
    by_cases h1 : b0 = 0
    · subst h1
      rw [if_pos rfl]
      clear h0
      go_enter Try.func60, Try.ntmps60
      go_wp2
      exact bodyPost_ret (v := _) (by simp [results, Try.results60, go_sem]) rfl ⟨rfl, (((Tch.refl _ _).new _).new _).new _⟩
    · have e1 : (b0 == 0) = false := beq_eq_false_iff_ne.2 h1
      rw [if_neg h1]
      clear h0 h1
      go_enter Try.func60, Try.ntmps60
      go_wp2
      all_goals
        first
        | rw [Int.min_eq_left (by omega)]
        | rw [Int.min_eq_right (by omega)]
        first
        | rw [Int.max_eq_left (by omega)]
        | rw [Int.max_eq_right (by omega)]
        exact bodyPost_ret (v := _) (by simp [results, Try.results60, go_sem]) rfl ⟨rfl, (((Tch.refl _ _).new _).new _).new _⟩
set_option maxHeartbeats 1000000 in
theorem lift_any (a : Sm) (z : Int) (w : World) : Calls Try.prog 59 #[a.val, .int .i64 z] w fun e w' => e = .returned (a.lift z).val ∧ Tch [] w w' := by
  obtain ⟨a0, a1, a2, a3⟩ := a
  unfold Sm.val Sm.lift
  simp only []
  by_cases h0 : a0 = 0
  · subst h0
    rw [if_pos rfl]
    go_enter Try.func59, Try.ntmps59
    go_wp2
    exact bodyPost_ret (v := _) (by simp [results, Try.results59, go_sem]) rfl ⟨rfl, ((Tch.refl _ _).new _).new _⟩
  · have e0 : (a0 == 0) = false := beq_eq_false_iff_ne.2 h0
    rw [if_neg h0]
    clear h0
    go_enter Try.func59, Try.ntmps59
    go_wp2
    exact bodyPost_ret (v := _) (by simp [results, Try.results59, go_sem]) rfl ⟨rfl, ((Tch.refl _ _).new _).new _⟩
/-- May it be a weight? -/
def fitsB (z : Int) : Bool := decide (-1099511627776 ≤ z ∧ z ≤ 1099511627776)
theorem fits_any (z : Int) (w : World) : Calls Try.prog 62 #[.int .i64 z] w fun e w' => e = .returned (.bool (fitsB z)) ∧ w = w' := by
  by_cases h0 : -1099511627776 ≤ z
  · by_cases h1 : z ≤ 1099511627776
    · have e : fitsB z = true := decide_eq_true_iff.2 ⟨h0, h1⟩
      rw [e]
      go_enter Try.func62, Try.ntmps62
      go_wp2
      go_ret
      exact ⟨rfl, rfl⟩
    · have e : fitsB z = false := decide_eq_false_iff_not.2 (fun h => h1 h.2)
      rw [e]
      go_enter Try.func62, Try.ntmps62
      go_wp2
      go_ret
      exact ⟨rfl, rfl⟩
  · have e : fitsB z = false := decide_eq_false_iff_not.2 (fun h => h0 h.1)
    rw [e]
    go_enter Try.func62, Try.ntmps62
    go_wp2
    go_ret
    exact ⟨rfl, rfl⟩
/-- A weight raised. -/
def addB (z b : Int) : Bool := fitsB z && fitsB (z + b) && decide (-2199023255552 ≤ b ∧ b ≤ 2199023255552)
def AddPost (z b : Int) (w : World) (e : Ending) (w' : World) : Prop := ∃ v, e = .returned (.tuple #[.int .i64 v, .bool (addB z b)]) ∧ w = w'
set_option maxHeartbeats 1000000 in
theorem add_any (z b : Int) (w : World) : Calls Try.prog 64 #[.int .i64 z, .int .i64 b] w (AddPost z b w) := by
  have F1 := Lib.hid (fits_any z)
  have F2 := Lib.hid (fits_any (z + b))
  by_cases h0 : fitsB z = true
  · have hz : -1099511627776 ≤ z ∧ z ≤ 1099511627776 := decide_eq_true_iff.1 h0
    rw [h0] at F1
    obtain ⟨hz1, hz2⟩ := hz
    by_cases h1 : 2199023255552 < b
    · have e : addB z b = false := by
        unfold addB
        have : ¬ (-2199023255552 ≤ b ∧ b ≤ 2199023255552) := by omega
        rw [decide_eq_false_iff_not.2 this, Bool.and_false]
      have H := Lib.hid e
      clear e h0
      go_enter Try.func64, Try.ntmps64
      go_wp2_with (go_at_call 62; refine (F1.out _).mono ?_; rintro e w1 ⟨rfl, rfl⟩)
      exact bodyPost_ret (v := .tuple #[.int .i64 0, .bool false]) (by simp [results, Try.results64, go_sem]) rfl ⟨_, by rw [H.out], rfl⟩
    · by_cases h2 : b < -2199023255552
      · have e : addB z b = false := by
          unfold addB
          have : ¬ (-2199023255552 ≤ b ∧ b ≤ 2199023255552) := by omega
          rw [decide_eq_false_iff_not.2 this, Bool.and_false]
        have H := Lib.hid e
        clear e h0
        go_enter Try.func64, Try.ntmps64
        go_wp2_with (go_at_call 62; refine (F1.out _).mono ?_; rintro e w1 ⟨rfl, rfl⟩)
        exact bodyPost_ret (v := .tuple #[.int .i64 0, .bool false]) (by simp [results, Try.results64, go_sem]) rfl ⟨_, by rw [H.out], rfl⟩
      · have e : addB z b = fitsB (z + b) := by
          unfold addB
          rw [h0, Bool.true_and, decide_eq_true_iff.2 (by omega), Bool.and_true]
        have H := Lib.hid e
        clear e h0
        cases h3 : fitsB (z + b)
        all_goals
          rw [h3] at F2 H
          clear h3
          go_enter Try.func64, Try.ntmps64
          go_wp2_with fail
          go_at_call 62
          refine (F1.out _).mono ?_
          rintro e w1 ⟨rfl, rfl⟩
          go_wp2_with fail
          go_at_call 62
          refine (F2.out _).mono ?_
          rintro e w1 ⟨rfl, rfl⟩
          go_wp2_with fail
        · exact bodyPost_ret (v := .tuple #[.int .i64 0, .bool false]) (by simp [results, Try.results64, go_sem]) rfl ⟨_, by rw [H.out], rfl⟩
        · exact bodyPost_ret (v := .tuple #[.int .i64 (z + b), .bool true]) (by simp [results, Try.results64, go_sem]) rfl ⟨_, by rw [H.out], rfl⟩
  · have h0' : fitsB z = false := by simpa using h0
    have e : addB z b = false := by
      unfold addB
      rw [h0', Bool.false_and, Bool.false_and]
    have H := Lib.hid e
    rw [h0'] at F1
    clear e h0 h0'
    go_enter Try.func64, Try.ntmps64
    go_wp2_with (go_at_call 62; refine (F1.out _).mono ?_; rintro e w1 ⟨rfl, rfl⟩)
    exact bodyPost_ret (v := .tuple #[.int .i64 0, .bool false]) (by simp [results, Try.results64, go_sem]) rfl ⟨_, by rw [H.out], rfl⟩
end Go.Proofs.Ytaipladbgdcedaa
namespace Go.Proofs.Ytaipladbgdcedaa
open Go.RowKit

def Nd.sum (y : Nd) : Sm := ⟨y.c, y.s, y.mn, y.mx⟩
def Nd.setSum (y : Nd) (a : Sm) : Nd := { y with c := a.c, s := a.s, mn := a.mn, mx := a.mx }
def flipN (y : Nd) : Nd := { y with l := y.r, r := y.l, rev := !y.rev }
def flipF (st : St) (x : Nat) : St := if x = 0 then st else st.upd x (flipN (st x))
def liftN (y : Nd) (z : Int) : Nd := { (y.setSum (y.sum.lift z)) with w := wrap64 (y.w + z), add := wrap64 (y.add + z), ts := wrap64 (y.ts + wrap64 (z * (y.sum.lift z).c)) }
def liftF (st : St) (x : Nat) (z : Int) : St := if x = 0 ∨ z = 0 then st else st.upd x (liftN (st x) z)
def pullN (y l r : Nd) : Nd := { (y.setSum ((l.sum.join (Sm.one y.w)).join r.sum)) with tn := wrap64 (wrap64 (wrap64 (l.tn + r.tn) + y.vn) + 1), ts := wrap64 (wrap64 (wrap64 (l.ts + r.ts) + y.vs) + y.w) }
def pullF (st : St) (x : Nat) : St := st.upd x (pullN (st x) (st (st x).l) (st (st x).r))
def pushF (st : St) (x : Nat) : St :=
  let s1 := if (st x).rev = true then flipF (flipF st (st x).l) (st x).r else st
  let s2 := liftF (liftF s1 (st x).l (st x).add) (st x).r (st x).add
  s2.upd x { s2 x with rev := false, add := 0 }
theorem FR.drew {w : World} {F A m : Nat} {st : St} (h : FR w F A m st) : FR w.drew F A m st := ⟨h.f, h.a, h.ne, h.small⟩
theorem FR.drewN {w : World} {F A m : Nat} {st : St} (h : FR w F A m st) (n : Nat) : FR (w.drewN n) F A m st := ⟨h.f, h.a, h.ne, h.small⟩
theorem FR.eq {w : World} {F A m : Nat} {st st' : St} (h : FR w F A m st) (e : st = st') : FR w F A m st' := e ▸ h
/-- A sum is stored. -/
theorem FR.set_sum {w : World} {F A m : Nat} {st : St} (h : FR w F A m st) (x : Nat) (hx : x < m) (o0 o1 o2 o3 : Nat) (e0 : o0 = x * 15 + 6) (e1 : o1 = x * 15 + 7) (e2 : o2 = x * 15 + 8) (e3 : o3 = x * 15 + 9) (a : Sm) :
    FR ((((w.setCell ⟨A, o0, none⟩ (.int .i64 a.c)).setCell ⟨A, o1, none⟩ (.int .i64 a.s)).setCell ⟨A, o2, none⟩ (.int .i64 a.mn)).setCell ⟨A, o3, none⟩ (.int .i64 a.mx)) F A m (st.upd x ((st x).setSum a)) := by
  refine ((((h.set_c x hx o0 e0 a.c).set_s x hx o1 e1 a.s).set_mn x hx o2 e2 a.mn).set_mx x hx o3 e3 a.mx).eq ?_
  simp only [St.upd_upd, St.upd_same]
  rfl
/-- What a call that turns nodes leaves. -/
def FPost (w : World) (F A m : Nat) (st' : St) (e : Ending) (w' : World) : Prop := e = .returned (.tuple #[]) ∧ FR w' F A m st' ∧ Tch [A] w w'


/-- Join of two sums whose parts are given. -/
theorem join_agg (a0 a1 a2 a3 b0 b1 b2 b3 : Int) (w : World) : Calls Try.prog 60 #[.agg #[.int .i64 a0, .int .i64 a1, .int .i64 a2, .int .i64 a3], .agg #[.int .i64 b0, .int .i64 b1, .int .i64 b2, .int .i64 b3]] w fun e w' =>
    ∃ q : Sm, q = Sm.join ⟨a0, a1, a2, a3⟩ ⟨b0, b1, b2, b3⟩ ∧ e = .returned (.agg #[.int .i64 q.c, .int .i64 q.s, .int .i64 q.mn, .int .i64 q.mx]) ∧ Tch [] w w' :=
  (join_any ⟨a0, a1, a2, a3⟩ ⟨b0, b1, b2, b3⟩ w).mono fun e w' ⟨he, t⟩ => ⟨_, rfl, he, t⟩

set_option maxHeartbeats 1000000 in
theorem flip_any (w : World) (F A m : Nat) (st : St) (h : FR w F A m st) (x : Nat) (hx : x < m) : Calls Try.prog 73 #[.pointer (some ⟨F, 0, none⟩), .int .i64 x] w (FPost w F A m (flipF st x)) := by
  have hs := h.small
  by_cases h0 : x = 0
  · subst h0
    go_enter Try.func73, Try.ntmps73
    go_wp2
    exact bodyPost_end (v := .tuple #[]) (by simp [results, Try.results73, go_sem]) rfl ⟨rfl, h, Tch.refl _ _⟩
  · obtain ⟨hF1, hA1⟩ := h.lt
    have c0 := h.c0
    have fxl := h.at_l x hx; have fxr := h.at_r x hx; have fxrev := h.at_rev x hx
    have fz := h.fz
    have hx0 : ((x : Int) != 0) = true := bne_iff_ne.2 (by omega)
    have HH := Lib.hid h
    clear h
    go_enter Try.func73, Try.ntmps73
    go_wp2
    refine region_any (.takes [0, 1, 2, 3, 4, 5, 6, 7, 8, 9, 10, 11] (.fork 12 [] (.takes [13, 14] (.fork 15 [] .done .none)) .none)) (by kernel_rfl) (by kernel_rfl) rfl ?_
    go_wp2_with first | (with_reducible exact wpE_none) | (with_reducible refine wpE_takes_nil ?_) | (with_reducible refine wpE_done ?_) | (refine wpE_take rfl rfl (fun _ _ => ?_)) | (refine wpE_skip rfl rfl ?_) | (refine wpE_fork rfl rfl (fun _ _ => ?_) ?_) | (with_reducible exact agains_nil) | (refine agains_cons rfl (fun _ => ?_) ?_) | (with_reducible refine wpE_same ?_) | (refine And.intro (rfl : (_ : World) = _) ?_) | (with_reducible refine wpE_and ?_ ?_)
    refine bodyPost_end (v := .tuple #[]) (by simp [results, Try.results73, go_sem]) rfl ⟨rfl, (((HH.out.set_l x hx _ rfl (st x).r).set_r x hx _ rfl (st x).l).set_rev x hx _ rfl (!(st x).rev)).drew.eq ?_, ((((Tch.refl [A] w).cellA (A := A) (by simp) _ _).cellA (A := A) (by simp) _ _).cellA (A := A) (by simp) _ _).drew⟩
    unfold flipF
    rw [if_neg h0]
    simp only [St.upd_upd, St.upd_same]
    rfl

set_option maxHeartbeats 1000000 in
theorem lift_node (w : World) (F A m : Nat) (st : St) (h : FR w F A m st) (x : Nat) (hx : x < m) (z : Int) : Calls Try.prog 65 #[.pointer (some ⟨F, 0, none⟩), .int .i64 x, .int .i64 z] w (FPost w F A m (liftF st x z)) := by
  have hs := h.small
  by_cases h0 : x = 0
  · subst h0
    go_enter Try.func65, Try.ntmps65
    go_wp2
    exact bodyPost_ret (v := .tuple #[]) (by simp [results, Try.results65, go_sem]) rfl ⟨rfl, by simpa [liftF] using h, Tch.refl _ _⟩
  · have hx0 : ((x : Int) == 0) = false := beq_eq_false_iff_ne.2 (by omega)
    by_cases h1 : z = 0
    · subst h1
      go_enter Try.func65, Try.ntmps65
      go_wp2
      exact bodyPost_ret (v := .tuple #[]) (by simp [results, Try.results65, go_sem]) rfl ⟨rfl, by simpa [liftF] using h, Tch.refl _ _⟩
    · have hz0 : (z == 0) = false := beq_eq_false_iff_ne.2 h1
      obtain ⟨hF1, hA1⟩ := h.lt
      have c0 := h.c0
      have fxw := h.at_w x hx; have fxadd := h.at_add x hx; have fxc := h.at_c x hx; have fxs := h.at_s x hx; have fxmn := h.at_mn x hx; have fxmx := h.at_mx x hx
      have fz := h.fz
      have HH := Lib.hid h
      have HN := Lib.hid (And.intro h0 h1)
      clear h h0 h1
      go_enter Try.func65, Try.ntmps65
      go_wp2_with fail
      have h2 := ((HH.out.set_w x hx _ rfl (wrap64 ((st x).w + z))).set_add x hx _ rfl (wrap64 ((st x).add + z))).eq (st' := st.upd x { st x with w := wrap64 ((st x).w + z), add := wrap64 ((st x).add + z) }) (by simp only [St.upd_upd, St.upd_same])
      have T2 := ((Tch.refl [A] w).cellA (A := A) (by simp) (x * 15 + 4) (.int .i64 (wrap64 ((st x).w + z)))).cellA (A := A) (by simp) (x * 15 + 5) (.int .i64 (wrap64 ((st x).add + z)))
      go_at_call 59
      refine (lift_any (st x).sum z _).mono ?_
      rintro e w3 ⟨rfl, t3⟩
      have h3 := h2.quiet t3
      have T3 := T2.trans (t3.mono (by simp))
      clear c0 fxw fxadd fxc fxs fxmn fxmx fz t3 h2 T2 HH hF1 hA1
      obtain ⟨hF1, hA1⟩ := h3.lt
      have c0 := h3.c0
      have fz := h3.fz
      have fxts := h3.at_ts x hx; have fxc := h3.at_c x hx; have fxs := h3.at_s x hx; have fxmn := h3.at_mn x hx; have fxmx := h3.at_mx x hx
      simp only [St.upd_same] at fxts fxc fxs fxmn fxmx
      simp only [Sm.val]
      obtain ⟨q, hq⟩ : ∃ q, q = (st x).sum.lift z := ⟨_, rfl⟩
      rw [← hq]
      have H3 := Lib.hid h3
      have HQ := Lib.hid hq
      have HT := Lib.hid T3
      clear h3 hq T3
      go_wp2_with fail
      refine region_any (.takes [0, 1, 2, 3, 4, 5, 6, 7, 8, 9, 10, 11, 12, 13] (.fork 14 [] .done .none)) (by kernel_rfl) (by kernel_rfl) rfl ?_
      go_wp2_with first | (with_reducible exact wpE_none) | (with_reducible refine wpE_takes_nil ?_) | (with_reducible refine wpE_done ?_) | (refine wpE_take rfl rfl (fun _ _ => ?_)) | (refine wpE_skip rfl rfl ?_) | (refine wpE_fork rfl rfl (fun _ _ => ?_) ?_) | (with_reducible exact agains_nil) | (refine agains_cons rfl (fun _ => ?_) ?_) | (with_reducible refine wpE_same ?_) | (refine And.intro (rfl : (_ : World) = _) ?_) | (with_reducible refine wpE_and ?_ ?_)
      refine bodyPost_end (v := .tuple #[]) (by simp [results, Try.results65, go_sem]) rfl ⟨rfl, ((H3.out.set_sum x hx _ _ _ _ rfl rfl rfl rfl q).set_ts x hx _ rfl (wrap64 ((st x).ts + wrap64 (z * q.c)))).drew.eq ?_, (((((HT.out.cellA (A := A) (by simp) _ _).cellA (A := A) (by simp) _ _).cellA (A := A) (by simp) _ _).cellA (A := A) (by simp) _ _).cellA (A := A) (by simp) _ _).drew⟩
      unfold liftF
      rw [if_neg (not_or.2 HN.out)]
      simp only [St.upd_upd, St.upd_same]
      rw [HQ.out]
      rfl

set_option maxHeartbeats 2000000 in
theorem pull_any (w : World) (F A m : Nat) (st : St) (h : FR w F A m st) (x : Nat) (hx : x < m) (hl : (st x).l < m) (hr : (st x).r < m) (nl : (st x).l ≠ x) (nr : (st x).r ≠ x) : Calls Try.prog 63 #[.pointer (some ⟨F, 0, none⟩), .int .i64 x] w (FPost w F A m (pullF st x)) := by
  have hs := h.small
  obtain ⟨hF1, hA1⟩ := h.lt
  have c0 := h.c0
  have fxl := h.at_l x hx; have fxr := h.at_r x hx; have fxw := h.at_w x hx
  obtain ⟨l, hle⟩ : ∃ l, l = (st x).l := ⟨_, rfl⟩
  obtain ⟨r, hre⟩ : ∃ r, r = (st x).r := ⟨_, rfl⟩
  rw [← hle] at hl nl fxl
  rw [← hre] at hr nr fxr
  have flc := h.at_c l hl; have fls := h.at_s l hl; have flmn := h.at_mn l hl; have flmx := h.at_mx l hl
  have frc := h.at_c r hr; have frs := h.at_s r hr; have frmn := h.at_mn r hr; have frmx := h.at_mx r hr
  have fz := h.fz
  have HH := Lib.hid h
  have HL := Lib.hid hle
  have HR := Lib.hid hre
  clear h hle hre
  go_enter Try.func63, Try.ntmps63
  go_wp2
  refine region_any (.takes [0, 1, 2, 3, 4, 5, 6, 7, 8, 9, 10, 11, 12, 13, 14, 15, 16, 17, 18, 19] .done) (by kernel_rfl) (by kernel_rfl) rfl ?_
  go_wp2_with first | (with_reducible exact wpE_none) | (with_reducible refine wpE_takes_nil ?_) | (with_reducible refine wpE_done ?_) | (refine wpE_take rfl rfl (fun _ _ => ?_)) | (refine wpE_skip rfl rfl ?_) | (refine wpE_fork rfl rfl (fun _ _ => ?_) ?_) | (with_reducible exact agains_nil) | (refine agains_cons rfl (fun _ => ?_) ?_) | (with_reducible refine wpE_same ?_) | (refine And.intro (rfl : (_ : World) = _) ?_) | (with_reducible refine wpE_and ?_ ?_)
  refine region_any (.takes [0, 1, 2, 3, 4, 5, 6, 7, 8, 11, 12, 13, 14] (.fork 9 [2, 3, 4, 12, 13, 14] (.fork 10 [12, 13, 14] (.fork 15 [] (.takes [16, 17] (.fork 18 [] .done .none)) .none) .none) .none)) (by kernel_rfl) (by kernel_rfl) rfl ?_
  go_wp2_with first | (with_reducible refine wpE_takes_nil ?_) | (with_reducible refine wpE_done ?_) | (refine wpE_take rfl rfl (fun _ _ => ?_)) | (refine wpE_skip rfl rfl ?_) | (with_reducible exact agains_nil) | (refine agains_cons rfl (fun _ => ?_) ?_) | (with_reducible refine wpE_same ?_) | (refine And.intro (rfl : (_ : World) = _) ?_) | (with_reducible refine wpE_and ?_ ?_)
  refine wpE_fork rfl rfl (fun _ _ => ?_) wpE_none
  go_wp2_with fail
  go_at_call 61
  refine (one_any (st x).w _).mono ?_
  rintro e w1 ⟨rfl, t1⟩
  have h1 := HH.out.quiet ((Tch.refl _ _).drew.drew.trans t1)
  have T1 := Lib.hid ((Tch.refl [] _).drew.drew.trans t1)
  obtain ⟨k1, k1'⟩ := h1.lt
  have c01 := h1.c0
  have fl1c := h1.at_c l hl; have fl1s := h1.at_s l hl; have fl1mn := h1.at_mn l hl; have fl1mx := h1.at_mx l hl
  have fr1c := h1.at_c r hr; have fr1s := h1.at_s r hr; have fr1mn := h1.at_mn r hr; have fr1mx := h1.at_mx r hr
  have H1 := Lib.hid h1
  clear t1 h1
  simp only [Sm.val, Sm.one]
  go_wp2_with first | (with_reducible refine wpE_takes_nil ?_) | (with_reducible refine wpE_done ?_) | (refine wpE_take rfl rfl (fun _ _ => ?_)) | (refine wpE_skip rfl rfl ?_) | (with_reducible exact agains_nil) | (refine agains_cons rfl (fun _ => ?_) ?_) | (with_reducible refine wpE_same ?_) | (refine And.intro (rfl : (_ : World) = _) ?_) | (with_reducible refine wpE_and ?_ ?_)
  refine wpE_fork rfl rfl (fun _ _ => ?_) wpE_none
  go_wp2_with fail
  go_at_call 60
  refine (join_agg _ _ _ _ _ _ _ _ _).mono ?_
  rintro e w2 ⟨q1, hq1, rfl, t2⟩
  have h2 := H1.out.quiet t2
  have T2 := Lib.hid (T1.out.trans t2)
  clear fl1c fr1c fl1s fr1s fl1mn fr1mn fl1mx fr1mx c01 k1 k1'
  obtain ⟨k2, k2'⟩ := h2.lt
  have c02 := h2.c0
  have fr2c := h2.at_c r hr; have fr2s := h2.at_s r hr; have fr2mn := h2.at_mn r hr; have fr2mx := h2.at_mx r hr
  have H2 := Lib.hid h2
  have Q1 := Lib.hid hq1
  clear t2 h2 H1 hq1
  go_wp2_with first | (with_reducible refine wpE_takes_nil ?_) | (with_reducible refine wpE_done ?_) | (refine wpE_take rfl rfl (fun _ _ => ?_)) | (refine wpE_skip rfl rfl ?_) | (with_reducible exact agains_nil) | (refine agains_cons rfl (fun _ => ?_) ?_) | (with_reducible refine wpE_same ?_) | (refine And.intro (rfl : (_ : World) = _) ?_) | (with_reducible refine wpE_and ?_ ?_)
  refine wpE_fork rfl rfl (fun _ _ => ?_) wpE_none
  go_wp2_with fail
  go_at_call 60
  refine (join_agg _ _ _ _ _ _ _ _ _).mono ?_
  rintro e w3 ⟨q2, hq2, rfl, t3⟩
  have h3 := H2.out.quiet t3
  have T3 := Lib.hid (T2.out.trans t3)
  clear fr2c fr2s fr2mn fr2mx c02 k2 k2'
  obtain ⟨k3, k3'⟩ := h3.lt
  have fz3 := h3.fz
  have c03 := h3.c0
  have fxc := h3.at_c x hx; have fxs := h3.at_s x hx; have fxmn := h3.at_mn x hx; have fxmx := h3.at_mx x hx
  have H3 := Lib.hid h3
  have Q2 := Lib.hid hq2
  clear t3 h3 H2 hq2
  go_wp2_with first | (with_reducible refine wpE_takes_nil ?_) | (with_reducible refine wpE_done ?_) | (refine wpE_take rfl rfl (fun _ _ => ?_)) | (refine wpE_skip rfl rfl ?_) | (with_reducible exact agains_nil) | (refine agains_cons rfl (fun _ => ?_) ?_) | (with_reducible refine wpE_same ?_) | (refine And.intro (rfl : (_ : World) = _) ?_) | (with_reducible refine wpE_and ?_ ?_)
  refine wpE_fork rfl rfl (fun _ _ => ?_) wpE_none
  go_wp2_with first | (with_reducible refine wpE_takes_nil ?_) | (with_reducible refine wpE_done ?_) | (refine wpE_take rfl rfl (fun _ _ => ?_)) | (refine wpE_skip rfl rfl ?_) | (with_reducible exact agains_nil) | (refine agains_cons rfl (fun _ => ?_) ?_) | (with_reducible refine wpE_same ?_) | (refine And.intro (rfl : (_ : World) = _) ?_) | (with_reducible refine wpE_and ?_ ?_)
  have h4 := (H3.out.set_sum x hx (x * 15 + 6) (x * 15 + 6 + 1) (x * 15 + 6 + 2) (x * 15 + 6 + 3) rfl rfl rfl rfl q2)
  have T4 := (((((T3.out.mono (cs := [A]) (by simp)).cellA (A := A) (by simp) (x * 15 + 6) (.int .i64 q2.c)).cellA (A := A) (by simp) (x * 15 + 6 + 1) (.int .i64 q2.s)).cellA (A := A) (by simp) (x * 15 + 6 + 2) (.int .i64 q2.mn)).cellA (A := A) (by simp) (x * 15 + 6 + 3) (.int .i64 q2.mx))
  clear fxc fxs fxmn fxmx c03 k3 k3' fz3
  generalize (((w3.setCell ⟨A, x * 15 + 6, none⟩ (.int .i64 q2.c)).setCell ⟨A, x * 15 + 6 + 1, none⟩ (.int .i64 q2.s)).setCell ⟨A, x * 15 + 6 + 2, none⟩ (.int .i64 q2.mn)).setCell ⟨A, x * 15 + 6 + 3, none⟩ (.int .i64 q2.mx) = w4 at *
  obtain ⟨k4, k4'⟩ := h4.lt
  have c04 := h4.c0
  have fz4 := h4.fz
  have fltn := h4.at_tn l hl; have flts := h4.at_ts l hl
  have frtn := h4.at_tn r hr; have frts := h4.at_ts r hr
  have fxvn := h4.at_vn x hx; have fxvs := h4.at_vs x hx; have fxw := h4.at_w x hx; have fxtn := h4.at_tn x hx; have fxts := h4.at_ts x hx
  simp only [St.upd_same, St.upd_ne _ _ _ _ nl, St.upd_ne _ _ _ _ nr, Nd.setSum] at fltn flts frtn frts fxvn fxvs fxw fxtn fxts
  have H4 := Lib.hid h4
  have HT4 := Lib.hid T4
  clear h4 T4 H3
  refine region_any (.takes [0, 1, 2, 3, 4, 5, 6, 7, 8, 9, 10, 11, 12, 13, 14, 15, 16, 17] (.fork 18 [] .done .none)) (by kernel_rfl) (by kernel_rfl) rfl ?_
  go_wp2_with first | (with_reducible exact wpE_none) | (with_reducible refine wpE_takes_nil ?_) | (with_reducible refine wpE_done ?_) | (refine wpE_take rfl rfl (fun _ _ => ?_)) | (refine wpE_skip rfl rfl ?_) | (refine wpE_fork rfl rfl (fun _ _ => ?_) ?_) | (with_reducible exact agains_nil) | (refine agains_cons rfl (fun _ => ?_) ?_) | (with_reducible refine wpE_same ?_) | (refine And.intro (rfl : (_ : World) = _) ?_) | (with_reducible refine wpE_and ?_ ?_)
  refine region_any (.takes [0, 1, 2, 3, 4, 5, 6, 7, 8, 9, 10, 11, 12, 13, 14, 15, 16, 17, 18, 19, 20, 21] (.fork 22 [] .done .none)) (by kernel_rfl) (by kernel_rfl) rfl ?_
  go_wp2_with first | (with_reducible exact wpE_none) | (with_reducible refine wpE_takes_nil ?_) | (with_reducible refine wpE_done ?_) | (refine wpE_take rfl rfl (fun _ _ => ?_)) | (refine wpE_skip rfl rfl ?_) | (refine wpE_fork rfl rfl (fun _ _ => ?_) ?_) | (with_reducible exact agains_nil) | (refine agains_cons rfl (fun _ => ?_) ?_) | (with_reducible refine wpE_same ?_) | (refine And.intro (rfl : (_ : World) = _) ?_) | (with_reducible refine wpE_and ?_ ?_)
  have X : FR _ F A m (pullF st x) := ((H4.out.set_tn x hx (x * 15 + 12) rfl (wrap64 (wrap64 (wrap64 ((st l).tn + (st r).tn) + (st x).vn) + 1))).set_ts x hx (x * 15 + 13) rfl (wrap64 (wrap64 (wrap64 ((st l).ts + (st r).ts) + (st x).vs) + (st x).w))).eq (by
    unfold pullF pullN
    simp only [St.upd_upd, St.upd_same, ← HL.out, ← HR.out]
    rw [Q2.out, Q1.out]
    rfl)
  have Y := (HT4.out.cellA (A := A) (by simp) (x * 15 + 12) (.int .i64 (wrap64 (wrap64 (wrap64 ((st l).tn + (st r).tn) + (st x).vn) + 1)))).cellA (A := A) (by simp) (x * 15 + 13) (.int .i64 (wrap64 (wrap64 (wrap64 ((st l).ts + (st r).ts) + (st x).vs) + (st x).w)))
  refine bodyPost_end (v := .tuple #[]) (by simp [results, Try.results63, go_sem]) rfl ⟨rfl, ?_, ?_⟩
  · first | exact X | exact X.drew | exact X.drew.drew | exact X.drew.drew.drew
  · first | exact Y | exact Y.drew | exact Y.drew.drew | exact Y.drew.drew.drew
end Go.Proofs.Ytaipladbgdcedaa
namespace Go.Proofs.Ytaipladbgdcedaa
open Go.RowKit

def topB (st : St) (x : Nat) : Bool := (st x).p == 0 || ((st (st x).p).l != x && (st (st x).p).r != x)
set_option maxHeartbeats 1000000 in
theorem top_any (w : World) (F A m : Nat) (st : St) (h : FR w F A m st) (x : Nat) (hx : x < m) (hp : (st x).p < m) : Calls Try.prog 58 #[.pointer (some ⟨F, 0, none⟩), .int .i64 x] w fun e w' => e = .returned (.bool (topB st x)) ∧ w = w' := by
  have hs := h.small
  obtain ⟨hF1, hA1⟩ := h.lt
  have c0 := h.c0
  have fxp := h.at_p x hx
  unfold topB
  generalize (st x).p = p at *
  have fpl := h.at_l p hp; have fpr := h.at_r p hp
  generalize (st p).l = l at *
  generalize (st p).r = r at *
  clear h
  by_cases h0 : p = 0
  · have e0 : ((p : Int) == 0) = true := beq_iff_eq.2 (by omega)
    have e1 : (p == 0) = true := beq_iff_eq.2 h0
    rw [e1, Bool.true_or]
    clear h0 e1
    go_enter Try.func58, Try.ntmps58
    go_wp2
    go_ret
    exact ⟨rfl, rfl⟩
  · have e0 : ((p : Int) == 0) = false := beq_eq_false_iff_ne.2 (by omega)
    have e1 : (p == 0) = false := beq_eq_false_iff_ne.2 h0
    rw [e1, Bool.false_or]
    clear h0 e1
    by_cases h1 : l = x
    · have d1 : ((l : Int) != (x : Int)) = false := by rw [h1]; simp
      have d2 : (l != x) = false := by rw [h1]; simp
      rw [d2, Bool.false_and]
      clear h1 d2
      go_enter Try.func58, Try.ntmps58
      go_wp2
      go_ret
      exact ⟨rfl, rfl⟩
    · have d1 : ((l : Int) != (x : Int)) = true := bne_iff_ne.2 (by omega)
      have d2 : (l != x) = true := bne_iff_ne.2 h1
      rw [d2, Bool.true_and]
      clear h1 d2
      by_cases h2 : r = x
      · have d3 : ((r : Int) != (x : Int)) = false := by rw [h2]; simp
        have d4 : (r != x) = false := by rw [h2]; simp
        rw [d4]
        clear h2 d4
        go_enter Try.func58, Try.ntmps58
        go_wp2
        go_ret
        exact ⟨rfl, rfl⟩
      · have d3 : ((r : Int) != (x : Int)) = true := bne_iff_ne.2 (by omega)
        have d4 : (r != x) = true := bne_iff_ne.2 h2
        rw [d4]
        clear h2 d4
        go_enter Try.func58, Try.ntmps58
        go_wp2
        go_ret
        exact ⟨rfl, rfl⟩

def turn1 (st : St) (x p g : Nat) : St := if topB st p = true then st else if (st g).l = p then st.upd g { st g with l := x } else st.upd g { st g with r := x }
def turnB (st : St) (x p : Nat) : Nat := if (st p).l = x then (st x).r else (st x).l
def turn2 (st : St) (x p : Nat) : St := if (st p).l = x then (st.upd p { st p with l := (st x).r }).upd x { st x with r := p } else (st.upd p { st p with r := (st x).l }).upd x { st x with l := p }
def turn3 (st : St) (b p : Nat) : St := if b = 0 then st else st.upd b { st b with p := p }
def turn4 (st : St) (x p g : Nat) : St := (st.upd p { st p with p := x }).upd x { st x with p := g }
def turn0 (st : St) (x p g : Nat) : St := turn4 (turn3 (turn2 (turn1 st x p g) x p) (turnB (turn1 st x p g) x p) p) x p g
def turnF (st : St) (x : Nat) : St := pullF (pullF (turn0 st x (st x).p (st (st x).p).p) (st x).p) x
/-- What a turn asks of the nodes around it. -/
structure TurnOk (m : Nat) (st : St) (x p g : Nat) : Prop where
  ep : (st x).p = p
  eg : (st p).p = g
  hx : x < m
  hp : p < m
  hg : g < m
  xp : x ≠ p
  xg : x ≠ g
  pg : p ≠ g
  xl : (st x).l < m
  xr : (st x).r < m
  pl : (st p).l < m
  pr : (st p).r < m
  nxl : (st x).l ≠ x ∧ (st x).l ≠ p
  nxr : (st x).r ≠ x ∧ (st x).r ≠ p
  npl : (st p).l ≠ p
  npr : (st p).r ≠ p
def TPost (w : World) (F A m : Nat) (st' : St) (w' : World) : Prop := FR w' F A m st' ∧ Tch [A] w w'
def TPostB (w : World) (F A m : Nat) (st' : St) (b : Nat) (v : Value) (w' : World) : Prop := v = .int .i64 b ∧ FR w' F A m st' ∧ Tch [A] w w'

set_option maxRecDepth 100000 in
set_option maxHeartbeats 4000000 in
theorem turn_any (w : World) (F A m : Nat) (st : St) (h : FR w F A m st) (x p g : Nat) (ok : TurnOk m st x p g) : Calls Try.prog 74 #[.pointer (some ⟨F, 0, none⟩), .int .i64 x] w (FPost w F A m (pullF (pullF (turn0 st x p g) p) x)) := by
  have hs := h.small
  obtain ⟨hF1, hA1⟩ := h.lt
  have c0 := h.c0
  have hx := ok.hx
  have hp := ok.hp
  have hg := ok.hg
  have fxp := h.at_p x hx
  rw [ok.ep] at fxp
  have fpp := h.at_p p hp
  rw [ok.eg] at fpp
  have HTOP := Lib.hid (top_any w F A m st h p hp (by rw [ok.eg]; exact hg))
  obtain ⟨B, hB⟩ : ∃ B, B = topB st p := ⟨_, rfl⟩
  rw [← hB] at HTOP
  have HH := Lib.hid h
  have OK := Lib.hid ok
  have HB := Lib.hid hB
  clear h ok hB
  go_enter Try.func74, Try.ntmps74
  go_upto_if 26 with (go_at_call 58; refine HTOP.out.mono ?_; rintro e w1 ⟨rfl, rfl⟩)
  go_cut [] from 27 to 52 (fun wx => TPost w F A m (turn1 st x p g) wx)
  case first =>
    clear HTOP
    cases B
    · have fgl := HH.out.at_l g hg
      have fgr := HH.out.at_r g hg
      have fz := HH.out.fz
      obtain ⟨gl, hgl⟩ : ∃ k, k = (st g).l := ⟨_, rfl⟩
      rw [← hgl] at fgl
      have e1 : turn1 st x p g = if gl = p then st.upd g { st g with l := x } else st.upd g { st g with r := x } := by
        unfold turn1
        rw [← HB.out, ← hgl]
        rfl
      have E1 := Lib.hid e1
      clear e1 hgl
      by_cases hc : gl = p
      · have d1 : ((gl : Int) == (p : Int)) = true := by rw [hc]; simp
        have HC := Lib.hid hc
        clear hc
        go_wp2
        go_meet
        rw [E1.out, if_pos HC.out]
        exact ⟨HH.out.set_l g hg _ rfl x, (Tch.refl [A] w).cellA (A := A) (by simp) _ _⟩
      · have d1 : ((gl : Int) == (p : Int)) = false := beq_eq_false_iff_ne.2 (by omega)
        have HC := Lib.hid hc
        clear hc
        go_wp2
        go_meet
        rw [E1.out, if_neg HC.out]
        exact ⟨HH.out.set_r g hg _ rfl x, (Tch.refl [A] w).cellA (A := A) (by simp) _ _⟩
    · go_wp2
      go_meet
      have e1 : turn1 st x p g = st := by
        unfold turn1
        rw [← HB.out]
        rfl
      rw [e1]
      exact ⟨HH.out, Tch.refl _ _⟩
  case rest =>
    obtain ⟨h1, T1⟩ := hcut
    have okp : (turn1 st x p g) p = st p := by
      unfold turn1
      split
      · rfl
      · split <;> rw [St.upd_ne _ _ _ _ OK.out.pg]
    have okx : (turn1 st x p g) x = st x := by
      unfold turn1
      split
      · rfl
      · split <;> rw [St.upd_ne _ _ _ _ OK.out.xg]
    have e0 : turn0 st x p g = turn4 (turn3 (turn2 (turn1 st x p g) x p) (turnB (turn1 st x p g) x p) p) x p g := rfl
    have E0 := Lib.hid e0
    clear e0 HH HTOP fxp fpp hF1 hA1 c0
    generalize turn1 st x p g = s1 at *
    obtain ⟨hF1, hA1⟩ := h1.lt
    have c0 := h1.c0
    have fz := h1.fz
    have fxl := h1.at_l x hx; have fxr := h1.at_r x hx
    have fpl := h1.at_l p hp; have fpr := h1.at_r p hp
    have OKP := Lib.hid okp
    have OKX := Lib.hid okx
    have H1 := Lib.hid h1
    have HT1 := Lib.hid T1
    have hxp := OK.out.xp
    clear okp okx h1 T1
    obtain ⟨pl, hpl⟩ : ∃ k, k = (s1 p).l := ⟨_, rfl⟩
    rw [← hpl] at fpl
    have HPL := Lib.hid hpl
    clear hpl
    go_upto_if 62 with (fail)
    go_cut [6] from 62 to 110 (fun b wx => TPostB w F A m (turn2 s1 x p) (turnB s1 x p) b wx)
    case first =>
      by_cases hc : pl = x
      · have d1 : ((pl : Int) == (x : Int)) = true := by rw [hc]; simp
        have HC := Lib.hid hc
        clear hc
        go_wp2
        refine region_any (.takes [0, 1, 2, 3, 4, 5, 6, 7, 8, 9, 10, 11, 12, 13] (.fork 14 [] (.takes [15, 16] (.fork 17 [] .done .none)) .none)) (by kernel_rfl) (by kernel_rfl) rfl ?_
        go_wp2_with first | (with_reducible exact wpE_none) | (with_reducible refine wpE_takes_nil ?_) | (with_reducible refine wpE_done ?_) | (refine wpE_take rfl rfl (fun _ _ => ?_)) | (refine wpE_skip rfl rfl ?_) | (refine wpE_fork rfl rfl (fun _ _ => ?_) ?_) | (with_reducible exact agains_nil) | (refine agains_cons rfl (fun _ => ?_) ?_) | (with_reducible refine wpE_same ?_) | (refine And.intro (rfl : (_ : World) = _) ?_) | (with_reducible refine wpE_and ?_ ?_)
        go_meet
        unfold turn2 turnB
        rw [← HPL.out, if_pos HC.out, if_pos HC.out]
        refine ⟨rfl, (((H1.out.set_l p hp _ rfl (s1 x).r).set_r x hx _ rfl p).drew).eq ?_, (((HT1.out.cellA (A := A) (by simp) _ _).cellA (A := A) (by simp) _ _)).drew⟩
        rw [St.upd_ne _ _ _ _ hxp]
      · have d1 : ((pl : Int) == (x : Int)) = false := beq_eq_false_iff_ne.2 (by omega)
        have HC := Lib.hid hc
        clear hc
        go_wp2
        refine region_any (.takes [0, 1, 2, 3, 4, 5, 6, 7, 8, 9, 10, 11, 12, 13] (.fork 14 [] (.takes [15, 16] (.fork 17 [] .done .none)) .none)) (by kernel_rfl) (by kernel_rfl) rfl ?_
        go_wp2_with first | (with_reducible exact wpE_none) | (with_reducible refine wpE_takes_nil ?_) | (with_reducible refine wpE_done ?_) | (refine wpE_take rfl rfl (fun _ _ => ?_)) | (refine wpE_skip rfl rfl ?_) | (refine wpE_fork rfl rfl (fun _ _ => ?_) ?_) | (with_reducible exact agains_nil) | (refine agains_cons rfl (fun _ => ?_) ?_) | (with_reducible refine wpE_same ?_) | (refine And.intro (rfl : (_ : World) = _) ?_) | (with_reducible refine wpE_and ?_ ?_)
        go_meet
        unfold turn2 turnB
        rw [← HPL.out, if_neg HC.out, if_neg HC.out]
        refine ⟨rfl, (((H1.out.set_r p hp _ rfl (s1 x).l).set_l x hx _ rfl p).drew).eq ?_, (((HT1.out.cellA (A := A) (by simp) _ _).cellA (A := A) (by simp) _ _)).drew⟩
        rw [St.upd_ne _ _ _ _ hxp]
    case rest =>
      obtain ⟨rfl, h2, T2⟩ := hcut
      have hb : turnB s1 x p < m := by
        unfold turnB
        rw [OKX.out]
        split
        · exact OK.out.xr
        · exact OK.out.xl
      have qx : turn2 s1 x p x = if (st p).l = x then { st x with r := p } else { st x with l := p } := by
        unfold turn2
        rw [OKP.out]
        split <;> rw [St.upd_same, OKX.out]
      have qp : turn2 s1 x p p = if (st p).l = x then { st p with l := (st x).r } else { st p with r := (st x).l } := by
        unfold turn2
        rw [OKP.out, OKX.out]
        split <;> rw [St.upd_ne _ _ _ _ (Ne.symm hxp), St.upd_same]
      have nb : turnB s1 x p ≠ x ∧ turnB s1 x p ≠ p := by
        unfold turnB
        rw [OKX.out]
        split
        · exact OK.out.nxr
        · exact OK.out.nxl
      clear H1 HT1 c0 hF1 hA1 fz fxl fpl fxr fpr HPL
      generalize turn2 s1 x p = s2 at *
      generalize turnB s1 x p = b at *
      have QX := Lib.hid qx
      have QP := Lib.hid qp
      obtain ⟨hF1, hA1⟩ := h2.lt
      have c0 := h2.c0
      have fz := h2.fz
      have fbp := h2.at_p b hb
      have H2 := Lib.hid h2
      have HT2 := Lib.hid T2
      have NB := Lib.hid nb
      clear qx qp h2 T2 nb
      go_upto_if 112 with (fail)
      go_cut [] from 112 to 120 (fun wx => TPost w F A m (turn3 s2 b p) wx)
      case first =>
        by_cases hc : b = 0
        · have d1 : ((b : Int) != 0) = false := by rw [hc]; simp
          have HC := Lib.hid hc
          clear hc
          go_wp2
          go_meet
          unfold turn3
          rw [if_pos HC.out]
          exact ⟨H2.out, HT2.out⟩
        · have d1 : ((b : Int) != 0) = true := bne_iff_ne.2 (by omega)
          have HC := Lib.hid hc
          clear hc
          go_wp2
          go_meet
          unfold turn3
          rw [if_neg HC.out]
          exact ⟨H2.out.set_p b hb _ rfl p, HT2.out.cellA (A := A) (by simp) _ _⟩
      case rest =>
        obtain ⟨h3, T3⟩ := hcut
        have q3x : turn3 s2 b p x = s2 x := by
          unfold turn3
          split
          · rfl
          · rw [St.upd_ne _ _ _ _ (Ne.symm NB.out.1)]
        have q3p : turn3 s2 b p p = s2 p := by
          unfold turn3
          split
          · rfl
          · rw [St.upd_ne _ _ _ _ (Ne.symm NB.out.2)]
        clear H2 HT2 c0 hF1 hA1 fz fbp
        generalize turn3 s2 b p = s3 at *
        obtain ⟨hF1, hA1⟩ := h3.lt
        have c0 := h3.c0
        have fz := h3.fz
        have fxp := h3.at_p x hx
        have fpp := h3.at_p p hp
        have h4 : ∀ w5 : World, w5 = (w5 : World) → True := fun _ _ => trivial
        have Q3X := Lib.hid q3x
        have Q3P := Lib.hid q3p
        have H3 := Lib.hid h3
        have HT3 := Lib.hid T3
        clear h4 q3x q3p h3 T3
        go_wp2_with fail
        refine region_any (.takes [0, 1, 2, 3, 4, 5, 6, 7, 8, 9, 10, 11, 12, 13] (.fork 14 [] (.takes [15, 16] (.fork 17 [] .done .none)) .none)) (by kernel_rfl) (by kernel_rfl) rfl ?_
        go_wp2_with first | (with_reducible exact wpE_none) | (with_reducible refine wpE_takes_nil ?_) | (with_reducible refine wpE_done ?_) | (refine wpE_take rfl rfl (fun _ _ => ?_)) | (refine wpE_skip rfl rfl ?_) | (refine wpE_fork rfl rfl (fun _ _ => ?_) ?_) | (with_reducible exact agains_nil) | (refine agains_cons rfl (fun _ => ?_) ?_) | (with_reducible refine wpE_same ?_) | (refine And.intro (rfl : (_ : World) = _) ?_) | (with_reducible refine wpE_and ?_ ?_)
        have h4 : FR _ F A m (turn4 s3 x p g) := (((H3.out.set_p p hp (p * 15 + 2) rfl x).set_p x hx (x * 15 + 2) rfl g).drew).eq (by unfold turn4; rw [St.upd_ne _ _ _ _ hxp])
        have T4 := ((HT3.out.cellA (A := A) (by simp) (p * 15 + 2) (.int .i64 (x : Int))).cellA (A := A) (by simp) (x * 15 + 2) (.int .i64 (g : Int))).drew
        have sx : (turn4 s3 x p g x).l = (s3 x).l ∧ (turn4 s3 x p g x).r = (s3 x).r := by
          unfold turn4
          rw [St.upd_same]
          exact ⟨rfl, rfl⟩
        have sp : (turn4 s3 x p g p).l = (s3 p).l ∧ (turn4 s3 x p g p).r = (s3 p).r := by
          unfold turn4
          rw [St.upd_ne _ _ _ _ (Ne.symm hxp), St.upd_same]
          exact ⟨rfl, rfl⟩
        rw [Q3X.out, QX.out] at sx
        rw [Q3P.out, QP.out] at sp
        have px : (turn4 s3 x p g x).l < m ∧ (turn4 s3 x p g x).r < m ∧ (turn4 s3 x p g x).l ≠ x ∧ (turn4 s3 x p g x).r ≠ x := by
          rw [sx.1, sx.2]
          split
          · exact ⟨OK.out.xl, hp, OK.out.nxl.1, Ne.symm hxp⟩
          · exact ⟨hp, OK.out.xr, Ne.symm hxp, OK.out.nxr.1⟩
        have pp : (turn4 s3 x p g p).l < m ∧ (turn4 s3 x p g p).r < m ∧ (turn4 s3 x p g p).l ≠ p ∧ (turn4 s3 x p g p).r ≠ p := by
          rw [sp.1, sp.2]
          split
          · exact ⟨OK.out.xr, OK.out.pr, OK.out.nxr.2, OK.out.npr⟩
          · exact ⟨OK.out.pl, OK.out.xl, OK.out.npl, OK.out.nxl.2⟩
        clear sx sp fxp fpp c0 hF1 hA1 fz H3 HT3
        generalize turn4 s3 x p g = s4 at *
        go_at_call 63
        refine (pull_any _ F A m s4 h4 p hp pp.1 pp.2.1 pp.2.2.1 pp.2.2.2).mono ?_
        rintro e w5 ⟨rfl, h5, T5⟩
        have px5 : (pullF s4 p x).l = (s4 x).l ∧ (pullF s4 p x).r = (s4 x).r := by
          unfold pullF
          rw [St.upd_ne _ _ _ _ hxp]
          exact ⟨rfl, rfl⟩
        go_wp2_with fail
        go_at_call 63
        refine (pull_any w5 F A m _ h5 x hx (by rw [px5.1]; exact px.1) (by rw [px5.2]; exact px.2.1) (by rw [px5.1]; exact px.2.2.1) (by rw [px5.2]; exact px.2.2.2)).mono ?_
        rintro e w6 ⟨rfl, h6, T6⟩
        have T := (T4.trans T5).trans T6
        have H6 := Lib.hid h6
        clear h4 T4 h5 T5 h6 T6 px pp px5
        go_wp2_with fail
        exact bodyPost_end (v := .tuple #[]) (by simp [results, Try.results74, go_sem]) rfl ⟨rfl, by rw [E0.out]; exact H6.out, T⟩
end Go.Proofs.Ytaipladbgdcedaa
namespace Go.Proofs.Ytaipladbgdcedaa
open Go.RowKit

theorem flipF_p (st : St) (x k : Nat) : ((flipF st x) k).p = (st k).p := by
  unfold flipF
  split
  · rfl
  · by_cases e : k = x
    · subst e; rw [St.upd_same]; rfl
    · rw [St.upd_ne _ _ _ _ e]
def push1 (st : St) (x : Nat) : St := if (st x).rev = true then flipF (flipF st (st x).l) (st x).r else st
theorem pushF_eq (st : St) (x : Nat) : pushF st x = (liftF (liftF (push1 st x) (st x).l (st x).add) (st x).r (st x).add).upd x { (liftF (liftF (push1 st x) (st x).l (st x).add) (st x).r (st x).add) x with rev := false, add := 0 } := rfl
def QPost (w : World) (F A m Y : Nat) (y : Nd) (st' : St) (w' : World) : Prop := FR w' F A m st' ∧ Tch [A] w w' ∧ Blk w' Y 65 15 (ncell y)
theorem node_made (w : World) (y : Nd) : Blk (w.alloc (.cells #[.int .i64 y.l, .int .i64 y.r, .int .i64 y.p, .bool y.rev, .int .i64 y.w, .int .i64 y.add, .int .i64 y.c, .int .i64 y.s, .int .i64 y.mn, .int .i64 y.mx, .int .i64 y.vn, .int .i64 y.vs, .int .i64 y.tn, .int .i64 y.ts, .bool y.th] 65)) w.heap.size 65 15 (ncell y) :=
  Blk.made (w := w) 65 _ (ncell y) (fun k hk => match k, hk with | 0, _ => rfl | 1, _ => rfl | 2, _ => rfl | 3, _ => rfl | 4, _ => rfl | 5, _ => rfl | 6, _ => rfl | 7, _ => rfl | 8, _ => rfl | 9, _ => rfl | 10, _ => rfl | 11, _ => rfl | 12, _ => rfl | 13, _ => rfl | 14, _ => rfl)
set_option maxRecDepth 100000 in
set_option maxHeartbeats 4000000 in
theorem push_any (w : World) (F A m : Nat) (st : St) (h : FR w F A m st) (x : Nat) (hx : x < m) (hl : (st x).l < m) (hr : (st x).r < m) : Calls Try.prog 56 #[.pointer (some ⟨F, 0, none⟩), .int .i64 x] w (FPost w F A m (pushF st x)) := by
  have hs := h.small
  obtain ⟨s1, hs1⟩ : ∃ s, s = push1 st x := ⟨_, rfl⟩
  rw [pushF_eq, ← hs1]
  have HS1 := Lib.hid hs1
  clear hs1
  obtain ⟨hF1, hA1⟩ := h.lt
  have c0 := h.c0
  have fxl := h.at_l x hx; have fxr := h.at_r x hx; have fxp := h.at_p x hx; have fxrev := h.at_rev x hx; have fxw := h.at_w x hx; have fxadd := h.at_add x hx; have fxc := h.at_c x hx; have fxs := h.at_s x hx; have fxmn := h.at_mn x hx; have fxmx := h.at_mx x hx; have fxvn := h.at_vn x hx; have fxvs := h.at_vs x hx; have fxtn := h.at_tn x hx; have fxts := h.at_ts x hx; have fxth := h.at_th x hx
  obtain ⟨B, hB⟩ : ∃ B, B = (st x).rev := ⟨_, rfl⟩
  have hY := node_made w (st x)
  rw [← hB] at fxrev hY
  have hsz := Nat.ne_of_lt hA1
  have hYF := Nat.ne_of_lt hF1
  have h1 := h.quiet ((Tch.refl [] w).new (.cells #[.int .i64 (st x).l, .int .i64 (st x).r, .int .i64 (st x).p, .bool B, .int .i64 (st x).w, .int .i64 (st x).add, .int .i64 (st x).c, .int .i64 (st x).s, .int .i64 (st x).mn, .int .i64 (st x).mx, .int .i64 (st x).vn, .int .i64 (st x).vs, .int .i64 (st x).tn, .int .i64 (st x).ts, .bool (st x).th] 65))
  have T1 := (Tch.refl [A] w).new (.cells #[.int .i64 (st x).l, .int .i64 (st x).r, .int .i64 (st x).p, .bool B, .int .i64 (st x).w, .int .i64 (st x).add, .int .i64 (st x).c, .int .i64 (st x).s, .int .i64 (st x).mn, .int .i64 (st x).mx, .int .i64 (st x).vn, .int .i64 (st x).vs, .int .i64 (st x).tn, .int .i64 (st x).ts, .bool (st x).th] 65)
  have HB := Lib.hid hB
  have HL := Lib.hid hl
  have HR := Lib.hid hr
  have HSZ := Lib.hid hsz
  clear h hB hl hr hsz hYF
  go_enter Try.func56, Try.ntmps56
  go_upto_if 13 with (fail)
  generalize w.alloc (.cells _ 65) = w1 at h1 T1 hY ⊢
  generalize hYe : w.heap.size = Y at hY HSZ ⊢
  clear fxl fxr fxp fxrev fxw fxadd fxc fxs fxmn fxmx fxvn fxvs fxtn fxts fxth c0 hF1 hA1 hYe
  obtain ⟨hF1, hA1⟩ := h1.lt
  have c0 := h1.c0
  have y0 : w1.cell? ⟨Y, 0, none⟩ = some (.int .i64 (st x).l) := hY.cell 0 (by omega)
  have y1 : w1.cell? ⟨Y, 1, none⟩ = some (.int .i64 (st x).r) := hY.cell 1 (by omega)
  have hYl := hY.lt
  have H1 := Lib.hid h1
  have HT1 := Lib.hid T1
  have HY := Lib.hid hY
  clear h1 T1 hY
  go_cut [] from 14 to 21 (fun wx => QPost w F A m Y (st x) s1 wx)
  case first =>
    cases B
    · go_wp2
      go_meet
      rw [HS1.out]
      unfold push1
      rw [← HB.out]
      exact ⟨H1.out, HT1.out, HY.out⟩
    · go_wp2_with fail
      go_at_call 73
      refine (flip_any w1 F A m st H1.out (st x).l HL.out).mono ?_
      rintro e w2 ⟨rfl, h2, T2⟩
      have Y2 := T2.blk HY.out (by simp; exact fun e => HSZ.out e.symm)
      have z1 : w2.cell? ⟨Y, 1, none⟩ = some (.int .i64 (st x).r) := Y2.cell 1 (by omega)
      have z2 := Y2.lt
      clear c0 hF1 hA1 y0 y1 hYl
      obtain ⟨hF1, hA1⟩ := h2.lt
      have c0 := h2.c0
      have H2 := Lib.hid h2
      have HT2 := Lib.hid T2
      have HY2 := Lib.hid Y2
      clear h2 T2 Y2
      go_wp2_with fail
      go_at_call 73
      refine (flip_any w2 F A m _ H2.out (st x).r HR.out).mono ?_
      rintro e w3 ⟨rfl, h3, T3⟩
      have H3 := Lib.hid h3
      have Y3 := Lib.hid (T3.blk HY2.out (by simp; exact fun e => HSZ.out e.symm))
      have HT3 := Lib.hid T3
      clear h3 T3
      go_wp2_with fail
      go_meet
      rw [HS1.out]
      unfold push1
      rw [← HB.out]
      exact ⟨H3.out, (HT1.out.trans HT2.out).trans HT3.out, Y3.out⟩
  case rest =>
    obtain ⟨h2, T2, Y2⟩ := hcut
    clear y0 y1 c0 hF1 hA1 hYl
    obtain ⟨hF1, hA1⟩ := h2.lt
    have c0 := h2.c0
    have y0 : wc.cell? ⟨Y, 0, none⟩ = some (.int .i64 (st x).l) := Y2.cell 0 (by omega)
    have y1 : wc.cell? ⟨Y, 1, none⟩ = some (.int .i64 (st x).r) := Y2.cell 1 (by omega)
    have y5 : wc.cell? ⟨Y, 5, none⟩ = some (.int .i64 (st x).add) := Y2.cell 5 (by omega)
    have hYl := Y2.lt
    have H2 := Lib.hid h2
    have HT2 := Lib.hid T2
    have HY2 := Lib.hid Y2
    clear h2 T2 Y2 H1 HT1 HY
    go_wp2_with fail
    go_at_call 65
    refine (lift_node wc F A m s1 H2.out (st x).l HL.out (st x).add).mono ?_
    rintro e w3 ⟨rfl, h3, T3⟩
    have Y3 := T3.blk HY2.out (by simp; exact fun e => HSZ.out e.symm)
    clear y0 y1 y5 c0 hF1 hA1 hYl
    obtain ⟨hF1, hA1⟩ := h3.lt
    have c0 := h3.c0
    have y1 : w3.cell? ⟨Y, 1, none⟩ = some (.int .i64 (st x).r) := Y3.cell 1 (by omega)
    have y5 : w3.cell? ⟨Y, 5, none⟩ = some (.int .i64 (st x).add) := Y3.cell 5 (by omega)
    have hYl := Y3.lt
    have H3 := Lib.hid h3
    have HT3 := Lib.hid (HT2.out.trans T3)
    clear h3 T3 Y3
    go_wp2_with fail
    go_at_call 65
    refine (lift_node w3 F A m _ H3.out (st x).r HR.out (st x).add).mono ?_
    rintro e w4 ⟨rfl, h4, T4⟩
    clear y1 y5 c0 hF1 hA1 hYl
    generalize hs2 : liftF (liftF s1 (st x).l (st x).add) (st x).r (st x).add = s2 at *
    obtain ⟨hF1, hA1⟩ := h4.lt
    have c0 := h4.c0
    have fz := h4.fz
    have fxrev := h4.at_rev x hx
    have fxadd := h4.at_add x hx
    have H4 := Lib.hid h4
    have HT4 := Lib.hid (HT3.out.trans T4)
    have HS2 := Lib.hid hs2
    clear h4 T4 H3 HT3 hs2
    go_wp2_with fail
    refine region_any (.takes [0, 1, 2, 3, 4, 5, 6, 7, 8, 9, 10, 11] (.fork 12 [] (.takes [13, 14] (.fork 15 [] .done .none)) .none)) (by kernel_rfl) (by kernel_rfl) rfl ?_
    go_wp2_with first | (with_reducible exact wpE_none) | (with_reducible refine wpE_takes_nil ?_) | (with_reducible refine wpE_done ?_) | (refine wpE_take rfl rfl (fun _ _ => ?_)) | (refine wpE_skip rfl rfl ?_) | (refine wpE_fork rfl rfl (fun _ _ => ?_) ?_) | (with_reducible exact agains_nil) | (refine agains_cons rfl (fun _ => ?_) ?_) | (with_reducible refine wpE_same ?_) | (refine And.intro (rfl : (_ : World) = _) ?_) | (with_reducible refine wpE_and ?_ ?_)
    have X := (((H4.out.set_rev x hx (x * 15 + 3) rfl false).set_add x hx (x * 15 + 5) rfl 0).drew).eq (st' := s2.upd x { s2 x with rev := false, add := 0 }) (by simp only [St.upd_upd, St.upd_same])
    exact bodyPost_end (v := .tuple #[]) (by simp [results, Try.results56, go_sem]) rfl ⟨rfl, X, ((HT4.out.cellA (A := A) (by simp) _ _).cellA (A := A) (by simp) _ _).drew⟩
end Go.Proofs.Ytaipladbgdcedaa
