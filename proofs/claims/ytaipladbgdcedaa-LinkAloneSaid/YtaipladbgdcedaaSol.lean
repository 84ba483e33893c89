/- A node by itself: the outer answers. No walk in sight. -/
import Derived.Test.YtaipladbgdcedaaTk
set_option linter.unusedSimpArgs false
set_option linter.unusedVariables false
namespace Go.Proofs.Ytaipladbgdcedaa
open Go.RowKit

/-- Room for 30 nodes, of which one may be there. -/
def Sol (k : Nat) (x : Int) (b : Bool) : Fo := ⟨30, fun u => b && decide (u = k + 1), fun _ => 0, fun u => if u = k + 1 then x else 0⟩
section
variable {k : Nat} {x : Int}
theorem sol_none (k : Nat) : Sol k 0 false = Fo.empty 30 := by
  refine fo_eq rfl (fun u => rfl) (fun u => rfl) (fun u => ?_)
  show (if u = k + 1 then (0 : Int) else 0) = 0
  split <;> rfl
theorem sol_th (u : Nat) : (Sol k x true).th u = true ↔ u = k + 1 := by
  show (true && decide (u = k + 1)) = true ↔ _
  simp
theorem sol_add (hk : k < 30) (y : Int) (hx : InW x) : addOk (Sol k y false) (k : Int) x = true ∧ addG (Sol k y false) (k : Int) x = Sol k x true := by
  have h : addOk (Sol k y false) (k : Int) x = true := by
    unfold addOk
    have h1 : decide (0 ≤ (k : Int) ∧ (k : Int) < ((Sol k y false).n : Int)) = true := decide_eq_true_iff.2 ⟨by omega, by show (k : Int) < ((30 : Nat) : Int); omega⟩
    have h2 : fitsB x = true := decide_eq_true_iff.2 hx
    have h3 : (Sol k y false).th ((k : Int).toNat + 1) = false := rfl
    rw [h1, h2, h3]
    rfl
  refine ⟨h, ?_⟩
  unfold addG
  rw [if_pos h, Int.toNat_natCast]
  refine fo_eq rfl (fun u => ?_) (fun u => rfl) (fun u => ?_)
  · show (if u = k + 1 then true else (false && decide (u = k + 1))) = (true && decide (u = k + 1))
    by_cases e : u = k + 1
    · simp [e]
    · simp [e]
  · show (if u = k + 1 then x else (if u = k + 1 then y else 0)) = if u = k + 1 then x else 0
    split <;> rfl
theorem sol_ok (hk : k < 30) (hx : InW x) : FoOk (Sol k x true) := by
  refine low_ok (fun v hv => ?_) (fun v hv => ?_) (fun v hv h0 => absurd rfl h0) (fun v hv => ?_) (fun v hv => rfl) (by show 30 ≤ 100; omega)
  · have := (sol_th v).1 hv
    subst this
    exact ⟨by omega, by show k + 1 ≤ 30; omega⟩
  · have := (sol_th v).1 hv
    show 0 < v
    omega
  · have := (sol_th v).1 hv
    show InW (if v = k + 1 then x else 0)
    rw [if_pos this]
    exact hx
theorem sol_has (hk : k < 30) : hasB (Sol k x true) (k : Int) = true := by
  rw [hasB_nat, (sol_th (k + 1)).2 rfl, decide_eq_true_iff.2 (show k < (Sol k x true).n from hk)]
  rfl
theorem sol_above (hk : k < 30) (hx : InW x) : (Sol k x true).above (k + 1) = [k + 1] := by
  have h := sol_ok hk hx
  rw [h.above_cons _ ((sol_th _).2 rfl)]
  have : (Sol k x true).up (k + 1) = 0 := rfl
  rw [this, h.above0]
theorem sol_root (hk : k < 30) (hx : InW x) : (Sol k x true).root (k + 1) = k + 1 := by
  unfold Fo.root
  rw [sol_above hk hx]
  rfl
theorem sol_below (hk : k < 30) (hx : InW x) (u : Nat) : isBelow (Sol k x true) (k + 1) u = true ↔ u = k + 1 := by
  rw [isBelow_iff]
  constructor
  · rintro ⟨h1, _⟩
    exact (sol_th u).1 h1
  · intro e
    subst e
    exact ⟨(sol_th _).2 rfl, by rw [sol_above hk hx]; simp⟩
theorem sol_ev (hk : k < 30) (hx : InW x) : (Sol k x true).ev (k + 1) = Sol k x true := by
  refine fo_eq rfl (fun u => rfl) (fun u => ?_) (fun u => rfl)
  show (if u ∈ (Sol k x true).above (k + 1) then prv 0 ((Sol k x true).above (k + 1)) u else 0) = 0
  rw [sol_above hk hx]
  split
  · rename_i h
    have : u = k + 1 := by simpa using h
    show (if u = k + 1 then 0 else prv (k + 1) [] u) = 0
    rw [if_pos this]
  · rfl
/-- All of the outer answers. -/
structure SolFacts (k : Nat) (x : Int) : Prop where
  has : hasB (Sol k x true) (k : Int) = true
  same : sameB (Sol k x true) (k : Int) (k : Int) = true
  sum : sumE (Sol k x true) (k : Int) (k : Int) = ⟨1, x, x, x⟩
  sub : subC (Sol k x true) (k : Int) = 1
  ssum : subW (Sol k x true) (k : Int) = x
  get : getE (Sol k x true) (k : Int) = x
  root : rootE (Sol k x true) (k : Int) = (k : Int)
  par : parE (Sol k x true) (k : Int) = -1
  lca : lcaE (Sol k x true) (k : Int) (k : Int) = (k : Int)
  size : sizeE (Sol k x true) (k : Int) = 1
  lk : linkOk (Sol k x true) (k : Int) (k : Int) = false
  lg : linkG (Sol k x true) (k : Int) (k : Int) = Sol k x true
  ct : cutOk (Sol k x true) (k : Int) = false
  cg : cutG (Sol k x true) (k : Int) = Sol k x true
  ev : evG (Sol k x true) (k : Int) = Sol k x true
  dr : dropOk (Sol k x true) (k : Int) = true
  dg : dropG (Sol k x true) (k : Int) = Sol k x false
  ad : addOk (Sol k x true) (k : Int) x = false
  ag : addG (Sol k x true) (k : Int) x = Sol k x true
theorem sol_facts (hk : k < 30) (hx : InW x) : SolFacts k x := by
  have hh := sol_has (x := x) hk
  have hr := sol_root hk hx
  have hsub : (Sol k x true).sub (k + 1) = 1 := by
    unfold Fo.sub
    rw [countP_one (k + 1) _ List.nodup_range (by show k + 1 ∈ List.range 31; simp; omega) (fun u _ => sol_below hk hx u)]
    rfl
  have hssum : (Sol k x true).ssum (k + 1) = x := by
    unfold Fo.ssum
    rw [sumIf_one (k + 1) _ List.nodup_range (by show k + 1 ∈ List.range 31; simp; omega) (fun u _ => sol_below hk hx u)]
    exact if_pos rfl
  have hsame : sameB (Sol k x true) (k : Int) (k : Int) = true := by
    unfold sameB
    rw [hh]
    simp
  have hpar : parE (Sol k x true) (k : Int) = -1 := by
    unfold parE
    rw [if_pos hh]
    rfl
  have hlk : linkOk (Sol k x true) (k : Int) (k : Int) = false := by
    unfold linkOk
    rw [hsame]
    simp
  have hct : cutOk (Sol k x true) (k : Int) = false := by
    unfold cutOk
    rw [hpar]
    rfl
  have hdr : dropOk (Sol k x true) (k : Int) = true := by
    unfold dropOk
    rw [hh, Int.toNat_natCast, hr, hsub]
    rfl
  have had : addOk (Sol k x true) (k : Int) x = false := by
    unfold addOk
    rw [Int.toNat_natCast, (sol_th (k + 1)).2 rfl]
    simp
  refine ⟨hh, hsame, ?_, ?_, ?_, ?_, ?_, hpar, ?_, ?_, hlk, ?_, hct, ?_, ?_, hdr, ?_, had, ?_⟩
  · unfold sumE
    rw [if_pos hsame, Int.toNat_natCast]
    unfold Fo.psum
    rw [sol_ev hk hx, sol_above hk hx]
    show sumL [if k + 1 = k + 1 then x else 0] = _
    rw [if_pos rfl, sumL_one]
    rfl
  · unfold subC
    rw [if_pos hh, Int.toNat_natCast, hsub]
  · unfold subW
    rw [if_pos hh, Int.toNat_natCast, hssum]
  · unfold getE
    rw [if_pos hh, Int.toNat_natCast]
    exact if_pos rfl
  · unfold rootE
    rw [if_pos hh, Int.toNat_natCast, hr]
    omega
  · unfold lcaE
    rw [if_pos hsame, Int.toNat_natCast]
    have : (Sol k x true).lca (k + 1) (k + 1) = k + 1 := lca_of (l1 := []) (l2 := []) (sol_above hk hx) (by rw [sol_above hk hx]; simp) (by simp)
    rw [this]
    omega
  · unfold sizeE
    rw [if_pos hh, Int.toNat_natCast, hr, hsub]
  · unfold linkG
    rw [if_neg (by rw [hlk]; simp)]
  · unfold cutG
    rw [if_neg (by rw [hct]; simp)]
  · unfold evG
    rw [if_pos hh, Int.toNat_natCast, sol_ev hk hx]
  · unfold dropG
    rw [if_pos hdr, Int.toNat_natCast]
    refine fo_eq rfl (fun u => ?_) (fun u => rfl) (fun u => rfl)
    show (if u = k + 1 then false else (true && decide (u = k + 1))) = (false && decide (u = k + 1))
    by_cases e : u = k + 1
    · simp [e]
    · simp [e]
  · unfold addG
    rw [if_neg (by rw [had]; simp)]
theorem sol_off (k : Nat) (x : Int) : hasB (Sol k x false) (k : Int) = false ∧ evG (Sol k x false) (k : Int) = Sol k x false ∧ cutOk (Sol k x false) (k : Int) = false ∧ cutG (Sol k x false) (k : Int) = Sol k x false ∧ dropOk (Sol k x false) (k : Int) = false ∧ dropG (Sol k x false) (k : Int) = Sol k x false := by
  have hh : hasB (Sol k x false) (k : Int) = false := by
    rw [hasB_nat]
    have : (Sol k x false).th (k + 1) = false := rfl
    rw [this, Bool.and_false]
  have hc : cutOk (Sol k x false) (k : Int) = false := by
    unfold cutOk parE
    rw [if_neg (by rw [hh]; simp)]
    rfl
  have hd : dropOk (Sol k x false) (k : Int) = false := by
    unfold dropOk
    rw [hh, Bool.false_and]
  refine ⟨hh, ?_, hc, ?_, hd, ?_⟩
  · unfold evG
    rw [if_neg (by rw [hh]; simp)]
  · unfold cutG
    rw [if_neg (by rw [hc]; simp)]
  · unfold dropG
    rw [if_neg (by rw [hd]; simp)]
end
end Go.Proofs.Ytaipladbgdcedaa
