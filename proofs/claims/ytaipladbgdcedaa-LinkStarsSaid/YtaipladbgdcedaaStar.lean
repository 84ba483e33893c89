/- A star: the outer answers, as it is, with a ray for its root, and with a ray cut off. No walk in sight. -/
import Derived.Test.YtaipladbgdcedaaWy
set_option linter.unusedSimpArgs false
set_option linter.unusedVariables false
namespace Go.Proofs.Ytaipladbgdcedaa
open Go.RowKit

def starQ (u : Nat) : Nat := if 2 ≤ u then 1 else 0
def Star (k : Nat) : Fo := Gro k starQ (fun _ => 1) k
theorem starQ_low (u : Nat) (h : 1 ≤ u) : starQ u < u := by
  unfold starQ
  split <;> omega
theorem one_in : InW 1 := by unfold InW; omega
section
variable {k : Nat}
theorem star_full (hk : k ≤ 100) : Full (Star k) k := gro_full hk starQ_low (fun _ => one_in)
theorem star_up1 (hk : 1 ≤ k) : (Star k).up 1 = 0 := gro_up 1 (by omega)
theorem star_up (u : Nat) (h1 : 2 ≤ u) (h2 : u ≤ k) : (Star k).up u = 1 := by
  have : (Star k).up u = starQ u := gro_up u (by omega)
  rw [this]
  unfold starQ
  rw [if_pos h1]
theorem star_above1 (hk : k ≤ 100) (h1 : 1 ≤ k) : (Star k).above 1 = [1] := by
  have F := star_full hk
  rw [F.ok.above_cons 1 (F.th 1 (by omega) h1), star_up1 h1, F.ok.above0]
theorem star_above (hk : k ≤ 100) (u : Nat) (h1 : 2 ≤ u) (h2 : u ≤ k) : (Star k).above u = [u, 1] := by
  have F := star_full hk
  rw [F.ok.above_cons u (F.th u (by omega) h2), star_up u h1 h2, star_above1 hk (by omega)]
theorem star_root (hk : k ≤ 100) (u : Nat) (h1 : 1 ≤ u) (h2 : u ≤ k) : (Star k).root u = 1 := by
  unfold Fo.root
  by_cases e : u = 1
  · subst e; rw [star_above1 hk h2]; rfl
  · rw [star_above hk u (by omega) h2]; rfl
theorem star_sub1 (hk : k ≤ 100) (h1 : 1 ≤ k) : (Star k).sub 1 = k := by
  have F := star_full hk
  have h : (List.range (k + 1)).countP (isBelow (Star k) 1) = k := countP_range1 _ (by
    cases hb : isBelow (Star k) 1 0 with
    | false => rfl
    | true => have := F.ok.rng 0 ((isBelow_iff _ _ _).1 hb).1; omega) k (fun v a b => (isBelow_iff _ _ _).2 ⟨F.th v a b, by
      by_cases e : v = 1
      · subst e; rw [star_above1 hk h1]; simp
      · rw [star_above hk v (by omega) b]; simp⟩)
  unfold Fo.sub
  show (((List.range (k + 1)).countP (isBelow (Star k) 1) : Nat) : Int) = k
  rw [h]
theorem star_sub (hk : k ≤ 100) (u : Nat) (h1 : 2 ≤ u) (h2 : u ≤ k) : (Star k).sub u = 1 ∧ (Star k).ssum u = 1 := by
  have F := star_full hk
  have hb : ∀ v, isBelow (Star k) u v = true ↔ v = u := fun v => by
    rw [isBelow_iff]
    constructor
    · rintro ⟨a, b⟩
      have hr := F.ok.rng v a
      have hr2 : v ≤ k := hr.2
      by_cases e : v = 1
      · subst e
        rw [star_above1 hk (by omega)] at b
        have : u = 1 := by simpa using b
        omega
      · rw [star_above hk v (by omega) hr2] at b
        rcases List.mem_cons.1 b with e2 | e2
        · exact e2.symm
        · have : u = 1 := by simpa using e2
          omega
    · intro e
      subst e
      exact ⟨F.th _ (by omega) h2, by rw [star_above hk _ h1 h2]; simp⟩
  constructor
  · unfold Fo.sub
    rw [countP_one u _ List.nodup_range (by show u ∈ List.range (k + 1); simp; omega) (fun v _ => hb v)]
    rfl
  · unfold Fo.ssum
    rw [sumIf_one u _ List.nodup_range (by show u ∈ List.range (k + 1); simp; omega) (fun v _ => hb v)]
    exact gro_wt u (by omega)
theorem sumIf_const (p : Nat → Bool) (g : Nat → Int) (h : ∀ u, p u = true → g u = 1) : ∀ l : List Nat, sumIf p g l = (l.countP p : Nat)
  | [] => rfl
  | a :: l => by
    show (if p a = true then g a else 0) + sumIf p g l = _
    rw [sumIf_const p g h l, List.countP_cons]
    by_cases e : p a = true
    · rw [if_pos e, if_pos e, h a e]; omega
    · rw [if_neg e, if_neg e]; omega
theorem star_ssum1 (hk : k ≤ 100) (h1 : 1 ≤ k) : (Star k).ssum 1 = k := by
  have e : (Star k).ssum 1 = (Star k).sub 1 := by
    unfold Fo.ssum Fo.sub
    refine sumIf_const _ _ (fun u hu => ?_) _
    have hr := (star_full hk).ok.rng u ((isBelow_iff _ _ _).1 hu).1
    exact gro_wt u ⟨hr.1, hr.2⟩
  rw [e, star_sub1 hk h1]
structure StarFacts (k a b : Nat) (S1 S3 S4 : Fo) : Prop where
  f : Full (Star k) k
  sum : (sumE (Star k) (a : Int) (b : Int)).c = 3
  same : sameB (Star k) (a : Int) (b : Int) = true
  lca : lcaE (Star k) (a : Int) (b : Int) = 0
  hasa : hasB (Star k) (a : Int) = true
  ev : evG (Star k) (a : Int) = S1
  par0 : parE S1 0 = (a : Int)
  parb : parE S1 (b : Int) = 0
  lca0 : lcaE S1 0 (b : Int) = 0
  sub0 : subC S1 0 = (k : Int) - 1
  ssum0 : subW S1 0 = (k : Int) - 1
  has0 : hasB S1 0 = true
  ev0 : evG S1 0 = Star k
  ct : cutOk (Star k) (a : Int) = true
  cg : cutG (Star k) (a : Int) = S3
  sza : sizeE S3 (a : Int) = 1
  sz0 : sizeE S3 0 = (k : Int) - 1
  sm : sameB S3 (a : Int) (b : Int) = false
  dr : dropOk S3 (a : Int) = true
  dg : dropG S3 (a : Int) = S4
  hs : hasB S4 (a : Int) = false
  d0 : dropOk S4 0 = false
  g0 : dropG S4 0 = S4
theorem star_facts (hk : k ≤ 100) (hk3 : 3 ≤ k) {a b : Nat} (ha1 : 1 ≤ a) (ha2 : a < k) (hb1 : 1 ≤ b) (hb2 : b < k) (hab : a ≠ b) : ∃ S1 S3 S4, StarFacts k a b S1 S3 S4 := by
  have F := star_full hk
  have ok := F.ok
  have ta := F.th (a + 1) (by omega) (by omega)
  have tb := F.th (b + 1) (by omega) (by omega)
  have t1 := F.th 1 (by omega) (by omega)
  have aa := star_above hk (a + 1) (by omega) (by omega)
  have ab := star_above hk (b + 1) (by omega) (by omega)
  have ra := star_root hk (a + 1) (by omega) (by omega)
  have rb := star_root hk (b + 1) (by omega) (by omega)
  have ok1 := ev_ok ok ta
  have F1 : Full ((Star k).ev (a + 1)) k := ⟨ok1, F.sz, F.th⟩
  have u1 : ((Star k).ev (a + 1)).up 1 = a + 1 := ev_up_on ok ta (l1 := [a + 1]) (l2 := []) aa
  have ua : ((Star k).ev (a + 1)).up (a + 1) = 0 := ev_up_on ok ta (l1 := []) (l2 := [1]) aa
  have ub : ((Star k).ev (a + 1)).up (b + 1) = 1 := by
    show (if b + 1 ∈ (Star k).above (a + 1) then prv 0 ((Star k).above (a + 1)) (b + 1) else (Star k).up (b + 1)) = 1
    rw [if_neg (by rw [aa]; simp; omega), star_up _ (by omega) (by omega)]
  have b1 : ((Star k).ev (a + 1)).above 1 = [1, a + 1] := by rw [ok1.above_cons 1 t1, u1, ok1.above_cons (a + 1) ta, ua, ok1.above0]
  have bb : ((Star k).ev (a + 1)).above (b + 1) = [b + 1, 1, a + 1] := by rw [ok1.above_cons (b + 1) tb, ub, b1]
  have hsame := (F.same a b ha2 hb2).trans (decide_eq_true_iff.2 (by rw [ra, rb]))
  have hsub := ev_sub_on ok ta 1 (l1 := [a + 1]) (l2 := []) aa
  have hla : lst [a + 1] = a + 1 := rfl
  rw [ra, hla, star_sub1 hk (by omega), star_ssum1 hk (by omega), (star_sub hk (a + 1) (by omega) (by omega)).1, (star_sub hk (a + 1) (by omega) (by omega)).2] at hsub
  have C := F.cut (c := a) (p := 0) ha2 (star_up (a + 1) (by omega) (by omega))
  have h0 : ((0 : Nat) : Int) = 0 := rfl
  have rc : ((Star k).cut (a + 1)).root (a + 1) = a + 1 := C.rc
  have sc : ((Star k).cut (a + 1)).sub (a + 1) = 1 := by rw [C.sub]; exact (star_sub hk (a + 1) (by omega) (by omega)).1
  have hle : ((Star k).cut (a + 1)).sub (((Star k).cut (a + 1)).root (a + 1)) ≤ 1 := by rw [rc, sc]; omega
  have r10 : ((Star k).cut (a + 1)).root 1 = 1 := by have := C.rp; rw [ra] at this; exact this
  have s10 : ((Star k).cut (a + 1)).sub 1 = (k : Int) - 1 := by
    have := C.size
    rw [ra, star_sub1 hk (by omega), (star_sub hk (a + 1) (by omega) (by omega)).1] at this
    exact this
  have hdr : dropOk ((Star k).cut (a + 1)) (a : Int) = true := by
    unfold dropOk
    rw [C.full.has a ha2, Int.toNat_natCast, decide_eq_true_iff.2 hle]
    rfl
  have ta3 : ((Star k).cut (a + 1)).th (a + 1) = true := ta
  have dsub := drop_sub C.full.ok ta3 hle 1 (by omega)
  have hd0 : dropOk (((Star k).cut (a + 1)).drop (a + 1)) 0 = false := by
    unfold dropOk
    have e : (((Star k).cut (a + 1)).drop (a + 1)).root 1 = 1 := r10
    have e2 : ((0 : Int).toNat + 1) = 1 := rfl
    rw [e2, e, dsub.1, s10]
    have : decide ((k : Int) - 1 ≤ 1) = false := decide_eq_false_iff_not.2 (by omega)
    rw [this, Bool.and_false]
  refine ⟨(Star k).ev (a + 1), (Star k).cut (a + 1), ((Star k).cut (a + 1)).drop (a + 1), F, ?_, hsame, ?_, F.has a ha2, ?_, ?_, ?_, ?_, ?_, ?_, ?_, ?_, C.ok, C.eq, ?_, ?_, ?_, hdr, ?_, ?_, hd0, ?_⟩
  · unfold sumE
    rw [if_pos hsame, Int.toNat_natCast, Int.toNat_natCast]
    unfold Fo.psum
    rw [bb, sumL_c]
    rfl
  · unfold lcaE
    rw [if_pos hsame, Int.toNat_natCast, Int.toNat_natCast]
    have : (Star k).lca (a + 1) (b + 1) = 1 := lca_of (l1 := [b + 1]) (l2 := []) ab (by rw [aa]; simp) (fun v hv => by rw [List.mem_singleton.1 hv, aa]; simp; omega)
    rw [this]
    rfl
  · unfold evG
    rw [if_pos (F.has a ha2), Int.toNat_natCast]
  · have := F1.par 0 (by omega)
    rw [u1] at this
    exact this.trans (by omega)
  · have := F1.par b hb2
    rw [ub] at this
    exact this.trans rfl
  · have hs0 : sameB ((Star k).ev (a + 1)) ((0 : Nat) : Int) (b : Int) = true := (F1.same 0 b (by omega) hb2).trans (decide_eq_true_iff.2 (by
      unfold Fo.root
      rw [b1, bb]
      rfl))
    unfold lcaE
    rw [show (0 : Int) = ((0 : Nat) : Int) from rfl, if_pos hs0, Int.toNat_natCast, Int.toNat_natCast]
    have : ((Star k).ev (a + 1)).lca (0 + 1) (b + 1) = 1 := lca_of (l1 := [b + 1]) (l2 := [a + 1]) bb (by rw [b1]; simp) (fun v hv => by rw [List.mem_singleton.1 hv, b1]; simp; omega)
    rw [this]
    rfl
  · have := F1.sub 0 (by omega)
    exact this.trans hsub.1
  · have := F1.ssum 0 (by omega)
    exact this.trans hsub.2
  · exact F1.has 0 (by omega)
  · unfold evG
    have h := F1.has 0 (by omega)
    rw [if_pos (show hasB ((Star k).ev (a + 1)) 0 = true from h)]
    have := ev_back ok ta
    rw [ra] at this
    exact this
  · have := C.full.size a ha2
    rw [rc, sc] at this
    exact this
  · have := C.full.size 0 (by omega)
    rw [show (0 + 1) = 1 from rfl, r10, s10] at this
    exact this
  · refine (C.full.same a b ha2 hb2).trans (decide_eq_false_iff_not.2 ?_)
    rw [rc]
    have hbr : ((Star k).cut (a + 1)).root (b + 1) = 1 := by
      have hm : 1 ∈ ((Star k).cut (a + 1)).above (b + 1) := by
        have hupb : ((Star k).cut (a + 1)).up (b + 1) = 1 := by
          show (if b + 1 = a + 1 then 0 else (Star k).up (b + 1)) = 1
          rw [if_neg (by omega), star_up _ (by omega) (by omega)]
        rw [C.full.ok.above_cons (b + 1) tb, hupb]
        exact List.mem_cons_of_mem _ (C.full.ok.self 1 t1)
      rw [root_mem C.full.ok tb hm, r10]
    rw [hbr]
    omega
  · unfold dropG
    rw [if_pos hdr, Int.toNat_natCast]
  · rw [hasB_nat]
    have : (((Star k).cut (a + 1)).drop (a + 1)).th (a + 1) = false := by
      show (if a + 1 = a + 1 then false else _) = false
      rw [if_pos rfl]
    rw [this, Bool.and_false]
  · unfold dropG
    rw [if_neg (by rw [hd0]; simp)]
end
end Go.Proofs.Ytaipladbgdcedaa
