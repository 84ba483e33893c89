/- What a cut and a link turn in the outer answers. No walk in sight. -/
import Derived.Test.YtaipladbgdcedaaTk
set_option linter.unusedSimpArgs false
set_option linter.unusedVariables false
namespace Go.Proofs.Ytaipladbgdcedaa
open Go.RowKit

section
variable {G : Fo} {n : Nat}
theorem Full.cutNo (F : Full G n) {c : Nat} (hc : c < n) (hu : G.up (c + 1) = 0) : cutOk G (c : Int) = false ∧ cutG G (c : Int) = G := by
  have h : cutOk G (c : Int) = false := by
    unfold cutOk
    rw [F.par c hc, hu]
    exact decide_eq_false_iff_not.2 (by omega)
  exact ⟨h, by unfold cutG; rw [if_neg (by rw [h]; simp)]⟩
structure Cutd (G : Fo) (n c p : Nat) (G' : Fo) : Prop where
  full : Full G' n
  ok : cutOk G (c : Int) = true
  eq : cutG G (c : Int) = G'
  sub : G'.sub (c + 1) = G.sub (c + 1)
  ssum : G'.ssum (c + 1) = G.ssum (c + 1)
  rc : G'.root (c + 1) = c + 1
  rp : G'.root (p + 1) = G.root (c + 1)
  ne : G.root (c + 1) ≠ c + 1
  size : G'.sub (G.root (c + 1)) = G.sub (G.root (c + 1)) - G.sub (c + 1)
  up : G'.up (c + 1) = 0
  lk : linkOk G' (c : Int) (p : Int) = true
  lg : linkG G' (c : Int) (p : Int) = G
  nl : linkOk G (c : Int) (p : Int) = false
  ng : linkG G (c : Int) (p : Int) = G
  gp : G.root (p + 1) = G.root (c + 1)
  pn : p < n
theorem Full.cut (F : Full G n) {c p : Nat} (hc : c < n) (hu : G.up (c + 1) = p + 1) : Cutd G n c p (G.cut (c + 1)) := by
  have hct := F.th (c + 1) (by omega) (by omega)
  have hp0 : G.up (c + 1) ≠ 0 := by omega
  have hpt := F.ok.par (c + 1) hct hp0
  have L := ct_lk F.ok hct hp0
  have hap := ct_above_par F.ok hct hp0
  have hsb := ct_sub F.ok hct hp0
  rw [hu] at hpt L hap hsb
  have hpr := F.ok.rng (p + 1) hpt
  have hpn : p < n := by have := F.sz; omega
  have hcp : c + 1 ∉ G.above (p + 1) := by
    have := L.n
    rw [hap] at this
    exact this
  have F' : Full (G.cut (c + 1)) n := ⟨L.ok, F.sz, F.th⟩
  have hok : cutOk G (c : Int) = true := by
    unfold cutOk
    rw [F.par c hc, hu]
    exact decide_eq_true_iff.2 (by omega)
  have hmem : p + 1 ∈ G.above (c + 1) := by
    rw [F.ok.above_cons _ hct, hu]
    exact List.mem_cons_of_mem _ (F.ok.self _ hpt)
  have hgp : G.root (p + 1) = G.root (c + 1) := (root_mem F.ok hct hmem).symm
  have hrt := root_bd F.ok (p + 1) hpt
  have hrp : (G.cut (c + 1)).root (p + 1) = G.root (c + 1) := by
    rw [← hgp]
    unfold Fo.root
    rw [hap]
  have hlk := linkOk_of (by rw [show (G.cut (c + 1)).n = G.n from rfl, F.sz]; exact hc) (by rw [show (G.cut (c + 1)).n = G.n from rfl, F.sz]; exact hpn) L
  have hnl : linkOk G (c : Int) (p : Int) = false := by
    unfold linkOk
    rw [F.par c hc, hu]
    have : decide ((((p + 1 : Nat) : Int) - 1) < 0) = false := decide_eq_false_iff_not.2 (by omega)
    rw [this]
    simp
  refine ⟨F', hok, ?_, ?_, ?_, root_of_top L.ok hct L.r, hrp, fun e => ?_, ?_, L.r, hlk, ?_, hnl, ?_, hgp, hpn⟩
  · unfold cutG
    rw [if_pos hok, Int.toNat_natCast]
  · have := (hsb (c + 1)).1
    rw [if_neg hcp] at this
    omega
  · have := (hsb (c + 1)).2
    rw [if_neg hcp] at this
    omega
  · rw [← hgp] at e
    exact hcp (e ▸ hrt.2)
  · have := (hsb (G.root (c + 1))).1
    rw [if_pos (by rw [← hgp]; exact hrt.2)] at this
    exact this
  · unfold linkG
    rw [if_pos hlk, Int.toNat_natCast, Int.toNat_natCast]
    have := ct_link (G := G) (c := c + 1) hp0
    rw [hu] at this
    exact this
  · unfold linkG
    rw [if_neg (by rw [hnl]; simp)]
structure Linkd (G : Fo) (n c p : Nat) (G' : Fo) : Prop where
  full : Full G' n
  ok : linkOk G (c : Int) (p : Int) = true
  eq : linkG G (c : Int) (p : Int) = G'
  sub : G'.sub (c + 1) = G.sub (c + 1)
  ssum : G'.ssum (c + 1) = G.ssum (c + 1)
  up : G'.up (c + 1) = p + 1
  rp : G'.root (p + 1) = G.root (p + 1)
  size : G'.sub (G.root (p + 1)) = G.sub (G.root (p + 1)) + G.sub (c + 1)
  lca : lcaE G' (c : Int) (p : Int) = (p : Int)
theorem Full.link (F : Full G n) {c p : Nat} (hc : c < n) (hp : p < n) (hu : G.up (c + 1) = 0) (hs : G.root (p + 1) ≠ c + 1) : Linkd G n c p (G.link (c + 1) (p + 1)) := by
  have hct := F.th (c + 1) (by omega) (by omega)
  have hpt := F.th (p + 1) (by omega) (by omega)
  have hrt := root_bd F.ok (p + 1) hpt
  have hn : c + 1 ∉ G.above (p + 1) := fun hm => by
    have := root_mem F.ok hpt hm
    rw [root_of_top F.ok hct hu] at this
    exact hs this
  have L : LkOk G (c + 1) (p + 1) := ⟨F.ok, hct, hpt, hu, hn⟩
  have hlk := linkOk_of (by rw [F.sz]; exact hc) (by rw [F.sz]; exact hp) L
  have F' : Full (G.link (c + 1) (p + 1)) n := ⟨lk_ok L, F.sz, F.th⟩
  have hup : (G.link (c + 1) (p + 1)).up (c + 1) = p + 1 := by
    show (if c + 1 = c + 1 then p + 1 else G.up (c + 1)) = p + 1
    rw [if_pos rfl]
  have hap : (G.link (c + 1) (p + 1)).above (p + 1) = G.above (p + 1) := by rw [lk_above L _ hpt, if_neg hn]
  have hac : (G.link (c + 1) (p + 1)).above (c + 1) = (c + 1) :: G.above (p + 1) := by rw [F'.ok.above_cons _ (F'.th _ (by omega) (by omega)), hup, hap]
  have hrp : (G.link (c + 1) (p + 1)).root (p + 1) = G.root (p + 1) := by unfold Fo.root; rw [hap]
  have hmem : p + 1 ∈ (G.link (c + 1) (p + 1)).above (c + 1) := by rw [hac]; exact List.mem_cons_of_mem _ (F.ok.self _ hpt)
  have hrc := root_mem F'.ok (F'.th (c + 1) (by omega) (by omega)) hmem
  refine ⟨F', hlk, ?_, ?_, ?_, hup, hrp, ?_, ?_⟩
  · unfold linkG
    rw [if_pos hlk, Int.toNat_natCast, Int.toNat_natCast]
  · rw [(lk_sub L (c + 1)).1, if_neg hn]; omega
  · rw [(lk_sub L (c + 1)).2, if_neg hn]; omega
  · rw [(lk_sub L _).1, if_pos hrt.2]
  · unfold lcaE
    rw [F'.same c p hc hp, decide_eq_true_iff.2 hrc, if_pos rfl, Int.toNat_natCast, Int.toNat_natCast]
    have : (G.link (c + 1) (p + 1)).lca (c + 1) (p + 1) = p + 1 := by
      refine lca_of (l1 := []) (l2 := G.above (G.up (p + 1))) ?_ hmem (by simp)
      rw [hap, F.ok.above_cons _ hpt]
      rfl
    rw [this]
    omega
theorem Full.linkNo (F : Full G n) {c p : Nat} (hc : c < n) (hp : p < n) (hu : G.up (c + 1) = 0) (hs : G.root (p + 1) = c + 1) : linkOk G (c : Int) (p : Int) = false ∧ linkG G (c : Int) (p : Int) = G := by
  have hct := F.th (c + 1) (by omega) (by omega)
  have h : linkOk G (c : Int) (p : Int) = false := by
    unfold linkOk
    rw [F.same c p hc hp, root_of_top F.ok hct hu, hs, decide_eq_true_iff.2 rfl]
    simp
  exact ⟨h, by unfold linkG; rw [if_neg (by rw [h]; simp)]⟩
end
end Go.Proofs.Ytaipladbgdcedaa
