/- The walk of Check, and the contracts that the laws use. No condition of its own. -/
import Derived.Test.YtaipladbgdcedaaMi
set_option linter.unusedSimpArgs false
set_option linter.unusedVariables false
namespace Go.Proofs.Ytaipladbgdcedaa
open Go.RowKit

set_option maxRecDepth 100000 in
set_option maxHeartbeats 4000000 in
theorem Check_any (w : World) (F A m : Nat) (G : Fo) (h : LF w F A m G) : Calls Try.prog 24 #[.pointer (some ⟨F, 0, none⟩)] w fun e w' => e = .returned (.bool true) ∧ LPost w F A m G w' := by
  obtain ⟨st, Ps, h1, hI⟩ := h
  have hs := h1.small
  have hm := hI.m
  have hn := hI.ok.small
  have hz := hI.bd.zero
  have hm0 : 0 < m := by omega
  have NZ : NB w A Nd.zero := by
    have c := fun j (hj : j < 15) => h1.at 0 j hm0 hj
    simp only [Nat.zero_mul, Nat.zero_add, hz] at c
    exact ⟨c 0 (by omega), c 1 (by omega), c 2 (by omega), c 3 (by omega), c 4 (by omega), c 5 (by omega), c 6 (by omega), c 7 (by omega), c 8 (by omega), c 9 (by omega), c 10 (by omega), c 11 (by omega), c 12 (by omega), c 13 (by omega), c 14 (by omega)⟩
  obtain ⟨z0, z1, z2, z3, z4, z5, z6, z7, z8, z9, z10, z11, z12, z13, z14⟩ := NZ
  have c0 := h1.c0
  obtain ⟨hF, hA⟩ := h1.lt
  have hm2 : m ≤ 101 := by omega
  have HM := Lib.hid hm
  have H1 := Lib.hid h1
  have HI := Lib.hid hI
  simp only [Nd.zero] at z0 z1 z2 z3 z4 z5 z6 z7 z8 z9 z10 z11 z12 z13 z14
  clear h1 hI hz hm hn
  go_enter Try.func24, Try.ntmps24
  go_wp2_with fail
  refine reg3 _ _ _ _ _ _ _ _ _ _ _ _ _ _ _ _ _ _ _ _ _ _ _ _ _ _ _ _ _ _ _ _ _ _ _ _ _ _ _ _ _ _ _ _ _ _ _ _ _ _ _ _ _ _ _ _ _ _ _ _ _ _ _ _ _ _ _ _ _ _ _ _ _ _ _ _ _ _ _ _ _ _ _ _ _ _ _ _ _ _ _ _ _ _ _ _ _ _ _ _ _ _ _ _ _ _ _ _ _ _ _ _ _ _ _ _ _ _ _ _ _ _ _ _ _ _ _ _ _ _ _ _ _ _ _ _ _ _ _ _ _ _ _ _ _ _ _ _ _ _ _ _ _ _ _ _ _ _ _ _ _ _ _ _ _ _ _ _ _ _ _ _ _ _ _ _ _ _ _ _ _ _ _ _ _ _ _ _ _ _ _ _ _ _ _ _ _ _ _ _ _ _ _ _ _ _ _ _ _ _ _ _ _ _ _ _ _ _ _ _ _ _ _ _ _ _ _ _ _ _ _ _ _ _ _ _ _ _ _ F A m st G w H1.out hm2 HI.out.ok _ (fun k3 k4 k23 k24 k25 k26 k27 k28 k29 k30 k31 k32 k33 k34 wx hcut => ?_)
  obtain ⟨V1, V2, rfl, rfl, hC⟩ := hcut
  clear z0 z1 z2 z3 z4 z5 z6 z7 z8 z9 z10 z11 z12 z13 z14 c0 
  have HC := Lib.hid hC
  clear hC
  go_wp2_with fail
  go_loopw [5] (fun x wr => ∃ x1 : Nat, x = .int .i64 (x1 : Int) ∧ 1 ≤ x1 ∧ x1 ≤ m ∧ CK w wr F A m st V1 V2 (hungOf st G (fun x => (st x).tn) x1) (hungOf st G (fun x => (st x).ts) x1)) (fun x _ => (m - (intOf x).toNat))
  case atStart => exact ⟨1, rfl, by omega, by omega, HC.out⟩
  case round =>
    obtain ⟨x, rfl, hx1, hxm, hK⟩ := hrel
    obtain ⟨hF2, hA2⟩ := hK.fr.lt
    have c0 := hK.fr.c0
    have n1 : F ≠ V1 := by have := hK.f1; have := hK.hF; omega
    have n2 : A ≠ V1 := by have := hK.f1; have := hK.hA; omega
    have n3 : F ≠ V2 := by have := hK.f2; have := hK.hF; omega
    have n4 : A ≠ V2 := by have := hK.f2; have := hK.hA; omega
    have n5 : V1 ≠ V2 := hK.ne
    by_cases hx : m = x
    · have hxb : decide ((x : Int) < (m : Int)) = false := decide_eq_false_iff_not.2 (by omega)
      subst hx
      have HK := Lib.hid hK
      clear hK n1 n2 n3 n4
      go_wp2_with fail
      go_loopw [6, 7, 8, 9, 10] (fun x _ _ _ _ wr => ∃ x1 : Nat, x = .int .i64 (x1 : Int) ∧ 1 ≤ x1 ∧ x1 ≤ m ∧ CK w wr F A m st V1 V2 (hungOf st G (fun x => (st x).tn) m) (hungOf st G (fun x => (st x).ts) m)) (fun x _ _ _ _ _ => (m - (intOf x).toNat))
      case atStart => exact ⟨1, rfl, by omega, by omega, HK.out⟩
      case round =>
        clear HK HC hF2 hA2 hxb hxm hx1 c0
        obtain ⟨x, rfl, hx1, hxm, hK⟩ := hrel
        obtain ⟨hF2, hA2⟩ := hK.fr.lt
        have c0 := hK.fr.c0
        by_cases hx : m = x
        · have hxb : decide ((x : Int) < (m : Int)) = false := decide_eq_false_iff_not.2 (by omega)
          subst hx
          have HE := Lib.hid (show LPost w F A m G _ from ⟨⟨st, Ps, hK.fr, HI.out⟩, hK.t.mono (by simp)⟩)
          clear hK
          go_wp2_with fail
          go_ret
          exact ⟨rfl, HE.out⟩
        · have hxb : decide ((x : Int) < (m : Int)) = true := decide_eq_true_iff.2 (by omega)
          have hx2 : x < m := by omega
          obtain ⟨k1, k2, k3⟩ := kids_lt HI.out x hx2
          have hth := HI.out.th x
          have fxl := hK.fr.at_l x hx2; have fxr := hK.fr.at_r x hx2; have fxp := hK.fr.at_p x hx2; have fxrev := hK.fr.at_rev x hx2; have fxw := hK.fr.at_w x hx2; have fxadd := hK.fr.at_add x hx2; have fxc := hK.fr.at_c x hx2; have fxs := hK.fr.at_s x hx2; have fxmn := hK.fr.at_mn x hx2; have fxmx := hK.fr.at_mx x hx2; have fxvn := hK.fr.at_vn x hx2; have fxvs := hK.fr.at_vs x hx2; have fxtn := hK.fr.at_tn x hx2; have fxts := hK.fr.at_ts x hx2; have fxth := hK.fr.at_th x hx2
          obtain ⟨B, hB⟩ : ∃ B, B = (st x).th := ⟨_, rfl⟩
          have hX := node_made wr (st x)
          have hK1 := fun o : Obj => hK.on ((Tch.refl [] wr).new o)
          have nn := fun h => nok HI.out x h
          rw [← hB] at fxth hth hX
          have HB := Lib.hid hB
          have HTH := Lib.hid hth
          have HK1 := Lib.hid hK1
          have HX := Lib.hid hX
          have HN := Lib.hid nn
          clear hB hth hK hX hK1 hx nn
          cases B with
          | false =>
            go_wp2_with fail
            go_roundw
            case rel => exact ⟨x + 1, by simp, by omega, by omega, HK1.out _⟩
            case measure => simp [intOf]; omega
          | true =>
            go_wp2_with fail
            have hX := HX.out
            have hK := HK1.out (.cells #[.int .i64 (st x).l, .int .i64 (st x).r, .int .i64 (st x).p, .bool (st x).rev, .int .i64 (st x).w, .int .i64 (st x).add, .int .i64 (st x).c, .int .i64 (st x).s, .int .i64 (st x).mn, .int .i64 (st x).mx, .int .i64 (st x).vn, .int .i64 (st x).vs, .int .i64 (st x).tn, .int .i64 (st x).ts, .bool true] 65)
            have hsz := Nat.ne_of_lt hA2
            have hsf := Nat.ne_of_lt hF2
            clear HX HK1 fxl fxr fxp fxrev fxw fxadd fxc fxs fxmn fxmx fxvn fxvs fxtn fxts fxth c0 hF2 hA2
            generalize wr.alloc (.cells _ 65) = w1 at hX hK ⊢
            generalize wr.heap.size = X at hX hsz hsf ⊢
            obtain ⟨hF2, hA2⟩ := hK.fr.lt
            have c0 := hK.fr.c0
            have hXl := hX.lt
            have HX := Lib.hid hX
            have NX := nb_of hX
            have x0 := NX.l
            have x1 := NX.r
            have HK := Lib.hid hK
            have HNX := Lib.hid NX
            clear hX NX hK
            obtain ⟨l, hl⟩ : ∃ l, l = (st x).l := ⟨_, rfl⟩
            obtain ⟨r, hr⟩ : ∃ r, r = (st x).r := ⟨_, rfl⟩
            rw [← hl] at x0 k1
            rw [← hr] at x1 k2
            have HL := Lib.hid hl
            have HR := Lib.hid hr
            clear hl hr
            refine reg15 _ _ _ _ _ _ _ _ _ _ _ _ _ _ _ _ _ _ _ _ _ _ _ _ _ _ _ _ _ _ _ _ _ _ _ _ _ _ _ _ _ _ _ _ _ _ _ _ _ _ _ _ _ _ _ _ _ _ _ _ _ _ _ _ _ _ _ _ _ _ _ _ _ _ _ _ _ _ _ _ _ _ _ _ _ _ _ _ _ _ _ _ _ _ _ _ _ _ _ _ _ _ _ _ _ _ _ _ _ _ _ _ _ _ _ _ _ _ _ _ _ _ _ _ _ _ _ _ _ _ _ _ _ _ _ _ _ _ _ _ _ _ _ _ _ _ _ _ _ _ _ _ _ _ _ _ _ _ _ _ _ _ _ _ _ _ _ _ _ _ _ _ _ _ _ _ _ _ _ _ _ _ _ _ _ _ _ _ _ _ _ _ _ _ _ _ _ _ _ _ _ _ _ _ _ _ _ _ _ _ _ _ _ _ _ _ _ _ _ _ _ _ _ _ _ _ _ _ _ _ _ _ _ _ _ _ _ _ F A X m l r st w1 HK.out.fr k1 k2 x0 x1 hXl _ (fun k8 k9 k129 k130 k131 k132 k133 k134 k135 k136 k137 k138 k139 k140 k141 k142 k143 k144 wx hcut => ?_)
            obtain ⟨L, R, rfl, rfl, hL, hR, hT⟩ := hcut
            clear x0 x1 c0 hF2 hA2 hXl
            have hK := HK.out.on hT
            have hX := hT.blk HX.out (by simp)
            have N : NOk st x := HN.out HTH.out.symm
            have HU := hung_all HI.out x HTH.out.symm
            obtain ⟨v1, hv1⟩ : ∃ v, v = (st x).vn := ⟨_, rfl⟩
            obtain ⟨v2, hv2⟩ : ∃ v, v = (st x).vs := ⟨_, rfl⟩
            have g1 : wx.cell? ⟨V1, x, none⟩ = some (.int .i64 v1) := (hK.b1.cell x hx2).trans (by rw [HU.1, hv1])
            have g2 : wx.cell? ⟨V2, x, none⟩ = some (.int .i64 v2) := (hK.b2.cell x hx2).trans (by rw [HU.2, hv2])
            have zV1 := hK.b1.lt
            have zV2 := hK.b2.lt
            have zX := hX.lt
            have zL := hL.lt
            have zR := hR.lt
            have x0 : wx.cell? ⟨X, 0, none⟩ = some (.int .i64 (l : Int)) := by rw [HL.out]; exact (nb_of hX).l
            have x1 : wx.cell? ⟨X, 1, none⟩ = some (.int .i64 (r : Int)) := by rw [HR.out]; exact (nb_of hX).r
            have x10 : wx.cell? ⟨X, 10, none⟩ = some (.int .i64 v1) := by rw [hv1]; exact (nb_of hX).vn
            have x11 : wx.cell? ⟨X, 11, none⟩ = some (.int .i64 v2) := by rw [hv2]; exact (nb_of hX).vs
            have l2 := (nb_of hL).p
            have r2 := (nb_of hR).p
            have kl := N.kl
            have kr := N.kr
            rw [← HL.out] at kl
            rw [← HR.out] at kr
            have hsm := N.sm
            rw [← HL.out, ← HR.out] at hsm
            have htn := N.tn
            have hts := N.ts
            rw [← HL.out, ← HR.out] at htn hts
            have HK2 := Lib.hid hK
            have HX2 := Lib.hid hX
            have HL2 := Lib.hid hL
            have HR2 := Lib.hid hR
            have HSM := Lib.hid hsm
            have HTN := Lib.hid htn
            have HTS := Lib.hid hts
            have R16 := fun Q => reg16 (Q := Q) (V1 := V1) (V2 := V2) (X := X) (L := L) (R := R) (m := m) (x := x) (wc := wx) (hm := hm2) (hx := hx2) (x0 := x0) (x1 := x1) (x10 := x10) (x11 := x11) (l2 := l2) (r2 := r2) (g1 := g1) (g2 := g2) (zV1 := zV1) (zV2 := zV2) (zX := zX) (zL := zL) (zR := zR) (kl := kl) (kr := kr)
            have HR16 := Lib.hid R16
            clear hT hK hX hL hR HU hsm htn hts kl kr N hv1 hv2 HK HX HNX R16 g1 g2 zV1 zV2 zX zL zR x0 x1 x10 x11 l2 r2
            go_wp2_with fail
            refine HR16.out _ _ _ _ _ _ _ _ _ _ _ _ _ _ _ _ _ _ _ _ _ _ _ _ _ _ _ _ _ _ _ _ _ _ _ _ _ _ _ _ _ _ _ _ _ _ _ _ _ _ _ _ _ _ _ _ _ _ _ _ _ _ _ _ _ _ _ _ _ _ _ _ _ _ _ _ _ _ _ _ _ _ _ _ _ _ _ _ _ _ _ _ _ _ _ _ _ _ _ _ _ _ _ _ _ _ _ _ _ _ _ _ _ _ _ _ _ _ _ _ _ _ _ _ _ _ _ _ _ _ _ _ _ _ _ _ _ _ _ _ _ _ _ _ _ _ _ _ _ _ _ _ _ _ _ _ _ _ _ _ _ _ _ _ _ _ _ _ _ _ _ _ _ _ _ _ _ _ _ _ _ _ _ _ _ _ _ _ _ _ _ _ _ _ _ _ _ _ _ _ _ _ _ _ _ _ _ _ _ _ _ _ _ _ _ _ _ _ _ _ _ _ _ _ _ _ _ _ _ _ _ _ _ _ _ (fun k145 k146 k147 k148 k149 k150 k151 k152 k153 k154 k155 k156 k157 k158 k159 k160 k161 k162 k163 k164 k165 k166 k167 k168 k169 k170 k171 k172 k173 k174 k175 k176 k177 k178 k179 k180 k181 k182 wy hcut => ?_)
            obtain ⟨rfl, hT⟩ := hcut
            have hK := HK2.out.on hT
            have hX := hT.blk HX2.out (by simp)
            have hL := hT.blk HL2.out (by simp)
            have hR := hT.blk HR2.out (by simp)
            have HK3 := Lib.hid hK
            have HX3 := Lib.hid hX
            have HL3 := Lib.hid hL
            have HR3 := Lib.hid hR
            have hc18 : ∀ w', Tch [] wy w' → C18 w' X L R (st x) (st l) (st r) := fun w' t => c18_of (t.blk HX3.out (by simp)) (t.blk HL3.out (by simp)) (t.blk HR3.out (by simp))
            have HC18 := Lib.hid hc18
            clear hT hK hX hL hR HK2 HX2 HL2 HR2 hc18 HR16
            go_wp2_with fail
            refine reg18 _ _ _ _ _ _ _ _ _ _ _ _ _ _ _ _ _ _ _ _ _ _ _ _ _ _ _ _ _ _ _ _ _ _ _ _ _ _ _ _ _ _ _ _ _ _ _ _ _ _ _ _ _ _ _ _ _ _ _ _ _ _ _ _ _ _ _ _ _ _ _ _ _ _ _ _ _ _ _ _ _ _ _ _ _ _ _ _ _ _ _ _ _ _ _ _ _ _ _ _ _ _ _ _ _ _ _ _ _ _ _ _ _ _ _ _ _ _ _ _ _ _ _ _ _ _ _ _ _ _ _ _ _ _ _ _ _ _ _ _ _ _ _ _ _ _ _ _ _ _ _ _ _ _ _ _ _ _ _ _ _ _ _ _ _ _ _ _ _ _ _ _ _ _ _ _ _ _ _ _ _ _ _ _ _ _ _ _ _ _ _ _ _ _ _ _ _ _ _ _ _ _ _ _ _ _ _ _ _ _ _ _ _ _ _ _ _ _ _ _ _ _ _ _ _ _ _ _ _ _ _ _ _ _ _ _ _ X L R wy (st x) (st l) (st r) HC18.out HSM.out _ (fun k10 k183 k184 k185 k186 k187 k188 k189 k190 k191 k192 k193 k194 k195 k196 k197 wz hcut => ?_)
            obtain ⟨S, rfl, hS, hT⟩ := hcut
            have hX := hT.blk HX3.out (by simp)
            have hL := hT.blk HL3.out (by simp)
            have hR := hT.blk HR3.out (by simp)
            have hK := HK3.out.on hT
            obtain ⟨x0, x1, x2, x3, x4, x5, x6, x7, x8, x9, x10, x11, x12, x13, x14⟩ := nb_of hX
            have l12 := (nb_of hL).tn
            have l13 := (nb_of hL).ts
            have r12 := (nb_of hR).tn
            have r13 := (nb_of hR).ts
            have s0 : wz.cell? ⟨S, 0, none⟩ = some (.int .i64 (st x).c) := hS.cell 0 (by omega)
            have s1 : wz.cell? ⟨S, 1, none⟩ = some (.int .i64 (st x).s) := hS.cell 1 (by omega)
            have s2 : wz.cell? ⟨S, 2, none⟩ = some (.int .i64 (st x).mn) := hS.cell 2 (by omega)
            have s3 : wz.cell? ⟨S, 3, none⟩ = some (.int .i64 (st x).mx) := hS.cell 3 (by omega)
            have zS := hS.lt
            have zX := hX.lt
            have zL := hL.lt
            have zR := hR.lt
            rw [HTN.out] at x12
            rw [HTS.out] at x13
            have HK4 := Lib.hid hK
            clear hX hL hR hK hS hT x0 x1 x2 x3 x14
            go_wp2_with fail
            go_roundw
            case rel => exact ⟨x + 1, by simp, by omega, by omega, HK4.out⟩
            case measure => simp [intOf]; omega
    · have hxb : decide ((x : Int) < (m : Int)) = true := decide_eq_true_iff.2 (by omega)
      have hx2 : x < m := by omega
      obtain ⟨k1, k2, k3⟩ := kids_lt HI.out x hx2
      have fth := hK.fr.at_th x hx2
      have fp := hK.fr.at_p x hx2
      have ftn := hK.fr.at_tn x hx2
      have fts := hK.fr.at_ts x hx2
      have hth := HI.out.th x
      have hTOP := top_any wr F A m st hK.fr x hx2 k3
      obtain ⟨p, hp⟩ : ∃ p, p = (st x).p := ⟨_, rfl⟩
      obtain ⟨B, hB⟩ : ∃ B, B = (st x).th := ⟨_, rfl⟩
      obtain ⟨D, hD⟩ : ∃ D, D = topB st x := ⟨_, rfl⟩
      have fv1 := hK.b1.cell p (by omega)
      have fv2 := hK.b2.cell p (by omega)
      have bd := hung_bd HI.out x p (by omega)
      have hlt1 := hK.b1.lt
      have hlt2 := hK.b2.lt
      have fz1 := hK.b1.frozen
      have fz2 := hK.b2.frozen
      have HK := Lib.hid hK
      have HC0 := Lib.hid c0
      rw [← hp] at fp k3
      rw [← hB] at fth hth
      rw [← hD] at hTOP
      have HTOP := Lib.hid hTOP
      have HP := Lib.hid hp
      have HB := Lib.hid hB
      have HD := Lib.hid hD
      have HTH := Lib.hid hth
      clear hK hx k1 k2 hp hB hD hth hTOP
      cases B with
      | false =>
        clear bd ftn fts fv1 fv2 fz1 fz2
        go_wp2_with fail
        go_roundw
        case rel =>
          refine ⟨x + 1, by simp, by omega, by omega, ?_⟩
          have e := fun g => hung_skip (st := st) (G := G) g (x := x) (.inl HTH.out.symm)
          rw [e, e]
          exact HK.out
        case measure => simp [intOf]; omega
      | true =>
        by_cases hp0 : p = 0
        · have hpb : ((p : Int) != 0) = false := by rw [hp0]; simp
          have HP0 := Lib.hid hp0
          clear hp0
          clear bd ftn fts fv1 fv2 fz1 fz2
          go_wp2_with fail
          go_roundw
          case rel =>
            refine ⟨x + 1, by simp, by omega, by omega, ?_⟩
            have e := fun g => hung_skip (st := st) (G := G) g (x := x) (.inr (.inl (HP.out.symm.trans HP0.out)))
            rw [e, e]
            exact HK.out
          case measure => simp [intOf]; omega
        · have hpb : ((p : Int) != 0) = true := bne_iff_ne.2 (by omega)
          have HP0 := Lib.hid hp0
          clear hp0
          cases D with
          | false =>
            clear bd ftn fts fv1 fv2 fz1 fz2
            go_wp2_with (go_at_call 58; refine HTOP.out.mono ?_; rintro e w1 ⟨rfl, rfl⟩)
            go_roundw
            case rel =>
              refine ⟨x + 1, by simp, by omega, by omega, ?_⟩
              have e := fun g => hung_skip (st := st) (G := G) g (x := x) (.inr (.inr HD.out.symm))
              rw [e, e]
              exact HK.out
            case measure => simp [intOf]; omega
          | true =>
            have tb := top_bd HI.out x HTH.out.symm HD.out.symm
            have ha1 := fun y => hung_add (st := st) (G := G) (fun x => (st x).tn) (x := x) HTH.out.symm (by rw [← HP.out]; exact HP0.out) HD.out.symm y
            have ha2 := fun y => hung_add (st := st) (G := G) (fun x => (st x).ts) (x := x) HTH.out.symm (by rw [← HP.out]; exact HP0.out) HD.out.symm y
            rw [← HP.out] at ha1 ha2
            have HA1 := Lib.hid ha1
            have HA2 := Lib.hid ha2
            obtain ⟨q1, hq1⟩ : ∃ q, q = hungOf st G (fun x => (st x).tn) x p := ⟨_, rfl⟩
            obtain ⟨q2, hq2⟩ : ∃ q, q = hungOf st G (fun x => (st x).ts) x p := ⟨_, rfl⟩
            obtain ⟨t1, ht1⟩ : ∃ q, q = (st x).tn := ⟨_, rfl⟩
            obtain ⟨t2, ht2⟩ : ∃ q, q = (st x).ts := ⟨_, rfl⟩
            rw [← hq1] at fv1 bd
            rw [← hq2] at fv2 bd
            rw [← ht1] at ftn tb
            rw [← ht2] at fts tb
            obtain ⟨⟨bd1, bd2⟩, bd3, bd4⟩ := bd
            obtain ⟨⟨tb1, tb2⟩, tb3, tb4⟩ := tb
            have b1 : -9223372036854775808 ≤ q1 + t1 ∧ q1 + t1 ≤ 9223372036854775807 := by omega
            have b2 : -9223372036854775808 ≤ q2 + t2 ∧ q2 + t2 ≤ 9223372036854775807 := by omega
            have HQ := Lib.hid (And.intro hq1 (And.intro hq2 (And.intro ht1 ht2)))
            clear ha1 ha2 hq1 hq2 ht1 ht2 bd1 bd2 bd3 bd4 tb1 tb2 tb3 tb4
            go_wp2_with (go_at_call 58; refine HTOP.out.mono ?_; rintro e w1 ⟨rfl, rfl⟩)
            refine region_any (.takes [0, 1, 2, 3, 4, 5, 6, 7, 8, 9, 10, 11, 12, 13, 14, 15, 16, 17, 18, 19, 20] (.fork 21 [] .done .none)) (by kernel_rfl) (by kernel_rfl) rfl ?_
            go_wp2_with first | (with_reducible exact wpE_none) | (with_reducible refine wpE_takes_nil ?_) | (with_reducible refine wpE_done ?_) | (refine wpE_take rfl rfl (fun _ _ => ?_)) | (refine wpE_skip rfl rfl ?_) | (refine wpE_fork rfl rfl (fun _ _ => ?_) ?_) | (with_reducible exact agains_nil) | (refine agains_cons rfl (fun _ => ?_) ?_) | (with_reducible refine wpE_same ?_) | (refine And.intro (rfl : (_ : World) = _) ?_) | (with_reducible refine wpE_and ?_ ?_)
            refine region_any (.takes [0, 1, 2, 3, 4, 5, 6, 7, 8, 9, 10, 11, 12, 13, 14, 15, 16, 17, 18, 19, 20] (.fork 21 [] .done .none)) (by kernel_rfl) (by kernel_rfl) rfl ?_
            go_wp2_with first | (with_reducible exact wpE_none) | (with_reducible refine wpE_takes_nil ?_) | (with_reducible refine wpE_done ?_) | (refine wpE_take rfl rfl (fun _ _ => ?_)) | (refine wpE_skip rfl rfl ?_) | (refine wpE_fork rfl rfl (fun _ _ => ?_) ?_) | (with_reducible exact agains_nil) | (refine agains_cons rfl (fun _ => ?_) ?_) | (with_reducible refine wpE_same ?_) | (refine And.intro (rfl : (_ : World) = _) ?_) | (with_reducible refine wpE_and ?_ ?_)
            go_roundw
            case rel =>
              refine ⟨x + 1, by simp, by omega, by omega, ?_⟩
              have X := ((HK.out.set1 p (q1 + t1) p rfl).set2 p (q2 + t2) p rfl).eq (u3 := hungOf st G (fun x => (st x).tn) (x + 1)) (u4 := hungOf st G (fun x => (st x).ts) (x + 1)) (fun y => by rw [HA1.out y, HQ.out.1, HQ.out.2.2.1]) (fun y => by rw [HA2.out y, HQ.out.2.1, HQ.out.2.2.2])
              first | exact X | exact X.drew | exact X.drew.drew
            case measure => simp [intOf]; omega
end Go.Proofs.Ytaipladbgdcedaa
namespace Go.Proofs.Ytaipladbgdcedaa
open Go.RowKit

section
variable {w : World} {F A m : Nat} {G : Fo}
theorem Add_at (h : LF w F A m G) (v z : Int) (b : Bool) (G' : Fo) (hb : addOk G v z = b) (hG : addG G v z = G') : Calls Try.prog 26 #[.pointer (some ⟨F, 0, none⟩), .int .i64 v, .int .i64 z] w fun e w' => e = .returned (.bool b) ∧ LPost w F A m G' w' := by
  subst hb hG
  exact Add_any w F A m G h v z
theorem Set_at (h : LF w F A m G) (v z : Int) (b : Bool) (G' : Fo) (hb : setOk G v z = b) (hG : setG G v z = G') : Calls Try.prog 30 #[.pointer (some ⟨F, 0, none⟩), .int .i64 v, .int .i64 z] w fun e w' => e = .returned (.bool b) ∧ LPost w F A m G' w' := by
  subst hb hG
  exact Set_any w F A m G h v z
theorem Evert_at (h : LF w F A m G) (v : Int) (b : Bool) (G' : Fo) (hb : hasB G v = b) (hG : evG G v = G') : Calls Try.prog 19 #[.pointer (some ⟨F, 0, none⟩), .int .i64 v] w fun e w' => e = .returned (.bool b) ∧ LPost w F A m G' w' := by
  subst hb hG
  exact Evert_any w F A m G h v
theorem Link_at (h : LF w F A m G) (c p : Int) (b : Bool) (G' : Fo) (hb : linkOk G c p = b) (hG : linkG G c p = G') : Calls Try.prog 27 #[.pointer (some ⟨F, 0, none⟩), .int .i64 c, .int .i64 p] w fun e w' => e = .returned (.bool b) ∧ LPost w F A m G' w' := by
  subst hb hG
  exact Link_any w F A m G h c p
theorem Cut_at (h : LF w F A m G) (c : Int) (b : Bool) (G' : Fo) (hb : cutOk G c = b) (hG : cutG G c = G') : Calls Try.prog 32 #[.pointer (some ⟨F, 0, none⟩), .int .i64 c] w fun e w' => e = .returned (.bool b) ∧ LPost w F A m G' w' := by
  subst hb hG
  exact Cut_any w F A m G h c
theorem Drop_at (h : LF w F A m G) (v : Int) (b : Bool) (G' : Fo) (hb : dropOk G v = b) (hG : dropG G v = G') : Calls Try.prog 33 #[.pointer (some ⟨F, 0, none⟩), .int .i64 v] w fun e w' => e = .returned (.bool b) ∧ LPost w F A m G' w' := by
  subst hb hG
  exact Drop_any w F A m G h v
theorem PathAdd_at (h : LF w F A m G) (a c z : Int) (b : Bool) (G' : Fo) (hb : pathAddOk G a c z = b) (hG : pathAddG G a c z = G') : Calls Try.prog 28 #[.pointer (some ⟨F, 0, none⟩), .int .i64 a, .int .i64 c, .int .i64 z] w fun e w' => e = .returned (.bool b) ∧ LPost w F A m G' w' := by
  subst hb hG
  exact PathAdd_any w F A m G h a c z
theorem Has_at (h : LF w F A m G) (v : Int) (b : Bool) (hb : hasB G v = b) : Calls Try.prog 31 #[.pointer (some ⟨F, 0, none⟩), .int .i64 v] w fun e w' => e = .returned (.bool b) ∧ LPost w F A m G w' := by
  subst hb
  refine (has_any w F A m G h v).mono ?_
  rintro e w' ⟨rfl, rfl⟩
  exact ⟨rfl, h, Tch.refl _ _⟩
theorem Root_at (h : LF w F A m G) (v z : Int) (hz : rootE G v = z) : Calls Try.prog 20 #[.pointer (some ⟨F, 0, none⟩), .int .i64 v] w fun e w' => e = .returned (.int .i64 z) ∧ LPost w F A m G w' := by
  subst hz
  exact Root_any w F A m G h v
theorem Parent_at (h : LF w F A m G) (v z : Int) (hz : parE G v = z) : Calls Try.prog 21 #[.pointer (some ⟨F, 0, none⟩), .int .i64 v] w fun e w' => e = .returned (.int .i64 z) ∧ LPost w F A m G w' := by
  subst hz
  exact Parent_any w F A m G h v
theorem Same_at (h : LF w F A m G) (a c : Int) (b : Bool) (hb : sameB G a c = b) : Calls Try.prog 17 #[.pointer (some ⟨F, 0, none⟩), .int .i64 a, .int .i64 c] w fun e w' => e = .returned (.bool b) ∧ LPost w F A m G w' := by
  subst hb
  exact Same_any w F A m G h a c
theorem Lca_at (h : LF w F A m G) (a c z : Int) (hz : lcaE G a c = z) : Calls Try.prog 22 #[.pointer (some ⟨F, 0, none⟩), .int .i64 a, .int .i64 c] w fun e w' => e = .returned (.int .i64 z) ∧ LPost w F A m G w' := by
  subst hz
  exact Lca_any w F A m G h a c
theorem Get_at (h : LF w F A m G) (v z : Int) (b : Bool) (hz : getE G v = z) (hb : hasB G v = b) : Calls Try.prog 29 #[.pointer (some ⟨F, 0, none⟩), .int .i64 v] w fun e w' => e = .returned (.tuple #[.int .i64 z, .bool b]) ∧ LPost w F A m G w' := by
  subst hz hb
  exact Get_any w F A m G h v
theorem Sub_at (h : LF w F A m G) (v c z : Int) (b : Bool) (hc : subC G v = c) (hz : subW G v = z) (hb : hasB G v = b) : Calls Try.prog 23 #[.pointer (some ⟨F, 0, none⟩), .int .i64 v] w fun e w' => e = .returned (.tuple #[.int .i64 c, .int .i64 z, .bool b]) ∧ LPost w F A m G w' := by
  subst hc hz hb
  exact Sub_any w F A m G h v
theorem Size_at (h : LF w F A m G) (v z : Int) (hz : sizeE G v = z) : Calls Try.prog 16 #[.pointer (some ⟨F, 0, none⟩), .int .i64 v] w fun e w' => e = .returned (.int .i64 z) ∧ LPost w F A m G w' := by
  subst hz
  exact Size_any w F A m G h v
theorem Path_at (h : LF w F A m G) (a c : Int) (q0 q1 q2 q3 : Int) (b : Bool) (hq : sumE G a c = ⟨q0, q1, q2, q3⟩) (hb : sameB G a c = b) : Calls Try.prog 18 #[.pointer (some ⟨F, 0, none⟩), .int .i64 a, .int .i64 c] w fun e w' => e = .returned (.tuple #[.agg #[.int .i64 q0, .int .i64 q1, .int .i64 q2, .int .i64 q3], .bool b]) ∧ LPost w F A m G w' := by
  have K := Path_any w F A m G h a c
  rw [hq, hb] at K
  exact K
theorem Check_at (h : LF w F A m G) : Calls Try.prog 24 #[.pointer (some ⟨F, 0, none⟩)] w fun e w' => e = .returned (.bool true) ∧ LPost w F A m G w' := Check_any w F A m G h
set_option maxRecDepth 100000 in
set_option maxHeartbeats 1000000 in
theorem Check_nil (w : World) : Calls Try.prog 24 #[.pointer none] w fun e w' => e = .returned (.bool false) ∧ w = w' := by
  go_enter Try.func24, Try.ntmps24
  go_wp2
  go_ret
  exact ⟨rfl, rfl⟩
end
/-- What a call leaves that owns the block it writes. -/
theorem tch_own {w w1 w2 : World} {A : Nat} (h : Tch [] w w1) (k : Tch [A] w1 w2) (hA : w.heap.size ≤ A) : Tch [] w w2 := by
  refine ⟨k.os.trans h.os, k.tape.trans h.tape, k.output.trans h.output, Nat.le_trans h.size k.size, fun b hb _ => ?_⟩
  have h1 := h.size
  exact (k.block b (by omega) (by simp; omega)).trans (h.block b hb (by simp))
end Go.Proofs.Ytaipladbgdcedaa
