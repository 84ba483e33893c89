/- LinkOrders holds: in whatever order its links are made, a forest is the same; under no condition. -/
import Derived.Test.YtaipladbgdcedaaOrd
import Derived.Test.YtaipladbgdcedaaRo
set_option linter.unusedSimpArgs false
set_option linter.unusedVariables false
namespace Go.Proofs.Ytaipladbgdcedaa
open Go.ChangeShapes Go.WideShapes Go.ChangeAt Go.RowKit

set_option maxRecDepth 100000 in
set_option maxHeartbeats 8000000 in
theorem orders_any (w : World) (aU : Option Addr) (LU cU : Nat) (fU : Nat → Int) (aW : Option Addr) (LW cW : Nat) (fW : Nat → Int) (hU : RowAt w .u8 aU LU fU) (hW : RowAt w .i16 aW LW fW) (a b : Nat) (ha : a ≤ 255) (hb : b ≤ 255) :
    Calls Try.prog 7 #[.slice aU LU cU, .slice aW LW cW, .agg #[.int .u8 a, .int .u8 b]] w fun e w' => e = .returned (.bool true) ∧ Below w.heap.size w w' := by
  obtain ⟨n, hn, hmin⟩ : ∃ n : Nat, n ≤ 30 ∧ min (LU : Int) 30 = (n : Int) := ⟨min LU 30, by omega, by omega⟩
  obtain ⟨G, hG⟩ : ∃ G, G = Gro n (qOf LU fU) (zOf LW fW) n := ⟨_, rfl⟩
  have FU : Full G n := by
    rw [hG]
    exact gro_full (by omega) (fun u hu => qOf_low LU fU u hu) (fun u => by have := zOf_in hW u; unfold InW; omega)
  have HGR := grown_any (w.alloc (.cells #[.int .u8 a, .int .u8 b] 41)) n (by omega) aU LU cU fU aW LW cW fW (hU.on ((Tch.refl [] w).new _)) (hW.on ((Tch.refl [] w).new _))
  rw [← hG] at HGR
  have HGR := Lib.hid HGR
  have HFU := Lib.hid FU
  have HGG := Lib.hid hG
  have HUU := Lib.hid hU
  have HWW := Lib.hid hW
  have HMIN := Lib.hid hmin
  clear hU hW hG FU
  go_enter Try.func7, Try.ntmps7
  go_upto_region 1 with (fail)
  go_cut [7] from 27 to 29 (fun v wx => v = .int .i64 (n : Int) ∧ wx = (w.alloc (.cells #[.int .u8 a, .int .u8 b] 41)))
  case first =>
    go_wp2_with fail
    all_goals
      go_meet
      exact ⟨congrArg (Value.int .i64) (by omega), rfl⟩
  obtain ⟨rfl, hwc⟩ := hcut
  subst hwc
  clear hmin
  go_wp2_with fail
  go_at_call 14
  refine HGR.out.mono ?_
  rintro e w1 ⟨F, A, rfl, h1, t1, gF, gA⟩
  have hbx := t1.blk (two_made w 41 (.int .u8 a) (.int .u8 b)) (by simp)
  have bx0 : w1.cell? ⟨w.heap.size, 0, none⟩ = some (.int .u8 a) := hbx.cell 0 (by omega)
  have bx1 : w1.cell? ⟨w.heap.size, 1, none⟩ = some (.int .u8 b) := hbx.cell 1 (by omega)
  have bxl := hbx.lt
  have gA : w.heap.size ≤ A := by rw [size_new] at gA; omega
  clear hbx bx0 bx1 bxl
  have T0 := Lib.hid t1
  have g0 : (w.alloc (.cells #[.int .u8 a, .int .u8 b] 41)).heap.size ≤ A := by assumption
  have hbx2 : ∀ w', Tch [] (w.alloc (.cells #[.int .u8 a, .int .u8 b] 41)) w' → w'.cell? ⟨w.heap.size, 0, none⟩ = some (.int .u8 a) ∧ w'.cell? ⟨w.heap.size, 1, none⟩ = some (.int .u8 b) ∧ w.heap.size < w'.heap.size := fun w' t => ⟨(t.blk (two_made w 41 (.int .u8 a) (.int .u8 b)) (by simp)).cell 0 (by omega), (t.blk (two_made w 41 (.int .u8 a) (.int .u8 b)) (by simp)).cell 1 (by omega), (t.blk (two_made w 41 (.int .u8 a) (.int .u8 b)) (by simp)).lt⟩
  have HBX2 := Lib.hid hbx2
  clear hbx2
  have T1 := Lib.hid (((Tch.refl [] w).new _).trans t1)
  have H1 := Lib.hid (show LPost w1 F A (n + 1) G w1 from ⟨h1, Tch.refl _ _⟩)
  have hlt := h1.lt
  clear h1 t1 HGR
  go_wp2_with fail
  go_at_call 25
  refine (new_any n (by omega) w1).mono ?_
  rintro e w2 ⟨F2, A2, rfl, h2, t2, g2F, g2A, hFA2⟩
  have hsz1 := T1.out.size
  have TT2 := Lib.hid (show Two (w.alloc (.cells #[.int .u8 a, .int .u8 b] 41)) w2 F A F2 A2 (n + 1) G (Fo.empty n) from ⟨H1.out.1.quiet t2, h2, T0.out.trans t2, g0, by have := T0.out.size; omega, by omega, by omega, by omega⟩)
  clear h2 t2
  by_cases hn0 : n = 0
  · have d1 : ((n : Int) == 0) = true := by rw [hn0]; rfl
    have d2 : decide (n = 0) = true := decide_eq_true_iff.2 hn0
    clear hn0
    go_wp2_with fail
    go_at_call 15
    refine (awake_any _).mono ?_
    rintro e wz ⟨rfl, t2⟩
    have HT := Lib.hid ((((Tch.refl [] w).new _).trans TT2.out.t).trans t2).nil
    clear t2
    go_wp2_with fail
    go_ret
    exact ⟨rfl, HT.out⟩
  have d1 : ((n : Int) == 0) = false := beq_eq_false_iff_ne.2 (by omega)
  have HZZ : Hid (∀ u, InW (zOf LW fW u)) := Lib.hid (fun u => by have := zOf_in HWW.out u; unfold InW; omega)
  obtain ⟨q, hq⟩ : ∃ q, q = qOf LU fU := ⟨_, rfl⟩
  obtain ⟨z, hz⟩ : ∃ z, z = zOf LW fW := ⟨_, rfl⟩
  have HQL : Hid (∀ u, 1 ≤ u → q u < u) := Lib.hid (fun u hu => by rw [hq]; exact qOf_low LU fU u hu)
  rw [← hz] at HZZ
  have hgg := HGG.out
  rw [← hq, ← hz] at hgg
  have HG2 := Lib.hid hgg
  have HQ := Lib.hid hq
  have HZ := Lib.hid hz
  clear hq hz hgg HGG
  have hnl : n ≤ LU := by have := HMIN.out; omega
  go_wp2_with fail
  go_loopw [10, 11, 12] (fun i _ _ wr => ∃ k : Nat, i = .int .i64 (k : Int) ∧ k ≤ n ∧ Two (w.alloc (.cells #[.int .u8 a, .int .u8 b] 41)) wr F A F2 A2 (n + 1) G (Gro n (fun _ => 0) z k)) (fun i _ _ _ => n - (intOf i).toNat)
  case atStart => exact ⟨0, rfl, by omega, by rw [gro_none]; exact TT2.out⟩
  case round =>
    obtain ⟨k, rfl, hk, hT⟩ := hrel
    have TT3 := Lib.hid hT
    have HBX3 := Lib.hid (fun (h : True) => hT.t)
    clear hT TT2
    by_cases hkn : k = n
    · have d3 : decide ((k : Int) < (n : Int)) = false := decide_eq_false_iff_not.2 (by omega)
      have tt := TT3.out
      rw [hkn, ord_none (q := q)] at tt
      rw [hkn]
      have d3n : decide ((n : Int) < (n : Int)) = false := decide_eq_false_iff_not.2 (by omega)
      have TT4 := Lib.hid tt
      clear tt TT3 hkn d3 hk
      go_wp2_with fail
      go_loopw [13] (fun i wr => ∃ k : Nat, i = .int .i64 (k : Int) ∧ k < n ∧ Two (w.alloc (.cells #[.int .u8 a, .int .u8 b] 41)) wr F A F2 A2 (n + 1) G (Gro n (ordQ q (k + 2)) z n)) (fun i _ => (intOf i).toNat)
      case atStart => exact ⟨n - 1, congrArg (Value.int .i64) (by omega), by omega, by rw [show n - 1 + 2 = n + 1 by omega]; exact TT4.out⟩
      case round =>
        obtain ⟨k, rfl, hk, hT⟩ := hrel
        have TT5 := Lib.hid hT
        clear hT TT4
        by_cases hk0 : k = 0
        · have d3 : decide (0 < (k : Int)) = false := decide_eq_false_iff_not.2 (by omega)
          have d3n : decide (0 < k) = false := decide_eq_false_iff_not.2 (by omega)
          have tt := TT5.out
          rw [hk0] at tt
          have hq1 : q 1 = 0 := by rw [HQ.out]; unfold qOf; rw [if_neg (by omega)]
          rw [ord_all hq1, ← HG2.out] at tt
          have TT6 := Lib.hid tt
          clear tt TT5 hq1 hk0
          have hmodc : (a : Int) % (n : Int) = ((a % n : Nat) : Int) := by omega
          have hcn : a % n < n := Nat.mod_lt a (by omega)
          have hmodd : (b : Int) % (n : Int) = ((b % n : Nat) : Int) := by omega
          have hdn : b % n < n := Nat.mod_lt b (by omega)
          have bx0 := (HBX2.out wr TT6.out.t).1
          have bx1 := (HBX2.out wr TT6.out.t).2.1
          have bxl := (HBX2.out wr TT6.out.t).2.2
          go_wp2_with fail
          go_quiet (fail)
          go_wp2_with fail
          rw [hmodc, hmodd]
          generalize a % n = c at *
          generalize b % n = d at *
          clear hmodc hmodd bx0 bx1 bxl
          generalize hwd : World.drewN wr _ = w7
          have TT7 := Lib.hid (show Two (w.alloc (.cells #[.int .u8 a, .int .u8 b] 41)) w7 F A F2 A2 (n + 1) G G from by rw [← hwd]; exact TT6.out.on ((Tch.refl _ _).drewN _))
          clear hwd TT6 d3 d3n
          go_wp2_with fail
          go_loopw [16, 17, 18, 19, 20, 21, 22] (fun i _ _ _ _ _ _ wr => ∃ k : Nat, i = .int .i64 (k : Int) ∧ k ≤ n ∧ Two (w.alloc (.cells #[.int .u8 a, .int .u8 b] 41)) wr F A F2 A2 (n + 1) G G) (fun i _ _ _ _ _ _ _ => n - (intOf i).toNat)
          case atStart => exact ⟨0, rfl, by omega, TT7.out⟩
          case round =>
            obtain ⟨k, rfl, hk, hT⟩ := hrel
            have TT8 := Lib.hid hT
            clear hT TT7
            by_cases hkn : k = n
            · have d3 : decide ((k : Int) < (n : Int)) = false := decide_eq_false_iff_not.2 (by omega)
              obtain ⟨q0, q1, q2, q3, hsm⟩ : ∃ q0 q1 q2 q3, sumE G (c : Int) (d : Int) = ⟨q0, q1, q2, q3⟩ := ⟨_, _, _, _, rfl⟩
              obtain ⟨sb, hsb⟩ : ∃ x, sameB G (c : Int) (d : Int) = x := ⟨_, rfl⟩
              obtain ⟨lc, hlc⟩ : ∃ x, lcaE G (c : Int) (d : Int) = x := ⟨_, rfl⟩
              have HSM := Lib.hid hsm
              have HSB := Lib.hid hsb
              have HLC := Lib.hid hlc
              have dlc : (lc == lc) = true := by simp
              have dsb : (sb == sb) = true := by simp
              clear hsm hsb hlc
              go_wp2_with fail
              go_at_call 18
              refine (Path_at TT8.out.a c d q0 q1 q2 q3 sb HSM.out HSB.out).mono ?_
              rintro e w9 ⟨rfl, h⟩
              have TT9 := Lib.hid (TT8.out.one h)
              clear h TT8
              go_wp2_with fail
              have bSX := sum_made w9 ⟨q0, q1, q2, q3⟩
              have tt := TT9.out.on ((Tch.refl [] w9).new (.cells #[.int .i64 q0, .int .i64 q1, .int .i64 q2, .int .i64 q3] 29))
              have nSX : A ≠ w9.heap.size ∧ A2 ≠ w9.heap.size := by have := TT9.out.a.lt; have := TT9.out.b.lt; omega
              generalize w9.alloc (.cells _ 29) = w10 at bSX tt ⊢
              generalize w9.heap.size = SX at bSX nSX ⊢
              obtain ⟨mSX1, mSX2⟩ := nSX
              have TT10 := Lib.hid tt
              clear tt TT9
              have HBSX := Lib.hid bSX
              clear bSX
              go_at_call 18
              refine (Path_at TT10.out.b c d q0 q1 q2 q3 sb HSM.out HSB.out).mono ?_
              rintro e w11 ⟨rfl, h⟩
              have bSX := h.2.blk HBSX.out (by simp; omega)
              have TT11 := Lib.hid (TT10.out.two h)
              clear h TT10
              clear HBSX
              have HBSX := Lib.hid bSX
              clear bSX
              go_wp2_with fail
              have bSY := sum_made w11 ⟨q0, q1, q2, q3⟩
              have tt := TT11.out.on ((Tch.refl [] w11).new (.cells #[.int .i64 q0, .int .i64 q1, .int .i64 q2, .int .i64 q3] 29))
              have nSY : A ≠ w11.heap.size ∧ A2 ≠ w11.heap.size := by have := TT11.out.a.lt; have := TT11.out.b.lt; omega
              have bSX := HBSX.out.new (.cells #[.int .i64 q0, .int .i64 q1, .int .i64 q2, .int .i64 q3] 29)
              generalize w11.alloc (.cells _ 29) = w12 at bSY tt bSX ⊢
              generalize w11.heap.size = SY at bSY nSY ⊢
              obtain ⟨mSY1, mSY2⟩ := nSY
              have TT12 := Lib.hid tt
              clear tt TT11
              clear HBSX
              have HBSX := Lib.hid bSX
              clear bSX
              have HBSY := Lib.hid bSY
              clear bSY
              go_at_call 15
              refine (awake_any w12).mono ?_
              rintro e w13 ⟨rfl, t⟩
              have bSX := t.blk HBSX.out (by simp)
              clear HBSX
              have HBSX := Lib.hid bSX
              clear bSX
              have bSY := t.blk HBSY.out (by simp)
              clear HBSY
              have HBSY := Lib.hid bSY
              clear bSY
              have TT13 := Lib.hid (TT12.out.on t)
              clear t TT12
              have sx0 : w13.cell? ⟨SX, 0, none⟩ = some (.int .i64 q0) := HBSX.out.cell 0 (by omega)
              have sx1 : w13.cell? ⟨SX, 1, none⟩ = some (.int .i64 q1) := HBSX.out.cell 1 (by omega)
              have sx2 : w13.cell? ⟨SX, 2, none⟩ = some (.int .i64 q2) := HBSX.out.cell 2 (by omega)
              have sx3 : w13.cell? ⟨SX, 3, none⟩ = some (.int .i64 q3) := HBSX.out.cell 3 (by omega)
              have sxl := HBSX.out.lt
              have sy0 : w13.cell? ⟨SY, 0, none⟩ = some (.int .i64 q0) := HBSY.out.cell 0 (by omega)
              have sy1 : w13.cell? ⟨SY, 1, none⟩ = some (.int .i64 q1) := HBSY.out.cell 1 (by omega)
              have sy2 : w13.cell? ⟨SY, 2, none⟩ = some (.int .i64 q2) := HBSY.out.cell 2 (by omega)
              have sy3 : w13.cell? ⟨SY, 3, none⟩ = some (.int .i64 q3) := HBSY.out.cell 3 (by omega)
              have syl := HBSY.out.lt
              go_wp2_with fail
              clear sx0 sx1 sx2 sx3 sxl sy0 sy1 sy2 sy3 syl HBSX HBSY
              go_at_call 22
              refine (Lca_at TT13.out.a c d lc HLC.out).mono ?_
              rintro e w14 ⟨rfl, h⟩
              have TT14 := Lib.hid (TT13.out.one h)
              clear h TT13
              go_wp2_with fail
              go_at_call 22
              refine (Lca_at TT14.out.b c d lc HLC.out).mono ?_
              rintro e w15 ⟨rfl, h⟩
              have TT15 := Lib.hid (TT14.out.two h)
              clear h TT14
              go_wp2_with fail
              go_at_call 24
              refine (Check_at TT15.out.b).mono ?_
              rintro e w16 ⟨rfl, h⟩
              have TT16 := Lib.hid (TT15.out.two h)
              clear h TT15
              go_wp2_with fail
              go_ret
              exact ⟨rfl, (((Tch.refl [] w).new _).trans TT16.out.t).nil⟩
            · have d3 : decide ((k : Int) < (n : Int)) = true := decide_eq_true_iff.2 (by omega)
              have hk2 : k < n := by omega
              obtain ⟨cs, hcs⟩ : ∃ x, subC G (k : Int) = x := ⟨_, rfl⟩
              have Hcs := Lib.hid hcs
              clear hcs
              have dcs : (cs != cs) = false := by simp
              obtain ⟨ws, hws⟩ : ∃ x, subW G (k : Int) = x := ⟨_, rfl⟩
              have Hws := Lib.hid hws
              clear hws
              have dws : (ws != ws) = false := by simp
              obtain ⟨pa, hpa⟩ : ∃ x, parE G (k : Int) = x := ⟨_, rfl⟩
              have Hpa := Lib.hid hpa
              clear hpa
              have dpa : (pa != pa) = false := by simp
              obtain ⟨rt, hrt⟩ : ∃ x, rootE G (k : Int) = x := ⟨_, rfl⟩
              have Hrt := Lib.hid hrt
              clear hrt
              have drt : (rt != rt) = false := by simp
              obtain ⟨sz, hsz⟩ : ∃ x, sizeE G (k : Int) = x := ⟨_, rfl⟩
              have Hsz := Lib.hid hsz
              clear hsz
              have dsz : (sz != sz) = false := by simp
              have Hhb := Lib.hid (HFU.out.has k hk2)
              clear hkn
              go_wp2_with fail
              go_at_call 23
              refine (Sub_at TT8.out.a k cs ws true Hcs.out Hws.out Hhb.out).mono ?_
              rintro e w9 ⟨rfl, h⟩
              have TT9 := Lib.hid (TT8.out.one h)
              clear h TT8
              go_wp2_with fail
              go_at_call 23
              refine (Sub_at TT9.out.b k cs ws true Hcs.out Hws.out Hhb.out).mono ?_
              rintro e w10 ⟨rfl, h⟩
              have TT10 := Lib.hid (TT9.out.two h)
              clear h TT9
              go_wp2_with fail
              go_at_call 21
              refine (Parent_at TT10.out.a k pa Hpa.out).mono ?_
              rintro e w11 ⟨rfl, h⟩
              have TT11 := Lib.hid (TT10.out.one h)
              clear h TT10
              go_wp2_with fail
              go_at_call 21
              refine (Parent_at TT11.out.b k pa Hpa.out).mono ?_
              rintro e w12 ⟨rfl, h⟩
              have TT12 := Lib.hid (TT11.out.two h)
              clear h TT11
              go_wp2_with fail
              go_at_call 20
              refine (Root_at TT12.out.a k rt Hrt.out).mono ?_
              rintro e w13 ⟨rfl, h⟩
              have TT13 := Lib.hid (TT12.out.one h)
              clear h TT12
              go_wp2_with fail
              go_at_call 20
              refine (Root_at TT13.out.b k rt Hrt.out).mono ?_
              rintro e w14 ⟨rfl, h⟩
              have TT14 := Lib.hid (TT13.out.two h)
              clear h TT13
              go_wp2_with fail
              go_at_call 16
              refine (Size_at TT14.out.a k sz Hsz.out).mono ?_
              rintro e w15 ⟨rfl, h⟩
              have TT15 := Lib.hid (TT14.out.one h)
              clear h TT14
              go_wp2_with fail
              go_at_call 16
              refine (Size_at TT15.out.b k sz Hsz.out).mono ?_
              rintro e w16 ⟨rfl, h⟩
              have TT16 := Lib.hid (TT15.out.two h)
              clear h TT15
              go_wp2_with fail
              go_roundw
              case rel => exact ⟨k + 1, by simp, by omega, TT16.out⟩
              case measure => simp [intOf]; omega
        · have d3 : decide (0 < (k : Int)) = true := decide_eq_true_iff.2 (by omega)
          have d3n : decide (0 < k) = true := decide_eq_true_iff.2 (by omega)
          obtain ⟨b0, off, y, rfl, hbw, hy, hfy, hcw⟩ : ∃ b off y, aU = some ⟨b, off, none⟩ ∧ b < w.heap.size ∧ (y : Nat) ≤ 255 ∧ (fU k).toNat = y ∧ ∀ w', Tch [] w w' → w'.cell? ⟨b, off + k, none⟩ = some (.int .u8 (y : Int)) ∧ b < w'.heap.size := by
            obtain ⟨b, off, e, hb, hf⟩ := HUU.out (by omega)
            obtain ⟨hwf, hc⟩ := hf k (by omega)
            have hbd := wf_u8 hwf
            refine ⟨b, off, (fU k).toNat, e, hb, by omega, rfl, fun w' t => ⟨(t.cell b (off + k) hb (by simp)).trans (hc.trans ?_), ?_⟩⟩
            · rw [Int.toNat_of_nonneg hbd.1]
            · have := t.size; omega
          obtain ⟨hc5, hb5⟩ := hcw wr (((Tch.refl [] w).new _).trans TT5.out.t)
          have hqd : q (k + 1) = if y % 8 ≠ 0 then y % k + 1 else 0 := by
            rw [HQ.out]
            unfold qOf
            simp only [Nat.add_sub_cancel]
            rw [hfy]
            have h1 : 2 ≤ k + 1 := by omega
            have h2 : k < LU := by omega
            by_cases h8 : y % 8 = 0
            · simp [h8]
            · simp [h1, h2, h8]
          have d5 : decide ((k : Int) < (LU : Int)) = true := decide_eq_true_iff.2 (by omega)
          have hkl : k < LU := by omega
          clear hcw hfy
          by_cases h8 : y % 8 = 0
          · have h8i : (y : Int) % 8 = 0 := by omega
            rw [if_neg (by simp [h8])] at hqd
            have tt := TT5.out
            rw [ord_skip hqd] at tt
            have TT6 := Lib.hid tt
            clear tt TT5 h8 hqd
            go_wp2_with fail
            go_roundw
            case rel => exact ⟨k - 1, congrArg (Value.int .i64) (by omega), by omega, by rw [show k - 1 + 2 = k + 1 by omega]; exact TT6.out⟩
            case measure => simp [intOf]; omega
          · have h8i : ((y : Int) % 8 != 0) = true := bne_iff_ne.2 (by omega)
            rw [if_pos h8] at hqd
            have HLK := Lib.hid (ord_link (n := n) (z := z) (by omega) HQL.out HZZ.out hk hqd)
            have hmod : (y : Int) % (k : Int) = ((y % k : Nat) : Int) := by omega
            have hkz : ((k : Int) == 0) = false := beq_eq_false_iff_ne.2 (by omega)
            clear h8 hqd
            go_wp2_with fail
            rw [hmod]
            generalize y % k = py at *
            go_wp2_with fail
            go_at_call 27
            refine (Link_at TT5.out.b k py true (Gro n (ordQ q (k + 1)) z n) HLK.out.1 HLK.out.2).mono ?_
            rintro e w6 ⟨rfl, h⟩
            have TT6 := Lib.hid (TT5.out.two h)
            clear h TT5
            go_wp2_with fail
            go_roundw
            case rel => exact ⟨k - 1, congrArg (Value.int .i64) (by omega), by omega, by rw [show k - 1 + 2 = k + 1 by omega]; exact TT6.out⟩
            case measure => simp [intOf]; omega
    · have d3 : decide ((k : Int) < (n : Int)) = true := decide_eq_true_iff.2 (by omega)
      have hk2 : k < n := by omega
      obtain ⟨st1, st2, _⟩ := gro_step (n := n) (k := k) (q := fun _ => 0) (z := z) hk2 (by omega) (fun u hu => hu) HZZ.out
      have HS1 := Lib.hid st1
      have HS2 := Lib.hid (st2 rfl)
      have hzk : G.wt (k + 1) = z (k + 1) := by rw [HG2.out]; exact gro_wt _ (by omega)
      have HGE := Lib.hid ((HFU.out.get k hk2).trans hzk)
      clear st1 st2 hzk hkn
      obtain ⟨zk, hzk⟩ : ∃ x, x = z (k + 1) := ⟨_, rfl⟩
      rw [← hzk] at HS1 HS2 HGE
      clear hzk
      go_wp2_with fail
      go_at_call 29
      refine (Get_at TT3.out.a k zk true HGE.out (HFU.out.has k hk2)).mono ?_
      rintro e w4 ⟨rfl, h⟩
      have TT4 := Lib.hid (TT3.out.one h)
      clear h TT3
      go_wp2_with fail
      go_at_call 26
      refine (Add_at TT4.out.b k zk true (Gro n (fun _ => 0) z (k + 1)) HS1.out HS2.out).mono ?_
      rintro e w5 ⟨rfl, h⟩
      have TT5 := Lib.hid (TT4.out.two h)
      clear h TT4
      go_wp2_with fail
      go_roundw
      case rel => exact ⟨k + 1, by simp, by omega, TT5.out⟩
      case measure => simp [intOf]; omega
theorem orders_int (w : World) (aU : Option Addr) (LU cU : Nat) (fU : Nat → Int) (aW : Option Addr) (LW cW : Nat) (fW : Nat → Int) (hU : RowAt w .u8 aU LU fU) (hW : RowAt w .i16 aW LW fW) (y z : Int) (hy : 0 ≤ y ∧ y ≤ 255) (hz : 0 ≤ z ∧ z ≤ 255) :
    Calls Try.prog 7 #[.slice aU LU cU, .slice aW LW cW, .agg #[.int .u8 y, .int .u8 z]] w fun e w' => e = .returned (.bool true) ∧ Below w.heap.size w w' := by
  obtain ⟨a, rfl⟩ : ∃ a : Nat, y = (a : Int) := ⟨y.toNat, by omega⟩
  obtain ⟨b, rfl⟩ : ∃ a : Nat, z = (a : Int) := ⟨z.toNat, by omega⟩
  exact orders_any w aU LU cU fU aW LW cW fW hU hW a b (by omega) (by omega)

set_option maxRecDepth 100000 in
theorem linkOrders_lifted (os : Os) (started : os.Started) (H : Type) (enc : TypeId × Value → H) :
    ReturnsInHanded {} Try.checked os 7 .any (Rows.linkOrdersSpec.pre6 enc Try.prog Try.f7 Rows.linkOrdersRow.domain false) (Rows.linkOrdersSpec.post enc Try.prog Try.f7 false true false false) := by
  refine returnsInHanded_of_change (C := Try.checked) Try.own started (by kernel_rfl) Try.func7
    (ChangeSpec.witness6 (enc := enc) (C := Try.checked) false ⟨#[], #[.slice none 0 0, .slice none 0 0, .agg #[.int .u8 0, .int .u8 0]], []⟩ 8 (by kernel_rfl) (by kernel_rfl) (by kernel_rfl) (by kernel_rfl)) ?_
  intro W base args ds gs before hval0 hW hcnd _
  have hval : ∀ (j : Nat) t v, Try.f7.params[j]? = some t → args[j]? = some v → Value.okWide Try.prog W .any base t v := hval0
  have hW' := hW
  obtain ⟨p, q, hA0, hV, rfl, hfz, hnd⟩ := hW
  have hA : DataW.TrodAll enc Try.prog W 0 (fun _ => true) true Try.f7.params.toList args.toList ds p := hA0
  rw [Try.params7] at hA hval
  obtain ⟨v0, v1, v2, d0, d1, d2, p0, p1, p2, rfl, rfl, rfl, h0, h1, h2⟩ := trodAll_three hA
  obtain ⟨rfl, rfl⟩ := trodVars_none hV
  obtain ⟨a0, L0, c0, rfl, hL0, hR0⟩ := nums_arg Try.underlying22 Try.underlying5 (by kernel_rfl) (by obtain ⟨_, _, _, rfl⟩ := okWide_slice Try.underlying22 (hval 0 22 v0 rfl rfl); rfl) h0
  obtain ⟨f0, hf0⟩ := row_of hR0
  obtain ⟨a1, L1, c1, rfl, hL1, hR1⟩ := nums_arg Try.underlying23 Try.underlying52 (by kernel_rfl) (by obtain ⟨_, _, _, rfl⟩ := okWide_slice Try.underlying23 (hval 1 23 v1 rfl rfl); rfl) h1
  obtain ⟨f1, hf1⟩ := row_of hR1
  obtain ⟨cs2, rfl, hs2, hc2⟩ := arr_arg Try.underlying41 Try.underlying5 (by kernel_rfl) (by kernel_rfl) (okWide_arr Try.underlying41 (hval 2 41 v2 rfl rfl)) h2
  obtain ⟨x2, y2, rfl, wx2, wy2⟩ := arr_two hs2 hc2
  refine (orders_int W a0 L0 c0 f0 a1 L1 c1 f1 hf0 hf1 x2 y2 (wf_u8 wx2) (wf_u8 wy2)).mono fun e W' ⟨he, hw⟩ => ?_
  subst he
  exact ⟨_, rfl, law_close (bt := 4) rfl Try.underlying4 rfl Try.laidOut (of_decide_eq_true (by kernel_rfl)) hW' rfl hw⟩

theorem linkOrders_holds : Rows.LinkOrdersSaid :=
  OpenClaim.holds_of_wide 7 Try.f7 rfl rfl rfl rfl rfl rfl rfl ⟨rfl, rfl, rfl, rfl, rfl⟩ rfl rfl rfl rfl rfl (by kernel_rfl) Try.func7 (by kernel_rfl)
    (of_decide_eq_true (by kernel_rfl)) (by unfold Func.isWrapper; first | (rw [if_pos (by decide +kernel)]; kernel_rfl) | (rw [if_neg (by decide +kernel)]; exact ⟨rfl, rfl⟩))
    (fun os started H enc _ => linkOrders_lifted os started H enc)

end Go.Proofs.Ytaipladbgdcedaa
