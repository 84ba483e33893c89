/- The walk of Check, two of its statements. No condition of its own. -/
import Derived.Test.YtaipladbgdcedaaMg
set_option linter.unusedSimpArgs false
set_option linter.unusedVariables false
namespace Go.Proofs.Ytaipladbgdcedaa
open Go.RowKit

/-- A region of a function's code, by its number. -/
def findReg (k : Nat) : Code → Option Code
  | .region id ops d => if id = k then some (.region id ops d) else none
  | .loop c => findReg k c
  | .seq a b => match findReg k a with
    | some c => some c
    | none => findReg k b
  | .block _ c => findReg k c
  | .scope c => findReg k c
  | .cond _ a b => match findReg k a with
    | some c => some c
    | none => findReg k b
  | _ => none
noncomputable def reg24 (k : Nat) : Code := (Try.f24.body.bind (findReg k)).getD .skip
set_option maxRecDepth 1000000 in
set_option maxHeartbeats 8000000 in
theorem reg18 (z0 z1 z2 z3 z4 z5 z6 z10 z11 z12 z13 z14 z15 z16 z17 z18 z19 z20 z21 z22 z23 z24 z25 z26 z27 z28 z29 z30 z31 z32 z33 z34 z35 z36 z37 z38 z39 z40 z41 z42 z43 z44 z45 z46 z47 z48 z49 z50 z51 z52 z53 z54 z55 z56 z57 z58 z59 z60 z61 z62 z63 z64 z65 z66 z67 z68 z69 z70 z71 z72 z73 z74 z75 z76 z77 z78 z79 z80 z81 z82 z83 z84 z85 z86 z87 z88 z89 z90 z91 z92 z93 z94 z95 z96 z97 z98 z99 z100 z101 z102 z103 z104 z105 z106 z107 z108 z109 z110 z111 z112 z113 z114 z115 z116 z117 z118 z119 z120 z121 z122 z123 z124 z125 z126 z127 z128 z129 z130 z131 z132 z133 z134 z135 z136 z137 z138 z139 z140 z141 z142 z143 z144 z145 z146 z147 z148 z149 z150 z151 z152 z153 z154 z155 z156 z157 z158 z159 z160 z161 z162 z163 z164 z165 z166 z167 z168 z169 z170 z171 z172 z173 z174 z175 z176 z177 z178 z179 z180 z181 z182 z183 z184 z185 z186 z187 z188 z189 z190 z191 z192 z193 z194 z195 z196 z197 z198 z199 z200 z201 z202 z203 z204 z205 z206 z207 z208 z209 z210 z211 z212 z213 z214 z215 z216 z217 z218 z219 z220 z221 z222 z223 z224 z225 z226 z227 z228 z229 z230 z231 z232 z233 z234 z235 z236 z237 z238 z239 : Value) (X L R : Nat) (wc : World) (y a b : Nd) (hc : ∀ w', Tch [] wc w' → C18 w' X L R y a b) (hsm : (((a.sum.join (Sm.one (wrap64 (y.w - y.add)))).join b.sum).lift y.add) = y.sum) (Q : Exit → Act → World → Prop)
    (hQ : ∀ (k10 k183 k184 k185 k186 k187 k188 k189 k190 k191 k192 k193 k194 k195 k196 k197 : Value) (wx : World), SumR wc y.sum k10 wx → Q .normal ⟨#[z0, z1, z2, z3, z4, z5, z6, .pointer (some ⟨X, 0, none⟩), .pointer (some ⟨L, 0, none⟩), .pointer (some ⟨R, 0, none⟩), k10, z11, z12, z13, z14, z15, z16, z17, z18, z19, z20, z21, z22, z23, z24, z25, z26, z27, z28, z29, z30, z31, z32, z33, z34, z35, z36, z37, z38, z39, z40, z41, z42, z43, z44, z45, z46, z47, z48, z49, z50, z51, z52, z53, z54, z55, z56, z57, z58, z59, z60, z61, z62, z63, z64, z65, z66, z67, z68, z69, z70, z71, z72, z73, z74, z75, z76, z77, z78, z79, z80, z81, z82, z83, z84, z85, z86, z87, z88, z89, z90, z91, z92, z93, z94, z95, z96, z97, z98, z99, z100, z101, z102, z103, z104, z105, z106, z107, z108, z109, z110, z111, z112, z113, z114, z115, z116, z117, z118, z119, z120, z121, z122, z123, z124, z125, z126, z127, z128, z129, z130, z131, z132, z133, z134, z135, z136, z137, z138, z139, z140, z141, z142, z143, z144, z145, z146, z147, z148, z149, z150, z151, z152, z153, z154, z155, z156, z157, z158, z159, z160, z161, z162, z163, z164, z165, z166, z167, z168, z169, z170, z171, z172, z173, z174, z175, z176, z177, z178, z179, z180, z181, z182, k183, k184, k185, k186, k187, k188, k189, k190, k191, k192, k193, k194, k195, k196, k197, z198, z199, z200, z201, z202, z203, z204, z205, z206, z207, z208, z209, z210, z211, z212, z213, z214, z215, z216, z217, z218, z219, z220, z221, z222, z223, z224, z225, z226, z227, z228, z229, z230, z231, z232, z233, z234, z235, z236, z237, z238, z239], []⟩ wx) :
    Code.wp Try.prog (reg24 18) Q ⟨#[z0, z1, z2, z3, z4, z5, z6, .pointer (some ⟨X, 0, none⟩), .pointer (some ⟨L, 0, none⟩), .pointer (some ⟨R, 0, none⟩), z10, z11, z12, z13, z14, z15, z16, z17, z18, z19, z20, z21, z22, z23, z24, z25, z26, z27, z28, z29, z30, z31, z32, z33, z34, z35, z36, z37, z38, z39, z40, z41, z42, z43, z44, z45, z46, z47, z48, z49, z50, z51, z52, z53, z54, z55, z56, z57, z58, z59, z60, z61, z62, z63, z64, z65, z66, z67, z68, z69, z70, z71, z72, z73, z74, z75, z76, z77, z78, z79, z80, z81, z82, z83, z84, z85, z86, z87, z88, z89, z90, z91, z92, z93, z94, z95, z96, z97, z98, z99, z100, z101, z102, z103, z104, z105, z106, z107, z108, z109, z110, z111, z112, z113, z114, z115, z116, z117, z118, z119, z120, z121, z122, z123, z124, z125, z126, z127, z128, z129, z130, z131, z132, z133, z134, z135, z136, z137, z138, z139, z140, z141, z142, z143, z144, z145, z146, z147, z148, z149, z150, z151, z152, z153, z154, z155, z156, z157, z158, z159, z160, z161, z162, z163, z164, z165, z166, z167, z168, z169, z170, z171, z172, z173, z174, z175, z176, z177, z178, z179, z180, z181, z182, z183, z184, z185, z186, z187, z188, z189, z190, z191, z192, z193, z194, z195, z196, z197, z198, z199, z200, z201, z202, z203, z204, z205, z206, z207, z208, z209, z210, z211, z212, z213, z214, z215, z216, z217, z218, z219, z220, z221, z222, z223, z224, z225, z226, z227, z228, z229, z230, z231, z232, z233, z234, z235, z236, z237, z238, z239], []⟩ wc := by
  have HC18 := Lib.hid hc
  have HSM := Lib.hid hsm
  have HQQ := Lib.hid hQ
  clear hc hsm hQ
  have Tc : Hid (Tch [] wc wc) := Lib.hid (Tch.refl _ _)
  obtain ⟨x4, x5, l6, l7, l8, l9, r6, r7, r8, r9, zX, zL, zR⟩ := HC18.out _ Tc.out
  conv => arg 2; whnf
  refine region_any (.takes [0, 1, 2, 3, 4, 5, 6, 9, 10, 12, 13] (.fork 7 [0, 1, 9, 10, 12, 13] (.fork 8 [9, 10, 12, 13] (.fork 11 [12, 13] (.fork 14 [] (.fork 15 [] (.fork 16 [] .done .none) .none) (.fork 15 [12, 13] (.fork 14 [] (.fork 16 [] .done .none) .none) .none)) (.fork 15 [9, 10, 12, 13] (.fork 11 [12, 13] (.fork 14 [] (.fork 16 [] .done .none) .none) .none) .none)) (.fork 15 [0, 1, 9, 10, 12, 13] (.fork 8 [9, 10, 12, 13] (.fork 11 [12, 13] (.fork 14 [] (.fork 16 [] .done .none) .none) .none) .none) .none)) (.fork 15 [0, 1, 2, 3, 4, 5, 6, 9, 10, 12, 13] (.fork 7 [0, 1, 9, 10, 12, 13] (.fork 8 [9, 10, 12, 13] (.fork 11 [12, 13] (.fork 14 [] (.fork 16 [] .done .none) .none) .none) .none) .none) .none))) (by kernel_rfl) (by kernel_rfl) rfl ?_
  go_wp2_with first | (with_reducible exact True.intro) | (with_reducible refine wpE_takes_nil ?_) | (with_reducible refine wpE_done ?_) | (refine wpE_take rfl rfl (fun _ _ => ?_)) | (refine wpE_skip rfl rfl ?_) | (with_reducible exact agains_nil) | (refine agains_cons rfl (fun _ => ?_) ?_) | (with_reducible refine wpE_same ?_) | (refine And.intro (rfl : (_ : World) = _) ?_) | (with_reducible refine wpE_and ?_ ?_)
  refine wpE_fork rfl rfl (fun _ _ => ?_) (wpE_fork rfl rfl (fun _ _ => ?_) wpE_none)
  · skip
    go_wp2_with fail
    go_at_call 61
    refine (one_any (wrap64 (y.w - y.add)) _).mono ?_
    rintro e w0_1 ⟨rfl, t7⟩
    simp only [Sm.val, Sm.one]
    have T0_1 : Hid (Tch [] wc w0_1) := Lib.hid (by first | exact Tc.out.trans t7 | exact Tc.out.drew.trans t7 | exact Tc.out.drew.drew.trans t7 | exact Tc.out.drew.drew.drew.trans t7)
    clear t7 x4 x5 l6 l7 l8 l9 r6 r7 r8 r9 zX zL zR
    obtain ⟨x4, x5, l6, l7, l8, l9, r6, r7, r8, r9, zX, zL, zR⟩ := HC18.out _ T0_1.out
    go_wp2_with first | (with_reducible exact True.intro) | (with_reducible refine wpE_takes_nil ?_) | (with_reducible refine wpE_done ?_) | (refine wpE_take rfl rfl (fun _ _ => ?_)) | (refine wpE_skip rfl rfl ?_) | (with_reducible exact agains_nil) | (refine agains_cons rfl (fun _ => ?_) ?_) | (with_reducible refine wpE_same ?_) | (refine And.intro (rfl : (_ : World) = _) ?_) | (with_reducible refine wpE_and ?_ ?_)
    refine wpE_fork rfl rfl (fun _ _ => ?_) (wpE_fork rfl rfl (fun _ _ => ?_) wpE_none)
    · skip
      go_wp2_with fail
      go_at_call 60
      refine (join_agg _ _ _ _ _ _ _ _ _).mono ?_
      rintro e w1_2 ⟨q1, hq1, rfl, t7⟩
      have Q1 := Lib.hid hq1
      clear hq1
      have T1_2 : Hid (Tch [] wc w1_2) := Lib.hid (by first | exact T0_1.out.trans t7 | exact T0_1.out.drew.trans t7 | exact T0_1.out.drew.drew.trans t7 | exact T0_1.out.drew.drew.drew.trans t7)
      clear t7 x4 x5 l6 l7 l8 l9 r6 r7 r8 r9 zX zL zR
      obtain ⟨x4, x5, l6, l7, l8, l9, r6, r7, r8, r9, zX, zL, zR⟩ := HC18.out _ T1_2.out
      go_wp2_with first | (with_reducible exact True.intro) | (with_reducible refine wpE_takes_nil ?_) | (with_reducible refine wpE_done ?_) | (refine wpE_take rfl rfl (fun _ _ => ?_)) | (refine wpE_skip rfl rfl ?_) | (with_reducible exact agains_nil) | (refine agains_cons rfl (fun _ => ?_) ?_) | (with_reducible refine wpE_same ?_) | (refine And.intro (rfl : (_ : World) = _) ?_) | (with_reducible refine wpE_and ?_ ?_)
      refine wpE_fork rfl rfl (fun _ _ => ?_) (wpE_fork rfl rfl (fun _ _ => ?_) wpE_none)
      · skip
        go_wp2_with fail
        go_at_call 60
        refine (join_agg _ _ _ _ _ _ _ _ _).mono ?_
        rintro e w2_3 ⟨q2, hq2, rfl, t7⟩
        have Q2 := Lib.hid hq2
        clear hq2
        have T2_3 : Hid (Tch [] wc w2_3) := Lib.hid (by first | exact T1_2.out.trans t7 | exact T1_2.out.drew.trans t7 | exact T1_2.out.drew.drew.trans t7 | exact T1_2.out.drew.drew.drew.trans t7)
        clear t7 x4 x5 l6 l7 l8 l9 r6 r7 r8 r9 zX zL zR
        obtain ⟨x4, x5, l6, l7, l8, l9, r6, r7, r8, r9, zX, zL, zR⟩ := HC18.out _ T2_3.out
        go_wp2_with first | (with_reducible exact True.intro) | (with_reducible refine wpE_takes_nil ?_) | (with_reducible refine wpE_done ?_) | (refine wpE_take rfl rfl (fun _ _ => ?_)) | (refine wpE_skip rfl rfl ?_) | (with_reducible exact agains_nil) | (refine agains_cons rfl (fun _ => ?_) ?_) | (with_reducible refine wpE_same ?_) | (refine And.intro (rfl : (_ : World) = _) ?_) | (with_reducible refine wpE_and ?_ ?_)
        refine wpE_fork rfl rfl (fun _ _ => ?_) (wpE_fork rfl rfl (fun _ _ => ?_) wpE_none)
        · skip
          go_wp2_with fail
          go_at_call 59
          refine (lift_agg _ _ _ _ _ _).mono ?_
          rintro e w3_4 ⟨q3, hq3, rfl, t7⟩
          have Q3 := Lib.hid hq3
          clear hq3
          have T3_4 : Hid (Tch [] wc w3_4) := Lib.hid (by first | exact T2_3.out.trans t7 | exact T2_3.out.drew.trans t7 | exact T2_3.out.drew.drew.trans t7 | exact T2_3.out.drew.drew.drew.trans t7)
          clear t7 x4 x5 l6 l7 l8 l9 r6 r7 r8 r9 zX zL zR
          obtain ⟨x4, x5, l6, l7, l8, l9, r6, r7, r8, r9, zX, zL, zR⟩ := HC18.out _ T3_4.out
          go_wp2_with first | (with_reducible exact True.intro) | (with_reducible refine wpE_takes_nil ?_) | (with_reducible refine wpE_done ?_) | (refine wpE_take rfl rfl (fun _ _ => ?_)) | (refine wpE_skip rfl rfl ?_) | (with_reducible exact agains_nil) | (refine agains_cons rfl (fun _ => ?_) ?_) | (with_reducible refine wpE_same ?_) | (refine And.intro (rfl : (_ : World) = _) ?_) | (with_reducible refine wpE_and ?_ ?_)
          go_wp2_with first | (with_reducible exact True.intro) | (with_reducible exact wpE_none) | (with_reducible refine wpE_takes_nil ?_) | (with_reducible refine wpE_done ?_) | (refine wpE_take rfl rfl (fun _ _ => ?_)) | (refine wpE_skip rfl rfl ?_) | (refine wpE_fork rfl rfl (fun _ _ => ?_) ?_) | (with_reducible exact agains_nil) | (refine agains_cons rfl (fun _ => ?_) ?_) | (with_reducible refine wpE_same ?_) | (refine And.intro (rfl : (_ : World) = _) ?_) | (with_reducible refine wpE_and ?_ ?_)
          have HQE : q3 = y.sum := by rw [Q3.out, Q2.out, Q1.out]; exact HSM.out
          have Z := sumr_made (q := q3) T3_4.out
          rw [HQE] at Z
          rw [HQE]
          refine HQQ.out _ _ _ _ _ _ _ _ _ _ _ _ _ _ _ _ _ ?_
          first | exact Z | exact Z.drew | exact Z.drew.drew | exact Z.drew.drew.drew
        · skip
          go_wp2_with fail
          generalize hW : World.alloc _ _ = wA_5
          have hs : Blk wA_5 w2_3.heap.size 29 4 (scell ⟨0, 0, 0, 0⟩) := by rw [← hW]; exact sum_made _ ⟨0, 0, 0, 0⟩
          have TA_5 : Hid (Tch [] wc wA_5) := Lib.hid (by rw [← hW]; first | exact T2_3.out.new _ | exact T2_3.out.drew.new _ | exact T2_3.out.drew.drew.new _)
          clear hW
          generalize hSe : w2_3.heap.size = S_5 at hs ⊢
          have hge : wc.heap.size ≤ S_5 := by rw [← hSe]; exact T2_3.out.size
          have HSA_5 := Lib.hid hs
          have HGE := Lib.hid hge
          have s0 : wA_5.cell? ⟨S_5, 0, none⟩ = some (.int .i64 0) := hs.cell 0 (by omega)
          have s1 : wA_5.cell? ⟨S_5, 1, none⟩ = some (.int .i64 0) := hs.cell 1 (by omega)
          have s2 : wA_5.cell? ⟨S_5, 2, none⟩ = some (.int .i64 0) := hs.cell 2 (by omega)
          have s3 : wA_5.cell? ⟨S_5, 3, none⟩ = some (.int .i64 0) := hs.cell 3 (by omega)
          have hsl := hs.lt
          have hsf := hs.frozen
          clear hs hge hSe
          clear x4 x5 l6 l7 l8 l9 r6 r7 r8 r9 zX zL zR
          obtain ⟨x4, x5, l6, l7, l8, l9, r6, r7, r8, r9, zX, zL, zR⟩ := HC18.out _ TA_5.out
          go_wp2_with first | (with_reducible exact True.intro) | (with_reducible refine wpE_takes_nil ?_) | (with_reducible refine wpE_done ?_) | (refine wpE_take rfl rfl (fun _ _ => ?_)) | (refine wpE_skip rfl rfl ?_) | (with_reducible exact agains_nil) | (refine agains_cons rfl (fun _ => ?_) ?_) | (with_reducible refine wpE_same ?_) | (refine And.intro (rfl : (_ : World) = _) ?_) | (with_reducible refine wpE_and ?_ ?_)
          refine wpE_fork rfl rfl (fun _ _ => ?_) wpE_none
          go_wp2_with fail
          go_at_call 59
          refine (lift_agg _ _ _ _ _ _).mono ?_
          rintro e w3_6 ⟨q3, hq3, rfl, t7⟩
          have Q3 := Lib.hid hq3
          clear hq3
          have T3_6 : Hid (Tch [] wc w3_6) := Lib.hid (by first | exact TA_5.out.trans t7 | exact TA_5.out.drew.trans t7 | exact TA_5.out.drew.drew.trans t7 | exact TA_5.out.drew.drew.drew.trans t7)
          have hs := (show Tch [] wA_5 w3_6 from by first | exact t7 | exact (Tch.refl [] _).drew.trans t7 | exact (Tch.refl [] _).drew.drew.trans t7 | exact (Tch.refl [] _).drew.drew.drew.trans t7).blk HSA_5.out (by simp)
          have HS3_6 := Lib.hid hs
          clear s0 s1 s2 s3 hsl hsf
          have s0 : w3_6.cell? ⟨S_5, 0, none⟩ = some (.int .i64 0) := hs.cell 0 (by omega)
          have s1 : w3_6.cell? ⟨S_5, 1, none⟩ = some (.int .i64 0) := hs.cell 1 (by omega)
          have s2 : w3_6.cell? ⟨S_5, 2, none⟩ = some (.int .i64 0) := hs.cell 2 (by omega)
          have s3 : w3_6.cell? ⟨S_5, 3, none⟩ = some (.int .i64 0) := hs.cell 3 (by omega)
          have hsl := hs.lt
          have hsf := hs.frozen
          clear hs
          clear t7 x4 x5 l6 l7 l8 l9 r6 r7 r8 r9 zX zL zR
          obtain ⟨x4, x5, l6, l7, l8, l9, r6, r7, r8, r9, zX, zL, zR⟩ := HC18.out _ T3_6.out
          go_wp2_with first | (with_reducible exact True.intro) | (with_reducible refine wpE_takes_nil ?_) | (with_reducible refine wpE_done ?_) | (refine wpE_take rfl rfl (fun _ _ => ?_)) | (refine wpE_skip rfl rfl ?_) | (with_reducible exact agains_nil) | (refine agains_cons rfl (fun _ => ?_) ?_) | (with_reducible refine wpE_same ?_) | (refine And.intro (rfl : (_ : World) = _) ?_) | (with_reducible refine wpE_and ?_ ?_)
          go_wp2_with first | (with_reducible exact True.intro) | (with_reducible exact wpE_none) | (with_reducible refine wpE_takes_nil ?_) | (with_reducible refine wpE_done ?_) | (refine wpE_take rfl rfl (fun _ _ => ?_)) | (refine wpE_skip rfl rfl ?_) | (refine wpE_fork rfl rfl (fun _ _ => ?_) ?_) | (with_reducible exact agains_nil) | (refine agains_cons rfl (fun _ => ?_) ?_) | (with_reducible refine wpE_same ?_) | (refine And.intro (rfl : (_ : World) = _) ?_) | (with_reducible refine wpE_and ?_ ?_)
          have HQE : q3 = y.sum := by rw [Q3.out, Q2.out, Q1.out]; exact HSM.out
          have Z := sumr_set (q := q3) HS3_6.out HGE.out T3_6.out
          rw [HQE] at Z
          rw [HQE]
          refine HQQ.out _ _ _ _ _ _ _ _ _ _ _ _ _ _ _ _ _ ?_
          first | exact Z | exact Z.drew | exact Z.drew.drew | exact Z.drew.drew.drew
      · skip
        go_wp2_with fail
        generalize hW : World.alloc _ _ = wA_7
        have hs : Blk wA_7 w1_2.heap.size 29 4 (scell ⟨0, 0, 0, 0⟩) := by rw [← hW]; exact sum_made _ ⟨0, 0, 0, 0⟩
        have TA_7 : Hid (Tch [] wc wA_7) := Lib.hid (by rw [← hW]; first | exact T1_2.out.new _ | exact T1_2.out.drew.new _ | exact T1_2.out.drew.drew.new _)
        clear hW
        generalize hSe : w1_2.heap.size = S_7 at hs ⊢
        have hge : wc.heap.size ≤ S_7 := by rw [← hSe]; exact T1_2.out.size
        have HSA_7 := Lib.hid hs
        have HGE := Lib.hid hge
        have s0 : wA_7.cell? ⟨S_7, 0, none⟩ = some (.int .i64 0) := hs.cell 0 (by omega)
        have s1 : wA_7.cell? ⟨S_7, 1, none⟩ = some (.int .i64 0) := hs.cell 1 (by omega)
        have s2 : wA_7.cell? ⟨S_7, 2, none⟩ = some (.int .i64 0) := hs.cell 2 (by omega)
        have s3 : wA_7.cell? ⟨S_7, 3, none⟩ = some (.int .i64 0) := hs.cell 3 (by omega)
        have hsl := hs.lt
        have hsf := hs.frozen
        clear hs hge hSe
        clear x4 x5 l6 l7 l8 l9 r6 r7 r8 r9 zX zL zR
        obtain ⟨x4, x5, l6, l7, l8, l9, r6, r7, r8, r9, zX, zL, zR⟩ := HC18.out _ TA_7.out
        go_wp2_with first | (with_reducible exact True.intro) | (with_reducible refine wpE_takes_nil ?_) | (with_reducible refine wpE_done ?_) | (refine wpE_take rfl rfl (fun _ _ => ?_)) | (refine wpE_skip rfl rfl ?_) | (with_reducible exact agains_nil) | (refine agains_cons rfl (fun _ => ?_) ?_) | (with_reducible refine wpE_same ?_) | (refine And.intro (rfl : (_ : World) = _) ?_) | (with_reducible refine wpE_and ?_ ?_)
        refine wpE_fork rfl rfl (fun _ _ => ?_) wpE_none
        go_wp2_with fail
        go_at_call 60
        refine (join_agg _ _ _ _ _ _ _ _ _).mono ?_
        rintro e w2_8 ⟨q2, hq2, rfl, t7⟩
        have Q2 := Lib.hid hq2
        clear hq2
        have T2_8 : Hid (Tch [] wc w2_8) := Lib.hid (by first | exact TA_7.out.trans t7 | exact TA_7.out.drew.trans t7 | exact TA_7.out.drew.drew.trans t7 | exact TA_7.out.drew.drew.drew.trans t7)
        have hs := (show Tch [] wA_7 w2_8 from by first | exact t7 | exact (Tch.refl [] _).drew.trans t7 | exact (Tch.refl [] _).drew.drew.trans t7 | exact (Tch.refl [] _).drew.drew.drew.trans t7).blk HSA_7.out (by simp)
        have HS2_8 := Lib.hid hs
        clear s0 s1 s2 s3 hsl hsf
        have s0 : w2_8.cell? ⟨S_7, 0, none⟩ = some (.int .i64 0) := hs.cell 0 (by omega)
        have s1 : w2_8.cell? ⟨S_7, 1, none⟩ = some (.int .i64 0) := hs.cell 1 (by omega)
        have s2 : w2_8.cell? ⟨S_7, 2, none⟩ = some (.int .i64 0) := hs.cell 2 (by omega)
        have s3 : w2_8.cell? ⟨S_7, 3, none⟩ = some (.int .i64 0) := hs.cell 3 (by omega)
        have hsl := hs.lt
        have hsf := hs.frozen
        clear hs
        clear t7 x4 x5 l6 l7 l8 l9 r6 r7 r8 r9 zX zL zR
        obtain ⟨x4, x5, l6, l7, l8, l9, r6, r7, r8, r9, zX, zL, zR⟩ := HC18.out _ T2_8.out
        go_wp2_with first | (with_reducible exact True.intro) | (with_reducible refine wpE_takes_nil ?_) | (with_reducible refine wpE_done ?_) | (refine wpE_take rfl rfl (fun _ _ => ?_)) | (refine wpE_skip rfl rfl ?_) | (with_reducible exact agains_nil) | (refine agains_cons rfl (fun _ => ?_) ?_) | (with_reducible refine wpE_same ?_) | (refine And.intro (rfl : (_ : World) = _) ?_) | (with_reducible refine wpE_and ?_ ?_)
        refine wpE_fork rfl rfl (fun _ _ => ?_) wpE_none
        go_wp2_with fail
        go_at_call 59
        refine (lift_agg _ _ _ _ _ _).mono ?_
        rintro e w3_9 ⟨q3, hq3, rfl, t7⟩
        have Q3 := Lib.hid hq3
        clear hq3
        have T3_9 : Hid (Tch [] wc w3_9) := Lib.hid (by first | exact T2_8.out.trans t7 | exact T2_8.out.drew.trans t7 | exact T2_8.out.drew.drew.trans t7 | exact T2_8.out.drew.drew.drew.trans t7)
        have hs := (show Tch [] w2_8 w3_9 from by first | exact t7 | exact (Tch.refl [] _).drew.trans t7 | exact (Tch.refl [] _).drew.drew.trans t7 | exact (Tch.refl [] _).drew.drew.drew.trans t7).blk HS2_8.out (by simp)
        have HS3_9 := Lib.hid hs
        clear s0 s1 s2 s3 hsl hsf
        have s0 : w3_9.cell? ⟨S_7, 0, none⟩ = some (.int .i64 0) := hs.cell 0 (by omega)
        have s1 : w3_9.cell? ⟨S_7, 1, none⟩ = some (.int .i64 0) := hs.cell 1 (by omega)
        have s2 : w3_9.cell? ⟨S_7, 2, none⟩ = some (.int .i64 0) := hs.cell 2 (by omega)
        have s3 : w3_9.cell? ⟨S_7, 3, none⟩ = some (.int .i64 0) := hs.cell 3 (by omega)
        have hsl := hs.lt
        have hsf := hs.frozen
        clear hs
        clear t7 x4 x5 l6 l7 l8 l9 r6 r7 r8 r9 zX zL zR
        obtain ⟨x4, x5, l6, l7, l8, l9, r6, r7, r8, r9, zX, zL, zR⟩ := HC18.out _ T3_9.out
        go_wp2_with first | (with_reducible exact True.intro) | (with_reducible refine wpE_takes_nil ?_) | (with_reducible refine wpE_done ?_) | (refine wpE_take rfl rfl (fun _ _ => ?_)) | (refine wpE_skip rfl rfl ?_) | (with_reducible exact agains_nil) | (refine agains_cons rfl (fun _ => ?_) ?_) | (with_reducible refine wpE_same ?_) | (refine And.intro (rfl : (_ : World) = _) ?_) | (with_reducible refine wpE_and ?_ ?_)
        go_wp2_with first | (with_reducible exact True.intro) | (with_reducible exact wpE_none) | (with_reducible refine wpE_takes_nil ?_) | (with_reducible refine wpE_done ?_) | (refine wpE_take rfl rfl (fun _ _ => ?_)) | (refine wpE_skip rfl rfl ?_) | (refine wpE_fork rfl rfl (fun _ _ => ?_) ?_) | (with_reducible exact agains_nil) | (refine agains_cons rfl (fun _ => ?_) ?_) | (with_reducible refine wpE_same ?_) | (refine And.intro (rfl : (_ : World) = _) ?_) | (with_reducible refine wpE_and ?_ ?_)
        have HQE : q3 = y.sum := by rw [Q3.out, Q2.out, Q1.out]; exact HSM.out
        have Z := sumr_set (q := q3) HS3_9.out HGE.out T3_9.out
        rw [HQE] at Z
        rw [HQE]
        refine HQQ.out _ _ _ _ _ _ _ _ _ _ _ _ _ _ _ _ _ ?_
        first | exact Z | exact Z.drew | exact Z.drew.drew | exact Z.drew.drew.drew
    · skip
      go_wp2_with fail
      generalize hW : World.alloc _ _ = wA_10
      have hs : Blk wA_10 w0_1.heap.size 29 4 (scell ⟨0, 0, 0, 0⟩) := by rw [← hW]; exact sum_made _ ⟨0, 0, 0, 0⟩
      have TA_10 : Hid (Tch [] wc wA_10) := Lib.hid (by rw [← hW]; first | exact T0_1.out.new _ | exact T0_1.out.drew.new _ | exact T0_1.out.drew.drew.new _)
      clear hW
      generalize hSe : w0_1.heap.size = S_10 at hs ⊢
      have hge : wc.heap.size ≤ S_10 := by rw [← hSe]; exact T0_1.out.size
      have HSA_10 := Lib.hid hs
      have HGE := Lib.hid hge
      have s0 : wA_10.cell? ⟨S_10, 0, none⟩ = some (.int .i64 0) := hs.cell 0 (by omega)
      have s1 : wA_10.cell? ⟨S_10, 1, none⟩ = some (.int .i64 0) := hs.cell 1 (by omega)
      have s2 : wA_10.cell? ⟨S_10, 2, none⟩ = some (.int .i64 0) := hs.cell 2 (by omega)
      have s3 : wA_10.cell? ⟨S_10, 3, none⟩ = some (.int .i64 0) := hs.cell 3 (by omega)
      have hsl := hs.lt
      have hsf := hs.frozen
      clear hs hge hSe
      clear x4 x5 l6 l7 l8 l9 r6 r7 r8 r9 zX zL zR
      obtain ⟨x4, x5, l6, l7, l8, l9, r6, r7, r8, r9, zX, zL, zR⟩ := HC18.out _ TA_10.out
      go_wp2_with first | (with_reducible exact True.intro) | (with_reducible refine wpE_takes_nil ?_) | (with_reducible refine wpE_done ?_) | (refine wpE_take rfl rfl (fun _ _ => ?_)) | (refine wpE_skip rfl rfl ?_) | (with_reducible exact agains_nil) | (refine agains_cons rfl (fun _ => ?_) ?_) | (with_reducible refine wpE_same ?_) | (refine And.intro (rfl : (_ : World) = _) ?_) | (with_reducible refine wpE_and ?_ ?_)
      refine wpE_fork rfl rfl (fun _ _ => ?_) wpE_none
      go_wp2_with fail
      go_at_call 60
      refine (join_agg _ _ _ _ _ _ _ _ _).mono ?_
      rintro e w1_11 ⟨q1, hq1, rfl, t7⟩
      have Q1 := Lib.hid hq1
      clear hq1
      have T1_11 : Hid (Tch [] wc w1_11) := Lib.hid (by first | exact TA_10.out.trans t7 | exact TA_10.out.drew.trans t7 | exact TA_10.out.drew.drew.trans t7 | exact TA_10.out.drew.drew.drew.trans t7)
      have hs := (show Tch [] wA_10 w1_11 from by first | exact t7 | exact (Tch.refl [] _).drew.trans t7 | exact (Tch.refl [] _).drew.drew.trans t7 | exact (Tch.refl [] _).drew.drew.drew.trans t7).blk HSA_10.out (by simp)
      have HS1_11 := Lib.hid hs
      clear s0 s1 s2 s3 hsl hsf
      have s0 : w1_11.cell? ⟨S_10, 0, none⟩ = some (.int .i64 0) := hs.cell 0 (by omega)
      have s1 : w1_11.cell? ⟨S_10, 1, none⟩ = some (.int .i64 0) := hs.cell 1 (by omega)
      have s2 : w1_11.cell? ⟨S_10, 2, none⟩ = some (.int .i64 0) := hs.cell 2 (by omega)
      have s3 : w1_11.cell? ⟨S_10, 3, none⟩ = some (.int .i64 0) := hs.cell 3 (by omega)
      have hsl := hs.lt
      have hsf := hs.frozen
      clear hs
      clear t7 x4 x5 l6 l7 l8 l9 r6 r7 r8 r9 zX zL zR
      obtain ⟨x4, x5, l6, l7, l8, l9, r6, r7, r8, r9, zX, zL, zR⟩ := HC18.out _ T1_11.out
      go_wp2_with first | (with_reducible exact True.intro) | (with_reducible refine wpE_takes_nil ?_) | (with_reducible refine wpE_done ?_) | (refine wpE_take rfl rfl (fun _ _ => ?_)) | (refine wpE_skip rfl rfl ?_) | (with_reducible exact agains_nil) | (refine agains_cons rfl (fun _ => ?_) ?_) | (with_reducible refine wpE_same ?_) | (refine And.intro (rfl : (_ : World) = _) ?_) | (with_reducible refine wpE_and ?_ ?_)
      refine wpE_fork rfl rfl (fun _ _ => ?_) wpE_none
      go_wp2_with fail
      go_at_call 60
      refine (join_agg _ _ _ _ _ _ _ _ _).mono ?_
      rintro e w2_12 ⟨q2, hq2, rfl, t7⟩
      have Q2 := Lib.hid hq2
      clear hq2
      have T2_12 : Hid (Tch [] wc w2_12) := Lib.hid (by first | exact T1_11.out.trans t7 | exact T1_11.out.drew.trans t7 | exact T1_11.out.drew.drew.trans t7 | exact T1_11.out.drew.drew.drew.trans t7)
      have hs := (show Tch [] w1_11 w2_12 from by first | exact t7 | exact (Tch.refl [] _).drew.trans t7 | exact (Tch.refl [] _).drew.drew.trans t7 | exact (Tch.refl [] _).drew.drew.drew.trans t7).blk HS1_11.out (by simp)
      have HS2_12 := Lib.hid hs
      clear s0 s1 s2 s3 hsl hsf
      have s0 : w2_12.cell? ⟨S_10, 0, none⟩ = some (.int .i64 0) := hs.cell 0 (by omega)
      have s1 : w2_12.cell? ⟨S_10, 1, none⟩ = some (.int .i64 0) := hs.cell 1 (by omega)
      have s2 : w2_12.cell? ⟨S_10, 2, none⟩ = some (.int .i64 0) := hs.cell 2 (by omega)
      have s3 : w2_12.cell? ⟨S_10, 3, none⟩ = some (.int .i64 0) := hs.cell 3 (by omega)
      have hsl := hs.lt
      have hsf := hs.frozen
      clear hs
      clear t7 x4 x5 l6 l7 l8 l9 r6 r7 r8 r9 zX zL zR
      obtain ⟨x4, x5, l6, l7, l8, l9, r6, r7, r8, r9, zX, zL, zR⟩ := HC18.out _ T2_12.out
      go_wp2_with first | (with_reducible exact True.intro) | (with_reducible refine wpE_takes_nil ?_) | (with_reducible refine wpE_done ?_) | (refine wpE_take rfl rfl (fun _ _ => ?_)) | (refine wpE_skip rfl rfl ?_) | (with_reducible exact agains_nil) | (refine agains_cons rfl (fun _ => ?_) ?_) | (with_reducible refine wpE_same ?_) | (refine And.intro (rfl : (_ : World) = _) ?_) | (with_reducible refine wpE_and ?_ ?_)
      refine wpE_fork rfl rfl (fun _ _ => ?_) wpE_none
      go_wp2_with fail
      go_at_call 59
      refine (lift_agg _ _ _ _ _ _).mono ?_
      rintro e w3_13 ⟨q3, hq3, rfl, t7⟩
      have Q3 := Lib.hid hq3
      clear hq3
      have T3_13 : Hid (Tch [] wc w3_13) := Lib.hid (by first | exact T2_12.out.trans t7 | exact T2_12.out.drew.trans t7 | exact T2_12.out.drew.drew.trans t7 | exact T2_12.out.drew.drew.drew.trans t7)
      have hs := (show Tch [] w2_12 w3_13 from by first | exact t7 | exact (Tch.refl [] _).drew.trans t7 | exact (Tch.refl [] _).drew.drew.trans t7 | exact (Tch.refl [] _).drew.drew.drew.trans t7).blk HS2_12.out (by simp)
      have HS3_13 := Lib.hid hs
      clear s0 s1 s2 s3 hsl hsf
      have s0 : w3_13.cell? ⟨S_10, 0, none⟩ = some (.int .i64 0) := hs.cell 0 (by omega)
      have s1 : w3_13.cell? ⟨S_10, 1, none⟩ = some (.int .i64 0) := hs.cell 1 (by omega)
      have s2 : w3_13.cell? ⟨S_10, 2, none⟩ = some (.int .i64 0) := hs.cell 2 (by omega)
      have s3 : w3_13.cell? ⟨S_10, 3, none⟩ = some (.int .i64 0) := hs.cell 3 (by omega)
      have hsl := hs.lt
      have hsf := hs.frozen
      clear hs
      clear t7 x4 x5 l6 l7 l8 l9 r6 r7 r8 r9 zX zL zR
      obtain ⟨x4, x5, l6, l7, l8, l9, r6, r7, r8, r9, zX, zL, zR⟩ := HC18.out _ T3_13.out
      go_wp2_with first | (with_reducible exact True.intro) | (with_reducible refine wpE_takes_nil ?_) | (with_reducible refine wpE_done ?_) | (refine wpE_take rfl rfl (fun _ _ => ?_)) | (refine wpE_skip rfl rfl ?_) | (with_reducible exact agains_nil) | (refine agains_cons rfl (fun _ => ?_) ?_) | (with_reducible refine wpE_same ?_) | (refine And.intro (rfl : (_ : World) = _) ?_) | (with_reducible refine wpE_and ?_ ?_)
      go_wp2_with first | (with_reducible exact True.intro) | (with_reducible exact wpE_none) | (with_reducible refine wpE_takes_nil ?_) | (with_reducible refine wpE_done ?_) | (refine wpE_take rfl rfl (fun _ _ => ?_)) | (refine wpE_skip rfl rfl ?_) | (refine wpE_fork rfl rfl (fun _ _ => ?_) ?_) | (with_reducible exact agains_nil) | (refine agains_cons rfl (fun _ => ?_) ?_) | (with_reducible refine wpE_same ?_) | (refine And.intro (rfl : (_ : World) = _) ?_) | (with_reducible refine wpE_and ?_ ?_)
      have HQE : q3 = y.sum := by rw [Q3.out, Q2.out, Q1.out]; exact HSM.out
      have Z := sumr_set (q := q3) HS3_13.out HGE.out T3_13.out
      rw [HQE] at Z
      rw [HQE]
      refine HQQ.out _ _ _ _ _ _ _ _ _ _ _ _ _ _ _ _ _ ?_
      first | exact Z | exact Z.drew | exact Z.drew.drew | exact Z.drew.drew.drew
  · skip
    go_wp2_with fail
    generalize hW : World.alloc _ _ = wA_14
    have hs : Blk wA_14 wc.heap.size 29 4 (scell ⟨0, 0, 0, 0⟩) := by rw [← hW]; exact sum_made _ ⟨0, 0, 0, 0⟩
    have TA_14 : Hid (Tch [] wc wA_14) := Lib.hid (by rw [← hW]; first | exact Tc.out.new _ | exact Tc.out.drew.new _ | exact Tc.out.drew.drew.new _)
    clear hW
    generalize hSe : wc.heap.size = S_14 at hs ⊢
    have hge : wc.heap.size ≤ S_14 := by rw [← hSe]; exact Tc.out.size
    have HSA_14 := Lib.hid hs
    have HGE := Lib.hid hge
    have s0 : wA_14.cell? ⟨S_14, 0, none⟩ = some (.int .i64 0) := hs.cell 0 (by omega)
    have s1 : wA_14.cell? ⟨S_14, 1, none⟩ = some (.int .i64 0) := hs.cell 1 (by omega)
    have s2 : wA_14.cell? ⟨S_14, 2, none⟩ = some (.int .i64 0) := hs.cell 2 (by omega)
    have s3 : wA_14.cell? ⟨S_14, 3, none⟩ = some (.int .i64 0) := hs.cell 3 (by omega)
    have hsl := hs.lt
    have hsf := hs.frozen
    clear hs hge hSe
    clear x4 x5 l6 l7 l8 l9 r6 r7 r8 r9 zX zL zR
    obtain ⟨x4, x5, l6, l7, l8, l9, r6, r7, r8, r9, zX, zL, zR⟩ := HC18.out _ TA_14.out
    go_wp2_with first | (with_reducible exact True.intro) | (with_reducible refine wpE_takes_nil ?_) | (with_reducible refine wpE_done ?_) | (refine wpE_take rfl rfl (fun _ _ => ?_)) | (refine wpE_skip rfl rfl ?_) | (with_reducible exact agains_nil) | (refine agains_cons rfl (fun _ => ?_) ?_) | (with_reducible refine wpE_same ?_) | (refine And.intro (rfl : (_ : World) = _) ?_) | (with_reducible refine wpE_and ?_ ?_)
    refine wpE_fork rfl rfl (fun _ _ => ?_) wpE_none
    go_wp2_with fail
    go_at_call 61
    refine (one_any (wrap64 (y.w - y.add)) _).mono ?_
    rintro e w0_15 ⟨rfl, t7⟩
    simp only [Sm.val, Sm.one]
    have T0_15 : Hid (Tch [] wc w0_15) := Lib.hid (by first | exact TA_14.out.trans t7 | exact TA_14.out.drew.trans t7 | exact TA_14.out.drew.drew.trans t7 | exact TA_14.out.drew.drew.drew.trans t7)
    have hs := (show Tch [] wA_14 w0_15 from by first | exact t7 | exact (Tch.refl [] _).drew.trans t7 | exact (Tch.refl [] _).drew.drew.trans t7 | exact (Tch.refl [] _).drew.drew.drew.trans t7).blk HSA_14.out (by simp)
    have HS0_15 := Lib.hid hs
    clear s0 s1 s2 s3 hsl hsf
    have s0 : w0_15.cell? ⟨S_14, 0, none⟩ = some (.int .i64 0) := hs.cell 0 (by omega)
    have s1 : w0_15.cell? ⟨S_14, 1, none⟩ = some (.int .i64 0) := hs.cell 1 (by omega)
    have s2 : w0_15.cell? ⟨S_14, 2, none⟩ = some (.int .i64 0) := hs.cell 2 (by omega)
    have s3 : w0_15.cell? ⟨S_14, 3, none⟩ = some (.int .i64 0) := hs.cell 3 (by omega)
    have hsl := hs.lt
    have hsf := hs.frozen
    clear hs
    clear t7 x4 x5 l6 l7 l8 l9 r6 r7 r8 r9 zX zL zR
    obtain ⟨x4, x5, l6, l7, l8, l9, r6, r7, r8, r9, zX, zL, zR⟩ := HC18.out _ T0_15.out
    go_wp2_with first | (with_reducible exact True.intro) | (with_reducible refine wpE_takes_nil ?_) | (with_reducible refine wpE_done ?_) | (refine wpE_take rfl rfl (fun _ _ => ?_)) | (refine wpE_skip rfl rfl ?_) | (with_reducible exact agains_nil) | (refine agains_cons rfl (fun _ => ?_) ?_) | (with_reducible refine wpE_same ?_) | (refine And.intro (rfl : (_ : World) = _) ?_) | (with_reducible refine wpE_and ?_ ?_)
    refine wpE_fork rfl rfl (fun _ _ => ?_) wpE_none
    go_wp2_with fail
    go_at_call 60
    refine (join_agg _ _ _ _ _ _ _ _ _).mono ?_
    rintro e w1_16 ⟨q1, hq1, rfl, t7⟩
    have Q1 := Lib.hid hq1
    clear hq1
    have T1_16 : Hid (Tch [] wc w1_16) := Lib.hid (by first | exact T0_15.out.trans t7 | exact T0_15.out.drew.trans t7 | exact T0_15.out.drew.drew.trans t7 | exact T0_15.out.drew.drew.drew.trans t7)
    have hs := (show Tch [] w0_15 w1_16 from by first | exact t7 | exact (Tch.refl [] _).drew.trans t7 | exact (Tch.refl [] _).drew.drew.trans t7 | exact (Tch.refl [] _).drew.drew.drew.trans t7).blk HS0_15.out (by simp)
    have HS1_16 := Lib.hid hs
    clear s0 s1 s2 s3 hsl hsf
    have s0 : w1_16.cell? ⟨S_14, 0, none⟩ = some (.int .i64 0) := hs.cell 0 (by omega)
    have s1 : w1_16.cell? ⟨S_14, 1, none⟩ = some (.int .i64 0) := hs.cell 1 (by omega)
    have s2 : w1_16.cell? ⟨S_14, 2, none⟩ = some (.int .i64 0) := hs.cell 2 (by omega)
    have s3 : w1_16.cell? ⟨S_14, 3, none⟩ = some (.int .i64 0) := hs.cell 3 (by omega)
    have hsl := hs.lt
    have hsf := hs.frozen
    clear hs
    clear t7 x4 x5 l6 l7 l8 l9 r6 r7 r8 r9 zX zL zR
    obtain ⟨x4, x5, l6, l7, l8, l9, r6, r7, r8, r9, zX, zL, zR⟩ := HC18.out _ T1_16.out
    go_wp2_with first | (with_reducible exact True.intro) | (with_reducible refine wpE_takes_nil ?_) | (with_reducible refine wpE_done ?_) | (refine wpE_take rfl rfl (fun _ _ => ?_)) | (refine wpE_skip rfl rfl ?_) | (with_reducible exact agains_nil) | (refine agains_cons rfl (fun _ => ?_) ?_) | (with_reducible refine wpE_same ?_) | (refine And.intro (rfl : (_ : World) = _) ?_) | (with_reducible refine wpE_and ?_ ?_)
    refine wpE_fork rfl rfl (fun _ _ => ?_) wpE_none
    go_wp2_with fail
    go_at_call 60
    refine (join_agg _ _ _ _ _ _ _ _ _).mono ?_
    rintro e w2_17 ⟨q2, hq2, rfl, t7⟩
    have Q2 := Lib.hid hq2
    clear hq2
    have T2_17 : Hid (Tch [] wc w2_17) := Lib.hid (by first | exact T1_16.out.trans t7 | exact T1_16.out.drew.trans t7 | exact T1_16.out.drew.drew.trans t7 | exact T1_16.out.drew.drew.drew.trans t7)
    have hs := (show Tch [] w1_16 w2_17 from by first | exact t7 | exact (Tch.refl [] _).drew.trans t7 | exact (Tch.refl [] _).drew.drew.trans t7 | exact (Tch.refl [] _).drew.drew.drew.trans t7).blk HS1_16.out (by simp)
    have HS2_17 := Lib.hid hs
    clear s0 s1 s2 s3 hsl hsf
    have s0 : w2_17.cell? ⟨S_14, 0, none⟩ = some (.int .i64 0) := hs.cell 0 (by omega)
    have s1 : w2_17.cell? ⟨S_14, 1, none⟩ = some (.int .i64 0) := hs.cell 1 (by omega)
    have s2 : w2_17.cell? ⟨S_14, 2, none⟩ = some (.int .i64 0) := hs.cell 2 (by omega)
    have s3 : w2_17.cell? ⟨S_14, 3, none⟩ = some (.int .i64 0) := hs.cell 3 (by omega)
    have hsl := hs.lt
    have hsf := hs.frozen
    clear hs
    clear t7 x4 x5 l6 l7 l8 l9 r6 r7 r8 r9 zX zL zR
    obtain ⟨x4, x5, l6, l7, l8, l9, r6, r7, r8, r9, zX, zL, zR⟩ := HC18.out _ T2_17.out
    go_wp2_with first | (with_reducible exact True.intro) | (with_reducible refine wpE_takes_nil ?_) | (with_reducible refine wpE_done ?_) | (refine wpE_take rfl rfl (fun _ _ => ?_)) | (refine wpE_skip rfl rfl ?_) | (with_reducible exact agains_nil) | (refine agains_cons rfl (fun _ => ?_) ?_) | (with_reducible refine wpE_same ?_) | (refine And.intro (rfl : (_ : World) = _) ?_) | (with_reducible refine wpE_and ?_ ?_)
    refine wpE_fork rfl rfl (fun _ _ => ?_) wpE_none
    go_wp2_with fail
    go_at_call 59
    refine (lift_agg _ _ _ _ _ _).mono ?_
    rintro e w3_18 ⟨q3, hq3, rfl, t7⟩
    have Q3 := Lib.hid hq3
    clear hq3
    have T3_18 : Hid (Tch [] wc w3_18) := Lib.hid (by first | exact T2_17.out.trans t7 | exact T2_17.out.drew.trans t7 | exact T2_17.out.drew.drew.trans t7 | exact T2_17.out.drew.drew.drew.trans t7)
    have hs := (show Tch [] w2_17 w3_18 from by first | exact t7 | exact (Tch.refl [] _).drew.trans t7 | exact (Tch.refl [] _).drew.drew.trans t7 | exact (Tch.refl [] _).drew.drew.drew.trans t7).blk HS2_17.out (by simp)
    have HS3_18 := Lib.hid hs
    clear s0 s1 s2 s3 hsl hsf
    have s0 : w3_18.cell? ⟨S_14, 0, none⟩ = some (.int .i64 0) := hs.cell 0 (by omega)
    have s1 : w3_18.cell? ⟨S_14, 1, none⟩ = some (.int .i64 0) := hs.cell 1 (by omega)
    have s2 : w3_18.cell? ⟨S_14, 2, none⟩ = some (.int .i64 0) := hs.cell 2 (by omega)
    have s3 : w3_18.cell? ⟨S_14, 3, none⟩ = some (.int .i64 0) := hs.cell 3 (by omega)
    have hsl := hs.lt
    have hsf := hs.frozen
    clear hs
    clear t7 x4 x5 l6 l7 l8 l9 r6 r7 r8 r9 zX zL zR
    obtain ⟨x4, x5, l6, l7, l8, l9, r6, r7, r8, r9, zX, zL, zR⟩ := HC18.out _ T3_18.out
    go_wp2_with first | (with_reducible exact True.intro) | (with_reducible refine wpE_takes_nil ?_) | (with_reducible refine wpE_done ?_) | (refine wpE_take rfl rfl (fun _ _ => ?_)) | (refine wpE_skip rfl rfl ?_) | (with_reducible exact agains_nil) | (refine agains_cons rfl (fun _ => ?_) ?_) | (with_reducible refine wpE_same ?_) | (refine And.intro (rfl : (_ : World) = _) ?_) | (with_reducible refine wpE_and ?_ ?_)
    go_wp2_with first | (with_reducible exact True.intro) | (with_reducible exact wpE_none) | (with_reducible refine wpE_takes_nil ?_) | (with_reducible refine wpE_done ?_) | (refine wpE_take rfl rfl (fun _ _ => ?_)) | (refine wpE_skip rfl rfl ?_) | (refine wpE_fork rfl rfl (fun _ _ => ?_) ?_) | (with_reducible exact agains_nil) | (refine agains_cons rfl (fun _ => ?_) ?_) | (with_reducible refine wpE_same ?_) | (refine And.intro (rfl : (_ : World) = _) ?_) | (with_reducible refine wpE_and ?_ ?_)
    have HQE : q3 = y.sum := by rw [Q3.out, Q2.out, Q1.out]; exact HSM.out
    have Z := sumr_set (q := q3) HS3_18.out HGE.out T3_18.out
    rw [HQE] at Z
    rw [HQE]
    refine HQQ.out _ _ _ _ _ _ _ _ _ _ _ _ _ _ _ _ _ ?_
    first | exact Z | exact Z.drew | exact Z.drew.drew | exact Z.drew.drew.drew
end Go.Proofs.Ytaipladbgdcedaa
namespace Go.Proofs.Ytaipladbgdcedaa
open Go.RowKit

set_option maxRecDepth 1000000 in
set_option maxHeartbeats 8000000 in
theorem reg3 (z1 z2 z3 z4 z5 z6 z7 z8 z9 z10 z11 z12 z13 z14 z15 z16 z17 z18 z19 z20 z21 z22 z23 z24 z25 z26 z27 z28 z29 z30 z31 z32 z33 z34 z35 z36 z37 z38 z39 z40 z41 z42 z43 z44 z45 z46 z47 z48 z49 z50 z51 z52 z53 z54 z55 z56 z57 z58 z59 z60 z61 z62 z63 z64 z65 z66 z67 z68 z69 z70 z71 z72 z73 z74 z75 z76 z77 z78 z79 z80 z81 z82 z83 z84 z85 z86 z87 z88 z89 z90 z91 z92 z93 z94 z95 z96 z97 z98 z99 z100 z101 z102 z103 z104 z105 z106 z107 z108 z109 z110 z111 z112 z113 z114 z115 z116 z117 z118 z119 z120 z121 z122 z123 z124 z125 z126 z127 z128 z129 z130 z131 z132 z133 z134 z135 z136 z137 z138 z139 z140 z141 z142 z143 z144 z145 z146 z147 z148 z149 z150 z151 z152 z153 z154 z155 z156 z157 z158 z159 z160 z161 z162 z163 z164 z165 z166 z167 z168 z169 z170 z171 z172 z173 z174 z175 z176 z177 z178 z179 z180 z181 z182 z183 z184 z185 z186 z187 z188 z189 z190 z191 z192 z193 z194 z195 z196 z197 z198 z199 z200 z201 z202 z203 z204 z205 z206 z207 z208 z209 z210 z211 z212 z213 z214 z215 z216 z217 z218 z219 z220 z221 z222 z223 z224 z225 z226 z227 z228 z229 z230 z231 z232 z233 z234 z235 z236 z237 z238 z239 : Value) (F A m : Nat) (st : St) (G : Fo) (wc : World) (h1 : FR wc F A m st) (hm : m ≤ 101) (hG : FoOk G) (Q : Exit → Act → World → Prop)
    (hQ : ∀ (k3 k4 k23 k24 k25 k26 k27 k28 k29 k30 k31 k32 k33 k34 : Value) (wx : World), (∃ V1 V2, k3 = .slice (some ⟨V1, 0, none⟩) m m ∧ k4 = .slice (some ⟨V2, 0, none⟩) m m ∧ CK wc wx F A m st V1 V2 (hungOf st G (fun x => (st x).tn) 1) (hungOf st G (fun x => (st x).ts) 1)) → Q .normal ⟨#[.pointer (some ⟨F, 0, none⟩), z1, z2, k3, k4, z5, z6, z7, z8, z9, z10, z11, z12, z13, z14, z15, z16, z17, z18, z19, z20, z21, z22, k23, k24, k25, k26, k27, k28, k29, k30, k31, k32, k33, k34, z35, z36, z37, z38, z39, z40, z41, z42, z43, z44, z45, z46, z47, z48, z49, z50, z51, z52, z53, z54, z55, z56, z57, z58, z59, z60, z61, z62, z63, z64, z65, z66, z67, z68, z69, z70, z71, z72, z73, z74, z75, z76, z77, z78, z79, z80, z81, z82, z83, z84, z85, z86, z87, z88, z89, z90, z91, z92, z93, z94, z95, z96, z97, z98, z99, z100, z101, z102, z103, z104, z105, z106, z107, z108, z109, z110, z111, z112, z113, z114, z115, z116, z117, z118, z119, z120, z121, z122, z123, z124, z125, z126, z127, z128, z129, z130, z131, z132, z133, z134, z135, z136, z137, z138, z139, z140, z141, z142, z143, z144, z145, z146, z147, z148, z149, z150, z151, z152, z153, z154, z155, z156, z157, z158, z159, z160, z161, z162, z163, z164, z165, z166, z167, z168, z169, z170, z171, z172, z173, z174, z175, z176, z177, z178, z179, z180, z181, z182, z183, z184, z185, z186, z187, z188, z189, z190, z191, z192, z193, z194, z195, z196, z197, z198, z199, z200, z201, z202, z203, z204, z205, z206, z207, z208, z209, z210, z211, z212, z213, z214, z215, z216, z217, z218, z219, z220, z221, z222, z223, z224, z225, z226, z227, z228, z229, z230, z231, z232, z233, z234, z235, z236, z237, z238, z239], []⟩ wx) :
    Code.wp Try.prog (reg24 3) Q ⟨#[.pointer (some ⟨F, 0, none⟩), z1, z2, z3, z4, z5, z6, z7, z8, z9, z10, z11, z12, z13, z14, z15, z16, z17, z18, z19, z20, z21, z22, z23, z24, z25, z26, z27, z28, z29, z30, z31, z32, z33, z34, z35, z36, z37, z38, z39, z40, z41, z42, z43, z44, z45, z46, z47, z48, z49, z50, z51, z52, z53, z54, z55, z56, z57, z58, z59, z60, z61, z62, z63, z64, z65, z66, z67, z68, z69, z70, z71, z72, z73, z74, z75, z76, z77, z78, z79, z80, z81, z82, z83, z84, z85, z86, z87, z88, z89, z90, z91, z92, z93, z94, z95, z96, z97, z98, z99, z100, z101, z102, z103, z104, z105, z106, z107, z108, z109, z110, z111, z112, z113, z114, z115, z116, z117, z118, z119, z120, z121, z122, z123, z124, z125, z126, z127, z128, z129, z130, z131, z132, z133, z134, z135, z136, z137, z138, z139, z140, z141, z142, z143, z144, z145, z146, z147, z148, z149, z150, z151, z152, z153, z154, z155, z156, z157, z158, z159, z160, z161, z162, z163, z164, z165, z166, z167, z168, z169, z170, z171, z172, z173, z174, z175, z176, z177, z178, z179, z180, z181, z182, z183, z184, z185, z186, z187, z188, z189, z190, z191, z192, z193, z194, z195, z196, z197, z198, z199, z200, z201, z202, z203, z204, z205, z206, z207, z208, z209, z210, z211, z212, z213, z214, z215, z216, z217, z218, z219, z220, z221, z222, z223, z224, z225, z226, z227, z228, z229, z230, z231, z232, z233, z234, z235, z236, z237, z238, z239], []⟩ wc := by
  have HQQ := Lib.hid hQ
  clear hQ
  obtain ⟨hF, hA⟩ := h1.lt
  have c0 := h1.c0
  have HMK := make_ints48 m (by omega)
  have H1 := Lib.hid h1
  have HG := Lib.hid hG
  clear h1 hG
  conv => arg 2; whnf
  refine region_any (.takes [0, 1, 2, 3, 4, 6, 7, 8, 9, 10] (.fork 5 [7, 8, 9, 10] (.takes [12] (.fork 11 [] (.takes [13] .done) .none)) (.fork 11 [1, 2, 3, 4] (.fork 5 [] (.takes [12, 13] .done) .none) .none))) (by kernel_rfl) (by kernel_rfl) rfl ?_
  go_wp2_with first | (with_reducible exact True.intro) | (with_reducible exact wpE_none) | (with_reducible refine wpE_takes_nil ?_) | (with_reducible refine wpE_done ?_) | (refine wpE_take rfl rfl (fun _ _ => ?_)) | (refine wpE_skip rfl rfl ?_) | (refine wpE_fork rfl rfl (fun _ _ => ?_) ?_) | (with_reducible exact agains_nil) | (refine agains_cons rfl (fun _ => ?_) ?_) | (with_reducible refine wpE_same ?_) | (refine And.intro (rfl : (_ : World) = _) ?_) | (with_reducible refine wpE_and ?_ ?_)
  · refine HQQ.out _ _ _ _ _ _ _ _ _ _ _ _ _ _ _ ⟨_, _, rfl, rfl, ?_⟩
    exact (made_ck HG.out H1.out _ _ (.inl ⟨rfl, rfl⟩)).on ((Tch.refl _ _).drewN _)
  · refine HQQ.out _ _ _ _ _ _ _ _ _ _ _ _ _ _ _ ⟨_, _, rfl, rfl, ?_⟩
    exact (made_ck HG.out H1.out _ _ (.inr ⟨rfl, rfl⟩)).on ((Tch.refl _ _).drewN _)
set_option maxRecDepth 1000000 in
set_option maxHeartbeats 8000000 in
theorem reg16 (z0 z1 z2 z5 z10 z11 z12 z13 z14 z15 z16 z17 z18 z19 z20 z21 z22 z23 z24 z25 z26 z27 z28 z29 z30 z31 z32 z33 z34 z35 z36 z37 z38 z39 z40 z41 z42 z43 z44 z45 z46 z47 z48 z49 z50 z51 z52 z53 z54 z55 z56 z57 z58 z59 z60 z61 z62 z63 z64 z65 z66 z67 z68 z69 z70 z71 z72 z73 z74 z75 z76 z77 z78 z79 z80 z81 z82 z83 z84 z85 z86 z87 z88 z89 z90 z91 z92 z93 z94 z95 z96 z97 z98 z99 z100 z101 z102 z103 z104 z105 z106 z107 z108 z109 z110 z111 z112 z113 z114 z115 z116 z117 z118 z119 z120 z121 z122 z123 z124 z125 z126 z127 z128 z129 z130 z131 z132 z133 z134 z135 z136 z137 z138 z139 z140 z141 z142 z143 z144 z145 z146 z147 z148 z149 z150 z151 z152 z153 z154 z155 z156 z157 z158 z159 z160 z161 z162 z163 z164 z165 z166 z167 z168 z169 z170 z171 z172 z173 z174 z175 z176 z177 z178 z179 z180 z181 z182 z183 z184 z185 z186 z187 z188 z189 z190 z191 z192 z193 z194 z195 z196 z197 z198 z199 z200 z201 z202 z203 z204 z205 z206 z207 z208 z209 z210 z211 z212 z213 z214 z215 z216 z217 z218 z219 z220 z221 z222 z223 z224 z225 z226 z227 z228 z229 z230 z231 z232 z233 z234 z235 z236 z237 z238 z239 : Value) (V1 V2 X L R m x l r lp rp : Nat) (v1 v2 : Int) (wc : World) (hm : m ≤ 101) (hx : x < m) (x0 : wc.cell? ⟨X, 0, none⟩ = some (.int .i64 (l : Int))) (x1 : wc.cell? ⟨X, 1, none⟩ = some (.int .i64 (r : Int))) (x10 : wc.cell? ⟨X, 10, none⟩ = some (.int .i64 v1)) (x11 : wc.cell? ⟨X, 11, none⟩ = some (.int .i64 v2)) (l2 : wc.cell? ⟨L, 2, none⟩ = some (.int .i64 (lp : Int))) (r2 : wc.cell? ⟨R, 2, none⟩ = some (.int .i64 (rp : Int))) (g1 : wc.cell? ⟨V1, x, none⟩ = some (.int .i64 v1)) (g2 : wc.cell? ⟨V2, x, none⟩ = some (.int .i64 v2)) (zV1 : V1 < wc.heap.size) (zV2 : V2 < wc.heap.size) (zX : X < wc.heap.size) (zL : L < wc.heap.size) (zR : R < wc.heap.size) (kl : l ≠ 0 → lp = x) (kr : r ≠ 0 → rp = x) (Q : Exit → Act → World → Prop)
    (hQ : ∀ (k145 k146 k147 k148 k149 k150 k151 k152 k153 k154 k155 k156 k157 k158 k159 k160 k161 k162 k163 k164 k165 k166 k167 k168 k169 k170 k171 k172 k173 k174 k175 k176 k177 k178 k179 k180 k181 k182 : Value) (wx : World), (k182 = .bool false ∧ Tch [] wc wx) → Q .normal ⟨#[z0, z1, z2, .slice (some ⟨V1, 0, none⟩) m m, .slice (some ⟨V2, 0, none⟩) m m, z5, .int .i64 (x : Int), .pointer (some ⟨X, 0, none⟩), .pointer (some ⟨L, 0, none⟩), .pointer (some ⟨R, 0, none⟩), z10, z11, z12, z13, z14, z15, z16, z17, z18, z19, z20, z21, z22, z23, z24, z25, z26, z27, z28, z29, z30, z31, z32, z33, z34, z35, z36, z37, z38, z39, z40, z41, z42, z43, z44, z45, z46, z47, z48, z49, z50, z51, z52, z53, z54, z55, z56, z57, z58, z59, z60, z61, z62, z63, z64, z65, z66, z67, z68, z69, z70, z71, z72, z73, z74, z75, z76, z77, z78, z79, z80, z81, z82, z83, z84, z85, z86, z87, z88, z89, z90, z91, z92, z93, z94, z95, z96, z97, z98, z99, z100, z101, z102, z103, z104, z105, z106, z107, z108, z109, z110, z111, z112, z113, z114, z115, z116, z117, z118, z119, z120, z121, z122, z123, z124, z125, z126, z127, z128, z129, z130, z131, z132, z133, z134, z135, z136, z137, z138, z139, z140, z141, z142, z143, z144, k145, k146, k147, k148, k149, k150, k151, k152, k153, k154, k155, k156, k157, k158, k159, k160, k161, k162, k163, k164, k165, k166, k167, k168, k169, k170, k171, k172, k173, k174, k175, k176, k177, k178, k179, k180, k181, k182, z183, z184, z185, z186, z187, z188, z189, z190, z191, z192, z193, z194, z195, z196, z197, z198, z199, z200, z201, z202, z203, z204, z205, z206, z207, z208, z209, z210, z211, z212, z213, z214, z215, z216, z217, z218, z219, z220, z221, z222, z223, z224, z225, z226, z227, z228, z229, z230, z231, z232, z233, z234, z235, z236, z237, z238, z239], []⟩ wx) :
    Code.wp Try.prog (reg24 16) Q ⟨#[z0, z1, z2, .slice (some ⟨V1, 0, none⟩) m m, .slice (some ⟨V2, 0, none⟩) m m, z5, .int .i64 (x : Int), .pointer (some ⟨X, 0, none⟩), .pointer (some ⟨L, 0, none⟩), .pointer (some ⟨R, 0, none⟩), z10, z11, z12, z13, z14, z15, z16, z17, z18, z19, z20, z21, z22, z23, z24, z25, z26, z27, z28, z29, z30, z31, z32, z33, z34, z35, z36, z37, z38, z39, z40, z41, z42, z43, z44, z45, z46, z47, z48, z49, z50, z51, z52, z53, z54, z55, z56, z57, z58, z59, z60, z61, z62, z63, z64, z65, z66, z67, z68, z69, z70, z71, z72, z73, z74, z75, z76, z77, z78, z79, z80, z81, z82, z83, z84, z85, z86, z87, z88, z89, z90, z91, z92, z93, z94, z95, z96, z97, z98, z99, z100, z101, z102, z103, z104, z105, z106, z107, z108, z109, z110, z111, z112, z113, z114, z115, z116, z117, z118, z119, z120, z121, z122, z123, z124, z125, z126, z127, z128, z129, z130, z131, z132, z133, z134, z135, z136, z137, z138, z139, z140, z141, z142, z143, z144, z145, z146, z147, z148, z149, z150, z151, z152, z153, z154, z155, z156, z157, z158, z159, z160, z161, z162, z163, z164, z165, z166, z167, z168, z169, z170, z171, z172, z173, z174, z175, z176, z177, z178, z179, z180, z181, z182, z183, z184, z185, z186, z187, z188, z189, z190, z191, z192, z193, z194, z195, z196, z197, z198, z199, z200, z201, z202, z203, z204, z205, z206, z207, z208, z209, z210, z211, z212, z213, z214, z215, z216, z217, z218, z219, z220, z221, z222, z223, z224, z225, z226, z227, z228, z229, z230, z231, z232, z233, z234, z235, z236, z237, z238, z239], []⟩ wc := by
  have HQQ := Lib.hid hQ
  clear hQ
  have HKL := Lib.hid kl
  have HKR := Lib.hid kr
  clear kl kr
  conv => arg 2; whnf
  by_cases hl0 : l = 0
  · have d1 : ((l : Int) != 0) = false := by rw [hl0]; simp
    clear hl0
    by_cases hr0 : r = 0
    · have d2 : ((r : Int) != 0) = false := by rw [hr0]; simp
      clear hr0
      go_wp2_with fail
      go_quiet (fail)
      go_wp2_with fail
      refine HQQ.out _ _ _ _ _ _ _ _ _ _ _ _ _ _ _ _ _ _ _ _ _ _ _ _ _ _ _ _ _ _ _ _ _ _ _ _ _ _ _ ⟨rfl, (Tch.refl _ _).drewN _⟩
    · have d2 : ((r : Int) != 0) = true := bne_iff_ne.2 (by omega)
      have k := HKR.out hr0
      rw [k] at r2
      clear hr0 k
      go_wp2_with fail
      go_quiet (fail)
      go_wp2_with fail
      refine HQQ.out _ _ _ _ _ _ _ _ _ _ _ _ _ _ _ _ _ _ _ _ _ _ _ _ _ _ _ _ _ _ _ _ _ _ _ _ _ _ _ ⟨rfl, (Tch.refl _ _).drewN _⟩
  · have d1 : ((l : Int) != 0) = true := bne_iff_ne.2 (by omega)
    have k := HKL.out hl0
    rw [k] at l2
    clear hl0 k
    by_cases hr0 : r = 0
    · have d2 : ((r : Int) != 0) = false := by rw [hr0]; simp
      clear hr0
      go_wp2_with fail
      go_quiet (fail)
      go_wp2_with fail
      refine HQQ.out _ _ _ _ _ _ _ _ _ _ _ _ _ _ _ _ _ _ _ _ _ _ _ _ _ _ _ _ _ _ _ _ _ _ _ _ _ _ _ ⟨rfl, (Tch.refl _ _).drewN _⟩
    · have d2 : ((r : Int) != 0) = true := bne_iff_ne.2 (by omega)
      have k := HKR.out hr0
      rw [k] at r2
      clear hr0 k
      go_wp2_with fail
      go_quiet (fail)
      go_wp2_with fail
      refine HQQ.out _ _ _ _ _ _ _ _ _ _ _ _ _ _ _ _ _ _ _ _ _ _ _ _ _ _ _ _ _ _ _ _ _ _ _ _ _ _ _ ⟨rfl, (Tch.refl _ _).drewN _⟩
end Go.Proofs.Ytaipladbgdcedaa
