/- TableKeeps holds: all ids that came, and did not go, are there with their numbers; for every count, step and list of those that go. -/
import Derived.Test.YtgnjjomfffmcaaaKeeps
import Derived.Test.YtgnjjomfffmcaaaClose
import Derived.Lib.SmallJoins
import Derived.Deep.QuietTactic
import Derived.BigQuiet
namespace Go.Proofs.Ytgnjjomfffmcaaa
open Go.ChangeShapes Go.WideShapes Go.ChangeAt Go.RowKit Go.Lib

/-- The table, and beside it the list of those that went. -/
structure KK (W w : World) (T C O k : Nat) (L : List (Nat × Int)) (o : Nat → Bool) : Prop where
  t : LT W w T C L
  o : Blk w O 4 k (fun j => .bool (o j))
  d : O ≠ T ∧ O ≠ C
  lo : W.heap.size ≤ O
theorem KK.quiet {W w w' : World} {T C O k : Nat} {L : List (Nat × Int)} {o : Nat → Bool} (h : KK W w T C O k L o) (t : Tch [] w w') : KK W w' T C O k L o :=
  ⟨h.t.quiet t, t.blk h.o (by simp), h.d, h.lo⟩
theorem KK.drop {W w w' : World} {T C O k : Nat} {L L' : List (Nat × Int)} {o : Nat → Bool} (h : KK W w T C O k L o) (r1 : TB w' T C L') (r2 : Tch [T, C] w w') : KK W w' T C O k L' o :=
  ⟨h.t.drop r1 r2, r2.blk h.o (by simp; exact h.d), h.d, h.lo⟩
theorem KK.mark {W w : World} {T C O k : Nat} {L : List (Nat × Int)} {o : Nat → Bool} (h : KK W w T C O k L o) (j : Nat) : KK W (w.setCell ⟨O, j, none⟩ (.bool true)) T C O k L (went o j) := by
  have t : Tch [O] w (w.setCell ⟨O, j, none⟩ (.bool true)) := (Tch.refl _ _).set (by simp) _
  refine ⟨⟨h.t.t.tch t (by simp; exact fun e => h.d.1 e.symm) (by simp; exact fun e => h.d.2 e.symm), h.t.lo, t.below h.t.b h.t.b.size (by simp; exact h.lo)⟩, (h.o.set j _).ext (fun i _ => ?_), h.d, h.lo⟩
  unfold went
  split <;> rfl

theorem info4 : (Try.prog.info? 4).map (fun i => (i.zero, i.size, i.bytes)) = some (some (.bool false), 1, 1) := by kernel_rfl
theorem make_bools (n : Nat) (hn : n ≤ 2000000) (w : World) :
    (Instr.makeSlice 44 (.int .i64 (n : Int)) (.int .i64 (n : Int))).run Try.prog w = .ok (.slice (some ⟨w.heap.size, 0, none⟩) n n) (w.alloc (.cells (Array.replicate n (.bool false)) 4)) := by
  obtain ⟨i0, hi, hz0, hz1, hz2⟩ := info_parts info4
  rw [run_make_at 44 4 i0 _ Try.underlying44 hi hz0 n (by rw [hz2]; omega) (by omega) w, hz1]
  simp only [Nat.mul_one]
  rw [show (Value.bool false).cells = #[.bool false] from rfl, made_one]

set_option maxRecDepth 100000 in
set_option maxHeartbeats 4000000 in
theorem keeps_any (n s : Nat) (hn : n ≤ 65535) (hs : s ≤ 4294967295) (ao : Option Addr) (N cap : Nat) (hN : N ≤ 9223372036854775807) (w : World)
    (hback : 0 < N → ∃ b off, ao = some ⟨b, off, none⟩ ∧ b < w.heap.size ∧ ∃ F : Nat → Int, ∀ i, i < N → (Lit.int .u8 (F i)).wf = true ∧ w.cell? ⟨b, off + i, none⟩ = some (.int .u8 (F i))) :
    Calls Try.prog 6 #[.int .u16 n, .int .u32 s, .slice ao N cap] w fun e w' => e = .returned (.bool true) ∧ Below w.heap.size w w' := by
  have HF : ∃ F : Nat → Nat, ∃ b off, (0 < N → ao = some ⟨b, off, none⟩ ∧ b < w.heap.size) ∧ ∀ i, i < N → F i ≤ 255 ∧ w.cell? ⟨b, off + i, none⟩ = some (.int .u8 (F i)) := by
    by_cases h0 : 0 < N
    · obtain ⟨b, off, e, hb, F, hF⟩ := hback h0
      refine ⟨fun i => (F i).toNat, b, off, fun _ => ⟨e, hb⟩, fun i hi => ?_⟩
      have := (hF i hi).1
      have h2 : 0 ≤ F i ∧ F i ≤ 255 := by simpa [Lit.wf, IntKind.min, IntKind.max, IntKind.signed, IntKind.bits] using this
      refine ⟨by show (F i).toNat ≤ 255; omega, ?_⟩
      show _ = some (Value.int .u8 ((F i).toNat : Int))
      rw [Int.toNat_of_nonneg h2.1]
      exact (hF i hi).2
    · exact ⟨fun _ => 0, 0, 0, fun h => absurd h h0, fun i hi => by omega⟩
  obtain ⟨F, b, off, hao, hF⟩ := HF
  have HA := Lib.hid hao
  have HF := Lib.hid hF
  clear hback hao hF
  obtain ⟨k, hk⟩ : ∃ k, n % 300 = k := ⟨_, rfl⟩
  obtain ⟨d, hd⟩ : ∃ d, s % 7000000 = d := ⟨_, rfl⟩
  have hk' : (n : Int) % 300 = (k : Int) := by omega
  have hd' : (s : Int) % 7000000 = (d : Int) := by omega
  have hk1 : k < 300 := by omega
  have hd1 : d < 7000000 := by omega
  clear hk hd
  have ids : ∀ i, i ≤ k → i * (1 + d) ≤ 2147483646 := by
    intro i hi
    have h1 : i * (1 + d) ≤ 299 * (1 + d) := Nat.mul_le_mul_right _ (by omega)
    omega
  have IDS := Lib.hid ids
  clear ids
  go_enter Try.func6, Try.ntmps6
  go_wp2_with fail
  go_at_call 13
  refine (tb_new w).mono ?_
  rintro e w1 ⟨rfl, r1, r2⟩
  have h1 := LT.new r1 r2
  generalize hT : w.heap.size = T at h1 ⊢
  have HT := Lib.hid hT
  clear r1 r2 hT
  go_wp2_with fail
  have hb0 : 0 < 1 + d := by omega
  have hb1 : 1 + d ≤ 7000000 := by omega
  rw [show (1 : Int) + (d : Int) = ((1 + d : Nat) : Int) by omega]
  generalize 1 + d = bb at *
  clear hk' hd' hd1
  go_loopw [10] (fun i wr => ∃ (q : Nat) (C : Nat), q ≤ k ∧ i = .int .i64 q ∧ LT w wr T C (KL bb q fun _ => false)) (fun i _ => k - (intOf i).toNat)
  case atStart => exact ⟨0, T, by omega, rfl, h1⟩
  case round =>
    clear h1
    obtain ⟨q, C, hq, rfl, h1⟩ := hrel
    have H1 := Lib.hid h1
    by_cases hqk : q < k
    · have hid := IDS.out q (by omega)
      have hm : (q : Int) * (bb : Int) = ((q * bb : Nat) : Int) := (Int.natCast_mul q bb).symm
      have HP := Lib.hid (tb_put wr T C _ h1.t ((q * bb : Nat) : Int) q (by rw [KL_len]; have := left_le q (fun _ => false); omega))
      rw [KL_puts bb q hb0 (by omega)] at HP
      generalize q * bb = z at *
      clear h1
      go_wp2_with fail
      go_at_call 9
      refine HP.out.mono ?_
      rintro e w2 ⟨rfl, p⟩
      have H2 := Lib.hid (H1.out.post p)
      clear p hm
      go_wp2_with fail
      go_roundw
      case rel =>
        obtain ⟨C', h2⟩ := H2.out
        exact ⟨q + 1, C', by omega, by go_num, h2⟩
      case measure => simp [intOf]; omega
    · obtain rfl : q = k := by omega
      have hmk := make_bools q (by omega)
      have hok : KK w (wr.alloc (.cells (Array.replicate q (.bool false)) 4)) T C wr.heap.size q (KL bb q fun _ => false) (fun _ => false) := by
        have := h1.t.lt
        exact ⟨h1.quiet ((Tch.refl _ _).new _), made_rep wr 4 q (.bool false), by omega, h1.b.size⟩
      have hOsz := Lib.hid hok.t.b.size
      clear h1
      go_wp2_with fail
      generalize wr.alloc (.cells (Array.replicate q (.bool false)) 4) = w2 at *
      generalize wr.heap.size = O at *
      have HOK := Lib.hid hok
      clear hok hmk
      go_loopw [12, 13] (fun i _ wr => ∃ (m : Nat) (o : Nat → Bool), m ≤ N ∧ m ≤ 300 ∧ i = .int .i64 m ∧ KK w wr T C O q (KL bb q o) o) (fun i _ _ => 300 - (intOf i).toNat)
      case atStart => exact ⟨0, _, by omega, by omega, rfl, HOK.out⟩
      case round =>
        obtain ⟨m, o, hmN, hm3, rfl, hkk⟩ := hrel
        have HK := Lib.hid hkk
        by_cases hc : m < N ∧ m < 300 ∧ 0 < q
        · obtain ⟨c1, c2, c3⟩ := hc
          have ⟨e1, e2⟩ := HA.out (by omega)
          subst e1
          obtain ⟨f1, f2⟩ := HF.out m c1
          have cF : wr.cell? ⟨b, off + m, none⟩ = some (.int .u8 (F m)) := (hkk.t.b.cell (p := ⟨b, off + m, none⟩) e2).trans f2
          have hbl : b < wr.heap.size := Nat.lt_of_lt_of_le e2 hkk.t.b.size
          generalize F m = f at *
          obtain ⟨j, hj⟩ : ∃ j, (f + m * 7) % q = j := ⟨_, rfl⟩
          have hj' : ((f : Int) + (m : Int) * 7) % (q : Int) = (j : Int) := by
            have e7 : (f : Int) + (m : Int) * 7 = ((f + m * 7 : Nat) : Int) := by omega
            rw [e7, ← hj]; rfl
          have hjq : j < q := by rw [← hj]; exact Nat.mod_lt _ c3
          have hid := IDS.out j (by omega)
          have hmul : (j : Int) * (bb : Int) = ((j * bb : Nat) : Int) := (Int.natCast_mul j bb).symm
          have hmul2 : IntKind.i64.wrap ((j * bb : Nat) : Int) = ((j * bb : Nat) : Int) := IntWalk.i64_in _ (by omega)
          have cO := hkk.o.cell j hjq
          have fO := hkk.o.frozen j
          have lO := hkk.o.lt
          have HD := Lib.hid fun (w3 : World) (h : KK w w3 T C O q (KL bb q o) o) => tb_drop w3 T C _ h.t.t ((j * bb : Nat) : Int) (by omega)
          rw [KL_look bb q j o hb0 hjq, KL_without bb q j o hb0] at HD
          clear hj f2 hkk
          generalize j * bb = z at *
          cases hoj : o j
          all_goals
            simp only [hoj, Bool.false_eq_true, if_false, if_true] at HD cO
            have HOJ := Lib.hid hoj
            clear hoj
            go_wp2_with fail
            refine region_any (.takes [0, 1, 2, 3, 5, 6, 7, 8] (.fork 4 [7, 8] (.takes [9] .done) .none)) (by kernel_rfl) (by kernel_rfl) rfl ?_
            go_wp2_with first | (go_at_call 10; refine (HD.out _ (HK.out.quiet ((Tch.refl _ _).drew))).mono ?_; rintro e w3 ⟨rfl, r1, r2⟩; have K3 := Lib.hid ((HK.out.quiet ((Tch.refl _ _).drew)).drop r1 r2); have c3 := K3.out.o.cell j hjq; simp only [HOJ.out] at c3; have g3 := K3.out.o.frozen j; have l3 := K3.out.o.lt) | (with_reducible exact wpE_none) | (with_reducible refine wpE_takes_nil ?_) | (with_reducible refine wpE_done ?_) | (refine wpE_take rfl rfl (fun _ _ => ?_)) | (refine wpE_skip rfl rfl ?_) | (refine wpE_fork rfl rfl (fun _ _ => ?_) ?_) | (with_reducible exact agains_nil) | (refine agains_cons rfl (fun _ => ?_) ?_) | (with_reducible refine wpE_same ?_) | (refine And.intro (rfl : (_ : World) = _) ?_) | (with_reducible refine wpE_and ?_ ?_)
            go_roundw
          case rel => exact ⟨m + 1, went o j, by omega, by omega, by go_num, K3.out.mark j⟩
          case rel => exact ⟨m + 1, went o j, by omega, by omega, by go_num, K3.out.mark j⟩
          case measure => simp [intOf]; omega
          case measure => simp [intOf]; omega
        · clear hkk
          have three : ¬ m < N ∨ (m < N ∧ ¬ m < 300) ∨ (m < N ∧ m < 300 ∧ ¬ 0 < q) := by omega
          clear hc
          rcases three with d1 | ⟨d1, d2⟩ | ⟨d1, d2, d3⟩
          all_goals
            go_wp2_with fail
            clear d1
            try clear d2
            try clear d3
            go_loopw [14, 15, 16, 17] (fun c i _ _ w3 => ∃ j : Nat, j ≤ q ∧ i = .int .i64 j ∧ c = .int .i64 (left j o) ∧ KK w w3 T C O q (KL bb q o) o) (fun _ i _ _ _ => q - (intOf i).toNat)
            case atStart => exact ⟨0, by omega, rfl, rfl, HK.out⟩
            case round =>
              obtain ⟨j, hjq, rfl, rfl, hkk⟩ := hrel
              have H3 := Lib.hid hkk
              have hid := IDS.out j (by omega)
              have hmul : (j : Int) * (bb : Int) = ((j * bb : Nat) : Int) := (Int.natCast_mul j bb).symm
              have hmul2 : IntKind.i64.wrap ((j * bb : Nat) : Int) = ((j * bb : Nat) : Int) := IntWalk.i64_in _ (by omega)
              have hlq := left_le j o
              by_cases hjk : j < q
              · have cO := hkk.o.cell j hjk
                have lO := hkk.o.lt
                have HG := Lib.hid (tb_get wr T C _ hkk.t.t ((j * bb : Nat) : Int) (by omega))
                rw [KL_look bb q j o hb0 hjk] at HG
                have HL := Lib.hid (left_succ j o)
                clear hkk
                generalize j * bb = z at *
                cases hoj : o j
                all_goals
                  simp only [hoj, Bool.false_eq_true, if_false, if_true] at HG cO HL
                  clear hoj
                  have hjj : ((j : Int) != (j : Int)) = false := by simp
                  go_wp2_with fail
                  go_at_call 7
                  refine HG.out.mono ?_
                  rintro e w4 ⟨rfl, rfl⟩
                  go_wp2_with fail
                  go_roundw
                case rel => exact ⟨j + 1, by omega, by go_num, by rw [HL.out]; go_num, H3.out⟩
                case rel => exact ⟨j + 1, by omega, by go_num, by rw [HL.out]; go_num, H3.out⟩
                case measure => simp [intOf]; omega
                case measure => simp [intOf]; omega
              · obtain rfl : j = q := by omega
                have HG := Lib.hid (tb_get wr T C _ hkk.t.t ((j * bb + 1 : Nat) : Int) (by omega))
                rw [KL_look_no bb j o] at HG
                have HKL := Lib.hid (KL_len bb j o)
                have hz1 : ((j * bb : Nat) : Int) + 1 = ((j * bb + 1 : Nat) : Int) := by omega
                have HZ := Lib.hid hz1
                clear hkk hz1
                generalize hzz : j * bb = z at *
                clear hzz
                go_wp2_with fail
                try rw [HZ.out]
                go_at_call 7
                refine HG.out.mono ?_
                rintro e w4 ⟨rfl, rfl⟩
                go_wp2_with fail
                go_at_call 8
                refine (awake_any _).mono ?_
                rintro e w9 ⟨rfl, b9⟩
                have h9 := Lib.hid (H3.out.quiet (Below.tch b9))
                clear b9
                go_wp2_with fail
                go_at_call 11
                refine (tb_len w9 T C _ h9.out.t.t).mono ?_
                rintro e w10 ⟨rfl, rfl⟩
                rw [HKL.out]
                go_wp2_with fail
                go_at_call 12
                refine (tb_list w9 T C _ h9.out.t.t).mono ?_
                rintro e w11 ⟨v, rfl, o11, t11⟩
                have h11 := Lib.hid (h9.out.quiet t11)
                obtain ⟨va, vc, hv, _⟩ := owns_form o11
                subst hv
                rw [HKL.out]
                clear o11 t11
                go_wp2_with fail
                go_ret
                exact ⟨by simp, h11.out.t.b⟩

set_option maxRecDepth 100000 in
theorem tableKeeps_lifted (os : Os) (started : os.Started) (H : Type) (enc : TypeId × Value → H) :
    ReturnsInHanded {} Try.checked os 6 .any (Rows.tableKeepsSpec.pre6 enc Try.prog Try.f6 Rows.tableKeepsRow.domain false) (Rows.tableKeepsSpec.post enc Try.prog Try.f6 false true false false) := by
  refine returnsInHanded_of_change (C := Try.checked) Try.own started (by kernel_rfl) Try.func6
    (ChangeSpec.witness6 (enc := enc) (C := Try.checked) false ⟨#[], #[.int .u16 0, .int .u32 0, .slice none 0 0], []⟩ 8 (by kernel_rfl) (by kernel_rfl) (by kernel_rfl) (by kernel_rfl)) ?_
  intro W base args ds gs before hval0 hW hcnd _
  have hval : ∀ (j : Nat) t v, Try.f6.params[j]? = some t → args[j]? = some v → Value.okWide Try.prog W .any base t v := hval0
  have hW' := hW
  obtain ⟨p, q, hA0, hV, rfl, hfz, hnd⟩ := hW
  have hA : DataW.TrodAll enc Try.prog W 0 (fun _ => true) true Try.f6.params.toList args.toList ds p := hA0
  rw [Try.params6] at hA hval
  obtain ⟨v0, v1, v2, d0, d1, d2, p0, p1, p2, rfl, rfl, rfl, h0, h1, h2⟩ := trodAll_three hA
  obtain ⟨rfl, rfl⟩ := trodVars_none hV
  obtain ⟨n0, rfl, rfl, rfl, wn0⟩ := open_int Try.underlying33 (hval 0 33 v0 rfl rfl) h0
  obtain ⟨n1, rfl, rfl, rfl, wn1⟩ := open_int Try.underlying42 (hval 1 42 v1 rfl rfl) h1
  obtain ⟨ao, N, cap, rfl, hN, hback⟩ := nums_arg Try.underlying43 Try.underlying5 (by kernel_rfl) (by obtain ⟨_, _, _, rfl⟩ := okWide_slice Try.underlying43 (hval 2 43 v2 rfl rfl); rfl) h2
  unfold maxLen at hN
  have b0 : 0 ≤ n0 ∧ n0 ≤ 65535 := by simpa [Lit.wf, IntKind.min, IntKind.max, IntKind.signed, IntKind.bits] using wn0
  have b1 : 0 ≤ n1 ∧ n1 ≤ 4294967295 := by simpa [Lit.wf, IntKind.min, IntKind.max, IntKind.signed, IntKind.bits] using wn1
  obtain ⟨k0, rfl⟩ := Int.eq_ofNat_of_zero_le b0.1
  obtain ⟨k1, rfl⟩ := Int.eq_ofNat_of_zero_le b1.1
  refine (keeps_any k0 k1 (by omega) (by omega) ao N cap (by omega) W hback).mono fun e W' ⟨he, hw⟩ => ?_
  subst he
  exact ⟨_, rfl, law_close (bt := 4) rfl Try.underlying4 rfl Try.laidOut (of_decide_eq_true (by kernel_rfl)) hW' rfl hw⟩

theorem tableKeeps_holds : Rows.TableKeepsSaid :=
  OpenClaim.holds_of_wide 6 Try.f6 rfl rfl rfl rfl rfl rfl rfl ⟨rfl, rfl, rfl, rfl, rfl⟩ rfl rfl rfl rfl rfl (by kernel_rfl) Try.func6 (by kernel_rfl)
    (of_decide_eq_true (by kernel_rfl)) (by unfold Func.isWrapper; first | (rw [if_pos (by decide +kernel)]; kernel_rfl) | (rw [if_neg (by decide +kernel)]; exact ⟨rfl, rfl⟩))
    (fun os started H enc _ => tableKeeps_lifted os started H enc)
end Go.Proofs.Ytgnjjomfffmcaaa
