/- The walk of grow where it makes new cells. No condition of its own. -/
import Derived.Test.YtgnjjomfffmcaaaGrow2
namespace Go.Proofs.Ytgnjjomfffmcaaa
open Go.RowKit

/-- What grow leaves where it made new cells. -/
def Grown (w0 : World) (T N : Nat) (s : TS) (w' : World) : Prop := ∃ C', w0.heap.size ≤ C' ∧ 4 * (s.live + 1) ≤ N ∧ N ≤ 100000000 ∧ GR w0 T C' N s w' s.n

theorem GR.start {w : World} {T N : Nat} (C : Nat) {s : TS} {w3 w4 : World} (h : TR w T C s) (hN : 0 < N) (hN2 : N ≤ 100000000) (t : Tch [] w w3) (hb : Blk w4 w3.heap.size 47 (2 * N) (fun k => .int .i64 (if k % 2 = 0 then -1 else 0))) (t4 : Tch [] w3 w4)   :
    GR w T w3.heap.size N s ((w4.setCell ⟨T, 0, none⟩ (.slice (some ⟨w3.heap.size, 0, none⟩) N N)).setCell ⟨T, 2, none⟩ (.int .i64 s.live)) 0 := by
  have hT := h.t.lt
  have hs := t.size
  have hne : T ≠ w3.heap.size := by omega
  refine ⟨⟨N, fun _ => -1, fun _ => 0, s.live, s.live⟩, rfl, rfl, rfl, ⟨fun i hi => .inl rfl, fun p hp => by simp [got] at hp, fun i j hi hj e h0 => by simp at h0⟩, ?_, ⟨?_, ?_, fun _ => hne, hN2⟩, ?_⟩
  · have : ∀ n, cntT ⟨N, fun _ => -1, fun _ => 0, s.live, s.live⟩ n = 0 := by
      intro n
      induction n with
      | zero => rfl
      | succ n ih => rw [cntT_succ, ih]; rfl
    rw [this]; rfl
  · have ht : Blk w4 T 50 3 _ := t4.blk (t.blk h.t (by simp)) (by simp)
    refine ((ht.set 0 _).set 2 _).ext (fun k hk => ?_)
    match k, hk with
    | 0, _ => simp [tslice, Nat.ne_of_gt hN]
    | 1, _ => rfl
    | 2, _ => rfl
  · intro _
    refine ((hb.setNe 0 _ (fun e => hne e.symm)).setNe 2 _ (fun e => hne e.symm)).ext (fun k hk => ?_)
    simp [tcell]
  · exact (((t.mono (by simp)).trans (t4.mono (by simp))).set (by simp) _).set (by simp) _

set_option maxHeartbeats 1000000 in
theorem grow_do (w : World) (T C : Nat) (s : TS) (L : List (Nat × Int)) (h : TR w T C s) (hC : 0 < s.n → Core s L) (hr : Rising L) (hll : s.live = L.length) (hb : ∀ i, i < s.n → s.ids i ≤ 2147483647 ∧ -2 ≤ s.ids i) (hu : s.n < 2 * (s.used + 1)) (hu2 : s.used ≤ 100000000) (hl : s.live ≤ 1048576) :
    Calls Try.prog 22 #[.pointer (some ⟨T, 0, none⟩)] w fun e w' => e = .returned (.tuple #[]) ∧ ∃ N, Grown w T N s w' := by
  have hTl := h.t.lt
  have hsm := h.small
  have c1 : w.cell? ⟨T, 1, none⟩ = some (.int .i64 s.live) := h.t.cell 1 (by omega)
  have c2 : w.cell? ⟨T, 2, none⟩ = some (.int .i64 s.used) := h.t.cell 2 (by omega)
  have ft := h.t.frozen
  obtain ⟨ao, hao, c0⟩ : ∃ ao, (0 < s.n → ao = some ⟨C, 0, none⟩) ∧ w.cell? ⟨T, 0, none⟩ = some (.slice ao s.n s.n) := by
    by_cases hn : s.n = 0
    · exact ⟨none, fun h0 => by omega, by have := h.t.cell 0 (by omega); rw [this]; simp [tslice, hn]⟩
    · exact ⟨_, fun _ => rfl, h.s0 (by omega)⟩
  have HH := Lib.hid h
  have HC := Lib.hid hC
  have HR := Lib.hid hr
  have HL := Lib.hid hll
  have HB := Lib.hid hb
  have HA := Lib.hid hao
  clear h hC hr hll hb hao
  have hbu : decide ((2 : Int) * ((s.used : Int) + 1) ≤ (s.n : Int)) = false := decide_eq_false_iff_not.2 (by omega)
  go_enter Try.func22, Try.ntmps22
  go_wp2
  go_quiet (fail)
  go_wp2
  go_loopw [2] (fun v wq => ∃ d N : Nat, wq = w.drewN d ∧ v = .int .i64 N ∧ 8 ≤ N ∧ N ≤ 8 * (s.live + 1)) (fun v _ => 4 * (s.live + 1) - (intOf v).toNat)
  case atStart => exact ⟨_, 8, rfl, rfl, by omega, by omega⟩
  case round =>
    obtain ⟨d, N, rfl, rfl, hN1, hN2⟩ := hrel
    by_cases hlt : N < 4 * (s.live + 1)
    · have hb1 : decide ((N : Int) < 4 * ((s.live : Int) + 1)) = true := decide_eq_true_iff.2 (by omega)
      go_wp2
      go_roundw
      case rel => exact ⟨d, N * 2, rfl, by go_num, by omega, by omega⟩
      case measure => simp [intOf]; omega
    · have hb1 : decide ((N : Int) < 4 * ((s.live : Int) + 1)) = false := decide_eq_false_iff_not.2 (by omega)
      go_wp2_with fail
      refine region_any (.takes [0, 1, 2, 4, 5, 6, 7] (.fork 3 [5, 6, 7] (.takes [8, 9] (.fork 10 [] (.takes [11, 12] (.fork 13 [] .done .none)) .none)) .none)) (by kernel_rfl) (by kernel_rfl) rfl ?_
      go_wp2_with first | (go_at_call 26; refine (empty_any N (by omega) (by omega) _).mono ?_; rintro e w4 ⟨rfl, b4, t4⟩; have HB4 := Lib.hid b4; have HT4 := Lib.hid t4; have k0 := t4.cell T 0 hTl (by simp); have k1 := t4.cell T 1 hTl (by simp); have k2 := t4.cell T 2 hTl (by simp); have kf : ∀ o, w4.frozen? ⟨T, o, none⟩ = false := fun o => (frozen_same (t4.block T hTl (by simp)) o).trans (ft o); have kt := t4.size) | (with_reducible exact wpE_none) | (with_reducible refine wpE_takes_nil ?_) | (with_reducible refine wpE_done ?_) | (refine wpE_take rfl rfl (fun _ _ => ?_)) | (refine wpE_skip rfl rfl ?_) | (refine wpE_fork rfl rfl (fun _ _ => ?_) ?_) | (with_reducible exact agains_nil) | (refine agains_cons rfl (fun _ => ?_) ?_) | (with_reducible refine wpE_same ?_) | (refine And.intro (rfl : (_ : World) = _) ?_) | (with_reducible refine wpE_and ?_ ?_)
      have hst := GR.start (T := T) (N := N) C HH.out (by omega) (by omega) (((Tch.refl [] w)).drewN (d + 1)) HB4.out HT4.out
      change GR w T w.heap.size N s _ 0 at hst
      have HST := Lib.hid hst
      clear hst k0 k1 k2 kf kt c0 c1 c2 ft hbu hb1
      go_loopw [5, 6, 7, 48] (fun _ _ _ i wq => ∃ q : Nat, q ≤ s.n ∧ i = .int .i64 q ∧ GR w T w.heap.size N s wq q) (fun _ _ _ i _ => s.n - (intOf i).toNat)
      case atStart => exact ⟨0, by omega, rfl, HST.out⟩
      case round =>
        obtain ⟨q, hq, rfl, hgr⟩ := hrel
        by_cases hqn : q < s.n
        · have hao := HA.out (by omega)
          subst hao
          have hT : Tch [T] w wr := by
            obtain ⟨_, _, _, _, _, _, _, h⟩ := hgr
            exact h
          have hCl := (HH.out.c (by omega)).lt
          have hTC := HH.out.ne (by omega)
          have d0 := (hT.cell C (q * 2) hCl (by simp; exact fun e => hTC e.symm)).trans (HH.out.id q hqn)
          have d1 := (hT.cell C (q * 2 + 1) hCl (by simp; exact fun e => hTC e.symm)).trans (HH.out.at q hqn)
          have hlr : C < wr.heap.size := Nat.lt_of_lt_of_le hCl hT.size
          have hbb := HB.out q hqn
          have HGR := Lib.hid hgr
          by_cases h0 : 0 ≤ s.ids q
          · obtain ⟨i, p1, p2, p3, p4, p5, ⟨x1, p6⟩, ⟨x2, p7⟩, p8, p9, p10⟩ := hgr.put (HC.out (by omega)) HR.out hqn h0 (by have := HL.out; omega) (Nat.le_refl _) hbb.1
            have p11 : w.heap.size < wr.heap.size := World.block_lt_of_cell? wr ⟨w.heap.size, i * 2, none⟩ p6
            have P9 := Lib.hid p9
            have P10 := Lib.hid (p10 wr (Tch.refl _ _))
            have hq0 : decide ((0 : Int) ≤ s.ids q) = true := decide_eq_true_iff.2 h0
            generalize s.ids q = x at *
            generalize s.ats q = y at *
            clear hgr p9 p10 hT
            go_wp2_with (go_at_call 21; refine (P9.out _ ((Tch.refl _ _).new _)).mono ?_; rintro e w7 ⟨rfl, rfl⟩)
            refine region_any (.takes [0, 1, 2, 3, 4, 5, 6] (.fork 7 [] .done .none)) (by kernel_rfl) (by kernel_rfl) rfl ?_
            go_wp2_with first | (with_reducible exact wpE_none) | (with_reducible refine wpE_takes_nil ?_) | (with_reducible refine wpE_done ?_) | (refine wpE_take rfl rfl (fun _ _ => ?_)) | (refine wpE_skip rfl rfl ?_) | (refine wpE_fork rfl rfl (fun _ _ => ?_) ?_) | (with_reducible exact agains_nil) | (refine agains_cons rfl (fun _ => ?_) ?_) | (with_reducible refine wpE_same ?_) | (refine And.intro (rfl : (_ : World) = _) ?_) | (with_reducible refine wpE_and ?_ ?_)
            go_roundw
            case rel =>
              refine ⟨q + 1, by omega, by go_num, ?_⟩
              exact GR.tch P10.out (((Tch.refl _ _).new _).drew)
            case measure => simp [intOf]; omega
          · have hq0 : decide ((0 : Int) ≤ s.ids q) = false := decide_eq_false_iff_not.2 h0
            clear hgr hT
            go_wp2
            go_roundw
            case rel => exact ⟨q + 1, by omega, by go_num, HGR.out.skip h0 ((Tch.refl _ _).new _)⟩
            case measure => simp [intOf]; omega
        · have HGR := Lib.hid hgr
          clear hgr
          go_wp2
          refine bodyPost_end (v := .tuple #[]) (by simp [results, Try.results22, go_sem]) rfl ⟨rfl, N, w.heap.size, Nat.le_refl _, by omega, by omega, ?_⟩
          obtain rfl : q = s.n := by omega
          exact HGR.out
end Go.Proofs.Ytgnjjomfffmcaaa
