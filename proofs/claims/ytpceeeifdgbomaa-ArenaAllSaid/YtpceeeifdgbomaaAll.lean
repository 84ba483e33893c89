/- The walk of ArenaAll: it answers true, for every number and every bytes. -/
import Derived.Test.YtpceeeifdgbomaaAwake
import Derived.Test.YtpceeeifdgbomaaSl
namespace Go.Proofs.Ytpceeeifdgbomaa
open Go.RowKit

theorem E27 : ElemT Try.prog 27 29 2 16 := by
  obtain ⟨i0, hi, hz0, hz1, hz2⟩ := info_parts (show (Try.prog.info? 29).map (fun i => (i.zero, i.size, i.bytes)) = some (some (.agg #[.int .i64 0, .int .i64 0]), 2, 16) by kernel_rfl)
  exact ⟨Try.underlying27, ⟨i0, _, hi, hz0, hz1, hz2, rfl⟩, by decide⟩
theorem E41 : ElemT Try.prog 41 3 1 8 := by
  obtain ⟨i0, hi, hz0, hz1, hz2⟩ := info_parts info3
  exact ⟨Try.underlying41, ⟨i0, _, hi, hz0, hz1, hz2, rfl⟩, by decide⟩

/-- Behind so many goings. -/
def stA (n k : Nat) : St := { n := n, gen := fun j => if j < k then 1 else 0, free := [], used := k }
theorem stA_zero (n : Nat) : St.new n = stA n 0 := by unfold St.new stA; congr
theorem stA_next (n k : Nat) : (stA n k).next = stA n (k + 1) := by
  unfold St.next stA bump
  congr
  funext j
  simp only []
  by_cases h1 : j = k
  · subst h1; simp
  · by_cases h2 : j < k
    · simp [h1, h2]; omega
    · simp [h1, h2]; omega
/-- The handles of the first so many slots. -/
def hrow (k : Nat) : List Value := (List.range k).flatMap fun (j : Nat) => [Value.int .i64 (j : Int), .int .i64 1]
theorem hrow_succ (k : Nat) : hrow (k + 1) = hrow k ++ [.int .i64 k, .int .i64 1] := by simp [hrow, List.range_succ]

theorem hrow_len (n : Nat) : (hrow n).length = n * 2 := by
  induction n with
  | zero => rfl
  | succ n ih => rw [hrow_succ, List.length_append, ih]; simp; omega
theorem hrow_get (n m : Nat) (h : m < n) : (hrow n)[m * 2]? = some (.int .i64 (m : Int)) ∧ (hrow n)[m * 2 + 1]? = some (.int .i64 1) := by
  induction n with
  | zero => omega
  | succ n ih =>
    rw [hrow_succ]
    have hl : (hrow n).length = n * 2 := hrow_len n
    by_cases hm : m < n
    · rw [List.getElem?_append_left (by omega), List.getElem?_append_left (by omega)]
      exact ih hm
    · obtain rfl : m = n := by omega
      rw [List.getElem?_append_right (by omega), List.getElem?_append_right (by omega), hl]
      simp
/-- All went; those came back; and of those that came back some went again. -/
def stC (n : Nat) (done fr : List Nat) : St := { n := n, gen := fun j => (if j < n then 1 else 0) + (if j ∈ done then 1 else 0), free := fr, used := n }
theorem stA_stC (n : Nat) : stA n n = stC n [] [] := by unfold stA stC; congr
theorem stC_give (n : Nat) (fr : List Nat) (m : Nat) : (stC n [] fr).give m = stC n [] (m :: fr) := rfl
theorem stC_took (n : Nat) (done fr : List Nat) (m : Nat) (hm : m ∉ done) : (stC n done (m :: fr)).took m fr = stC n (m :: done) fr := by
  unfold St.took stC bump
  congr
  funext j
  simp only [List.mem_cons]
  by_cases h1 : j = m
  · subst h1; simp [hm]
  · simp [h1]
def irow (l : List Nat) : List Value := l.map fun (j : Nat) => Value.int .i64 (j : Int)

set_option maxHeartbeats 2000000 in
theorem all_any (n0 : Nat) (hn0 : n0 < 256) (ao : Option Addr) (L cap : Nat) (hL : L ≤ 9223372036854775807) (w : World)
    (hback : 0 < L → ∃ b off, ao = some ⟨b, off, none⟩ ∧ b < w.heap.size ∧ ∀ i, i < L → ∃ z : Nat, z < 256 ∧ w.cell? ⟨b, off + i, none⟩ = some (.int .u8 z)) : Calls Try.prog 6 #[.int .u8 n0, .slice ao L cap] w fun e w' => e = .returned (.bool true) ∧ Below w.heap.size w w' := by
  obtain ⟨n, hn⟩ : ∃ n, n0 % 100 = n := ⟨_, rfl⟩
  have hk : (n0 : Int) % 100 = (n : Int) := by omega
  have hn1 : n < 100 := by omega
  clear hn
  go_enter Try.func6, Try.ntmps6
  go_wp2_with (go_at_call 7; refine (new_yes n (by omega) _).mono ?_; rintro e w1 ⟨A, G, X, nx, gA, gG, gX, rfl, h1, t1⟩)
  have B1 := t1.nil
  rw [stA_zero] at h1
  go_loopw [7, 8, 9, 10] (fun l i _ _ wr => ∃ k : Nat, ∃ top nx, k ≤ n ∧ i = .int .i64 k ∧ wr.ownsRow w.heap.size 29 2 l k (hrow k) ∧ (∀ b, l.ownBlock = some b → b ∉ [A, G, X]) ∧ AR wr A G X top nx (stA n k) ∧ Below w.heap.size w wr) (fun _ i _ _ _ => n - (intOf i).toNat)
  case atStart => exact ⟨0, _, _, by omega, rfl, World.ownsRow_nil _ _ _ _, (by intro b hb; simp [Value.ownBlock] at hb), h1, B1⟩
  case round =>
    obtain ⟨k, top, nx', hkn, rfl, hown, hav, hA, hB⟩ := hrel
    have lA := hA.a.lt
    have lG := hA.g.lt
    have lX := hA.x.lt
    have hBs := hB.size
    by_cases hlt : k < n
    · go_wp2_with fail
      go_at_call 9
      refine (take_next_at _ A G X top nx' _ hA rfl hlt (by simp [stA]) k 1 rfl (by simp [stA])).mono ?_
      rintro e w2 ⟨rfl, t2, top2, nx2, h2⟩
      rw [stA_next] at h2
      have hown2 := owns_tch hown t2 hav
      have hB2 := t2.below hB (by omega) (by simp; omega)
      have hs2 := t2.size
      have HO := Lib.hid hown2
      have HB := Lib.hid hB2
      have HA := Lib.hid h2
      have HV := Lib.hid hav
      have lA2 := h2.a.lt
      have lG2 := h2.g.lt
      have lX2 := h2.x.lt
      clear hown2 hB2 h2 hav t2 hown hB hA h1 B1 t1
      go_wp2_with (at_builtin; (refine wpList_append1 E27 rfl (.tmp 49) (.tmp 51) rfl w.heap.size _ k (hrow k) (owns_new (owns_new HO.out _) _) rfl _ _ [.int .i64 k, .int .i64 1] rfl rfl (0, 0) 29 (heap_new_at _ _ _ (by rw [size_new])) (by simp [Value.oneCell']) (by unfold maxLen; omega) (by omega) (by simp; omega) ?_); intro v' w' r1 r2 r3)
      go_roundw
      case rel =>
        rw [← hrow_succ] at r1
        have hd : ∀ b ∈ [A, G, X], b < w2.heap.size := by simp; omega
        refine ⟨k + 1, top2, nx2, by omega, by go_num, r1, fun b hb hm => ?_, HA.out.keep fun b hb => ?_, ?_⟩
        · rcases r3 b hb with g | g
          · exact HV.out b (by simpa using g) hm
          · have := hd b hm
            rw [size_new, size_new] at g
            omega
        · have hl := hd b (by simpa using hb)
          rw [r2.block b (by rw [size_new, size_new]; omega) (fun g => HV.out b (by simpa using g) (by simpa using hb)), heap_old _ _ _ (by rw [size_new]; omega), heap_old _ _ _ hl]
        · refine r2.below ((HB.out.alloc (by omega) _).alloc (by rw [size_new]; omega) _) (by rw [size_new, size_new]; omega) (fun x hx => ?_)
          exact (HO.out.lt x (by simpa using hx)).1
      case measure => simp [intOf]; omega
    · obtain rfl : k = n := by omega
      go_wp2_with fail
      go_at_call 9
      refine (take_none _ A G X top nx' _ hA rfl rfl).mono ?_
      rintro e w2 ⟨rfl, t2⟩
      have hA2 := hA.keep (w' := w2) (fun b hb => t2.block b (by simp at hb; omega) (by simp))
      have hown2 := owns_tch hown t2 (by simp)
      have hB2 := t2.below hB (by omega) (by simp)
      rw [stA_stC] at hA2
      clear t2 hA hown hB h1 B1 t1
      have lA2 := hA2.a.lt
      have lG2 := hA2.g.lt
      have lX2 := hA2.x.lt
      have hB2s := hB2.size
      go_wp2_with fail
      go_loopw [13, 14, 15] (fun v i _ wr => ∃ (i' : Nat) (fr : List Nat) (top : Int) (nx : Nat → Int), i' ≤ L ∧ i' ≤ 100 ∧ i = .int .i64 i' ∧ fr.length ≤ i' ∧ AR wr A G X top nx (stC k [] fr) ∧
        wr.ownsRow w.heap.size 3 1 v fr.length (irow fr.reverse) ∧ (∀ b, v.ownBlock = some b → b ∉ [A, G, X] ∧ u7.ownBlock ≠ some b) ∧ wr.ownsRow w.heap.size 29 2 u7 k (hrow k) ∧ Below w.heap.size w wr) (fun _ i _ _ => 100 - (intOf i).toNat)
      case atStart =>
        exact ⟨0, [], top, nx', by omega, by omega, rfl, by simp, hA2.keep (fun b hb => heap_old _ _ _ (by simp at hb; omega)), World.ownsRow_nil _ _ _ _, (by intro b hb; simp [Value.ownBlock] at hb), owns_new hown2 _, hB2.alloc (by omega) _⟩
      case round =>
        obtain ⟨i, fr, top3, nx3, hiL, hi100, rfl, hfi, hA3, hv3, hd3, hl3, hB3⟩ := hrel
        have lA3 := hA3.a.lt
        have lG3 := hA3.g.lt
        have lX3 := hA3.x.lt
        have hB3s := hB3.size
        by_cases hlt : i < L ∧ i < 100 ∧ 0 < k
        · obtain ⟨hi1, hi2, hk0⟩ := hlt
          obtain ⟨b, off, rfl, hbl, hbc⟩ := hback (by omega)
          obtain ⟨z, hz, hzc⟩ := hbc i hi1
          have hzc3 : wr.cell? ⟨b, off + i, none⟩ = some (.int .u8 z) := (hB3.cell (p := ⟨b, off + i, none⟩) hbl).trans hzc
          obtain ⟨m, hm⟩ : ∃ m, z % k = m := ⟨_, rfl⟩
          have hzm : (z : Int) % (k : Int) = (m : Int) := by omega
          have hmk : m < k := by rw [← hm]; exact Nat.mod_lt _ hk0
          obtain ⟨lg, lcap, hlv, hlB, hllt⟩ := owns_some hl3 hk0
          subst hlv
          have hcl := hrow_get k m hmk
          have c0 : wr.cell? ⟨lg, m * 2, none⟩ = some (.int .i64 m) := (owns_cell hl3 (m * 2) (by omega)).trans hcl.1
          have c1 : wr.cell? ⟨lg, m * 2 + 1, none⟩ = some (.int .i64 1) := (owns_cell hl3 (m * 2 + 1) (by omega)).trans hcl.2
          have hlgn : lg ∉ [A, G, X] := hav lg rfl
          have HA3 := Lib.hid hA3
          have HV3 := Lib.hid hv3
          have HD3 := Lib.hid hd3
          have HL3 := Lib.hid hl3
          have HB3 := Lib.hid hB3
          have HAV := Lib.hid hav
          have HW := Lib.hid hback
          clear hA3 hv3 hd3 hl3 hB3 hA2 hown2 hB2 hcl hm hzc hbc hav hback
          by_cases hfr : m ∈ fr
          · have HL : (stC k [] fr).live m 1 = false := by simp [St.live, stC, hfr]
            go_wp2_with fail
            go_at_call 11
            refine (give_no _ A G X top3 nx3 _ HA3.out m 1 (by omega) (by omega) HL).mono ?_
            rintro e w4 ⟨rfl, t4⟩
            go_wp2_with fail
            go_roundw
            case rel =>
              have ht : Tch [A, G, X] wr w4 := t4.mono (by simp)
              exact ⟨i + 1, fr, top3, nx3, by omega, by omega, by go_num, by omega, HA3.out.keep (fun b hb => t4.block b (by simp at hb; omega) (by simp)), owns_tch HV3.out t4 (by simp), HD3.out, owns_tch HL3.out t4 (by simp), t4.below HB3.out (by omega) (by simp)⟩
            case measure => simp [intOf]; omega
          · go_wp2_with fail
            go_at_call 11
            refine (give_yes_at _ A G X top3 nx3 _ HA3.out m 1 hmk hfr (by simp [stC, hmk])).mono ?_
            rintro e w4 ⟨rfl, t4, top4, nx4, hA4⟩
            rw [stC_give] at hA4
            have ht : Tch [A, G, X] wr w4 := t4.mono (by simp)
            have hv4 := owns_tch HV3.out ht (fun b hb => (HD3.out b hb).1)
            have hl4 := owns_tch HL3.out ht (fun b hb => by rw [← Option.some.inj hb]; exact hlgn)
            have lA4 := hA4.a.lt
            have lG4 := hA4.g.lt
            have lX4 := hA4.x.lt
            have HB4 := Lib.hid (ht.below HB3.out (by omega) (by simp; omega))
            have hs4 := ht.size
            have HA4 := Lib.hid hA4
            have HV4 := Lib.hid hv4
            have HL4 := Lib.hid hl4
            clear ht t4 hA4 hv4 hl4
            go_wp2_with (at_builtin; (refine wpList_append1 E41 rfl (.tmp 85) (.tmp 87) rfl w.heap.size _ fr.length (irow fr.reverse) (owns_new HV4.out _) rfl _ _ [.int .i64 m] rfl rfl (0, 0) 3 (heap_new_at _ _ _ rfl) (by simp [Value.oneCell']) (by unfold maxLen; omega) (by omega) (by simp; omega) ?_); intro v' w' r1 r2 r3)
            go_roundw
            case rel =>
              have hd : ∀ b ∈ [A, G, X], b < w4.heap.size := by simp; omega
              refine ⟨i + 1, m :: fr, top4, nx4, by omega, by omega, by go_num, by simp; omega, HA4.out.keep (fun b hb => ?_), ?_, fun b hb => ?_, ?_, ?_⟩
              · have hl := hd b (by simpa using hb)
                rw [r2.block b (by rw [size_new]; omega) (fun g => (HD3.out b (by simpa using g)).1 (by simpa using hb)), heap_old _ _ _ hl]
              · simpa [irow] using r1
              · rcases r3 b hb with g | g
                · exact HD3.out b (by simpa using g)
                · rw [size_new] at g
                  refine ⟨fun hm => by have := hd b hm; omega, fun hm => ?_⟩
                  have : lg = b := Option.some.inj hm
                  omega
              · exact owns_tch (owns_new HL4.out _) r2 (fun b hb g => (HD3.out b (by simpa using g)).2 hb)
              · refine r2.below (HB4.out.alloc (by omega) _) (by rw [size_new]; omega) (fun x hx => ?_)
                exact (HV4.out.lt x (by simpa using hx)).1
            case measure => simp [intOf]; omega
        · obtain ⟨va, vc, hv, hvs⟩ := owns_form hv3
          subst hv
          have HA3 := Lib.hid hA3
          have HV3 := Lib.hid hv3
          have HB3 := Lib.hid hB3
          have HGN : Hid (∀ g, va = some ⟨g, 0, none⟩ → g ∉ [A, G, X]) := Lib.hid fun g hg => (hd3 g (by rw [hg]; rfl)).1
          have hnd : fr.Nodup := hA3.ok.nodup
          have hmem : ∀ j ∈ fr, j < k := hA3.ok.lt
          clear hA3 hv3 hd3 hl3 hB3 hA2 hown2 hB2 hav hback hvs
          go_wp2_with fail
          all_goals
            go_loopw [16, 17, 18] (fun i _ _ wr => ∃ (f2 done : List Nat) (top : Int) (nx : Nat → Int), fr = done.reverse ++ f2 ∧ i = .int .i64 (f2.length : Nat) ∧ AR wr A G X top nx (stC k done f2) ∧
              wr.ownsRow w.heap.size 3 1 (.slice va fr.length vc) fr.length (irow fr.reverse) ∧ Below w.heap.size w wr) (fun i _ _ _ => (intOf i).toNat)
            case atStart => exact ⟨fr, [], top3, nx3, rfl, rfl, HA3.out, HV3.out, HB3.out⟩
            case round =>
              obtain ⟨f2, done, top5, nx5, hfd, rfl, hA5, hv5, hB5⟩ := hrel
              have lA5 := hA5.a.lt
              have lG5 := hA5.g.lt
              have lX5 := hA5.x.lt
              have hB5s := hB5.size
              cases f2 with
              | nil =>
                have HA5 := Lib.hid hA5
                have HB5 := Lib.hid hB5
                clear hA5 hv5 hB5
                go_wp2_with fail
                go_at_call 17
                refine (awake_any _).mono ?_
                rintro e w6 ⟨rfl, b6⟩
                have hA6 := HA5.out.keep (w' := w6) (fun b hb => b6.block b (by simp at hb; omega))
                have HB6 := Lib.hid (HB5.out.trans (b6.mono (by omega)))
                clear b6
                go_wp2_with (go_at_call 15; refine (len_at _ A G X _ nx5 _ hA6 k (by simp [stC])).mono ?_; rintro e w7 ⟨rfl, rfl⟩)
                go_ret
                exact ⟨rfl, HB6.out⟩
              | cons m f3 =>
                have hmd : m ∉ done := by
                  intro hm
                  rw [hfd] at hnd
                  exact (List.nodup_append.1 hnd).2.2 m (by simpa using hm) m (by simp) rfl
                have hmk : m < k := hmem m (by rw [hfd]; simp)
                first
                  | (exfalso; omega)
                  | (skip
                     obtain ⟨g, vc', hve, hgB, hgl⟩ := owns_some hv5 (by rw [hfd]; simp; omega)
                     obtain ⟨rfl, rfl⟩ : va = some ⟨g, 0, none⟩ ∧ vc = vc' := by
                       simp only [Value.slice.injEq] at hve
                       exact ⟨hve.1, hve.2.2⟩
                     obtain ⟨q, hq⟩ : ∃ q, f3.length = q := ⟨_, rfl⟩
                     have hql : q < fr.length := by rw [hfd]; simp; omega
                     have hqc : (irow fr.reverse)[q]? = some (.int .i64 (m : Int)) := by
                       rw [hfd, List.reverse_append, List.reverse_reverse, List.reverse_cons]
                       simp [irow, List.getElem?_append, hq]
                     have hlen : ((m :: f3).length : Nat) = q + 1 := by simp [hq]
                     rw [hlen]
                     have hgn : g ∉ [A, G, X] := HGN.out g rfl
                     have HA5 := Lib.hid hA5
                     have HV5 := Lib.hid hv5
                     have HB5 := Lib.hid hB5
                     have HFD := Lib.hid hfd
                     have HQ := Lib.hid hq
                     have HQC := Lib.hid hqc
                     clear hA5 hv5 hB5 hfd hq hqc hve hlen
                     go_wp2_with fail
                     go_at_call 9
                     refine (take_top_at _ A G X _ nx5 _ HA5.out m f3 rfl (by simp [stC, hmd, hmk]) 2 (by simp [stC, hmd, hmk])).mono ?_
                     rintro e w6 ⟨rfl, t6, top6, nx6, hA6⟩
                     rw [stC_took _ _ _ _ hmd] at hA6
                     have hv6 := owns_tch HV5.out t6 (fun b hb => by rw [← Option.some.inj hb]; exact hgn)
                     have hB6 := t6.below HB5.out (by omega) (by simp; omega)
                     have hs6 := t6.size
                     have lA6 := hA6.a.lt
                     have lG6 := hA6.g.lt
                     have lX6 := hA6.x.lt
                     have cg : w6.cell? ⟨g, q, none⟩ = some (.int .i64 m) := (owns_cell hv6 q (by omega)).trans HQC.out
                     have hg6 : g < w6.heap.size := by omega
                     have HA6 := Lib.hid hA6
                     have HV6 := Lib.hid hv6
                     have HB6 := Lib.hid hB6
                     clear t6 hA6 hv6 hB6
                     go_wp2_with fail
                     go_quiet (fail)
                     go_wp2_with fail
                     go_roundw
                     case rel =>
                       refine ⟨f3, m :: done, top6, nx6, ?_, ?_, HA6.out.keep (fun b hb => heap_old _ _ _ (by simp at hb; omega)), owns_drewN (owns_new HV6.out _) _, below_drewN (HB6.out.alloc (by omega) _) _⟩
                       · exact HFD.out.trans (by simp)
                       · rw [HQ.out]; first | done | go_num
                     case measure => simp [intOf] <;> omega)
end Go.Proofs.Ytpceeeifdgbomaa
