/- The walk of List over a table in memory: the ids, rising. No condition of its own. -/
import Derived.Test.YtgnjjomfffmcaaaPutFin
import Derived.Test.YtgnjjomfffmcaaaShelf
import Derived.Lib.OwnBridge
import Derived.Lib.AppendIntMem
namespace Go.Proofs.Ytgnjjomfffmcaaa
open Go.RowKit Go.Lib

theorem E29 : ElemT Try.prog 29 3 1 8 := by
  obtain ⟨i0, hi, hz0, hz1, hz2⟩ := info_parts (show (Try.prog.info? 3).map (fun i => (i.zero, i.size, i.bytes)) = some (some (.int .i64 0), 1, 8) by kernel_rfl)
  exact ⟨Try.underlying29, ⟨i0, _, hi, hz0, hz1, hz2, rfl⟩, by decide⟩
def zrow (l : List Int) : List Value := l.map (Value.int .i64)
def idsOf (L : List (Nat × Int)) : List Int := L.map fun p => (p.1 : Int)

/-- slices.Sort over a row that the call owns. -/
theorem sort_own (w : World) (B : Nat) (v : Value) (l : List Int) (h : w.ownsRow B 3 1 v l.length (zrow l)) (hB : B ≤ w.heap.size) (hl : l.length < 1000000000) :
    Calls Try.prog 23 #[v] w fun e w' => e = .returned (.tuple #[]) ∧ w'.ownsRow B 3 1 v l.length (zrow (l.mergeSort fun x y => decide (x ≤ y))) ∧ Below B w w' := by
  by_cases hv : v = .slice none 0 0
  · subst hv
    have hl0 : l = [] := by
      rcases h.2 with ⟨_, h0⟩ | ⟨g, cap, cur, h0, _⟩
      · exact List.length_eq_zero_iff.1 h0
      · cases h0
    subst hl0
    refine (Try.slices_Sort_int_none none 0 w).mono ?_
    rintro e w' ⟨rfl, rfl⟩
    exact ⟨rfl, by simpa using h, Below.refl _ _⟩
  · obtain ⟨g, cap, rfl, hg, hgl, hc, hm, _, hH⟩ := holds_of_ownsRow h hv
    refine (Try.slices_Sort_int g 0 cap l w hH hgl (by omega)).mono ?_
    rintro e w' ⟨rfl, n, os, rfl⟩
    have h1 := ownsRow_putRow (q := n) (ys := l.mergeSort fun x y => decide (x ≤ y)) (k := l.length) h (by rw [List.length_mergeSort]) (Nat.le_refl _)
    rw [List.take_of_length_le (by rw [List.length_mergeSort]; exact Nat.le_refl _)] at h1
    have h2 := ownsRow_grow h1 0 os
    refine ⟨rfl, h2, ?_⟩
    have b1 := below_putRow (enc := Value.int .i64) (q := n) (d := (l.mergeSort fun x y => decide (x ≤ y)).toArray) (Below.refl B w) hg
    exact b1.trans (below_grow B _ (Nat.le_trans hB b1.size) 0 os)

theorem rising_ints : ∀ (l m : List Int), l.Pairwise (· < ·) → m.Pairwise (· < ·) → (∀ x, x ∈ l ↔ x ∈ m) → l = m := by
  intro l
  induction l with
  | nil =>
    intro m _ _ h
    cases m with
    | nil => rfl
    | cons q m => exact absurd ((h q).2 (by simp)) (by simp)
  | cons p l ih =>
    intro m hl hm h
    cases m with
    | nil => exact absurd ((h p).1 (by simp)) (by simp)
    | cons q m =>
      obtain ⟨l1, l2⟩ := List.pairwise_cons.1 hl
      obtain ⟨n1, n2⟩ := List.pairwise_cons.1 hm
      have hpq : p = q := by
        rcases List.mem_cons.1 ((h p).1 (by simp)) with e | e
        · exact e
        · rcases List.mem_cons.1 ((h q).2 (by simp)) with e' | e'
          · exact e'.symm
          · have := n1 p e; have := l1 q e'; omega
      subst hpq
      congr 1
      refine ih m l2 n2 (fun x => ?_)
      constructor
      · intro hx
        rcases List.mem_cons.1 ((h x).1 (List.mem_cons_of_mem _ hx)) with e | e
        · subst e; have := l1 x hx; omega
        · exact e
      · intro hx
        rcases List.mem_cons.1 ((h x).2 (List.mem_cons_of_mem _ hx)) with e | e
        · subst e; have := n1 x hx; omega
        · exact e
theorem sorted_ids {s : TS} {L : List (Nat × Int)} (h : TI s L) : (idsOf (got s s.n)).mergeSort (fun x y => decide (x ≤ y)) = idsOf L := by
  by_cases hn : 0 < s.n
  · refine rising_ints _ _ ?_ ?_ (fun x => ?_)
    · have hnd : ((idsOf (got s s.n)).mergeSort (fun x y => decide (x ≤ y))).Nodup := by
        refine (List.Perm.nodup_iff (List.mergeSort_perm _ _)).2 ?_
        have := got_nodup (h.core hn) s.n (Nat.le_refl _)
        unfold idsOf
        rw [List.nodup_iff_pairwise_ne, List.pairwise_map] at this ⊢
        exact this.imp (fun hab e => hab (by omega))
      have hs := List.pairwise_mergeSort (le := fun x y : Int => decide (x ≤ y)) (by intro a b c; simp; omega) (by intro a b; simp; omega) (idsOf (got s s.n))
      rw [List.nodup_iff_pairwise_ne] at hnd
      exact (hs.and hnd).imp (fun ⟨h1, h2⟩ => by simp at h1; omega)
    · unfold idsOf
      rw [List.pairwise_map]
      exact h.rising.imp (fun hab => by omega)
    · rw [List.mem_mergeSort]
      unfold idsOf
      simp only [List.mem_map]
      constructor
      · rintro ⟨p, hp, rfl⟩
        exact ⟨p, (got_all (h.core hn) p hn h.rising).1 hp, rfl⟩
      · rintro ⟨p, hp, rfl⟩
        exact ⟨p, (got_all (h.core hn) p hn h.rising).2 hp, rfl⟩
  · have e : s.n = 0 := by omega
    rw [h.zero e, e]
    simp [got, idsOf]

def Told (w : World) (L : List (Nat × Int)) (e : Ending) (w' : World) : Prop :=
  ∃ v, e = .returned v ∧ w'.ownsRow w.heap.size 3 1 v L.length (zrow (idsOf L)) ∧ Tch [] w w'
def LR (w : World) (s : TS) (v : Value) (q : Nat) (wq : World) : Prop := wq.ownsRow w.heap.size 3 1 v (got s q).length (zrow (idsOf (got s q))) ∧ Tch [] w wq
theorem LR.skip {w : World} {s : TS} {v : Value} {q : Nat} {wq w' : World} (h : LR w s v q wq) (hq : ¬ 0 ≤ s.ids q) (t : Tch [] wq w') : LR w s v (q + 1) w' := by
  have e : got s (q + 1) = got s q := by rw [got_succ, if_neg hq, List.append_nil]
  unfold LR
  rw [e]
  exact ⟨owns_tch h.1 t (by simp), h.2.trans t⟩
theorem LR.put {w : World} {s : TS} {v v' : Value} {q : Nat} {wq w' : World} (h : LR w s v q wq) (hq : 0 ≤ s.ids q) (hv : w'.ownsRow w.heap.size 3 1 v' ((got s q).length + 1) (zrow (idsOf (got s q)) ++ [.int .i64 (s.ids q)])) (o1 o2 : Obj)
    (t : Tch v.ownBlock.toList ((wq.alloc o1).alloc o2) w') : LR w s v' (q + 1) w' := by
  have e : got s (q + 1) = got s q ++ [((s.ids q).toNat, s.ats q)] := by rw [got_succ, if_pos hq]
  unfold LR
  rw [e]
  refine ⟨?_, ?_⟩
  · have : zrow (idsOf (got s q ++ [((s.ids q).toNat, s.ats q)])) = zrow (idsOf (got s q)) ++ [.int .i64 (s.ids q)] := by
      simp [zrow, idsOf]; omega
    rw [this, List.length_append]
    exact hv
  · have t1 := (h.2.new o1).new o2
    exact ⟨t.os.trans t1.os, t.tape.trans t1.tape, t.output.trans t1.output, Nat.le_trans t1.size t.size, fun k hk hn => (t.block k (Nat.lt_of_lt_of_le hk t1.size) (fun e => by
      have := (h.1.lt k (by simpa using e)).1
      omega)).trans (t1.block k hk hn)⟩
theorem list_nil (w : World) : Calls Try.prog 12 #[.pointer none] w fun e w' => e = .returned (.slice none 0 0) ∧ w = w' := by
  have HS := Lib.hid (Try.slices_Sort_int_none none 0)
  go_enter Try.func12, Try.ntmps12
  go_wp2_with (go_at_call 23; refine (HS.out w).mono ?_; rintro e w1 ⟨rfl, rfl⟩)
  go_ret
  exact ⟨rfl, rfl⟩
set_option maxHeartbeats 1000000 in
theorem list_any (w : World) (T C : Nat) (s : TS) (L : List (Nat × Int)) (h : TR w T C s) (hI : TI s L) : Calls Try.prog 12 #[.pointer (some ⟨T, 0, none⟩)] w (Told w L) := by
  have hTl := h.t.lt
  have hsm := h.small
  obtain ⟨ao, hao, c0⟩ : ∃ ao, (0 < s.n → ao = some ⟨C, 0, none⟩) ∧ w.cell? ⟨T, 0, none⟩ = some (.slice ao s.n s.n) := by
    by_cases hn : s.n = 0
    · exact ⟨none, fun h0 => by omega, by have := h.t.cell 0 (by omega); rw [this]; simp [tslice, hn]⟩
    · exact ⟨_, fun _ => rfl, h.s0 (by omega)⟩
  have HH := Lib.hid h
  have HI := Lib.hid hI
  have HA := Lib.hid hao
  clear h hI hao
  go_enter Try.func12, Try.ntmps12
  go_wp2
  go_loopw [3, 5, 13] (fun v _ i wq => ∃ q : Nat, q ≤ s.n ∧ i = .int .i64 q ∧ LR w s v q wq) (fun _ _ i _ => s.n - (intOf i).toNat)
  case atStart => exact ⟨0, by omega, rfl, World.ownsRow_nil _ _ _ _, Tch.refl _ _⟩
  case round =>
    obtain ⟨q, hq, rfl, hlr⟩ := hrel
    have hT := hlr.2
    have hglen : (got s q).length ≤ s.n := by
      unfold got
      have := List.length_filterMap_le (fun i => if 0 ≤ s.ids i then some ((s.ids i).toNat, s.ats i) else none) (List.range q)
      simp at this; omega
    have HLR := Lib.hid hlr
    by_cases hqn : q < s.n
    · have hao := HA.out (by omega)
      subst hao
      have hCl := (HH.out.c (by omega)).lt
      have d0 := (hT.cell C (q * 2) hCl (by simp)).trans (HH.out.id q hqn)
      have d1 := (hT.cell C (q * 2 + 1) hCl (by simp)).trans (HH.out.at q hqn)
      have hlr' : C < wr.heap.size := Nat.lt_of_lt_of_le hCl hT.size
      have hsz := hT.size
      by_cases h0 : 0 ≤ s.ids q
      · have hq0 : decide ((0 : Int) ≤ s.ids q) = true := decide_eq_true_iff.2 h0
        obtain ⟨va, vc, hv, hvs⟩ := owns_form hlr.1
        subst hv
        clear hlr hT hvs
        go_wp2_with (at_builtin; (refine wpList_append1 E29 rfl (.tmp 20) (.tmp 23) rfl w.heap.size _ (got s q).length (zrow (idsOf (got s q))) (owns_new (owns_new HLR.out.1 _) _) rfl _ _ [.int .i64 (s.ids q)] rfl rfl (0, 0) 3 (heap_new_at _ _ _ (by rw [size_new])) (by simp [Value.oneCell']) (by unfold maxLen; omega) (by omega) (by simp; omega) ?_); intro va' vc' w' r1 r2 r3)
        go_roundw
        case rel => exact ⟨q + 1, by omega, by go_num, HLR.out.put h0 r1 _ _ r2⟩
        case measure => simp [intOf]; omega
      · have hq0 : decide ((0 : Int) ≤ s.ids q) = false := decide_eq_false_iff_not.2 h0
        clear hlr hT
        go_wp2
        go_roundw
        case rel => exact ⟨q + 1, by omega, by go_num, HLR.out.skip h0 ((Tch.refl _ _).new _)⟩
        case measure => simp [intOf]; omega
    · have HSO := Lib.hid (sort_own wr w.heap.size _ (idsOf (got s q)) (by simpa [idsOf] using hlr.1) hT.size (by simp [idsOf]; omega))
      obtain rfl : q = s.n := by omega
      have HQ := Lib.hid (sorted_ids HI.out)
      clear hlr hT
      go_wp2_with (go_at_call 23; refine HSO.out.mono ?_; rintro e w5 ⟨rfl, o5, b5⟩)
      go_ret
      rw [HQ.out] at o5
      refine ⟨_, rfl, ?_, ?_⟩
      · have e := congrArg List.length HQ.out
        rw [List.length_mergeSort] at e
        have e2 : (idsOf L).length = L.length := by simp [idsOf]
        rw [e, e2] at o5
        exact o5
      · exact Below.tch (HLR.out.2.nil.trans b5)
end Go.Proofs.Ytgnjjomfffmcaaa
