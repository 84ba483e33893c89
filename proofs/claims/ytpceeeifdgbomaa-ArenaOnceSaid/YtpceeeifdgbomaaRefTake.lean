/- The walks of Take and New over the document's arena; the slots' counts are bounded. -/
import Derived.Test.YtpceeeifdgbomaaRefGive
import Derived.Test.YtpceeeifdgbomaaNew
import Derived.WalkSmall
namespace Go.Proofs.Ytpceeeifdgbomaa
open Go.RowKit

set_option maxHeartbeats 400000 in
theorem rtake_none (w : World) (B R G Z : Nat) (fv : Value) (s : St) (h : RR w B R G Z fv s) (hf : s.free = []) (hu : s.used = s.n) :
    Calls Try.prog 10 #[.pointer (some ⟨R, 0, none⟩)] w fun e w' => e = .returned (.tuple #[.agg #[.int .i64 0, .int .i64 0], .bool false]) ∧ Tch [] w w' := by
  have hA := h.r.lt
  obtain ⟨fa, fc, hfv, hfv2⟩ := owns_form h.f
  subst hfv
  have c0 : w.cell? ⟨R, 0, none⟩ = some (.slice (some ⟨G, 0, none⟩) s.n s.n) := h.r.cell 0 (by omega)
  have c2 : w.cell? ⟨R, 2, none⟩ = some (.slice fa 0 fc) := by have := h.r.cell 2 (by omega); rw [hf] at this; exact this
  have c3 : w.cell? ⟨R, 3, none⟩ = some (.int .i64 s.n) := by rw [← hu]; exact h.r.cell 3 (by omega)
  have hsm := h.ok.small
  clear h hf hu hfv2
  go_enter Try.func10, Try.ntmps10
  go_wp2
  exact bodyPost_ret (v := .tuple #[.agg #[.int .i64 0, .int .i64 0], .bool false]) (by simp [results, Try.results10, go_sem]) rfl ⟨rfl, by first | exact ((((Tch.refl _ _).new _).drewN _).setNew (Nat.le_refl _) _).setNew (Nat.le_refl _) _ | exact (Tch.refl _ _).new _ | exact ((Tch.refl _ _).new _).drewN _⟩

set_option maxHeartbeats 400000 in
theorem rtake_top (w : World) (B R G Z : Nat) (fv : Value) (s : St) (h : RR w B R G Z fv s) (k : Nat) (fs : List Nat) (hf : s.free = k :: fs) (hg : s.gen k < 1000000) :
    Calls Try.prog 10 #[.pointer (some ⟨R, 0, none⟩)] w fun e w' => e = .returned (.tuple #[.agg #[.int .i64 k, .int .i64 (s.gen k + 1 : Nat)], .bool true]) ∧ Tch [R, G, Z] w w' ∧ ∃ fv', RR w' B R G Z fv' (s.took k fs) ∧ fv'.ownBlock = fv.ownBlock := by
  have hA := h.r.lt
  have hG := h.g.lt
  have hZ := h.z.lt
  have hku : k < s.used := h.ok.lt k (by simp [hf])
  have hle := h.ok.le
  have hsm := h.ok.small
  have hfl := free_len s h.ok
  have hlen : s.free.length = fs.length + 1 := by rw [hf]; rfl
  have ne1 := h.ne1
  have ne2 := h.ne2
  have ne3 := h.ne3
  have ne1' : G ≠ R := fun e => ne1 e.symm
  have ne2' : Z ≠ R := fun e => ne2 e.symm
  have ne3' : Z ≠ G := fun e => ne3 e.symm
  obtain ⟨g, fc, hfv, hg1, hg2⟩ := owns_some h.f (by omega)
  subst hfv
  have nef := h.nef
  have n1 : g ≠ R := fun e => nef g rfl (by simp [e])
  have n2 : g ≠ G := fun e => nef g rfl (by simp [e])
  have n3 : g ≠ Z := fun e => nef g rfl (by simp [e])
  have hrow : irow s.free.reverse = irow fs.reverse ++ [.int .i64 k] := by rw [hf]; simp [irow]
  have hl1 : (irow fs.reverse).length = fs.length := by simp [irow]
  have cf : w.cell? ⟨g, fs.length, none⟩ = some (.int .i64 k) := by
    have hf' := h.f
    rw [hlen] at hf'
    have := owns_cell hf' fs.length (by omega)
    rw [this, hrow, List.getElem?_append_right (by omega), hl1]; simp
  have c0 : w.cell? ⟨R, 0, none⟩ = some (.slice (some ⟨G, 0, none⟩) s.n s.n) := h.r.cell 0 (by omega)
  have c1 : w.cell? ⟨R, 1, none⟩ = some (.slice (some ⟨Z, 0, none⟩) s.n s.n) := h.r.cell 1 (by omega)
  have c2 : w.cell? ⟨R, 2, none⟩ = some (.slice (some ⟨g, 0, none⟩) (fs.length + 1 : Nat) fc) := by rw [← hlen]; exact h.r.cell 2 (by omega)
  have c3 : w.cell? ⟨R, 3, none⟩ = some (.int .i64 s.used) := h.r.cell 3 (by omega)
  have cz : w.cell? ⟨Z, k, none⟩ = some _ := h.z.cell k (by omega)
  have cg : w.cell? ⟨G, k, none⟩ = some (.int .i64 (s.gen k)) := h.g.cell k (by omega)
  have fr := h.r.frozen
  have fz := h.z.frozen
  have fg := h.g.frozen
  have hcap : fs.length + 1 ≤ fc := by
    have := h.f
    rcases this.2 with ⟨h0, _⟩ | ⟨g', cap', cur, hv, hg, hh, hn, hcap, hsz, htake⟩
    · cases h0
    · cases hv; omega
  obtain ⟨q, hq⟩ : ∃ q, q = fs.length := ⟨_, rfl⟩
  rw [← hq] at cf c2 hcap hlen
  have hq2 : q < 2000000 := by omega
  have HH := Lib.hid h
  have HF := Lib.hid hf
  have HQ := Lib.hid hq
  have HL := Lib.hid hlen
  clear h hf hfl hrow hl1 hq hlen nef
  go_enter Try.func10, Try.ntmps10
  go_wp2
  go_quiet (fail)
  go_wp2
  refine region_any (.takes [0, 1, 2, 3, 4, 5, 6, 7, 8, 9, 10, 11, 12, 13] (.fork 14 [] .done .none)) (by kernel_rfl) (by kernel_rfl) rfl ?_
  go_wp2_with first | (with_reducible exact wpE_none) | (with_reducible refine wpE_takes_nil ?_) | (with_reducible refine wpE_done ?_) | (refine wpE_take rfl rfl (fun _ _ => ?_)) | (refine wpE_skip rfl rfl ?_) | (refine wpE_fork rfl rfl (fun _ _ => ?_) ?_) | (with_reducible exact agains_nil) | (refine agains_cons rfl (fun _ => ?_) ?_) | (with_reducible refine wpE_same ?_) | (refine And.intro (rfl : (_ : World) = _) ?_) | (with_reducible refine wpE_and ?_ ?_)

  refine bodyPost_ret (v := .tuple #[.agg #[.int .i64 k, .int .i64 (s.gen k + 1)], .bool true]) (by simp [results, Try.results10, go_sem]) rfl ⟨?_, ?_, .slice (some ⟨g, 0, none⟩) q fc, ?_, rfl⟩
  · rw [Int.natCast_add]; rfl
  · exact Tch.setNew (Tch.setNew (Tch.set (Tch.set (Tch.set (((Tch.refl _ _).new _).drewN _) (by simp) _) (by simp) _) (by simp) _) (Nat.le_refl _) _) (Nat.le_refl _) _
  · have hok := HH.out.ok
    have hF := HF.out
    have hQ := HQ.out
    subst hQ
    have hnd := hok.nodup
    rw [hF] at hnd
    obtain ⟨hk1, hk2⟩ := List.nodup_cons.1 hnd
    have na : R ≠ w.heap.size := by omega
    have ng : G ≠ w.heap.size := by omega
    have nz : Z ≠ w.heap.size := by omega
    have hf' : w.ownsRow B 3 1 (.slice (some ⟨g, 0, none⟩) (fs.length + 1) fc) (fs.length + 1) (irow fs.reverse ++ [.int .i64 k]) := by
      have h1 := HH.out.f
      rw [HL.out] at h1
      have hrow : irow s.free.reverse = irow fs.reverse ++ [.int .i64 k] := by rw [hF]; simp [irow]
      rw [hrow] at h1
      exact h1
    have hpop := ownsRow_pop (by simp [irow]) hf'
    refine ⟨⟨hk2, fun j hj => hok.lt j (by rw [hF]; exact List.mem_cons_of_mem _ hj), hok.le, hok.small, ?_⟩, ?_, ?_, ?_, ?_, ne1, ne2, ne3, ?_⟩
    · intro j
      show bump s.gen k j ≤ _
      unfold bump
      have := hok.few j
      by_cases e : j = k
      · subst e; simp only [if_true]; omega
      · simp only [if_neg e]; omega
    · refine (((((((HH.out.r.new _).drewN _).set 2 _).setNe k _ ne2).setNe k _ ne1).setNe 0 _ na).setNe 1 _ na).ext (fun j hj => ?_)
      match j, hj with
      | 0, _ => rfl
      | 1, _ => rfl
      | 2, _ => rfl
      | 3, _ => rfl
    · refine (((((((HH.out.g.new _).drewN _).setNe 2 _ ne1').setNe k _ ne3).set k _).setNe 0 _ ng).setNe 1 _ ng).ext (fun j hj => ?_)
      show _ = Value.int .i64 (bump s.gen k j : Nat)
      unfold bump
      by_cases e : j = k
      · subst e; simp
      · simp [e]
    · refine (((((((HH.out.z.new _).drewN _).setNe 2 _ ne2').set k _).setNe k _ ne3').setNe 0 _ nz).setNe 1 _ nz).ext (fun j hj => ?_)
      by_cases e : j = k
      · subst e; simp [St.took, hku, hk1]
      · simp only [if_neg e]
        congr 2
        rw [decide_eq_decide]; simp [St.took, hF, e]
    · have hg' : g ≠ w.heap.size := by omega
      exact owns_setNe (owns_setNe (owns_setNe (owns_setNe (owns_setNe (owns_drewN (owns_new hpop _) _) R 2 _ (fun e => n1 (by injection e))) Z k _ (fun e => n3 (by injection e))) G k _ (fun e => n2 (by injection e))) w.heap.size 0 _ (fun e => hg' (by injection e))) w.heap.size 1 _ (fun e => hg' (by injection e))
    · intro b hb
      exact HH.out.nef b hb

set_option maxHeartbeats 400000 in
theorem rtake_next (w : World) (B R G Z : Nat) (fv : Value) (s : St) (h : RR w B R G Z fv s) (hf : s.free = []) (hu : s.used < s.n) (hg : s.gen s.used < 1000000) :
    Calls Try.prog 10 #[.pointer (some ⟨R, 0, none⟩)] w fun e w' => e = .returned (.tuple #[.agg #[.int .i64 s.used, .int .i64 (s.gen s.used + 1 : Nat)], .bool true]) ∧ Tch [R, G, Z] w w' ∧ ∃ fv', RR w' B R G Z fv' s.next ∧ fv'.ownBlock = fv.ownBlock := by
  have hA := h.r.lt
  have hG := h.g.lt
  have hZ := h.z.lt
  have hle := h.ok.le
  have hsm := h.ok.small
  have ne1 := h.ne1
  have ne2 := h.ne2
  have ne3 := h.ne3
  have ne1' : G ≠ R := fun e => ne1 e.symm
  have ne2' : Z ≠ R := fun e => ne2 e.symm
  have ne3' : Z ≠ G := fun e => ne3 e.symm
  obtain ⟨fa, fc, hfv, hfv2⟩ := owns_form h.f
  subst hfv
  obtain ⟨u, hu'⟩ : ∃ u, u = s.used := ⟨_, rfl⟩
  have c0 : w.cell? ⟨R, 0, none⟩ = some (.slice (some ⟨G, 0, none⟩) s.n s.n) := h.r.cell 0 (by omega)
  have c1 : w.cell? ⟨R, 1, none⟩ = some (.slice (some ⟨Z, 0, none⟩) s.n s.n) := h.r.cell 1 (by omega)
  have c2 : w.cell? ⟨R, 2, none⟩ = some (.slice fa 0 fc) := by have := h.r.cell 2 (by omega); rw [hf] at this; exact this
  have c3 : w.cell? ⟨R, 3, none⟩ = some (.int .i64 u) := by rw [hu']; exact h.r.cell 3 (by omega)
  have cz : w.cell? ⟨Z, u, none⟩ = some (.bool (decide (u < s.used) && decide (u ∉ s.free))) := by rw [hu']; exact h.z.cell _ (by omega)
  have cg : w.cell? ⟨G, u, none⟩ = some (.int .i64 (s.gen u)) := by rw [hu']; exact h.g.cell _ (by omega)
  have hun : ((u : Int) == (s.n : Int)) = false := beq_eq_false_iff_ne.2 (by omega)
  have fr := h.r.frozen
  have fz := h.z.frozen
  have fg := h.g.frozen
  rw [← hu'] at hu hg ⊢
  have HU := Lib.hid hu'
  have HH := Lib.hid h
  have HF := Lib.hid hf
  clear h hf hu' hle hfv2
  go_enter Try.func10, Try.ntmps10
  go_wp2
  refine bodyPost_ret (v := .tuple #[.agg #[.int .i64 u, .int .i64 (s.gen u + 1)], .bool true]) (by simp [results, Try.results10, go_sem]) rfl ⟨?_, ?_, .slice fa s.free.length fc, ?_, ?_⟩
  · rw [Int.natCast_add]; rfl
  · exact Tch.new (Tch.set (Tch.set (Tch.set (Tch.refl _ _) (by simp) _) (by simp) _) (by simp) _) _
  · have hok := HH.out.ok
    have hF := HF.out
    have hU := HU.out
    have na : R ≠ w.heap.size := by omega
    have ng : G ≠ w.heap.size := by omega
    have nz : Z ≠ w.heap.size := by omega
    have hnef := HH.out.nef
    have hfl := owns_base HH.out.f
    refine ⟨⟨hok.nodup, fun j hj => Nat.lt_succ_of_lt (hok.lt j hj), by show s.used + 1 ≤ s.n; omega, hok.small, ?_⟩, ?_, ?_, ?_, ?_, ne1, ne2, ne3, ?_⟩
    · intro j
      show bump s.gen s.used j ≤ _
      unfold bump
      have := hok.few j
      rw [← hU]
      by_cases e : j = u
      · subst e; simp only [if_true]; omega
      · simp only [if_neg e]; omega
    · refine ((((HH.out.r.set 3 _).setNe u _ ne2).setNe u _ ne1).new _).ext (fun j hj => ?_)
      match j, hj with
      | 0, _ => rfl
      | 1, _ => rfl
      | 2, _ => rfl
      | 3, _ =>
        show Value.int .i64 ((u : Int) + 1) = Value.int .i64 ((s.used + 1 : Nat) : Int)
        rw [hU]; rfl
    · refine ((((HH.out.g.setNe 3 _ ne1').setNe u _ ne3).set u _).new _).ext (fun j hj => ?_)
      show _ = Value.int .i64 (bump s.gen s.used j : Nat)
      unfold bump
      rw [← hU]
      by_cases e : j = u
      · subst e; simp
      · simp [e]
    · refine ((((HH.out.z.setNe 3 _ ne2').set u _).setNe u _ ne3').new _).ext (fun j hj => ?_)
      show _ = Value.bool (decide (j < s.used + 1) && decide (j ∉ s.free))
      rw [hF, ← hU]
      by_cases e : j = u
      · simp [e]
      · simp only [if_neg e]
        congr 2
        rw [decide_eq_decide]; omega
    · have hx : ∀ b, b ∈ [R, G, Z] → (Value.slice fa s.free.length fc).ownBlock ≠ some b := fun b hb e => hnef b e hb
      have hy : (Value.slice fa s.free.length fc).ownBlock ≠ some w.heap.size := fun e => by have := (hfl _ e).2; omega
      exact owns_new (owns_setNe (owns_setNe (owns_setNe HH.out.f R 3 _ (hx R (by simp))) Z u _ (hx Z (by simp))) G u _ (hx G (by simp))) _
    · intro b hb
      exact hnef b hb
  · rfl

def RNewPost (B n : Nat) (w : World) (e : Ending) (w' : World) : Prop :=
  ∃ R G Z, w.heap.size ≤ R ∧ w.heap.size ≤ G ∧ w.heap.size ≤ Z ∧ e = .returned (.pointer (some ⟨R, 0, none⟩)) ∧ RR w' B R G Z (.slice none 0 0) (St.new n) ∧ Tch [] w w'

theorem infoB : (Try.prog.info? 4).map (fun i => (i.zero, i.size, i.bytes)) = some (some (.bool false), 1, 1) := by kernel_rfl
theorem make_bools (n : Nat) (hn : n ≤ 2000000) (w : World) :
    (Instr.makeSlice 45 (.int .i64 (n : Int)) (.int .i64 (n : Int))).run Try.prog w = .ok (.slice (some ⟨w.heap.size, 0, none⟩) n n) (w.alloc (.cells (Array.replicate n (.bool false)) 4)) := by
  obtain ⟨i0, hi, hz0, hz1, hz2⟩ := info_parts infoB
  rw [run_make_at 45 4 i0 _ Try.underlying45 hi hz0 n (by rw [hz2]; omega) (by omega) w, hz1]
  rw [← made_one, Nat.mul_one]
  rfl

theorem rnew_close (B n : Nat) (hn : n ≤ 1048576) (w w2 : World) (G Z : Nat) (hg : Blk w2 G 3 n (fun _ => .int .i64 0)) (hz : Blk w2 Z 4 n (fun _ => .bool false)) (t : Tch [] w w2) (hGZ : G ≠ Z) (h1 : w.heap.size ≤ G) (h2 : w.heap.size ≤ Z) (d : Nat) :
    RNewPost B n w (.returned (.pointer (some ⟨w2.heap.size, 0, none⟩))) ((w2.alloc
      (.cells #[.slice (some ⟨G, 0, none⟩) n n, .slice (some ⟨Z, 0, none⟩) n n, .slice none 0 0, .int .i64 0] 47)).drewN d) := by
  have b2 := Blk.made (w := w2) 47
    #[.slice (some ⟨G, 0, none⟩) n n, .slice (some ⟨Z, 0, none⟩) n n, .slice none 0 0, .int .i64 0]
    (fun j => match j with | 0 => .slice (some ⟨G, 0, none⟩) n n | 1 => .slice (some ⟨Z, 0, none⟩) n n | 2 => .slice none 0 0 | _ => .int .i64 0)
    (fun k hk => match k, hk with | 0, _ => rfl | 1, _ => rfl | 2, _ => rfl | 3, _ => rfl)
  have lg := hg.lt
  have lz := hz.lt
  refine ⟨w2.heap.size, G, Z, t.size, h1, h2, rfl, ⟨⟨List.nodup_nil, (fun k hk => (by cases hk)), Nat.zero_le _, (by show n ≤ 2000000; omega), fun _ => Nat.zero_le _⟩, ?_, ?_, ?_, ?_, (by omega), (by omega), hGZ, ?_⟩, ?_⟩
  · refine Blk.ext b2 (fun j hj => ?_)
    match j, hj with
    | 0, _ => rfl
    | 1, _ => rfl
    | 2, _ => rfl
    | 3, _ => rfl
  · exact hg.new _
  · refine Blk.ext (hz.new _) (fun j hj => ?_)
    simp [St.new]
  · exact ⟨rfl, .inl ⟨rfl, rfl⟩⟩
  · intro b hb
    cases hb
  · exact (t.new _).drewN _

theorem made_rep (w : World) (T : TypeId) (n : Nat) (v : Value) : Blk (w.alloc (.cells (Array.replicate n v) T)) w.heap.size T n (fun _ => v) := by
  have := Blk.made (w := w) T (Array.replicate n v) (fun _ => v) (fun k hk => by simp at hk; simp [hk])
  simpa using this

set_option maxHeartbeats 400000 in
theorem rnew_yes (B n : Nat) (hn : n ≤ 1048576) (w : World) : Calls Try.prog 8 #[.int .i64 n] w (RNewPost B n w) := by
  have hmk := make_ints n (by omega)
  have hmb := make_bools n (by omega)
  go_enter Try.func8, Try.ntmps8
  go_wp2
  refine region_any (.takes [0, 2] (.fork 1 [] (.fork 3 [] (.takes [4] (.fork 5 [] (.takes [6] .done) .none)) .none) (.fork 3 [] (.fork 1 [] (.takes [4] (.fork 5 [] (.takes [6] .done) .none)) .none) .none))) (by kernel_rfl) (by kernel_rfl) rfl ?_
  go_wp2_with first | (with_reducible exact wpE_none) | (with_reducible refine wpE_takes_nil ?_) | (with_reducible refine wpE_done ?_) | (refine wpE_take rfl rfl (fun _ _ => ?_)) | (refine wpE_skip rfl rfl ?_) | (refine wpE_fork rfl rfl (fun _ _ => ?_) ?_) | (with_reducible exact agains_nil) | (refine agains_cons rfl (fun _ => ?_) ?_) | (with_reducible refine wpE_same ?_) | (refine And.intro (rfl : (_ : World) = _) ?_) | (with_reducible refine wpE_and ?_ ?_)
  · go_ret
    have e1 : (w.alloc (.cells (Array.replicate n (.int .i64 0)) 3)).heap.size = w.heap.size + 1 := by rw [size_new]
    have e2 : ((w.alloc (.cells (Array.replicate n (.int .i64 0)) 3)).alloc (.cells (Array.replicate n (.bool false)) 4)).heap.size = w.heap.size + 1 + 1 := by rw [size_new, size_new]
    have q1 := (made_rep w 3 n (.int .i64 0)).new (.cells (Array.replicate n (.bool false)) 4)
    have q2 := made_rep (w.alloc (.cells (Array.replicate n (.int .i64 0)) 3)) 4 n (.bool false)
    rw [e1] at q2
    have := rnew_close B n hn w _ _ _ q1 q2 (((Tch.refl _ _).new _).new _) (by omega) (by omega) (by omega) 1
    rw [e2] at this
    exact this
  · go_ret
    have e1 : (w.alloc (.cells (Array.replicate n (.bool false)) 4)).heap.size = w.heap.size + 1 := by rw [size_new]
    have e2 : ((w.alloc (.cells (Array.replicate n (.bool false)) 4)).alloc (.cells (Array.replicate n (.int .i64 0)) 3)).heap.size = w.heap.size + 1 + 1 := by rw [size_new, size_new]
    have q1 := (made_rep w 4 n (.bool false)).new (.cells (Array.replicate n (.int .i64 0)) 3)
    have q2 := made_rep (w.alloc (.cells (Array.replicate n (.bool false)) 4)) 3 n (.int .i64 0)
    rw [e1] at q2
    have := rnew_close B n hn w _ _ _ q2 q1 (((Tch.refl _ _).new _).new _) (by omega) (by omega) (by omega) 1
    rw [e2] at this
    exact this

end Go.Proofs.Ytpceeeifdgbomaa
