/- The document's arena: how it lies in memory, and the walks of Live, Give, Len over it; the slots' counts are bounded. -/
import Derived.Test.YtpceeeifdgbomaaGive
import Derived.Test.YtpceeeifdgbomaaAnySl
namespace Go.Proofs.Ytpceeeifdgbomaa
open Go.RowKit

def irow (l : List Nat) : List Value := l.map fun (j : Nat) => Value.int .i64 (j : Int)
theorem E41 : ElemT Try.prog 41 3 1 8 := by
  obtain ⟨i0, hi, hz0, hz1, hz2⟩ := info_parts (show (Try.prog.info? 3).map (fun i => (i.zero, i.size, i.bytes)) = some (some (.int .i64 0), 1, 8) by kernel_rfl)
  exact ⟨Try.underlying41, ⟨i0, _, hi, hz0, hz1, hz2, rfl⟩, by decide⟩
/-- The document's arena. -/
structure RR (w : World) (B R G Z : Nat) (fv : Value) (s : St) : Prop where
  ok : s.ok
  r : Blk w R 47 4 (fun j => match j with | 0 => .slice (some ⟨G, 0, none⟩) s.n s.n | 1 => .slice (some ⟨Z, 0, none⟩) s.n s.n | 2 => fv | _ => .int .i64 s.used)
  g : Blk w G 3 s.n (fun k => .int .i64 (s.gen k))
  z : Blk w Z 4 s.n (fun k => .bool (decide (k < s.used) && decide (k ∉ s.free)))
  f : w.ownsRow B 3 1 fv s.free.length (irow s.free.reverse)
  ne1 : R ≠ G
  ne2 : R ≠ Z
  ne3 : G ≠ Z
  nef : ∀ b, fv.ownBlock = some b → b ∉ [R, G, Z]

theorem RR.keep {w w' : World} {B R G Z : Nat} {fv : Value} {s : St} (h : RR w B R G Z fv s) {bs : List Nat} (t : Tch bs w w') (h1 : R ∉ bs) (h2 : G ∉ bs) (h3 : Z ∉ bs) (h4 : ∀ b, fv.ownBlock = some b → b ∉ bs) : RR w' B R G Z fv s :=
  ⟨h.ok, t.blk h.r h1, t.blk h.g h2, t.blk h.z h3, owns_tch h.f t h4, h.ne1, h.ne2, h.ne3, h.nef⟩
theorem RR.new {w : World} {B R G Z : Nat} {fv : Value} {s : St} (h : RR w B R G Z fv s) (o : Obj) : RR (w.alloc o) B R G Z fv s :=
  ⟨h.ok, h.r.new o, h.g.new o, h.z.new o, owns_new h.f o, h.ne1, h.ne2, h.ne3, h.nef⟩
theorem RR.drewN {w : World} {B R G Z : Nat} {fv : Value} {s : St} (h : RR w B R G Z fv s) (k : Nat) : RR (w.drewN k) B R G Z fv s :=
  ⟨h.ok, h.r, h.g, h.z, h.f, h.ne1, h.ne2, h.ne3, h.nef⟩

set_option maxHeartbeats 400000 in
theorem rlive_any (w : World) (B R G Z : Nat) (fv : Value) (s : St) (h : RR w B R G Z fv s) (k g : Int) (hk : -9223372036854775808 ≤ k) (hk' : k ≤ 9223372036854775807) :
    Calls Try.prog 14 #[.pointer (some ⟨R, 0, none⟩), .agg #[.int .i64 k, .int .i64 g]] w fun e w' => e = .returned (.bool (s.live k g)) ∧ Tch [] w w' := by
  have lR := h.r.lt
  have lG := h.g.lt
  have lZ := h.z.lt
  have c1 : w.cell? ⟨R, 1, none⟩ = some (.slice (some ⟨Z, 0, none⟩) s.n s.n) := h.r.cell 1 (by omega)
  have c0 : w.cell? ⟨R, 0, none⟩ = some (.slice (some ⟨G, 0, none⟩) s.n s.n) := h.r.cell 0 (by omega)
  have hle := h.ok.le
  have hsm := h.ok.small
  by_cases k0 : 0 ≤ k
  · obtain ⟨m, rfl⟩ := Int.eq_ofNat_of_zero_le k0
    by_cases kn : m < s.n
    · have cz : w.cell? ⟨Z, m, none⟩ = some (.bool (decide (m < s.used) && decide (m ∉ s.free))) := h.z.cell m (by omega)
      have cg : w.cell? ⟨G, m, none⟩ = some (.int .i64 (s.gen m)) := h.g.cell m (by omega)
      by_cases kf : m < s.used ∧ m ∉ s.free
      · have HL : Hid (s.live m g = ((s.gen m : Int) == g)) := Lib.hid (by simp [St.live, kf.1, kf.2])
        simp only [kf.1, kf.2, not_false_eq_true, decide_true, Bool.and_self] at cz
        clear kf h
        go_enter Try.func14, Try.ntmps14
        go_wp2
        go_quiet (fail)
        go_wp2
        go_ret
        refine ⟨?_, ((Tch.refl _ _).new _).drewN _⟩
        rw [HL.out]; rfl
      · have HL : Hid (s.live m g = false) := Lib.hid (by
          cases hb : s.live m g with
          | false => rfl
          | true =>
            obtain ⟨m', e, h1, h2, _⟩ := (St.live_iff s m g).1 hb
            have : m = m' := by omega
            subst this
            exact absurd ⟨h1, h2⟩ kf)
        have hb : (decide (m < s.used) && decide (m ∉ s.free)) = false := by
          rw [Bool.and_eq_false_iff]
          by_cases h1 : m < s.used
          · right; simp; exact Classical.byContradiction fun h2 => kf ⟨h1, h2⟩
          · left; simpa using h1
        rw [hb] at cz
        clear kf h hb
        go_enter Try.func14, Try.ntmps14
        go_wp2
        go_quiet (fail)
        go_wp2
        go_ret
        refine ⟨?_, ((Tch.refl _ _).new _).drewN _⟩
        rw [HL.out]; rfl
    · have HL : Hid (s.live m g = false) := Lib.hid (by simp [St.live]; intro h1; omega)
      have hb : decide ((m : Int) < s.n) = false := by simp; omega
      clear h
      go_enter Try.func14, Try.ntmps14
      go_wp2
      go_quiet (fail)
      go_wp2
      go_ret
      refine ⟨?_, ((Tch.refl _ _).new _).drewN _⟩
      rw [HL.out]; rfl
  · have HL : Hid (s.live k g = false) := Lib.hid (by simp [St.live, k0])
    have hb : decide (0 ≤ k) = false := by simpa using k0
    clear h
    go_enter Try.func14, Try.ntmps14
    go_wp2
    go_quiet (fail)
    go_wp2
    go_ret
    refine ⟨?_, ((Tch.refl _ _).new _).drewN _⟩
    rw [HL.out]; rfl

set_option maxHeartbeats 400000 in
theorem rgive_no (w : World) (B R G Z : Nat) (fv : Value) (s : St) (h : RR w B R G Z fv s) (k g : Int) (hk : -9223372036854775808 ≤ k) (hk' : k ≤ 9223372036854775807) (hl : s.live k g = false) :
    Calls Try.prog 12 #[.pointer (some ⟨R, 0, none⟩), .agg #[.int .i64 k, .int .i64 g]] w fun e w' => e = .returned (.bool false) ∧ Tch [] w w' := by
  have HH := Lib.hid h
  have HL := Lib.hid hl
  clear h hl
  go_enter Try.func12, Try.ntmps12
  go_wp2_with (go_at_call 14; refine (rlive_any _ B R G Z fv s (HH.out.new _) k g hk hk').mono ?_; rw [HL.out]; rintro e w1 ⟨rfl, ht⟩)
  go_ret
  exact ⟨rfl, ((Tch.refl _ _).new _).trans ht⟩

/-- What Give leaves: the slot back on top, and new room for it, it may be. -/
def RGave (w : World) (B R G Z : Nat) (fv : Value) (s : St) (e : Ending) (w' : World) : Prop :=
  ∃ fv', e = .returned (.bool true) ∧ RR w' B R G Z fv' s ∧ Tch ([R, G, Z] ++ fv.ownBlock.toList) w w' ∧ (∀ b, fv'.ownBlock = some b → b ∈ fv.ownBlock.toList ∨ w.heap.size ≤ b)

set_option maxHeartbeats 400000 in
theorem rgive_yes (w : World) (B R G Z : Nat) (fv : Value) (s : St) (h : RR w B R G Z fv s) (hBw : B ≤ w.heap.size) (m : Nat) (h1 : m < s.used) (h2 : m ∉ s.free) :
    Calls Try.prog 12 #[.pointer (some ⟨R, 0, none⟩), .agg #[.int .i64 m, .int .i64 (s.gen m)]] w (RGave w B R G Z fv (s.give m)) := by
  have lR := h.r.lt
  have lG := h.g.lt
  have lZ := h.z.lt
  have HH := Lib.hid h
  have hmn : m < s.n := Nat.lt_of_lt_of_le h1 h.ok.le
  have hns := h.ok.small
  obtain ⟨fa, fc, hfv, hfv2⟩ := owns_form h.f
  subst hfv
  have HL : Hid (s.live m (s.gen m) = true) := Lib.hid ((St.live_iff s m _).2 ⟨m, rfl, h1, h2, rfl⟩)
  clear h hfv2
  go_enter Try.func12, Try.ntmps12
  go_wp2_with (go_at_call 14; refine (rlive_any _ B R G Z _ s (HH.out.new _) m (s.gen m) (by omega) (by omega)).mono ?_; rw [HL.out]; rintro e w1 ⟨rfl, ht⟩)
  have hr : Blk w1 R 47 4 _ := ht.blk (HH.out.r.new _) (by simp)
  have hz : Blk w1 Z 4 s.n _ := ht.blk (HH.out.z.new _) (by simp)
  have hg : Blk w1 G 3 s.n _ := ht.blk (HH.out.g.new _) (by simp)
  have c1 : w1.cell? ⟨R, 1, none⟩ = some (.slice (some ⟨Z, 0, none⟩) s.n s.n) := hr.cell 1 (by omega)
  have c2 : w1.cell? ⟨R, 2, none⟩ = some (.slice fa s.free.length fc) := hr.cell 2 (by omega)
  have cz : w1.cell? ⟨Z, m, none⟩ = some _ := hz.cell m (by omega)
  have cb := ht.cell w.heap.size 0 (by simp) (by simp)
  have fr := hr.frozen
  have fz := hz.frozen
  have ne2 := HH.out.ne2
  have ne2' : Z ≠ R := fun e => ne2 e.symm
  have lw := ht.size
  rw [size_new] at lw
  have hR1 : R < w1.heap.size := by omega
  have hZ1 : Z < w1.heap.size := by omega
  have HF1 := Lib.hid (owns_tch (owns_new HH.out.f (.cells #[.int .i64 m, .int .i64 (s.gen m)] 29)) ht (by simp))
  have hfz : (Value.slice fa s.free.length fc).ownBlock ≠ some Z := fun e => HH.out.nef Z e (by simp)
  have hfr : R ∉ (Value.slice fa s.free.length fc).ownBlock.toList := fun e => HH.out.nef R (by simpa using e) (by simp)
  have hlen : s.free.length ≤ 2000000 := by have := free_len s HH.out.ok; have := HH.out.ok.le; omega
  have HT := Lib.hid ht
  have HR := Lib.hid hr
  have HZ := Lib.hid hz
  have HG := Lib.hid hg
  clear ht hr hz hg
  go_wp2
  refine region_any (.takes [0, 1, 2, 3, 4, 5, 6] (.fork 7 [] .done .none)) (by kernel_rfl) (by kernel_rfl) rfl ?_
  go_wp2_with first | (with_reducible exact wpE_none) | (with_reducible refine wpE_takes_nil ?_) | (with_reducible refine wpE_done ?_) | (refine wpE_take rfl rfl (fun _ _ => ?_)) | (refine wpE_skip rfl rfl ?_) | (refine wpE_fork rfl rfl (fun _ _ => ?_) ?_) | (with_reducible exact agains_nil) | (refine agains_cons rfl (fun _ => ?_) ?_) | (with_reducible refine wpE_same ?_) | (with_reducible refine wpE_and ?_ ?_)
  refine region_any (.takes [0, 1, 2, 3, 4, 5, 6] (.fork 7 [2, 3, 4] (.fork 8 [] (.takes [9, 10] (.fork 11 [] .done .none)) .none) .none)) (by kernel_rfl) (by kernel_rfl) rfl ?_
  go_wp2_with first | ((with_reducible refine wpE_at 8 ?_); (refine wpE_append E41 rfl rfl (.tmp 20) (.tmp 23) rfl B (.slice fa s.free.length fc) s.free.length (irow s.free.reverse) (owns_new (owns_setNe HF1.out Z m _ hfz) _) rfl ⟨_, 0, none⟩ 1 1 [.int .i64 m] rfl rfl (news_one (T := 3) (fz := (0, 0)) (heap_new_at _ _ _ (by simp))) (by simp [Value.oneCell']) (by unfold maxLen; omega) (by omega) (by simp; omega) ?_ wpE_none); intro va' vc' w' r1 r2 r3; have q1 := (r2.blk ((HR.out.setNe m (.bool false) ne2).new (.cells #[.int .i64 m] 3)) hfr).cell 2 (by omega); have q2 := (r2.blk ((HR.out.setNe m (.bool false) ne2).new (.cells #[.int .i64 m] 3)) hfr).frozen 2) | (with_reducible exact wpE_none) | (with_reducible refine wpE_takes_nil ?_) | (with_reducible refine wpE_done ?_) | (refine wpE_take rfl rfl (fun _ _ => ?_)) | (refine wpE_skip rfl rfl ?_) | (refine wpE_fork rfl rfl (fun _ _ => ?_) ?_) | (with_reducible exact agains_nil) | (refine agains_cons rfl (fun _ => ?_) ?_) | (with_reducible refine wpE_same ?_) | (with_reducible refine wpE_and ?_ ?_)
  go_ret
  have hok := HH.out.ok
  have nG : G ∉ (Value.slice fa s.free.length fc).ownBlock.toList := fun e => HH.out.nef G (by simpa using e) (by simp)
  have nZ : Z ∉ (Value.slice fa s.free.length fc).ownBlock.toList := fun e => HH.out.nef Z (by simpa using e) (by simp)
  have ne1 := HH.out.ne1
  have ne3 := HH.out.ne3
  have lw' : w1.heap.size + 1 ≤ w'.heap.size := by have := r2.size; simpa using this
  refine ⟨.slice va' (s.free.length + 1) vc', rfl, ⟨⟨List.nodup_cons.2 ⟨h2, hok.nodup⟩, ?_, hok.le, hok.small, hok.few⟩, ?_, ?_, ?_, ?_, ne1, ne2, ne3, fun b hb => ?_⟩, ?_, fun b hb => ?_⟩
  · intro k hk
    rcases List.mem_cons.1 hk with rfl | hk
    · exact h1
    · exact hok.lt k hk
  · refine ((r2.blk ((HR.out.setNe m _ ne2).new _) hfr).set 2 _).ext (fun k hk => ?_)
    match k, hk with
    | 0, _ => rfl
    | 1, _ => rfl
    | 2, _ => rfl
    | 3, _ => rfl
  · exact (r2.blk ((HG.out.setNe m _ ne3).new _) nG).setNe 2 _ (fun e => ne1 e.symm)
  · refine ((r2.blk ((HZ.out.set m _).new _) nZ).setNe 2 _ ne2').ext (fun k hk => ?_)
    by_cases e : k = m
    · simp [e, St.give]
    · simp only [if_neg e]
      congr 1
      rw [Bool.eq_iff_iff]
      simp [e, St.give]
      exact fun _ => (decide_eq_true_iff).symm
  · have := owns_setNe r1 R 2 (.slice va' (s.free.length + 1) vc') (fun e => by
      rcases r3 R e with g | g
      · exact hfr g
      · simp at g; omega)
    simpa [irow, St.give] using this
  · intro hm
    rcases r3 b hb with g | g
    · exact HH.out.nef b (by simpa using g) hm
    · simp at g hm; omega
  · have t1 : Tch ([R, G, Z] ++ (Value.slice fa s.free.length fc).ownBlock.toList) w w1 := ((Tch.refl _ _).new _).trans (HT.out.mono (by simp))
    have t2 := ((t1.set (b := Z) (off := m) (by simp) (.bool false)).new (.cells #[.int .i64 m] 3)).drew.drew.trans (r2.mono (fun k hk => List.mem_append_right _ hk))
    exact Tch.set t2 (by simp) _
  · rcases r3 b hb with g | g
    · exact .inl g
    · right; simp at g; omega

theorem rlen_any (w : World) (B R G Z : Nat) (fv : Value) (s : St) (h : RR w B R G Z fv s) :
    Calls Try.prog 16 #[.pointer (some ⟨R, 0, none⟩)] w fun e w' => e = .returned (.int .i64 ((s.used : Int) - s.free.length)) ∧ Tch [] w w' := by
  obtain ⟨fa, fc, hfv, hfv2⟩ := owns_form h.f
  subst hfv
  have c2 : w.cell? ⟨R, 2, none⟩ = some (.slice fa s.free.length fc) := h.r.cell 2 (by omega)
  have c3 : w.cell? ⟨R, 3, none⟩ = some (.int .i64 s.used) := h.r.cell 3 (by omega)
  have h1 := free_len s h.ok
  have h2 := h.ok.le
  have h3 := h.ok.small
  generalize s.free.length = q at *
  clear h hfv2
  go_enter Try.func16, Try.ntmps16
  go_wp2
  go_quiet (fail)
  go_wp2
  go_ret
  exact ⟨rfl, (Tch.refl _ _).drewN _⟩
end Go.Proofs.Ytpceeeifdgbomaa
