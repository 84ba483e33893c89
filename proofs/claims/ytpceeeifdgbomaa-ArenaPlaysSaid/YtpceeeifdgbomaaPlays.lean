/- The walk of ArenaPlays: it answers true, for every steps. -/
import Derived.Test.YtpceeeifdgbomaaBoth
import Derived.Lib.EndianBits
namespace Go.Proofs.Ytpceeeifdgbomaa
open Go.RowKit

/-- Both arenas and the list of those that went lie apart in memory. -/
structure PP (w0 : World) (A G X R H Z : Nat) (w : World) (top : Int) (nx : Nat → Int) (fv v : Value) (sa sr : St) (l : List (Int × Int)) : Prop where
  a : AR w A G X top nx sa
  r : RR w w0.heap.size R H Z fv sr
  row : w.ownsRow w0.heap.size 29 2 v l.length (hrows l)
  b : Below w0.heap.size w0 w
  lo : ∀ k ∈ [A, G, X, R, H, Z], w0.heap.size ≤ k
  d1 : ∀ k ∈ [A, G, X], k ∉ [R, H, Z]
  d2 : ∀ k, fv.ownBlock = some k → k ∉ [A, G, X]
  d3 : ∀ k, v.ownBlock = some k → k ∉ [A, G, X, R, H, Z]
  d4 : ∀ k, v.ownBlock = some k → fv.ownBlock ≠ some k

section
variable {w0 : World} {A G X R H Z : Nat} {w w' : World} {top top' : Int} {nx nx' : Nat → Int} {fv fv' v v' : Value} {sa sr s' : St} {l : List (Int × Int)}
theorem PP.lt (h : PP w0 A G X R H Z w top nx fv v sa sr l) : ∀ k ∈ [A, G, X, R, H, Z], k < w.heap.size := by
  have a := h.a.a.lt
  have b := h.a.g.lt
  have c := h.a.x.lt
  have d := h.r.r.lt
  have e := h.r.g.lt
  have f := h.r.z.lt
  simp; omega
theorem PP.tch (h : PP w0 A G X R H Z w top nx fv v sa sr l) (t : Tch [] w w') : PP w0 A G X R H Z w' top nx fv v sa sr l :=
  ⟨h.a.tch t (by simp), h.r.keep t (by simp) (by simp) (by simp) (by simp), owns_tch h.row t (by simp), t.below h.b h.b.size (by simp), h.lo, h.d1, h.d2, h.d3, h.d4⟩
theorem PP.atook (h : PP w0 A G X R H Z w top nx fv v sa sr l) (t : Tch [A, G, X] w w') (ha : AR w' A G X top' nx' s') : PP w0 A G X R H Z w' top' nx' fv v s' sr l := by
  have d1 := h.d1
  have d3 := h.d3
  refine ⟨ha, h.r.keep t (fun e => d1 R e (by simp)) (fun e => d1 H e (by simp)) (fun e => d1 Z e (by simp)) h.d2, owns_tch h.row t (fun b hb e => d3 b hb ?_), t.below h.b h.b.size (fun b hb => h.lo b ?_), h.lo, d1, h.d2, d3, h.d4⟩
  · simp at e ⊢; omega
  · simp at hb ⊢; omega
theorem PP.rtook (h : PP w0 A G X R H Z w top nx fv v sa sr l) (t : Tch ([R, H, Z] ++ fv.ownBlock.toList) w w') (hr : RR w' w0.heap.size R H Z fv' s') (hf : ∀ b, fv'.ownBlock = some b → b ∈ fv.ownBlock.toList ∨ w.heap.size ≤ b) :
    PP w0 A G X R H Z w' top nx fv' v sa s' l := by
  have d1 := h.d1
  have d3 := h.d3
  have hl := h.lt
  refine ⟨h.a.tch t (fun b hb e => ?_), hr, owns_tch h.row t (fun b hb e => ?_), t.below h.b h.b.size (fun b hb => ?_), h.lo, d1, fun b hb e => ?_, d3, fun b hb e => ?_⟩
  · rcases List.mem_append.1 e with e | e
    · exact d1 b hb e
    · exact h.d2 b (by simpa using e) hb
  · rcases List.mem_append.1 e with e | e
    · exact d3 b hb (by simp at e ⊢; omega)
    · exact h.d4 b hb (by simpa using e)
  · rcases List.mem_append.1 hb with e | e
    · exact h.lo b (by simp at e ⊢; omega)
    · exact (h.r.f.lt b (by simpa using e)).1
  · rcases hf b hb with g | g
    · exact h.d2 b (by simpa using g) e
    · have := hl b (by simp at e ⊢; omega)
      omega
  · rcases hf b e with g | g
    · exact h.d4 b hb (by simpa using g)
    · have := (h.row.lt b hb).2
      omega
theorem PP.went (h : PP w0 A G X R H Z w top nx fv v sa sr l) (t : Tch v.ownBlock.toList w w') (p : Int × Int) (hv : w'.ownsRow w0.heap.size 29 2 v' (l.length + 1) (hrows l ++ [.int .i64 p.1, .int .i64 p.2])) (hf : ∀ b, v'.ownBlock = some b → b ∈ v.ownBlock.toList ∨ b = w.heap.size) :
    PP w0 A G X R H Z w' top nx fv v' sa sr (l ++ [p]) := by
  have d3 := h.d3
  have hl := h.lt
  have hn : ∀ k ∈ [A, G, X, R, H, Z], k ∉ v.ownBlock.toList := fun k hk e => d3 k (by simpa using e) hk
  refine ⟨h.a.tch t (fun b hb e => hn b (by simp at hb ⊢; omega) e), h.r.keep t (hn R (by simp)) (hn H (by simp)) (hn Z (by simp)) (fun b hb e => h.d4 b (by simpa using e) hb), ?_, t.below h.b h.b.size (fun b hb => (h.row.lt b (by simpa using hb)).1), h.lo, h.d1, h.d2, fun b hb e => ?_, fun b hb e => ?_⟩
  · rw [hrows_snoc, List.length_append]; exact hv
  · rcases hf b hb with g | g
    · exact d3 b (by simpa using g) e
    · have := hl b e
      omega
  · rcases hf b hb with g | g
    · exact h.d4 b (by simpa using g) e
    · have := (h.r.f.lt b e).2
      omega
end

theorem mem_snoc {l : List (Int × Int)} {q : Int × Int → Prop} (h : ∀ p ∈ l, q p) {x : Int × Int} (hx : q x) : ∀ p ∈ l ++ [x], q p := by
  intro p hp
  rcases List.mem_append.1 hp with g | g
  · exact h p g
  · simp at g; subst g; exact hx
theorem pick_place (f : Int) (n : Nat) (h0 : 0 < n) (h1 : n ≤ 1000) : ∃ m : Nat, wrap64 ((IntKind.u64.wrap f).tmod n) = (m : Int) ∧ m < n := by
  rw [IntKind.wrap_u64]
  have h2 : 0 ≤ f % 18446744073709551616 := by omega
  rw [Int.tmod_eq_emod_of_nonneg h2]
  obtain ⟨q, hq⟩ := Int.eq_ofNat_of_zero_le h2
  rw [hq]
  refine ⟨q % n, ?_, Nat.mod_lt _ h0⟩
  have : q % n < n := Nat.mod_lt _ h0
  have e : ((q : Int) % (n : Int)) = ((q % n : Nat) : Int) := rfl
  rw [e]
  unfold wrap64; omega
theorem size_drew (w : World) : w.drew.heap.size = w.heap.size := rfl
def inB (z : Int) : Prop := -9223372036854775808 ≤ z ∧ z ≤ 9223372036854775807

set_option maxRecDepth 20000 in
set_option maxHeartbeats 4000000 in
theorem plays_any (n0 : Nat) (hn0 : n0 < 256) (ao : Option Addr) (L cap : Nat) (hL : L ≤ 9223372036854775807) (w : World)
    (hback : 0 < L → ∃ b off, ao = some ⟨b, off, none⟩ ∧ b < w.heap.size ∧ ∃ F : Nat → Nat → Int, ∀ i, i < L → ∀ j, j < 4 → (Lit.int .i64 (F i j)).wf = true ∧ w.cell? ⟨b, off + i * 4 + j, none⟩ = some (.int .i64 (F i j))) :
    Calls Try.prog 3 #[.int .u8 n0, .slice ao L cap] w fun e w' => e = .returned (.bool true) ∧ Below w.heap.size w w' := by
  obtain ⟨n, hn⟩ : ∃ n, n0 % 61 = n := ⟨_, rfl⟩
  have hk : (n0 : Int) % 61 = (n : Int) := by omega
  have hn1 : n < 61 := by omega
  clear hn
  go_enter Try.func3, Try.ntmps3
  go_wp2_with fail
  go_at_call 7
  refine (new_yes n (by omega) _).mono ?_
  rintro e w1 ⟨A, G, X, nx, gA, gG, gX, rfl, h1, t1⟩
  go_wp2_with fail
  go_at_call 8
  refine (rnew_yes w.heap.size n (by omega) _).mono ?_
  rintro e w2 ⟨R, H, Z, gR, gH, gZ, rfl, h2, t2⟩
  have hP : PP w A G X R H Z w2 (-1) nx (.slice none 0 0) (.slice none 0 0) (St.new n) (St.new n) [] := by
    have a1 := h1.a.lt
    have a2 := h1.g.lt
    have a3 := h1.x.lt
    have z1 := t1.size
    exact ⟨h1.tch t2 (by simp), h2, World.ownsRow_nil _ _ _ _, t1.nil.trans (t2.nil.mono (by omega)), by simp; omega, by simp; omega, by simp [Value.ownBlock], by simp [Value.ownBlock], by simp [Value.ownBlock]⟩
  clear h1 t1 h2 t2 gA gG gX gR gH gZ
  go_wp2_with fail
  go_loopw [8, 9, 10, 11, 12, 13, 14, 15] (fun v i _ _ _ _ _ _ wr => ∃ (j : Nat) (top : Int) (nx : Nat → Int) (fv : Value) (s : St) (l : List (Int × Int)), j ≤ L ∧ j ≤ 200 ∧ i = .int .i64 j ∧ l.length ≤ j ∧ (∀ k, s.gen k ≤ j) ∧ (∀ p ∈ l, inB p.1 ∧ inB p.2) ∧ PP w A G X R H Z wr top nx fv v s s l) (fun _ i _ _ _ _ _ _ _ => 200 - (intOf i).toNat)
  case atStart => exact ⟨0, _, _, _, _, [], by omega, by omega, rfl, by simp, fun _ => Nat.zero_le _, by simp, hP⟩
  case round =>
    clear hP
    obtain ⟨j, top, nx, fv, s, l, hjL, hj, rfl, hlj, hgen, hlb, hP⟩ := hrel
    have hlt := hP.lt
    obtain ⟨va, vc, hv, hvs⟩ := owns_form hP.row
    subst hv
    have HP := Lib.hid hP
    have HLB := Lib.hid hlb
    have HG := Lib.hid hgen
    have HLT := Lib.hid hlt
    by_cases hc : j < L ∧ j < 200
    · obtain ⟨hj1, hj2⟩ := hc
      obtain ⟨b, off, rfl, hbl, F, hF⟩ := hback (by omega)
      obtain ⟨f0, hf0⟩ : ∃ f, f = F j 0 := ⟨_, rfl⟩
      obtain ⟨f1, hf1⟩ : ∃ f, f = F j 1 := ⟨_, rfl⟩
      obtain ⟨f2, hf2⟩ : ∃ f, f = F j 2 := ⟨_, rfl⟩
      obtain ⟨f3, hf3⟩ : ∃ f, f = F j 3 := ⟨_, rfl⟩
      have q0 : wr.cell? ⟨b, off + j * 4, none⟩ = some (.int .i64 f0) := by rw [hf0]; exact (hP.b.cell (p := ⟨b, off + j * 4, none⟩) hbl).trans (hF j hj1 0 (by omega)).2
      have q1 : wr.cell? ⟨b, off + j * 4 + 1, none⟩ = some (.int .i64 f1) := by rw [hf1]; exact (hP.b.cell (p := ⟨b, off + j * 4 + 1, none⟩) hbl).trans (hF j hj1 1 (by omega)).2
      have q2 : wr.cell? ⟨b, off + j * 4 + 2, none⟩ = some (.int .i64 f2) := by rw [hf2]; exact (hP.b.cell (p := ⟨b, off + j * 4 + 2, none⟩) hbl).trans (hF j hj1 2 (by omega)).2
      have q3 : wr.cell? ⟨b, off + j * 4 + 3, none⟩ = some (.int .i64 f3) := by rw [hf3]; exact (hP.b.cell (p := ⟨b, off + j * 4 + 3, none⟩) hbl).trans (hF j hj1 3 (by omega)).2
      have i0 : inB f0 := by rw [hf0]; have := (hF j hj1 0 (by omega)).1; simpa [Lit.wf, IntKind.min, IntKind.max, IntKind.signed, IntKind.bits, inB] using this
      have i1 : inB f1 := by rw [hf1]; have := (hF j hj1 1 (by omega)).1; simpa [Lit.wf, IntKind.min, IntKind.max, IntKind.signed, IntKind.bits, inB] using this
      have i2 : inB f2 := by rw [hf2]; have := (hF j hj1 2 (by omega)).1; simpa [Lit.wf, IntKind.min, IntKind.max, IntKind.signed, IntKind.bits, inB] using this
      have i3 : inB f3 := by rw [hf3]; have := (hF j hj1 3 (by omega)).1; simpa [Lit.wf, IntKind.min, IntKind.max, IntKind.signed, IntKind.bits, inB] using this
      have hbr : b < wr.heap.size := Nat.lt_of_lt_of_le hbl hP.b.size
      have hlA : A < wr.heap.size := HLT.out A (by simp)
      have hlG : G < wr.heap.size := HLT.out G (by simp)
      have hlX : X < wr.heap.size := HLT.out X (by simp)
      have hlR : R < wr.heap.size := HLT.out R (by simp)
      have hlH : H < wr.heap.size := HLT.out H (by simp)
      have hlZ : Z < wr.heap.size := HLT.out Z (by simp)
      clear hF hback hf0 hf1 hf2 hf3 hP hlb hgen hlt
      by_cases k0 : f0 = 0
      · subst k0
        have hts := takes_small s HP.out.a.ok j HG.out
        have hgt := gen_takes s j HG.out
        have HTA := Lib.hid (take_all ((wr.alloc (.cells #[.int .i64 0, .int .i64 f1, .int .i64 f2, .int .i64 f3] 31)).alloc (.cells #[.int .i64 f2, .int .i64 f3] 29)) A G X top nx s
          (HP.out.tch (((Tch.refl _ _).new _).new _)).a (fun k => by have := HG.out k; omega))
        have HTR := Lib.hid fun (w3 : World) (h : RR w3 w.heap.size R H Z fv s) => rtake_all w3 w.heap.size R H Z fv s h (fun k => by have := HG.out k; omega)
        generalize s.takes = r at hts hgt HTA HTR
        obtain ⟨tk, tg, tb, s'⟩ := r
        obtain ⟨ht1, ht2⟩ := hts
        simp only [] at ht1 ht2
        have HGT := Lib.hid hgt
        clear hgt
        have i23 : -9223372036854775808 ≤ f2 ∧ f2 ≤ 9223372036854775807 := i2
        go_wp2_with fail
        go_at_call 9
        refine HTA.out.mono ?_
        rintro e w3 ⟨rfl, t3, top3, nx3, h3⟩
        have P3 := Lib.hid ((HP.out.tch (((Tch.refl _ _).new _).new _)).atook t3 h3)
        have bh := t3.blk (handle_made (wr.alloc (.cells #[.int .i64 0, .int .i64 f1, .int .i64 f2, .int .i64 f3] 31)) f2 f3) (by simp; omega)
        have s3 := t3.size
        simp only [size_new] at s3 bh
        simp only [takeVal]
        clear t3 h3
        go_wp2_with fail
        generalize hhb : wr.heap.size + 1 = hb at bh s3 ⊢
        have lhb := bh.lt
        go_at_call 10
        refine (HTR.out _ (P3.out.tch ((Tch.refl _ _).new _)).r).mono ?_
        rintro e w4 ⟨rfl, t4, fv4, h4, hfv⟩
        have P4 := Lib.hid ((P3.out.tch ((Tch.refl _ _).new _)).rtook (t4.mono (fun b hb => List.mem_append_left _ hb)) h4 (fun b hb => .inl (by rw [← hfv, hb]; simp)))
        have bh4 := t4.blk (bh.new (.cells #[.int .i64 tk, .int .i64 tg] 29)) (by simp; omega)
        have bx4 := t4.blk (handle_made w3 tk tg) (by simp; omega)
        have s4 := t4.size
        simp only [size_new] at s4
        simp only [takeVal]
        generalize hxb : w3.heap.size = xb at bx4 s4 ⊢
        have lxb := bx4.lt
        have lhb4 := bh4.lt
        have x0 : w4.cell? ⟨xb, 0, none⟩ = some (.int .i64 tk) := bx4.cell 0 (by omega)
        have x1 : w4.cell? ⟨xb, 1, none⟩ = some (.int .i64 tg) := bx4.cell 1 (by omega)
        have g0 : w4.cell? ⟨hb, 0, none⟩ = some (.int .i64 f2) := bh4.cell 0 (by omega)
        have g1 : w4.cell? ⟨hb, 1, none⟩ = some (.int .i64 f3) := bh4.cell 1 (by omega)
        have BH4 := Lib.hid bh4
        have hB4 := P4.out.b.size
        clear t4 h4 hfv bh4 bx4 bh P3 s3 lhb
        go_wp2_with (at_builtin; (refine wpList_append1 E27 rfl (.tmp 79) (.tmp 81) rfl w.heap.size _ l.length (hrows l) (owns_new (owns_new P4.out.row _) _) rfl _ _ [.int .i64 tk, .int .i64 tg] rfl rfl (0, 0) 29 (heap_new_at _ _ _ (by rw [size_new])) (by simp [Value.oneCell']) (by unfold maxLen; omega) (by omega) (by simp; omega) ?_); intro va' vc' w5 r1 r2 r3)
        have P5 := Lib.hid ((P4.out.tch (((Tch.refl _ _).new _).new _)).went r2 ((tk : Int), (tg : Int)) r1 r3)
        have bh5 := r2.blk ((BH4.out.new _).new _) (fun e => by
          have := (HP.out.row.lt hb (by simpa using e)).2
          omega)
        have g50 : w5.cell? ⟨hb, 0, none⟩ = some (.int .i64 f2) := bh5.cell 0 (by omega)
        have g51 : w5.cell? ⟨hb, 1, none⟩ = some (.int .i64 f3) := bh5.cell 1 (by omega)
        have HBH := Lib.hid bh5
        clear bh5
        refine region_any (.takes [0, 1, 3, 4] (.fork 2 [4] (.fork 5 [] (.takes [6, 7, 8, 10] (.fork 9 [] (.fork 11 [] (.takes [12, 13] .done) .none) .none)) .none) .none)) (by kernel_rfl) (by kernel_rfl) rfl ?_
        go_wp2_with first | (go_at_call 13; refine (live_any _ A G X top3 nx3 s' (P5.out.tch ((Tch.refl _ _).drew)).a f2 f3 i23.1 i23.2).mono ?_; rintro e w6 ⟨rfl, t6⟩; have P6 := Lib.hid ((P5.out.tch ((Tch.refl _ _).drew)).tch t6); have bh6 := Lib.hid (t6.blk HBH.out.drew (by simp)); have g60 : w6.cell? ⟨hb, 0, none⟩ = some (.int .i64 f2) := bh6.out.cell 0 (by omega); have g61 : w6.cell? ⟨hb, 1, none⟩ = some (.int .i64 f3) := bh6.out.cell 1 (by omega)) | (go_at_call 14; refine (rlive_any _ w.heap.size R H Z _ s' P6.out.r f2 f3 i23.1 i23.2).mono ?_; rintro e w7 ⟨rfl, t7⟩; have P7 := Lib.hid (P6.out.tch t7)) | (go_at_call 15; refine (len_any _ A G X top3 nx3 s' P7.out.a).mono ?_; rintro e w8 ⟨rfl, t8⟩; subst t8) | (go_at_call 16; refine (rlen_any _ w.heap.size R H Z _ s' P7.out.r).mono ?_; rintro e w9 ⟨rfl, t9⟩; have P9 := Lib.hid (P7.out.tch t9)) | (with_reducible exact wpE_none) | (with_reducible refine wpE_takes_nil ?_) | (with_reducible refine wpE_done ?_) | (refine wpE_take rfl rfl (fun _ _ => ?_)) | (refine wpE_skip rfl rfl ?_) | (refine wpE_fork rfl rfl (fun _ _ => ?_) ?_) | (with_reducible exact agains_nil) | (refine agains_cons rfl (fun _ => ?_) ?_) | (with_reducible refine wpE_same ?_) | (refine And.intro (rfl : (_ : World) = _) ?_) | (with_reducible refine wpE_and ?_ ?_)
        go_roundw
        case rel => exact ⟨j + 1, top3, nx3, _, s', l ++ [((tk : Int), (tg : Int))], by omega, by omega, by go_num, by (simp; omega), HGT.out, (mem_snoc HLB.out (by simp only [inB]; omega)), P9.out⟩
        case measure => simp [intOf]; omega
      · have k0' : (f0 == 0) = false := beq_eq_false_iff_ne.2 k0
        by_cases k1 : f0 = 1 ∧ 0 < l.length
        · obtain ⟨k1, k2⟩ := k1
          subst k1
          obtain ⟨m, hm, hml⟩ := pick_place f1 l.length k2 (by omega)
          obtain ⟨⟨hk, hg⟩, hp⟩ : ∃ p, l[m]? = some p := ⟨l[m], by simp [hml]⟩
          have i23 := HLB.out _ (List.mem_of_getElem? hp)
          simp only [inB] at i23
          obtain ⟨ik, ig⟩ := i23
          have i23 := ik
          have hrg := hrows_get l m _ hp
          obtain ⟨g, rfl⟩ : ∃ g, va = some ⟨g, 0, none⟩ := by
            rcases hvs with e | e
            · omega
            · exact e
          have hlg := (HP.out.row.lt g rfl).2
          have d0 : wr.cell? ⟨g, m * 2, none⟩ = some (.int .i64 hk) := (owns_cell HP.out.row (m * 2) (by omega)).trans hrg.1
          have d1 : wr.cell? ⟨g, m * 2 + 1, none⟩ = some (.int .i64 hg) := (owns_cell HP.out.row (m * 2 + 1) (by omega)).trans hrg.2
          clear hp hrg hvs
          have HGA := Lib.hid (fun (w3 : World) (h : AR w3 A G X top nx s) => give_all w3 A G X top nx s h hk hg i23.1 i23.2)
          have HGR := Lib.hid (fun (w3 : World) (hw : w.heap.size ≤ w3.heap.size) (h : RR w3 w.heap.size R H Z fv s) => rgive_all w3 w.heap.size R H Z fv s h hw hk hg i23.1 i23.2)
          have hgg : ∀ k, (s.gives hk hg).2.gen k ≤ j + 1 := fun k => by rw [gen_gives]; have := HG.out k; omega
          generalize s.gives hk hg = r at hgg HGA HGR
          obtain ⟨gb, s'⟩ := r
          have HGT := Lib.hid hgg
          clear hgg
          go_wp2_with fail
          refine region_any (.takes [0, 1, 3, 4] (.fork 2 [4] (.fork 5 [] (.takes [6] .done) .none) .none)) (by kernel_rfl) (by kernel_rfl) rfl ?_
          go_wp2_with first | (go_at_call 11; refine (HGA.out _ (HP.out.tch (((Tch.refl _ _).new _).new _).drew).a).mono ?_; rintro e w3 ⟨rfl, t3, top3, nx3, h3⟩; have P3 := Lib.hid ((HP.out.tch (((Tch.refl _ _).new _).new _).drew).atook t3 h3); have bh3 := t3.blk (handle_made (wr.alloc (.cells #[.int .i64 1, .int .i64 f1, .int .i64 f2, .int .i64 f3] 31)) hk hg).drew (by simp; omega); have s3 := t3.size; simp only [size_new, size_drew] at bh3 s3; have g30 : w3.cell? ⟨wr.heap.size + 1, 0, none⟩ = some (.int .i64 hk) := bh3.cell 0 (by omega); have g31 : w3.cell? ⟨wr.heap.size + 1, 1, none⟩ = some (.int .i64 hg) := bh3.cell 1 (by omega)) | (go_at_call 12; refine (HGR.out _ P3.out.b.size P3.out.r).mono ?_; rintro e w5 ⟨rfl, t5, fv5, h5, hf5⟩; have P5 := Lib.hid (P3.out.rtook t5 h5 hf5)) | (with_reducible exact wpE_none) | (with_reducible refine wpE_takes_nil ?_) | (with_reducible refine wpE_done ?_) | (refine wpE_take rfl rfl (fun _ _ => ?_)) | (refine wpE_skip rfl rfl ?_) | (refine wpE_fork rfl rfl (fun _ _ => ?_) ?_) | (with_reducible exact agains_nil) | (refine agains_cons rfl (fun _ => ?_) ?_) | (with_reducible refine wpE_same ?_) | (refine And.intro (rfl : (_ : World) = _) ?_) | (with_reducible refine wpE_and ?_ ?_)
          have bh5 := t5.blk bh3 (fun e => by
            rcases List.mem_append.1 e with g | g
            · simp at g; omega
            · have := (HP.out.r.f.lt _ (by simpa using g)).2
              omega)
          clear t5 h5 hf5 t3 h3 bh3 g30 g31 s3
          generalize hhb : wr.heap.size + 1 = hb at bh5 ⊢
          have lhb5 := bh5.lt
          have g50 : w5.cell? ⟨hb, 0, none⟩ = some (.int .i64 hk) := bh5.cell 0 (by omega)
          have g51 : w5.cell? ⟨hb, 1, none⟩ = some (.int .i64 hg) := bh5.cell 1 (by omega)
          have HBH := Lib.hid bh5
          clear bh5
          refine region_any (.takes [0, 1, 3, 4] (.fork 2 [4] (.fork 5 [] (.takes [6, 7, 8, 10] (.fork 9 [] (.fork 11 [] (.takes [12, 13] .done) .none) .none)) .none) .none)) (by kernel_rfl) (by kernel_rfl) rfl ?_
          go_wp2_with first | (go_at_call 13; refine (live_any _ A G X top3 nx3 s' (P5.out.tch ((Tch.refl _ _).drew)).a hk hg i23.1 i23.2).mono ?_; rintro e w6 ⟨rfl, t6⟩; have P6 := Lib.hid ((P5.out.tch ((Tch.refl _ _).drew)).tch t6); have bh6 := Lib.hid (t6.blk HBH.out.drew (by simp)); have g60 : w6.cell? ⟨hb, 0, none⟩ = some (.int .i64 hk) := bh6.out.cell 0 (by omega); have g61 : w6.cell? ⟨hb, 1, none⟩ = some (.int .i64 hg) := bh6.out.cell 1 (by omega)) | (go_at_call 14; refine (rlive_any _ w.heap.size R H Z _ s' P6.out.r hk hg i23.1 i23.2).mono ?_; rintro e w7 ⟨rfl, t7⟩; have P7 := Lib.hid (P6.out.tch t7)) | (go_at_call 15; refine (len_any _ A G X top3 nx3 s' P7.out.a).mono ?_; rintro e w8 ⟨rfl, t8⟩; subst t8) | (go_at_call 16; refine (rlen_any _ w.heap.size R H Z _ s' P7.out.r).mono ?_; rintro e w9 ⟨rfl, t9⟩; have P9 := Lib.hid (P7.out.tch t9)) | (with_reducible exact wpE_none) | (with_reducible refine wpE_takes_nil ?_) | (with_reducible refine wpE_done ?_) | (refine wpE_take rfl rfl (fun _ _ => ?_)) | (refine wpE_skip rfl rfl ?_) | (refine wpE_fork rfl rfl (fun _ _ => ?_) ?_) | (with_reducible exact agains_nil) | (refine agains_cons rfl (fun _ => ?_) ?_) | (with_reducible refine wpE_same ?_) | (refine And.intro (rfl : (_ : World) = _) ?_) | (with_reducible refine wpE_and ?_ ?_)
          go_roundw
          case rel => exact ⟨j + 1, top3, nx3, _, s', l, by omega, by omega, by go_num, by omega, HGT.out, HLB.out, P9.out⟩
          case measure => simp [intOf]; omega
        · have i23 : -9223372036854775808 ≤ f2 ∧ f2 ≤ 9223372036854775807 := i2
          by_cases k1' : f0 = 1
          · subst k1'
            have k3 : ¬ 0 < l.length := fun h => k1 ⟨rfl, h⟩
            have k2 : decide ((0:Int) < l.length) = false := decide_eq_false_iff_not.2 (by omega)
            clear hvs
            have HGA := Lib.hid (fun (w3 : World) (h : AR w3 A G X top nx s) => give_all w3 A G X top nx s h f2 f3 i23.1 i23.2)
            have HGR := Lib.hid (fun (w3 : World) (hw : w.heap.size ≤ w3.heap.size) (h : RR w3 w.heap.size R H Z fv s) => rgive_all w3 w.heap.size R H Z fv s h hw f2 f3 i23.1 i23.2)
            have hgg : ∀ k, (s.gives f2 f3).2.gen k ≤ j + 1 := fun k => by rw [gen_gives]; have := HG.out k; omega
            generalize s.gives f2 f3 = r at hgg HGA HGR
            obtain ⟨gb, s'⟩ := r
            have HGT := Lib.hid hgg
            clear hgg
            go_wp2_with fail
            refine region_any (.takes [0, 1, 3, 4] (.fork 2 [4] (.fork 5 [] (.takes [6] .done) .none) .none)) (by kernel_rfl) (by kernel_rfl) rfl ?_
            go_wp2_with first | (go_at_call 11; refine (HGA.out _ (HP.out.tch (((Tch.refl _ _).new _).new _).drew).a).mono ?_; rintro e w3 ⟨rfl, t3, top3, nx3, h3⟩; have P3 := Lib.hid ((HP.out.tch (((Tch.refl _ _).new _).new _).drew).atook t3 h3); have bh3 := t3.blk (handle_made (wr.alloc (.cells #[.int .i64 1, .int .i64 f1, .int .i64 f2, .int .i64 f3] 31)) f2 f3).drew (by simp; omega); have s3 := t3.size; simp only [size_new, size_drew] at bh3 s3; have g30 : w3.cell? ⟨wr.heap.size + 1, 0, none⟩ = some (.int .i64 f2) := bh3.cell 0 (by omega); have g31 : w3.cell? ⟨wr.heap.size + 1, 1, none⟩ = some (.int .i64 f3) := bh3.cell 1 (by omega)) | (go_at_call 12; refine (HGR.out _ P3.out.b.size P3.out.r).mono ?_; rintro e w5 ⟨rfl, t5, fv5, h5, hf5⟩; have P5 := Lib.hid (P3.out.rtook t5 h5 hf5)) | (with_reducible exact wpE_none) | (with_reducible refine wpE_takes_nil ?_) | (with_reducible refine wpE_done ?_) | (refine wpE_take rfl rfl (fun _ _ => ?_)) | (refine wpE_skip rfl rfl ?_) | (refine wpE_fork rfl rfl (fun _ _ => ?_) ?_) | (with_reducible exact agains_nil) | (refine agains_cons rfl (fun _ => ?_) ?_) | (with_reducible refine wpE_same ?_) | (refine And.intro (rfl : (_ : World) = _) ?_) | (with_reducible refine wpE_and ?_ ?_)
            have bh5 := t5.blk bh3 (fun e => by
              rcases List.mem_append.1 e with g | g
              · simp at g; omega
              · have := (HP.out.r.f.lt _ (by simpa using g)).2
                omega)
            clear t5 h5 hf5 t3 h3 bh3 g30 g31 s3
            generalize hhb : wr.heap.size + 1 = hb at bh5 ⊢
            have lhb5 := bh5.lt
            have g50 : w5.cell? ⟨hb, 0, none⟩ = some (.int .i64 f2) := bh5.cell 0 (by omega)
            have g51 : w5.cell? ⟨hb, 1, none⟩ = some (.int .i64 f3) := bh5.cell 1 (by omega)
            have HBH := Lib.hid bh5
            clear bh5
            refine region_any (.takes [0, 1, 3, 4] (.fork 2 [4] (.fork 5 [] (.takes [6, 7, 8, 10] (.fork 9 [] (.fork 11 [] (.takes [12, 13] .done) .none) .none)) .none) .none)) (by kernel_rfl) (by kernel_rfl) rfl ?_
            go_wp2_with first | (go_at_call 13; refine (live_any _ A G X top3 nx3 s' (P5.out.tch ((Tch.refl _ _).drew)).a f2 f3 i23.1 i23.2).mono ?_; rintro e w6 ⟨rfl, t6⟩; have P6 := Lib.hid ((P5.out.tch ((Tch.refl _ _).drew)).tch t6); have bh6 := Lib.hid (t6.blk HBH.out.drew (by simp)); have g60 : w6.cell? ⟨hb, 0, none⟩ = some (.int .i64 f2) := bh6.out.cell 0 (by omega); have g61 : w6.cell? ⟨hb, 1, none⟩ = some (.int .i64 f3) := bh6.out.cell 1 (by omega)) | (go_at_call 14; refine (rlive_any _ w.heap.size R H Z _ s' P6.out.r f2 f3 i23.1 i23.2).mono ?_; rintro e w7 ⟨rfl, t7⟩; have P7 := Lib.hid (P6.out.tch t7)) | (go_at_call 15; refine (len_any _ A G X top3 nx3 s' P7.out.a).mono ?_; rintro e w8 ⟨rfl, t8⟩; subst t8) | (go_at_call 16; refine (rlen_any _ w.heap.size R H Z _ s' P7.out.r).mono ?_; rintro e w9 ⟨rfl, t9⟩; have P9 := Lib.hid (P7.out.tch t9)) | (with_reducible exact wpE_none) | (with_reducible refine wpE_takes_nil ?_) | (with_reducible refine wpE_done ?_) | (refine wpE_take rfl rfl (fun _ _ => ?_)) | (refine wpE_skip rfl rfl ?_) | (refine wpE_fork rfl rfl (fun _ _ => ?_) ?_) | (with_reducible exact agains_nil) | (refine agains_cons rfl (fun _ => ?_) ?_) | (with_reducible refine wpE_same ?_) | (refine And.intro (rfl : (_ : World) = _) ?_) | (with_reducible refine wpE_and ?_ ?_)
            go_roundw
            case rel => exact ⟨j + 1, top3, nx3, _, s', l, by omega, by omega, by go_num, by omega, HGT.out, HLB.out, P9.out⟩
            case measure => simp [intOf]; omega
          · have k2 : (f0 == 1) = false := beq_eq_false_iff_ne.2 k1'
            clear hvs k1
            have HGA := Lib.hid (fun (w3 : World) (h : AR w3 A G X top nx s) => give_all w3 A G X top nx s h f2 f3 i23.1 i23.2)
            have HGR := Lib.hid (fun (w3 : World) (hw : w.heap.size ≤ w3.heap.size) (h : RR w3 w.heap.size R H Z fv s) => rgive_all w3 w.heap.size R H Z fv s h hw f2 f3 i23.1 i23.2)
            have hgg : ∀ k, (s.gives f2 f3).2.gen k ≤ j + 1 := fun k => by rw [gen_gives]; have := HG.out k; omega
            generalize s.gives f2 f3 = r at hgg HGA HGR
            obtain ⟨gb, s'⟩ := r
            have HGT := Lib.hid hgg
            clear hgg
            go_wp2_with fail
            refine region_any (.takes [0, 1, 3, 4] (.fork 2 [4] (.fork 5 [] (.takes [6] .done) .none) .none)) (by kernel_rfl) (by kernel_rfl) rfl ?_
            go_wp2_with first | (go_at_call 11; refine (HGA.out _ (HP.out.tch (((Tch.refl _ _).new _).new _).drew).a).mono ?_; rintro e w3 ⟨rfl, t3, top3, nx3, h3⟩; have P3 := Lib.hid ((HP.out.tch (((Tch.refl _ _).new _).new _).drew).atook t3 h3); have bh3 := t3.blk (handle_made (wr.alloc (.cells #[.int .i64 f0, .int .i64 f1, .int .i64 f2, .int .i64 f3] 31)) f2 f3).drew (by simp; omega); have s3 := t3.size; simp only [size_new, size_drew] at bh3 s3; have g30 : w3.cell? ⟨wr.heap.size + 1, 0, none⟩ = some (.int .i64 f2) := bh3.cell 0 (by omega); have g31 : w3.cell? ⟨wr.heap.size + 1, 1, none⟩ = some (.int .i64 f3) := bh3.cell 1 (by omega)) | (go_at_call 12; refine (HGR.out _ P3.out.b.size P3.out.r).mono ?_; rintro e w5 ⟨rfl, t5, fv5, h5, hf5⟩; have P5 := Lib.hid (P3.out.rtook t5 h5 hf5)) | (with_reducible exact wpE_none) | (with_reducible refine wpE_takes_nil ?_) | (with_reducible refine wpE_done ?_) | (refine wpE_take rfl rfl (fun _ _ => ?_)) | (refine wpE_skip rfl rfl ?_) | (refine wpE_fork rfl rfl (fun _ _ => ?_) ?_) | (with_reducible exact agains_nil) | (refine agains_cons rfl (fun _ => ?_) ?_) | (with_reducible refine wpE_same ?_) | (refine And.intro (rfl : (_ : World) = _) ?_) | (with_reducible refine wpE_and ?_ ?_)
            have bh5 := t5.blk bh3 (fun e => by
              rcases List.mem_append.1 e with g | g
              · simp at g; omega
              · have := (HP.out.r.f.lt _ (by simpa using g)).2
                omega)
            clear t5 h5 hf5 t3 h3 bh3 g30 g31 s3
            generalize hhb : wr.heap.size + 1 = hb at bh5 ⊢
            have lhb5 := bh5.lt
            have g50 : w5.cell? ⟨hb, 0, none⟩ = some (.int .i64 f2) := bh5.cell 0 (by omega)
            have g51 : w5.cell? ⟨hb, 1, none⟩ = some (.int .i64 f3) := bh5.cell 1 (by omega)
            have HBH := Lib.hid bh5
            clear bh5
            refine region_any (.takes [0, 1, 3, 4] (.fork 2 [4] (.fork 5 [] (.takes [6, 7, 8, 10] (.fork 9 [] (.fork 11 [] (.takes [12, 13] .done) .none) .none)) .none) .none)) (by kernel_rfl) (by kernel_rfl) rfl ?_
            go_wp2_with first | (go_at_call 13; refine (live_any _ A G X top3 nx3 s' (P5.out.tch ((Tch.refl _ _).drew)).a f2 f3 i23.1 i23.2).mono ?_; rintro e w6 ⟨rfl, t6⟩; have P6 := Lib.hid ((P5.out.tch ((Tch.refl _ _).drew)).tch t6); have bh6 := Lib.hid (t6.blk HBH.out.drew (by simp)); have g60 : w6.cell? ⟨hb, 0, none⟩ = some (.int .i64 f2) := bh6.out.cell 0 (by omega); have g61 : w6.cell? ⟨hb, 1, none⟩ = some (.int .i64 f3) := bh6.out.cell 1 (by omega)) | (go_at_call 14; refine (rlive_any _ w.heap.size R H Z _ s' P6.out.r f2 f3 i23.1 i23.2).mono ?_; rintro e w7 ⟨rfl, t7⟩; have P7 := Lib.hid (P6.out.tch t7)) | (go_at_call 15; refine (len_any _ A G X top3 nx3 s' P7.out.a).mono ?_; rintro e w8 ⟨rfl, t8⟩; subst t8) | (go_at_call 16; refine (rlen_any _ w.heap.size R H Z _ s' P7.out.r).mono ?_; rintro e w9 ⟨rfl, t9⟩; have P9 := Lib.hid (P7.out.tch t9)) | (with_reducible exact wpE_none) | (with_reducible refine wpE_takes_nil ?_) | (with_reducible refine wpE_done ?_) | (refine wpE_take rfl rfl (fun _ _ => ?_)) | (refine wpE_skip rfl rfl ?_) | (refine wpE_fork rfl rfl (fun _ _ => ?_) ?_) | (with_reducible exact agains_nil) | (refine agains_cons rfl (fun _ => ?_) ?_) | (with_reducible refine wpE_same ?_) | (refine And.intro (rfl : (_ : World) = _) ?_) | (with_reducible refine wpE_and ?_ ?_)
            go_roundw
            case rel => exact ⟨j + 1, top3, nx3, _, s', l, by omega, by omega, by go_num, by omega, HGT.out, HLB.out, P9.out⟩
            case measure => simp [intOf]; omega
    · clear hP hlb hgen hlt hback hvs
      go_wp2_with fail
      all_goals
        go_at_call 17
        refine (awake_any _).mono ?_
        rintro e w6 ⟨rfl, b6⟩
        have hs := HP.out.b.size
        go_wp2_with fail
        go_ret
        exact ⟨rfl, HP.out.b.trans (b6.mono hs)⟩
end Go.Proofs.Ytpceeeifdgbomaa
