/- TablePlays holds: behind any steps the table and the document's answer alike; for every steps. -/
import Derived.Test.YtgnjjomfffmcaaaRefDrop
import Derived.Test.YtgnjjomfffmcaaaClose
import Derived.Lib.SmallJoins
namespace Go.Proofs.Ytgnjjomfffmcaaa
open Go.ChangeShapes Go.WideShapes Go.ChangeAt Go.RowKit Go.Lib

/-- Both tables lie apart in memory. -/
structure PT (W w : World) (T C R : Nat) (vi va : Value) (L M : List (Nat × Int)) : Prop where
  t : LT W w T C L
  r : RT w W.heap.size R vi va M
  d : R ≠ T ∧ R ≠ C
  di : ∀ b, vi.ownBlock = some b → b ≠ T ∧ b ≠ C
  da : ∀ b, va.ownBlock = some b → b ≠ T ∧ b ≠ C
section
variable {W w w' : World} {T C R : Nat} {vi va : Value} {L M L' M' : List (Nat × Int)}
theorem PT.quiet (h : PT W w T C R vi va L M) (t : Tch [] w w') : PT W w' T C R vi va L M := ⟨h.t.quiet t, h.r.quiet t, h.d, h.di, h.da⟩
theorem PT.tpost (h : PT W w T C R vi va L M) (p : TBPost w T C L' w') : ∃ C', PT W w' T C' R vi va L' M := by
  obtain ⟨C', r1, r2, r3⟩ := p
  have hRl := h.r.r.lt
  have hd := h.d
  refine ⟨C', ⟨r1, ⟨h.t.lo.1, ?_⟩, r2.below h.t.b h.t.b.size (by simp; exact h.t.lo)⟩, h.r.keep r2 (by simp; exact hd) (fun b hb => by simp; exact h.di b hb) (fun b hb => by simp; exact h.da b hb), ⟨hd.1, by omega⟩, fun b hb => ⟨(h.di b hb).1, ?_⟩, fun b hb => ⟨(h.da b hb).1, ?_⟩⟩
  · have := h.t.lo.2
    have := h.t.b.size
    omega
  · have := (h.r.i.lt b hb).2
    have := (h.di b hb).2
    omega
  · have := (h.r.a.lt b hb).2
    have := (h.da b hb).2
    omega
theorem PT.tdrop (h : PT W w T C R vi va L M) (r1 : TB w' T C L') (r2 : Tch [T, C] w w') : ∃ C', PT W w' T C' R vi va L' M := h.tpost ⟨C, r1, r2, .inl rfl⟩
theorem PT.rpost (h : PT W w T C R vi va L M) (p : RTPost w W.heap.size R vi va M' w') : ∃ vi' va', PT W w' T C R vi' va' L M' := by
  obtain ⟨vi', va', r1, r2, r3, r4⟩ := p
  have hl := h.t.t.lt
  have hd := h.d
  refine ⟨vi', va', ⟨h.t.t.tch r2 (by simp; omega) (by simp; omega), h.t.lo, r2.below h.t.b h.t.b.size (by simp; exact h.r.lo)⟩, r1, h.d, fun b hb => ?_, fun b hb => ?_⟩
  · rcases r3 b hb with g | g
    · exact h.di b g
    · omega
  · rcases r4 b hb with g | g
    · exact h.da b g
    · omega
end
theorem TBPost.tch {w w' : World} {T C : Nat} {L' : List (Nat × Int)} (p : TBPost w T C L' w') : Tch [T, C] w w' := by
  obtain ⟨C', r1, r2, r3⟩ := p
  exact r2
theorem RTPost.tch {w w' : World} {B R : Nat} {vi va : Value} {L' : List (Nat × Int)} (p : RTPost w B R vi va L' w') : Tch [R] w w' := by
  obtain ⟨vi', va', r1, r2, r3, r4⟩ := p
  exact r2
theorem idsOf_len (L : List (Nat × Int)) : (idsOf L).length = L.length := by simp [idsOf]
def ocell (a b c : Int) : Nat → Value := fun j => match j with | 0 => .int .i64 a | 1 => .int .i64 b | _ => .int .i64 c
theorem act_made (w : World) (a b c : Int) : Blk (w.alloc (.cells #[.int .i64 a, .int .i64 b, .int .i64 c] 39)) w.heap.size 39 3 (ocell a b c) :=
  Blk.made (w := w) 39 #[.int .i64 a, .int .i64 b, .int .i64 c] (ocell a b c) (fun k hk => match k, hk with | 0, _ => rfl | 1, _ => rfl | 2, _ => rfl)
theorem act_cells {H : Type} {enc : TypeId × Value → H} {w : World} {base : Nat} {sp : Nat → Bool} {held : Bool} {n : Nat} {cs : List Value} {x : DataW H × List MemPlace} (h : DataW.trod enc Try.prog w base sp held n 39 cs = some x) : IntCells 3 cs :=
  flat_struct 3 Try.underlying39 Try.underlying3 (by kernel_rfl) (fun i hi => match i, hi with | 0, _ => ⟨_, rfl, rfl, rfl⟩ | 1, _ => ⟨_, rfl, rfl, rfl⟩ | 2, _ => ⟨_, rfl, rfl, rfl⟩) h
theorem inB_wf {z : Int} (h : (Lit.int .i64 z).wf = true) : -9223372036854775808 ≤ z ∧ z ≤ 9223372036854775807 := by simpa [Lit.wf, IntKind.min, IntKind.max, IntKind.signed, IntKind.bits] using h

set_option maxRecDepth 20000 in
set_option maxHeartbeats 4000000 in
theorem plays_any (ao : Option Addr) (N cap : Nat) (hN : N ≤ 9223372036854775807) (w : World)
    (hback : 0 < N → ∃ b off, ao = some ⟨b, off, none⟩ ∧ b < w.heap.size ∧ ∃ F : Nat → Nat → Int, ∀ i, i < N → ∀ j, j < 3 → (Lit.int .i64 (F i j)).wf = true ∧ w.cell? ⟨b, off + i * 3 + j, none⟩ = some (.int .i64 (F i j))) :
    Calls Try.prog 5 #[.slice ao N cap] w fun e w' => e = .returned (.bool true) ∧ Below w.heap.size w w' := by
  have HB := Lib.hid hback
  clear hback
  go_enter Try.func5, Try.ntmps5
  go_wp2_with fail
  go_at_call 13
  refine (tb_new w).mono ?_
  rintro e w1 ⟨rfl, r1, r2⟩
  have h1 := LT.new r1 r2
  go_wp2_with fail
  go_at_call 14
  refine (rnew_any w1).mono ?_
  rintro e w2 ⟨rfl, h2, t2⟩
  have hP : PT w w2 w.heap.size w.heap.size w1.heap.size (.slice none 0 0) (.slice none 0 0) [] [] := by
    have l1 := h1.t.lt
    have l2 := h1.b.size
    exact ⟨h1.quiet t2, ⟨h2.r, World.ownsRow_nil _ _ _ _, World.ownsRow_nil _ _ _ _, by simp [Value.ownBlock], by simp [Value.ownBlock], l2, h2.rising, by simp⟩, by omega, by simp [Value.ownBlock], by simp [Value.ownBlock]⟩
  generalize w.heap.size = T at hP ⊢
  generalize w1.heap.size = R at hP ⊢
  clear h1 r1 r2 h2 t2
  go_wp2_with fail
  go_loopw [5, 6, 7, 8, 9, 10, 28, 29, 44] (fun i _ _ _ _ _ _ _ _ wr => ∃ (j C : Nat) (vi va : Value) (L : List (Nat × Int)), j ≤ N ∧ j ≤ 300 ∧ i = .int .i64 j ∧ L.length ≤ j ∧ PT w wr T C R vi va L L) (fun i _ _ _ _ _ _ _ _ _ => 300 - (intOf i).toNat)
  case atStart => exact ⟨0, T, _, _, [], by omega, by omega, rfl, by simp, hP⟩
  case round =>
    clear hP
    obtain ⟨j, C, vi, va, L, hjN, hj3, rfl, hLj, hP⟩ := hrel
    have HP := Lib.hid hP
    by_cases hc : j < N ∧ j < 300
    · obtain ⟨hj1, hj2⟩ := hc
      obtain ⟨b, off, rfl, hbl, F, hF⟩ := HB.out (by omega)
      obtain ⟨f0, hf0⟩ : ∃ f, f = F j 0 := ⟨_, rfl⟩
      obtain ⟨f1, hf1⟩ : ∃ f, f = F j 1 := ⟨_, rfl⟩
      obtain ⟨f2, hf2⟩ : ∃ f, f = F j 2 := ⟨_, rfl⟩
      have q0 : wr.cell? ⟨b, off + j * 3, none⟩ = some (.int .i64 f0) := by rw [hf0]; exact (hP.t.b.cell (p := ⟨b, off + j * 3, none⟩) hbl).trans (hF j hj1 0 (by omega)).2
      have q1 : wr.cell? ⟨b, off + j * 3 + 1, none⟩ = some (.int .i64 f1) := by rw [hf1]; exact (hP.t.b.cell (p := ⟨b, off + j * 3 + 1, none⟩) hbl).trans (hF j hj1 1 (by omega)).2
      have q2 : wr.cell? ⟨b, off + j * 3 + 2, none⟩ = some (.int .i64 f2) := by rw [hf2]; exact (hP.t.b.cell (p := ⟨b, off + j * 3 + 2, none⟩) hbl).trans (hF j hj1 2 (by omega)).2
      have i1 : -9223372036854775808 ≤ f1 ∧ f1 ≤ 9223372036854775807 := by rw [hf1]; exact inB_wf (hF j hj1 1 (by omega)).1
      obtain ⟨i1a, i1b⟩ := i1
      have hbr : b < wr.heap.size := Nat.lt_of_lt_of_le hbl hP.t.b.size
      have hlT := hP.t.t.lt
      have hlR := hP.r.r.lt
      have hdR := hP.d
      clear hF hf0 hf1 hf2 hP
      by_cases k0 : f0 = 0
      · subst k0
        have HTP := Lib.hid fun (w3 : World) (h : TB w3 T C L) => tb_put w3 T C L h f1 f2 (by omega)
        have HRP := Lib.hid fun (w3 : World) (h : RT w3 w.heap.size R vi va L) => rput_any w3 w.heap.size R vi va L h f1 f2 (by omega)
        have hln := puts_len L f1 f2
        generalize puts L f1 f2 = r at HTP HRP hln
        obtain ⟨ok, L9⟩ := r
        simp only [] at HTP HRP hln
        have hl9 : L9.length ≤ j + 1 := by
          split at hln <;> omega
        have hkk : (ok != ok) = false := by simp
        clear hln
        have BO := Lib.hid (act_made wr 0 f1 f2)
        go_wp2_with fail
        refine region_any (.takes [0, 1, 2, 3, 4, 6, 7, 8, 9, 10] (.fork 5 [7, 8, 9, 10] (.fork 11 [] (.takes [12] .done) .none) .none)) (by kernel_rfl) (by kernel_rfl) rfl ?_
        go_wp2_with first | (go_at_call 9; refine (HTP.out _ (HP.out.quiet ((Tch.refl _ _).new _).drew).t.t).mono ?_; rintro e w3 ⟨rfl, p3⟩; obtain ⟨C9, h3⟩ := (HP.out.quiet ((Tch.refl _ _).new _).drew).tpost p3; have H3 := Lib.hid h3; have bo3 := p3.tch.blk BO.out.drew (by simp; omega); have g1 := bo3.cell 1 (by omega); have g2 := bo3.cell 2 (by omega); simp only [ocell] at g1 g2; have lx3 := bo3.lt; have BO3 := Lib.hid bo3; clear bo3 p3 h3) | (go_at_call 15; refine (HRP.out _ H3.out.r).mono ?_; rintro e w9 ⟨rfl, p9⟩; have X9 := Lib.hid (H3.out.rpost p9); have bo9 := p9.tch.blk BO3.out (by simp; omega); have y1 := bo9.cell 1 (by omega); simp only [ocell] at y1; have ly := bo9.lt; have BO9 := Lib.hid bo9; clear bo9 p9) | (with_reducible exact wpE_none) | (with_reducible refine wpE_takes_nil ?_) | (with_reducible refine wpE_done ?_) | (refine wpE_take rfl rfl (fun _ _ => ?_)) | (refine wpE_skip rfl rfl ?_) | (refine wpE_fork rfl rfl (fun _ _ => ?_) ?_) | (with_reducible exact agains_nil) | (refine agains_cons rfl (fun _ => ?_) ?_) | (with_reducible refine wpE_same ?_) | (refine And.intro (rfl : (_ : World) = _) ?_) | (with_reducible refine wpE_and ?_ ?_)
        obtain ⟨vi9, va9, h9⟩ := X9.out
        have bo := BO9.out
        generalize hx : wr.heap.size = x at *
        have HX := Lib.hid hx
        clear hx X9 BO9 BO3 BO H3 HTP HRP
        have lx := bo.lt
        have x1 : w9.cell? ⟨x, 1, none⟩ = some (.int .i64 f1) := bo.cell 1 (by omega)
        clear bo
        have HG := Lib.hid (tb_get w9 T C9 L9 h9.t.t f1 i1b)
        have HRG := Lib.hid (rget_any w9 w.heap.size R vi9 va9 L9 h9.r f1)
        generalize look L9 f1 = r at HG HRG
        obtain ⟨x9, p9⟩ := r
        simp only [] at HG HRG
        have hxx : (x9 != x9) = false := by simp
        have hpp : (p9 != p9) = false := by simp
        have hll : ((L9.length : Int) != (L9.length : Int)) = false := by simp
        have H9 := Lib.hid h9
        clear h9
        first
        | go_at_call 7
        | (go_wp2_with fail; go_at_call 7)
        refine HG.out.mono ?_
        rintro e w10 ⟨rfl, rfl⟩
        go_wp2_with fail
        go_at_call 17
        refine HRG.out.mono ?_
        rintro e w10 ⟨rfl, rfl⟩
        go_wp2_with fail
        go_at_call 11
        refine (tb_len w9 T C9 L9 H9.out.t.t).mono ?_
        rintro e w10 ⟨rfl, rfl⟩
        go_wp2_with fail
        go_at_call 18
        refine (rlen_any w9 _ R vi9 va9 L9 H9.out.r).mono ?_
        rintro e w10 ⟨rfl, rfl⟩
        go_wp2_with fail
        go_at_call 12
        refine (tb_list w9 T C9 L9 H9.out.t.t).mono ?_
        rintro e w10 ⟨v10, rfl, o10, t10⟩
        have H10 := Lib.hid (H9.out.quiet t10)
        obtain ⟨a10, c10, hv10, _⟩ := owns_form o10
        subst hv10
        have O10 := Lib.hid o10
        clear o10 t10
        go_wp2_with fail
        go_at_call 20
        refine (rlist_any w10 _ R vi9 va9 L9 H10.out.r).mono ?_
        rintro e w11 ⟨v11, rfl, o11, t11⟩
        have H11 := Lib.hid (H10.out.quiet t11)
        obtain ⟨a11, c11, hv11, _⟩ := owns_form o11
        subst hv11
        have O11 := Lib.hid o11
        have O12 := Lib.hid (owns_tch O10.out t11 (by simp))
        have hfew := H11.out.r.few
        clear o11 t11
        go_wp2_with fail
        go_at_call 19
        refine (same_any w11 _ _ _ _ (idsOf L9) (by rw [idsOf_len]; exact O12.out) (by rw [idsOf_len]; exact O11.out) (by rw [idsOf_len]; exact hfew)).mono ?_
        rintro e w12 ⟨rfl, t12⟩
        have H12 := Lib.hid (H11.out.quiet t12)
        clear t12
        go_wp2_with fail
        go_roundw
        case rel => exact ⟨j + 1, C9, vi9, va9, L9, by omega, by omega, by go_num, by omega, H12.out⟩
        case measure => simp [intOf]; omega
      · have k0' : (f0 == 0) = false := beq_eq_false_iff_ne.2 k0
        by_cases k1 : f0 = 1
        · subst k1
          have HTP := Lib.hid fun (w3 : World) (h : TB w3 T C L) => tb_drop w3 T C L h f1 i1b
          have HRP := Lib.hid fun (w3 : World) (h : RT w3 w.heap.size R vi va L) => rdrop_any w3 w.heap.size R vi va L h f1
          have hln : (without L f1).length ≤ L.length := List.length_filter_le _ _
          generalize (look L f1).2 = ok at HTP HRP
          generalize without L f1 = L9 at *
          have hl9 : L9.length ≤ j + 1 := by omega
          have hkk : (ok != ok) = false := by simp
          clear hln
          have BO := Lib.hid (act_made wr 1 f1 f2)
          go_wp2_with fail
          refine region_any (.takes [0, 1, 2, 4, 5, 6] (.fork 3 [5, 6] (.fork 7 [] (.takes [8] .done) .none) .none)) (by kernel_rfl) (by kernel_rfl) rfl ?_
          go_wp2_with first | (go_at_call 10; refine (HTP.out _ (HP.out.quiet ((Tch.refl _ _).new _).drew).t.t).mono ?_; rintro e w3 ⟨rfl, p3, p3'⟩; obtain ⟨C9, h3⟩ := (HP.out.quiet ((Tch.refl _ _).new _).drew).tdrop p3 p3'; have H3 := Lib.hid h3; have bo3 := p3'.blk BO.out.drew (by simp; omega); have g1 := bo3.cell 1 (by omega); have g2 := bo3.cell 2 (by omega); simp only [ocell] at g1 g2; have lx3 := bo3.lt; have BO3 := Lib.hid bo3; clear bo3 p3 p3' h3) | (go_at_call 16; refine (HRP.out _ H3.out.r).mono ?_; rintro e w9 ⟨rfl, p9⟩; have X9 := Lib.hid (H3.out.rpost p9); have bo9 := p9.tch.blk BO3.out (by simp; omega); have y1 := bo9.cell 1 (by omega); simp only [ocell] at y1; have ly := bo9.lt; have BO9 := Lib.hid bo9; clear bo9 p9) | (with_reducible exact wpE_none) | (with_reducible refine wpE_takes_nil ?_) | (with_reducible refine wpE_done ?_) | (refine wpE_take rfl rfl (fun _ _ => ?_)) | (refine wpE_skip rfl rfl ?_) | (refine wpE_fork rfl rfl (fun _ _ => ?_) ?_) | (with_reducible exact agains_nil) | (refine agains_cons rfl (fun _ => ?_) ?_) | (with_reducible refine wpE_same ?_) | (refine And.intro (rfl : (_ : World) = _) ?_) | (with_reducible refine wpE_and ?_ ?_)
          obtain ⟨vi9, va9, h9⟩ := X9.out
          have bo := BO9.out
          generalize hx : wr.heap.size = x at *
          have HX := Lib.hid hx
          clear hx X9 BO9 BO3 BO H3 HTP HRP
          have lx := bo.lt
          have x1 : w9.cell? ⟨x, 1, none⟩ = some (.int .i64 f1) := bo.cell 1 (by omega)
          clear bo
          have HG := Lib.hid (tb_get w9 T C9 L9 h9.t.t f1 i1b)
          have HRG := Lib.hid (rget_any w9 w.heap.size R vi9 va9 L9 h9.r f1)
          generalize look L9 f1 = r at HG HRG
          obtain ⟨x9, p9⟩ := r
          simp only [] at HG HRG
          have hxx : (x9 != x9) = false := by simp
          have hpp : (p9 != p9) = false := by simp
          have hll : ((L9.length : Int) != (L9.length : Int)) = false := by simp
          have H9 := Lib.hid h9
          clear h9
          first
          | go_at_call 7
          | (go_wp2_with fail; go_at_call 7)
          refine HG.out.mono ?_
          rintro e w10 ⟨rfl, rfl⟩
          go_wp2_with fail
          go_at_call 17
          refine HRG.out.mono ?_
          rintro e w10 ⟨rfl, rfl⟩
          go_wp2_with fail
          go_at_call 11
          refine (tb_len w9 T C9 L9 H9.out.t.t).mono ?_
          rintro e w10 ⟨rfl, rfl⟩
          go_wp2_with fail
          go_at_call 18
          refine (rlen_any w9 _ R vi9 va9 L9 H9.out.r).mono ?_
          rintro e w10 ⟨rfl, rfl⟩
          go_wp2_with fail
          go_at_call 12
          refine (tb_list w9 T C9 L9 H9.out.t.t).mono ?_
          rintro e w10 ⟨v10, rfl, o10, t10⟩
          have H10 := Lib.hid (H9.out.quiet t10)
          obtain ⟨a10, c10, hv10, _⟩ := owns_form o10
          subst hv10
          have O10 := Lib.hid o10
          clear o10 t10
          go_wp2_with fail
          go_at_call 20
          refine (rlist_any w10 _ R vi9 va9 L9 H10.out.r).mono ?_
          rintro e w11 ⟨v11, rfl, o11, t11⟩
          have H11 := Lib.hid (H10.out.quiet t11)
          obtain ⟨a11, c11, hv11, _⟩ := owns_form o11
          subst hv11
          have O11 := Lib.hid o11
          have O12 := Lib.hid (owns_tch O10.out t11 (by simp))
          have hfew := H11.out.r.few
          clear o11 t11
          go_wp2_with fail
          go_at_call 19
          refine (same_any w11 _ _ _ _ (idsOf L9) (by rw [idsOf_len]; exact O12.out) (by rw [idsOf_len]; exact O11.out) (by rw [idsOf_len]; exact hfew)).mono ?_
          rintro e w12 ⟨rfl, t12⟩
          have H12 := Lib.hid (H11.out.quiet t12)
          clear t12
          go_wp2_with fail
          go_roundw
          case rel => exact ⟨j + 1, C9, vi9, va9, L9, by omega, by omega, by go_num, by omega, H12.out⟩
          case measure => simp [intOf]; omega
        · have k1' : (f0 == 1) = false := beq_eq_false_iff_ne.2 k1
          have BO := Lib.hid (act_made wr f0 f1 f2)
          go_wp2_with fail
          have h9 := HP.out.quiet ((Tch.refl _ _).new (.cells #[.int .i64 f0, .int .i64 f1, .int .i64 f2] 39))
          have bo := BO.out
          have hl9 : L.length ≤ j + 1 := by omega
          generalize hx : wr.heap.size = x at *
          generalize wr.alloc (.cells #[.int .i64 f0, .int .i64 f1, .int .i64 f2] 39) = w9 at *
          have HX := Lib.hid hx
          clear hx BO
          have lx := bo.lt
          have x1 : w9.cell? ⟨x, 1, none⟩ = some (.int .i64 f1) := bo.cell 1 (by omega)
          clear bo
          have HG := Lib.hid (tb_get w9 T C L h9.t.t f1 i1b)
          have HRG := Lib.hid (rget_any w9 w.heap.size R vi va L h9.r f1)
          generalize look L f1 = r at HG HRG
          obtain ⟨x9, p9⟩ := r
          simp only [] at HG HRG
          have hxx : (x9 != x9) = false := by simp
          have hpp : (p9 != p9) = false := by simp
          have hll : ((L.length : Int) != (L.length : Int)) = false := by simp
          have H9 := Lib.hid h9
          clear h9
          first
          | go_at_call 7
          | (go_wp2_with fail; go_at_call 7)
          refine HG.out.mono ?_
          rintro e w10 ⟨rfl, rfl⟩
          go_wp2_with fail
          go_at_call 17
          refine HRG.out.mono ?_
          rintro e w10 ⟨rfl, rfl⟩
          go_wp2_with fail
          go_at_call 11
          refine (tb_len w9 T C L H9.out.t.t).mono ?_
          rintro e w10 ⟨rfl, rfl⟩
          go_wp2_with fail
          go_at_call 18
          refine (rlen_any w9 _ R vi va L H9.out.r).mono ?_
          rintro e w10 ⟨rfl, rfl⟩
          go_wp2_with fail
          go_at_call 12
          refine (tb_list w9 T C L H9.out.t.t).mono ?_
          rintro e w10 ⟨v10, rfl, o10, t10⟩
          have H10 := Lib.hid (H9.out.quiet t10)
          obtain ⟨a10, c10, hv10, _⟩ := owns_form o10
          subst hv10
          have O10 := Lib.hid o10
          clear o10 t10
          go_wp2_with fail
          go_at_call 20
          refine (rlist_any w10 _ R vi va L H10.out.r).mono ?_
          rintro e w11 ⟨v11, rfl, o11, t11⟩
          have H11 := Lib.hid (H10.out.quiet t11)
          obtain ⟨a11, c11, hv11, _⟩ := owns_form o11
          subst hv11
          have O11 := Lib.hid o11
          have O12 := Lib.hid (owns_tch O10.out t11 (by simp))
          have hfew := H11.out.r.few
          clear o11 t11
          go_wp2_with fail
          go_at_call 19
          refine (same_any w11 _ _ _ _ (idsOf L) (by rw [idsOf_len]; exact O12.out) (by rw [idsOf_len]; exact O11.out) (by rw [idsOf_len]; exact hfew)).mono ?_
          rintro e w12 ⟨rfl, t12⟩
          have H12 := Lib.hid (H11.out.quiet t12)
          clear t12
          go_wp2_with fail
          go_roundw
          case rel => exact ⟨j + 1, C, vi, va, L, by omega, by omega, by go_num, by omega, H12.out⟩
          case measure => simp [intOf]; omega
    · clear hP
      have two : ¬ j < N ∨ (j < N ∧ ¬ j < 300) := by omega
      clear hc
      rcases two with d1 | ⟨d1, d2⟩
      all_goals
        go_wp2_with fail
        go_at_call 8
        refine (awake_any _).mono ?_
        rintro e w6 ⟨rfl, b6⟩
        have h6 := HP.out.quiet (Below.tch b6)
        go_wp2_with fail
        go_ret
        exact ⟨rfl, h6.t.b⟩

set_option maxRecDepth 100000 in
theorem tablePlays_lifted (os : Os) (started : os.Started) (H : Type) (enc : TypeId × Value → H) :
    ReturnsInHanded {} Try.checked os 5 .any (Rows.tablePlaysSpec.pre6 enc Try.prog Try.f5 Rows.tablePlaysRow.domain false) (Rows.tablePlaysSpec.post enc Try.prog Try.f5 false true false false) := by
  refine returnsInHanded_of_change (C := Try.checked) Try.own started (by kernel_rfl) Try.func5
    (ChangeSpec.witness6 (enc := enc) (C := Try.checked) false ⟨#[], #[.slice none 0 0], []⟩ 8 (by kernel_rfl) (by kernel_rfl) (by kernel_rfl) (by kernel_rfl)) ?_
  intro W base args ds gs before hval0 hW hcnd _
  have hval : ∀ (j : Nat) t v, Try.f5.params[j]? = some t → args[j]? = some v → Value.okWide Try.prog W .any base t v := hval0
  have hW' := hW
  obtain ⟨p, q, hA0, hV, rfl, hfz, hnd⟩ := hW
  have hA : DataW.TrodAll enc Try.prog W 0 (fun _ => true) true Try.f5.params.toList args.toList ds p := hA0
  rw [Try.params5] at hA hval
  obtain ⟨v0, d0, rfl, rfl, h0⟩ := trodAll_one hA
  obtain ⟨rfl, rfl⟩ := trodVars_none hV
  obtain ⟨ao, L, cap, rfl, hL, hback⟩ := structs_arg 3 (by omega) Try.underlying35 (by kernel_rfl) (by obtain ⟨_, _, _, rfl⟩ := okWide_slice Try.underlying35 (hval 0 35 v0 rfl rfl); rfl) (fun n cs x hx => act_cells hx) h0
  unfold maxLen at hL
  refine (plays_any ao L cap (by omega) W hback).mono fun e W' ⟨he, hw⟩ => ?_
  subst he
  exact ⟨_, rfl, law_close (bt := 4) rfl Try.underlying4 rfl Try.laidOut (of_decide_eq_true (by kernel_rfl)) hW' rfl hw⟩

theorem tablePlays_holds : Rows.TablePlaysSaid :=
  OpenClaim.holds_of_wide 5 Try.f5 rfl rfl rfl rfl rfl rfl rfl ⟨rfl, rfl, rfl, rfl, rfl⟩ rfl rfl rfl rfl rfl (by kernel_rfl) Try.func5 (by kernel_rfl)
    (of_decide_eq_true (by kernel_rfl)) (by unfold Func.isWrapper; first | (rw [if_pos (by decide +kernel)]; kernel_rfl) | (rw [if_neg (by decide +kernel)]; exact ⟨rfl, rfl⟩))
    (fun os started H enc _ => tablePlays_lifted os started H enc)
end Go.Proofs.Ytgnjjomfffmcaaa
