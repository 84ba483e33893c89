/- The walks of the document's Put: rows that are built anew. No condition of its own. -/
import Derived.Test.YtgnjjomfffmcaaaRef
import Derived.Deep.CutRange
namespace Go.Proofs.Ytgnjjomfffmcaaa
open Go.RowKit Go.Lib

theorem Tch.fresh {bs : List Nat} {a b c : World} (h : Tch [] a b) (t : Tch bs b c) (hb : ∀ x ∈ bs, a.heap.size ≤ x) : Tch [] a c :=
  ⟨t.os.trans h.os, t.tape.trans h.tape, t.output.trans h.output, Nat.le_trans h.size t.size, fun k hk _ => (t.block k (Nat.lt_of_lt_of_le hk h.size) (fun e => by have := hb k e; omega)).trans (h.block k hk (by simp))⟩
theorem fresh_block {bs : List Nat} {a b : World} {v : Value} (h : Tch [] a b) (s : ∀ g, v.ownBlock = some g → g ∈ bs ∨ g = b.heap.size) (hb : ∀ x ∈ bs, a.heap.size ≤ x) : ∀ g, v.ownBlock = some g → a.heap.size ≤ g := by
  intro g hg
  rcases s g hg with e | e
  · exact hb g e
  · have := h.size; omega
theorem view_one {w : World} {b : Nat} {x : Int} (h : w.heap[b]? = some (.cells #[.int .i64 x] 3)) : View w 1 (some ⟨b, 0, none⟩) 1 1 (zrow [x]) :=
  ⟨rfl, by simp, fun ad ha j u hj => by
    have e : ad = ⟨b, 0, none⟩ := by simpa using ha.symm
    subst e
    exact news_one (news := [.int .i64 x]) h j u hj⟩
/-- The parts of a row ahead of a place, and from it on. -/
theorem part_head {w : World} {B : Nat} {ao : Option Addr} {c : Nat} {l : List Int} (h : w.ownsRow B 3 1 (.slice ao l.length c) l.length (zrow l)) (k : Nat) (hk : k ≤ l.length) (z : Int) (hz : z = (k : Int)) :
    ∃ A1, (∀ W, (Instr.slice 29 (.slice ao l.length c) none (some (.int .i64 z)) none).run Try.prog W = .ok (.slice A1 k c) W) ∧ ∀ W, Tch [] w W → View W 1 A1 k c (zrow (l.take k)) := by
  have hc := owns_caps h
  refine ⟨_, fun W => run_head E29 ao l.length c k z hz (by omega) W, fun W t => ?_⟩
  have := view_part (owns_tch h t (by simp)) 0 k (by omega) _ c rfl (by omega) hc.1
  have e : (List.drop (0 * 1) (zrow l)).take (k * 1) = zrow (l.take k) := by simp [zrow, List.map_take]
  rw [e] at this
  exact this
theorem part_tail {w : World} {B : Nat} {ao : Option Addr} {c : Nat} {l : List Int} (h : w.ownsRow B 3 1 (.slice ao l.length c) l.length (zrow l)) (k : Nat) (hk : k ≤ l.length) (z : Int) (hz : z = (k : Int)) :
    ∃ A1, (∀ W, (Instr.slice 29 (.slice ao l.length c) (some (.int .i64 z)) none none).run Try.prog W = .ok (.slice A1 (l.length - k) (c - k)) W) ∧ ∀ W, Tch [] w W → View W 1 A1 (l.length - k) (c - k) (zrow (l.drop k)) := by
  have hc := owns_caps h
  refine ⟨_, fun W => run_tail E29 ao l.length c k z hz (by omega) hc.1 W, fun W t => ?_⟩
  have := view_part (owns_tch h t (by simp)) k (l.length - k) (by omega) _ (c - k) rfl (by omega) hc.1
  have e : (List.drop (k * 1) (zrow l)).take ((l.length - k) * 1) = zrow (l.drop k) := by
    simp [zrow, List.map_drop]
    rw [List.take_of_length_le (by simp)]
  rw [e] at this
  exact this
theorem Pl.ins {L : List (Nat × Int)} {id : Nat} {q : Nat} (h : Pl L id q) (hr : Rising L) (hno : ∀ p ∈ L, p.1 ≠ id) (v : Int) : ins (id, v) L = L.take q ++ (id, v) :: L.drop q := by
  induction L generalizing q with
  | nil =>
    have := h.le
    simp at this
    subst this
    rfl
  | cons a L ih =>
    obtain ⟨h1, h2⟩ := List.pairwise_cons.1 hr
    have hna := hno a (by simp)
    unfold Ytgnjjomfffmcaaa.ins
    by_cases hlt : id < a.1
    · have hq : q = 0 := by
        rcases Nat.eq_zero_or_pos q with e | e
        · exact e
        · have := h.lo 0 (by simp) e; simp at this; omega
      subst hq
      rw [if_pos hlt]
      rfl
    · rw [if_neg hlt]
      obtain ⟨r, rfl⟩ : ∃ r, q = r + 1 := by
        rcases Nat.eq_zero_or_pos q with e | e
        · subst e; have := h.hi (by simp); simp at this; omega
        · exact ⟨q - 1, by omega⟩
      have hp : Pl L id r := by
        refine ⟨by have := h.le; simp at this; omega, fun i hi hir => ?_, fun hr' => ?_⟩
        · have := h.lo (i + 1) (by simp; omega) (by omega); simpa using this
        · have := h.hi (by simp; omega); simpa using this
      rw [ih hp h2 (fun p hp => hno p (List.mem_cons_of_mem _ hp))]
      rfl
theorem Pl.without {L : List (Nat × Int)} {id : Int} {q : Nat} (h : Pl L id q) (hr : Rising L) (hq : q < L.length) (he : (L[q].1 : Int) = id) : without L id = L.take q ++ L.drop (q + 1) := by
  induction L generalizing q with
  | nil => simp at hq
  | cons a L ih =>
    obtain ⟨h1, h2⟩ := List.pairwise_cons.1 hr
    unfold Ytgnjjomfffmcaaa.without
    rw [List.filter_cons]
    cases q with
    | zero =>
      simp at he
      rw [if_neg (by simp [he])]
      simp
      exact fun x y hxy => by have := h1 _ hxy; simp at this; omega
    | succ r =>
      have h0 := h.lo 0 (by simp) (by omega)
      simp at h0
      rw [if_pos (by simp; omega)]
      have hp : Pl L id r := by
        refine ⟨by have := h.le; simp at this; omega, fun i hi hir => ?_, fun hr' => ?_⟩
        · have := h.lo (i + 1) (by simp; omega) (by omega); simpa using this
        · have := h.hi (by simp; omega); simpa using this
      have := ih hp h2 (by simpa using hq) (by simpa using he)
      unfold Ytgnjjomfffmcaaa.without at this
      rw [this]
      rfl
/-- Behind a call that may have turned the document's table. -/
def RTPost (w : World) (B R : Nat) (vi va : Value) (L' : List (Nat × Int)) (w' : World) : Prop :=
  ∃ vi' va', RT w' B R vi' va' L' ∧ Tch [R] w w' ∧ (∀ b, vi'.ownBlock = some b → vi.ownBlock = some b ∨ w.heap.size ≤ b) ∧ (∀ b, va'.ownBlock = some b → va.ownBlock = some b ∨ w.heap.size ≤ b)
theorem RTPost.same {w : World} {B R : Nat} {vi va : Value} {L : List (Nat × Int)} (h : RT w B R vi va L) : RTPost w B R vi va L w := ⟨vi, va, h, Tch.refl _ _, fun _ h => .inl h, fun _ h => .inl h⟩

/-- Between the two rows' rebuildings. -/
def RMid (w : World) (B R : Nat) (va : Value) (L : List (Nat × Int)) (xs : List Value) (w6 : World) : Prop :=
  ∃ vn, Tch [R] w w6 ∧ Blk w6 R 53 2 (rcell vn va) ∧ w6.ownsRow B 3 1 vn (L.length + 1) xs ∧ w6.ownsRow B 3 1 va L.length (zrow (atsOf L)) ∧ ∀ b, vn.ownBlock = some b → w.heap.size ≤ b
/-- Behind the first row's rebuilding. -/
theorem rput_mid {w w3 : World} {B R : Nat} {vi va : Value} {L : List (Nat × Int)} (h : RT w B R vi va L) (T : Tch [] w w3) (vn : Value) (n : Nat) (xs : List Value) (own : w3.ownsRow B 3 1 vn n xs) (fresh : ∀ b, vn.ownBlock = some b → w.heap.size ≤ b) :
    Tch [R] w (w3.setCell ⟨R, 0, none⟩ vn) ∧ Blk (w3.setCell ⟨R, 0, none⟩ vn) R 53 2 (rcell vn va) ∧ (w3.setCell ⟨R, 0, none⟩ vn).ownsRow B 3 1 vn n xs ∧ (w3.setCell ⟨R, 0, none⟩ vn).ownsRow B 3 1 va L.length (zrow (atsOf L)) := by
  have hR := h.r.lt
  refine ⟨(T.mono (by simp)).set (by simp) _, ((T.blk h.r (by simp)).set 0 _).ext (fun k hk => match k, hk with | 0, _ => rfl | 1, _ => rfl), owns_setNe own _ _ _ (fun e => ?_), owns_setNe (owns_tch h.a T (by simp)) _ _ _ (fun e => h.na R e rfl)⟩
  have := fresh R e
  omega
/-- Behind the second one's. -/
theorem rput_fin {w w6 w3 : World} {B R : Nat} {vn va vm : Value} {n m : Nat} {xs ys : List Value} (U1 : Tch [R] w w6) (U2 : Blk w6 R 53 2 (rcell vn va)) (U3 : w6.ownsRow B 3 1 vn n xs) (T : Tch [] w6 w3) (own : w3.ownsRow B 3 1 vm m ys)
    (fr1 : ∀ b, vn.ownBlock = some b → w.heap.size ≤ b) (fresh : ∀ b, vm.ownBlock = some b → w6.heap.size ≤ b) (hR : R < w.heap.size) (k : Nat) (zs us : List Value) (hn : n = k) (hm : m = k) (hx : xs = zs) (hy : ys = us) :
    Tch [R] w (w3.setCell ⟨R, 1, none⟩ vm) ∧ ∃ vi' va', Blk (w3.setCell ⟨R, 1, none⟩ vm) R 53 2 (rcell vi' va') ∧ (w3.setCell ⟨R, 1, none⟩ vm).ownsRow B 3 1 vi' k zs ∧ (w3.setCell ⟨R, 1, none⟩ vm).ownsRow B 3 1 va' k us ∧ (∀ b, vi'.ownBlock = some b → w.heap.size ≤ b) ∧ (∀ b, va'.ownBlock = some b → w.heap.size ≤ b) := by
  subst hn hm hx hy
  have hs := U1.size
  refine ⟨(U1.trans (T.mono (by simp))).set (by simp) _, vn, vm, ((T.blk U2 (by simp)).set 1 _).ext (fun k hk => match k, hk with | 0, _ => rfl | 1, _ => rfl), owns_setNe (owns_tch U3 T (by simp)) _ _ _ (fun e => ?_), owns_setNe own _ _ _ (fun e => ?_), fr1, fun b hb => by have := fresh b hb; omega⟩
  · have := fr1 R e; omega
  · have := fresh R e; omega

set_option maxHeartbeats 4000000 in
theorem rput_do (w : World) (B R q : Nat) (ai aa : Option Addr) (ci ca : Nat) (L : List (Nat × Int)) (h : RT w B R (.slice ai L.length ci) (.slice aa L.length ca) L) (id v : Int) (h0 : 0 ≤ id) (h1 : id ≤ 2147483647) (hq : q ≤ L.length) (hfew : L.length < 1000000)
    (hne : ∀ h : q < L.length, (L[q].1 : Int) ≠ id)
    (HP : Calls Try.prog 24 #[.pointer (some ⟨R, 0, none⟩), .int .i64 id] w fun e w' => e = .returned (.int .i64 q) ∧ w = w') :
    Calls Try.prog 15 #[.pointer (some ⟨R, 0, none⟩), .int .i64 id, .int .i64 v] w fun e w' => e = .returned (.bool true) ∧ Tch [R] w w' ∧ ∃ vi' va', Blk w' R 53 2 (rcell vi' va') ∧ w'.ownsRow B 3 1 vi' (L.length + 1) (zrow ((idsOf L).take q ++ id :: (idsOf L).drop q)) ∧ w'.ownsRow B 3 1 va' (L.length + 1) (zrow ((atsOf L).take q ++ v :: (atsOf L).drop q)) ∧
      (∀ b, vi'.ownBlock = some b → w.heap.size ≤ b) ∧ (∀ b, va'.ownBlock = some b → w.heap.size ≤ b) := by
  have HP := Lib.hid HP
  have c0 : w.cell? ⟨R, 0, none⟩ = some (.slice ai L.length ci) := h.r.cell 0 (by omega)
  have c1 : w.cell? ⟨R, 1, none⟩ = some (.slice aa L.length ca) := h.r.cell 1 (by omega)
  have hR := h.r.lt
  have hB := h.lo
  have HH := Lib.hid h
  have hcap := owns_caps h.i
  have hcap2 := owns_caps h.a
  unfold maxLen at hcap hcap2
  have e1 : (idsOf L).length = L.length := by simp [idsOf]
  have e2 : (atsOf L).length = L.length := by simp [atsOf]
  obtain ⟨A1, hs1, v1⟩ := part_head (l := idsOf L) (by rw [e1]; exact h.i) q (by omega) q rfl
  obtain ⟨A2, hs2, v2⟩ := part_tail (l := idsOf L) (by rw [e1]; exact h.i) q (by omega) q rfl
  rw [e1] at hs1 hs2 v2
  have HHa := Lib.hid v1
  have HTa := Lib.hid v2
  clear v1 v2
  have hx : q < L.length → ∃ x : Nat, ∃ g, ai = some ⟨g, 0, none⟩ ∧ g < w.heap.size ∧ w.cell? ⟨g, q, none⟩ = some (.int .i64 (x : Int)) ∧ ((x : Int) == id) = false := by
    intro hqn
    obtain ⟨g, e, hg, cq⟩ := h.id_at q hqn
    exact ⟨_, g, e, hg, cq, beq_eq_false_iff_ne.2 (hne hqn)⟩
  have HX := Lib.hid hx
  clear hx h hne
  have E1 := Lib.hid e1
  have E2 := Lib.hid e2
  clear e1 e2
  have hq2 : (q < L.length ∧ ∃ x : Nat, ∃ g, ai = some ⟨g, 0, none⟩ ∧ g < w.heap.size ∧ w.cell? ⟨g, q, none⟩ = some (.int .i64 (x : Int)) ∧ ((x : Int) == id) = false) ∨ ¬ q < L.length := by
    by_cases hqn : q < L.length
    · exact .inl ⟨hqn, HX.out hqn⟩
    · exact .inr hqn
  have HQ := Lib.hid hq2
  clear HX hq2
  go_enter Try.func15, Try.ntmps15
  go_wp2_with fail
  go_at_call 24
  refine HP.out.mono ?_
  rintro e w1 ⟨rfl, rfl⟩
  clear HP
  go_upto_region 4 with (fail)
  go_cut [46] from 29 to 46 (fun b wx => b = .bool false ∧ w = wx)
  case first =>
    rcases HQ.out with ⟨hqn, x, g, rfl, hg, cq, hxb⟩ | hqn
    all_goals
      go_wp2_with fail
      go_meet
      exact ⟨rfl, rfl⟩
  case rest =>
    obtain ⟨rfl, rfl⟩ := hcut
    clear HQ
    go_upto_region 6 with (fail)
    go_cut [] from 47 to 67 (fun wx => RMid w B R (.slice aa L.length ca) L (zrow ((idsOf L).take q ++ id :: (idsOf L).drop q)) wx)
    case first =>
      refine region_any (.takes [0, 2, 3, 4, 5, 6, 7, 9, 12, 13, 14, 15, 16, 17] (.fork 1 [3, 4, 5, 7, 13, 14, 15, 17] (.fork 8 [13, 14, 15, 17] (.fork 10 [13, 14, 15, 17] (.fork 11 [13, 14, 15, 17] (.fork 18 [] (.takes [19, 20] (.fork 21 [] .done .none)) .none) .none) .none) (.fork 10 [3, 4, 5, 7, 13, 14, 15, 17] (.fork 8 [13, 14, 15, 17] (.fork 11 [13, 14, 15, 17] (.fork 18 [] (.takes [19, 20] (.fork 21 [] .done .none)) .none) .none) .none) .none)) (.fork 10 [3, 4, 5, 7, 13, 14, 15, 17] (.fork 1 [3, 4, 5, 7, 13, 14, 15, 17] (.fork 8 [13, 14, 15, 17] (.fork 11 [13, 14, 15, 17] (.fork 18 [] (.takes [19, 20] (.fork 21 [] .done .none)) .none) .none) .none) .none) .none))) (by kernel_rfl) (by kernel_rfl) rfl ?_
      go_wp2_with first | (with_reducible refine wpE_takes_nil ?_) | (with_reducible refine wpE_done ?_) | (refine wpE_take rfl rfl (fun _ _ => ?_)) | (refine wpE_skip rfl rfl ?_) | (with_reducible exact agains_nil) | (refine agains_cons rfl (fun _ => ?_) ?_) | (with_reducible refine wpE_same ?_) | (refine And.intro (rfl : (_ : World) = _) ?_) | (with_reducible refine wpE_and ?_ ?_)
      refine wpE_fork rfl rfl (fun _ _ => ?_) ?_
      · go_wp2_with first | (with_reducible refine wpE_takes_nil ?_) | (with_reducible refine wpE_done ?_) | (refine wpE_take rfl rfl (fun _ _ => ?_)) | (refine wpE_skip rfl rfl ?_) | (with_reducible exact agains_nil) | (refine agains_cons rfl (fun _ => ?_) ?_) | (with_reducible refine wpE_same ?_) | (refine And.intro (rfl : (_ : World) = _) ?_) | (with_reducible refine wpE_and ?_ ?_)
        refine wpE_appendV E29 rfl rfl (.tmp 48) (.tmp 54) rfl B (.slice (some ⟨w.heap.size, 0, none⟩) 0 0) (0) ([]) rfl (owns_made (by first | exact heap_new _ _ | (refine (heap_old _ _ _ (by simp)).trans ?_; exact heap_new _ _) | exact heap_new_at _ _ _ (by simp)) (by first | omega | (simp; omega))) _ (q) _ (zrow ((idsOf L).take q)) rfl (HHa.out _ (by repeat (first | exact Tch.refl _ _ | assumption | refine Tch.new ?_ _ | refine Tch.drew ?_))) (zrow_one _) (by unfold maxLen; omega) (by omega) (by first | omega | (simp; omega)) (q) (by omega) ?_ ?_
        · intro vaa1 vca1 wa1 ra1 ta1 sa1
          have Ta1 : Tch [] w wa1 := Tch.fresh (by repeat (first | exact Tch.refl _ _ | assumption | refine Tch.new ?_ _ | refine Tch.drew ?_)) ta1 (by simp [Value.ownBlock])
          have La1 : ∀ b, (Value.slice vaa1 (q) vca1).ownBlock = some b → (w).heap.size ≤ b := fresh_block (by repeat (first | exact Tch.refl _ _ | assumption | refine Tch.new ?_ _ | refine Tch.drew ?_)) sa1 (by simp [Value.ownBlock])
          have ca1 := (Ta1.cell R 0 hR (by simp)).trans c0
          have hRa1 := Nat.lt_of_lt_of_le hR Ta1.size
          go_wp2_with first | (with_reducible refine wpE_takes_nil ?_) | (with_reducible refine wpE_done ?_) | (refine wpE_take rfl rfl (fun _ _ => ?_)) | (refine wpE_skip rfl rfl ?_) | (with_reducible exact agains_nil) | (refine agains_cons rfl (fun _ => ?_) ?_) | (with_reducible refine wpE_same ?_) | (refine And.intro (rfl : (_ : World) = _) ?_) | (with_reducible refine wpE_and ?_ ?_)
          refine wpE_fork rfl rfl (fun _ _ => ?_) wpE_none
          go_wp2_with first | (with_reducible refine wpE_takes_nil ?_) | (with_reducible refine wpE_done ?_) | (refine wpE_take rfl rfl (fun _ _ => ?_)) | (refine wpE_skip rfl rfl ?_) | (with_reducible exact agains_nil) | (refine agains_cons rfl (fun _ => ?_) ?_) | (with_reducible refine wpE_same ?_) | (refine And.intro (rfl : (_ : World) = _) ?_) | (with_reducible refine wpE_and ?_ ?_)
          refine wpE_appendV E29 rfl rfl (.tmp 55) (.tmp 57) rfl B (.slice vaa1 q vca1) (q) ([] ++ zrow ((idsOf L).take q)) rfl (owns_new ra1 _) _ (1) _ (zrow [id]) rfl (view_one (by first | exact heap_new _ _ | exact heap_new_at _ _ _ (by simp))) (zrow_one _) (by unfold maxLen; omega) (by omega) (by first | omega | (simp; omega)) (q + 1) (by omega) ?_ wpE_none
          intro vaa2 vca2 wa2 ra2 ta2 sa2
          have Ta2 : Tch [] w wa2 := Tch.fresh (by repeat (first | exact Tch.refl _ _ | assumption | refine Tch.new ?_ _ | refine Tch.drew ?_)) ta2 (by intro b hb; exact La1 b (by simpa using hb))
          have La2 : ∀ b, (Value.slice vaa2 (q + 1) vca2).ownBlock = some b → (w).heap.size ≤ b := fresh_block (by repeat (first | exact Tch.refl _ _ | assumption | refine Tch.new ?_ _ | refine Tch.drew ?_)) sa2 (by intro b hb; exact La1 b (by simpa using hb))
          have ca2 := (Ta2.cell R 0 hR (by simp)).trans c0
          have hRa2 := Nat.lt_of_lt_of_le hR Ta2.size
          try clear ca1
          go_wp2_with first | (with_reducible refine wpE_takes_nil ?_) | (with_reducible refine wpE_done ?_) | (refine wpE_take rfl rfl (fun _ _ => ?_)) | (refine wpE_skip rfl rfl ?_) | (with_reducible exact agains_nil) | (refine agains_cons rfl (fun _ => ?_) ?_) | (with_reducible refine wpE_same ?_) | (refine And.intro (rfl : (_ : World) = _) ?_) | (with_reducible refine wpE_and ?_ ?_)
          refine wpE_appendV E29 rfl rfl (.tmp 58) (.tmp 64) rfl B (.slice vaa2 (q + 1) vca2) (q + 1) ([] ++ zrow ((idsOf L).take q) ++ zrow [id]) rfl ra2 _ (L.length - q) _ (zrow ((idsOf L).drop q)) rfl (HTa.out _ (by repeat (first | exact Tch.refl _ _ | assumption | refine Tch.new ?_ _ | refine Tch.drew ?_))) (zrow_one _) (by unfold maxLen; omega) (by omega) (by first | omega | (simp; omega)) (L.length + 1) (by omega) ?_ wpE_none
          intro vaa3 vca3 wa3 ra3 ta3 sa3
          have Ta3 : Tch [] w wa3 := Tch.fresh (by repeat (first | exact Tch.refl _ _ | assumption | refine Tch.new ?_ _ | refine Tch.drew ?_)) ta3 (by intro b hb; exact La2 b (by simpa using hb))
          have La3 : ∀ b, (Value.slice vaa3 (L.length + 1) vca3).ownBlock = some b → (w).heap.size ≤ b := fresh_block (by repeat (first | exact Tch.refl _ _ | assumption | refine Tch.new ?_ _ | refine Tch.drew ?_)) sa3 (by intro b hb; exact La2 b (by simpa using hb))
          have ca3 := (Ta3.cell R 0 hR (by simp)).trans c0
          have hRa3 := Nat.lt_of_lt_of_le hR Ta3.size
          have fa3 : wa3.frozen? ⟨R, 0, none⟩ = false := (frozen_same (Ta3.block R hR (by simp)) 0).trans (HH.out.r.frozen 0)
          clear ca2
          go_wp2_with first | (with_reducible refine wpE_takes_nil ?_) | (with_reducible refine wpE_done ?_) | (refine wpE_take rfl rfl (fun _ _ => ?_)) | (refine wpE_skip rfl rfl ?_) | (with_reducible exact agains_nil) | (refine agains_cons rfl (fun _ => ?_) ?_) | (with_reducible refine wpE_same ?_) | (refine And.intro (rfl : (_ : World) = _) ?_) | (with_reducible refine wpE_and ?_ ?_)
          refine wpE_fork rfl rfl (fun _ _ => ?_) wpE_none
          go_wp2_with first | (with_reducible refine wpE_takes_nil ?_) | (with_reducible refine wpE_done ?_) | (refine wpE_take rfl rfl (fun _ _ => ?_)) | (refine wpE_skip rfl rfl ?_) | (with_reducible exact agains_nil) | (refine agains_cons rfl (fun _ => ?_) ?_) | (with_reducible refine wpE_same ?_) | (refine And.intro (rfl : (_ : World) = _) ?_) | (with_reducible refine wpE_and ?_ ?_)
          go_meet
          have e8 : (idsOf L).length = L.length := E1.out
          have M := rput_mid HH.out Ta3 _ _ _ ra3 La3
          exact ⟨_, M.1, M.2.1, by simpa [zrow] using M.2.2.1, M.2.2.2, La3⟩
        · go_wp2_with first | (with_reducible refine wpE_takes_nil ?_) | (with_reducible refine wpE_done ?_) | (refine wpE_take rfl rfl (fun _ _ => ?_)) | (refine wpE_skip rfl rfl ?_) | (with_reducible exact agains_nil) | (refine agains_cons rfl (fun _ => ?_) ?_) | (with_reducible refine wpE_same ?_) | (refine And.intro (rfl : (_ : World) = _) ?_) | (with_reducible refine wpE_and ?_ ?_)
          refine wpE_fork rfl rfl (fun _ _ => ?_) wpE_none
          go_wp2_with first | (with_reducible refine wpE_takes_nil ?_) | (with_reducible refine wpE_done ?_) | (refine wpE_take rfl rfl (fun _ _ => ?_)) | (refine wpE_skip rfl rfl ?_) | (with_reducible exact agains_nil) | (refine agains_cons rfl (fun _ => ?_) ?_) | (with_reducible refine wpE_same ?_) | (refine And.intro (rfl : (_ : World) = _) ?_) | (with_reducible refine wpE_and ?_ ?_)
          refine wpE_appendV E29 rfl rfl (.tmp 48) (.tmp 54) rfl B (.slice (some ⟨w.heap.size, 0, none⟩) 0 0) (0) ([]) rfl (owns_made (by first | exact heap_new _ _ | (refine (heap_old _ _ _ (by simp)).trans ?_; exact heap_new _ _) | exact heap_new_at _ _ _ (by simp)) (by first | omega | (simp; omega))) _ (q) _ (zrow ((idsOf L).take q)) rfl (HHa.out _ (by repeat (first | exact Tch.refl _ _ | assumption | refine Tch.new ?_ _ | refine Tch.drew ?_))) (zrow_one _) (by unfold maxLen; omega) (by omega) (by first | omega | (simp; omega)) (q) (by omega) ?_ wpE_none
          intro vaa1 vca1 wa1 ra1 ta1 sa1
          have Ta1 : Tch [] w wa1 := Tch.fresh (by repeat (first | exact Tch.refl _ _ | assumption | refine Tch.new ?_ _ | refine Tch.drew ?_)) ta1 (by simp [Value.ownBlock])
          have La1 : ∀ b, (Value.slice vaa1 (q) vca1).ownBlock = some b → (w).heap.size ≤ b := fresh_block (by repeat (first | exact Tch.refl _ _ | assumption | refine Tch.new ?_ _ | refine Tch.drew ?_)) sa1 (by simp [Value.ownBlock])
          have ca1 := (Ta1.cell R 0 hR (by simp)).trans c0
          have hRa1 := Nat.lt_of_lt_of_le hR Ta1.size
          go_wp2_with first | (with_reducible refine wpE_takes_nil ?_) | (with_reducible refine wpE_done ?_) | (refine wpE_take rfl rfl (fun _ _ => ?_)) | (refine wpE_skip rfl rfl ?_) | (with_reducible exact agains_nil) | (refine agains_cons rfl (fun _ => ?_) ?_) | (with_reducible refine wpE_same ?_) | (refine And.intro (rfl : (_ : World) = _) ?_) | (with_reducible refine wpE_and ?_ ?_)
          refine wpE_appendV E29 rfl rfl (.tmp 55) (.tmp 57) rfl B (.slice vaa1 q vca1) (q) ([] ++ zrow ((idsOf L).take q)) rfl ra1 _ (1) _ (zrow [id]) rfl (view_one ((ta1.block _ (by first | (simp; done) | (simp; omega)) (by simp [Value.ownBlock])).trans (heap_new_at _ _ _ (by simp)))) (zrow_one _) (by unfold maxLen; omega) (by omega) (by first | omega | (simp; omega)) (q + 1) (by omega) ?_ wpE_none
          intro vaa2 vca2 wa2 ra2 ta2 sa2
          have Ta2 : Tch [] w wa2 := Tch.fresh (by repeat (first | exact Tch.refl _ _ | assumption | refine Tch.new ?_ _ | refine Tch.drew ?_)) ta2 (by intro b hb; exact La1 b (by simpa using hb))
          have La2 : ∀ b, (Value.slice vaa2 (q + 1) vca2).ownBlock = some b → (w).heap.size ≤ b := fresh_block (by repeat (first | exact Tch.refl _ _ | assumption | refine Tch.new ?_ _ | refine Tch.drew ?_)) sa2 (by intro b hb; exact La1 b (by simpa using hb))
          have ca2 := (Ta2.cell R 0 hR (by simp)).trans c0
          have hRa2 := Nat.lt_of_lt_of_le hR Ta2.size
          try clear ca1
          go_wp2_with first | (with_reducible refine wpE_takes_nil ?_) | (with_reducible refine wpE_done ?_) | (refine wpE_take rfl rfl (fun _ _ => ?_)) | (refine wpE_skip rfl rfl ?_) | (with_reducible exact agains_nil) | (refine agains_cons rfl (fun _ => ?_) ?_) | (with_reducible refine wpE_same ?_) | (refine And.intro (rfl : (_ : World) = _) ?_) | (with_reducible refine wpE_and ?_ ?_)
          refine wpE_appendV E29 rfl rfl (.tmp 58) (.tmp 64) rfl B (.slice vaa2 (q + 1) vca2) (q + 1) ([] ++ zrow ((idsOf L).take q) ++ zrow [id]) rfl ra2 _ (L.length - q) _ (zrow ((idsOf L).drop q)) rfl (HTa.out _ (by repeat (first | exact Tch.refl _ _ | assumption | refine Tch.new ?_ _ | refine Tch.drew ?_))) (zrow_one _) (by unfold maxLen; omega) (by omega) (by first | omega | (simp; omega)) (L.length + 1) (by omega) ?_ wpE_none
          intro vaa3 vca3 wa3 ra3 ta3 sa3
          have Ta3 : Tch [] w wa3 := Tch.fresh (by repeat (first | exact Tch.refl _ _ | assumption | refine Tch.new ?_ _ | refine Tch.drew ?_)) ta3 (by intro b hb; exact La2 b (by simpa using hb))
          have La3 : ∀ b, (Value.slice vaa3 (L.length + 1) vca3).ownBlock = some b → (w).heap.size ≤ b := fresh_block (by repeat (first | exact Tch.refl _ _ | assumption | refine Tch.new ?_ _ | refine Tch.drew ?_)) sa3 (by intro b hb; exact La2 b (by simpa using hb))
          have ca3 := (Ta3.cell R 0 hR (by simp)).trans c0
          have hRa3 := Nat.lt_of_lt_of_le hR Ta3.size
          have fa3 : wa3.frozen? ⟨R, 0, none⟩ = false := (frozen_same (Ta3.block R hR (by simp)) 0).trans (HH.out.r.frozen 0)
          clear ca2
          go_wp2_with first | (with_reducible refine wpE_takes_nil ?_) | (with_reducible refine wpE_done ?_) | (refine wpE_take rfl rfl (fun _ _ => ?_)) | (refine wpE_skip rfl rfl ?_) | (with_reducible exact agains_nil) | (refine agains_cons rfl (fun _ => ?_) ?_) | (with_reducible refine wpE_same ?_) | (refine And.intro (rfl : (_ : World) = _) ?_) | (with_reducible refine wpE_and ?_ ?_)
          refine wpE_fork rfl rfl (fun _ _ => ?_) wpE_none
          go_wp2_with first | (with_reducible refine wpE_takes_nil ?_) | (with_reducible refine wpE_done ?_) | (refine wpE_take rfl rfl (fun _ _ => ?_)) | (refine wpE_skip rfl rfl ?_) | (with_reducible exact agains_nil) | (refine agains_cons rfl (fun _ => ?_) ?_) | (with_reducible refine wpE_same ?_) | (refine And.intro (rfl : (_ : World) = _) ?_) | (with_reducible refine wpE_and ?_ ?_)
          go_meet
          have e8 : (idsOf L).length = L.length := E1.out
          have M := rput_mid HH.out Ta3 _ _ _ ra3 La3
          exact ⟨_, M.1, M.2.1, by simpa [zrow] using M.2.2.1, M.2.2.2, La3⟩
      · go_wp2_with first | (with_reducible refine wpE_takes_nil ?_) | (with_reducible refine wpE_done ?_) | (refine wpE_take rfl rfl (fun _ _ => ?_)) | (refine wpE_skip rfl rfl ?_) | (with_reducible exact agains_nil) | (refine agains_cons rfl (fun _ => ?_) ?_) | (with_reducible refine wpE_same ?_) | (refine And.intro (rfl : (_ : World) = _) ?_) | (with_reducible refine wpE_and ?_ ?_)
        refine wpE_fork rfl rfl (fun _ _ => ?_) wpE_none
        go_wp2_with first | (with_reducible refine wpE_takes_nil ?_) | (with_reducible refine wpE_done ?_) | (refine wpE_take rfl rfl (fun _ _ => ?_)) | (refine wpE_skip rfl rfl ?_) | (with_reducible exact agains_nil) | (refine agains_cons rfl (fun _ => ?_) ?_) | (with_reducible refine wpE_same ?_) | (refine And.intro (rfl : (_ : World) = _) ?_) | (with_reducible refine wpE_and ?_ ?_)
        refine wpE_fork rfl rfl (fun _ _ => ?_) wpE_none
        go_wp2_with first | (with_reducible refine wpE_takes_nil ?_) | (with_reducible refine wpE_done ?_) | (refine wpE_take rfl rfl (fun _ _ => ?_)) | (refine wpE_skip rfl rfl ?_) | (with_reducible exact agains_nil) | (refine agains_cons rfl (fun _ => ?_) ?_) | (with_reducible refine wpE_same ?_) | (refine And.intro (rfl : (_ : World) = _) ?_) | (with_reducible refine wpE_and ?_ ?_)
        refine wpE_appendV E29 rfl rfl (.tmp 48) (.tmp 54) rfl B (.slice (some ⟨(w.heap.size + 1), 0, none⟩) 0 0) (0) ([]) rfl (owns_made (by first | exact heap_new _ _ | (refine (heap_old _ _ _ (by simp)).trans ?_; exact heap_new _ _) | exact heap_new_at _ _ _ (by simp)) (by first | omega | (simp; omega))) _ (q) _ (zrow ((idsOf L).take q)) rfl (HHa.out _ (by repeat (first | exact Tch.refl _ _ | assumption | refine Tch.new ?_ _ | refine Tch.drew ?_))) (zrow_one _) (by unfold maxLen; omega) (by omega) (by first | omega | (simp; omega)) (q) (by omega) ?_ wpE_none
        intro vaa1 vca1 wa1 ra1 ta1 sa1
        have Ta1 : Tch [] w wa1 := Tch.fresh (by repeat (first | exact Tch.refl _ _ | assumption | refine Tch.new ?_ _ | refine Tch.drew ?_)) ta1 (by simp [Value.ownBlock])
        have La1 : ∀ b, (Value.slice vaa1 (q) vca1).ownBlock = some b → (w).heap.size ≤ b := fresh_block (by repeat (first | exact Tch.refl _ _ | assumption | refine Tch.new ?_ _ | refine Tch.drew ?_)) sa1 (by simp [Value.ownBlock])
        have ca1 := (Ta1.cell R 0 hR (by simp)).trans c0
        have hRa1 := Nat.lt_of_lt_of_le hR Ta1.size
        go_wp2_with first | (with_reducible refine wpE_takes_nil ?_) | (with_reducible refine wpE_done ?_) | (refine wpE_take rfl rfl (fun _ _ => ?_)) | (refine wpE_skip rfl rfl ?_) | (with_reducible exact agains_nil) | (refine agains_cons rfl (fun _ => ?_) ?_) | (with_reducible refine wpE_same ?_) | (refine And.intro (rfl : (_ : World) = _) ?_) | (with_reducible refine wpE_and ?_ ?_)
        refine wpE_appendV E29 rfl rfl (.tmp 55) (.tmp 57) rfl B (.slice vaa1 q vca1) (q) ([] ++ zrow ((idsOf L).take q)) rfl ra1 _ (1) _ (zrow [id]) rfl (view_one ((ta1.block _ (by first | (simp; done) | (simp; omega)) (by simp [Value.ownBlock])).trans ((heap_old _ _ _ (by first | (simp; done) | (simp; omega))).trans (heap_new _ _)))) (zrow_one _) (by unfold maxLen; omega) (by omega) (by first | omega | (simp; omega)) (q + 1) (by omega) ?_ wpE_none
        intro vaa2 vca2 wa2 ra2 ta2 sa2
        have Ta2 : Tch [] w wa2 := Tch.fresh (by repeat (first | exact Tch.refl _ _ | assumption | refine Tch.new ?_ _ | refine Tch.drew ?_)) ta2 (by intro b hb; exact La1 b (by simpa using hb))
        have La2 : ∀ b, (Value.slice vaa2 (q + 1) vca2).ownBlock = some b → (w).heap.size ≤ b := fresh_block (by repeat (first | exact Tch.refl _ _ | assumption | refine Tch.new ?_ _ | refine Tch.drew ?_)) sa2 (by intro b hb; exact La1 b (by simpa using hb))
        have ca2 := (Ta2.cell R 0 hR (by simp)).trans c0
        have hRa2 := Nat.lt_of_lt_of_le hR Ta2.size
        try clear ca1
        go_wp2_with first | (with_reducible refine wpE_takes_nil ?_) | (with_reducible refine wpE_done ?_) | (refine wpE_take rfl rfl (fun _ _ => ?_)) | (refine wpE_skip rfl rfl ?_) | (with_reducible exact agains_nil) | (refine agains_cons rfl (fun _ => ?_) ?_) | (with_reducible refine wpE_same ?_) | (refine And.intro (rfl : (_ : World) = _) ?_) | (with_reducible refine wpE_and ?_ ?_)
        refine wpE_appendV E29 rfl rfl (.tmp 58) (.tmp 64) rfl B (.slice vaa2 (q + 1) vca2) (q + 1) ([] ++ zrow ((idsOf L).take q) ++ zrow [id]) rfl ra2 _ (L.length - q) _ (zrow ((idsOf L).drop q)) rfl (HTa.out _ (by repeat (first | exact Tch.refl _ _ | assumption | refine Tch.new ?_ _ | refine Tch.drew ?_))) (zrow_one _) (by unfold maxLen; omega) (by omega) (by first | omega | (simp; omega)) (L.length + 1) (by omega) ?_ wpE_none
        intro vaa3 vca3 wa3 ra3 ta3 sa3
        have Ta3 : Tch [] w wa3 := Tch.fresh (by repeat (first | exact Tch.refl _ _ | assumption | refine Tch.new ?_ _ | refine Tch.drew ?_)) ta3 (by intro b hb; exact La2 b (by simpa using hb))
        have La3 : ∀ b, (Value.slice vaa3 (L.length + 1) vca3).ownBlock = some b → (w).heap.size ≤ b := fresh_block (by repeat (first | exact Tch.refl _ _ | assumption | refine Tch.new ?_ _ | refine Tch.drew ?_)) sa3 (by intro b hb; exact La2 b (by simpa using hb))
        have ca3 := (Ta3.cell R 0 hR (by simp)).trans c0
        have hRa3 := Nat.lt_of_lt_of_le hR Ta3.size
        have fa3 : wa3.frozen? ⟨R, 0, none⟩ = false := (frozen_same (Ta3.block R hR (by simp)) 0).trans (HH.out.r.frozen 0)
        clear ca2
        go_wp2_with first | (with_reducible refine wpE_takes_nil ?_) | (with_reducible refine wpE_done ?_) | (refine wpE_take rfl rfl (fun _ _ => ?_)) | (refine wpE_skip rfl rfl ?_) | (with_reducible exact agains_nil) | (refine agains_cons rfl (fun _ => ?_) ?_) | (with_reducible refine wpE_same ?_) | (refine And.intro (rfl : (_ : World) = _) ?_) | (with_reducible refine wpE_and ?_ ?_)
        refine wpE_fork rfl rfl (fun _ _ => ?_) wpE_none
        go_wp2_with first | (with_reducible refine wpE_takes_nil ?_) | (with_reducible refine wpE_done ?_) | (refine wpE_take rfl rfl (fun _ _ => ?_)) | (refine wpE_skip rfl rfl ?_) | (with_reducible exact agains_nil) | (refine agains_cons rfl (fun _ => ?_) ?_) | (with_reducible refine wpE_same ?_) | (refine And.intro (rfl : (_ : World) = _) ?_) | (with_reducible refine wpE_and ?_ ?_)
        go_meet
        have e8 : (idsOf L).length = L.length := E1.out
        have M := rput_mid HH.out Ta3 _ _ _ ra3 La3
        exact ⟨_, M.1, M.2.1, by simpa [zrow] using M.2.2.1, M.2.2.2, La3⟩
    case rest =>
      obtain ⟨vn, U1, U2, U3, U4, U5⟩ := hcut
      have hlow := U1.size
      have d1 : wc.cell? ⟨R, 1, none⟩ = some (.slice aa L.length ca) := U2.cell 1 (by omega)
      have hR0 := hR
      have hR := U2.lt
      have e2 : (atsOf L).length = L.length := E2.out
      obtain ⟨A3, hs3, v3⟩ := part_head (l := atsOf L) (by rw [e2]; exact U4) q (by omega) q rfl
      obtain ⟨A4, hs4, v4⟩ := part_tail (l := atsOf L) (by rw [e2]; exact U4) q (by omega) q rfl
      rw [e2] at hs3 hs4 v4
      have HHb := Lib.hid v3
      have HTb := Lib.hid v4
      clear v3 v4 e2 hs1 hs2 c0 c1
      go_upto_region 7 with (fail)
      refine region_any (.takes [0, 2, 3, 4, 5, 6, 7, 9, 12, 13, 14, 15, 16, 17] (.fork 1 [3, 4, 5, 7, 13, 14, 15, 17] (.fork 8 [13, 14, 15, 17] (.fork 10 [13, 14, 15, 17] (.fork 11 [13, 14, 15, 17] (.fork 18 [] (.takes [19, 20] (.fork 21 [] .done .none)) .none) .none) .none) (.fork 10 [3, 4, 5, 7, 13, 14, 15, 17] (.fork 8 [13, 14, 15, 17] (.fork 11 [13, 14, 15, 17] (.fork 18 [] (.takes [19, 20] (.fork 21 [] .done .none)) .none) .none) .none) .none)) (.fork 10 [3, 4, 5, 7, 13, 14, 15, 17] (.fork 1 [3, 4, 5, 7, 13, 14, 15, 17] (.fork 8 [13, 14, 15, 17] (.fork 11 [13, 14, 15, 17] (.fork 18 [] (.takes [19, 20] (.fork 21 [] .done .none)) .none) .none) .none) .none) .none))) (by kernel_rfl) (by kernel_rfl) rfl ?_
      go_wp2_with first | (with_reducible refine wpE_takes_nil ?_) | (with_reducible refine wpE_done ?_) | (refine wpE_take rfl rfl (fun _ _ => ?_)) | (refine wpE_skip rfl rfl ?_) | (with_reducible exact agains_nil) | (refine agains_cons rfl (fun _ => ?_) ?_) | (with_reducible refine wpE_same ?_) | (refine And.intro (rfl : (_ : World) = _) ?_) | (with_reducible refine wpE_and ?_ ?_)
      refine wpE_fork rfl rfl (fun _ _ => ?_) ?_
      · go_wp2_with first | (with_reducible refine wpE_takes_nil ?_) | (with_reducible refine wpE_done ?_) | (refine wpE_take rfl rfl (fun _ _ => ?_)) | (refine wpE_skip rfl rfl ?_) | (with_reducible exact agains_nil) | (refine agains_cons rfl (fun _ => ?_) ?_) | (with_reducible refine wpE_same ?_) | (refine And.intro (rfl : (_ : World) = _) ?_) | (with_reducible refine wpE_and ?_ ?_)
        refine wpE_appendV E29 rfl rfl (.tmp 69) (.tmp 75) rfl B (.slice (some ⟨wc.heap.size, 0, none⟩) 0 0) (0) ([]) rfl (owns_made (by first | exact heap_new _ _ | (refine (heap_old _ _ _ (by simp)).trans ?_; exact heap_new _ _) | exact heap_new_at _ _ _ (by simp)) (by first | omega | (simp; omega))) _ (q) _ (zrow ((atsOf L).take q)) rfl (HHb.out _ (by repeat (first | exact Tch.refl _ _ | assumption | refine Tch.new ?_ _ | refine Tch.drew ?_))) (zrow_one _) (by unfold maxLen; omega) (by omega) (by first | omega | (simp; omega)) (q) (by omega) ?_ ?_
        · intro vab1 vcb1 wb1 rb1 tb1 sb1
          have Tb1 : Tch [] wc wb1 := Tch.fresh (by repeat (first | exact Tch.refl _ _ | assumption | refine Tch.new ?_ _ | refine Tch.drew ?_)) tb1 (by simp [Value.ownBlock])
          have Lb1 : ∀ b, (Value.slice vab1 (q) vcb1).ownBlock = some b → (wc).heap.size ≤ b := fresh_block (by repeat (first | exact Tch.refl _ _ | assumption | refine Tch.new ?_ _ | refine Tch.drew ?_)) sb1 (by simp [Value.ownBlock])
          have cb1 := (Tb1.cell R 1 hR (by simp)).trans d1
          have hRb1 := Nat.lt_of_lt_of_le hR Tb1.size
          go_wp2_with first | (with_reducible refine wpE_takes_nil ?_) | (with_reducible refine wpE_done ?_) | (refine wpE_take rfl rfl (fun _ _ => ?_)) | (refine wpE_skip rfl rfl ?_) | (with_reducible exact agains_nil) | (refine agains_cons rfl (fun _ => ?_) ?_) | (with_reducible refine wpE_same ?_) | (refine And.intro (rfl : (_ : World) = _) ?_) | (with_reducible refine wpE_and ?_ ?_)
          refine wpE_fork rfl rfl (fun _ _ => ?_) wpE_none
          go_wp2_with first | (with_reducible refine wpE_takes_nil ?_) | (with_reducible refine wpE_done ?_) | (refine wpE_take rfl rfl (fun _ _ => ?_)) | (refine wpE_skip rfl rfl ?_) | (with_reducible exact agains_nil) | (refine agains_cons rfl (fun _ => ?_) ?_) | (with_reducible refine wpE_same ?_) | (refine And.intro (rfl : (_ : World) = _) ?_) | (with_reducible refine wpE_and ?_ ?_)
          refine wpE_appendV E29 rfl rfl (.tmp 76) (.tmp 78) rfl B (.slice vab1 q vcb1) (q) ([] ++ zrow ((atsOf L).take q)) rfl (owns_new rb1 _) _ (1) _ (zrow [v]) rfl (view_one (by first | exact heap_new _ _ | exact heap_new_at _ _ _ (by simp))) (zrow_one _) (by unfold maxLen; omega) (by omega) (by first | omega | (simp; omega)) (q + 1) (by omega) ?_ wpE_none
          intro vab2 vcb2 wb2 rb2 tb2 sb2
          have Tb2 : Tch [] wc wb2 := Tch.fresh (by repeat (first | exact Tch.refl _ _ | assumption | refine Tch.new ?_ _ | refine Tch.drew ?_)) tb2 (by intro b hb; exact Lb1 b (by simpa using hb))
          have Lb2 : ∀ b, (Value.slice vab2 (q + 1) vcb2).ownBlock = some b → (wc).heap.size ≤ b := fresh_block (by repeat (first | exact Tch.refl _ _ | assumption | refine Tch.new ?_ _ | refine Tch.drew ?_)) sb2 (by intro b hb; exact Lb1 b (by simpa using hb))
          have cb2 := (Tb2.cell R 1 hR (by simp)).trans d1
          have hRb2 := Nat.lt_of_lt_of_le hR Tb2.size
          try clear cb1
          go_wp2_with first | (with_reducible refine wpE_takes_nil ?_) | (with_reducible refine wpE_done ?_) | (refine wpE_take rfl rfl (fun _ _ => ?_)) | (refine wpE_skip rfl rfl ?_) | (with_reducible exact agains_nil) | (refine agains_cons rfl (fun _ => ?_) ?_) | (with_reducible refine wpE_same ?_) | (refine And.intro (rfl : (_ : World) = _) ?_) | (with_reducible refine wpE_and ?_ ?_)
          refine wpE_appendV E29 rfl rfl (.tmp 79) (.tmp 85) rfl B (.slice vab2 (q + 1) vcb2) (q + 1) ([] ++ zrow ((atsOf L).take q) ++ zrow [v]) rfl rb2 _ (L.length - q) _ (zrow ((atsOf L).drop q)) rfl (HTb.out _ (by repeat (first | exact Tch.refl _ _ | assumption | refine Tch.new ?_ _ | refine Tch.drew ?_))) (zrow_one _) (by unfold maxLen; omega) (by omega) (by first | omega | (simp; omega)) (L.length + 1) (by omega) ?_ wpE_none
          intro vab3 vcb3 wb3 rb3 tb3 sb3
          have Tb3 : Tch [] wc wb3 := Tch.fresh (by repeat (first | exact Tch.refl _ _ | assumption | refine Tch.new ?_ _ | refine Tch.drew ?_)) tb3 (by intro b hb; exact Lb2 b (by simpa using hb))
          have Lb3 : ∀ b, (Value.slice vab3 (L.length + 1) vcb3).ownBlock = some b → (wc).heap.size ≤ b := fresh_block (by repeat (first | exact Tch.refl _ _ | assumption | refine Tch.new ?_ _ | refine Tch.drew ?_)) sb3 (by intro b hb; exact Lb2 b (by simpa using hb))
          have cb3 := (Tb3.cell R 1 hR (by simp)).trans d1
          have hRb3 := Nat.lt_of_lt_of_le hR Tb3.size
          have fb3 : wb3.frozen? ⟨R, 1, none⟩ = false := (frozen_same (Tb3.block R hR (by simp)) 1).trans (U2.frozen 1)
          clear cb2
          go_wp2_with first | (with_reducible refine wpE_takes_nil ?_) | (with_reducible refine wpE_done ?_) | (refine wpE_take rfl rfl (fun _ _ => ?_)) | (refine wpE_skip rfl rfl ?_) | (with_reducible exact agains_nil) | (refine agains_cons rfl (fun _ => ?_) ?_) | (with_reducible refine wpE_same ?_) | (refine And.intro (rfl : (_ : World) = _) ?_) | (with_reducible refine wpE_and ?_ ?_)
          refine wpE_fork rfl rfl (fun _ _ => ?_) wpE_none
          go_wp2_with first | (with_reducible refine wpE_takes_nil ?_) | (with_reducible refine wpE_done ?_) | (refine wpE_take rfl rfl (fun _ _ => ?_)) | (refine wpE_skip rfl rfl ?_) | (with_reducible exact agains_nil) | (refine agains_cons rfl (fun _ => ?_) ?_) | (with_reducible refine wpE_same ?_) | (refine And.intro (rfl : (_ : World) = _) ?_) | (with_reducible refine wpE_and ?_ ?_)
          go_wp2_with fail
          go_ret
          have e9 : (atsOf L).length = L.length := E2.out
          refine ⟨rfl, rput_fin U1 U2 U3 Tb3 rb3 U5 Lb3 hR0 (L.length + 1) _ _ (by omega) (by omega) rfl (by simp [zrow])⟩
        · go_wp2_with first | (with_reducible refine wpE_takes_nil ?_) | (with_reducible refine wpE_done ?_) | (refine wpE_take rfl rfl (fun _ _ => ?_)) | (refine wpE_skip rfl rfl ?_) | (with_reducible exact agains_nil) | (refine agains_cons rfl (fun _ => ?_) ?_) | (with_reducible refine wpE_same ?_) | (refine And.intro (rfl : (_ : World) = _) ?_) | (with_reducible refine wpE_and ?_ ?_)
          refine wpE_fork rfl rfl (fun _ _ => ?_) wpE_none
          go_wp2_with first | (with_reducible refine wpE_takes_nil ?_) | (with_reducible refine wpE_done ?_) | (refine wpE_take rfl rfl (fun _ _ => ?_)) | (refine wpE_skip rfl rfl ?_) | (with_reducible exact agains_nil) | (refine agains_cons rfl (fun _ => ?_) ?_) | (with_reducible refine wpE_same ?_) | (refine And.intro (rfl : (_ : World) = _) ?_) | (with_reducible refine wpE_and ?_ ?_)
          refine wpE_appendV E29 rfl rfl (.tmp 69) (.tmp 75) rfl B (.slice (some ⟨wc.heap.size, 0, none⟩) 0 0) (0) ([]) rfl (owns_made (by first | exact heap_new _ _ | (refine (heap_old _ _ _ (by simp)).trans ?_; exact heap_new _ _) | exact heap_new_at _ _ _ (by simp)) (by first | omega | (simp; omega))) _ (q) _ (zrow ((atsOf L).take q)) rfl (HHb.out _ (by repeat (first | exact Tch.refl _ _ | assumption | refine Tch.new ?_ _ | refine Tch.drew ?_))) (zrow_one _) (by unfold maxLen; omega) (by omega) (by first | omega | (simp; omega)) (q) (by omega) ?_ wpE_none
          intro vab1 vcb1 wb1 rb1 tb1 sb1
          have Tb1 : Tch [] wc wb1 := Tch.fresh (by repeat (first | exact Tch.refl _ _ | assumption | refine Tch.new ?_ _ | refine Tch.drew ?_)) tb1 (by simp [Value.ownBlock])
          have Lb1 : ∀ b, (Value.slice vab1 (q) vcb1).ownBlock = some b → (wc).heap.size ≤ b := fresh_block (by repeat (first | exact Tch.refl _ _ | assumption | refine Tch.new ?_ _ | refine Tch.drew ?_)) sb1 (by simp [Value.ownBlock])
          have cb1 := (Tb1.cell R 1 hR (by simp)).trans d1
          have hRb1 := Nat.lt_of_lt_of_le hR Tb1.size
          go_wp2_with first | (with_reducible refine wpE_takes_nil ?_) | (with_reducible refine wpE_done ?_) | (refine wpE_take rfl rfl (fun _ _ => ?_)) | (refine wpE_skip rfl rfl ?_) | (with_reducible exact agains_nil) | (refine agains_cons rfl (fun _ => ?_) ?_) | (with_reducible refine wpE_same ?_) | (refine And.intro (rfl : (_ : World) = _) ?_) | (with_reducible refine wpE_and ?_ ?_)
          refine wpE_appendV E29 rfl rfl (.tmp 76) (.tmp 78) rfl B (.slice vab1 q vcb1) (q) ([] ++ zrow ((atsOf L).take q)) rfl rb1 _ (1) _ (zrow [v]) rfl (view_one ((tb1.block _ (by first | (simp; done) | (simp; omega)) (by simp [Value.ownBlock])).trans (heap_new_at _ _ _ (by simp)))) (zrow_one _) (by unfold maxLen; omega) (by omega) (by first | omega | (simp; omega)) (q + 1) (by omega) ?_ wpE_none
          intro vab2 vcb2 wb2 rb2 tb2 sb2
          have Tb2 : Tch [] wc wb2 := Tch.fresh (by repeat (first | exact Tch.refl _ _ | assumption | refine Tch.new ?_ _ | refine Tch.drew ?_)) tb2 (by intro b hb; exact Lb1 b (by simpa using hb))
          have Lb2 : ∀ b, (Value.slice vab2 (q + 1) vcb2).ownBlock = some b → (wc).heap.size ≤ b := fresh_block (by repeat (first | exact Tch.refl _ _ | assumption | refine Tch.new ?_ _ | refine Tch.drew ?_)) sb2 (by intro b hb; exact Lb1 b (by simpa using hb))
          have cb2 := (Tb2.cell R 1 hR (by simp)).trans d1
          have hRb2 := Nat.lt_of_lt_of_le hR Tb2.size
          try clear cb1
          go_wp2_with first | (with_reducible refine wpE_takes_nil ?_) | (with_reducible refine wpE_done ?_) | (refine wpE_take rfl rfl (fun _ _ => ?_)) | (refine wpE_skip rfl rfl ?_) | (with_reducible exact agains_nil) | (refine agains_cons rfl (fun _ => ?_) ?_) | (with_reducible refine wpE_same ?_) | (refine And.intro (rfl : (_ : World) = _) ?_) | (with_reducible refine wpE_and ?_ ?_)
          refine wpE_appendV E29 rfl rfl (.tmp 79) (.tmp 85) rfl B (.slice vab2 (q + 1) vcb2) (q + 1) ([] ++ zrow ((atsOf L).take q) ++ zrow [v]) rfl rb2 _ (L.length - q) _ (zrow ((atsOf L).drop q)) rfl (HTb.out _ (by repeat (first | exact Tch.refl _ _ | assumption | refine Tch.new ?_ _ | refine Tch.drew ?_))) (zrow_one _) (by unfold maxLen; omega) (by omega) (by first | omega | (simp; omega)) (L.length + 1) (by omega) ?_ wpE_none
          intro vab3 vcb3 wb3 rb3 tb3 sb3
          have Tb3 : Tch [] wc wb3 := Tch.fresh (by repeat (first | exact Tch.refl _ _ | assumption | refine Tch.new ?_ _ | refine Tch.drew ?_)) tb3 (by intro b hb; exact Lb2 b (by simpa using hb))
          have Lb3 : ∀ b, (Value.slice vab3 (L.length + 1) vcb3).ownBlock = some b → (wc).heap.size ≤ b := fresh_block (by repeat (first | exact Tch.refl _ _ | assumption | refine Tch.new ?_ _ | refine Tch.drew ?_)) sb3 (by intro b hb; exact Lb2 b (by simpa using hb))
          have cb3 := (Tb3.cell R 1 hR (by simp)).trans d1
          have hRb3 := Nat.lt_of_lt_of_le hR Tb3.size
          have fb3 : wb3.frozen? ⟨R, 1, none⟩ = false := (frozen_same (Tb3.block R hR (by simp)) 1).trans (U2.frozen 1)
          clear cb2
          go_wp2_with first | (with_reducible refine wpE_takes_nil ?_) | (with_reducible refine wpE_done ?_) | (refine wpE_take rfl rfl (fun _ _ => ?_)) | (refine wpE_skip rfl rfl ?_) | (with_reducible exact agains_nil) | (refine agains_cons rfl (fun _ => ?_) ?_) | (with_reducible refine wpE_same ?_) | (refine And.intro (rfl : (_ : World) = _) ?_) | (with_reducible refine wpE_and ?_ ?_)
          refine wpE_fork rfl rfl (fun _ _ => ?_) wpE_none
          go_wp2_with first | (with_reducible refine wpE_takes_nil ?_) | (with_reducible refine wpE_done ?_) | (refine wpE_take rfl rfl (fun _ _ => ?_)) | (refine wpE_skip rfl rfl ?_) | (with_reducible exact agains_nil) | (refine agains_cons rfl (fun _ => ?_) ?_) | (with_reducible refine wpE_same ?_) | (refine And.intro (rfl : (_ : World) = _) ?_) | (with_reducible refine wpE_and ?_ ?_)
          go_wp2_with fail
          go_ret
          have e9 : (atsOf L).length = L.length := E2.out
          refine ⟨rfl, rput_fin U1 U2 U3 Tb3 rb3 U5 Lb3 hR0 (L.length + 1) _ _ (by omega) (by omega) rfl (by simp [zrow])⟩
      · go_wp2_with first | (with_reducible refine wpE_takes_nil ?_) | (with_reducible refine wpE_done ?_) | (refine wpE_take rfl rfl (fun _ _ => ?_)) | (refine wpE_skip rfl rfl ?_) | (with_reducible exact agains_nil) | (refine agains_cons rfl (fun _ => ?_) ?_) | (with_reducible refine wpE_same ?_) | (refine And.intro (rfl : (_ : World) = _) ?_) | (with_reducible refine wpE_and ?_ ?_)
        refine wpE_fork rfl rfl (fun _ _ => ?_) wpE_none
        go_wp2_with first | (with_reducible refine wpE_takes_nil ?_) | (with_reducible refine wpE_done ?_) | (refine wpE_take rfl rfl (fun _ _ => ?_)) | (refine wpE_skip rfl rfl ?_) | (with_reducible exact agains_nil) | (refine agains_cons rfl (fun _ => ?_) ?_) | (with_reducible refine wpE_same ?_) | (refine And.intro (rfl : (_ : World) = _) ?_) | (with_reducible refine wpE_and ?_ ?_)
        refine wpE_fork rfl rfl (fun _ _ => ?_) wpE_none
        go_wp2_with first | (with_reducible refine wpE_takes_nil ?_) | (with_reducible refine wpE_done ?_) | (refine wpE_take rfl rfl (fun _ _ => ?_)) | (refine wpE_skip rfl rfl ?_) | (with_reducible exact agains_nil) | (refine agains_cons rfl (fun _ => ?_) ?_) | (with_reducible refine wpE_same ?_) | (refine And.intro (rfl : (_ : World) = _) ?_) | (with_reducible refine wpE_and ?_ ?_)
        refine wpE_appendV E29 rfl rfl (.tmp 69) (.tmp 75) rfl B (.slice (some ⟨(wc.heap.size + 1), 0, none⟩) 0 0) (0) ([]) rfl (owns_made (by first | exact heap_new _ _ | (refine (heap_old _ _ _ (by simp)).trans ?_; exact heap_new _ _) | exact heap_new_at _ _ _ (by simp)) (by first | omega | (simp; omega))) _ (q) _ (zrow ((atsOf L).take q)) rfl (HHb.out _ (by repeat (first | exact Tch.refl _ _ | assumption | refine Tch.new ?_ _ | refine Tch.drew ?_))) (zrow_one _) (by unfold maxLen; omega) (by omega) (by first | omega | (simp; omega)) (q) (by omega) ?_ wpE_none
        intro vab1 vcb1 wb1 rb1 tb1 sb1
        have Tb1 : Tch [] wc wb1 := Tch.fresh (by repeat (first | exact Tch.refl _ _ | assumption | refine Tch.new ?_ _ | refine Tch.drew ?_)) tb1 (by simp [Value.ownBlock])
        have Lb1 : ∀ b, (Value.slice vab1 (q) vcb1).ownBlock = some b → (wc).heap.size ≤ b := fresh_block (by repeat (first | exact Tch.refl _ _ | assumption | refine Tch.new ?_ _ | refine Tch.drew ?_)) sb1 (by simp [Value.ownBlock])
        have cb1 := (Tb1.cell R 1 hR (by simp)).trans d1
        have hRb1 := Nat.lt_of_lt_of_le hR Tb1.size
        go_wp2_with first | (with_reducible refine wpE_takes_nil ?_) | (with_reducible refine wpE_done ?_) | (refine wpE_take rfl rfl (fun _ _ => ?_)) | (refine wpE_skip rfl rfl ?_) | (with_reducible exact agains_nil) | (refine agains_cons rfl (fun _ => ?_) ?_) | (with_reducible refine wpE_same ?_) | (refine And.intro (rfl : (_ : World) = _) ?_) | (with_reducible refine wpE_and ?_ ?_)
        refine wpE_appendV E29 rfl rfl (.tmp 76) (.tmp 78) rfl B (.slice vab1 q vcb1) (q) ([] ++ zrow ((atsOf L).take q)) rfl rb1 _ (1) _ (zrow [v]) rfl (view_one ((tb1.block _ (by first | (simp; done) | (simp; omega)) (by simp [Value.ownBlock])).trans ((heap_old _ _ _ (by first | (simp; done) | (simp; omega))).trans (heap_new _ _)))) (zrow_one _) (by unfold maxLen; omega) (by omega) (by first | omega | (simp; omega)) (q + 1) (by omega) ?_ wpE_none
        intro vab2 vcb2 wb2 rb2 tb2 sb2
        have Tb2 : Tch [] wc wb2 := Tch.fresh (by repeat (first | exact Tch.refl _ _ | assumption | refine Tch.new ?_ _ | refine Tch.drew ?_)) tb2 (by intro b hb; exact Lb1 b (by simpa using hb))
        have Lb2 : ∀ b, (Value.slice vab2 (q + 1) vcb2).ownBlock = some b → (wc).heap.size ≤ b := fresh_block (by repeat (first | exact Tch.refl _ _ | assumption | refine Tch.new ?_ _ | refine Tch.drew ?_)) sb2 (by intro b hb; exact Lb1 b (by simpa using hb))
        have cb2 := (Tb2.cell R 1 hR (by simp)).trans d1
        have hRb2 := Nat.lt_of_lt_of_le hR Tb2.size
        try clear cb1
        go_wp2_with first | (with_reducible refine wpE_takes_nil ?_) | (with_reducible refine wpE_done ?_) | (refine wpE_take rfl rfl (fun _ _ => ?_)) | (refine wpE_skip rfl rfl ?_) | (with_reducible exact agains_nil) | (refine agains_cons rfl (fun _ => ?_) ?_) | (with_reducible refine wpE_same ?_) | (refine And.intro (rfl : (_ : World) = _) ?_) | (with_reducible refine wpE_and ?_ ?_)
        refine wpE_appendV E29 rfl rfl (.tmp 79) (.tmp 85) rfl B (.slice vab2 (q + 1) vcb2) (q + 1) ([] ++ zrow ((atsOf L).take q) ++ zrow [v]) rfl rb2 _ (L.length - q) _ (zrow ((atsOf L).drop q)) rfl (HTb.out _ (by repeat (first | exact Tch.refl _ _ | assumption | refine Tch.new ?_ _ | refine Tch.drew ?_))) (zrow_one _) (by unfold maxLen; omega) (by omega) (by first | omega | (simp; omega)) (L.length + 1) (by omega) ?_ wpE_none
        intro vab3 vcb3 wb3 rb3 tb3 sb3
        have Tb3 : Tch [] wc wb3 := Tch.fresh (by repeat (first | exact Tch.refl _ _ | assumption | refine Tch.new ?_ _ | refine Tch.drew ?_)) tb3 (by intro b hb; exact Lb2 b (by simpa using hb))
        have Lb3 : ∀ b, (Value.slice vab3 (L.length + 1) vcb3).ownBlock = some b → (wc).heap.size ≤ b := fresh_block (by repeat (first | exact Tch.refl _ _ | assumption | refine Tch.new ?_ _ | refine Tch.drew ?_)) sb3 (by intro b hb; exact Lb2 b (by simpa using hb))
        have cb3 := (Tb3.cell R 1 hR (by simp)).trans d1
        have hRb3 := Nat.lt_of_lt_of_le hR Tb3.size
        have fb3 : wb3.frozen? ⟨R, 1, none⟩ = false := (frozen_same (Tb3.block R hR (by simp)) 1).trans (U2.frozen 1)
        clear cb2
        go_wp2_with first | (with_reducible refine wpE_takes_nil ?_) | (with_reducible refine wpE_done ?_) | (refine wpE_take rfl rfl (fun _ _ => ?_)) | (refine wpE_skip rfl rfl ?_) | (with_reducible exact agains_nil) | (refine agains_cons rfl (fun _ => ?_) ?_) | (with_reducible refine wpE_same ?_) | (refine And.intro (rfl : (_ : World) = _) ?_) | (with_reducible refine wpE_and ?_ ?_)
        refine wpE_fork rfl rfl (fun _ _ => ?_) wpE_none
        go_wp2_with first | (with_reducible refine wpE_takes_nil ?_) | (with_reducible refine wpE_done ?_) | (refine wpE_take rfl rfl (fun _ _ => ?_)) | (refine wpE_skip rfl rfl ?_) | (with_reducible exact agains_nil) | (refine agains_cons rfl (fun _ => ?_) ?_) | (with_reducible refine wpE_same ?_) | (refine And.intro (rfl : (_ : World) = _) ?_) | (with_reducible refine wpE_and ?_ ?_)
        go_wp2_with fail
        go_ret
        have e9 : (atsOf L).length = L.length := E2.out
        refine ⟨rfl, rput_fin U1 U2 U3 Tb3 rb3 U5 Lb3 hR0 (L.length + 1) _ _ (by omega) (by omega) rfl (by simp [zrow])⟩
end Go.Proofs.Ytgnjjomfffmcaaa
