/- The walks of the document's Put and Drop, joined. No condition of its own. -/
import Derived.Test.YtgnjjomfffmcaaaRefPut
namespace Go.Proofs.Ytgnjjomfffmcaaa
open Go.RowKit Go.Lib

set_option maxHeartbeats 4000000 in
theorem rdrop_do (w : World) (B R q : Nat) (ai aa : Option Addr) (ci ca : Nat) (L : List (Nat × Int)) (h : RT w B R (.slice ai L.length ci) (.slice aa L.length ca) L) (id v0 : Int) (hq : q < L.length)
    (HG : Calls Try.prog 17 #[.pointer (some ⟨R, 0, none⟩), .int .i64 id] w fun e w' => e = .returned (.tuple #[.int .i64 v0, .bool true]) ∧ w = w')
    (HP : Calls Try.prog 24 #[.pointer (some ⟨R, 0, none⟩), .int .i64 id] w fun e w' => e = .returned (.int .i64 q) ∧ w = w') :
    Calls Try.prog 16 #[.pointer (some ⟨R, 0, none⟩), .int .i64 id] w fun e w' => e = .returned (.bool true) ∧ Tch [R] w w' ∧ ∃ vi' va', Blk w' R 53 2 (rcell vi' va') ∧ w'.ownsRow B 3 1 vi' (L.length - 1) (zrow ((idsOf L).take q ++ (idsOf L).drop (q + 1))) ∧ w'.ownsRow B 3 1 va' (L.length - 1) (zrow ((atsOf L).take q ++ (atsOf L).drop (q + 1))) ∧
      (∀ b, vi'.ownBlock = some b → w.heap.size ≤ b) ∧ (∀ b, va'.ownBlock = some b → w.heap.size ≤ b) := by
  have HP := Lib.hid HP
  have HG := Lib.hid HG
  have c0 : w.cell? ⟨R, 0, none⟩ = some (.slice ai L.length ci) := h.r.cell 0 (by omega)
  have c1 : w.cell? ⟨R, 1, none⟩ = some (.slice aa L.length ca) := h.r.cell 1 (by omega)
  have hR := h.r.lt
  have hB := h.lo
  have hfew := h.few
  have HH := Lib.hid h
  have hcap := owns_caps h.i
  have hcap2 := owns_caps h.a
  unfold maxLen at hcap hcap2
  have e1 : (idsOf L).length = L.length := by simp [idsOf]
  have e2 : (atsOf L).length = L.length := by simp [atsOf]
  obtain ⟨A1, hs1, v1⟩ := part_head (l := idsOf L) (by rw [e1]; exact h.i) q (by omega) q rfl
  obtain ⟨A2, hs2, v2⟩ := part_tail (l := idsOf L) (by rw [e1]; exact h.i) (q + 1) (by omega) ((q : Int) + 1) (by omega)
  rw [e1] at hs1 hs2 v2
  have HHa := Lib.hid v1
  have HTa := Lib.hid v2
  clear v1 v2 h
  have E1 := Lib.hid e1
  have E2 := Lib.hid e2
  clear e1 e2
  go_enter Try.func16, Try.ntmps16
  go_wp2_with fail
  go_at_call 17
  refine HG.out.mono ?_
  rintro e w1 ⟨rfl, rfl⟩
  go_wp2_with fail
  go_at_call 24
  refine HP.out.mono ?_
  rintro e w1 ⟨rfl, rfl⟩
  clear HP HG
  go_wp2_with fail
  refine region_any (.takes [0, 2, 3, 4, 5, 6, 7, 9, 10, 11, 12, 13, 14, 15] (.fork 1 [3, 4, 5, 7, 10, 11, 12, 14, 15] (.fork 8 [10, 11, 12, 14, 15] (.fork 16 [] (.takes [17, 18] (.fork 19 [] .done .none)) .none) .none) .none)) (by kernel_rfl) (by kernel_rfl) rfl ?_
  (go_wp2_with first | (with_reducible refine wpE_takes_nil ?_) | (with_reducible refine wpE_done ?_) | (refine wpE_take rfl rfl (fun _ _ => ?_)) | (refine wpE_skip rfl rfl ?_) | (with_reducible exact agains_nil) | (refine agains_cons rfl (fun _ => ?_) ?_) | (with_reducible refine wpE_same ?_) | (refine And.intro (rfl : (_ : World) = _) ?_) | (with_reducible refine wpE_and ?_ ?_)) <;> (try (with_reducible exact True.intro))
  refine wpE_fork rfl rfl (fun _ _ => ?_) wpE_none
  (go_wp2_with first | (with_reducible refine wpE_takes_nil ?_) | (with_reducible refine wpE_done ?_) | (refine wpE_take rfl rfl (fun _ _ => ?_)) | (refine wpE_skip rfl rfl ?_) | (with_reducible exact agains_nil) | (refine agains_cons rfl (fun _ => ?_) ?_) | (with_reducible refine wpE_same ?_) | (refine And.intro (rfl : (_ : World) = _) ?_) | (with_reducible refine wpE_and ?_ ?_)) <;> (try (with_reducible exact True.intro))
  refine wpE_appendV E29 rfl rfl (.tmp 20) (.tmp 26) rfl B (.slice (some ⟨w.heap.size, 0, none⟩) 0 0) (0) ([]) rfl (owns_made (by first | exact heap_new _ _ | (refine (heap_old _ _ _ (by simp)).trans ?_; exact heap_new _ _) | exact heap_new_at _ _ _ (by simp)) (by first | omega | (simp; omega))) _ (q) _ (zrow ((idsOf L).take q)) rfl (HHa.out _ (by repeat (first | exact Tch.refl _ _ | assumption | refine Tch.new ?_ _ | refine Tch.drew ?_))) (zrow_one _) (by unfold maxLen; omega) (by omega) (by first | omega | (simp; omega)) (q) (by omega) ?_ wpE_none
  intro vaa1 vca1 wa1 ra1 ta1 sa1
  have Ta1 : Tch [] w wa1 := Tch.fresh (by repeat (first | exact Tch.refl _ _ | assumption | refine Tch.new ?_ _ | refine Tch.drew ?_)) ta1 (by simp [Value.ownBlock])
  have La1 : ∀ b, (Value.slice vaa1 (q) vca1).ownBlock = some b → (w).heap.size ≤ b := fresh_block (by repeat (first | exact Tch.refl _ _ | assumption | refine Tch.new ?_ _ | refine Tch.drew ?_)) sa1 (by simp [Value.ownBlock])
  have ca1 := (Ta1.cell R 0 hR (by simp)).trans c0
  have hRa1 := Nat.lt_of_lt_of_le hR Ta1.size
  (go_wp2_with first | (with_reducible refine wpE_takes_nil ?_) | (with_reducible refine wpE_done ?_) | (refine wpE_take rfl rfl (fun _ _ => ?_)) | (refine wpE_skip rfl rfl ?_) | (with_reducible exact agains_nil) | (refine agains_cons rfl (fun _ => ?_) ?_) | (with_reducible refine wpE_same ?_) | (refine And.intro (rfl : (_ : World) = _) ?_) | (with_reducible refine wpE_and ?_ ?_)) <;> (try (with_reducible exact True.intro))
  refine wpE_appendV E29 rfl rfl (.tmp 27) (.tmp 34) rfl B (.slice vaa1 q vca1) (q) ([] ++ zrow ((idsOf L).take q)) rfl ra1 _ (L.length - (q + 1)) _ (zrow ((idsOf L).drop (q + 1))) rfl (HTa.out _ (by repeat (first | exact Tch.refl _ _ | assumption | refine Tch.new ?_ _ | refine Tch.drew ?_))) (zrow_one _) (by unfold maxLen; omega) (by omega) (by first | omega | (simp; omega)) (L.length - 1) (by omega) ?_ wpE_none
  intro vaa3 vca3 wa3 ra3 ta3 sa3
  have Ta3 : Tch [] w wa3 := Tch.fresh (by repeat (first | exact Tch.refl _ _ | assumption | refine Tch.new ?_ _ | refine Tch.drew ?_)) ta3 (by intro b hb; exact La1 b (by simpa using hb))
  have La3 : ∀ b, (Value.slice vaa3 (L.length - 1) vca3).ownBlock = some b → (w).heap.size ≤ b := fresh_block (by repeat (first | exact Tch.refl _ _ | assumption | refine Tch.new ?_ _ | refine Tch.drew ?_)) sa3 (by intro b hb; exact La1 b (by simpa using hb))
  have ca3 := (Ta3.cell R 0 hR (by simp)).trans c0
  have hRa3 := Nat.lt_of_lt_of_le hR Ta3.size
  have fa3 : wa3.frozen? ⟨R, 0, none⟩ = false := (frozen_same (Ta3.block R hR (by simp)) 0).trans (HH.out.r.frozen 0)
  clear ca1
  (go_wp2_with first | (with_reducible refine wpE_takes_nil ?_) | (with_reducible refine wpE_done ?_) | (refine wpE_take rfl rfl (fun _ _ => ?_)) | (refine wpE_skip rfl rfl ?_) | (with_reducible exact agains_nil) | (refine agains_cons rfl (fun _ => ?_) ?_) | (with_reducible refine wpE_same ?_) | (refine And.intro (rfl : (_ : World) = _) ?_) | (with_reducible refine wpE_and ?_ ?_)) <;> (try (with_reducible exact True.intro))
  refine wpE_fork rfl rfl (fun _ _ => ?_) wpE_none
  (go_wp2_with first | (with_reducible refine wpE_takes_nil ?_) | (with_reducible refine wpE_done ?_) | (refine wpE_take rfl rfl (fun _ _ => ?_)) | (refine wpE_skip rfl rfl ?_) | (with_reducible exact agains_nil) | (refine agains_cons rfl (fun _ => ?_) ?_) | (with_reducible refine wpE_same ?_) | (refine And.intro (rfl : (_ : World) = _) ?_) | (with_reducible refine wpE_and ?_ ?_)) <;> (try (with_reducible exact True.intro))
  have e8 : (idsOf L).length = L.length := E1.out
  obtain ⟨U1, U2, U3, U4⟩ := rput_mid HH.out Ta3 _ _ _ ra3 La3
  clear ca3 hs1 hs2
  generalize wa3.setCell ⟨R, 0, none⟩ _ = w6 at U1 U2 U3 U4 ⊢
  have hlow := U1.size
  have d1 : w6.cell? ⟨R, 1, none⟩ = some (.slice aa L.length ca) := U2.cell 1 (by omega)
  have hR0 := hR
  have hR := U2.lt
  have e2 : (atsOf L).length = L.length := E2.out
  obtain ⟨A3, hs3, v3⟩ := part_head (l := atsOf L) (by rw [e2]; exact U4) q (by omega) q rfl
  obtain ⟨A4, hs4, v4⟩ := part_tail (l := atsOf L) (by rw [e2]; exact U4) (q + 1) (by omega) ((q : Int) + 1) (by omega)
  rw [e2] at hs3 hs4 v4
  have HHb := Lib.hid v3
  have HTb := Lib.hid v4
  clear v3 v4 e2 c0 c1 e8
  go_wp2_with fail
  refine region_any (.takes [0, 2, 3, 4, 5, 6, 7, 9, 10, 11, 12, 13, 14, 15] (.fork 1 [3, 4, 5, 7, 10, 11, 12, 14, 15] (.fork 8 [10, 11, 12, 14, 15] (.fork 16 [] (.takes [17, 18] (.fork 19 [] .done .none)) .none) .none) .none)) (by kernel_rfl) (by kernel_rfl) rfl ?_
  (go_wp2_with first | (with_reducible refine wpE_takes_nil ?_) | (with_reducible refine wpE_done ?_) | (refine wpE_take rfl rfl (fun _ _ => ?_)) | (refine wpE_skip rfl rfl ?_) | (with_reducible exact agains_nil) | (refine agains_cons rfl (fun _ => ?_) ?_) | (with_reducible refine wpE_same ?_) | (refine And.intro (rfl : (_ : World) = _) ?_) | (with_reducible refine wpE_and ?_ ?_)) <;> (try (with_reducible exact True.intro))
  refine wpE_fork rfl rfl (fun _ _ => ?_) wpE_none
  (go_wp2_with first | (with_reducible refine wpE_takes_nil ?_) | (with_reducible refine wpE_done ?_) | (refine wpE_take rfl rfl (fun _ _ => ?_)) | (refine wpE_skip rfl rfl ?_) | (with_reducible exact agains_nil) | (refine agains_cons rfl (fun _ => ?_) ?_) | (with_reducible refine wpE_same ?_) | (refine And.intro (rfl : (_ : World) = _) ?_) | (with_reducible refine wpE_and ?_ ?_)) <;> (try (with_reducible exact True.intro))
  refine wpE_appendV E29 rfl rfl (.tmp 39) (.tmp 45) rfl B (.slice (some ⟨w6.heap.size, 0, none⟩) 0 0) (0) ([]) rfl (owns_made (by first | exact heap_new _ _ | (refine (heap_old _ _ _ (by simp)).trans ?_; exact heap_new _ _) | exact heap_new_at _ _ _ (by simp)) (by first | omega | (simp; omega))) _ (q) _ (zrow ((atsOf L).take q)) rfl (HHb.out _ (by repeat (first | exact Tch.refl _ _ | assumption | refine Tch.new ?_ _ | refine Tch.drew ?_))) (zrow_one _) (by unfold maxLen; omega) (by omega) (by first | omega | (simp; omega)) (q) (by omega) ?_ wpE_none
  intro vab1 vcb1 wb1 rb1 tb1 sb1
  have Tb1 : Tch [] w6 wb1 := Tch.fresh (by repeat (first | exact Tch.refl _ _ | assumption | refine Tch.new ?_ _ | refine Tch.drew ?_)) tb1 (by simp [Value.ownBlock])
  have Lb1 : ∀ b, (Value.slice vab1 (q) vcb1).ownBlock = some b → (w6).heap.size ≤ b := fresh_block (by repeat (first | exact Tch.refl _ _ | assumption | refine Tch.new ?_ _ | refine Tch.drew ?_)) sb1 (by simp [Value.ownBlock])
  have cb1 := (Tb1.cell R 1 hR (by simp)).trans d1
  have hRb1 := Nat.lt_of_lt_of_le hR Tb1.size
  (go_wp2_with first | (with_reducible refine wpE_takes_nil ?_) | (with_reducible refine wpE_done ?_) | (refine wpE_take rfl rfl (fun _ _ => ?_)) | (refine wpE_skip rfl rfl ?_) | (with_reducible exact agains_nil) | (refine agains_cons rfl (fun _ => ?_) ?_) | (with_reducible refine wpE_same ?_) | (refine And.intro (rfl : (_ : World) = _) ?_) | (with_reducible refine wpE_and ?_ ?_)) <;> (try (with_reducible exact True.intro))
  refine wpE_appendV E29 rfl rfl (.tmp 46) (.tmp 53) rfl B (.slice vab1 q vcb1) (q) ([] ++ zrow ((atsOf L).take q)) rfl rb1 _ (L.length - (q + 1)) _ (zrow ((atsOf L).drop (q + 1))) rfl (HTb.out _ (by repeat (first | exact Tch.refl _ _ | assumption | refine Tch.new ?_ _ | refine Tch.drew ?_))) (zrow_one _) (by unfold maxLen; omega) (by omega) (by first | omega | (simp; omega)) (L.length - 1) (by omega) ?_ wpE_none
  intro vab3 vcb3 wb3 rb3 tb3 sb3
  have Tb3 : Tch [] w6 wb3 := Tch.fresh (by repeat (first | exact Tch.refl _ _ | assumption | refine Tch.new ?_ _ | refine Tch.drew ?_)) tb3 (by intro b hb; exact Lb1 b (by simpa using hb))
  have Lb3 : ∀ b, (Value.slice vab3 (L.length - 1) vcb3).ownBlock = some b → (w6).heap.size ≤ b := fresh_block (by repeat (first | exact Tch.refl _ _ | assumption | refine Tch.new ?_ _ | refine Tch.drew ?_)) sb3 (by intro b hb; exact Lb1 b (by simpa using hb))
  have cb3 := (Tb3.cell R 1 hR (by simp)).trans d1
  have hRb3 := Nat.lt_of_lt_of_le hR Tb3.size
  have fb3 : wb3.frozen? ⟨R, 1, none⟩ = false := (frozen_same (Tb3.block R hR (by simp)) 1).trans (U2.frozen 1)
  clear cb1
  (go_wp2_with first | (with_reducible refine wpE_takes_nil ?_) | (with_reducible refine wpE_done ?_) | (refine wpE_take rfl rfl (fun _ _ => ?_)) | (refine wpE_skip rfl rfl ?_) | (with_reducible exact agains_nil) | (refine agains_cons rfl (fun _ => ?_) ?_) | (with_reducible refine wpE_same ?_) | (refine And.intro (rfl : (_ : World) = _) ?_) | (with_reducible refine wpE_and ?_ ?_)) <;> (try (with_reducible exact True.intro))
  refine wpE_fork rfl rfl (fun _ _ => ?_) wpE_none
  (go_wp2_with first | (with_reducible refine wpE_takes_nil ?_) | (with_reducible refine wpE_done ?_) | (refine wpE_take rfl rfl (fun _ _ => ?_)) | (refine wpE_skip rfl rfl ?_) | (with_reducible exact agains_nil) | (refine agains_cons rfl (fun _ => ?_) ?_) | (with_reducible refine wpE_same ?_) | (refine And.intro (rfl : (_ : World) = _) ?_) | (with_reducible refine wpE_and ?_ ?_)) <;> (try (with_reducible exact True.intro))
  go_ret
  exact ⟨rfl, rput_fin U1 U2 U3 Tb3 rb3 La3 Lb3 hR0 (L.length - 1) _ _ rfl rfl (by simp [zrow]) (by simp [zrow])⟩

theorem rput_no (w : World) (B R : Nat) (vi va : Value) (L : List (Nat × Int)) (h : RT w B R vi va L) (id v : Int) (hb : id < 0 ∨ 2147483647 < id) :
    Calls Try.prog 15 #[.pointer (some ⟨R, 0, none⟩), .int .i64 id, .int .i64 v] w fun e w' => e = .returned (.bool false) ∧ w = w' := by
  rcases hb with hb | hb
  · have hd : decide (id < 0) = true := decide_eq_true_iff.2 hb
    go_enter Try.func15, Try.ntmps15
    go_wp2
    go_ret
    exact ⟨rfl, rfl⟩
  · have hd : decide (id < 0) = false := decide_eq_false_iff_not.2 (by omega)
    have hd2 : decide (2147483647 < id) = true := decide_eq_true_iff.2 hb
    go_enter Try.func15, Try.ntmps15
    go_wp2
    go_ret
    exact ⟨rfl, rfl⟩
theorem rput_there (w : World) (B R q : Nat) (ai aa : Option Addr) (ci ca : Nat) (L : List (Nat × Int)) (h : RT w B R (.slice ai L.length ci) (.slice aa L.length ca) L) (id v : Int) (h0 : 0 ≤ id) (h1 : id ≤ 2147483647) (hq : q < L.length) (he : (L[q].1 : Int) = id)
    (HP : Calls Try.prog 24 #[.pointer (some ⟨R, 0, none⟩), .int .i64 id] w fun e w' => e = .returned (.int .i64 q) ∧ w = w') :
    Calls Try.prog 15 #[.pointer (some ⟨R, 0, none⟩), .int .i64 id, .int .i64 v] w fun e w' => e = .returned (.bool false) ∧ w = w' := by
  have HP := Lib.hid HP
  have c0 : w.cell? ⟨R, 0, none⟩ = some (.slice ai L.length ci) := h.r.cell 0 (by omega)
  have hR := h.r.lt
  have hfew := h.few
  obtain ⟨g, rfl, hg, cq⟩ := h.id_at q hq
  rw [he] at cq
  clear h he
  go_enter Try.func15, Try.ntmps15
  go_wp2_with fail
  go_at_call 24
  refine HP.out.mono ?_
  rintro e w1 ⟨rfl, rfl⟩
  go_wp2_with fail
  go_ret
  exact ⟨rfl, rfl⟩
theorem rdrop_no (w : World) (B R : Nat) (vi va : Value) (L : List (Nat × Int)) (h : RT w B R vi va L) (id v0 : Int)
    (HG : Calls Try.prog 17 #[.pointer (some ⟨R, 0, none⟩), .int .i64 id] w fun e w' => e = .returned (.tuple #[.int .i64 v0, .bool false]) ∧ w = w') :
    Calls Try.prog 16 #[.pointer (some ⟨R, 0, none⟩), .int .i64 id] w fun e w' => e = .returned (.bool false) ∧ w = w' := by
  have HG := Lib.hid HG
  clear h
  go_enter Try.func16, Try.ntmps16
  go_wp2_with fail
  go_at_call 17
  refine HG.out.mono ?_
  rintro e w1 ⟨rfl, rfl⟩
  go_wp2_with fail
  go_ret
  exact ⟨rfl, rfl⟩
/-- Where the place is, is one number. -/
theorem placed_one {w : World} {R : Nat} {L : List (Nat × Int)} {id : Int} {q : Nat} (hp : Pl L id q) (h : Calls Try.prog 24 #[.pointer (some ⟨R, 0, none⟩), .int .i64 id] w (Placed w L id)) :
    Calls Try.prog 24 #[.pointer (some ⟨R, 0, none⟩), .int .i64 id] w fun e w' => e = .returned (.int .i64 q) ∧ w = w' := by
  refine h.mono ?_
  rintro e w' ⟨q', hp', rfl, rfl⟩
  have : q' = q := by
    rcases Nat.lt_trichotomy q q' with g | g | g
    · have h1 := hp'.le
      have := hp'.lo q (by omega) g
      have := hp.hi (by omega)
      omega
    · exact g.symm
    · have h1 := hp.le
      have := hp.lo q' (by omega) g
      have := hp'.hi (by omega)
      omega
  subst this
  exact ⟨rfl, rfl⟩
theorem pl_ex {L : List (Nat × Int)} (hr : Rising L) (id : Int) : ∃ q, Pl L id q := by
  induction L with
  | nil => exact ⟨0, by simp, fun i h => by simp at h, fun h => by simp at h⟩
  | cons a L ih =>
    obtain ⟨h1, h2⟩ := List.pairwise_cons.1 hr
    by_cases hlt : (a.1 : Int) < id
    · obtain ⟨q, hq⟩ := ih h2
      refine ⟨q + 1, by have := hq.le; simp; omega, fun i hi hiq => ?_, fun h => ?_⟩
      · cases i with
        | zero => simpa using hlt
        | succ i => have := hq.lo i (by simpa using hi) (by omega); simpa using this
      · have := hq.hi (by simpa using h); simpa using this
    · exact ⟨0, by simp, fun i h hi => by omega, fun h => by simp; omega⟩
theorem rput_any (w : World) (B R : Nat) (vi va : Value) (L : List (Nat × Int)) (h : RT w B R vi va L) (id v : Int) (hfew : L.length < 1000000) :
    Calls Try.prog 15 #[.pointer (some ⟨R, 0, none⟩), .int .i64 id, .int .i64 v] w fun e w' => e = .returned (.bool (puts L id v).1) ∧ RTPost w B R vi va (puts L id v).2 w' := by
  by_cases hb : id < 0 ∨ 2147483647 < id
  · have e : puts L id v = (false, L) := by unfold puts; rw [if_pos (hb.elim .inl (fun g => .inr (.inl g)))]
    rw [e]
    refine (rput_no w B R vi va L h id v hb).mono ?_
    rintro e w' ⟨rfl, rfl⟩
    exact ⟨rfl, .same h⟩
  · obtain ⟨q, hq⟩ := pl_ex h.rising id
    have HP := placed_one hq (place_any w B R vi va L h id)
    obtain ⟨ai, ci, rfl, _⟩ := owns_form h.i
    obtain ⟨aa, ca, rfl, _⟩ := owns_form h.a
    rcases look_cases h.rising id with ⟨p, hp, e, h1⟩ | ⟨hn, h1⟩
    · obtain ⟨hql, e2⟩ := hq.there h.rising p hp e
      rw [puts_no id v (by rw [h1])]
      refine (rput_there w B R q ai aa ci ca L h id v (by omega) (by omega) hql (by rw [e2]; exact e) HP).mono ?_
      rintro e w' ⟨rfl, rfl⟩
      exact ⟨rfl, .same h⟩
    · have hr := puts_rising h.rising id v
      rw [puts_yes id v (by omega) (by omega) (by rw [h1])] at hr ⊢
      refine (rput_do w B R q ai aa ci ca L h id v (by omega) (by omega) hq.le hfew (fun h => hn _ (List.getElem_mem h)) HP).mono ?_
      rintro e w' ⟨rfl, t, vi', va', b1, o1, o2, f1, f2⟩
      obtain ⟨m, rfl⟩ := Int.eq_ofNat_of_zero_le (show 0 ≤ id by omega)
      rw [Int.toNat_natCast] at hr ⊢
      have hins := hq.ins h.rising (fun p hp e => hn p hp (by omega)) v
      have hl : (ins (m, v) L).length = L.length + 1 := len_ins _ _
      have hRl := h.r.lt
      refine ⟨rfl, vi', va', ⟨b1, ?_, ?_, fun b hb e => by have := f1 b hb; omega, fun b hb e => by have := f2 b hb; omega, h.lo, hr, Nat.le_trans (Nat.le_of_eq hl) (by omega)⟩, t, fun b hb => .inr (f1 b hb), fun b hb => .inr (f2 b hb)⟩
      · rw [hl, hins]; simpa [idsOf, zrow] using o1
      · rw [hl, hins]; simpa [atsOf, zrow] using o2
theorem rdrop_any (w : World) (B R : Nat) (vi va : Value) (L : List (Nat × Int)) (h : RT w B R vi va L) (id : Int) :
    Calls Try.prog 16 #[.pointer (some ⟨R, 0, none⟩), .int .i64 id] w fun e w' => e = .returned (.bool (look L id).2) ∧ RTPost w B R vi va (without L id) w' := by
  obtain ⟨q, hq⟩ := pl_ex h.rising id
  have HP := placed_one hq (place_any w B R vi va L h id)
  have HG := rget_any w B R vi va L h id
  rcases look_cases h.rising id with ⟨p, hp, e, h1⟩ | ⟨hn, h1⟩
  · obtain ⟨ai, ci, rfl, _⟩ := owns_form h.i
    obtain ⟨aa, ca, rfl, _⟩ := owns_form h.a
    obtain ⟨hql, e2⟩ := hq.there h.rising p hp e
    rw [h1] at HG ⊢
    have hw := hq.without h.rising hql (by rw [e2]; exact e)
    have hr := without_rising h.rising id
    have hl : (without L id).length = L.length - 1 := by
      have := without_count h.rising id
      rw [h1] at this
      simp at this
      omega
    refine (rdrop_do w B R q ai aa ci ca L h id p.2 hql HG HP).mono ?_
    rintro e w' ⟨rfl, t, vi', va', b1, o1, o2, f1, f2⟩
    have hRl := h.r.lt
    have hf := h.few
    refine ⟨rfl, vi', va', ⟨b1, ?_, ?_, fun b hb e => by have := f1 b hb; omega, fun b hb e => by have := f2 b hb; omega, h.lo, hr, Nat.le_trans (Nat.le_of_eq hl) (by omega)⟩, t, fun b hb => .inr (f1 b hb), fun b hb => .inr (f2 b hb)⟩
    · rw [hl, hw]; simpa [idsOf, zrow] using o1
    · rw [hl, hw]; simpa [atsOf, zrow] using o2
  · rw [h1] at HG ⊢
    rw [without_no id hn]
    refine (rdrop_no w B R vi va L h id 0 HG).mono ?_
    rintro e w' ⟨rfl, rfl⟩
    exact ⟨rfl, .same h⟩
end Go.Proofs.Ytgnjjomfffmcaaa
