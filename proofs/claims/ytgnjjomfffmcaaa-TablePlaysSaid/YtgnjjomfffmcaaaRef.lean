/- The document's table in memory: place, Get, Len, List, New, same. No condition of its own. -/
import Derived.Test.YtgnjjomfffmcaaaLook
import Derived.Test.YtgnjjomfffmcaaaVw
import Derived.Deep.QuietTactic
import Derived.BigQuiet
namespace Go.Proofs.Ytgnjjomfffmcaaa
open Go.RowKit Go.Lib

def atsOf (L : List (Nat × Int)) : List Int := L.map (·.2)
def rcell (vi va : Value) : Nat → Value := fun j => match j with | 0 => vi | _ => va
/-- The document's table: two rows, of ids and of numbers. -/
structure RT (w : World) (B R : Nat) (vi va : Value) (L : List (Nat × Int)) : Prop where
  r : Blk w R 53 2 (rcell vi va)
  i : w.ownsRow B 3 1 vi L.length (zrow (idsOf L))
  a : w.ownsRow B 3 1 va L.length (zrow (atsOf L))
  ni : ∀ b, vi.ownBlock = some b → b ≠ R
  na : ∀ b, va.ownBlock = some b → b ≠ R
  lo : B ≤ R
  rising : Rising L
  few : L.length ≤ 1000000
theorem RT.keep {w w' : World} {B R : Nat} {vi va : Value} {L : List (Nat × Int)} (h : RT w B R vi va L) {bs : List Nat} (t : Tch bs w w') (h1 : R ∉ bs) (h2 : ∀ b, vi.ownBlock = some b → b ∉ bs) (h3 : ∀ b, va.ownBlock = some b → b ∉ bs) : RT w' B R vi va L :=
  ⟨t.blk h.r h1, owns_tch h.i t h2, owns_tch h.a t h3, h.ni, h.na, h.lo, h.rising, h.few⟩
theorem RT.quiet {w w' : World} {B R : Nat} {vi va : Value} {L : List (Nat × Int)} (h : RT w B R vi va L) (t : Tch [] w w') : RT w' B R vi va L :=
  h.keep t (by simp) (by simp) (by simp)

/-- Where an id stands, or would stand. -/
structure Pl (L : List (Nat × Int)) (id : Int) (q : Nat) : Prop where
  le : q ≤ L.length
  lo : ∀ i (h : i < L.length), i < q → (L[i].1 : Int) < id
  hi : ∀ h : q < L.length, id ≤ (L[q].1 : Int)
theorem zrow_get {l : List Int} (j : Nat) (hj : j < l.length) : (zrow l)[j]? = some (.int .i64 l[j]) := by simp [zrow, hj]
theorem zrow_one (l : List Int) : ∀ u ∈ zrow l, u.oneCell' = true := by
  intro u hu
  obtain ⟨x, _, rfl⟩ := List.mem_map.1 hu
  rfl
theorem zrow_len (l : List Int) : (zrow l).length = l.length := by simp [zrow]
theorem RT.id_at {w : World} {B R : Nat} {ai : Option Addr} {ci : Nat} {va : Value} {L : List (Nat × Int)} (h : RT w B R (.slice ai L.length ci) va L) (q : Nat) (hq : q < L.length) :
    ∃ g, ai = some ⟨g, 0, none⟩ ∧ g < w.heap.size ∧ w.cell? ⟨g, q, none⟩ = some (.int .i64 (L[q].1 : Int)) := by
  obtain ⟨g, cap, e, _, hg⟩ := owns_some h.i (by omega)
  simp at e
  obtain ⟨rfl, rfl⟩ := e
  refine ⟨g, rfl, hg, (owns_cell h.i q (by omega)).trans ?_⟩
  rw [zrow_get q (by simpa [idsOf] using hq)]
  simp [idsOf]
theorem RT.num_at {w : World} {B R : Nat} {vi : Value} {aa : Option Addr} {ca : Nat} {L : List (Nat × Int)} (h : RT w B R vi (.slice aa L.length ca) L) (q : Nat) (hq : q < L.length) :
    ∃ g, aa = some ⟨g, 0, none⟩ ∧ g < w.heap.size ∧ w.cell? ⟨g, q, none⟩ = some (.int .i64 L[q].2) := by
  obtain ⟨g, cap, e, _, hg⟩ := owns_some h.a (by omega)
  simp at e
  obtain ⟨rfl, rfl⟩ := e
  refine ⟨g, rfl, hg, (owns_cell h.a q (by omega)).trans ?_⟩
  rw [zrow_get q (by simpa [atsOf] using hq)]
  simp [atsOf]

def Placed (w : World) (L : List (Nat × Int)) (id : Int) (e : Ending) (w' : World) : Prop := ∃ q : Nat, Pl L id q ∧ e = .returned (.int .i64 q) ∧ w = w'
set_option maxHeartbeats 400000 in
theorem place_any (w : World) (B R : Nat) (vi va : Value) (L : List (Nat × Int)) (h : RT w B R vi va L) (id : Int) : Calls Try.prog 24 #[.pointer (some ⟨R, 0, none⟩), .int .i64 id] w (Placed w L id) := by
  obtain ⟨ai, ci, rfl, _⟩ := owns_form h.i
  have c0 : w.cell? ⟨R, 0, none⟩ = some (.slice ai L.length ci) := h.r.cell 0 (by omega)
  have hR := h.r.lt
  have hf := h.few
  have HI := Lib.hid (fun q hq => h.id_at q hq)
  clear h
  go_enter Try.func24, Try.ntmps24
  go_wp2
  go_loopw [5] (fun k wq => w = wq ∧ ∃ q : Nat, q ≤ L.length ∧ k = .int .i64 q ∧ ∀ i (h : i < L.length), i < q → (L[i].1 : Int) < id) (fun k _ => L.length - (intOf k).toNat)
  case atStart => exact ⟨rfl, 0, by omega, rfl, fun _ _ h => by omega⟩
  case round =>
    obtain ⟨rfl, q, hq, rfl, hlo⟩ := hrel
    have HLO := Lib.hid hlo
    clear hlo
    by_cases hqn : q < L.length
    · obtain ⟨g, rfl, hg, cq⟩ := HI.out q hqn
      obtain ⟨x, hx⟩ : ∃ x : Nat, L[q].1 = x := ⟨_, rfl⟩
      rw [hx] at cq
      have HX := Lib.hid hx
      clear hx
      by_cases hlt : (x : Int) < id
      · go_wp2
        go_roundw
        case rel =>
          refine ⟨by first | trivial | rfl, q + 1, by omega, by go_num, fun i hi hi2 => ?_⟩
          by_cases e : i = q
          · subst e; rw [HX.out]; exact hlt
          · exact HLO.out i hi (by omega)
        case measure => simp [intOf]; omega
      · go_wp2
        go_ret
        exact ⟨q, ⟨hq, HLO.out, fun h => by rw [HX.out]; omega⟩, rfl, rfl⟩
    · go_wp2
      go_ret
      exact ⟨q, ⟨hq, HLO.out, fun h => by omega⟩, rfl, rfl⟩
/-- What stands there. -/
theorem Pl.there {L : List (Nat × Int)} {id : Int} {q : Nat} (h : Pl L id q) (hr : Rising L) (p : Nat × Int) (hp : p ∈ L) (e : (p.1 : Int) = id) : ∃ hq : q < L.length, L[q] = p := by
  obtain ⟨i, hi, rfl⟩ := List.getElem_of_mem hp
  have h1 : ¬ i < q := fun g => by have := h.lo i hi g; omega
  have hq : q < L.length := by omega
  refine ⟨hq, ?_⟩
  by_cases e2 : q = i
  · subst e2; rfl
  · have := (List.pairwise_iff_getElem.1 hr) q i hq hi (by omega)
    have := h.hi hq
    omega
theorem Pl.look {L : List (Nat × Int)} {id : Int} {q : Nat} (h : Pl L id q) (hr : Rising L) : look L id = if hq : q < L.length then (if (L[q].1 : Int) = id then (L[q].2, true) else (0, false)) else (0, false) := by
  rcases look_cases hr id with ⟨p, hp, e, h1⟩ | ⟨hn, h1⟩
  · obtain ⟨hq, e2⟩ := h.there hr p hp e
    rw [dif_pos hq, e2, if_pos e, h1]
  · rw [h1]
    split
    · rename_i hq
      rw [if_neg (hn _ (List.getElem_mem hq))]
    · rfl
set_option maxHeartbeats 400000 in
theorem rget_any (w : World) (B R : Nat) (vi va : Value) (L : List (Nat × Int)) (h : RT w B R vi va L) (id : Int) :
    Calls Try.prog 17 #[.pointer (some ⟨R, 0, none⟩), .int .i64 id] w fun e w' => e = .returned (.tuple #[.int .i64 (look L id).1, .bool (look L id).2]) ∧ w = w' := by
  have HP := Lib.hid (place_any w B R vi va L h id)
  obtain ⟨ai, ci, rfl, _⟩ := owns_form h.i
  obtain ⟨aa, ca, rfl, _⟩ := owns_form h.a
  have c0 : w.cell? ⟨R, 0, none⟩ = some (.slice ai L.length ci) := h.r.cell 0 (by omega)
  have c1 : w.cell? ⟨R, 1, none⟩ = some (.slice aa L.length ca) := h.r.cell 1 (by omega)
  have hR := h.r.lt
  have hf := h.few
  have HL := Lib.hid (fun q (p : Pl L id q) => p.look h.rising)
  have HI := Lib.hid (fun q hq => h.id_at q hq)
  have HN := Lib.hid (fun q hq => h.num_at q hq)
  clear h
  go_enter Try.func17, Try.ntmps17
  go_wp2_with fail
  go_at_call 24
  refine HP.out.mono ?_
  rintro e w1 ⟨q, hp, rfl, rfl⟩
  have hlk := HL.out q hp
  have hle := hp.le
  clear hp
  by_cases hq : q < L.length
  · rw [dif_pos hq] at hlk
    obtain ⟨g, rfl, hg, cq⟩ := HI.out q hq
    obtain ⟨g2, rfl, hg2, cn⟩ := HN.out q hq
    obtain ⟨x, hx⟩ : ∃ x : Nat, L[q].1 = x := ⟨_, rfl⟩
    obtain ⟨y, hy⟩ : ∃ y : Int, L[q].2 = y := ⟨_, rfl⟩
    rw [hx] at cq hlk
    rw [hy] at cn hlk
    have hqe : ((q : Int) == (L.length : Int)) = false := beq_eq_false_iff_ne.2 (by omega)
    clear hx hy
    by_cases hxe : (x : Int) = id
    · rw [if_pos hxe] at hlk
      have HK := Lib.hid hlk
      have hb : ((x : Int) != id) = false := by rw [hxe]; simp
      clear hlk hxe
      go_wp2
      exact bodyPost_ret (v := .tuple #[.int .i64 y, .bool true]) (by simp [results, Try.results17, go_sem]) rfl ⟨by rw [HK.out], rfl⟩
    · rw [if_neg hxe] at hlk
      have HK := Lib.hid hlk
      have hb : ((x : Int) != id) = true := bne_iff_ne.2 hxe
      clear hlk hxe
      go_wp2
      exact bodyPost_ret (v := .tuple #[.int .i64 0, .bool false]) (by simp [results, Try.results17, go_sem]) rfl ⟨by rw [HK.out], rfl⟩
  · rw [dif_neg hq] at hlk
    have HK := Lib.hid hlk
    obtain rfl : q = L.length := by omega
    clear hlk
    go_wp2
    exact bodyPost_ret (v := .tuple #[.int .i64 0, .bool false]) (by simp [results, Try.results17, go_sem]) rfl ⟨by rw [HK.out], rfl⟩
theorem rlen_any (w : World) (B R : Nat) (vi va : Value) (L : List (Nat × Int)) (h : RT w B R vi va L) : Calls Try.prog 18 #[.pointer (some ⟨R, 0, none⟩)] w fun e w' => e = .returned (.int .i64 L.length) ∧ w = w' := by
  obtain ⟨ai, ci, rfl, _⟩ := owns_form h.i
  have c0 : w.cell? ⟨R, 0, none⟩ = some (.slice ai L.length ci) := h.r.cell 0 (by omega)
  have hR := h.r.lt
  clear h
  go_enter Try.func18, Try.ntmps18
  go_wp2
  go_ret
  exact ⟨rfl, rfl⟩
theorem rnew_any (w : World) : Calls Try.prog 14 #[] w fun e w' => e = .returned (.pointer (some ⟨w.heap.size, 0, none⟩)) ∧ RT w' w.heap.size w.heap.size (.slice none 0 0) (.slice none 0 0) [] ∧ Tch [] w w' := by
  go_enter Try.func14, Try.ntmps14
  go_wp2
  go_ret
  refine ⟨rfl, ⟨?_, World.ownsRow_nil _ _ _ _, World.ownsRow_nil _ _ _ _, by simp [Value.ownBlock], by simp [Value.ownBlock], Nat.le_refl _, List.Pairwise.nil, by simp⟩, (Tch.refl _ _).new _⟩
  exact Blk.made (w := w) 53 #[.slice none 0 0, .slice none 0 0] (rcell (.slice none 0 0) (.slice none 0 0)) (fun k hk => match k, hk with | 0, _ => rfl | 1, _ => rfl)
set_option maxHeartbeats 400000 in
theorem rlist_any (w : World) (B R : Nat) (vi va : Value) (L : List (Nat × Int)) (h : RT w B R vi va L) : Calls Try.prog 20 #[.pointer (some ⟨R, 0, none⟩)] w (Told w L) := by
  obtain ⟨ai, ci, rfl, _⟩ := owns_form h.i
  have c0 : w.cell? ⟨R, 0, none⟩ = some (.slice ai L.length ci) := h.r.cell 0 (by omega)
  have hR := h.r.lt
  have hf := h.few
  have HV := Lib.hid (view_own (owns_new h.i (.cells #[] 3)))
  clear h
  go_enter Try.func20, Try.ntmps20
  go_wp2_with (at_builtin; (refine wpList_appendV E29 rfl (.tmp 5) (.tmp 9) rfl w.heap.size (.slice (some ⟨w.heap.size, 0, none⟩) 0 0) 0 [] rfl (owns_made (heap_new _ _) (Nat.le_refl _)) _ _ _ _ rfl HV.out (zrow_one _) (by unfold maxLen; omega) (by omega) (by simp) L.length (by omega) ?_); intro va' vc' w' r1 r2 r3)
  go_ret
  refine ⟨_, rfl, by simpa using r1, ?_⟩
  exact ⟨r2.os, r2.tape, r2.output, by have := r2.size; simp at this; omega, fun k hk _ => (r2.block k (by simp; omega) (by simp [Value.ownBlock]; omega)).trans (heap_old _ _ _ hk)⟩
theorem same_any (w : World) (B C : Nat) (v u : Value) (l : List Int) (hv : w.ownsRow B 3 1 v l.length (zrow l)) (hu : w.ownsRow C 3 1 u l.length (zrow l)) (hl : l.length ≤ 1000000) :
    Calls Try.prog 19 #[v, u] w fun e w' => e = .returned (.bool true) ∧ Tch [] w w' := by
  obtain ⟨ai, ci, rfl, hi⟩ := owns_form hv
  obtain ⟨aa, ca, rfl, ha⟩ := owns_form hu
  have HV := Lib.hid hv
  have HU := Lib.hid hu
  have HI := Lib.hid hi
  have HA := Lib.hid ha
  clear hv hu hi ha
  go_enter Try.func19, Try.ntmps19
  go_wp2
  go_loopw [5] (fun k wq => Tch [] w wq ∧ ∃ q : Nat, q ≤ l.length ∧ k = .int .i64 q) (fun k _ => l.length - (intOf k).toNat)
  case atStart => exact ⟨Tch.refl _ _, 0, by omega, rfl⟩
  case round =>
    obtain ⟨t, q, hq, rfl⟩ := hrel
    have HT := Lib.hid t
    by_cases hqn : q < l.length
    · obtain ⟨g, rfl⟩ : ∃ g, ai = some ⟨g, 0, none⟩ := by
        rcases HI.out with e | e
        · omega
        · exact e
      obtain ⟨g2, rfl⟩ : ∃ g, aa = some ⟨g, 0, none⟩ := by
        rcases HA.out with e | e
        · omega
        · exact e
      have l1 := (HV.out.lt g rfl).2
      have l2 := (HU.out.lt g2 rfl).2
      have c1 : wr.cell? ⟨g, q, none⟩ = some (.int .i64 l[q]) := (t.cell g q l1 (by simp)).trans ((owns_cell HV.out q (by omega)).trans (zrow_get q hqn))
      have c2 : wr.cell? ⟨g2, q, none⟩ = some (.int .i64 l[q]) := (t.cell g2 q l2 (by simp)).trans ((owns_cell HU.out q (by omega)).trans (zrow_get q hqn))
      have hs := t.size
      have l3 : g < wr.heap.size := by omega
      have l4 : g2 < wr.heap.size := by omega
      clear t
      generalize l[q] = x at c1 c2
      go_wp2
      go_quiet (fail)
      go_wp2
      go_roundw
      case rel => exact ⟨HT.out.drewN _, q + 1, by omega, by go_num⟩
      case measure => simp [intOf]; omega
    · clear t
      go_wp2
      go_ret
      exact ⟨rfl, HT.out⟩
end Go.Proofs.Ytgnjjomfffmcaaa
