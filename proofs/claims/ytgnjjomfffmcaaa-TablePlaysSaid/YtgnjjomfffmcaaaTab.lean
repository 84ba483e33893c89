/- The table as a law sees it: which ids with which numbers; the calls' contracts, and awake. No condition of its own. -/
import Derived.Test.YtgnjjomfffmcaaaList
namespace Go.Proofs.Ytgnjjomfffmcaaa
open Go.RowKit Go.Lib

/-- The table at T with its cells at C holds these ids with their numbers. -/
def TB (w : World) (T C : Nat) (L : List (Nat × Int)) : Prop := ∃ s, TR w T C s ∧ TI s L ∧ C < w.heap.size
theorem TB.lt {w : World} {T C : Nat} {L : List (Nat × Int)} (h : TB w T C L) : T < w.heap.size ∧ C < w.heap.size := by
  obtain ⟨s, h1, _, h3⟩ := h
  exact ⟨h1.t.lt, h3⟩
theorem TB.tch {w w' : World} {T C : Nat} {L : List (Nat × Int)} (h : TB w T C L) {bs : List Nat} (t : Tch bs w w') (h1 : T ∉ bs) (h2 : C ∉ bs) : TB w' T C L := by
  obtain ⟨s, a, b, c⟩ := h
  exact ⟨s, a.tch t h1 h2, b, Nat.lt_of_lt_of_le c t.size⟩
theorem TB.rising {w : World} {T C : Nat} {L : List (Nat × Int)} (h : TB w T C L) : Rising L := by
  obtain ⟨s, _, b, _⟩ := h
  exact b.rising
theorem tb_new (w : World) : Calls Try.prog 13 #[] w fun e w' => e = .returned (.pointer (some ⟨w.heap.size, 0, none⟩)) ∧ TB w' w.heap.size w.heap.size [] ∧ Tch [] w w' := by
  refine (new_any w).mono ?_
  rintro e w' ⟨rfl, h, t⟩
  refine ⟨rfl, ⟨_, ⟨?_, fun h0 => absurd h0 (Nat.lt_irrefl 0), fun h0 => absurd h0 (Nat.lt_irrefl 0), h.small⟩, TI.new, h.t.lt⟩, t⟩
  exact h.t.ext (fun k _ => rfl)
/-- Behind a call that may have turned the table: what it holds, and where. -/
def TBPost (w : World) (T C : Nat) (L' : List (Nat × Int)) (w' : World) : Prop := ∃ C', TB w' T C' L' ∧ Tch [T, C] w w' ∧ (C' = C ∨ w.heap.size ≤ C')
theorem tb_put (w : World) (T C : Nat) (L : List (Nat × Int)) (h : TB w T C L) (id v : Int) (hfew : L.length < 1048576) :
    Calls Try.prog 9 #[.pointer (some ⟨T, 0, none⟩), .int .i64 id, .int .i64 v] w fun e w' => e = .returned (.bool (puts L id v).1) ∧ TBPost w T C (puts L id v).2 w' := by
  obtain ⟨s, a, b, c⟩ := h
  refine (put_any w T C s L a b id v hfew).mono ?_
  rintro e w' ⟨rfl, C', s', r1, r2, r3, r4⟩
  by_cases hn : 0 < s'.n
  · exact ⟨rfl, C', ⟨s', r1, r2, (r1.c hn).lt⟩, r3, r4⟩
  · have hn0 : s'.n = 0 := by omega
    exact ⟨rfl, C, ⟨s', ⟨r1.t.ext (fun k _ => by simp [tslice, hn0]), fun h0 => absurd h0 hn, fun h0 => absurd h0 hn, r1.small⟩, r2, Nat.lt_of_lt_of_le c r3.size⟩, r3, .inl rfl⟩
theorem tb_get (w : World) (T C : Nat) (L : List (Nat × Int)) (h : TB w T C L) (id : Int) (hid : id ≤ 9223372036854775807) :
    Calls Try.prog 7 #[.pointer (some ⟨T, 0, none⟩), .int .i64 id] w fun e w' => e = .returned (.tuple #[.int .i64 (look L id).1, .bool (look L id).2]) ∧ w = w' := by
  obtain ⟨s, a, b, c⟩ := h
  exact get_any w T C s L a b id hid
theorem tb_drop (w : World) (T C : Nat) (L : List (Nat × Int)) (h : TB w T C L) (id : Int) (hid : id ≤ 9223372036854775807) :
    Calls Try.prog 10 #[.pointer (some ⟨T, 0, none⟩), .int .i64 id] w fun e w' => e = .returned (.bool (look L id).2) ∧ TB w' T C (without L id) ∧ Tch [T, C] w w' := by
  obtain ⟨s, a, b, c⟩ := h
  refine (drop_any w T C s L a b id hid).mono ?_
  rintro e w' ⟨rfl, t, s', r1, r2⟩
  exact ⟨rfl, ⟨s', r1, r2, Nat.lt_of_lt_of_le c t.size⟩, t⟩
theorem tb_len (w : World) (T C : Nat) (L : List (Nat × Int)) (h : TB w T C L) : Calls Try.prog 11 #[.pointer (some ⟨T, 0, none⟩)] w fun e w' => e = .returned (.int .i64 L.length) ∧ w = w' := by
  obtain ⟨s, a, b, c⟩ := h
  have := len_any w T C s a
  rw [b.live] at this
  exact this
theorem tb_list (w : World) (T C : Nat) (L : List (Nat × Int)) (h : TB w T C L) : Calls Try.prog 12 #[.pointer (some ⟨T, 0, none⟩)] w (Told w L) := by
  obtain ⟨s, a, b, c⟩ := h
  exact list_any w T C s L a b

/-- The table of a law, in memory of its own. -/
structure LT (W w : World) (T C : Nat) (L : List (Nat × Int)) : Prop where
  t : TB w T C L
  lo : W.heap.size ≤ T ∧ W.heap.size ≤ C
  b : Below W.heap.size W w
theorem LT.quiet {W w w' : World} {T C : Nat} {L : List (Nat × Int)} (h : LT W w T C L) (t : Tch [] w w') : LT W w' T C L :=
  ⟨h.t.tch t (by simp) (by simp), h.lo, t.below h.b h.b.size (by simp)⟩
theorem LT.post {W w w' : World} {T C : Nat} {L L' : List (Nat × Int)} (h : LT W w T C L) (p : TBPost w T C L' w') : ∃ C', LT W w' T C' L' := by
  obtain ⟨C', r1, r2, r3⟩ := p
  refine ⟨C', r1, ⟨h.lo.1, ?_⟩, r2.below h.b h.b.size (by simp; exact h.lo)⟩
  have := h.lo.2
  have := h.b.size
  omega
theorem LT.drop {W w w' : World} {T C : Nat} {L L' : List (Nat × Int)} (h : LT W w T C L) (r1 : TB w' T C L') (r2 : Tch [T, C] w w') : LT W w' T C L' :=
  ⟨r1, h.lo, r2.below h.b h.b.size (by simp; exact h.lo)⟩
theorem LT.new {w w' : World} (r1 : TB w' w.heap.size w.heap.size []) (r2 : Tch [] w w') : LT w w' w.heap.size w.heap.size [] :=
  ⟨r1, ⟨Nat.le_refl _, Nat.le_refl _⟩, r2.nil⟩

set_option maxHeartbeats 1000000 in
theorem awake_any (w : World) : Calls Try.prog 8 #[] w fun e w' => e = .returned (.bool true) ∧ Below w.heap.size w w' := by
  go_enter Try.func8, Try.ntmps8
  go_wp2_with fail
  go_at_call 13
  refine (tb_new w).mono ?_
  rintro e w1 ⟨rfl, r1, r2⟩
  have h1 := LT.new r1 r2
  generalize w.heap.size = T at *
  clear r1 r2
  go_wp2_with fail
  go_at_call 9
  refine (tb_put w1 T T [] h1.t 7 1 (by decide)).mono ?_
  rintro e w2 ⟨rfl, p⟩
  obtain ⟨C2, h2⟩ := h1.post p
  rw [show puts [] 7 1 = (true, [(7, 1)]) by rfl] at h2 ⊢
  simp only [] at h2 ⊢
  clear p h1
  go_wp2_with fail
  go_at_call 9
  refine (tb_put w2 T C2 _ h2.t 3 2 (by decide)).mono ?_
  rintro e w3 ⟨rfl, p⟩
  obtain ⟨C3, h3⟩ := h2.post p
  rw [show puts [(7, 1)] 3 2 = (true, [(3, 2), (7, 1)]) by rfl] at h3 ⊢
  simp only [] at h3 ⊢
  clear p h2
  go_wp2_with fail
  go_at_call 9
  refine (tb_put w3 T C3 _ h3.t 7 5 (by decide)).mono ?_
  rintro e w4 ⟨rfl, p⟩
  obtain ⟨C4, h4⟩ := h3.post p
  rw [show puts [(3, 2), (7, 1)] 7 5 = (false, [(3, 2), (7, 1)]) by rfl] at h4 ⊢
  simp only [] at h4 ⊢
  clear p h3
  go_wp2_with fail
  go_at_call 9
  refine (tb_put w4 T C4 _ h4.t (-1) 0 (by decide)).mono ?_
  rintro e w5 ⟨rfl, p⟩
  obtain ⟨C5, h5⟩ := h4.post p
  rw [show puts [(3, 2), (7, 1)] (-1) 0 = (false, [(3, 2), (7, 1)]) by rfl] at h5 ⊢
  simp only [] at h5 ⊢
  clear p h4
  go_wp2_with fail
  go_at_call 7
  refine (tb_get w5 T C5 _ h5.t 7 (by decide)).mono ?_
  rintro e w6 ⟨rfl, rfl⟩
  rw [show look [(3, 2), (7, 1)] 7 = (1, true) by rfl]
  simp only []
  go_wp2_with fail
  go_at_call 12
  refine (tb_list w5 T C5 _ h5.t).mono ?_
  rintro e w6 ⟨v, rfl, o6, t6⟩
  have h6 := h5.quiet t6
  obtain ⟨g, cap, rfl, hg, hgl⟩ := owns_some o6 (by simp)
  have c0 : w6.cell? ⟨g, 0, none⟩ = some (.int .i64 3) := owns_cell o6 0 (by simp)
  clear t6 h5 o6
  simp only [List.length_cons, List.length_nil]
  go_wp2_with fail
  go_at_call 10
  refine (tb_drop w6 T C5 _ h6.t 3 (by decide)).mono ?_
  rintro e w7 ⟨rfl, r1, r2⟩
  have h7 := h6.drop r1 r2
  rw [show without [(3, 2), (7, 1)] 3 = [(7, 1)] by rfl] at h7
  rw [show look [(3, 2), (7, 1)] 3 = (2, true) by rfl]
  simp only []
  clear r1 r2 h6 c0
  go_wp2_with fail
  go_at_call 10
  refine (tb_drop w7 T C5 _ h7.t 3 (by decide)).mono ?_
  rintro e w8 ⟨rfl, r1, r2⟩
  have h8 := h7.drop r1 r2
  rw [show without [(7, 1)] 3 = [(7, 1)] by rfl] at h8
  rw [show look [(7, 1)] 3 = (0, false) by rfl]
  simp only []
  clear r1 r2 h7
  go_wp2_with fail
  go_at_call 11
  refine (tb_len w8 T C5 _ h8.t).mono ?_
  rintro e w9 ⟨rfl, rfl⟩
  simp only [List.length_cons, List.length_nil]
  go_wp2_with fail
  go_ret
  exact ⟨rfl, h8.b⟩
end Go.Proofs.Ytgnjjomfffmcaaa
