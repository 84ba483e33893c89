/- The walks of Get and Drop over a table in memory. No condition of its own. -/
import Derived.Test.YtgnjjomfffmcaaaInv
import Derived.Test.YtgnjjomfffmcaaaEmpty
namespace Go.Proofs.Ytgnjjomfffmcaaa
open Go.RowKit

def TS.setId (s : TS) (i : Nat) (v : Int) : TS := { s with ids := fun j => if j = i then v else s.ids j }
def TS.setAt (s : TS) (i : Nat) (v : Int) : TS := { s with ats := fun j => if j = i then v else s.ats j }
theorem TR.id_set {w : World} {T C : Nat} {s : TS} (h : TR w T C s) (i : Nat) (hi : i < s.n) (v : Int) : TR (w.setCell ⟨C, i * 2, none⟩ (.int .i64 v)) T C (s.setId i v) := by
  refine ⟨h.t.setNe _ _ (h.ne (by omega)), fun h0 => ((h.c (by omega)).set (i * 2) _).ext (fun k hk => ?_), h.ne, h.small⟩
  unfold tcell
  by_cases e : k = i * 2
  · subst e; simp [TS.setId]
  · simp only [if_neg e]
    congr 1
    by_cases e2 : k % 2 = 0
    · have : k / 2 ≠ i := by omega
      simp [TS.setId, e2, this]
    · simp [TS.setId, e2]
theorem TR.at_set {w : World} {T C : Nat} {s : TS} (h : TR w T C s) (i : Nat) (hi : i < s.n) (v : Int) : TR (w.setCell ⟨C, i * 2 + 1, none⟩ (.int .i64 v)) T C (s.setAt i v) := by
  refine ⟨h.t.setNe _ _ (h.ne (by omega)), fun h0 => ((h.c (by omega)).set (i * 2 + 1) _).ext (fun k hk => ?_), h.ne, h.small⟩
  unfold tcell
  by_cases e : k = i * 2 + 1
  · subst e
    have e1 : (i * 2 + 1) % 2 = 1 := by omega
    have e2 : (i * 2 + 1) / 2 = i := by omega
    simp [TS.setAt, e1, e2]
  · simp only [if_neg e]
    congr 1
    by_cases e2 : k % 2 = 0
    · simp [TS.setAt, e2]
    · have : k / 2 ≠ i := by omega
      simp [TS.setAt, e2, this]
theorem TR.live_set {w : World} {T C : Nat} {s : TS} (h : TR w T C s) (v : Nat) : TR (w.setCell ⟨T, 1, none⟩ (.int .i64 v)) T C { s with live := v } := by
  refine ⟨(h.t.set 1 _).ext (fun k hk => ?_), fun h0 => (h.c h0).setNe _ _ (fun e => h.ne h0 e.symm), h.ne, h.small⟩
  match k, hk with
  | 0, _ => rfl
  | 1, _ => rfl
  | 2, _ => rfl
theorem TR.used_set {w : World} {T C : Nat} {s : TS} (h : TR w T C s) (v : Nat) : TR (w.setCell ⟨T, 2, none⟩ (.int .i64 v)) T C { s with used := v } := by
  refine ⟨(h.t.set 2 _).ext (fun k hk => ?_), fun h0 => (h.c h0).setNe _ _ (fun e => h.ne h0 e.symm), h.ne, h.small⟩
  match k, hk with
  | 0, _ => rfl
  | 1, _ => rfl
  | 2, _ => rfl
theorem TR.tch {w w' : World} {T C : Nat} {s : TS} (h : TR w T C s) {bs : List Nat} (t : Tch bs w w') (h1 : T ∉ bs) (h2 : C ∉ bs) : TR w' T C s :=
  ⟨t.blk h.t h1, fun h0 => t.blk (h.c h0) h2, h.ne, h.small⟩

/-- What find tells of an id that is there, and of one that isn't. -/
theorem TI.find {s : TS} {L : List (Nat × Int)} (h : TI s L) (hn : 0 < s.n) (id : Nat) :
    ∃ D, Ends s id D ∧ ((∃ p ∈ L, p.1 = id ∧ s.ids (pos s id D) = id ∧ s.ats (pos s id D) = p.2) ∨ ((∀ p ∈ L, p.1 ≠ id) ∧ s.ids (pos s id D) = -1)) := by
  have h1 := h.used
  have h2 := h.half
  obtain ⟨D, hE⟩ := ends s id (by omega)
  refine ⟨D, hE, ?_⟩
  have hp : pos s id D < s.n := pos_lt s id D hn
  by_cases hf : s.ids (pos s id D) = id
  · left
    rcases (h.core hn).vals _ hp with g | g | ⟨p, g, g1, g2⟩
    · omega
    · omega
    · exact ⟨p, g, by omega, hf, g2⟩
  · right
    have hm : s.ids (pos s id D) = -1 := by
      rcases hE.there with g | g
      · exact absurd g hf
      · exact g
    refine ⟨fun p hp e => ?_, hm⟩
    obtain ⟨E, hE', hE2⟩ := (h.core hn).place p hp
    subst e
    have := hE'.one hE
    subst this
    exact hf hE2
def look (L : List (Nat × Int)) (id : Int) : Int × Bool :=
  match L.find? fun p => (p.1 : Int) == id with
  | some p => (p.2, true)
  | none => (0, false)
theorem look_yes {L : List (Nat × Int)} (hr : Rising L) (p : Nat × Int) (hp : p ∈ L) : look L p.1 = (p.2, true) := by
  unfold look
  cases hf : L.find? fun q => (q.1 : Int) == (p.1 : Int) with
  | none =>
    have := List.find?_eq_none.1 hf p hp
    simp at this
  | some q =>
    have h1 := List.mem_of_find?_eq_some hf
    have h2 := List.find?_some hf
    have h3' : (q.1 : Int) = p.1 := by simpa using h2
    have h3 : q.1 = p.1 := by omega
    rw [rising_one hr h1 hp h3]
theorem look_no {L : List (Nat × Int)} (id : Int) (h : ∀ p ∈ L, (p.1 : Int) ≠ id) : look L id = (0, false) := by
  unfold look
  cases hf : L.find? fun q => (q.1 : Int) == id with
  | none => rfl
  | some q =>
    have h1 := List.mem_of_find?_eq_some hf
    have h2 := List.find?_some hf
    exact absurd (by simpa using h2) (h q h1)

theorem find_pos (w : World) (T C : Nat) (s : TS) (h : TR w T C s) (id D : Nat) (hid : id ≤ 9223372036854775807) (hE : Ends s id D) :
    Calls Try.prog 21 #[.pointer (some ⟨T, 0, none⟩), .int .i64 id] w fun e w' => e = .returned (.tuple #[.int .i64 (pos s id D : Nat), .bool (s.ids (pos s id D) == (id : Int))]) ∧ w = w' := by
  unfold pos
  exact find_any w T C s h id D hid hE
set_option maxHeartbeats 400000 in
theorem get_walk (w : World) (T C n q : Nat) (id v : Int) (hTl : T < w.heap.size) (c0 : w.cell? ⟨T, 0, none⟩ = some (.slice (some ⟨C, 0, none⟩) n n)) (cc : w.cell? ⟨C, q * 2 + 1, none⟩ = some (.int .i64 v)) (hq : q < n) (hn : n ≤ 100000000)
    (HF : Calls Try.prog 21 #[.pointer (some ⟨T, 0, none⟩), .int .i64 id] w fun e w' => e = .returned (.tuple #[.int .i64 (q : Nat), .bool true]) ∧ w = w') :
    Calls Try.prog 7 #[.pointer (some ⟨T, 0, none⟩), .int .i64 id] w fun e w' => e = .returned (.tuple #[.int .i64 v, .bool true]) ∧ w = w' := by
  have HF := Lib.hid HF
  go_enter Try.func7, Try.ntmps7
  go_wp2_with (go_at_call 21; refine HF.out.mono ?_; rintro e w1 ⟨rfl, rfl⟩)
  exact bodyPost_ret (v := .tuple #[.int .i64 v, .bool true]) (by simp [results, Try.results7, go_sem]) rfl ⟨rfl, rfl⟩
set_option maxHeartbeats 400000 in
theorem get_walk_no (w : World) (T q : Nat) (id : Int)
    (HF : Calls Try.prog 21 #[.pointer (some ⟨T, 0, none⟩), .int .i64 id] w fun e w' => e = .returned (.tuple #[.int .i64 (q : Nat), .bool false]) ∧ w = w') :
    Calls Try.prog 7 #[.pointer (some ⟨T, 0, none⟩), .int .i64 id] w fun e w' => e = .returned (.tuple #[.int .i64 0, .bool false]) ∧ w = w' := by
  have HF := Lib.hid HF
  go_enter Try.func7, Try.ntmps7
  go_wp2_with (go_at_call 21; refine HF.out.mono ?_; rintro e w1 ⟨rfl, rfl⟩)
  exact bodyPost_ret (v := .tuple #[.int .i64 0, .bool false]) (by simp [results, Try.results7, go_sem]) rfl ⟨rfl, rfl⟩
theorem get_any (w : World) (T C : Nat) (s : TS) (L : List (Nat × Int)) (h : TR w T C s) (hI : TI s L) (id : Int) (hid : id ≤ 9223372036854775807) :
    Calls Try.prog 7 #[.pointer (some ⟨T, 0, none⟩), .int .i64 id] w fun e w' => e = .returned (.tuple #[.int .i64 (look L id).1, .bool (look L id).2]) ∧ w = w' := by
  have hTl := h.t.lt
  by_cases hz : s.n = 0 ∨ id < 0
  · have HL : look L id = (0, false) := look_no id (fun p hp e => by
      rcases hz with g | g
      · rw [hI.zero g] at hp; cases hp
      · omega)
    rw [HL]
    have HF := Lib.hid (find_none w T C s h id hz)
    clear h hI hz HL
    go_enter Try.func7, Try.ntmps7
    go_wp2_with (go_at_call 21; refine HF.out.mono ?_; rintro e w1 ⟨rfl, rfl⟩)
    exact bodyPost_ret (v := .tuple #[.int .i64 0, .bool false]) (by simp [results, Try.results7, go_sem]) rfl ⟨rfl, rfl⟩
  · have hn : 0 < s.n := by omega
    obtain ⟨m, rfl⟩ := Int.eq_ofNat_of_zero_le (show 0 ≤ id by omega)
    obtain ⟨D, hE, hf⟩ := hI.find hn m
    have HF := find_pos w T C s h m D (by omega) hE
    have hpl := pos_lt s m D hn
    have hsm := h.small
    have c0 := h.s0 hn
    have cc := h.at _ hpl
    rcases hf with ⟨p, hp, e1, e2, e3⟩ | ⟨hno, e2⟩
    · have HL : look L m = (p.2, true) := by rw [← e1]; exact look_yes hI.rising p hp
      rw [HL]
      have e4 : (s.ids (pos s m D) == (m : Int)) = true := beq_iff_eq.2 e2
      rw [e4] at HF
      rw [e3] at cc
      exact get_walk w T C s.n (pos s m D) m p.2 hTl c0 cc hpl hsm HF
    · have HL : look L m = (0, false) := look_no _ (fun p hp e => hno p hp (by omega))
      rw [HL]
      have e4 : (s.ids (pos s m D) == (m : Int)) = false := by
        rw [e2]
        exact beq_eq_false_iff_ne.2 (by omega)
      rw [e4] at HF
      exact get_walk_no w T (pos s m D) m HF

def without (L : List (Nat × Int)) (id : Int) : List (Nat × Int) := L.filter fun q => (q.1 : Int) != id
theorem without_no {L : List (Nat × Int)} (id : Int) (h : ∀ p ∈ L, (p.1 : Int) ≠ id) : without L id = L :=
  List.filter_eq_self.2 fun p hp => bne_iff_ne.2 (h p hp)
theorem without_len {L : List (Nat × Int)} (hr : Rising L) (p : Nat × Int) (hp : p ∈ L) : (without L p.1).length + 1 = L.length := by
  induction L with
  | nil => cases hp
  | cons a L ih =>
    obtain ⟨h1, h2⟩ := List.pairwise_cons.1 hr
    unfold without
    rw [List.filter_cons]
    rcases List.mem_cons.1 hp with e | e
    · subst e
      simp only [bne_self_eq_false, Bool.false_eq_true, if_false, List.length_cons]
      have : (List.filter (fun q => (q.1 : Int) != (p.1 : Int)) L) = L := List.filter_eq_self.2 fun q hq => bne_iff_ne.2 (by have := h1 q hq; omega)
      rw [this]
    · have := h1 p e
      have hb : ((a.1 : Int) != (p.1 : Int)) = true := bne_iff_ne.2 (by omega)
      rw [if_pos hb, List.length_cons, List.length_cons]
      exact congrArg (· + 1) (ih h2 e)
theorem TI.drop {s : TS} {L : List (Nat × Int)} (h : TI s L) (hn : 0 < s.n) (p : Nat × Int) (hp : p ∈ L) (D : Nat) (hE : Ends s p.1 D) (hf : s.ids (pos s p.1 D) = p.1) (v : Int) :
    TI (s.put (pos s p.1 D) (-2) v (s.live - 1) s.used) (without L p.1) := by
  refine ⟨fun _ => ?_, fun h0 => absurd h0 (Nat.ne_of_gt hn), ?_, ?_, h.half, h.rising.filter _, fun q hq => h.few q (List.mem_filter.1 hq).1⟩
  · refine ((h.core hn).drop (rising_nodup h.rising) p hp D hE hf v (s.live - 1) s.used).congr (fun q => ?_)
    unfold without
    rw [List.mem_filter, List.mem_filter]
    constructor
    · rintro ⟨a, b⟩
      exact ⟨a, bne_iff_ne.2 (by have := bne_iff_ne.1 b; omega)⟩
    · rintro ⟨a, b⟩
      exact ⟨a, bne_iff_ne.2 (by have := bne_iff_ne.1 b; omega)⟩
  · have := without_len h.rising p hp
    have := h.live
    show s.live - 1 = _
    omega
  · show s.used = cntT (s.put (pos s p.1 D) (-2) v (s.live - 1) s.used) s.n
    rw [cntT_same s _ _ _ _ _ (by rw [hf]; omega) (by omega)]
    exact h.used
end Go.Proofs.Ytgnjjomfffmcaaa
