/- What Put and Drop do to what Get tells; a law's argument that is a slice of numbers. No condition of its own. -/
import Derived.Test.YtgnjjomfffmcaaaTab
import Derived.Test.YtgnjjomfffmcaaaArgs
namespace Go.Proofs.Ytgnjjomfffmcaaa
open Go.ChangeShapes Go.WideShapes Go.RowKit Go.Deep

theorem look_cases {L : List (Nat × Int)} (hr : Rising L) (id : Int) : (∃ p ∈ L, (p.1 : Int) = id ∧ look L id = (p.2, true)) ∨ ((∀ p ∈ L, (p.1 : Int) ≠ id) ∧ look L id = (0, false)) := by
  by_cases h : ∃ p ∈ L, (p.1 : Int) = id
  · obtain ⟨p, hp, rfl⟩ := h
    exact .inl ⟨p, hp, rfl, look_yes hr p hp⟩
  · have h' : ∀ p ∈ L, (p.1 : Int) ≠ id := fun p hp e => h ⟨p, hp, e⟩
    exact .inr ⟨h', look_no id h'⟩
/-- Two rising lists in which an id has the same. -/
theorem look_congr {L M : List (Nat × Int)} (hL : Rising L) (hM : Rising M) (id : Int) (h : ∀ p : Nat × Int, (p.1 : Int) = id → (p ∈ L ↔ p ∈ M)) : look L id = look M id := by
  rcases look_cases hL id with ⟨p, hp, e, h1⟩ | ⟨hn, h1⟩
  · rw [h1, ← e, look_yes hM p ((h p e).1 hp)]
  · rw [h1, look_no id (fun p hp e => hn p ((h p e).2 hp) e)]
theorem puts_rising {L : List (Nat × Int)} (h : Rising L) (id v : Int) : Rising (puts L id v).2 := by
  unfold puts
  split
  · exact h
  · rename_i hn
    refine rising_ins _ _ h (fun q hq e => hn (.inr (.inr ?_)))
    have : (q.1 : Int) = id := by simp at e; omega
    rw [← this, look_yes h q hq]
theorem puts_len (L : List (Nat × Int)) (id v : Int) : (puts L id v).2.length = L.length + (if (puts L id v).1 = true then 1 else 0) := by
  unfold puts
  split
  · simp
  · simp [len_ins]
theorem puts_look_ne {L : List (Nat × Int)} (h : Rising L) (id v j : Int) (hj : j ≠ id) : look (puts L id v).2 j = look L j := by
  refine look_congr (puts_rising h id v) h j (fun p hp => ?_)
  unfold puts
  split
  · rfl
  · rename_i hn
    rw [mem_ins]
    constructor
    · rintro (e | e)
      · subst e; simp at hp; omega
      · exact e
    · exact .inr
theorem puts_yes {L : List (Nat × Int)} (id v : Int) (h0 : 0 ≤ id) (h1 : id ≤ 2147483647) (hl : (look L id).2 = false) : puts L id v = (true, ins (id.toNat, v) L) := by
  unfold puts
  rw [if_neg (by rw [hl]; simp; omega)]
theorem puts_no {L : List (Nat × Int)} (id v : Int) (hl : (look L id).2 = true) : puts L id v = (false, L) := by
  unfold puts
  rw [if_pos (.inr (.inr hl))]
theorem puts_look_new {L : List (Nat × Int)} (h : Rising L) (id v : Int) (h0 : 0 ≤ id) (h1 : id ≤ 2147483647) (hl : (look L id).2 = false) : look (puts L id v).2 id = (v, true) := by
  have hr := puts_rising h id v
  rw [puts_yes id v h0 h1 hl] at hr ⊢
  have := look_yes hr (id.toNat, v) ((mem_ins _ _ _).2 (.inl rfl))
  rwa [Int.toNat_of_nonneg h0] at this
/-- Put at any id: what Get tells of that id behind it. -/
theorem puts_look_same {L : List (Nat × Int)} (h : Rising L) (id v : Int) (h0 : 0 ≤ id) (h1 : id ≤ 2147483647) : look (puts L id v).2 id = if (look L id).2 = true then look L id else (v, true) := by
  by_cases hl : (look L id).2 = true
  · rw [puts_no id v hl, if_pos hl]
  · rw [if_neg hl]
    exact puts_look_new h id v h0 h1 (by simpa using hl)
theorem without_rising {L : List (Nat × Int)} (h : Rising L) (id : Int) : Rising (without L id) := h.filter _
theorem without_look_ne {L : List (Nat × Int)} (h : Rising L) (id j : Int) (hj : j ≠ id) : look (without L id) j = look L j := by
  refine look_congr (without_rising h id) h j (fun p hp => ?_)
  unfold without
  rw [List.mem_filter]
  constructor
  · exact fun g => g.1
  · exact fun g => ⟨g, bne_iff_ne.2 (by omega)⟩
theorem without_look_same (L : List (Nat × Int)) (id : Int) : look (without L id) id = (0, false) := by
  refine look_no id (fun p hp => ?_)
  unfold without at hp
  exact bne_iff_ne.1 (List.mem_filter.1 hp).2
theorem without_count {L : List (Nat × Int)} (h : Rising L) (id : Int) : (without L id).length + (if (look L id).2 = true then 1 else 0) = L.length := by
  rcases look_cases h id with ⟨p, hp, e, h1⟩ | ⟨hn, h1⟩
  · rw [h1, ← e]
    simpa using without_len h p hp
  · rw [h1, without_no id hn]
    simp

section
variable {H : Type} {enc : TypeId × Value → H} {P : Program} {w : World} {base : Nat} {sp : Nat → Bool} {held : Bool}
/-- A slice of numbers as a law's argument. -/
theorem nums_arg {t e : TypeId} {K : IntKind} {v : Value} {d : DataW H} {ps : List MemPlace} (ht : P.underlying t = some (.slice e)) (he : P.underlying e = some (.int K)) (hc : P.cellsOf e = 1) (h1 : v.cells.toList = [v])
    (h : DataW.Trod enc P w base sp held t v d ps) :
    ∃ ao L cap, v = .slice ao L cap ∧ L ≤ maxLen ∧ (0 < L → ∃ b off, ao = some ⟨b, off, none⟩ ∧ b < w.heap.size ∧ ∃ F : Nat → Int, ∀ i, i < L → (Lit.int K (F i)).wf = true ∧ w.cell? ⟨b, off + i, none⟩ = some (.int K (F i))) := by
  obtain ⟨fuel, hf⟩ := h
  rw [h1] at hf
  rcases open_slice ht hf with ⟨hv, _⟩ | ⟨a, len, cap, m, n, D, Pl, hv, hb, hl, hm, hmm, _, hx⟩
  · have : v = .slice none 0 0 := by simpa using hv
    subst this
    exact ⟨none, 0, 0, rfl, by unfold maxLen; omega, fun h => by omega⟩
  · have : v = .slice (some a) len cap := by simpa using hv
    subst this
    have hlm : len ≤ m := by rw [hmm]; split <;> omega
    refine ⟨_, len, cap, rfl, by omega, fun h0 => ?_⟩
    rw [hc] at hx
    have hcell : ∀ i, i < len → ∃ z : Int, (Lit.int K z).wf = true ∧ w.cell? (a.add i) = some (.int K z) := by
      intro i hi
      obtain ⟨cs', g1, g2⟩ := hx i (by omega)
      obtain ⟨_, _, g3⟩ := World.cells?_some g1
      obtain ⟨z, e1, _, wf⟩ := DataW.trod_int he g2
      refine ⟨z, wf, ?_⟩
      have := g3 0 (by omega)
      rw [e1] at this
      have e0 : (a.add (i * 1)).add 0 = a.add i := by unfold Addr.add; split <;> simp_all
      rw [e0] at this
      simpa using this
    obtain ⟨z0, _, h00⟩ := hcell 0 h0
    have e0 : a.add 0 = a := by unfold Addr.add; split <;> simp_all
    rw [e0] at h00
    obtain ⟨b, o, rfl, hbl⟩ := cell_plain' h00
    obtain ⟨F, hF⟩ := choose_lt (α := Int) hcell
    refine ⟨b, o, rfl, hbl, F, fun i hi => ?_⟩
    have := hF i hi
    rwa [add_plain'] at this
end
end Go.Proofs.Ytgnjjomfffmcaaa
