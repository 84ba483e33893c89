/- Slices of structs of ints, as a law's argument: what each of their cells holds. No condition of its own. -/
import Derived.Test.YtgnjjomfffmcaaaMem
import Derived.OpenShut
import Derived.Deep.Slices
namespace Go.Proofs.Ytgnjjomfffmcaaa
open Go.ChangeShapes Go.WideShapes Go.RowKit Go.Deep

theorem cell_plain' {w : World} {a : Addr} {v : Value} (h : w.cell? a = some v) : ∃ b o, a = ⟨b, o, none⟩ ∧ b < w.heap.size := by
  obtain ⟨b, o, sp⟩ := a
  unfold World.cell? at h
  cases hb : w.heap[b]? with
  | none => simp [hb] at h
  | some x =>
    cases sp with
    | none => exact ⟨b, o, rfl, lt_of_heap hb⟩
    | some y => cases x <;> simp [hb] at h
theorem add_plain' (b o i : Nat) : (⟨b, o, none⟩ : Addr).add i = ⟨b, o + i, none⟩ := by unfold Addr.add; split <;> simp_all

/-- Each of a struct's cells is an int. -/
def IntCells (M : Nat) (cs : List Value) : Prop := ∃ f : Nat → Int, ∀ j, j < M → (Lit.int .i64 (f j)).wf = true ∧ cs[j]? = some (.int .i64 (f j))

section
variable {H : Type} {enc : TypeId × Value → H} {P : Program} {w : World} {base : Nat} {sp : Nat → Bool} {held : Bool}
theorem flat_struct {t : TypeId} {fs : Array Field} {n : Nat} {cs : List Value} {x : DataW H × List MemPlace} (M : Nat) (ht : P.underlying t = some (.struct fs)) (h3 : P.underlying 3 = some (.int .i64)) (hc : P.cellsOf 3 = 1)
    (hfs : ∀ i, i < M → ∃ f, fs[i]? = some f ∧ f.type = 3 ∧ f.offset = i) (h : DataW.trod enc P w base sp held n t cs = some x) : IntCells M cs := by
  obtain ⟨xs, n, _, rfl, hl, hlen, hf⟩ := DataW.trod_struct ht h
  have hh : ∀ i, i < M → ∃ z : Int, (Lit.int .i64 z).wf = true ∧ cs[i]? = some (.int .i64 z) := by
    intro i hi
    obtain ⟨f, hfi, h1, h2⟩ := hfs i hi
    have := hf i f hfi
    rw [h1, h2, hc] at this
    have hlt : i < xs.length := by
      rw [hlen]
      rcases Nat.lt_or_ge i fs.size with g | g
      · exact g
      · rw [Array.getElem?_eq_none g] at hfi; cases hfi
    rw [List.getElem?_eq_getElem hlt] at this
    obtain ⟨z, e, _, wf⟩ := DataW.trod_int h3 this
    refine ⟨z, wf, ?_⟩
    have : ((cs.drop i).take 1)[0]? = some (.int .i64 z) := by rw [e]; rfl
    simpa using this
  exact ⟨fun i => if hi : i < M then Classical.choose (hh i hi) else 0, fun j hj => by simp only [dif_pos hj]; exact Classical.choose_spec (hh j hj)⟩

theorem structs_arg {t e : TypeId} {v : Value} {d : DataW H} {ps : List MemPlace} (M : Nat) (hM : 0 < M) (ht : P.underlying t = some (.slice e)) (hc : P.cellsOf e = M) (h1 : v.cells.toList = [v])
    (he : ∀ n cs x, DataW.trod enc P w base sp held n e cs = some x → IntCells M cs) (h : DataW.Trod enc P w base sp held t v d ps) :
    ∃ ao L cap, v = .slice ao L cap ∧ L ≤ maxLen ∧ (0 < L → ∃ b off, ao = some ⟨b, off, none⟩ ∧ b < w.heap.size ∧ ∃ F : Nat → Nat → Int, ∀ i, i < L → ∀ j, j < M → (Lit.int .i64 (F i j)).wf = true ∧ w.cell? ⟨b, off + i * M + j, none⟩ = some (.int .i64 (F i j))) := by
  obtain ⟨fuel, hf⟩ := h
  rw [h1] at hf
  rcases open_slice ht hf with ⟨hv, _⟩ | ⟨a, len, cap, m, n, D, Pl, hv, hb, hl, hm, hmm, _, hx⟩
  · have : v = .slice none 0 0 := by simpa using hv
    subst this
    exact ⟨none, 0, 0, rfl, by unfold maxLen; omega, fun h => by omega⟩
  · have : v = .slice (some a) len cap := by simpa using hv
    subst this
    have hlm : len ≤ m := by rw [hmm]; split <;> omega
    refine ⟨_, len, cap, rfl, by omega, fun h0 => ?_⟩
    rw [hc] at hx
    have hcell : ∀ i, i < len → ∃ f : Nat → Int, ∀ j, j < M → (Lit.int .i64 (f j)).wf = true ∧ w.cell? ((a.add (i * M)).add j) = some (.int .i64 (f j)) := by
      intro i hi
      obtain ⟨cs', g1, g2⟩ := hx i (by omega)
      obtain ⟨_, _, g3⟩ := World.cells?_some g1
      obtain ⟨f, hf⟩ := he _ _ _ g2
      exact ⟨f, fun j hj => ⟨(hf j hj).1, (g3 j hj).trans (hf j hj).2⟩⟩
    obtain ⟨f0, hf0⟩ := hcell 0 h0
    have h00 := (hf0 0 hM).2
    have e0 : (a.add (0 * M)).add 0 = a := by unfold Addr.add; simp
    rw [e0] at h00
    obtain ⟨b, o, rfl, hbl⟩ := cell_plain' h00
    obtain ⟨F, hF⟩ := choose_lt (α := Nat → Int) hcell
    refine ⟨b, o, rfl, hbl, F, fun i hi j hj => ?_⟩
    have := hF i hi j hj
    rwa [add_plain', add_plain'] at this
end
end Go.Proofs.Ytgnjjomfffmcaaa
