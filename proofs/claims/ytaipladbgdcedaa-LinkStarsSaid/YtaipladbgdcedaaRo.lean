/- Slices and arrays of small numbers as a law's arguments. No condition of its own. -/
import Derived.Test.YtaipladbgdcedaaGrown
import Derived.Test.YtaipladbgdcedaaMa
import Derived.OpenShut
import Derived.Deep.Slices
import Derived.WideShapes
set_option linter.unusedSimpArgs false
set_option linter.unusedVariables false
namespace Go.Proofs.Ytaipladbgdcedaa
open Go.ChangeShapes Go.WideShapes Go.RowKit Go.Deep

section
variable {H : Type} {enc : TypeId × Value → H} {P : Program} {w : World} {base : Nat} {sp : Nat → Bool} {held : Bool}
/-- A slice of numbers as a law's argument. -/
theorem nums_arg {t e : TypeId} {K : IntKind} {v : Value} {d : DataW H} {ps : List MemPlace} (ht : P.underlying t = some (.slice e)) (he : P.underlying e = some (.int K)) (hc : P.cellsOf e = 1) (h1 : v.cells.toList = [v])
    (h : DataW.Trod enc P w base sp held t v d ps) :
    ∃ ao L cap, v = .slice ao L cap ∧ L ≤ maxLen ∧ (0 < L → ∃ b off, ao = some ⟨b, off, none⟩ ∧ b < w.heap.size ∧ ∃ F : Nat → Int, ∀ i, i < L → (Lit.int K (F i)).wf = true ∧ w.cell? ⟨b, off + i, none⟩ = some (.int K (F i))) := by
  obtain ⟨fuel, hf⟩ := h
  rw [h1] at hf
  rcases open_slice ht hf with ⟨hv, _⟩ | ⟨a, len, cap, m, n, D, Pl, hv, hb, hl, hm, hmm, _, hx⟩
  · have : v = .slice none 0 0 := by simpa using hv
    subst this
    exact ⟨none, 0, 0, rfl, by unfold maxLen; omega, fun h => by omega⟩
  · have : v = .slice (some a) len cap := by simpa using hv
    subst this
    have hlm : len ≤ m := by rw [hmm]; split <;> omega
    refine ⟨_, len, cap, rfl, by omega, fun h0 => ?_⟩
    rw [hc] at hx
    have hcell : ∀ i, i < len → ∃ z : Int, (Lit.int K z).wf = true ∧ w.cell? (a.add i) = some (.int K z) := by
      intro i hi
      obtain ⟨cs', g1, g2⟩ := hx i (by omega)
      obtain ⟨_, _, g3⟩ := World.cells?_some g1
      obtain ⟨z, e1, _, wf⟩ := DataW.trod_int he g2
      refine ⟨z, wf, ?_⟩
      have := g3 0 (by omega)
      rw [e1] at this
      have e0 : (a.add (i * 1)).add 0 = a.add i := by unfold Addr.add; split <;> simp_all
      rw [e0] at this
      simpa using this
    obtain ⟨z0, _, h00⟩ := hcell 0 h0
    have e0 : a.add 0 = a := by unfold Addr.add; split <;> simp_all
    rw [e0] at h00
    obtain ⟨b, o, rfl, hbl⟩ := cell_plain' h00
    obtain ⟨F, hF⟩ := choose_lt (α := Int) hcell
    refine ⟨b, o, rfl, hbl, F, fun i hi => ?_⟩
    have := hF i hi
    rwa [add_plain'] at this
/-- An array of numbers as a law's argument. -/
theorem okWide_arr {P : Program} {w : World} {r : Reach} {base : Nat} {t : TypeId} {v : Value} {M : Nat} {e : TypeId} (ht : P.underlying t = some (.array M e)) (h : Value.okWide P w r base t v) : ∃ cs, v = .agg cs ∧ cs.size = P.cellsOf t := by
  simp only [Value.okWide, ht] at h
  obtain ⟨cs, h1, h2, _⟩ := h
  exact ⟨cs, h1, h2⟩
theorem arr_arg {t e : TypeId} {K : IntKind} {M : Nat} {v : Value} {d : DataW H} {ps : List MemPlace} (ht : P.underlying t = some (.array M e)) (he : P.underlying e = some (.int K)) (hc : P.cellsOf e = 1) (hct : P.cellsOf t = M) (hv : ∃ cs, v = .agg cs ∧ cs.size = P.cellsOf t)
    (h : DataW.Trod enc P w base sp held t v d ps) : ∃ cs : Array Value, v = .agg cs ∧ cs.size = M ∧ ∀ i, i < M → ∃ z : Int, (Lit.int K z).wf = true ∧ cs[i]? = some (.int K z) := by
  obtain ⟨cs, rfl, hsz⟩ := hv
  obtain ⟨fuel, hf⟩ := h
  obtain ⟨xs, m, _, ex, hlen, hl, hel⟩ := DataW.trod_array ht hf
  refine ⟨cs, rfl, by omega, fun i hi => ?_⟩
  have hE := hel i hi
  rw [hc, Nat.mul_one, List.getElem?_eq_getElem (by omega)] at hE
  obtain ⟨z, e1, _, wf⟩ := DataW.trod_int he hE
  refine ⟨z, wf, ?_⟩
  have h0 : (((Value.agg cs).cells.toList.drop i).take 1)[0]? = some (.int K z) := by rw [e1]; rfl
  simpa [Value.cells] using h0
theorem arr_two {K : IntKind} {cs : Array Value} (hs : cs.size = 2) (h : ∀ i, i < 2 → ∃ z : Int, (Lit.int K z).wf = true ∧ cs[i]? = some (.int K z)) : ∃ a b : Int, cs = #[.int K a, .int K b] ∧ (Lit.int K a).wf = true ∧ (Lit.int K b).wf = true := by
  obtain ⟨a, wa, ea⟩ := h 0 (by omega)
  obtain ⟨b, wb, eb⟩ := h 1 (by omega)
  refine ⟨a, b, ?_, wa, wb⟩
  apply Array.ext_getElem?
  intro i
  match i with
  | 0 => rw [ea]; rfl
  | 1 => rw [eb]; rfl
  | i + 2 => rw [Array.getElem?_eq_none (by omega)]; exact (Array.getElem?_eq_none (by simp)).symm
theorem arr_three {K : IntKind} {cs : Array Value} (hs : cs.size = 3) (h : ∀ i, i < 3 → ∃ z : Int, (Lit.int K z).wf = true ∧ cs[i]? = some (.int K z)) : ∃ a b c : Int, cs = #[.int K a, .int K b, .int K c] ∧ (Lit.int K a).wf = true ∧ (Lit.int K b).wf = true ∧ (Lit.int K c).wf = true := by
  obtain ⟨a, wa, ea⟩ := h 0 (by omega)
  obtain ⟨b, wb, eb⟩ := h 1 (by omega)
  obtain ⟨c, wc, ec⟩ := h 2 (by omega)
  refine ⟨a, b, c, ?_, wa, wb, wc⟩
  apply Array.ext_getElem?
  intro i
  match i with
  | 0 => rw [ea]; rfl
  | 1 => rw [eb]; rfl
  | 2 => rw [ec]; rfl
  | i + 3 => rw [Array.getElem?_eq_none (by omega)]; exact (Array.getElem?_eq_none (by simp)).symm
end
theorem row_of {w : World} {K : IntKind} {ao : Option Addr} {L : Nat} (h : 0 < L → ∃ b off, ao = some ⟨b, off, none⟩ ∧ b < w.heap.size ∧ ∃ F : Nat → Int, ∀ i, i < L → (Lit.int K (F i)).wf = true ∧ w.cell? ⟨b, off + i, none⟩ = some (.int K (F i))) : ∃ f, RowAt w K ao L f := by
  rcases Nat.eq_zero_or_pos L with e | e
  · exact ⟨fun _ => 0, fun h0 => by omega⟩
  · obtain ⟨b, off, h1, h2, F, hF⟩ := h e
    exact ⟨F, fun _ => ⟨b, off, h1, h2, hF⟩⟩
def acell2 (a b : Value) : Nat → Value := fun k => match k with | 0 => a | _ => b
def acell3 (a b c : Value) : Nat → Value := fun k => match k with | 0 => a | 1 => b | _ => c
theorem two_made (w : World) (T : TypeId) (a b : Value) : Blk (w.alloc (.cells #[a, b] T)) w.heap.size T 2 (acell2 a b) :=
  Blk.made (w := w) T #[a, b] (acell2 a b) (fun k hk => match k, hk with | 0, _ => rfl | 1, _ => rfl)
theorem three_made (w : World) (T : TypeId) (a b c : Value) : Blk (w.alloc (.cells #[a, b, c] T)) w.heap.size T 3 (acell3 a b c) :=
  Blk.made (w := w) T #[a, b, c] (acell3 a b c) (fun k hk => match k, hk with | 0, _ => rfl | 1, _ => rfl | 2, _ => rfl)
end Go.Proofs.Ytaipladbgdcedaa
