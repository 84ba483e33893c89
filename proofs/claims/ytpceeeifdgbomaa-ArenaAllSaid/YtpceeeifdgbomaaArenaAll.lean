/- ArenaAll holds: as many slots go as there are, each once, from 0 on, and the one that came back last goes first; for every number and every bytes. -/
import Derived.Test.YtpceeeifdgbomaaAll
import Derived.Test.YtpceeeifdgbomaaClose
namespace Go.Proofs.Ytpceeeifdgbomaa
open Go.ChangeShapes Go.WideShapes Go.ChangeAt Go.RowKit

theorem cell_plain {w : World} {a : Addr} {v : Value} (h : w.cell? a = some v) : ∃ b o, a = ⟨b, o, none⟩ ∧ b < w.heap.size := by
  obtain ⟨b, o, sp⟩ := a
  unfold World.cell? at h
  cases hb : w.heap[b]? with
  | none => simp [hb] at h
  | some x =>
    cases sp with
    | none => exact ⟨b, o, rfl, lt_of_heap hb⟩
    | some y => cases x <;> simp [hb] at h
theorem add_plain (b o i : Nat) : (⟨b, o, none⟩ : Addr).add i = ⟨b, o + i, none⟩ := by unfold Addr.add; split <;> simp_all
theorem ints_arg {H : Type} {enc : TypeId × Value → H} {P : Program} {w : World} {base : Nat} {sp : Nat → Bool} {held : Bool} {t e : TypeId} {k : IntKind} {v : Value} {d : DataW H} {ps : List MemPlace} (ht : P.underlying t = some (.slice e)) (he : P.underlying e = some (.int k)) (hc : P.cellsOf e = 1)
    (h1 : v.cells.toList = [v]) (h : DataW.Trod enc P w base sp held t v d ps) :
    ∃ ao L cap, v = .slice ao L cap ∧ L ≤ maxLen ∧ (0 < L → ∃ b off, ao = some ⟨b, off, none⟩ ∧ b < w.heap.size ∧ ∀ i, i < L → ∃ z : Int, (Lit.int k z).wf = true ∧ w.cell? ⟨b, off + i, none⟩ = some (.int k z)) := by
  obtain ⟨fuel, hf⟩ := h
  rw [h1] at hf
  rcases open_ints ht he hc hf with ⟨hv, _⟩ | ⟨a, len, cap, zs, hv, _, hl, hm, hlen, _, hcell, hwf⟩
  · have : v = .slice none 0 0 := by simpa using hv
    subst this
    exact ⟨none, 0, 0, rfl, by unfold maxLen; omega, fun h => by omega⟩
  · have : v = .slice (some a) len cap := by simpa using hv
    subst this
    have hzl : len ≤ zs.length := by rw [hlen]; split <;> omega
    refine ⟨_, len, cap, rfl, by omega, fun h0 => ?_⟩
    have h00 := hcell 0 (by omega)
    have e0 : a.add 0 = a := by unfold Addr.add; simp
    rw [e0] at h00
    obtain ⟨b, o, rfl, hb⟩ := cell_plain h00
    refine ⟨b, o, rfl, hb, fun i hi => ⟨zs.getD i 0, hwf _ ?_, ?_⟩⟩
    · rw [List.getD_eq_getElem?_getD, List.getElem?_eq_getElem (by omega)]
      exact List.getElem_mem _
    · have := hcell i (by omega)
      rwa [add_plain] at this


set_option maxRecDepth 100000 in
theorem arenaAll_lifted (os : Os) (started : os.Started) (H : Type) (enc : TypeId × Value → H) :
    ReturnsInHanded {} Try.checked os 6 .any (Rows.arenaAllSpec.pre6 enc Try.prog Try.f6 Rows.arenaAllRow.domain false) (Rows.arenaAllSpec.post enc Try.prog Try.f6 false true false false) := by
  refine returnsInHanded_of_change (C := Try.checked) Try.own started (by kernel_rfl) Try.func6
    (ChangeSpec.witness6 (enc := enc) (C := Try.checked) false ⟨#[], #[.int .u8 0, .slice none 0 0], []⟩ 8 (by kernel_rfl) (by kernel_rfl) (by kernel_rfl) (by kernel_rfl)) ?_
  intro W base args ds gs before hval0 hW hcnd _
  have hval : ∀ (j : Nat) t v, Try.f6.params[j]? = some t → args[j]? = some v → Value.okWide Try.prog W .any base t v := hval0
  have hW' := hW
  obtain ⟨p, q, hA0, hV, rfl, hfz, hnd⟩ := hW
  have hA : DataW.TrodAll enc Try.prog W 0 (fun _ => true) true Try.f6.params.toList args.toList ds p := hA0
  rw [Try.params6] at hA hval
  obtain ⟨v0, v1, d0, d1, p0, p1, rfl, rfl, rfl, h0, h1⟩ := trodAll_two hA
  obtain ⟨rfl, rfl⟩ := trodVars_none hV
  obtain ⟨n0, rfl, rfl, rfl, wn0⟩ := open_int Try.underlying5 (hval 0 5 v0 rfl rfl) h0
  have b0 : 0 ≤ n0 ∧ n0 ≤ 255 := by simpa [Lit.wf, IntKind.min, IntKind.max, IntKind.signed, IntKind.bits] using wn0
  obtain ⟨k0, rfl⟩ := Int.eq_ofNat_of_zero_le b0.1
  obtain ⟨ao, L, cap, rfl, hL, hback⟩ := ints_arg Try.underlying40 Try.underlying5 (by kernel_rfl) (by obtain ⟨_, _, _, rfl⟩ := okWide_slice Try.underlying40 (hval 1 40 v1 rfl rfl); rfl) h1
  unfold maxLen at hL
  refine (all_any k0 (by omega) ao L cap (by omega) W (fun h0 => by
    obtain ⟨b, off, e1, e2, e3⟩ := hback h0
    refine ⟨b, off, e1, e2, fun i hi => ?_⟩
    obtain ⟨z, hz, hzc⟩ := e3 i hi
    have bz : 0 ≤ z ∧ z ≤ 255 := by simpa [Lit.wf, IntKind.min, IntKind.max, IntKind.signed, IntKind.bits] using hz
    obtain ⟨y, rfl⟩ := Int.eq_ofNat_of_zero_le bz.1
    exact ⟨y, by omega, hzc⟩)).mono fun e W' ⟨he, hw⟩ => ?_
  subst he
  exact ⟨_, rfl, law_close (bt := 4) rfl Try.underlying4 rfl Try.laidOut (of_decide_eq_true (by kernel_rfl)) hW' rfl hw⟩

theorem arenaAll_holds : Rows.ArenaAllSaid :=
  OpenClaim.holds_of_wide 6 Try.f6 rfl rfl rfl rfl rfl rfl rfl ⟨rfl, rfl, rfl, rfl, rfl⟩ rfl rfl rfl rfl rfl (by kernel_rfl) Try.func6 (by kernel_rfl)
    (of_decide_eq_true (by kernel_rfl)) (by unfold Func.isWrapper; first | (rw [if_pos (by decide +kernel)]; kernel_rfl) | (rw [if_neg (by decide +kernel)]; exact ⟨rfl, rfl⟩))
    (fun os started H enc _ => arenaAll_lifted os started H enc)
end Go.Proofs.Ytpceeeifdgbomaa
