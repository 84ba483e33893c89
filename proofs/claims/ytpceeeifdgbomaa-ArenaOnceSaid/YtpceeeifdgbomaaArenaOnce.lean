/- ArenaOnce holds: no slot is away twice at a time, and no handle of one that came back is live again; for every steps. -/
import Derived.Test.YtpceeeifdgbomaaOnceWalk
import Derived.Test.YtpceeeifdgbomaaClose
import Derived.Test.YtpceeeifdgbomaaArgs
import Derived.Lib.SmallJoins
import Derived.Deep.Strs
namespace Go.Proofs.Ytpceeeifdgbomaa
open Go.ChangeShapes Go.WideShapes Go.ChangeAt Go.RowKit

theorem handle_cells {H : Type} {enc : TypeId × Value → H} {w : World} {base : Nat} {sp : Nat → Bool} {held : Bool} {n : Nat} {cs : List Value} {x : DataW H × List MemPlace} (h : DataW.trod enc Try.prog w base sp held n 29 cs = some x) : IntCells 2 cs :=
  flat_struct 2 Try.underlying29 Try.underlying3 (by kernel_rfl) (fun i hi => match i, hi with | 0, _ => ⟨_, rfl, rfl, rfl⟩ | 1, _ => ⟨_, rfl, rfl, rfl⟩) h
theorem act_cells {H : Type} {enc : TypeId × Value → H} {w : World} {base : Nat} {sp : Nat → Bool} {held : Bool} {n : Nat} {cs : List Value} {x : DataW H × List MemPlace} (h : DataW.trod enc Try.prog w base sp held n 31 cs = some x) : IntCells 4 cs := by
  obtain ⟨y0, y1, y2, m, rfl, hl, h0, h1, h2⟩ := Go.Deep.trod_struct3 Try.underlying31 h
  have c3 : Try.prog.cellsOf 3 = 1 := by kernel_rfl
  have c29 : Try.prog.cellsOf 29 = 2 := by kernel_rfl
  obtain ⟨a, e0, _, wa⟩ := DataW.trod_int Try.underlying3 h0
  obtain ⟨b, e1, _, wb⟩ := DataW.trod_int Try.underlying3 h1
  obtain ⟨f, hf⟩ := handle_cells h2
  have hf0 := hf 0 (by omega)
  have hf1 := hf 1 (by omega)
  simp only [c3, c29] at e0 e1 hf0 hf1
  have k0 : cs[0]? = some (.int .i64 a) := by
    have : (List.take 1 (List.drop 0 cs))[0]? = some (.int .i64 a) := by rw [e0]; rfl
    simpa using this
  have k1 : cs[1]? = some (.int .i64 b) := by
    have : (List.take 1 (List.drop 1 cs))[0]? = some (.int .i64 b) := by rw [e1]; rfl
    simpa using this
  have k2 : cs[2]? = some (.int .i64 (f 0)) := by simpa using hf0.2
  have k3 : cs[3]? = some (.int .i64 (f 1)) := by simpa using hf1.2
  refine ⟨fun j => match j with | 0 => a | 1 => b | 2 => f 0 | _ => f 1, fun j hj => ?_⟩
  match j, hj with
  | 0, _ => exact ⟨wa, k0⟩
  | 1, _ => exact ⟨wb, k1⟩
  | 2, _ => exact ⟨hf0.1, k2⟩
  | 3, _ => exact ⟨hf1.1, k3⟩


set_option maxRecDepth 100000 in
theorem arenaOnce_lifted (os : Os) (started : os.Started) (H : Type) (enc : TypeId × Value → H) :
    ReturnsInHanded {} Try.checked os 4 .any (Rows.arenaOnceSpec.pre6 enc Try.prog Try.f4 Rows.arenaOnceRow.domain false) (Rows.arenaOnceSpec.post enc Try.prog Try.f4 false true false false) := by
  refine returnsInHanded_of_change (C := Try.checked) Try.own started (by kernel_rfl) Try.func4
    (ChangeSpec.witness6 (enc := enc) (C := Try.checked) false ⟨#[], #[.int .u8 0, .slice none 0 0], []⟩ 8 (by kernel_rfl) (by kernel_rfl) (by kernel_rfl) (by kernel_rfl)) ?_
  intro W base args ds gs before hval0 hW hcnd _
  have hval : ∀ (j : Nat) t v, Try.f4.params[j]? = some t → args[j]? = some v → Value.okWide Try.prog W .any base t v := hval0
  have hW' := hW
  obtain ⟨p, q, hA0, hV, rfl, hfz, hnd⟩ := hW
  have hA : DataW.TrodAll enc Try.prog W 0 (fun _ => true) true Try.f4.params.toList args.toList ds p := hA0
  rw [Try.params4] at hA hval
  obtain ⟨v0, v1, d0, d1, p0, p1, rfl, rfl, rfl, h0, h1⟩ := trodAll_two hA
  obtain ⟨rfl, rfl⟩ := trodVars_none hV
  obtain ⟨n0, rfl, rfl, rfl, wn0⟩ := open_int Try.underlying5 (hval 0 5 v0 rfl rfl) h0
  have b0 : 0 ≤ n0 ∧ n0 ≤ 255 := by simpa [Lit.wf, IntKind.min, IntKind.max, IntKind.signed, IntKind.bits] using wn0
  obtain ⟨k0, rfl⟩ := Int.eq_ofNat_of_zero_le b0.1
  obtain ⟨ao, L, cap, rfl, hL, hback⟩ := structs_arg 4 (by omega) Try.underlying22 (by kernel_rfl) (by obtain ⟨_, _, _, rfl⟩ := okWide_slice Try.underlying22 (hval 1 22 v1 rfl rfl); rfl) (fun n cs x hx => act_cells hx) h1
  unfold maxLen at hL
  refine (once_any k0 (by omega) ao L cap (by omega) W hback).mono fun e W' ⟨he, hw⟩ => ?_
  subst he
  exact ⟨_, rfl, law_close (bt := 4) rfl Try.underlying4 rfl Try.laidOut (of_decide_eq_true (by kernel_rfl)) hW' rfl hw⟩

theorem arenaOnce_holds : Rows.ArenaOnceSaid :=
  OpenClaim.holds_of_wide 4 Try.f4 rfl rfl rfl rfl rfl rfl rfl ⟨rfl, rfl, rfl, rfl, rfl⟩ rfl rfl rfl rfl rfl (by kernel_rfl) Try.func4 (by kernel_rfl)
    (of_decide_eq_true (by kernel_rfl)) (by unfold Func.isWrapper; first | (rw [if_pos (by decide +kernel)]; kernel_rfl) | (rw [if_neg (by decide +kernel)]; exact ⟨rfl, rfl⟩))
    (fun os started H enc _ => arenaOnce_lifted os started H enc)
end Go.Proofs.Ytpceeeifdgbomaa
