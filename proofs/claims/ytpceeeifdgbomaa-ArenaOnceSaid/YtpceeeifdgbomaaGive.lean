/- The walk of Give over the program's arena: false and no change where the handle is not live, else the slot comes back. -/
import Derived.Test.YtpceeeifdgbomaaState
namespace Go.Proofs.Ytpceeeifdgbomaa
open Go.RowKit

def St.give (s : St) (k : Nat) : St := { s with free := k :: s.free }
theorem St.live_iff (s : St) (k g : Int) : s.live k g = true ↔ ∃ m : Nat, k = m ∧ m < s.used ∧ m ∉ s.free ∧ (s.gen m : Int) = g := by
  unfold St.live
  simp only [Bool.and_eq_true, decide_eq_true_eq, beq_iff_eq]
  constructor
  · rintro ⟨⟨⟨h0, h1⟩, h2⟩, h3⟩
    exact ⟨k.toNat, by omega, by omega, h2, h3⟩
  · rintro ⟨m, rfl, h1, h2, h3⟩
    exact ⟨⟨⟨by omega, by omega⟩, by simpa using h2⟩, by simpa using h3⟩
theorem chain_upd (nx : Nat → Int) (m : Nat) (v : Int) : ∀ (l : List Nat) (t : Int), m ∉ l → chain nx t l → chain (fun j => if j = m then v else nx j) t l := by
  intro l
  induction l with
  | nil => intro t _ h; exact h
  | cons k l ih =>
    intro t hm h
    have hk : k ≠ m := fun e => hm (by simp [e])
    refine ⟨h.1, ?_⟩
    simp only [if_neg hk]
    exact ih _ (fun g => hm (by simp [g])) h.2
theorem nodup_len : ∀ (n : Nat) (l : List Nat), l.Nodup → (∀ k ∈ l, k < n) → l.length ≤ n := by
  intro n
  induction n with
  | zero =>
    intro l _ h
    cases l with
    | nil => simp
    | cons k l => have := h k (by simp); omega
  | succ n ih =>
    intro l hn h
    by_cases hm : n ∈ l
    · have h1 := ih (l.erase n) (hn.erase n) (fun k hk => by
        have hk' := (List.Nodup.mem_erase_iff hn).1 hk
        have := h k hk'.2
        have := hk'.1
        omega)
      rw [List.length_erase_of_mem hm] at h1
      omega
    · have := ih l hn (fun k hk => by
        have h1 := h k hk
        have : k ≠ n := fun e => hm (e ▸ hk)
        omega)
      omega
theorem free_len (s : St) (h : s.ok) : s.free.length ≤ s.used := nodup_len _ _ h.nodup h.lt
theorem free_lt (s : St) (h : s.ok) (m : Nat) (h1 : m < s.used) (h2 : m ∉ s.free) : s.free.length < s.used := by
  have := nodup_len s.used (m :: s.free) (List.nodup_cons.2 ⟨h2, h.nodup⟩) (fun k hk => by
    rcases List.mem_cons.1 hk with rfl | hk
    · exact h1
    · exact h.lt k hk)
  simp at this
  omega

set_option maxHeartbeats 400000 in
theorem give_no (w : World) (A G X : Nat) (top : Int) (nx : Nat → Int) (s : St) (h : AR w A G X top nx s) (k g : Int) (hk : -9223372036854775808 ≤ k) (hk' : k ≤ 9223372036854775807) (hl : s.live k g = false) :
    Calls Try.prog 11 #[.pointer (some ⟨A, 0, none⟩), .agg #[.int .i64 k, .int .i64 g]] w fun e w' => e = .returned (.bool false) ∧ Tch [] w w' := by
  have hA := h.a.lt
  have hG := h.g.lt
  have hX := h.x.lt
  have HH := Lib.hid h
  have HL := Lib.hid hl
  clear h hl
  go_enter Try.func11, Try.ntmps11
  go_wp2_with (go_at_call 13; refine (live_any _ A G X top nx s (HH.out.keep fun b hb => heap_old _ _ _ (by simp at hb; omega)) k g hk hk').mono ?_; rw [HL.out]; rintro e w1 ⟨rfl, ht⟩)
  go_ret
  exact ⟨rfl, ((Tch.refl _ _).new _).trans ht⟩

set_option maxHeartbeats 400000 in
theorem give_yes (w : World) (A G X : Nat) (top : Int) (nx : Nat → Int) (s : St) (h : AR w A G X top nx s) (m : Nat) (h1 : m < s.used) (h2 : m ∉ s.free) :
    Calls Try.prog 11 #[.pointer (some ⟨A, 0, none⟩), .agg #[.int .i64 m, .int .i64 (s.gen m)]] w fun e w' => e = .returned (.bool true) ∧ Tch [A, X] w w' ∧ ∃ top' nx', AR w' A G X top' nx' (s.give m) := by
  have hA := h.a.lt
  have hG := h.g.lt
  have hX := h.x.lt
  have hle := h.ok.le
  have hsm := h.ok.small
  have hfl := free_lt s h.ok m h1 h2
  have hz : ((s.used : Int) - s.free.length) ≤ 2000000 := by omega
  have hz' : 0 ≤ ((s.used : Int) - s.free.length) := by omega
  have ne2 := h.ne2
  have HH := Lib.hid h
  have HL : Hid (s.live m (s.gen m) = true) := Lib.hid ((St.live_iff s m _).2 ⟨m, rfl, h1, h2, rfl⟩)
  clear h
  go_enter Try.func11, Try.ntmps11
  go_wp2_with (go_at_call 13; refine (live_any _ A G X top nx s (HH.out.keep fun b hb => heap_old _ _ _ (by simp at hb; omega)) m (s.gen m) (by omega) (by omega)).mono ?_; rw [HL.out]; rintro e w1 ⟨rfl, ht⟩)
  have ha : Blk w1 A 44 5 _ := ht.blk (HH.out.a.new _) (by simp)
  have hx : Blk w1 X 3 s.n _ := ht.blk (HH.out.x.new _) (by simp)
  have hg : Blk w1 G 3 s.n _ := ht.blk (HH.out.g.new _) (by simp)
  have c1 : w1.cell? ⟨A, 1, none⟩ = some (.slice (some ⟨X, 0, none⟩) s.n s.n) := ha.cell 1 (by omega)
  have c2 : w1.cell? ⟨A, 2, none⟩ = some (.int .i64 top) := ha.cell 2 (by omega)
  obtain ⟨z, hzz⟩ : ∃ z, z = ((s.used : Int) - s.free.length) := ⟨_, rfl⟩
  have c4 : w1.cell? ⟨A, 4, none⟩ = some (.int .i64 z) := by rw [hzz]; exact ha.cell 4 (by omega)
  have cx : w1.cell? ⟨X, m, none⟩ = some (.int .i64 (nx m)) := hx.cell m (by omega)
  have cb := ht.cell w.heap.size 0 (by simp) (by simp)
  have fa := ha.frozen
  have fx := hx.frozen
  have z1 : 0 ≤ z := by omega
  have z2 : z ≤ 2000000 := by omega
  have HA := Lib.hid ha
  have HX := Lib.hid hx
  have HG := Lib.hid hg
  have HT := Lib.hid ht
  have HZ := Lib.hid hzz
  clear ha hx hg ht hzz hz hz'
  have ne2' : X ≠ A := fun e => ne2 e.symm
  go_region
  go_wp2
  go_ret
  refine ⟨rfl, ?_, m, (fun j => if j = m then top else nx j), ?_⟩
  · refine Tch.drew (Tch.set (Tch.set (Tch.set (((Tch.refl _ _).new _).trans (HT.out.mono (by simp))) (by simp) _) (by simp) _) (by simp) _)
  · have hok := HH.out.ok
    refine ⟨⟨List.nodup_cons.2 ⟨h2, hok.nodup⟩, ?_, hok.le, hok.small, hok.few⟩, ?_, HG.out.setNe _ _ ?_ |>.setNe _ _ ?_ |>.setNe _ _ ?_, ?_, HH.out.ne1, HH.out.ne2, HH.out.ne3, ?_, ?_⟩
    · intro k hk
      rcases List.mem_cons.1 hk with rfl | hk
      · exact h1
      · exact hok.lt k hk
    · refine (((HA.out.setNe m _ ne2).set 2 _).set 4 _).ext (fun k hk => ?_)
      have hz := HZ.out
      match k, hk with
      | 0, _ => rfl
      | 1, _ => rfl
      | 2, _ => rfl
      | 3, _ => rfl
      | 4, _ =>
        show Value.int .i64 (z - 1) = Value.int .i64 ((s.used : Int) - ((m :: s.free).length : Nat))
        rw [hz, List.length_cons]; congr 1; omega
    · exact HH.out.ne3
    · exact fun e => HH.out.ne1 e.symm
    · exact fun e => HH.out.ne1 e.symm
    · refine (((HX.out.set m _).setNe 2 _ ne2').setNe 4 _ ne2').ext (fun k hk => ?_)
      by_cases e : k = m
      · simp [e]
      · simp [e]
    · refine ⟨rfl, ?_⟩
      simp only [if_true]
      exact chain_upd nx m top _ _ h2 HH.out.ch
    · intro k hk hkn
      have hkm : k ≠ m := fun e => hkn (by simp [St.give, e])
      simp only [if_neg hkm]
      exact HH.out.busy k hk fun g => hkn (by simp [St.give, g])
end Go.Proofs.Ytpceeeifdgbomaa
