/- Slices that are read only: their parts, and appending them to a slice that a call owns. No condition of its own. -/
import Derived.Test.YtgnjjomfffmcaaaAnySl
namespace Go.Proofs.Ytgnjjomfffmcaaa
open Go.RowKit

/-- A slice of m elements whose cells are these. -/
def View (w : World) (size : Nat) (ao : Option Addr) (m c : Nat) (news : List Value) : Prop :=
  news.length = m * size ∧ (ao = none → m = 0 ∧ c = 0) ∧ (∀ ad, ao = some ad → ∀ j u, news[j]? = some u → w.cell? (ad.add j) = some u)
theorem View.same {w w' : World} {size : Nat} {ao : Option Addr} {m c : Nat} {news : List Value} (h : View w size ao m c news) (hc : ∀ ad, ao = some ad → ∀ j, j < m * size → w'.cell? (ad.add j) = w.cell? (ad.add j)) : View w' size ao m c news := by
  refine ⟨h.1, h.2.1, fun ad ha j u hj => ?_⟩
  have hjl : j < m * size := by
    rw [← h.1]
    rcases Nat.lt_or_ge j news.length with g | g
    · exact g
    · rw [List.getElem?_eq_none g] at hj; cases hj
  rw [hc ad ha j hjl]
  exact h.2.2 ad ha j u hj
theorem view_own {w : World} {B : Nat} {e : TypeId} {size : Nat} {ao : Option Addr} {n c : Nat} {xs : List Value} (h : w.ownsRow B e size (.slice ao n c) n xs) : View w size ao n c xs := by
  refine ⟨h.1, fun e => ?_, fun ad ha j u hj => ?_⟩
  · subst e
    rcases h.2 with ⟨e, e2⟩ | ⟨g, cap, cur, e, _⟩
    · simp at e; omega
    · simp at e
  · subst ha
    obtain ⟨g, e⟩ : ∃ g, ad = ⟨g, 0, none⟩ := by
      rcases h.2 with ⟨e, _⟩ | ⟨g, cap, cur, e, _⟩
      · simp at e
      · simp at e; exact ⟨g, e.1⟩
    subst e
    have e1 : (⟨g, 0, none⟩ : Addr).add j = ⟨g, j, none⟩ := by unfold Addr.add; split <;> simp_all
    have hjl : j < n * size := by
      rw [← h.1]
      rcases Nat.lt_or_ge j xs.length with g | g
      · exact g
      · rw [List.getElem?_eq_none g] at hj; cases hj
    rw [e1, owns_cell h j hjl, hj]
/-- A stretch of a row that is owned. -/
theorem view_part {w : World} {B : Nat} {e : TypeId} {size : Nat} {ao : Option Addr} {n c : Nat} {xs : List Value} (h : w.ownsRow B e size (.slice ao n c) n xs) (l m : Nat) (hlm : l + m ≤ n) (a1 : Option Addr) (c1 : Nat)
    (ha : a1 = if c1 = 0 then ao else ao.map (·.add (l * size))) (hc : c1 = c - l) (hcap : n ≤ c) : View w size a1 m c1 ((xs.drop (l * size)).take (m * size)) := by
  have hx := h.1
  have V := view_own h
  refine ⟨?_, fun e => ?_, fun ad had j u hj => ?_⟩
  · rw [List.length_take, List.length_drop, hx]
    have : l * size + m * size ≤ n * size := by rw [← Nat.add_mul]; exact Nat.mul_le_mul_right _ hlm
    omega
  · subst e
    have hao : ao = none := by
      split at ha
      · exact ha.symm
      · cases ao with
        | none => rfl
        | some x => simp at ha
    obtain ⟨h1, h2⟩ := V.2.1 hao
    omega
  · have hjl : j < m * size := by
      rcases Nat.lt_or_ge j (m * size) with g | g
      · exact g
      · rw [List.getElem?_eq_none (by rw [List.length_take]; omega)] at hj; cases hj
    rw [List.getElem?_take_of_lt hjl, List.getElem?_drop] at hj
    subst had
    by_cases h0 : c1 = 0
    · have hm0 : m = 0 := by omega
      subst hm0
      simp at hjl
    · rw [if_neg h0] at ha
      cases ao with
      | none => simp at ha
      | some a0 =>
        simp at ha
        subst ha
        have := V.2.2 a0 rfl _ _ hj
        have e : (a0.add (l * size)).add j = a0.add (l * size + j) := by
          unfold Addr.add
          by_cases e1 : l * size = 0
          · simp [e1]
          · by_cases e2 : j = 0
            · simp [e1, e2]
            · simp [e1, e2, Nat.add_assoc]
        rw [e]
        exact this
theorem run_append_view {P : Program} {t e : TypeId} {size bytes : Nat} (E : ElemT P t e size bytes) (ty : TypeId) (w : World) (B : Nat) (v : Value) (n : Nat) (xs : List Value) (hown : w.ownsRow B e size v n xs)
    (sa : Option Addr) (m c : Nat) (news : List Value) (hV : View w size sa m c news) (h1 : ∀ u ∈ news, u.oneCell' = true)
    (h63 : n + m ≤ maxLen) (hbytes : (n + m) * bytes ≤ 140737488355328) (hbase : B ≤ w.heap.size) :
    ∃ ao cap w', (Builtin.append_ #[t, t] ty #[v, .slice sa m c]).run P w = .ok (.slice ao (n + m) cap) w' ∧ w'.ownsRow B e size (.slice ao (n + m) cap) (n + m) (xs ++ news) ∧ Tch v.ownBlock.toList w w' ∧
      (∀ g, (Value.slice ao (n + m) cap).ownBlock = some g → g ∈ v.ownBlock.toList ∨ g = w.heap.size) := by
  cases sa with
  | some ad => exact run_append E ty w B v n xs hown ad m c news hV.1 (hV.2.2 ad rfl) h1 h63 hbytes hbase
  | none =>
    obtain ⟨rfl, rfl⟩ := hV.2.1 rfl
    have hn : news = [] := List.length_eq_zero_iff.1 (by have := hV.1; omega)
    subst hn
    obtain ⟨i, z, hi, _⟩ := E.ex
    obtain ⟨ao, cap, rfl, _⟩ := owns_form hown
    exact ⟨ao, cap, w, run_append_owned_none (w := w) B t ty e i size E.ht hi _ n xs hown, by simpa using hown, Tch.refl _ _, fun g hg => .inl (by simpa using hg)⟩
theorem wp_appendV {P : Program} {t e : TypeId} {size bytes : Nat} (E : ElemT P t e size bytes) {w : World} {o : Oper} {a : Act} {K : Act → World → Prop} {Q : Exit → Act → World → Prop} (s x : Operand)
    (ho : o.op = .call { callee := .builtin .append, args := #[s, x], argTypes := #[t, t] })
    (B : Nat) (v : Value) (n : Nat) (xs : List Value) (hs : a.eval s = v) (hown : w.ownsRow B e size v n xs)
    (sa : Option Addr) (m c : Nat) (news : List Value) (hx : a.eval x = .slice sa m c) (hV : View w size sa m c news) (h1 : ∀ u ∈ news, u.oneCell' = true)
    (h63 : n + m ≤ maxLen) (hbytes : (n + m) * bytes ≤ 140737488355328) (hbase : B ≤ w.heap.size) (k : Nat) (hk : k = n + m)
    (h : ∀ ao cap w', w'.ownsRow B e size (.slice ao k cap) k (xs ++ news) → Tch v.ownBlock.toList w w' → (∀ g, (Value.slice ao k cap).ownBlock = some g → g ∈ v.ownBlock.toList ∨ g = w.heap.size) → K (a.put o.dst (.slice ao k cap)) w') : o.wp P a w K Q := by
  subst hk
  obtain ⟨ao, cap, w', hr, h2, h3, h4⟩ := run_append_view (P := P) E o.type w B v n xs hown sa m c news hV h1 h63 hbytes hbase
  unfold Oper.wp execOp
  simp only [ho, resolve, invoke, builtin, Sem.run_bind, Sem.run_pure, Result.andThen_ok, List.map_toArray, List.map_cons, List.map_nil, hs, hx, hr]
  exact h ao cap w' h2 h3 h4
theorem wpList_appendV {P : Program} {t e : TypeId} {size bytes : Nat} (E : ElemT P t e size bytes) {w : World} {ops : Array Oper} {rest : List Oper} {o : Oper} {a : Act} {Q : Exit → Act → World → Prop} (hgd : o.guard = none) (s x : Operand)
    (ho : o.op = .call { callee := .builtin .append, args := #[s, x], argTypes := #[t, t] })
    (B : Nat) (v : Value) (n : Nat) (xs : List Value) (hs : a.eval s = v) (hown : w.ownsRow B e size v n xs)
    (sa : Option Addr) (m c : Nat) (news : List Value) (hx : a.eval x = .slice sa m c) (hV : View w size sa m c news) (h1 : ∀ u ∈ news, u.oneCell' = true)
    (h63 : n + m ≤ maxLen) (hbytes : (n + m) * bytes ≤ 140737488355328) (hbase : B ≤ w.heap.size) (k : Nat) (hk : k = n + m)
    (h : ∀ ao cap w', w'.ownsRow B e size (.slice ao k cap) k (xs ++ news) → Tch v.ownBlock.toList w w' → (∀ g, (Value.slice ao k cap).ownBlock = some g → g ∈ v.ownBlock.toList ∨ g = w.heap.size) → wpList P ops Q rest (a.put o.dst (.slice ao k cap)) w') : wpList P ops Q (o :: rest) a w :=
  wpList_plain hgd fun _ hK => wp_appendV E s x ho B v n xs hs hown sa m c news hx hV h1 h63 hbytes hbase k hk fun ao cap w' h2 h3 h4 => hK _ _ (h ao cap w' h2 h3 h4)
theorem wpE_appendV {P : Program} {t e : TypeId} {size bytes : Nat} (E : ElemT P t e size bytes) {w : World} {ops : Array Oper} {a : Act} {Q : Exit → Act → World → Prop} {i : Nat} {ks : List Nat} {p q : Plan} {o : Oper} (hi : ops[i]? = some o) (hw : Region.wanted o (yielded ops a.tmps) = true) (s x : Operand)
    (ho : o.op = .call { callee := .builtin .append, args := #[s, x], argTypes := #[t, t] })
    (B : Nat) (v : Value) (n : Nat) (xs : List Value) (hs : a.eval s = v) (hown : w.ownsRow B e size v n xs)
    (sa : Option Addr) (m c : Nat) (news : List Value) (hx : a.eval x = .slice sa m c) (hV : View w size sa m c news) (h1 : ∀ u ∈ news, u.oneCell' = true)
    (h63 : n + m ≤ maxLen) (hbytes : (n + m) * bytes ≤ 140737488355328) (hbase : B ≤ w.heap.size) (k : Nat) (hk : k = n + m)
    (h : ∀ ao cap w', w'.ownsRow B e size (.slice ao k cap) k (xs ++ news) → Tch v.ownBlock.toList w w' → (∀ g, (Value.slice ao k cap).ownBlock = some g → g ∈ v.ownBlock.toList ∨ g = w.heap.size) → Agains P ops ks (a.put o.dst (.slice ao k cap)) w' ∧ wpE P ops Q p (a.put o.dst (.slice ao k cap)) w')
    (hq : wpE P ops Q q a w) : wpE P ops Q (.fork i ks p q) a w :=
  wpE_fork hi hw (fun _ hK => wp_appendV E s x ho B v n xs hs hown sa m c news hx hV h1 h63 hbytes hbase k hk fun ao cap w' h2 h3 h4 => hK _ _ (h ao cap w' h2 h3 h4)) hq

section
variable {P : Program} {t e : TypeId} {size bytes : Nat}
theorem elem_size (E : ElemT P t e size bytes) (w : World) : (sizeOf (P.elem t)).run P w = .ok size w := by
  obtain ⟨i, z, hi, _, hs, _⟩ := E.ex
  have he : P.elem t = e := by simp [Program.elem, E.ht]
  simp [sizeOf, typeInfo, he, hi, hs]
theorem elem_ht (E : ElemT P t e size bytes) : P.underlying t = some (.slice (P.elem t)) := by simp [Program.elem, E.ht]
/-- s[:k]. -/
theorem run_head (E : ElemT P t e size bytes) (ao : Option Addr) (n c k : Nat) (z : Int) (hz : z = (k : Int)) (hk : k ≤ c) (W : World) :
    (Instr.slice t (.slice ao n c) none (some (.int .i64 z)) none).run P W = .ok (.slice (if c = 0 then ao else ao.map (·.add (0 * size))) k c) W := by
  subst hz
  rw [run_slice_h W t ao n c (elem_ht E) .i64 _ (by omega) (by omega), elem_size E]
  simp [Result.andThen, sliced]
/-- s[k:]. -/
theorem run_tail (E : ElemT P t e size bytes) (ao : Option Addr) (n c k : Nat) (z : Int) (hz : z = (k : Int)) (hk : k ≤ n) (hn : n ≤ c) (W : World) :
    (Instr.slice t (.slice ao n c) (some (.int .i64 z)) none none).run P W = .ok (.slice (if c - k = 0 then ao else ao.map (·.add (k * size))) (n - k) (c - k)) W := by
  subst hz
  rw [run_slice_l W t ao n c (elem_ht E) .i64 _ (by omega) (by omega), elem_size E]
  have : c = k ↔ c - k = 0 := by omega
  simp [Result.andThen, sliced, this]
theorem owns_caps {w : World} {B : Nat} {v : Option Addr} {n c : Nat} {xs : List Value} (h : w.ownsRow B e size (.slice v n c) n xs) : n ≤ c ∧ c ≤ maxLen := by
  rcases h.2 with ⟨e, e2⟩ | ⟨g, cap, cur, e, _, _, h1, h2, _⟩
  · simp at e
    obtain ⟨rfl, rfl, rfl⟩ := e
    exact ⟨Nat.le_refl _, Nat.zero_le _⟩
  · simp at e
    obtain ⟨rfl, rfl⟩ := e
    exact ⟨h1, h2⟩
/-- An empty slice that isn't nil. -/
theorem owns_made {w : World} {B b : Nat} (hb : w.heap[b]? = some (.cells #[] e (0, 0))) (hB : B ≤ b) : w.ownsRow B e size (.slice (some ⟨b, 0, none⟩) 0 0) 0 [] :=
  ⟨by simp, .inr ⟨b, 0, #[], rfl, hB, hb, Nat.le_refl _, Nat.zero_le _, by simp, by simp⟩⟩
end
end Go.Proofs.Ytgnjjomfffmcaaa
