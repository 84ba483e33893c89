/- Appending inside a statement whose order is open. No condition of its own. -/
import Derived.Test.YtgnjjomfffmcaaaSl
import Derived.Test.YtgnjjomfffmcaaaAny
namespace Go.Proofs.Ytgnjjomfffmcaaa
open Go.RowKit

theorem wp_appendO {P : Program} {t e : TypeId} {size bytes : Nat} (E : ElemT P t e size bytes) {w : World} {o : Oper} {a : Act} {K : Act → World → Prop} {Q : Exit → Act → World → Prop} (s x : Operand)
    (ho : o.op = .call { callee := .builtin .append, args := #[s, x], argTypes := #[t, t] })
    (B : Nat) (v : Value) (n : Nat) (xs : List Value) (hown : w.ownsRow B e size v n xs) (hs : a.eval s = v)
    (ad : Addr) (m c : Nat) (news : List Value) (hx : a.eval x = .slice (some ad) m c) (hl : news.length = m * size) (hnews : ∀ j u, news[j]? = some u → w.cell? (ad.add j) = some u) (h1 : ∀ u ∈ news, u.oneCell' = true)
    (h63 : n + m ≤ maxLen) (hbytes : (n + m) * bytes ≤ 140737488355328) (hbase : B ≤ w.heap.size)
    (h : ∀ ao cap w', w'.ownsRow B e size (.slice ao (n + m) cap) (n + m) (xs ++ news) → Tch v.ownBlock.toList w w' → (∀ g, (Value.slice ao (n + m) cap).ownBlock = some g → g ∈ v.ownBlock.toList ∨ g = w.heap.size) → K (a.put o.dst (.slice ao (n + m) cap)) w') : o.wp P a w K Q := by
  obtain ⟨ao, cap, w', hr, h2, h3, h4⟩ := run_append (P := P) E o.type w B v n xs hown ad m c news hl hnews h1 h63 hbytes hbase
  unfold Oper.wp execOp
  simp only [ho, resolve, invoke, builtin, Sem.run_bind, Sem.run_pure, Result.andThen_ok, List.map_toArray, List.map_cons, List.map_nil, hs, hx, hr]
  exact h ao cap w' h2 h3 h4
theorem news_one {w : World} {b : Nat} {news : List Value} {T : TypeId} {fz : Nat × Nat} (hb : w.heap[b]? = some (.cells news.toArray T fz)) : ∀ j u, news[j]? = some u → w.cell? ((⟨b, 0, none⟩ : Addr).add j) = some u := fun j u hj => by
  have e1 : (⟨b, 0, none⟩ : Addr).add j = ⟨b, j, none⟩ := by unfold Addr.add; split <;> simp_all
  rw [e1, cell_of hb]
  simpa using hj
theorem wpE_append {P : Program} {t e : TypeId} {size bytes : Nat} (E : ElemT P t e size bytes) {w : World} {ops : Array Oper} {a : Act} {Q : Exit → Act → World → Prop} {i : Nat} {ks : List Nat} {p q : Plan} {o : Oper} (hi : ops[i]? = some o) (hw : Region.wanted o (yielded ops a.tmps) = true) (s x : Operand)
    (ho : o.op = .call { callee := .builtin .append, args := #[s, x], argTypes := #[t, t] })
    (B : Nat) (v : Value) (n : Nat) (xs : List Value) (hown : w.ownsRow B e size v n xs) (hs : a.eval s = v)
    (ad : Addr) (m c : Nat) (news : List Value) (hx : a.eval x = .slice (some ad) m c) (hl : news.length = m * size) (hnews : ∀ j u, news[j]? = some u → w.cell? (ad.add j) = some u) (h1 : ∀ u ∈ news, u.oneCell' = true)
    (h63 : n + m ≤ maxLen) (hbytes : (n + m) * bytes ≤ 140737488355328) (hbase : B ≤ w.heap.size)
    (h : ∀ ao cap w', w'.ownsRow B e size (.slice ao (n + m) cap) (n + m) (xs ++ news) → Tch v.ownBlock.toList w w' → (∀ g, (Value.slice ao (n + m) cap).ownBlock = some g → g ∈ v.ownBlock.toList ∨ g = w.heap.size) → Agains P ops ks (a.put o.dst (.slice ao (n + m) cap)) w' ∧ wpE P ops Q p (a.put o.dst (.slice ao (n + m) cap)) w')
    (hq : wpE P ops Q q a w) : wpE P ops Q (.fork i ks p q) a w :=
  wpE_fork hi hw (fun _ hK => wp_appendO E s x ho B v n xs hown hs ad m c news hx hl hnews h1 h63 hbytes hbase fun ao cap w' h2 h3 h4 => hK _ _ (h ao cap w' h2 h3 h4)) hq
end Go.Proofs.Ytgnjjomfffmcaaa
