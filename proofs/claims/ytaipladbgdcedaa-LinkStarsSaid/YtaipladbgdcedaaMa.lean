/- Memory, slices, drawn orders, arguments: what every walk leans on. No condition of its own. -/
import Derived.WalkKit
import Derived.Deep.Quiet
import Derived.Laws.MakeOwn
import Derived.Laws.OwnMore
import Derived.Maps.AppendAt
import Derived.Deep.AppendLies
import Derived.Orders
import Derived.OpenShut
import Derived.Deep.Slices
set_option linter.unusedSimpArgs false
set_option linter.unusedVariables false
namespace Go.Proofs.Ytaipladbgdcedaa
open Go.RowKit

theorem heap_set {w : World} {b : Nat} {cs : Array Value} {T : TypeId} {fz : Nat × Nat} (h : w.heap[b]? = some (.cells cs T fz)) (off : Nat) (v : Value) :
    (w.setCell ⟨b, off, none⟩ v).heap[b]? = some (.cells (cs.setIfInBounds off v) T fz) := by
  simp [World.setCell, Array.getElem?_modify, h]
theorem heap_set_ne {w : World} {b : Nat} (c off : Nat) (v : Value) (h : b ≠ c) : (w.setCell ⟨c, off, none⟩ v).heap[b]? = w.heap[b]? := Below.heap_setCell w _ v b h
theorem size_set (w : World) (a : Addr) (v : Value) : (w.setCell a v).heap.size = w.heap.size := by simp [World.setCell]
theorem heap_new (w : World) (o : Obj) : (w.alloc o).heap[w.heap.size]? = some o := by
  show (w.heap.push o)[w.heap.size]? = _
  simp
theorem heap_new_at (w : World) (o : Obj) (b : Nat) (hb : b = w.heap.size) : (w.alloc o).heap[b]? = some o := by rw [hb]; exact heap_new w o
theorem heap_old (w : World) (o : Obj) (b : Nat) (h : b < w.heap.size) : (w.alloc o).heap[b]? = w.heap[b]? := Below.heap_alloc w o b h
theorem size_new (w : World) (o : Obj) : (w.alloc o).heap.size = w.heap.size + 1 := by
  show (w.heap.push o).size = _
  simp
theorem lt_of_heap {w : World} {b : Nat} {o : Obj} (h : w.heap[b]? = some o) : b < w.heap.size := by
  rcases Nat.lt_or_ge b w.heap.size with g | g
  · exact g
  · rw [Array.getElem?_eq_none g] at h; cases h
theorem cell_of {w : World} {b : Nat} {cs : Array Value} {T : TypeId} {fz : Nat × Nat} (h : w.heap[b]? = some (.cells cs T fz)) (o : Nat) : w.cell? ⟨b, o, none⟩ = cs[o]? := by
  simp [World.cell?, h]
theorem frozen_of {w : World} {b : Nat} {cs : Array Value} {T : TypeId} (h : w.heap[b]? = some (.cells cs T (0, 0))) (o : Nat) : w.frozen? ⟨b, o, none⟩ = false := by
  simp [World.frozen?, h]
theorem cell_same {w w' : World} {b : Nat} (h : w'.heap[b]? = w.heap[b]?) (o : Nat) : w'.cell? ⟨b, o, none⟩ = w.cell? ⟨b, o, none⟩ := by
  simp [World.cell?, h]
theorem frozen_same {w w' : World} {b : Nat} (h : w'.heap[b]? = w.heap[b]?) (o : Nat) : w'.frozen? ⟨b, o, none⟩ = w.frozen? ⟨b, o, none⟩ := by
  simp [World.frozen?, h]
theorem below_drewN {B : Nat} {a w : World} (h : Below B a w) (n : Nat) : Below B a (w.drewN n) := ⟨h.os, h.tape, h.output, h.size, h.block⟩

/-- A block of n cells, not frozen, whose k-th cell holds g k. -/
def Blk (w : World) (b : Nat) (T : TypeId) (n : Nat) (g : Nat → Value) : Prop := ∃ cs, w.heap[b]? = some (.cells cs T (0, 0)) ∧ cs.size = n ∧ ∀ k, k < n → cs[k]? = some (g k)
theorem Blk.cell {w : World} {b : Nat} {T : TypeId} {n : Nat} {g : Nat → Value} (h : Blk w b T n g) (k : Nat) (hk : k < n) : w.cell? ⟨b, k, none⟩ = some (g k) := by
  obtain ⟨cs, h1, h2, h3⟩ := h
  rw [cell_of h1, h3 k hk]
theorem Blk.frozen {w : World} {b : Nat} {T : TypeId} {n : Nat} {g : Nat → Value} (h : Blk w b T n g) (k : Nat) : w.frozen? ⟨b, k, none⟩ = false := by
  obtain ⟨cs, h1, h2, h3⟩ := h
  exact frozen_of h1 k
theorem Blk.lt {w : World} {b : Nat} {T : TypeId} {n : Nat} {g : Nat → Value} (h : Blk w b T n g) : b < w.heap.size := by
  obtain ⟨cs, h1, h2, h3⟩ := h
  exact lt_of_heap h1
theorem Blk.keep {w w' : World} {b : Nat} {T : TypeId} {n : Nat} {g : Nat → Value} (h : Blk w b T n g) (hb : w'.heap[b]? = w.heap[b]?) : Blk w' b T n g := by
  obtain ⟨cs, h1, h2, h3⟩ := h
  exact ⟨cs, hb.trans h1, h2, h3⟩
theorem Blk.ext {w : World} {b : Nat} {T : TypeId} {n : Nat} {g g' : Nat → Value} (h : Blk w b T n g) (he : ∀ k, k < n → g k = g' k) : Blk w b T n g' := by
  obtain ⟨cs, h1, h2, h3⟩ := h
  exact ⟨cs, h1, h2, fun k hk => by rw [h3 k hk, he k hk]⟩
theorem Blk.set {w : World} {b : Nat} {T : TypeId} {n : Nat} {g : Nat → Value} (h : Blk w b T n g) (k : Nat) (v : Value) : Blk (w.setCell ⟨b, k, none⟩ v) b T n (fun j => if j = k then v else g j) := by
  obtain ⟨cs, h1, h2, h3⟩ := h
  refine ⟨_, heap_set h1 k v, by simp [h2], fun j hj => ?_⟩
  by_cases e : j = k
  · subst e
    rw [Array.getElem?_setIfInBounds_self_of_lt (by omega)]
    simp only [if_true]
  · rw [Array.getElem?_setIfInBounds_ne (fun g => e g.symm), h3 j hj]
    simp only [if_neg e]
theorem Blk.setNe {w : World} {b c : Nat} {T : TypeId} {n : Nat} {g : Nat → Value} (h : Blk w b T n g) (k : Nat) (v : Value) (hne : b ≠ c) : Blk (w.setCell ⟨c, k, none⟩ v) b T n g :=
  h.keep (heap_set_ne _ _ _ hne)
theorem Blk.new {w : World} {b : Nat} {T : TypeId} {n : Nat} {g : Nat → Value} (h : Blk w b T n g) (o : Obj) : Blk (w.alloc o) b T n g := h.keep (heap_old _ _ _ h.lt)
theorem Blk.drewN {w : World} {b : Nat} {T : TypeId} {n : Nat} {g : Nat → Value} (h : Blk w b T n g) (k : Nat) : Blk (w.drewN k) b T n g := h
theorem Blk.drew {w : World} {b : Nat} {T : TypeId} {n : Nat} {g : Nat → Value} (h : Blk w b T n g) : Blk w.drew b T n g := h
theorem Blk.made {w : World} (T : TypeId) (cs : Array Value) (g : Nat → Value) (h : ∀ k, k < cs.size → cs[k]? = some (g k)) : Blk (w.alloc (.cells cs T (0, 0))) w.heap.size T cs.size g :=
  ⟨cs, heap_new _ _, rfl, h⟩

/-- The call may have turned the blocks of this list, and made new ones; nothing else. -/
structure Tch (bs : List Nat) (w w' : World) : Prop where
  os : w'.os = w.os
  tape : w'.tape = w.tape
  output : w'.output = w.output
  size : w.heap.size ≤ w'.heap.size
  block : ∀ k, k < w.heap.size → k ∉ bs → w'.heap[k]? = w.heap[k]?
theorem Tch.refl (bs : List Nat) (w : World) : Tch bs w w := ⟨rfl, rfl, rfl, Nat.le_refl _, fun _ _ _ => rfl⟩
theorem Tch.trans {bs : List Nat} {a b c : World} (h : Tch bs a b) (k : Tch bs b c) : Tch bs a c :=
  ⟨k.os.trans h.os, k.tape.trans h.tape, k.output.trans h.output, Nat.le_trans h.size k.size,
    fun i hi hn => (k.block i (Nat.lt_of_lt_of_le hi h.size) hn).trans (h.block i hi hn)⟩
theorem Tch.mono {bs cs : List Nat} {a b : World} (h : Tch bs a b) (hs : ∀ k ∈ bs, k ∈ cs) : Tch cs a b :=
  ⟨h.os, h.tape, h.output, h.size, fun i hi hn => h.block i hi fun g => hn (hs i g)⟩
theorem Tch.set {bs : List Nat} {a w : World} (h : Tch bs a w) {b off : Nat} (hb : b ∈ bs) (v : Value) : Tch bs a (w.setCell ⟨b, off, none⟩ v) :=
  h.trans ⟨rfl, rfl, rfl, by simp [World.setCell], fun k _ hn => heap_set_ne _ _ _ fun e => hn (e ▸ hb)⟩
theorem Tch.new {bs : List Nat} {a w : World} (h : Tch bs a w) (o : Obj) : Tch bs a (w.alloc o) :=
  h.trans ⟨rfl, rfl, rfl, by simp, fun _ hk _ => heap_old _ _ _ hk⟩
theorem Tch.drew {bs : List Nat} {a w : World} (h : Tch bs a w) : Tch bs a w.drew := ⟨h.os, h.tape, h.output, h.size, h.block⟩
theorem Tch.drewN {bs : List Nat} {a w : World} (h : Tch bs a w) (n : Nat) : Tch bs a (w.drewN n) := ⟨h.os, h.tape, h.output, h.size, h.block⟩
/-- A store into a block of the call's own. -/
theorem Tch.setNew {bs : List Nat} {a w : World} (h : Tch bs a w) {b off : Nat} (hb : a.heap.size ≤ b) (v : Value) : Tch bs a (w.setCell ⟨b, off, none⟩ v) :=
  ⟨h.os, h.tape, h.output, by rw [size_set]; exact h.size, fun k hk hn => (heap_set_ne _ _ _ (by omega)).trans (h.block k hk hn)⟩
theorem Tch.below {bs : List Nat} {W a b : World} {B : Nat} (h : Below B W a) (k : Tch bs a b) (hB : B ≤ a.heap.size) (hbs : ∀ x ∈ bs, B ≤ x) : Below B W b :=
  h.trans ⟨k.os, k.tape, k.output, k.size, fun i hi => k.block i (by omega) fun g => by have := hbs i g; omega⟩
theorem Below.tch {a b : World} (h : Below a.heap.size a b) : Tch [] a b := ⟨h.os, h.tape, h.output, h.size, fun k hk _ => h.block k hk⟩
theorem Tch.nil {a b : World} (h : Tch [] a b) : Below a.heap.size a b := ⟨h.os, h.tape, h.output, h.size, fun k hk => h.block k hk (by simp)⟩
theorem Tch.blk {bs : List Nat} {a c : World} (h : Tch bs a c) {b : Nat} {T : TypeId} {n : Nat} {g : Nat → Value} (k : Blk a b T n g) (hn : b ∉ bs) : Blk c b T n g := k.keep (h.block b k.lt hn)
theorem Tch.cell {bs : List Nat} {a b : World} (h : Tch bs a b) (k o : Nat) (hk : k < a.heap.size) (hn : k ∉ bs) : b.cell? ⟨k, o, none⟩ = a.cell? ⟨k, o, none⟩ := cell_same (h.block k hk hn) o

/-- 'make([]T, n)', exactly. -/
theorem run_make_at {P : Program} (t e : TypeId) (i : TypeInfo) (z : Value) (ht : P.underlying t = some (.slice e)) (hi : P.info? e = some i) (hz : i.zero = some z)
    (n : Nat) (hb : i.bytes * n ≤ 281474976710656) (hn : n ≤ 9223372036854775807) (w : World) :
    (Instr.makeSlice t (.int .i64 (n : Int)) (.int .i64 (n : Int))).run P w = .ok (.slice (some ⟨w.heap.size, 0, none⟩) n n) (w.alloc (.cells (madeCells z.cells (n * i.size)) e)) := by
  have hb' : (i.bytes : Int) * (n : Int) ≤ 281474976710656 := by
    have h : ((i.bytes * n : Nat) : Int) ≤ 281474976710656 := by omega
    rwa [Int.natCast_mul] at h
  have := run_make (P := P) w t e i z ht hi hz .i64 .i64 n n (by omega) (Int.le_refl _) hb' (by omega)
  simpa only [Int.toNat_natCast] using this
theorem made_one (z : Value) (n : Nat) : madeCells #[z] n = Array.replicate n z := by
  apply Array.toList_inj.1
  rw [toList_madeCells_one, Array.toList_replicate]
end Go.Proofs.Ytaipladbgdcedaa
namespace Go.Proofs.Ytaipladbgdcedaa
open Go.RowKit

/-- What the program's table says of a slice's type and its element's. -/
structure ElemT (P : Program) (t e : TypeId) (size bytes : Nat) : Prop where
  ht : P.underlying t = some (.slice e)
  ex : ∃ i z, P.info? e = some i ∧ i.zero = some z ∧ i.size = size ∧ i.bytes = bytes ∧ z.cells.size = size
  pos : 0 < size

theorem grown_tch {w w' : World} {v : Value} (h : w.grownBy w' v.ownBlock) : Tch v.ownBlock.toList w w' :=
  ⟨h.os, h.tape, h.output, h.size, fun k hk hn => h.block k hk (fun e => hn (by rw [← e]; simp))⟩
theorem owns_tch {w w' : World} {bs : List Nat} {B : Nat} {e : TypeId} {size : Nat} {v : Value} {n : Nat} {xs : List Value} (h : w.ownsRow B e size v n xs) (t : Tch bs w w') (hn : ∀ b, v.ownBlock = some b → b ∉ bs) :
    w'.ownsRow B e size v n xs := by
  refine ⟨h.1, ?_⟩
  rcases h.2 with h0 | ⟨g, cap, cur, rfl, hb, hg, rest⟩
  · exact .inl h0
  · exact .inr ⟨g, cap, cur, rfl, hb, (t.block g (lt_of_heap hg) (hn g rfl)).trans hg, rest⟩
theorem owns_base {w : World} {B : Nat} {e : TypeId} {size : Nat} {v : Value} {n : Nat} {xs : List Value} (h : w.ownsRow B e size v n xs) : ∀ b, v.ownBlock = some b → B ≤ b ∧ b < w.heap.size := h.lt
theorem owns_form {w : World} {B : Nat} {e : TypeId} {size : Nat} {v : Value} {n : Nat} {xs : List Value} (h : w.ownsRow B e size v n xs) :
    ∃ a cap, v = .slice a n cap ∧ (n = 0 ∨ ∃ g, a = some ⟨g, 0, none⟩) := by
  rcases h.2 with ⟨rfl, rfl⟩ | ⟨g, cap, cur, rfl, _⟩
  · exact ⟨none, 0, rfl, .inl rfl⟩
  · exact ⟨_, cap, rfl, .inr ⟨g, rfl⟩⟩
theorem owns_some {w : World} {B : Nat} {e : TypeId} {size : Nat} {v : Value} {n : Nat} {xs : List Value} (h : w.ownsRow B e size v n xs) (hn : 0 < n) :
    ∃ g cap, v = .slice (some ⟨g, 0, none⟩) n cap ∧ B ≤ g ∧ g < w.heap.size := h.form hn
theorem owns_new {w : World} {B : Nat} {e : TypeId} {size : Nat} {v : Value} {n : Nat} {xs : List Value} (h : w.ownsRow B e size v n xs) (o : Obj) : (w.alloc o).ownsRow B e size v n xs := h.alloc o
theorem owns_drewN {w : World} {B : Nat} {e : TypeId} {size : Nat} {v : Value} {n : Nat} {xs : List Value} (h : w.ownsRow B e size v n xs) (k : Nat) : (w.drewN k).ownsRow B e size v n xs := h
theorem owns_setNe {w : World} {B : Nat} {e : TypeId} {size : Nat} {v : Value} {n : Nat} {xs : List Value} (h : w.ownsRow B e size v n xs) (c k : Nat) (u : Value) (hn : v.ownBlock ≠ some c) : (w.setCell ⟨c, k, none⟩ u).ownsRow B e size v n xs := by
  refine ⟨h.1, ?_⟩
  rcases h.2 with h0 | ⟨g, cap, cur, rfl, hb, hg, rest⟩
  · exact .inl h0
  · exact .inr ⟨g, cap, cur, rfl, hb, (heap_set_ne _ _ _ (fun e => hn (by simp [Value.ownBlock, e]))).trans hg, rest⟩
theorem owns_cell {w : World} {B : Nat} {e : TypeId} {size : Nat} {g n cap : Nat} {xs : List Value} (h : w.ownsRow B e size (.slice (some ⟨g, 0, none⟩) n cap) n xs) (j : Nat) (hj : j < n * size) : w.cell? ⟨g, j, none⟩ = xs[j]? := h.cellAt j hj

theorem run_append {P : Program} {t e : TypeId} {size bytes : Nat} (E : ElemT P t e size bytes) (ty : TypeId) (w : World) (B : Nat) (v : Value) (n : Nat) (xs : List Value) (hown : w.ownsRow B e size v n xs)
    (ad : Addr) (m c : Nat) (news : List Value) (hl : news.length = m * size) (hnews : ∀ j u, news[j]? = some u → w.cell? (ad.add j) = some u) (h1 : ∀ u ∈ news, u.oneCell' = true)
    (h63 : n + m ≤ maxLen) (hbytes : (n + m) * bytes ≤ 140737488355328) (hbase : B ≤ w.heap.size) :
    ∃ ao cap w', (Builtin.append_ #[t, t] ty #[v, .slice (some ad) m c]).run P w = .ok (.slice ao (n + m) cap) w' ∧ w'.ownsRow B e size (.slice ao (n + m) cap) (n + m) (xs ++ news) ∧ Tch v.ownBlock.toList w w' ∧
      (∀ g, (Value.slice ao (n + m) cap).ownBlock = some g → g ∈ v.ownBlock.toList ∨ g = w.heap.size) := by
  obtain ⟨i, z, hi, hz, hsize, hby, hzs⟩ := E.ex
  obtain ⟨v', w', hr, h2, h3, h4, h5⟩ := run_append_own_at (P := P) w B t ty e i z size bytes E.ht hi hz hsize hby hzs E.pos v n xs hown ad m c news hl hnews h1 h63 hbytes hbase
  obtain ⟨ao, cap, rfl, _⟩ := owns_form h2
  refine ⟨ao, cap, w', hr, h2, grown_tch h3, fun g hg => ?_⟩
  rcases h5 with h5 | h5
  · exact .inl (by rw [h5] at hg; simp [hg])
  · exact .inr (by rw [h5] at hg; exact (Option.some.inj hg).symm)

theorem wpList_append {P : Program} {t e : TypeId} {size bytes : Nat} (E : ElemT P t e size bytes) {w : World} {ops : Array Oper} {rest : List Oper} {o : Oper} {a : Act} {Q : Exit → Act → World → Prop} (hgd : o.guard = none) (s x : Operand)
    (ho : o.op = .call { callee := .builtin .append, args := #[s, x], argTypes := #[t, t] })
    (B : Nat) (v : Value) (n : Nat) (xs : List Value) (hown : w.ownsRow B e size v n xs) (hs : a.eval s = v)
    (ad : Addr) (m c : Nat) (news : List Value) (hx : a.eval x = .slice (some ad) m c) (hl : news.length = m * size) (hnews : ∀ j u, news[j]? = some u → w.cell? (ad.add j) = some u) (h1 : ∀ u ∈ news, u.oneCell' = true)
    (h63 : n + m ≤ maxLen) (hbytes : (n + m) * bytes ≤ 140737488355328) (hbase : B ≤ w.heap.size)
    (h : ∀ ao cap w', w'.ownsRow B e size (.slice ao (n + m) cap) (n + m) (xs ++ news) → Tch v.ownBlock.toList w w' → (∀ g, (Value.slice ao (n + m) cap).ownBlock = some g → g ∈ v.ownBlock.toList ∨ g = w.heap.size) → wpList P ops Q rest (a.put o.dst (.slice ao (n + m) cap)) w') : wpList P ops Q (o :: rest) a w := by
  refine wpList_plain hgd fun K hK => ?_
  obtain ⟨ao, cap, w', hr, h2, h3, h4⟩ := run_append (P := P) E o.type w B v n xs hown ad m c news hl hnews h1 h63 hbytes hbase
  unfold Oper.wp execOp
  simp only [ho, resolve, invoke, builtin, Sem.run_bind, Sem.run_pure, Result.andThen_ok, List.map_toArray, List.map_cons, List.map_nil, hs, hx, hr]
  exact hK _ _ (h ao cap w' h2 h3 h4)
/-- One element, just built in a block of its own. -/
theorem wpList_append1 {P : Program} {t e : TypeId} {size bytes : Nat} (E : ElemT P t e size bytes) {w : World} {ops : Array Oper} {rest : List Oper} {o : Oper} {a : Act} {Q : Exit → Act → World → Prop} (hgd : o.guard = none) (s x : Operand)
    (ho : o.op = .call { callee := .builtin .append, args := #[s, x], argTypes := #[t, t] })
    (B : Nat) (v : Value) (n : Nat) (xs : List Value) (hown : w.ownsRow B e size v n xs) (hs : a.eval s = v)
    (b c : Nat) (news : List Value) (hx : a.eval x = .slice (some ⟨b, 0, none⟩) 1 c) (hl : news.length = size) (fz : Nat × Nat) (T : TypeId) (hb : w.heap[b]? = some (.cells news.toArray T fz)) (h1 : ∀ u ∈ news, u.oneCell' = true)
    (h63 : n + 1 ≤ maxLen) (hbytes : (n + 1) * bytes ≤ 140737488355328) (hbase : B ≤ w.heap.size)
    (h : ∀ ao cap w', w'.ownsRow B e size (.slice ao (n + 1) cap) (n + 1) (xs ++ news) → Tch v.ownBlock.toList w w' → (∀ g, (Value.slice ao (n + 1) cap).ownBlock = some g → g ∈ v.ownBlock.toList ∨ g = w.heap.size) → wpList P ops Q rest (a.put o.dst (.slice ao (n + 1) cap)) w') : wpList P ops Q (o :: rest) a w :=
  wpList_append E hgd s x ho B v n xs hown hs ⟨b, 0, none⟩ 1 c news hx (by omega) (fun j u hj => by
    have e1 : (⟨b, 0, none⟩ : Addr).add j = ⟨b, j, none⟩ := by unfold Addr.add; split <;> simp_all
    rw [e1, cell_of hb]
    simpa using hj) h1 h63 hbytes hbase h
end Go.Proofs.Ytaipladbgdcedaa
namespace Go.Proofs.Ytaipladbgdcedaa
open Go.RowKit

/-- In which order a region is walked: some operations that change nothing, one behind the other; then whichever effect may come next, and what is to be looked at again behind it. -/
inductive Plan where
  | done
  | takes (l : List Nat) (p : Plan)
  | fork (i : Nat) (ks : List Nat) (p q : Plan)
  | none

def opCls : Op → Nat
  | .move _ | .assign _ | .pick .. | .extract .. => 0
  | .nilCheck _ | .fieldAddr .. | .field .. | .indexAddr .. | .index .. | .load .. | .binOp .. | .unOp .. | .convert .. | .slice .. | .build .. => 1
  | .call { callee := .builtin .len, .. } | .call { callee := .builtin .cap, .. } | .call { callee := .builtin .min, .. } | .call { callee := .builtin .max, .. } => 1
  | _ => 2
def clsAt (ops : Array Oper) (i : Nat) : Nat := match ops[i]? with | some o => opCls o.op | Option.none => 2
def NoExit : Exit → Act → World → Prop := fun _ _ _ => False

section
variable (P : Program) (ops : Array Oper) (Q : Exit → Act → World → Prop)

/-- Looked at again, it gives what its slot holds. -/
def Again (k : Nat) (a : Act) (w : World) : Prop :=
  match ops[k]? with
  | some o => if Region.wanted o (yielded ops a.tmps) then o.wp P a w (fun a' w' => w' = w ∧ a' = a) NoExit else True
  | Option.none => True
def Agains : List Nat → Act → World → Prop
  | [], _, _ => True
  | k :: ks, a, w => Again P ops k a w ∧ Agains ks a w
def wpT (K : Act → World → Prop) : List Nat → Act → World → Prop
  | [], a, w => K a w
  | i :: l, a, w =>
    match ops[i]? with
    | some o =>
      if Region.wanted o (yielded ops a.tmps) then o.wp P a w (fun a' w' => w' = w ∧ wpT K l a' w) NoExit
      else wpT K l (a.put o.dst undef) w
    | Option.none => False
def wpE : Plan → Act → World → Prop
  | .done, a, w => Q .normal a w
  | .none, _, _ => True
  | .takes l p, a, w => wpT P ops (wpE p) l a w
  | .fork i ks p q, a, w =>
    (match ops[i]? with
    | some o =>
      if Region.wanted o (yielded ops a.tmps) then o.wp P a w (fun a' w' => Agains P ops ks a' w' ∧ wpE p a' w') NoExit
      else Agains P ops ks (a.put o.dst undef) w ∧ wpE p (a.put o.dst undef) w
    | Option.none => False) ∧ wpE q a w
end

section
variable {P : Program} {ops : Array Oper} {Q : Exit → Act → World → Prop} {a : Act} {w : World}
/-- Is it this effect that stands next? -/
theorem wpE_at (i : Nat) {ks : List Nat} {p q : Plan} (h : wpE P ops Q (.fork i ks p q) a w) : wpE P ops Q (.fork i ks p q) a w := h
theorem wpE_and {ks : List Nat} {p : Plan} (h : Agains P ops ks a w) (h' : wpE P ops Q p a w) : Agains P ops ks a w ∧ wpE P ops Q p a w := ⟨h, h'⟩
theorem wpE_same {p : Plan} {a' : Act} (h : wpE P ops Q p a' w) : w = w ∧ wpE P ops Q p a' w := ⟨rfl, h⟩
theorem wpE_done (h : Q .normal a w) : wpE P ops Q .done a w := h
theorem wpE_none : wpE P ops Q .none a w := trivial
theorem wpE_takes_nil {p : Plan} (h : wpE P ops Q p a w) : wpE P ops Q (.takes [] p) a w := h
theorem wpE_take {i : Nat} {l : List Nat} {p : Plan} {o : Oper} (ho : ops[i]? = some o) (hw : Region.wanted o (yielded ops a.tmps) = true)
    (h : ∀ K : Act → World → Prop, (∀ a' w', (w' = w ∧ wpE P ops Q (.takes l p) a' w) → K a' w') → o.wp P a w K NoExit) : wpE P ops Q (.takes (i :: l) p) a w := by
  show wpT P ops (wpE P ops Q p) (i :: l) a w
  unfold wpT
  rw [ho]
  simp only [hw, if_true]
  exact h _ fun _ _ h => h
theorem wpE_skip {i : Nat} {l : List Nat} {p : Plan} {o : Oper} (ho : ops[i]? = some o) (hw : Region.wanted o (yielded ops a.tmps) = false)
    (h : wpE P ops Q (.takes l p) (a.put o.dst undef) w) : wpE P ops Q (.takes (i :: l) p) a w := by
  show wpT P ops (wpE P ops Q p) (i :: l) a w
  unfold wpT
  rw [ho]
  simp only [hw, Bool.false_eq_true, if_false]
  exact h
theorem wpE_fork {i : Nat} {ks : List Nat} {p q : Plan} {o : Oper} (ho : ops[i]? = some o) (hw : Region.wanted o (yielded ops a.tmps) = true)
    (h : ∀ K : Act → World → Prop, (∀ a' w', (Agains P ops ks a' w' ∧ wpE P ops Q p a' w') → K a' w') → o.wp P a w K NoExit) (hq : wpE P ops Q q a w) : wpE P ops Q (.fork i ks p q) a w := by
  refine ⟨?_, hq⟩
  rw [ho]
  simp only [hw, if_true]
  exact h _ fun _ _ h => h
theorem wpE_fork_skip {i : Nat} {ks : List Nat} {p q : Plan} {o : Oper} (ho : ops[i]? = some o) (hw : Region.wanted o (yielded ops a.tmps) = false)
    (h : Agains P ops ks (a.put o.dst undef) w ∧ wpE P ops Q p (a.put o.dst undef) w) (hq : wpE P ops Q q a w) : wpE P ops Q (.fork i ks p q) a w := by
  refine ⟨?_, hq⟩
  rw [ho]
  simp only [hw, Bool.false_eq_true, if_false]
  exact h
theorem agains_nil : Agains P ops [] a w := trivial
theorem agains_cons {k : Nat} {ks : List Nat} {o : Oper} (ho : ops[k]? = some o) (h : Region.wanted o (yielded ops a.tmps) = true → o.wp P a w (fun a' w' => w' = w ∧ a' = a) NoExit) (hr : Agains P ops ks a w) :
    Agains P ops (k :: ks) a w := by
  refine ⟨?_, hr⟩
  unfold Again
  rw [ho]
  simp only []
  split
  · exact h ‹_›
  · trivial

/-! ### The proof -/
def Yd (P : Program) (ops : Array Oper) (w : World) (o : Oper) (v : Value) (a : Act) : Prop :=
  (Region.wanted o (yielded ops a.tmps) = true ∧ (execOp a.eval o).run P w = .ok (.value v) w) ∨ (Region.wanted o (yielded ops a.tmps) = false ∧ v = undef)
theorem Yd.of_same {o : Oper} {v : Value} {a a' : Act} {w : World} (hy : Yd P ops w o v a) (he : execOp a'.eval o = execOp a.eval o)
    (hw : Region.wanted o (yielded ops a'.tmps) = Region.wanted o (yielded ops a.tmps)) : Yd P ops w o v a' := by
  unfold Yd at *
  rw [he, hw]
  exact hy
theorem Yd.wpOp {i : Nat} {o : Oper} {v : Value} {a : Act} {w : World} (hi : ops[i]? = some o) (hy : Yd P ops w o v a) {K : Act → World → Prop} (h : K (a.put o.dst v) w) : wpOp P ops Q i K a w := by
  unfold Go.wpOp
  simp only [hi]
  rcases hy with ⟨hw, hv⟩ | ⟨hw, rfl⟩
  · simp only [hw, if_true, Oper.wp, hv, Oper.upon]; exact .inl h
  · simp only [hw, Bool.false_eq_true, if_false]; exact h
def noDefer (ops : Array Oper) : Bool := ops.all fun o => match o.op with | .defer _ | .select .. => false | _ => true

theorem bind_value {α : Type} (s : Sem α) (f : α → Value) (P : Program) (w w' : World) (n : Next) (h : (s >>= fun x => pure (.value (f x)) : Sem Next).run P w = .ok n w') : ∃ v, n = .value v := by
  rw [Sem.run_bind] at h
  cases hs : s.run P w with
  | ok x w1 => rw [hs] at h; simp [Result.andThen] at h; exact ⟨_, h.1.symm⟩
  | halt x w1 => rw [hs] at h; simp [Result.andThen] at h
theorem panic_never {α : Type} (P : Program) (w w' : World) (n : α) : (runtimePanic .nilDeref : Sem α).run P w ≠ .ok n w' := by
  unfold runtimePanic goPanic
  simp [Result.andThen]

theorem value_of_run {ρ : Operand → Value} {o : Oper} {P : Program} {w w' : World} {n : Next} (hc : opCls o.op ≤ 1) (h : (execOp ρ o).run P w = .ok n w') : ∃ v, n = .value v := by
  obtain ⟨dst, op, ty, pos, after, guard⟩ := o
  cases op <;> simp only [opCls] at hc <;> (try omega)
  case move x => simp [execOp] at h; exact ⟨_, h.1.symm⟩
  case assign x => simp [execOp] at h; exact ⟨_, h.1.symm⟩
  case pick c x y => simp only [execOp] at h; exact bind_value _ _ _ _ _ _ h
  case nilCheck x =>
    simp only [execOp] at h
    split at h
    · exact absurd h (panic_never _ _ _ _)
    · exact absurd h (panic_never _ _ _ _)
    · exact absurd h (panic_never _ _ _ _)
    · rename_i name first captured _
      split at h
      · exact absurd h (panic_never _ _ _ _)
      · rename_i t u _
        simp only [Sem.run_bind] at h
        cases hp : (program : Sem Program).run P w with
        | halt x w1 => rw [hp] at h; simp [Result.andThen] at h
        | ok p w1 =>
          rw [hp] at h
          simp only [Result.andThen, Sem.run_bind] at h
          cases hn : (nilAhead (p.types.size + Made.depth) t u name).run P w1 with
          | halt x w2 => rw [hn] at h; simp at h
          | ok b w2 =>
            rw [hn] at h
            simp only [] at h
            split at h
            · simp [unsupported] at h
            · simp at h; exact ⟨_, h.1.symm⟩
      · simp at h; exact ⟨_, h.1.symm⟩
    · simp at h; exact ⟨_, h.1.symm⟩
  case extract => simp only [execOp] at h; exact bind_value _ _ _ _ _ _ h
  case fieldAddr => simp only [execOp] at h; exact bind_value _ _ _ _ _ _ h
  case field => simp only [execOp] at h; exact bind_value _ _ _ _ _ _ h
  case indexAddr => simp only [execOp] at h; exact bind_value _ _ _ _ _ _ h
  case index => simp only [execOp] at h; exact bind_value _ _ _ _ _ _ h
  case load => simp only [execOp] at h; exact bind_value _ _ _ _ _ _ h
  case binOp => simp only [execOp] at h; exact bind_value _ _ _ _ _ _ h
  case unOp => simp only [execOp] at h; exact bind_value _ _ _ _ _ _ h
  case convert => simp only [execOp] at h; exact bind_value _ _ _ _ _ _ h
  case slice => simp only [execOp] at h; exact bind_value _ _ _ _ _ _ h
  case build => simp only [execOp] at h; exact bind_value _ _ _ _ _ _ h
  case call c =>
    obtain ⟨callee, args, ats⟩ := c
    cases callee with
    | value f => simp only [] at hc; omega
    | invoke r m => simp only [] at hc; omega
    | builtin b =>
      have hb : execOp ρ { dst, op := .call { callee := .builtin b, args, argTypes := ats }, type := ty, pos, after, guard } = builtin b ats ty (args.map fun | .const _ => true | _ => false) (args.map ρ) := rfl
      rw [hb] at h
      cases b <;> simp only [] at hc <;> (try omega)
      all_goals
        simp only [builtin] at h
        exact bind_value _ _ _ _ _ _ h

/-- What 'o.wp' over no way out gives of an operation that changes nothing. -/
theorem yd_of_wp {o : Oper} {K : Act → World → Prop} (hc : opCls o.op ≤ 1) (hw : Region.wanted o (yielded ops a.tmps) = true) (h : o.wp P a w (fun a' w' => w' = w ∧ K a' w) NoExit) :
    ∃ v, Yd P ops w o v a ∧ K (a.put o.dst v) w := by
  unfold Oper.wp at h
  cases hr : (execOp a.eval o).run P w with
  | ok n w' =>
    obtain ⟨v, rfl⟩ := value_of_run hc hr
    rw [hr] at h
    simp only [Oper.upon] at h
    obtain ⟨rfl, hK⟩ := h
    exact ⟨v, .inl ⟨hw, hr⟩, hK⟩
  | halt x w' =>
    rw [hr] at h
    cases x <;> simp only [Oper.upon, NoExit] at h
theorem pure_run {o : Oper} {ρ : Operand → Value} {v : Value} {w w1 : World} (hc : opCls o.op = 0) (h : (execOp ρ o).run P w = .ok (.value v) w1) (w2 : World) : (execOp ρ o).run P w2 = .ok (.value v) w2 := by
  obtain ⟨dst, op, ty, pos, after, guard⟩ := o
  cases op <;> simp only [opCls] at hc <;> (try omega)
  case move x => simp [execOp] at h ⊢; exact h.1
  case assign x => simp [execOp] at h ⊢; exact h.1
  case pick c x y =>
    simp only [execOp] at h ⊢
    cases hv : ρ c <;> rw [hv] at h <;> simp [asBool, stuck, Result.andThen] at h ⊢
    exact h.1
  case extract t ix =>
    simp only [execOp, Instr.extract] at h ⊢
    cases hv : ρ t with
    | tuple vs =>
      rw [hv] at h
      simp only [] at h ⊢
      cases hx : vs[ix]? with
      | none => rw [hx] at h; simp [stuck, Result.andThen] at h
      | some u => rw [hx] at h; simp [Result.andThen] at h ⊢; exact h.1
    | _ => rw [hv] at h; simp [stuck, Result.andThen] at h
  case call c =>
    obtain ⟨callee, args, ats⟩ := c
    cases callee with
    | value f => simp only [] at hc; omega
    | invoke r m => simp only [] at hc; omega
    | builtin b => cases b <;> simp only [] at hc <;> omega

/-! ### The table of who waits for whom, and the checks -/
def wt (tab : Array Nat) (j k : Nat) : Bool := (tab.getD j 0).testBit k
def chkTab (ops : Array Oper) (tab : Array Nat) : Bool :=
  (List.range ops.size).all fun j => (List.range ops.size).all fun k => !wt tab j k || match ops[j]? with
    | some o => o.after.any fun e => Region.binds .any e && (e.on == k || wt tab e.on k)
    | Option.none => false
def chkApart (ops : Array Oper) (tab : Array Nat) : Bool :=
  (List.range ops.size).all fun i => decide (1 < clsAt ops i) || (List.range ops.size).all fun j => j == i || wt tab i j || wt tab j i || match ops[i]?, ops[j]? with
    | some oi, some oj => oi.apart ops oj
    | _, _ => true
/-- What a read looks at is written ahead of it, or never. -/
def chkWar (ops : Array Oper) (tab : Array Nat) : Bool :=
  (List.range ops.size).all fun p => decide (clsAt ops p ≠ 1) || (List.range ops.size).all fun i => (i != p && wt tab p i) || match ops[i]?, ops[p]? with
    | some oi, some op => (match oi.dst with | some d => !(op.looksAt ops).contains d | Option.none => true)
    | _, _ => true
/-- Every operation that changes nothing has a slot of its own, to which no other writes. -/
def chkDst (ops : Array Oper) : Bool :=
  (List.range ops.size).all fun i => decide (clsAt ops i ≠ 1) || match ops[i]? with
    | some oi => (match oi.dst with
      | some d => (List.range ops.size).all fun j => j == i || match ops[j]? with | some oj => oj.dst != some d | Option.none => true
      | Option.none => false)
    | Option.none => true
/-- The plan names, from where it stands, whatever may come up next. 'seen': the reads that were taken, and may still come behind an effect. -/
def chkPlan (ops : Array Oper) (tab : Array Nat) : Plan → Array Bool → List Nat → List Nat → Bool
  | .done, listed, _, _ => (Region.ready .any ops listed).isEmpty
  | .none, listed, _, forks => !forks.isEmpty && (Region.ready .any ops listed).all fun j => forks.contains j
  | .takes l p, listed, seen, forks => forks.isEmpty && chkTakes ops tab p (chkPlan ops tab p) l listed seen
  | .fork i ks p q, listed, seen, forks =>
    (Region.ready .any ops listed).contains i && decide (1 < clsAt ops i) && (seen.all fun k => wt tab i k || ks.contains k) &&
      chkPlan ops tab p (listed.setIfInBounds i true) (seen.filter fun k => !wt tab i k) [] && chkPlan ops tab q listed seen (i :: forks)
where
  chkTakes (ops : Array Oper) (tab : Array Nat) (p : Plan) (next : Array Bool → List Nat → List Nat → Bool) : List Nat → Array Bool → List Nat → Bool
    | [], listed, seen => next listed seen []
    | i :: l, listed, seen => (Region.ready .any ops listed).contains i && decide (clsAt ops i ≤ 1) && chkTakes ops tab p next l (listed.setIfInBounds i true) (if clsAt ops i = 1 then i :: seen else seen)
def chkAll (ops : Array Oper) (pl : Plan) : Bool :=
  noDefer ops && chkTab ops (Region.before ops) && chkApart ops (Region.before ops) && chkWar ops (Region.before ops) && chkDst ops && chkPlan ops (Region.before ops) pl (Array.replicate ops.size false) [] []

def Rv (P : Program) (ops : Array Oper) (R : List (Nat × Value)) (a : Act) (w : World) : Prop := ∀ x ∈ R, ∀ o, ops[x.1]? = some o → Yd P ops w o x.2 a
def kp (tab : Array Nat) (j : Nat) (R : List (Nat × Value)) : List (Nat × Value) := R.filter fun x => !wt tab j x.1
def wpR (P : Program) (ops : Array Oper) (tab : Array Nat) (Q : Exit → Act → World → Prop) : Nat → List (Nat × Value) → Array Bool → Act → World → Prop
  | 0, _, listed, a, w => Region.ready .any ops listed = [] ∧ Q .normal a w
  | f + 1, R, listed, a, w => (Region.ready .any ops listed = [] → Q .normal a w) ∧ ∀ j ∈ Region.ready .any ops listed,
    wpOp P ops NoExit j (fun a' w' => (clsAt ops j ≤ 1 → w' = w ∧ wpR P ops tab Q f R (listed.setIfInBounds j true) a' w') ∧
      (1 < clsAt ops j → Rv P ops (kp tab j R) a' w' ∧ wpR P ops tab Q f (kp tab j R) (listed.setIfInBounds j true) a' w')) a w

theorem wp_exit {o : Oper} {K : Act → World → Prop} (h : o.wp P a w K NoExit) : o.wp P a w K Q := by
  unfold Oper.wp at *
  generalize (execOp a.eval o).run P w = r at *
  cases r with
  | ok n w' =>
    cases n <;> simp only [Oper.upon] at h ⊢ <;>
      first
        | exact h
        | exact Calls.mono h (fun e w'' he => by cases e <;> first | exact he | exact (he : False).elim | exact (let ⟨_, _, f⟩ := he; (f : False).elim))
  | halt x w' => cases x <;> simp only [Oper.upon] at h ⊢ <;> exact (h : False).elim
theorem wpOp_exit {j : Nat} {K : Act → World → Prop} (h : wpOp P ops NoExit j K a w) : wpOp P ops Q j K a w := by
  unfold wpOp at *
  split
  · simpa [*] using h
  · rename_i o ho
    simp only [ho] at h
    split
    · rename_i hw
      simp only [hw, if_true] at h
      rcases h with h | ⟨_, _, _, f⟩
      · exact .inl (wp_exit h)
      · exact (f : False).elim
    · rename_i hw
      simpa [hw] using h
theorem wpAny_of_wpR {tab : Array Nat} : ∀ (f : Nat) (R : List (Nat × Value)) (listed : Array Bool) (a : Act) (w : World), wpR P ops tab Q f R listed a w → wpAny P .any ops Q f listed a w
  | 0, _, _, _, _, h => h
  | f + 1, R, listed, a, w, h => ⟨h.1, fun j hj => wpOp_mono (fun a' w' hk => by
      rcases Nat.lt_or_ge 1 (clsAt ops j) with hc | hc
      · exact wpAny_of_wpR f _ _ a' w' (hk.2 hc).2
      · exact wpAny_of_wpR f _ _ a' w' (hk.1 hc).2) (wpOp_exit (h.2 j hj))⟩
theorem kp_sub {tab : Array Nat} {j : Nat} {R S : List (Nat × Value)} (h : ∀ x ∈ S, x ∈ R) : ∀ x ∈ kp tab j S, x ∈ kp tab j R := by
  intro x hx
  simp only [kp, List.mem_filter] at hx ⊢
  exact ⟨h x hx.1, hx.2⟩
theorem wpR_sub {tab : Array Nat} : ∀ (f : Nat) (R S : List (Nat × Value)) (listed : Array Bool) (a : Act) (w : World), (∀ x ∈ S, x ∈ R) → wpR P ops tab Q f R listed a w → wpR P ops tab Q f S listed a w
  | 0, _, _, _, _, _, _, h => h
  | f + 1, R, S, listed, a, w, hs, h => ⟨h.1, fun j hj => wpOp_mono (fun a' w' hk => ⟨fun hc => ⟨(hk.1 hc).1, wpR_sub f R S _ a' w' hs (hk.1 hc).2⟩,
      fun hc => ⟨fun x hx => (hk.2 hc).1 x (kp_sub hs x hx), wpR_sub f _ _ _ a' w' (kp_sub hs) (hk.2 hc).2⟩⟩) (h.2 j hj)⟩

theorem noDefer_spec (h : noDefer ops = true) {j : Nat} {o : Oper} (ho : ops[j]? = some o) : (∀ cs b, o.op ≠ .select cs b) ∧ ∀ c, o.op ≠ .defer c := by
  have := Array.all_eq_true_iff_forall_mem.1 h o (Array.mem_of_getElem? ho)
  constructor
  · intro cs b e; simp [e] at this
  · intro c e; simp [e] at this

/-- One operation, apart from another one's slot: what stands there makes no difference to it. -/
theorem wpOp_out {j : Nat} {oj : Oper} {d : Option Tmp} {v : Value} {K : Act → World → Prop} (hj : ops[j]? = some oj) (hsel : ∀ cs b, oj.op ≠ .select cs b)
    (h1 : ∀ t, d = some t → t ∉ oj.looksAt ops) (h2 : ∀ t, d = some t → oj.dst ≠ some t)
    (h : wpOp P ops NoExit j K (a.put d v) w) : wpOp P ops NoExit j (fun a' w' => ((∃ u, a' = a.put oj.dst u) ∨ ∃ df u, a' = ({ a with defers := df :: a.defers } : Act).put oj.dst u) ∧ K (a'.put d v) w') a w := by
  unfold wpOp at *
  simp only [hj] at *
  rw [wanted_put oj a d v h1] at h
  split
  · rename_i hw
    simp only [hw, if_true] at h
    rcases h with h | ⟨_, _, _, f⟩
    case inr => exact (f : False).elim
    refine .inl ?_
    unfold Oper.wp at *
    rw [execOp_put oj hsel a d v h1] at h
    generalize (execOp a.eval oj).run P w = r at *
    cases r with
    | ok n w' =>
      cases n <;> simp only [Oper.upon] at h ⊢
      case value u => exact ⟨.inl ⟨u, rfl⟩, by rw [← Act.put_comm a v u h2]; exact h⟩
      case skip => exact ⟨.inl ⟨undef, rfl⟩, by rw [← Act.put_comm a v undef h2]; exact h⟩
      case defer df =>
        refine ⟨.inr ⟨df, undef, rfl⟩, ?_⟩
        rw [← Act.put_comm _ v undef h2, ← Act.put_defers]
        exact h
      case enter f args =>
        refine Calls.mono h fun e w'' he => ?_
        cases e with
        | returned u => exact ⟨.inl ⟨u, rfl⟩, by rw [← Act.put_comm a v u h2]; exact he⟩
        | panicked c => exact he
        | outgrown => exact he
      case row row args => exact Rows.mono h fun u w'' he => ⟨.inl ⟨u, rfl⟩, by rw [← Act.put_comm a v u h2]; exact he⟩
    | halt x w' =>
      cases x <;> simp only [Oper.upon] at h ⊢
      case panic u => exact h
  · rename_i hw
    simp only [hw] at h
    exact ⟨.inl ⟨undef, rfl⟩, by rw [← Act.put_comm a v undef h2]; exact h⟩
theorem yd_put {o : Oper} {v u : Value} {d : Option Tmp} (hsel : ∀ cs b, o.op ≠ .select cs b) (hd : ∀ t, d = some t → t ∉ o.looksAt ops) (w : World) : Yd P ops w o v (a.put d u) ↔ Yd P ops w o v a :=
  ⟨fun h => h.of_same (execOp_put o hsel a d u hd).symm (wanted_put o a d u hd).symm, fun h => h.of_same (execOp_put o hsel a d u hd) (wanted_put o a d u hd)⟩
theorem yd_form {o : Oper} {v : Value} {d : Option Tmp} {a' : Act} (hsel : ∀ cs b, o.op ≠ .select cs b) (hd : ∀ t, d = some t → t ∉ o.looksAt ops) (w : World)
    (hf : (∃ u, a' = a.put d u) ∨ ∃ df u, a' = ({ a with defers := df :: a.defers } : Act).put d u) : Yd P ops w o v a' ↔ Yd P ops w o v a := by
  rcases hf with ⟨u, rfl⟩ | ⟨df, u, rfl⟩
  · exact yd_put hsel hd w
  · exact (yd_put hsel hd w).trans ⟨fun h => h.of_same rfl rfl, fun h => h.of_same rfl rfl⟩

/-- Whoever is listed, so are all for whom he waits. -/
def Cl (ops : Array Oper) (tab : Array Nat) (listed : Array Bool) : Prop := ∀ j k, j < ops.size → k < ops.size → listed.getD j false = true → wt tab j k = true → listed.getD k false = true
theorem chkTab_spec {tab : Array Nat} (h : chkTab ops tab = true) {j k : Nat} {o : Oper} (ho : ops[j]? = some o) (hk : k < ops.size) (hw : wt tab j k = true) :
    ∃ e ∈ o.after, Region.binds .any e = true ∧ (e.on = k ∨ wt tab e.on k = true) := by
  have hj := (Array.getElem?_eq_some_iff.1 ho).1
  simp only [chkTab, List.all_eq_true, List.mem_range] at h
  have := h j hj k hk
  simp only [hw, ho, Bool.not_true, Bool.false_or] at this
  obtain ⟨e, he, hb⟩ := Array.any_eq_true'.1 this
  simp only [Bool.and_eq_true, Bool.or_eq_true, beq_iff_eq] at hb
  exact ⟨e, he, hb.1, hb.2⟩
theorem lt_listed {listed : Array Bool} {i : Nat} (hs : listed.size = ops.size) (h : listed.getD i false = true) : i < ops.size := by
  rcases Nat.lt_or_ge i listed.size with g | g
  · omega
  · simp [Array.getElem?_eq_none g] at h
theorem un_listed {listed : Array Bool} {i : Nat} (h : listed.getD i true = false) (g : listed.getD i false = true) : False := by
  rcases Nat.lt_or_ge i listed.size with h' | h'
  · simp [h'] at h g; rw [h] at g; cases g
  · simp [Array.getElem?_eq_none h'] at g
theorem ready_waits {tab : Array Nat} {listed : Array Bool} (ht : chkTab ops tab = true) (hs : listed.size = ops.size) (hc : Cl ops tab listed) {j k : Nat} (hj : j ∈ Region.ready .any ops listed) (hk : k < ops.size) (hw : wt tab j k = true) : listed.getD k false = true := by
  obtain ⟨_, o, ho, hall⟩ := mem_ready.1 hj
  obtain ⟨e, he, hb, hor⟩ := chkTab_spec ht ho hk hw
  have hl := hall e he hb
  rcases hor with rfl | h
  · exact hl
  · exact hc e.on k (lt_listed hs hl) hk hl h
theorem cl_set {tab : Array Nat} {listed : Array Bool} (ht : chkTab ops tab = true) (hs : listed.size = ops.size) (hc : Cl ops tab listed) {i : Nat} (hi : i ∈ Region.ready .any ops listed) : Cl ops tab (listed.setIfInBounds i true) := by
  intro j k hj hk hl hw
  by_cases e : i = j
  · subst e; exact getD_set_true (ready_waits ht hs hc hi hk hw)
  · rw [getD_set_ne false e] at hl
    exact getD_set_true (hc j k hj hk hl hw)
theorem ready_lt {listed : Array Bool} {i : Nat} (h : i ∈ Region.ready .any ops listed) : i < ops.size := by
  obtain ⟨_, o, ho, _⟩ := mem_ready.1 h
  exact (Array.getElem?_eq_some_iff.1 ho).1

structure Chk (ops : Array Oper) (tab : Array Nat) : Prop where
  nd : noDefer ops = true
  tabs : chkTab ops tab = true
  apart : ∀ i j oi oj, ops[i]? = some oi → ops[j]? = some oj → clsAt ops i ≤ 1 → j ≠ i → wt tab i j = false → wt tab j i = false → oi.apart ops oj = true
  war : ∀ p i op oi, ops[p]? = some op → ops[i]? = some oi → clsAt ops p = 1 → (∀ d, oi.dst = some d → d ∈ op.looksAt ops → i ≠ p ∧ wt tab p i = true)

/-- An operation that changes nothing, and may come up now, may be taken first. -/
theorem wpR_first {tab : Array Nat} (C : Chk ops tab) {i : Nat} {oi : Oper} {v : Value} (hi : ops[i]? = some oi) (hc : clsAt ops i ≤ 1) :
    ∀ (f : Nat) (R : List (Nat × Value)) (listed : Array Bool) (a : Act) (w : World), listed.size = ops.size → Cl ops tab listed → (∀ x ∈ R, listed.getD x.1 false = true ∧ clsAt ops x.1 = 1) →
      i ∈ Region.ready .any ops listed → Yd P ops w oi v a → (clsAt ops i = 0 → ∀ w', Yd P ops w' oi v a) →
      wpR P ops tab Q f (if clsAt ops i = 1 then (i, v) :: R else R) (listed.setIfInBounds i true) (a.put oi.dst v) w → wpR P ops tab Q (f + 1) R listed a w := by
  have si := (noDefer_spec C.nd hi).1
  have hsub : ∀ R : List (Nat × Value), ∀ x ∈ R, x ∈ (if clsAt ops i = 1 then (i, v) :: R else R) := by
    intro R x hx
    split
    · exact List.mem_cons_of_mem _ hx
    · exact hx
  intro f
  induction f with
  | zero =>
    intro R listed a w hs hcl hR hr hy hy0 H
    refine ⟨fun h => (by rw [h] at hr; cases hr), fun j hj => ?_⟩
    by_cases hji : j = i
    · subst hji; exact hy.wpOp hi ⟨fun _ => ⟨rfl, H⟩, fun h => absurd h (by omega)⟩
    · have := ready_mono hj hji
      rw [H.1] at this
      cases this
  | succ f ih =>
    intro R listed a w hs hcl hR hr hy hy0 H
    refine ⟨fun h => (by rw [h] at hr; cases hr), fun j hj => ?_⟩
    by_cases hji : j = i
    · subst hji
      exact hy.wpOp hi ⟨fun _ => ⟨rfl, wpR_sub _ _ _ _ _ _ (hsub R) H⟩, fun h => absurd h (by omega)⟩
    · have h1 := H.2 j (ready_mono hj hji)
      obtain ⟨hjun, oj, hoj, hall⟩ := mem_ready.1 hj
      have hiun := (mem_ready.1 hr).1
      have hlt := ready_lt hr
      have hltj := ready_lt hj
      have nwji : wt tab j i = false := by
        cases hh : wt tab j i with
        | false => rfl
        | true => exact (un_listed hiun (ready_waits C.tabs hs hcl hj hlt hh)).elim
      have nwij : wt tab i j = false := by
        cases hh : wt tab i j with
        | false => rfl
        | true => exact (un_listed hjun (ready_waits C.tabs hs hcl hr hltj hh)).elim
      obtain ⟨a1, a2, a3⟩ := Oper.apart_spec (C.apart i j oi oj hi hoj hc hji nwij nwji)
      have sj := (noDefer_spec C.nd hoj).1
      have h2 := wpOp_out (v := v) hoj sj a1 a2 h1
      refine wpOp_mono (fun a' w' h3 => ?_) h2
      obtain ⟨hform, hk1, hk2⟩ := h3
      have hset : (listed.setIfInBounds i true).setIfInBounds j true = (listed.setIfInBounds j true).setIfInBounds i true := Array.setIfInBounds_comm _ _ (fun e => hji e.symm)
      have hs' : (listed.setIfInBounds j true).size = ops.size := by simpa using hs
      have hcl' := cl_set C.tabs hs hcl hj
      have hr' := ready_mono hr (fun e : i = j => hji e.symm)
      rw [hset] at hk1 hk2
      have hpure : clsAt ops i = 0 → ∀ w', Yd P ops w' oi v a' := fun h0 w'' => (yd_form si a3 w'' hform).2 (hy0 h0 w'')
      refine ⟨fun hcj => ?_, fun hcj => ?_⟩
      · obtain ⟨rfl, hkk⟩ := hk1 hcj
        exact ⟨rfl, ih R _ a' w' hs' hcl' (fun x hx => ⟨getD_set_true (hR x hx).1, (hR x hx).2⟩) hr' ((yd_form si a3 w' hform).2 hy) hpure hkk⟩
      · obtain ⟨hrv, hkk⟩ := hk2 hcj
        have hkp : kp tab j (if clsAt ops i = 1 then (i, v) :: R else R) = (if clsAt ops i = 1 then (i, v) :: kp tab j R else kp tab j R) := by
          split
          · simp [kp, nwji]
          · rfl
        rw [hkp] at hrv hkk
        have hself : clsAt ops i = 1 → ∀ t, oi.dst = some t → t ∉ oi.looksAt ops := fun h1 t ht hm => (C.war i i oi oi hi hi h1 t ht hm).1 rfl
        have hyi : Yd P ops w' oi v a' := by
          by_cases h01 : clsAt ops i = 1
          · have := hrv (i, v) (by simp [h01]) oi hi
            exact (yd_put si (hself h01) w').1 this
          · exact hpure (by omega) w'
        refine ⟨fun x hx ox hox => ?_, ih _ _ a' w' hs' hcl' (fun x hx => ?_) hr' hyi hpure hkk⟩
        · have hxR : x ∈ R := (List.mem_filter.1 hx).1
          have hy' := hrv x (by split; exact List.mem_cons_of_mem _ hx; exact hx) ox hox
          refine (yd_put (noDefer_spec C.nd hox).1 (fun t ht hm => ?_) w').1 hy'
          have := (C.war x.1 i ox oi hox hi (hR x hxR).2 t ht hm).2
          exact un_listed hiun (hcl x.1 i (lt_listed hs (hR x hxR).1) hlt (hR x hxR).1 this)
        · have hxR : x ∈ R := (List.mem_filter.1 hx).1
          exact ⟨getD_set_true (hR x hxR).1, (hR x hxR).2⟩

def cnt (listed : Array Bool) : Nat := listed.toList.countP fun b => !b
theorem cnt_set {listed : Array Bool} {i : Nat} (h : listed.getD i true = false) : cnt listed = cnt (listed.setIfInBounds i true) + 1 := by
  have hlt : i < listed.size := by
    rcases Nat.lt_or_ge i listed.size with g | g
    · exact g
    · simp [Array.getElem?_eq_none g] at h
  have hv : listed[i] = false := by simpa [hlt] using h
  have hv' : listed.toList[i]'(by simpa using hlt) = false := by simpa using hv
  unfold cnt
  rw [Array.toList_setIfInBounds, List.countP_set (by simpa using hlt), hv']
  have hpos : 0 < listed.toList.countP fun b => !b := List.countP_pos_iff.2 ⟨false, List.mem_of_getElem hv', rfl⟩
  simp only [Bool.not_false, Bool.not_true, if_true, Bool.false_eq_true, if_false]
  omega
theorem chkDst_spec (h : chkDst ops = true) {i : Nat} {oi : Oper} (hi : ops[i]? = some oi) (hc : clsAt ops i = 1) : ∃ d, oi.dst = some d ∧ ∀ j oj, ops[j]? = some oj → j ≠ i → oj.dst ≠ some d := by
  simp only [chkDst, List.all_eq_true, List.mem_range] at h
  have h1 := h i (Array.getElem?_eq_some_iff.1 hi).1
  simp only [hc, ne_eq, not_true_eq_false, decide_false, Bool.false_or, hi] at h1
  cases hd : oi.dst with
  | none => rw [hd] at h1; cases h1
  | some d =>
    rw [hd] at h1
    simp only [List.all_eq_true, List.mem_range] at h1
    refine ⟨d, rfl, fun j oj hj hne => ?_⟩
    have h2 := h1 j (Array.getElem?_eq_some_iff.1 hj).1
    simp only [hj, Bool.or_eq_true, beq_iff_eq, hne, false_or, bne_iff_ne, ne_eq] at h2
    exact h2
structure RInv (P : Program) (ops : Array Oper) (tab : Array Nat) (listed : Array Bool) (seen : List Nat) (R : List (Nat × Value)) (a : Act) : Prop where
  size : listed.size = ops.size
  cl : Cl ops tab listed
  hseen : ∀ k ∈ seen, clsAt ops k = 1 ∧ listed.getD k false = true
  mem : ∀ x ∈ R, x.1 ∈ seen
  val : ∀ x ∈ R, ∀ o : Oper, ops[x.1]? = some o → (∃ w0, Yd P ops w0 o x.2 a) ∧ ∃ d, o.dst = some d ∧ a.tmps[d]? = some x.2
  sz : ∀ (i : Nat) (o : Oper) (d : Tmp), ops[i]? = some o → o.dst = some d → d < a.tmps.size

theorem put_get (a : Act) (d e : Nat) (u : Value) (h : d ≠ e) : (a.put (some d) u).tmps[e]? = a.tmps[e]? := by simp [Act.put, Array.getElem?_setIfInBounds_ne h]
/-- The invariant behind an operation: of the reads those stay that it does not wait for, or all, if it is none. -/
theorem RInv.next {tab : Array Nat} (C : Chk ops tab) (hd : chkDst ops = true) {listed : Array Bool} {seen : List Nat} {R : List (Nat × Value)} {a' : Act} (I : RInv P ops tab listed seen R a)
    {i : Nat} {oi : Oper} (hi : ops[i]? = some oi) (hr : i ∈ Region.ready .any ops listed) (hf : (∃ u, a' = a.put oi.dst u) ∨ ∃ df u, a' = ({ a with defers := df :: a.defers } : Act).put oi.dst u) (keep : Nat → Bool) :
    RInv P ops tab (listed.setIfInBounds i true) (seen.filter keep) (R.filter fun x => keep x.1) a' := by
  have hun := (mem_ready.1 hr).1
  have hsz : a'.tmps.size = a.tmps.size := by
    rcases hf with ⟨u, rfl⟩ | ⟨df, u, rfl⟩ <;> cases oi.dst <;> simp [Act.put]
  have hget : ∀ e, oi.dst ≠ some e → a'.tmps[e]? = a.tmps[e]? := by
    intro e he
    rcases hf with ⟨u, rfl⟩ | ⟨df, u, rfl⟩
    · cases hdst : oi.dst with
      | none => rfl
      | some d => exact put_get _ _ _ _ (fun g => he (by rw [hdst, g]))
    · cases hdst : oi.dst with
      | none => rfl
      | some d => exact put_get _ _ _ _ (fun g => he (by rw [hdst, g]))
  refine ⟨by simpa using I.size, cl_set C.tabs I.size I.cl hr, fun k hk => ?_, fun x hx => ?_, fun x hx o ho => ?_, fun j o d hj hdd => by rw [hsz]; exact I.sz j o d hj hdd⟩
  · have := I.hseen k (List.mem_filter.1 hk).1
    exact ⟨this.1, getD_set_true this.2⟩
  · obtain ⟨h1, h2⟩ := List.mem_filter.1 hx
    exact List.mem_filter.2 ⟨I.mem x h1, h2⟩
  · obtain ⟨h1, h2⟩ := List.mem_filter.1 hx
    obtain ⟨⟨w0, hy⟩, d, hdd, hv⟩ := I.val x h1 o ho
    have hs := I.hseen x.1 (I.mem x h1)
    have hne : i ≠ x.1 := fun e => un_listed hun (e ▸ hs.2)
    refine ⟨⟨w0, (yd_form (noDefer_spec C.nd ho).1 (fun t ht hm => ?_) w0 hf).2 hy⟩, d, hdd, ?_⟩
    · have := (C.war x.1 i o oi ho hi hs.1 t ht hm).2
      exact un_listed hun (I.cl x.1 i (lt_listed I.size hs.2) (ready_lt hr) hs.2 this)
    · rw [hget d ?_, hv]
      obtain ⟨d', hd1, hd2⟩ := chkDst_spec hd ho hs.1
      have e : d = d' := Option.some.inj (hdd.symm.trans hd1)
      rw [e]
      exact hd2 i oi hi hne

theorem agains_mem : ∀ (ks : List Nat) (k : Nat), k ∈ ks → Agains P ops ks a w → Again P ops k a w := by
  intro ks
  induction ks with
  | nil => intro k hk; cases hk
  | cons x ks ih =>
    intro k hk h
    rcases List.mem_cons.1 hk with rfl | hk
    · exact h.1
    · exact ih k hk h.2
theorem again_yd {k : Nat} {o : Oper} {v : Value} {d : Tmp} (ho : ops[k]? = some o) (hc : opCls o.op ≤ 1) (hd : o.dst = some d) (hv : a.tmps[d]? = some v) (h0 : ∃ w0, Yd P ops w0 o v a) (h : Again P ops k a w) : Yd P ops w o v a := by
  unfold Again at h
  rw [ho] at h
  simp only [] at h
  obtain ⟨w0, hy⟩ := h0
  rcases hy with ⟨hw, _⟩ | ⟨hw, hu⟩
  · simp only [hw, if_true] at h
    obtain ⟨v', hy', hk⟩ := yd_of_wp (K := fun a' _ => a' = a) hc hw h
    have hlt : d < a.tmps.size := (Array.getElem?_eq_some_iff.1 hv).1
    have : (a.put o.dst v').tmps[d]? = some v' := by rw [hd]; simp [Act.put, hlt]
    rw [hk, hv] at this
    rw [Option.some.inj this]
    exact hy'
  · exact .inr ⟨hw, hu⟩
theorem cls_op {i : Nat} {o : Oper} (h : ops[i]? = some o) : clsAt ops i = opCls o.op := by unfold clsAt; rw [h]

theorem filter_true {α : Type} (l : List α) : l.filter (fun _ => true) = l := by simp
theorem wpR_takes {tab : Array Nat} (C : Chk ops tab) (hd : chkDst ops = true) (p : Plan) (hp : ∀ (listed : Array Bool) (seen : List Nat) (R : List (Nat × Value)) (a : Act) (w : World) (f : Nat), chkPlan ops tab p listed seen [] = true → RInv P ops tab listed seen R a → cnt listed ≤ f → wpE P ops Q p a w → wpR P ops tab Q f R listed a w) :
    ∀ (l : List Nat) (listed : Array Bool) (seen : List Nat) (R : List (Nat × Value)) (a : Act) (w : World) (f : Nat), chkPlan.chkTakes ops tab p (chkPlan ops tab p) l listed seen = true → RInv P ops tab listed seen R a → cnt listed ≤ f →
      wpT P ops (wpE P ops Q p) l a w → wpR P ops tab Q f R listed a w := by
  intro l
  induction l with
  | nil => intro listed seen R a w f hc I hf h; exact hp listed seen R a w f hc I hf h
  | cons i l ih =>
    intro listed seen R a w f hc I hf h
    simp only [chkPlan.chkTakes, Bool.and_eq_true, decide_eq_true_eq] at hc
    obtain ⟨⟨hr, hcl⟩, hc⟩ := hc
    have hr' : i ∈ Region.ready .any ops listed := by simpa using hr
    obtain ⟨hun, oi, hi, _⟩ := mem_ready.1 hr'
    have hcnt := cnt_set hun
    obtain ⟨f, rfl⟩ : ∃ g, f = g + 1 := ⟨f - 1, by omega⟩
    have hopc := cls_op hi
    have key : ∃ v, Yd P ops w oi v a ∧ (clsAt ops i = 0 → ∀ w', Yd P ops w' oi v a) ∧ wpT P ops (wpE P ops Q p) l (a.put oi.dst v) w := by
      unfold wpT at h
      rw [hi] at h
      simp only [] at h
      cases hw : Region.wanted oi (yielded ops a.tmps) with
      | true =>
        simp only [hw, if_true] at h
        obtain ⟨v, hy, hk⟩ := yd_of_wp (by omega) hw h
        refine ⟨v, hy, fun h0 w' => ?_, hk⟩
        rcases hy with ⟨_, hrun⟩ | ⟨hw', _⟩
        · exact .inl ⟨hw, pure_run (by omega) hrun w'⟩
        · rw [hw] at hw'; cases hw'
      | false =>
        simp only [hw, Bool.false_eq_true, if_false] at h
        exact ⟨undef, .inr ⟨hw, rfl⟩, fun _ _ => .inr ⟨hw, rfl⟩, h⟩
    obtain ⟨v, hy, hy0, hk⟩ := key
    refine wpR_first C hi hcl f R listed a w I.size I.cl (fun x hx => ?_) hr' hy hy0 (ih _ _ _ _ _ f hc ?_ (by omega) hk)
    · have := I.hseen x.1 (I.mem x hx)
      exact ⟨this.2, this.1⟩
    · have I' := I.next C hd hi hr' (a' := a.put oi.dst v) (.inl ⟨v, rfl⟩) (fun _ => true)
      rw [filter_true, filter_true] at I'
      by_cases h1 : clsAt ops i = 1
      · simp only [h1, if_true]
        obtain ⟨d, hdd, hdu⟩ := chkDst_spec hd hi h1
        have hlt := I.sz i oi d hi hdd
        have hltl : i < listed.size := by rw [I.size]; exact ready_lt hr'
        refine ⟨I'.size, I'.cl, fun k hk => ?_, fun x hx => ?_, fun x hx o ho => ?_, I'.sz⟩
        · rcases List.mem_cons.1 hk with rfl | hk
          · exact ⟨h1, by simp [hltl]⟩
          · exact I'.hseen k hk
        · rcases List.mem_cons.1 hx with rfl | hx
          · exact List.mem_cons_self
          · exact List.mem_cons_of_mem _ (I'.mem x hx)
        · rcases List.mem_cons.1 hx with rfl | hx
          · have e : oi = o := Option.some.inj (hi.symm.trans ho)
            subst e
            refine ⟨⟨w, (yd_put (noDefer_spec C.nd hi).1 (fun t ht hm => (C.war i i oi oi hi hi h1 t ht hm).1 rfl) w).2 hy⟩, d, hdd, ?_⟩
            rw [hdd]; simp [Act.put, hlt]
          · exact I'.val x hx o ho
      · simp only [h1, if_false]
        exact I'

theorem wpR_of_wpE {tab : Array Nat} (C : Chk ops tab) (hd : chkDst ops = true) : ∀ (pl : Plan) (listed : Array Bool) (seen forks : List Nat) (R : List (Nat × Value)) (a : Act) (w : World) (f : Nat),
    chkPlan ops tab pl listed seen forks = true → RInv P ops tab listed seen R a → cnt listed ≤ f → wpE P ops Q pl a w →
    (forks = [] → wpR P ops tab Q f R listed a w) ∧ (∀ g, f = g + 1 → ∀ j ∈ Region.ready .any ops listed, j ∉ forks →
      wpOp P ops NoExit j (fun a' w' => (clsAt ops j ≤ 1 → w' = w ∧ wpR P ops tab Q g R (listed.setIfInBounds j true) a' w') ∧
        (1 < clsAt ops j → Rv P ops (kp tab j R) a' w' ∧ wpR P ops tab Q g (kp tab j R) (listed.setIfInBounds j true) a' w')) a w) := by
  intro pl
  induction pl with
  | done =>
    intro listed seen forks R a w f hc I hf h
    have hr : Region.ready .any ops listed = [] := by simpa [chkPlan] using hc
    refine ⟨fun _ => ?_, fun g hg j hj => by rw [hr] at hj; cases hj⟩
    cases f with
    | zero => exact ⟨hr, h⟩
    | succ f => exact ⟨fun _ => h, fun j hj => by rw [hr] at hj; cases hj⟩
  | none =>
    intro listed seen forks R a w f hc I hf h
    simp only [chkPlan, Bool.and_eq_true, List.all_eq_true, List.contains_iff_mem] at hc
    refine ⟨fun e => ?_, fun g hg j hj hn => absurd (hc.2 j hj) hn⟩
    rw [e] at hc
    simp at hc
  | takes l p ih =>
    intro listed seen forks R a w f hc I hf h
    simp only [chkPlan, Bool.and_eq_true, List.isEmpty_iff] at hc
    obtain ⟨rfl, hc⟩ := hc
    have hR := wpR_takes C hd p (fun listed seen R a w f hc I hf h => (ih listed seen [] R a w f hc I hf h).1 rfl) l listed seen R a w f hc I hf h
    refine ⟨fun _ => hR, fun g hg j hj _ => ?_⟩
    subst hg
    exact hR.2 j hj
  | fork i ks p q ihp ihq =>
    intro listed seen forks R a w f hc I hf h
    simp only [chkPlan, Bool.and_eq_true, decide_eq_true_eq, List.all_eq_true, Bool.or_eq_true] at hc
    obtain ⟨⟨⟨⟨hr, hcl⟩, hks⟩, hcp⟩, hcq⟩ := hc
    have hr' : i ∈ Region.ready .any ops listed := by simpa using hr
    obtain ⟨hun, oi, hi, _⟩ := mem_ready.1 hr'
    have hcnt := cnt_set hun
    have second : ∀ g, f = g + 1 → ∀ j ∈ Region.ready .any ops listed, j ∉ forks →
      wpOp P ops NoExit j (fun a' w' => (clsAt ops j ≤ 1 → w' = w ∧ wpR P ops tab Q g R (listed.setIfInBounds j true) a' w') ∧
        (1 < clsAt ops j → Rv P ops (kp tab j R) a' w' ∧ wpR P ops tab Q g (kp tab j R) (listed.setIfInBounds j true) a' w')) a w := by
      intro g hg j hj hnf
      by_cases hji : j = i
      · subst hji
        have hop : wpOp P ops NoExit j (fun a' w' => Agains P ops ks a' w' ∧ wpE P ops Q p a' w') a w := by
          have h1 := h.1
          rw [hi] at h1
          unfold Go.wpOp
          rw [hi]
          simp only [] at h1 ⊢
          cases hw : Region.wanted oi (yielded ops a.tmps) with
          | true => simp only [hw, if_true] at h1 ⊢; exact .inl h1
          | false => simp only [hw, Bool.false_eq_true, if_false] at h1 ⊢; exact h1
        have hout := wpOp_out (d := Option.none) (v := undef) hi (noDefer_spec C.nd hi).1 (fun t ht => by cases ht) (fun t ht => by cases ht) hop
        refine wpOp_mono (fun a' w' hk => ?_) hout
        obtain ⟨hform, hag, hE⟩ := hk
        refine ⟨fun hle => absurd hle (by omega), fun _ => ?_⟩
        have I' := I.next C hd hi hr' hform (fun k => !wt tab j k)
        refine ⟨fun x hx o ho => ?_, (ihp _ _ [] _ a' w' g hcp I' (by omega) hE).1 rfl⟩
        have hs' := I'.mem x hx
        have hs := I'.hseen x.1 hs'
        obtain ⟨hs1, hs2⟩ := List.mem_filter.1 hs'
        have hkm : x.1 ∈ ks := by
          rcases hks x.1 hs1 with hh | hh
          · rw [hh] at hs2; cases hs2
          · simpa using hh
        obtain ⟨h0, d, hdd, hv⟩ := I'.val x hx o ho
        exact again_yd ho (by rw [← cls_op ho]; omega) hdd hv h0 (agains_mem ks x.1 hkm hag)
      · exact (ihq listed seen (i :: forks) R a w f hcq I hf h.2).2 g hg j hj (by simp [hji, hnf])
    refine ⟨fun e => ?_, second⟩
    obtain ⟨f, rfl⟩ : ∃ g, f = g + 1 := ⟨f - 1, by omega⟩
    exact ⟨fun hn => (by rw [hn] at hr'; cases hr'), fun j hj => second f rfl j hj (by rw [e]; simp)⟩

def chkSz (ops : Array Oper) (n : Nat) : Bool := ops.toList.all fun o => match o.dst with | some d => decide (d < n) | Option.none => true
/-- THE LAW: a region whose order is open, walked by a plan. -/
theorem region_any {id : Nat} (pl : Plan) (hm : P.follows .mixedOrders = true) (hc : chkAll ops pl = true) (hs : chkSz ops a.tmps.size = true) (h : wpE P ops Q pl a w.drew) : (Code.region id ops true).wp P Q a w := by
  simp only [chkAll, Bool.and_eq_true] at hc
  obtain ⟨⟨⟨⟨⟨h1, h2⟩, h3⟩, h4⟩, h5⟩, h6⟩ := hc
  have C : Chk ops (Region.before ops) := by
    refine ⟨h1, h2, fun i j oi oj hi hj hci hne hw1 hw2 => ?_, fun p i op oi hp hi hcp d hdd hm => ?_⟩
    · simp only [chkApart, List.all_eq_true, List.mem_range] at h3
      have := h3 i (Array.getElem?_eq_some_iff.1 hi).1
      have hn : ¬ 1 < clsAt ops i := by omega
      simp only [hn, decide_false, Bool.false_or, List.all_eq_true, List.mem_range] at this
      have := this j (Array.getElem?_eq_some_iff.1 hj).1
      simpa [hi, hj, hw1, hw2, hne] using this
    · simp only [chkWar, List.all_eq_true, List.mem_range] at h4
      have := h4 p (Array.getElem?_eq_some_iff.1 hp).1
      simp only [hcp, ne_eq, not_true_eq_false, decide_false, Bool.false_or, List.all_eq_true, List.mem_range] at this
      have := this i (Array.getElem?_eq_some_iff.1 hi).1
      have hcon : (op.looksAt ops).contains d = true := by simpa using hm
      simp only [hi, hp, hdd, hcon, Bool.not_true, Bool.or_false, Bool.and_eq_true, bne_iff_ne, ne_eq] at this
      exact this
  refine wp_region_any hm (wpAny_of_wpR (tab := Region.before ops) ops.size [] _ _ _ ((wpR_of_wpE C h5 pl _ [] [] [] a _ ops.size h6 ?_ ?_ h).1 rfl))
  · refine ⟨by simp, fun j k hj hk hl => ?_, fun k hk => (by cases hk), fun x hx => (by cases hx), fun x hx => (by cases hx), fun i o d hi hdd => ?_⟩
    · simp [hj] at hl
    · have := List.all_eq_true.1 hs o (by simpa using Array.mem_of_getElem? hi)
      simpa [hdd] using this
  · unfold cnt
    simp [List.countP_replicate]
end
end Go.Proofs.Ytaipladbgdcedaa
namespace Go.Proofs.Ytaipladbgdcedaa
open Go.RowKit

theorem wp_appendO {P : Program} {t e : TypeId} {size bytes : Nat} (E : ElemT P t e size bytes) {w : World} {o : Oper} {a : Act} {K : Act → World → Prop} {Q : Exit → Act → World → Prop} (s x : Operand)
    (ho : o.op = .call { callee := .builtin .append, args := #[s, x], argTypes := #[t, t] })
    (B : Nat) (v : Value) (n : Nat) (xs : List Value) (hown : w.ownsRow B e size v n xs) (hs : a.eval s = v)
    (ad : Addr) (m c : Nat) (news : List Value) (hx : a.eval x = .slice (some ad) m c) (hl : news.length = m * size) (hnews : ∀ j u, news[j]? = some u → w.cell? (ad.add j) = some u) (h1 : ∀ u ∈ news, u.oneCell' = true)
    (h63 : n + m ≤ maxLen) (hbytes : (n + m) * bytes ≤ 140737488355328) (hbase : B ≤ w.heap.size)
    (h : ∀ ao cap w', w'.ownsRow B e size (.slice ao (n + m) cap) (n + m) (xs ++ news) → Tch v.ownBlock.toList w w' → (∀ g, (Value.slice ao (n + m) cap).ownBlock = some g → g ∈ v.ownBlock.toList ∨ g = w.heap.size) → K (a.put o.dst (.slice ao (n + m) cap)) w') : o.wp P a w K Q := by
  obtain ⟨ao, cap, w', hr, h2, h3, h4⟩ := run_append (P := P) E o.type w B v n xs hown ad m c news hl hnews h1 h63 hbytes hbase
  unfold Oper.wp execOp
  simp only [ho, resolve, invoke, builtin, Sem.run_bind, Sem.run_pure, Result.andThen_ok, List.map_toArray, List.map_cons, List.map_nil, hs, hx, hr]
  exact h ao cap w' h2 h3 h4
theorem news_one {w : World} {b : Nat} {news : List Value} {T : TypeId} {fz : Nat × Nat} (hb : w.heap[b]? = some (.cells news.toArray T fz)) : ∀ j u, news[j]? = some u → w.cell? ((⟨b, 0, none⟩ : Addr).add j) = some u := fun j u hj => by
  have e1 : (⟨b, 0, none⟩ : Addr).add j = ⟨b, j, none⟩ := by unfold Addr.add; split <;> simp_all
  rw [e1, cell_of hb]
  simpa using hj
theorem wpE_append {P : Program} {t e : TypeId} {size bytes : Nat} (E : ElemT P t e size bytes) {w : World} {ops : Array Oper} {a : Act} {Q : Exit → Act → World → Prop} {i : Nat} {ks : List Nat} {p q : Plan} {o : Oper} (hi : ops[i]? = some o) (hw : Region.wanted o (yielded ops a.tmps) = true) (s x : Operand)
    (ho : o.op = .call { callee := .builtin .append, args := #[s, x], argTypes := #[t, t] })
    (B : Nat) (v : Value) (n : Nat) (xs : List Value) (hown : w.ownsRow B e size v n xs) (hs : a.eval s = v)
    (ad : Addr) (m c : Nat) (news : List Value) (hx : a.eval x = .slice (some ad) m c) (hl : news.length = m * size) (hnews : ∀ j u, news[j]? = some u → w.cell? (ad.add j) = some u) (h1 : ∀ u ∈ news, u.oneCell' = true)
    (h63 : n + m ≤ maxLen) (hbytes : (n + m) * bytes ≤ 140737488355328) (hbase : B ≤ w.heap.size)
    (h : ∀ ao cap w', w'.ownsRow B e size (.slice ao (n + m) cap) (n + m) (xs ++ news) → Tch v.ownBlock.toList w w' → (∀ g, (Value.slice ao (n + m) cap).ownBlock = some g → g ∈ v.ownBlock.toList ∨ g = w.heap.size) → Agains P ops ks (a.put o.dst (.slice ao (n + m) cap)) w' ∧ wpE P ops Q p (a.put o.dst (.slice ao (n + m) cap)) w')
    (hq : wpE P ops Q q a w) : wpE P ops Q (.fork i ks p q) a w :=
  wpE_fork hi hw (fun _ hK => wp_appendO E s x ho B v n xs hown hs ad m c news hx hl hnews h1 h63 hbytes hbase fun ao cap w' h2 h3 h4 => hK _ _ (h ao cap w' h2 h3 h4)) hq
end Go.Proofs.Ytaipladbgdcedaa
namespace Go.Proofs.Ytaipladbgdcedaa
open Go.ChangeShapes Go.WideShapes Go.RowKit Go.Deep

theorem cell_plain' {w : World} {a : Addr} {v : Value} (h : w.cell? a = some v) : ∃ b o, a = ⟨b, o, none⟩ ∧ b < w.heap.size := by
  obtain ⟨b, o, sp⟩ := a
  unfold World.cell? at h
  cases hb : w.heap[b]? with
  | none => simp [hb] at h
  | some x =>
    cases sp with
    | none => exact ⟨b, o, rfl, lt_of_heap hb⟩
    | some y => cases x <;> simp [hb] at h
theorem add_plain' (b o i : Nat) : (⟨b, o, none⟩ : Addr).add i = ⟨b, o + i, none⟩ := by unfold Addr.add; split <;> simp_all

/-- Each of a struct's cells is an int. -/
def IntCells (M : Nat) (cs : List Value) : Prop := ∃ f : Nat → Int, ∀ j, j < M → (Lit.int .i64 (f j)).wf = true ∧ cs[j]? = some (.int .i64 (f j))

section
variable {H : Type} {enc : TypeId × Value → H} {P : Program} {w : World} {base : Nat} {sp : Nat → Bool} {held : Bool}
theorem flat_struct {t : TypeId} {fs : Array Field} {n : Nat} {cs : List Value} {x : DataW H × List MemPlace} (M : Nat) (ht : P.underlying t = some (.struct fs)) (h3 : P.underlying 3 = some (.int .i64)) (hc : P.cellsOf 3 = 1)
    (hfs : ∀ i, i < M → ∃ f, fs[i]? = some f ∧ f.type = 3 ∧ f.offset = i) (h : DataW.trod enc P w base sp held n t cs = some x) : IntCells M cs := by
  obtain ⟨xs, n, _, rfl, hl, hlen, hf⟩ := DataW.trod_struct ht h
  have hh : ∀ i, i < M → ∃ z : Int, (Lit.int .i64 z).wf = true ∧ cs[i]? = some (.int .i64 z) := by
    intro i hi
    obtain ⟨f, hfi, h1, h2⟩ := hfs i hi
    have := hf i f hfi
    rw [h1, h2, hc] at this
    have hlt : i < xs.length := by
      rw [hlen]
      rcases Nat.lt_or_ge i fs.size with g | g
      · exact g
      · rw [Array.getElem?_eq_none g] at hfi; cases hfi
    rw [List.getElem?_eq_getElem hlt] at this
    obtain ⟨z, e, _, wf⟩ := DataW.trod_int h3 this
    refine ⟨z, wf, ?_⟩
    have : ((cs.drop i).take 1)[0]? = some (.int .i64 z) := by rw [e]; rfl
    simpa using this
  exact ⟨fun i => if hi : i < M then Classical.choose (hh i hi) else 0, fun j hj => by simp only [dif_pos hj]; exact Classical.choose_spec (hh j hj)⟩

theorem structs_arg {t e : TypeId} {v : Value} {d : DataW H} {ps : List MemPlace} (M : Nat) (hM : 0 < M) (ht : P.underlying t = some (.slice e)) (hc : P.cellsOf e = M) (h1 : v.cells.toList = [v])
    (he : ∀ n cs x, DataW.trod enc P w base sp held n e cs = some x → IntCells M cs) (h : DataW.Trod enc P w base sp held t v d ps) :
    ∃ ao L cap, v = .slice ao L cap ∧ L ≤ maxLen ∧ (0 < L → ∃ b off, ao = some ⟨b, off, none⟩ ∧ b < w.heap.size ∧ ∃ F : Nat → Nat → Int, ∀ i, i < L → ∀ j, j < M → (Lit.int .i64 (F i j)).wf = true ∧ w.cell? ⟨b, off + i * M + j, none⟩ = some (.int .i64 (F i j))) := by
  obtain ⟨fuel, hf⟩ := h
  rw [h1] at hf
  rcases open_slice ht hf with ⟨hv, _⟩ | ⟨a, len, cap, m, n, D, Pl, hv, hb, hl, hm, hmm, _, hx⟩
  · have : v = .slice none 0 0 := by simpa using hv
    subst this
    exact ⟨none, 0, 0, rfl, by unfold maxLen; omega, fun h => by omega⟩
  · have : v = .slice (some a) len cap := by simpa using hv
    subst this
    have hlm : len ≤ m := by rw [hmm]; split <;> omega
    refine ⟨_, len, cap, rfl, by omega, fun h0 => ?_⟩
    rw [hc] at hx
    have hcell : ∀ i, i < len → ∃ f : Nat → Int, ∀ j, j < M → (Lit.int .i64 (f j)).wf = true ∧ w.cell? ((a.add (i * M)).add j) = some (.int .i64 (f j)) := by
      intro i hi
      obtain ⟨cs', g1, g2⟩ := hx i (by omega)
      obtain ⟨_, _, g3⟩ := World.cells?_some g1
      obtain ⟨f, hf⟩ := he _ _ _ g2
      exact ⟨f, fun j hj => ⟨(hf j hj).1, (g3 j hj).trans (hf j hj).2⟩⟩
    obtain ⟨f0, hf0⟩ := hcell 0 h0
    have h00 := (hf0 0 hM).2
    have e0 : (a.add (0 * M)).add 0 = a := by unfold Addr.add; simp
    rw [e0] at h00
    obtain ⟨b, o, rfl, hbl⟩ := cell_plain' h00
    obtain ⟨F, hF⟩ := choose_lt (α := Nat → Int) hcell
    refine ⟨b, o, rfl, hbl, F, fun i hi j hj => ?_⟩
    have := hF i hi j hj
    rwa [add_plain', add_plain'] at this
end
end Go.Proofs.Ytaipladbgdcedaa
namespace Go.Proofs.Ytaipladbgdcedaa
open Go.RowKit

/-- A slice of m elements whose cells are these. -/
def View (w : World) (size : Nat) (ao : Option Addr) (m c : Nat) (news : List Value) : Prop :=
  news.length = m * size ∧ (ao = none → m = 0 ∧ c = 0) ∧ (∀ ad, ao = some ad → ∀ j u, news[j]? = some u → w.cell? (ad.add j) = some u)
theorem View.same {w w' : World} {size : Nat} {ao : Option Addr} {m c : Nat} {news : List Value} (h : View w size ao m c news) (hc : ∀ ad, ao = some ad → ∀ j, j < m * size → w'.cell? (ad.add j) = w.cell? (ad.add j)) : View w' size ao m c news := by
  refine ⟨h.1, h.2.1, fun ad ha j u hj => ?_⟩
  have hjl : j < m * size := by
    rw [← h.1]
    rcases Nat.lt_or_ge j news.length with g | g
    · exact g
    · rw [List.getElem?_eq_none g] at hj; cases hj
  rw [hc ad ha j hjl]
  exact h.2.2 ad ha j u hj
theorem view_own {w : World} {B : Nat} {e : TypeId} {size : Nat} {ao : Option Addr} {n c : Nat} {xs : List Value} (h : w.ownsRow B e size (.slice ao n c) n xs) : View w size ao n c xs := by
  refine ⟨h.1, fun e => ?_, fun ad ha j u hj => ?_⟩
  · subst e
    rcases h.2 with ⟨e, e2⟩ | ⟨g, cap, cur, e, _⟩
    · simp at e; omega
    · simp at e
  · subst ha
    obtain ⟨g, e⟩ : ∃ g, ad = ⟨g, 0, none⟩ := by
      rcases h.2 with ⟨e, _⟩ | ⟨g, cap, cur, e, _⟩
      · simp at e
      · simp at e; exact ⟨g, e.1⟩
    subst e
    have e1 : (⟨g, 0, none⟩ : Addr).add j = ⟨g, j, none⟩ := by unfold Addr.add; split <;> simp_all
    have hjl : j < n * size := by
      rw [← h.1]
      rcases Nat.lt_or_ge j xs.length with g | g
      · exact g
      · rw [List.getElem?_eq_none g] at hj; cases hj
    rw [e1, owns_cell h j hjl, hj]
/-- A stretch of a row that is owned. -/
theorem view_part {w : World} {B : Nat} {e : TypeId} {size : Nat} {ao : Option Addr} {n c : Nat} {xs : List Value} (h : w.ownsRow B e size (.slice ao n c) n xs) (l m : Nat) (hlm : l + m ≤ n) (a1 : Option Addr) (c1 : Nat)
    (ha : a1 = if c1 = 0 then ao else ao.map (·.add (l * size))) (hc : c1 = c - l) (hcap : n ≤ c) : View w size a1 m c1 ((xs.drop (l * size)).take (m * size)) := by
  have hx := h.1
  have V := view_own h
  refine ⟨?_, fun e => ?_, fun ad had j u hj => ?_⟩
  · rw [List.length_take, List.length_drop, hx]
    have : l * size + m * size ≤ n * size := by rw [← Nat.add_mul]; exact Nat.mul_le_mul_right _ hlm
    omega
  · subst e
    have hao : ao = none := by
      split at ha
      · exact ha.symm
      · cases ao with
        | none => rfl
        | some x => simp at ha
    obtain ⟨h1, h2⟩ := V.2.1 hao
    omega
  · have hjl : j < m * size := by
      rcases Nat.lt_or_ge j (m * size) with g | g
      · exact g
      · rw [List.getElem?_eq_none (by rw [List.length_take]; omega)] at hj; cases hj
    rw [List.getElem?_take_of_lt hjl, List.getElem?_drop] at hj
    subst had
    by_cases h0 : c1 = 0
    · have hm0 : m = 0 := by omega
      subst hm0
      simp at hjl
    · rw [if_neg h0] at ha
      cases ao with
      | none => simp at ha
      | some a0 =>
        simp at ha
        subst ha
        have := V.2.2 a0 rfl _ _ hj
        have e : (a0.add (l * size)).add j = a0.add (l * size + j) := by
          unfold Addr.add
          by_cases e1 : l * size = 0
          · simp [e1]
          · by_cases e2 : j = 0
            · simp [e1, e2]
            · simp [e1, e2, Nat.add_assoc]
        rw [e]
        exact this
theorem run_append_view {P : Program} {t e : TypeId} {size bytes : Nat} (E : ElemT P t e size bytes) (ty : TypeId) (w : World) (B : Nat) (v : Value) (n : Nat) (xs : List Value) (hown : w.ownsRow B e size v n xs)
    (sa : Option Addr) (m c : Nat) (news : List Value) (hV : View w size sa m c news) (h1 : ∀ u ∈ news, u.oneCell' = true)
    (h63 : n + m ≤ maxLen) (hbytes : (n + m) * bytes ≤ 140737488355328) (hbase : B ≤ w.heap.size) :
    ∃ ao cap w', (Builtin.append_ #[t, t] ty #[v, .slice sa m c]).run P w = .ok (.slice ao (n + m) cap) w' ∧ w'.ownsRow B e size (.slice ao (n + m) cap) (n + m) (xs ++ news) ∧ Tch v.ownBlock.toList w w' ∧
      (∀ g, (Value.slice ao (n + m) cap).ownBlock = some g → g ∈ v.ownBlock.toList ∨ g = w.heap.size) := by
  cases sa with
  | some ad => exact run_append E ty w B v n xs hown ad m c news hV.1 (hV.2.2 ad rfl) h1 h63 hbytes hbase
  | none =>
    obtain ⟨rfl, rfl⟩ := hV.2.1 rfl
    have hn : news = [] := List.length_eq_zero_iff.1 (by have := hV.1; omega)
    subst hn
    obtain ⟨i, z, hi, _⟩ := E.ex
    obtain ⟨ao, cap, rfl, _⟩ := owns_form hown
    exact ⟨ao, cap, w, run_append_owned_none (w := w) B t ty e i size E.ht hi _ n xs hown, by simpa using hown, Tch.refl _ _, fun g hg => .inl (by simpa using hg)⟩
theorem wp_appendV {P : Program} {t e : TypeId} {size bytes : Nat} (E : ElemT P t e size bytes) {w : World} {o : Oper} {a : Act} {K : Act → World → Prop} {Q : Exit → Act → World → Prop} (s x : Operand)
    (ho : o.op = .call { callee := .builtin .append, args := #[s, x], argTypes := #[t, t] })
    (B : Nat) (v : Value) (n : Nat) (xs : List Value) (hs : a.eval s = v) (hown : w.ownsRow B e size v n xs)
    (sa : Option Addr) (m c : Nat) (news : List Value) (hx : a.eval x = .slice sa m c) (hV : View w size sa m c news) (h1 : ∀ u ∈ news, u.oneCell' = true)
    (h63 : n + m ≤ maxLen) (hbytes : (n + m) * bytes ≤ 140737488355328) (hbase : B ≤ w.heap.size) (k : Nat) (hk : k = n + m)
    (h : ∀ ao cap w', w'.ownsRow B e size (.slice ao k cap) k (xs ++ news) → Tch v.ownBlock.toList w w' → (∀ g, (Value.slice ao k cap).ownBlock = some g → g ∈ v.ownBlock.toList ∨ g = w.heap.size) → K (a.put o.dst (.slice ao k cap)) w') : o.wp P a w K Q := by
  subst hk
  obtain ⟨ao, cap, w', hr, h2, h3, h4⟩ := run_append_view (P := P) E o.type w B v n xs hown sa m c news hV h1 h63 hbytes hbase
  unfold Oper.wp execOp
  simp only [ho, resolve, invoke, builtin, Sem.run_bind, Sem.run_pure, Result.andThen_ok, List.map_toArray, List.map_cons, List.map_nil, hs, hx, hr]
  exact h ao cap w' h2 h3 h4
theorem wpList_appendV {P : Program} {t e : TypeId} {size bytes : Nat} (E : ElemT P t e size bytes) {w : World} {ops : Array Oper} {rest : List Oper} {o : Oper} {a : Act} {Q : Exit → Act → World → Prop} (hgd : o.guard = none) (s x : Operand)
    (ho : o.op = .call { callee := .builtin .append, args := #[s, x], argTypes := #[t, t] })
    (B : Nat) (v : Value) (n : Nat) (xs : List Value) (hs : a.eval s = v) (hown : w.ownsRow B e size v n xs)
    (sa : Option Addr) (m c : Nat) (news : List Value) (hx : a.eval x = .slice sa m c) (hV : View w size sa m c news) (h1 : ∀ u ∈ news, u.oneCell' = true)
    (h63 : n + m ≤ maxLen) (hbytes : (n + m) * bytes ≤ 140737488355328) (hbase : B ≤ w.heap.size) (k : Nat) (hk : k = n + m)
    (h : ∀ ao cap w', w'.ownsRow B e size (.slice ao k cap) k (xs ++ news) → Tch v.ownBlock.toList w w' → (∀ g, (Value.slice ao k cap).ownBlock = some g → g ∈ v.ownBlock.toList ∨ g = w.heap.size) → wpList P ops Q rest (a.put o.dst (.slice ao k cap)) w') : wpList P ops Q (o :: rest) a w :=
  wpList_plain hgd fun _ hK => wp_appendV E s x ho B v n xs hs hown sa m c news hx hV h1 h63 hbytes hbase k hk fun ao cap w' h2 h3 h4 => hK _ _ (h ao cap w' h2 h3 h4)
theorem wpE_appendV {P : Program} {t e : TypeId} {size bytes : Nat} (E : ElemT P t e size bytes) {w : World} {ops : Array Oper} {a : Act} {Q : Exit → Act → World → Prop} {i : Nat} {ks : List Nat} {p q : Plan} {o : Oper} (hi : ops[i]? = some o) (hw : Region.wanted o (yielded ops a.tmps) = true) (s x : Operand)
    (ho : o.op = .call { callee := .builtin .append, args := #[s, x], argTypes := #[t, t] })
    (B : Nat) (v : Value) (n : Nat) (xs : List Value) (hs : a.eval s = v) (hown : w.ownsRow B e size v n xs)
    (sa : Option Addr) (m c : Nat) (news : List Value) (hx : a.eval x = .slice sa m c) (hV : View w size sa m c news) (h1 : ∀ u ∈ news, u.oneCell' = true)
    (h63 : n + m ≤ maxLen) (hbytes : (n + m) * bytes ≤ 140737488355328) (hbase : B ≤ w.heap.size) (k : Nat) (hk : k = n + m)
    (h : ∀ ao cap w', w'.ownsRow B e size (.slice ao k cap) k (xs ++ news) → Tch v.ownBlock.toList w w' → (∀ g, (Value.slice ao k cap).ownBlock = some g → g ∈ v.ownBlock.toList ∨ g = w.heap.size) → Agains P ops ks (a.put o.dst (.slice ao k cap)) w' ∧ wpE P ops Q p (a.put o.dst (.slice ao k cap)) w')
    (hq : wpE P ops Q q a w) : wpE P ops Q (.fork i ks p q) a w :=
  wpE_fork hi hw (fun _ hK => wp_appendV E s x ho B v n xs hs hown sa m c news hx hV h1 h63 hbytes hbase k hk fun ao cap w' h2 h3 h4 => hK _ _ (h ao cap w' h2 h3 h4)) hq

section
variable {P : Program} {t e : TypeId} {size bytes : Nat}
theorem elem_size (E : ElemT P t e size bytes) (w : World) : (sizeOf (P.elem t)).run P w = .ok size w := by
  obtain ⟨i, z, hi, _, hs, _⟩ := E.ex
  have he : P.elem t = e := by simp [Program.elem, E.ht]
  simp [sizeOf, typeInfo, he, hi, hs]
theorem elem_ht (E : ElemT P t e size bytes) : P.underlying t = some (.slice (P.elem t)) := by simp [Program.elem, E.ht]
/-- s[:k]. -/
theorem run_head (E : ElemT P t e size bytes) (ao : Option Addr) (n c k : Nat) (z : Int) (hz : z = (k : Int)) (hk : k ≤ c) (W : World) :
    (Instr.slice t (.slice ao n c) none (some (.int .i64 z)) none).run P W = .ok (.slice (if c = 0 then ao else ao.map (·.add (0 * size))) k c) W := by
  subst hz
  rw [run_slice_h W t ao n c (elem_ht E) .i64 _ (by omega) (by omega), elem_size E]
  simp [Result.andThen, sliced]
/-- s[k:]. -/
theorem run_tail (E : ElemT P t e size bytes) (ao : Option Addr) (n c k : Nat) (z : Int) (hz : z = (k : Int)) (hk : k ≤ n) (hn : n ≤ c) (W : World) :
    (Instr.slice t (.slice ao n c) (some (.int .i64 z)) none none).run P W = .ok (.slice (if c - k = 0 then ao else ao.map (·.add (k * size))) (n - k) (c - k)) W := by
  subst hz
  rw [run_slice_l W t ao n c (elem_ht E) .i64 _ (by omega) (by omega), elem_size E]
  have : c = k ↔ c - k = 0 := by omega
  simp [Result.andThen, sliced, this]
theorem owns_caps {w : World} {B : Nat} {v : Option Addr} {n c : Nat} {xs : List Value} (h : w.ownsRow B e size (.slice v n c) n xs) : n ≤ c ∧ c ≤ maxLen := by
  rcases h.2 with ⟨e, e2⟩ | ⟨g, cap, cur, e, _, _, h1, h2, _⟩
  · simp at e
    obtain ⟨rfl, rfl, rfl⟩ := e
    exact ⟨Nat.le_refl _, Nat.zero_le _⟩
  · simp at e
    obtain ⟨rfl, rfl⟩ := e
    exact ⟨h1, h2⟩
/-- An empty slice that isn't nil. -/
theorem owns_made {w : World} {B b : Nat} (hb : w.heap[b]? = some (.cells #[] e (0, 0))) (hB : B ≤ b) : w.ownsRow B e size (.slice (some ⟨b, 0, none⟩) 0 0) 0 [] :=
  ⟨by simp, .inr ⟨b, 0, #[], rfl, hB, hb, Nat.le_refl _, Nat.zero_le _, by simp, by simp⟩⟩
end
end Go.Proofs.Ytaipladbgdcedaa
