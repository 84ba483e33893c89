/- Small laws of memory: what a store, a new block and a draw do to a block that is known whole; which blocks a call may have turned. No condition of its own. -/
import Derived.WalkKit
import Derived.Deep.Quiet
import Derived.Laws.MakeOwn
import Derived.Laws.OwnMore
namespace Go.Proofs.Ytgnjjomfffmcaaa
open Go.RowKit

theorem heap_set {w : World} {b : Nat} {cs : Array Value} {T : TypeId} {fz : Nat × Nat} (h : w.heap[b]? = some (.cells cs T fz)) (off : Nat) (v : Value) :
    (w.setCell ⟨b, off, none⟩ v).heap[b]? = some (.cells (cs.setIfInBounds off v) T fz) := by
  simp [World.setCell, Array.getElem?_modify, h]
theorem heap_set_ne {w : World} {b : Nat} (c off : Nat) (v : Value) (h : b ≠ c) : (w.setCell ⟨c, off, none⟩ v).heap[b]? = w.heap[b]? := Below.heap_setCell w _ v b h
theorem size_set (w : World) (a : Addr) (v : Value) : (w.setCell a v).heap.size = w.heap.size := by simp [World.setCell]
theorem heap_new (w : World) (o : Obj) : (w.alloc o).heap[w.heap.size]? = some o := by
  show (w.heap.push o)[w.heap.size]? = _
  simp
theorem heap_new_at (w : World) (o : Obj) (b : Nat) (hb : b = w.heap.size) : (w.alloc o).heap[b]? = some o := by rw [hb]; exact heap_new w o
theorem heap_old (w : World) (o : Obj) (b : Nat) (h : b < w.heap.size) : (w.alloc o).heap[b]? = w.heap[b]? := Below.heap_alloc w o b h
theorem size_new (w : World) (o : Obj) : (w.alloc o).heap.size = w.heap.size + 1 := by
  show (w.heap.push o).size = _
  simp
theorem lt_of_heap {w : World} {b : Nat} {o : Obj} (h : w.heap[b]? = some o) : b < w.heap.size := by
  rcases Nat.lt_or_ge b w.heap.size with g | g
  · exact g
  · rw [Array.getElem?_eq_none g] at h; cases h
theorem cell_of {w : World} {b : Nat} {cs : Array Value} {T : TypeId} {fz : Nat × Nat} (h : w.heap[b]? = some (.cells cs T fz)) (o : Nat) : w.cell? ⟨b, o, none⟩ = cs[o]? := by
  simp [World.cell?, h]
theorem frozen_of {w : World} {b : Nat} {cs : Array Value} {T : TypeId} (h : w.heap[b]? = some (.cells cs T (0, 0))) (o : Nat) : w.frozen? ⟨b, o, none⟩ = false := by
  simp [World.frozen?, h]
theorem cell_same {w w' : World} {b : Nat} (h : w'.heap[b]? = w.heap[b]?) (o : Nat) : w'.cell? ⟨b, o, none⟩ = w.cell? ⟨b, o, none⟩ := by
  simp [World.cell?, h]
theorem frozen_same {w w' : World} {b : Nat} (h : w'.heap[b]? = w.heap[b]?) (o : Nat) : w'.frozen? ⟨b, o, none⟩ = w.frozen? ⟨b, o, none⟩ := by
  simp [World.frozen?, h]
theorem below_drewN {B : Nat} {a w : World} (h : Below B a w) (n : Nat) : Below B a (w.drewN n) := ⟨h.os, h.tape, h.output, h.size, h.block⟩

/-- A block of n cells, not frozen, whose k-th cell holds g k. -/
def Blk (w : World) (b : Nat) (T : TypeId) (n : Nat) (g : Nat → Value) : Prop := ∃ cs, w.heap[b]? = some (.cells cs T (0, 0)) ∧ cs.size = n ∧ ∀ k, k < n → cs[k]? = some (g k)
theorem Blk.cell {w : World} {b : Nat} {T : TypeId} {n : Nat} {g : Nat → Value} (h : Blk w b T n g) (k : Nat) (hk : k < n) : w.cell? ⟨b, k, none⟩ = some (g k) := by
  obtain ⟨cs, h1, h2, h3⟩ := h
  rw [cell_of h1, h3 k hk]
theorem Blk.frozen {w : World} {b : Nat} {T : TypeId} {n : Nat} {g : Nat → Value} (h : Blk w b T n g) (k : Nat) : w.frozen? ⟨b, k, none⟩ = false := by
  obtain ⟨cs, h1, h2, h3⟩ := h
  exact frozen_of h1 k
theorem Blk.lt {w : World} {b : Nat} {T : TypeId} {n : Nat} {g : Nat → Value} (h : Blk w b T n g) : b < w.heap.size := by
  obtain ⟨cs, h1, h2, h3⟩ := h
  exact lt_of_heap h1
theorem Blk.keep {w w' : World} {b : Nat} {T : TypeId} {n : Nat} {g : Nat → Value} (h : Blk w b T n g) (hb : w'.heap[b]? = w.heap[b]?) : Blk w' b T n g := by
  obtain ⟨cs, h1, h2, h3⟩ := h
  exact ⟨cs, hb.trans h1, h2, h3⟩
theorem Blk.ext {w : World} {b : Nat} {T : TypeId} {n : Nat} {g g' : Nat → Value} (h : Blk w b T n g) (he : ∀ k, k < n → g k = g' k) : Blk w b T n g' := by
  obtain ⟨cs, h1, h2, h3⟩ := h
  exact ⟨cs, h1, h2, fun k hk => by rw [h3 k hk, he k hk]⟩
theorem Blk.set {w : World} {b : Nat} {T : TypeId} {n : Nat} {g : Nat → Value} (h : Blk w b T n g) (k : Nat) (v : Value) : Blk (w.setCell ⟨b, k, none⟩ v) b T n (fun j => if j = k then v else g j) := by
  obtain ⟨cs, h1, h2, h3⟩ := h
  refine ⟨_, heap_set h1 k v, by simp [h2], fun j hj => ?_⟩
  by_cases e : j = k
  · subst e
    rw [Array.getElem?_setIfInBounds_self_of_lt (by omega)]
    simp only [if_true]
  · rw [Array.getElem?_setIfInBounds_ne (fun g => e g.symm), h3 j hj]
    simp only [if_neg e]
theorem Blk.setNe {w : World} {b c : Nat} {T : TypeId} {n : Nat} {g : Nat → Value} (h : Blk w b T n g) (k : Nat) (v : Value) (hne : b ≠ c) : Blk (w.setCell ⟨c, k, none⟩ v) b T n g :=
  h.keep (heap_set_ne _ _ _ hne)
theorem Blk.new {w : World} {b : Nat} {T : TypeId} {n : Nat} {g : Nat → Value} (h : Blk w b T n g) (o : Obj) : Blk (w.alloc o) b T n g := h.keep (heap_old _ _ _ h.lt)
theorem Blk.drewN {w : World} {b : Nat} {T : TypeId} {n : Nat} {g : Nat → Value} (h : Blk w b T n g) (k : Nat) : Blk (w.drewN k) b T n g := h
theorem Blk.drew {w : World} {b : Nat} {T : TypeId} {n : Nat} {g : Nat → Value} (h : Blk w b T n g) : Blk w.drew b T n g := h
theorem Blk.made {w : World} (T : TypeId) (cs : Array Value) (g : Nat → Value) (h : ∀ k, k < cs.size → cs[k]? = some (g k)) : Blk (w.alloc (.cells cs T (0, 0))) w.heap.size T cs.size g :=
  ⟨cs, heap_new _ _, rfl, h⟩

/-- The call may have turned the blocks of this list, and made new ones; nothing else. -/
structure Tch (bs : List Nat) (w w' : World) : Prop where
  os : w'.os = w.os
  tape : w'.tape = w.tape
  output : w'.output = w.output
  size : w.heap.size ≤ w'.heap.size
  block : ∀ k, k < w.heap.size → k ∉ bs → w'.heap[k]? = w.heap[k]?
theorem Tch.refl (bs : List Nat) (w : World) : Tch bs w w := ⟨rfl, rfl, rfl, Nat.le_refl _, fun _ _ _ => rfl⟩
theorem Tch.trans {bs : List Nat} {a b c : World} (h : Tch bs a b) (k : Tch bs b c) : Tch bs a c :=
  ⟨k.os.trans h.os, k.tape.trans h.tape, k.output.trans h.output, Nat.le_trans h.size k.size,
    fun i hi hn => (k.block i (Nat.lt_of_lt_of_le hi h.size) hn).trans (h.block i hi hn)⟩
theorem Tch.mono {bs cs : List Nat} {a b : World} (h : Tch bs a b) (hs : ∀ k ∈ bs, k ∈ cs) : Tch cs a b :=
  ⟨h.os, h.tape, h.output, h.size, fun i hi hn => h.block i hi fun g => hn (hs i g)⟩
theorem Tch.set {bs : List Nat} {a w : World} (h : Tch bs a w) {b off : Nat} (hb : b ∈ bs) (v : Value) : Tch bs a (w.setCell ⟨b, off, none⟩ v) :=
  h.trans ⟨rfl, rfl, rfl, by simp [World.setCell], fun k _ hn => heap_set_ne _ _ _ fun e => hn (e ▸ hb)⟩
theorem Tch.new {bs : List Nat} {a w : World} (h : Tch bs a w) (o : Obj) : Tch bs a (w.alloc o) :=
  h.trans ⟨rfl, rfl, rfl, by simp, fun _ hk _ => heap_old _ _ _ hk⟩
theorem Tch.drew {bs : List Nat} {a w : World} (h : Tch bs a w) : Tch bs a w.drew := ⟨h.os, h.tape, h.output, h.size, h.block⟩
theorem Tch.drewN {bs : List Nat} {a w : World} (h : Tch bs a w) (n : Nat) : Tch bs a (w.drewN n) := ⟨h.os, h.tape, h.output, h.size, h.block⟩
/-- A store into a block of the call's own. -/
theorem Tch.setNew {bs : List Nat} {a w : World} (h : Tch bs a w) {b off : Nat} (hb : a.heap.size ≤ b) (v : Value) : Tch bs a (w.setCell ⟨b, off, none⟩ v) :=
  ⟨h.os, h.tape, h.output, by rw [size_set]; exact h.size, fun k hk hn => (heap_set_ne _ _ _ (by omega)).trans (h.block k hk hn)⟩
theorem Tch.below {bs : List Nat} {W a b : World} {B : Nat} (h : Below B W a) (k : Tch bs a b) (hB : B ≤ a.heap.size) (hbs : ∀ x ∈ bs, B ≤ x) : Below B W b :=
  h.trans ⟨k.os, k.tape, k.output, k.size, fun i hi => k.block i (by omega) fun g => by have := hbs i g; omega⟩
theorem Below.tch {a b : World} (h : Below a.heap.size a b) : Tch [] a b := ⟨h.os, h.tape, h.output, h.size, fun k hk _ => h.block k hk⟩
theorem Tch.nil {a b : World} (h : Tch [] a b) : Below a.heap.size a b := ⟨h.os, h.tape, h.output, h.size, fun k hk => h.block k hk (by simp)⟩
theorem Tch.blk {bs : List Nat} {a c : World} (h : Tch bs a c) {b : Nat} {T : TypeId} {n : Nat} {g : Nat → Value} (k : Blk a b T n g) (hn : b ∉ bs) : Blk c b T n g := k.keep (h.block b k.lt hn)
theorem Tch.cell {bs : List Nat} {a b : World} (h : Tch bs a b) (k o : Nat) (hk : k < a.heap.size) (hn : k ∉ bs) : b.cell? ⟨k, o, none⟩ = a.cell? ⟨k, o, none⟩ := cell_same (h.block k hk hn) o

/-- 'make([]T, n)', exactly. -/
theorem run_make_at {P : Program} (t e : TypeId) (i : TypeInfo) (z : Value) (ht : P.underlying t = some (.slice e)) (hi : P.info? e = some i) (hz : i.zero = some z)
    (n : Nat) (hb : i.bytes * n ≤ 281474976710656) (hn : n ≤ 9223372036854775807) (w : World) :
    (Instr.makeSlice t (.int .i64 (n : Int)) (.int .i64 (n : Int))).run P w = .ok (.slice (some ⟨w.heap.size, 0, none⟩) n n) (w.alloc (.cells (madeCells z.cells (n * i.size)) e)) := by
  have hb' : (i.bytes : Int) * (n : Int) ≤ 281474976710656 := by
    have h : ((i.bytes * n : Nat) : Int) ≤ 281474976710656 := by omega
    rwa [Int.natCast_mul] at h
  have := run_make (P := P) w t e i z ht hi hz .i64 .i64 n n (by omega) (Int.le_refl _) hb' (by omega)
  simpa only [Int.toNat_natCast] using this
theorem made_one (z : Value) (n : Nat) : madeCells #[z] n = Array.replicate n z := by
  apply Array.toList_inj.1
  rw [toList_madeCells_one, Array.toList_replicate]
end Go.Proofs.Ytgnjjomfffmcaaa
