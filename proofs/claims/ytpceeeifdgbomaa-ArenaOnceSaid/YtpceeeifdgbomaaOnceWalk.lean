/- The walk of ArenaOnce: it answers true, for every steps. -/
import Derived.Test.YtpceeeifdgbomaaOnce
import Derived.Lib.EndianBits
namespace Go.Proofs.Ytpceeeifdgbomaa
open Go.RowKit

/-- The arena and the lists of those away and those that came back lie apart in memory. -/
structure OO (w0 : World) (A G X : Nat) (w : World) (top : Int) (nx : Nat → Int) (v u : Value) (s : St) (aw ba : List (Int × Int)) : Prop where
  a : AR w A G X top nx s
  rv : w.ownsRow w0.heap.size 29 2 v aw.length (hrows aw)
  ru : w.ownsRow w0.heap.size 29 2 u ba.length (hrows ba)
  b : Below w0.heap.size w0 w
  lo : ∀ k ∈ [A, G, X], w0.heap.size ≤ k
  dv : ∀ k, v.ownBlock = some k → k ∉ [A, G, X]
  du : ∀ k, u.ownBlock = some k → k ∉ [A, G, X]
  dd : ∀ k, v.ownBlock = some k → u.ownBlock ≠ some k

section
variable {w0 : World} {A G X : Nat} {w w' : World} {top top' : Int} {nx nx' : Nat → Int} {v v' u u' : Value} {s s' : St} {aw ba aw' : List (Int × Int)}
theorem OO.lt (h : OO w0 A G X w top nx v u s aw ba) : ∀ k ∈ [A, G, X], k < w.heap.size := by
  have a := h.a.a.lt
  have b := h.a.g.lt
  have c := h.a.x.lt
  simp; omega
theorem OO.tch (h : OO w0 A G X w top nx v u s aw ba) (t : Tch [] w w') : OO w0 A G X w' top nx v u s aw ba :=
  ⟨h.a.tch t (by simp), owns_tch h.rv t (by simp), owns_tch h.ru t (by simp), t.below h.b h.b.size (by simp), h.lo, h.dv, h.du, h.dd⟩
theorem OO.atook (h : OO w0 A G X w top nx v u s aw ba) (t : Tch [A, G, X] w w') (ha : AR w' A G X top' nx' s') : OO w0 A G X w' top' nx' v u s' aw ba :=
  ⟨ha, owns_tch h.rv t h.dv, owns_tch h.ru t h.du, t.below h.b h.b.size h.lo, h.lo, h.dv, h.du, h.dd⟩
theorem OO.vwent (h : OO w0 A G X w top nx v u s aw ba) (t : Tch v.ownBlock.toList w w') (p : Int × Int) (hv : w'.ownsRow w0.heap.size 29 2 v' (aw.length + 1) (hrows aw ++ [.int .i64 p.1, .int .i64 p.2])) (hf : ∀ b, v'.ownBlock = some b → b ∈ v.ownBlock.toList ∨ b = w.heap.size) :
    OO w0 A G X w' top nx v' u s (aw ++ [p]) ba := by
  have hl := h.lt
  refine ⟨h.a.tch t (fun b hb e => h.dv b (by simpa using e) hb), ?_, owns_tch h.ru t (fun b hb e => h.dd b (by simpa using e) hb), t.below h.b h.b.size (fun b hb => (h.rv.lt b (by simpa using hb)).1), h.lo, fun b hb e => ?_, h.du, fun b hb e => ?_⟩
  · rw [hrows_snoc, List.length_append]; exact hv
  · rcases hf b hb with g | g
    · exact h.dv b (by simpa using g) e
    · have := hl b e
      omega
  · rcases hf b hb with g | g
    · exact h.dd b (by simpa using g) e
    · have := (h.ru.lt b e).2
      omega
theorem OO.uwent (h : OO w0 A G X w top nx v u s aw ba) (t : Tch u.ownBlock.toList w w') (p : Int × Int) (hv : w'.ownsRow w0.heap.size 29 2 u' (ba.length + 1) (hrows ba ++ [.int .i64 p.1, .int .i64 p.2])) (hf : ∀ b, u'.ownBlock = some b → b ∈ u.ownBlock.toList ∨ b = w.heap.size) :
    OO w0 A G X w' top nx v u' s aw (ba ++ [p]) := by
  have hl := h.lt
  refine ⟨h.a.tch t (fun b hb e => h.du b (by simpa using e) hb), owns_tch h.rv t (fun b hb e => h.dd b hb (by simpa using e)), ?_, t.below h.b h.b.size (fun b hb => (h.ru.lt b (by simpa using hb)).1), h.lo, h.dv, fun b hb e => ?_, fun b hb e => ?_⟩
  · rw [hrows_snoc, List.length_append]; exact hv
  · rcases hf b hb with g | g
    · exact h.du b (by simpa using g) e
    · have := hl b e
      omega
  · rcases hf b e with g | g
    · exact h.dd b hb (by simpa using g)
    · have := (h.rv.lt b hb).2
      omega
/-- A new list in new memory takes the place of that of those away. -/
theorem OO.vnew (h : OO w0 A G X w top nx v u s aw ba) (t : Tch [] w w') (hv : w'.ownsRow w0.heap.size 29 2 v' aw'.length (hrows aw')) (hf : ∀ b, v'.ownBlock = some b → w.heap.size ≤ b) : OO w0 A G X w' top nx v' u s aw' ba := by
  have hl := h.lt
  have h' := h.tch t
  exact ⟨h'.a, hv, h'.ru, h'.b, h.lo, fun b hb e => by have := hl b e; have := hf b hb; omega, h.du, fun b hb e => by have := (h.ru.lt b e).2; have := hf b hb; omega⟩
end

theorem pick_place (f : Int) (n : Nat) (h0 : 0 < n) (h1 : n ≤ 1000) : ∃ m : Nat, wrap64 ((IntKind.u64.wrap f).tmod n) = (m : Int) ∧ m < n := by
  rw [IntKind.wrap_u64]
  have h2 : 0 ≤ f % 18446744073709551616 := by omega
  rw [Int.tmod_eq_emod_of_nonneg h2]
  obtain ⟨q, hq⟩ := Int.eq_ofNat_of_zero_le h2
  rw [hq]
  refine ⟨q % n, ?_, Nat.mod_lt _ h0⟩
  have : q % n < n := Nat.mod_lt _ h0
  have e : ((q : Int) % (n : Int)) = ((q % n : Nat) : Int) := rfl
  rw [e]
  unfold wrap64; omega
def inB (z : Int) : Prop := -9223372036854775808 ≤ z ∧ z ≤ 9223372036854775807
/-- What a pointer to a row gives of one of its handles. -/
theorem row_at {w : World} {B : Nat} {a : Option Addr} {N c : Nat} {l : List (Int × Int)} (h : w.ownsRow B 29 2 (.slice a N c) l.length (hrows l)) (m : Nat) (p : Int × Int) (hp : l[m]? = some p) :
    ∃ g, a = some ⟨g, 0, none⟩ ∧ g < w.heap.size ∧ w.cell? ⟨g, m * 2, none⟩ = some (.int .i64 p.1) ∧ w.cell? ⟨g, m * 2 + 1, none⟩ = some (.int .i64 p.2) := by
  have hm : m < l.length := by
    rcases Nat.lt_or_ge m l.length with g | g
    · exact g
    · rw [List.getElem?_eq_none g] at hp; cases hp
  obtain ⟨g, cap, hv, h1, h2⟩ := owns_some h (by omega)
  simp only [Value.slice.injEq] at hv
  obtain ⟨rfl, rfl, rfl⟩ := hv
  have hr := hrows_get l m p hp
  exact ⟨g, rfl, h2, (owns_cell h (m * 2) (by omega)).trans hr.1, (owns_cell h (m * 2 + 1) (by omega)).trans hr.2⟩

theorem size29 (W : World) : (sizeOf 29).run Try.prog W = .ok 2 W := by kernel_rfl
theorem hrows_append (l r : List (Int × Int)) : hrows (l ++ r) = hrows l ++ hrows r := by simp [hrows]
theorem hrows_one (l : List (Int × Int)) : ∀ u ∈ hrows l, u.oneCell' = true := by
  intro u hu
  obtain ⟨p, _, hp⟩ := List.mem_flatMap.1 hu
  simp at hp
  rcases hp with rfl | rfl <;> rfl
theorem owns_empty (w : World) (B : Nat) (hB : B ≤ w.heap.size) : (w.alloc (.cells #[] 29)).ownsRow B 29 2 (.slice (some ⟨w.heap.size, 0, none⟩) 0 0) 0 [] :=
  ⟨rfl, .inr ⟨w.heap.size, 0, #[], rfl, hB, heap_new _ _, Nat.le_refl _, Nat.zero_le _, rfl, rfl⟩⟩
/-- The cells of a stretch of a row. -/
theorem news_part {w : World} {B g N c : Nat} {l : List (Int × Int)} (h : w.ownsRow B 29 2 (.slice (some ⟨g, 0, none⟩) N c) l.length (hrows l)) (l0 l' r : List (Int × Int)) (hl : l = l0 ++ (l' ++ r)) (D : Addr) (hD : l' ≠ [] → D = ⟨g, l0.length * 2, none⟩) :
    ∀ j u, (hrows l')[j]? = some u → w.cell? (D.add j) = some u := by
  intro j u hj
  have hjl : j < l'.length * 2 := by
    rw [← hrows_len]
    rcases Nat.lt_or_ge j (hrows l').length with g | g
    · exact g
    · rw [List.getElem?_eq_none g] at hj; cases hj
  have hne : l' ≠ [] := by rintro rfl; simp at hjl
  rw [hD hne]
  have e1 : (⟨g, l0.length * 2, none⟩ : Addr).add j = ⟨g, l0.length * 2 + j, none⟩ := by unfold Addr.add; split <;> simp_all
  have hN : N = l.length := by
    rcases h.2 with ⟨h0, _⟩ | ⟨g', cap', cur, hv, _⟩
    · cases h0
    · simp only [Value.slice.injEq] at hv; exact hv.2.1
  subst hN
  have hll : l.length = l0.length + (l'.length + r.length) := by rw [hl]; simp
  rw [e1, owns_cell h _ (by omega), hl, hrows_append, hrows_append, List.getElem?_append_right (by rw [hrows_len]; omega), hrows_len, List.getElem?_append_left (by rw [hrows_len]; omega)]
  rw [show l0.length * 2 + j - l0.length * 2 = j by omega]
  exact hj
theorem Tch.fresh {bs : List Nat} {a b c : World} (h : Tch [] a b) (t : Tch bs b c) (hb : ∀ k ∈ bs, a.heap.size ≤ k) : Tch [] a c :=
  ⟨t.os.trans h.os, t.tape.trans h.tape, t.output.trans h.output, Nat.le_trans h.size t.size, fun k hk _ => (t.block k (Nat.lt_of_lt_of_le hk h.size) (fun e => by have := hb k e; omega)).trans (h.block k hk (by simp))⟩
theorem owns_cap {w : World} {B g N c n : Nat} {xs : List Value} (h : w.ownsRow B 29 2 (.slice (some ⟨g, 0, none⟩) N c) n xs) : N ≤ c ∧ c ≤ maxLen := by
  rcases h.2 with ⟨h0, _⟩ | ⟨g', cap', cur, hv, h1, h2, h3, h4, _⟩
  · cases h0
  · simp only [Value.slice.injEq] at hv
    obtain ⟨_, rfl, rfl⟩ := hv
    exact ⟨h3, h4⟩

set_option maxRecDepth 20000 in
set_option maxHeartbeats 4000000 in
theorem once_any (n0 : Nat) (hn0 : n0 < 256) (ao : Option Addr) (L cap : Nat) (hL : L ≤ 9223372036854775807) (w : World)
    (hback : 0 < L → ∃ b off, ao = some ⟨b, off, none⟩ ∧ b < w.heap.size ∧ ∃ F : Nat → Nat → Int, ∀ i, i < L → ∀ j, j < 4 → (Lit.int .i64 (F i j)).wf = true ∧ w.cell? ⟨b, off + i * 4 + j, none⟩ = some (.int .i64 (F i j))) :
    Calls Try.prog 4 #[.int .u8 n0, .slice ao L cap] w fun e w' => e = .returned (.bool true) ∧ Below w.heap.size w w' := by
  obtain ⟨n, hn⟩ : ∃ n, n0 % 61 = n := ⟨_, rfl⟩
  have hk : (n0 : Int) % 61 = (n : Int) := by omega
  have hn1 : n < 61 := by omega
  clear hn
  go_enter Try.func4, Try.ntmps4
  go_wp2_with fail
  go_at_call 7
  refine (new_yes n (by omega) _).mono ?_
  rintro e w1 ⟨A, G, X, nx, gA, gG, gX, rfl, h1, t1⟩
  have hP : OO w A G X w1 (-1) nx (.slice none 0 0) (.slice none 0 0) (St.new n) [] [] :=
    ⟨h1, World.ownsRow_nil _ _ _ _, World.ownsRow_nil _ _ _ _, t1.nil, by simp; omega, by simp [Value.ownBlock], by simp [Value.ownBlock], by simp [Value.ownBlock]⟩
  clear h1 t1 gA gG gX
  go_wp2_with fail
  go_loopw [7, 8, 9, 10, 11, 12, 13, 14, 15, 16] (fun v u i _ _ _ _ _ _ _ wr => ∃ (j : Nat) (top : Int) (nx : Nat → Int) (s : St) (aw ba : List (Int × Int)), j ≤ L ∧ j ≤ 200 ∧ i = .int .i64 j ∧ aw.length ≤ j ∧ ba.length ≤ j ∧ (∀ k, s.gen k ≤ j) ∧ Inv n s aw ba ∧ OO w A G X wr top nx v u s aw ba) (fun _ _ i _ _ _ _ _ _ _ _ => 200 - (intOf i).toNat)
  case atStart => exact ⟨0, _, _, _, [], [], by omega, by omega, rfl, by simp, by simp, fun _ => Nat.zero_le _, Inv.new n (by omega), hP⟩
  case round =>
    clear hP
    obtain ⟨j, top, nx, s, aw, ba, hjL, hj, rfl, hla, hlb, hgen, hI, hP⟩ := hrel
    have hlt := hP.lt
    obtain ⟨va, vc, hv, hvs⟩ := owns_form hP.rv
    subst hv
    obtain ⟨ua, uc, hu, hus⟩ := owns_form hP.ru
    subst hu
    have HP := Lib.hid hP
    have HI := Lib.hid hI
    have HG := Lib.hid hgen
    by_cases hc : j < L ∧ j < 200
    · obtain ⟨hj1, hj2⟩ := hc
      obtain ⟨b, off, rfl, hbl, F, hF⟩ := hback (by omega)
      obtain ⟨f0, hf0⟩ : ∃ f, f = F j 0 := ⟨_, rfl⟩
      obtain ⟨f1, hf1⟩ : ∃ f, f = F j 1 := ⟨_, rfl⟩
      obtain ⟨f2, hf2⟩ : ∃ f, f = F j 2 := ⟨_, rfl⟩
      obtain ⟨f3, hf3⟩ : ∃ f, f = F j 3 := ⟨_, rfl⟩
      have q0 : wr.cell? ⟨b, off + j * 4, none⟩ = some (.int .i64 f0) := by rw [hf0]; exact (hP.b.cell (p := ⟨b, off + j * 4, none⟩) hbl).trans (hF j hj1 0 (by omega)).2
      have q1 : wr.cell? ⟨b, off + j * 4 + 1, none⟩ = some (.int .i64 f1) := by rw [hf1]; exact (hP.b.cell (p := ⟨b, off + j * 4 + 1, none⟩) hbl).trans (hF j hj1 1 (by omega)).2
      have q2 : wr.cell? ⟨b, off + j * 4 + 2, none⟩ = some (.int .i64 f2) := by rw [hf2]; exact (hP.b.cell (p := ⟨b, off + j * 4 + 2, none⟩) hbl).trans (hF j hj1 2 (by omega)).2
      have q3 : wr.cell? ⟨b, off + j * 4 + 3, none⟩ = some (.int .i64 f3) := by rw [hf3]; exact (hP.b.cell (p := ⟨b, off + j * 4 + 3, none⟩) hbl).trans (hF j hj1 3 (by omega)).2
      have hbr : b < wr.heap.size := Nat.lt_of_lt_of_le hbl hP.b.size
      have hlA : A < wr.heap.size := hlt A (by simp)
      have hlG : G < wr.heap.size := hlt G (by simp)
      have hlX : X < wr.heap.size := hlt X (by simp)
      clear hF hback hf0 hf1 hf2 hf3 hP hgen hlt hI
      by_cases k0 : f0 = 0
      · subst k0
        have hts := takes_small s HP.out.a.ok j HG.out
        have hgt := gen_takes s j HG.out
        have HTA := Lib.hid (take_all (wr.alloc (.cells #[.int .i64 0, .int .i64 f1, .int .i64 f2, .int .i64 f3] 31)) A G X top nx s
          (HP.out.tch ((Tch.refl _ _).new _)).a (fun k => by have := HG.out k; omega))
        have hok := HI.out.takes_ok
        have hno := HI.out.takes_no
        have hyes := fun h => HI.out.takes_yes h (fun k => by have := HG.out k; omega)
        generalize s.takes = r at hts hgt HTA hok hno hyes
        obtain ⟨tk, tg, tb, s'⟩ := r
        obtain ⟨ht1, ht2⟩ := hts
        simp only [] at ht1 ht2 hok hno hyes
        have HGT := Lib.hid hgt
        have HNO := Lib.hid hno
        have HYES := Lib.hid hyes
        have hok' : decide ((aw.length : Int) < n) = tb := by rw [hok, decide_eq_decide]; omega
        clear hgt hno hyes hok
        cases tb with
        | true =>
          go_wp2_with fail
          go_at_call 9
          refine HTA.out.mono ?_
          rintro e w3 ⟨rfl, t3, top3, nx3, h3⟩
          have P3 := Lib.hid ((HP.out.tch ((Tch.refl _ _).new _)).atook t3 h3)
          have hlA3 := h3.a.lt
          have hlG3 := h3.g.lt
          have hlX3 := h3.x.lt
          simp only [takeVal]
          clear t3 h3
          have hlt1 : (aw.length : Int) < n := of_decide_eq_true hok'
          go_wp2_with fail
          go_loopw [13] (fun i wq => ∃ (m : Nat), m ≤ aw.length ∧ i = .int .i64 m ∧ Tch [] (w3.alloc (.cells #[.int .i64 tk, .int .i64 tg] 29)) wq) (fun i _ => aw.length - (intOf i).toNat)
          case atStart => exact ⟨0, by omega, rfl, Tch.refl _ _⟩
          case round =>
            obtain ⟨m, hm, rfl, hT⟩ := hrel
            have hbq := hT.blk (handle_made w3 tk tg) (by simp)
            have hlq := hbq.lt
            have x0 : wr.cell? ⟨w3.heap.size, 0, none⟩ = some (.int .i64 tk) := hbq.cell 0 (by omega)
            have x1 : wr.cell? ⟨w3.heap.size, 1, none⟩ = some (.int .i64 tg) := hbq.cell 1 (by omega)
            have PQ := Lib.hid ((P3.out.tch ((Tch.refl _ _).new _)).tch hT)
            have HT := Lib.hid hT
            clear hT hbq
            by_cases hma : m < aw.length
            · obtain ⟨p, hp⟩ : ∃ p, aw[m]? = some p := ⟨aw[m], by simp [hma]⟩
              obtain ⟨g, rfl, hgl, z0, z1⟩ := row_at PQ.out.rv m p hp
              have hne := (HYES.out (by first | rfl | trivial)).2 p (List.mem_of_getElem? hp)
              have hne' : (p.1 == (tk : Int)) = false := beq_eq_false_iff_ne.2 hne
              clear hp
              go_wp2_with fail
              go_quiet (fail)
              go_wp2_with fail
              go_roundw
              case rel => exact ⟨m + 1, by omega, by go_num, HT.out.drewN _⟩
              case measure => simp [intOf]; omega
            · have hB4 := PQ.out.b.size
              go_wp2_with (at_builtin; (refine wpList_append1 E27 rfl (.tmp 68) (.tmp 70) rfl w.heap.size _ aw.length (hrows aw) (owns_new PQ.out.rv _) rfl _ _ [.int .i64 tk, .int .i64 tg] rfl rfl (0, 0) 29 (heap_new_at _ _ _ rfl) (by simp [Value.oneCell']) (by unfold maxLen; omega) (by omega) (by simp; omega) ?_); intro va' vc' w5 r1 r2 r3)
              obtain ⟨AW, hAW⟩ : ∃ AW, AW = aw ++ [((tk : Int), (tg : Int))] := ⟨_, rfl⟩
              obtain ⟨BA, hBA⟩ : ∃ BA, BA = ba := ⟨_, rfl⟩
              have PX : Hid (OO w A G X w5 top3 nx3 (.slice va' (aw.length + 1) vc') (.slice ua ba.length uc) s' AW BA) := by
                rw [hAW, hBA]
                exact Lib.hid ((PQ.out.tch ((Tch.refl _ _).new _)).vwent r2 ((tk : Int), (tg : Int)) r1 r3)
              have IX : Hid (Inv n s' AW BA) := by
                rw [hAW, hBA]
                exact Lib.hid (HYES.out (by first | rfl | trivial)).1
              have hN1 : AW.length = aw.length + 1 := by rw [hAW]; simp
              have hN2 : BA.length = ba.length := by rw [hBA]
              clear r1 r2 r3 PQ HT x0 x1 hvs hAW hBA
              go_wp2_with fail
              go_loopw [15] (fun i wq => ∃ (m : Nat), m ≤ ba.length ∧ i = .int .i64 m ∧ OO w A G X wq top3 nx3 (.slice va' (aw.length + 1) vc') (.slice ua ba.length uc) s' AW BA) (fun i _ => ba.length - (intOf i).toNat)
              case atStart => exact ⟨0, by omega, rfl, PX.out⟩
              case round =>
                obtain ⟨m, hm, rfl, hO⟩ := hrel
                have PQ := Lib.hid hO
                clear hO PX
                by_cases hmb : m < ba.length
                · obtain ⟨⟨pk, pg⟩, hp⟩ : ∃ p, BA[m]? = some p := ⟨BA[m]'(by omega), by simp⟩
                  obtain ⟨g, hge, hgl, z0, z1⟩ := row_at PQ.out.ru m _ hp
                  subst hge
                  obtain ⟨hlv, hp0, hp1⟩ := IX.out.live_ba _ (List.mem_of_getElem? hp)
                  simp only [] at hlv hp0 hp1 z0 z1
                  have HLV := Lib.hid hlv
                  clear hp hlv
                  go_wp2_with fail
                  go_at_call 13
                  refine (live_any _ A G X top3 nx3 s' PQ.out.a pk pg (by omega) (by omega)).mono ?_
                  rw [HLV.out]
                  rintro e w8 ⟨rfl, t8⟩
                  have P8 := Lib.hid (PQ.out.tch t8)
                  clear t8
                  go_wp2_with fail
                  go_roundw
                  case rel => exact ⟨m + 1, by omega, by go_num, P8.out⟩
                  case measure => simp [intOf]; omega
                · go_wp2_with fail
                  go_loopw [16] (fun i wq => ∃ (m : Nat), m ≤ (aw.length + 1) ∧ i = .int .i64 m ∧ OO w A G X wq top3 nx3 (.slice va' (aw.length + 1) vc') (.slice ua ba.length uc) s' AW BA) (fun i _ => (aw.length + 1) - (intOf i).toNat)
                  case atStart => exact ⟨0, by omega, rfl, PQ.out⟩
                  case round =>
                    obtain ⟨m2, hm2, rfl, hO⟩ := hrel
                    have P7 := Lib.hid hO
                    clear hO PQ hmb hm
                    by_cases hmb : m2 < (aw.length + 1)
                    · obtain ⟨⟨pk, pg⟩, hp⟩ : ∃ p, AW[m2]? = some p := ⟨AW[m2]'(by omega), by simp⟩
                      obtain ⟨g, hge, hgl, z0, z1⟩ := row_at P7.out.rv m2 _ hp
                      subst hge
                      obtain ⟨hlv, hp0, hp1⟩ := IX.out.live_aw _ (List.mem_of_getElem? hp)
                      simp only [] at hlv hp0 hp1 z0 z1
                      have HLV := Lib.hid hlv
                      clear hp hlv
                      go_wp2_with fail
                      go_at_call 13
                      refine (live_any _ A G X top3 nx3 s' P7.out.a pk pg (by omega) (by omega)).mono ?_
                      rw [HLV.out]
                      rintro e w8 ⟨rfl, t8⟩
                      have P8 := Lib.hid (P7.out.tch t8)
                      have z2 := (t8.cell g (m2 * 2) hgl (by simp)).trans z0
                      have z3 := (t8.cell g (m2 * 2 + 1) hgl (by simp)).trans z1
                      have hgl8 := Nat.lt_of_lt_of_le hgl t8.size
                      have hq1 : decide (pk < 0) = false := decide_eq_false_iff_not.2 (by omega)
                      have hq2 : decide ((n : Int) ≤ pk) = false := decide_eq_false_iff_not.2 (by omega)
                      clear t8
                      go_wp2_with fail
                      go_roundw
                      case rel => exact ⟨m2 + 1, by omega, by go_num, P8.out⟩
                      case measure => simp [intOf]; omega
                    · go_wp2_with (go_at_call 15; refine (len_at _ A G X top3 nx3 s' P7.out.a (aw.length + 1) (by have := IX.out.len; omega)).mono ?_; rintro e w8 ⟨rfl, t8⟩; subst t8)
                      go_roundw
                      case rel => exact ⟨j + 1, top3, nx3, s', AW, BA, by omega, by omega, by go_num, by omega, by omega, HGT.out, IX.out, P7.out⟩
                      case measure => simp [intOf]; omega
        | false =>
          go_wp2_with fail
          go_at_call 9
          refine HTA.out.mono ?_
          rintro e w3 ⟨rfl, t3, top3, nx3, h3⟩
          have P3 := Lib.hid ((HP.out.tch ((Tch.refl _ _).new _)).atook t3 h3)
          have hlA3 := h3.a.lt
          have hlG3 := h3.g.lt
          have hlX3 := h3.x.lt
          simp only [takeVal]
          clear t3 h3
          have hlt1 : ¬ (aw.length : Int) < n := of_decide_eq_false hok'
          go_wp2_with fail
          go_loopw [13] (fun i wq => ∃ (m : Nat), m ≤ aw.length ∧ i = .int .i64 m ∧ Tch [] (w3.alloc (.cells #[.int .i64 tk, .int .i64 tg] 29)) wq) (fun i _ => aw.length - (intOf i).toNat)
          case atStart => exact ⟨0, by omega, rfl, Tch.refl _ _⟩
          case round =>
            obtain ⟨m, hm, rfl, hT⟩ := hrel
            have hbq := hT.blk (handle_made w3 tk tg) (by simp)
            have hlq := hbq.lt
            have x0 : wr.cell? ⟨w3.heap.size, 0, none⟩ = some (.int .i64 tk) := hbq.cell 0 (by omega)
            have x1 : wr.cell? ⟨w3.heap.size, 1, none⟩ = some (.int .i64 tg) := hbq.cell 1 (by omega)
            have PQ := Lib.hid ((P3.out.tch ((Tch.refl _ _).new _)).tch hT)
            have HT := Lib.hid hT
            clear hT hbq
            by_cases hma : m < aw.length
            · go_wp2_with fail
              go_quiet (fail)
              go_wp2_with fail
              go_roundw
              case rel => exact ⟨m + 1, by omega, by go_num, HT.out.drewN _⟩
              case measure => simp [intOf]; omega
            · obtain ⟨AW, hAW⟩ : ∃ AW, AW = aw := ⟨_, rfl⟩
              obtain ⟨BA, hBA⟩ : ∃ BA, BA = ba := ⟨_, rfl⟩
              have PX : Hid (OO w A G X wr top3 nx3 (.slice va aw.length vc) (.slice ua ba.length uc) s' AW BA) := by
                rw [hAW, hBA]
                exact PQ
              have IX : Hid (Inv n s' AW BA) := by
                rw [hAW, hBA, HNO.out (by first | rfl | trivial)]
                exact HI
              have hN1 : AW.length = aw.length := by rw [hAW]
              have hN2 : BA.length = ba.length := by rw [hBA]
              clear PQ HT x0 x1 hvs hAW hBA
              go_wp2_with fail
              go_loopw [15] (fun i wq => ∃ (m : Nat), m ≤ ba.length ∧ i = .int .i64 m ∧ OO w A G X wq top3 nx3 (.slice va aw.length vc) (.slice ua ba.length uc) s' AW BA) (fun i _ => ba.length - (intOf i).toNat)
              case atStart => exact ⟨0, by omega, rfl, PX.out⟩
              case round =>
                obtain ⟨m, hm, rfl, hO⟩ := hrel
                have PQ := Lib.hid hO
                clear hO PX
                by_cases hmb : m < ba.length
                · obtain ⟨⟨pk, pg⟩, hp⟩ : ∃ p, BA[m]? = some p := ⟨BA[m]'(by omega), by simp⟩
                  obtain ⟨g, hge, hgl, z0, z1⟩ := row_at PQ.out.ru m _ hp
                  subst hge
                  obtain ⟨hlv, hp0, hp1⟩ := IX.out.live_ba _ (List.mem_of_getElem? hp)
                  simp only [] at hlv hp0 hp1 z0 z1
                  have HLV := Lib.hid hlv
                  clear hp hlv
                  go_wp2_with fail
                  go_at_call 13
                  refine (live_any _ A G X top3 nx3 s' PQ.out.a pk pg (by omega) (by omega)).mono ?_
                  rw [HLV.out]
                  rintro e w8 ⟨rfl, t8⟩
                  have P8 := Lib.hid (PQ.out.tch t8)
                  clear t8
                  go_wp2_with fail
                  go_roundw
                  case rel => exact ⟨m + 1, by omega, by go_num, P8.out⟩
                  case measure => simp [intOf]; omega
                · go_wp2_with fail
                  go_loopw [16] (fun i wq => ∃ (m : Nat), m ≤ aw.length ∧ i = .int .i64 m ∧ OO w A G X wq top3 nx3 (.slice va aw.length vc) (.slice ua ba.length uc) s' AW BA) (fun i _ => aw.length - (intOf i).toNat)
                  case atStart => exact ⟨0, by omega, rfl, PQ.out⟩
                  case round =>
                    obtain ⟨m2, hm2, rfl, hO⟩ := hrel
                    have P7 := Lib.hid hO
                    clear hO PQ hmb hm
                    by_cases hmb : m2 < aw.length
                    · obtain ⟨⟨pk, pg⟩, hp⟩ : ∃ p, AW[m2]? = some p := ⟨AW[m2]'(by omega), by simp⟩
                      obtain ⟨g, hge, hgl, z0, z1⟩ := row_at P7.out.rv m2 _ hp
                      subst hge
                      obtain ⟨hlv, hp0, hp1⟩ := IX.out.live_aw _ (List.mem_of_getElem? hp)
                      simp only [] at hlv hp0 hp1 z0 z1
                      have HLV := Lib.hid hlv
                      clear hp hlv
                      go_wp2_with fail
                      go_at_call 13
                      refine (live_any _ A G X top3 nx3 s' P7.out.a pk pg (by omega) (by omega)).mono ?_
                      rw [HLV.out]
                      rintro e w8 ⟨rfl, t8⟩
                      have P8 := Lib.hid (P7.out.tch t8)
                      have z2 := (t8.cell g (m2 * 2) hgl (by simp)).trans z0
                      have z3 := (t8.cell g (m2 * 2 + 1) hgl (by simp)).trans z1
                      have hgl8 := Nat.lt_of_lt_of_le hgl t8.size
                      have hq1 : decide (pk < 0) = false := decide_eq_false_iff_not.2 (by omega)
                      have hq2 : decide ((n : Int) ≤ pk) = false := decide_eq_false_iff_not.2 (by omega)
                      clear t8
                      go_wp2_with fail
                      go_roundw
                      case rel => exact ⟨m2 + 1, by omega, by go_num, P8.out⟩
                      case measure => simp [intOf]; omega
                    · go_wp2_with (go_at_call 15; refine (len_at _ A G X top3 nx3 s' P7.out.a aw.length (by have := IX.out.len; omega)).mono ?_; rintro e w8 ⟨rfl, t8⟩; subst t8)
                      go_roundw
                      case rel => exact ⟨j + 1, top3, nx3, s', AW, BA, by omega, by omega, by go_num, by omega, by omega, HGT.out, IX.out, P7.out⟩
                      case measure => simp [intOf]; omega
      · have k0' : (f0 == 0) = false := beq_eq_false_iff_ne.2 k0
        have HGT : Hid (∀ k, s.gen k ≤ j + 1) := Lib.hid fun k => by have := HG.out k; omega
        by_cases ha : 0 < aw.length
        · have ha' : decide ((0 : Int) < (aw.length : Int)) = true := decide_eq_true_iff.2 (by omega)
          obtain ⟨m, hm, hml⟩ := pick_place f1 aw.length ha (by omega)
          obtain ⟨⟨pk, pg⟩, hp⟩ : ∃ p, aw[m]? = some p := ⟨aw[m], by simp [hml]⟩
          obtain ⟨g, hge, hgl, z0, z1⟩ := row_at HP.out.rv m _ hp
          subst hge
          obtain ⟨-, hp0, hp1⟩ := HI.out.live_aw _ (List.mem_of_getElem? hp)
          obtain ⟨y1, y2, y3, y4⟩ := HI.out.give m _ hp
          simp only [] at hp0 hp1 z0 z1 y1 y2 y3 y4
          have HGA := fun (w3 : World) (h : AR w3 A G X top nx s) => give_all w3 A G X top nx s h pk pg (by omega) (by omega)
          have HGB := fun (w3 : World) (top : Int) (nx : Nat → Int) (h : AR w3 A G X top nx (s.gives pk pg).2) => give_all w3 A G X top nx _ h pk pg (by omega) (by omega)
          have HGT : Hid (∀ k, (s.gives pk pg).2.gen k ≤ j + 1) := Lib.hid fun k => by rw [gen_gives]; have := HG.out k; omega
          rw [y1] at HGA
          rw [y2, y3] at HGB
          generalize (s.gives pk pg).2 = s' at HGA HGB HGT y4
          have HP0 := Lib.hid hp
          have IX := Lib.hid y4
          have HGA := Lib.hid HGA
          have HGB := Lib.hid HGB
          clear hp y1 y2 y3 y4 hvs hus
          go_wp2_with fail
          go_at_call 11
          refine (HGA.out _ (HP.out.tch ((Tch.refl _ _).new _)).a).mono ?_
          rintro e w3 ⟨rfl, t3, top3, nx3, h3⟩
          have P3 := Lib.hid ((HP.out.tch ((Tch.refl _ _).new _)).atook t3 h3)
          obtain ⟨g', hge', hgl3, z30, z31⟩ := row_at P3.out.rv m _ HP0.out
          obtain rfl : g = g' := by simpa using hge'
          simp only [] at z30 z31
          clear t3 h3 hge'
          go_wp2_with fail
          go_at_call 11
          refine (HGB.out _ _ _ P3.out.a).mono ?_
          rintro e w4 ⟨rfl, t4, top4, nx4, h4⟩
          have P4 := Lib.hid (P3.out.atook t4 h4)
          obtain ⟨g', hge', hgl4, z40, z41⟩ := row_at P4.out.rv m _ HP0.out
          obtain rfl : g = g' := by simpa using hge'
          simp only [] at z40 z41
          have hB4 := P4.out.b.size
          clear t4 h4 hge' z30 z31 z0 z1
          go_wp2_with (at_builtin; (refine wpList_append1 E27 rfl (.tmp 98) (.tmp 103) rfl w.heap.size _ ba.length (hrows ba) (owns_new P4.out.ru _) rfl _ _ [.int .i64 pk, .int .i64 pg] rfl rfl (0, 0) 29 (heap_new_at _ _ _ rfl) (by simp [Value.oneCell']) (by unfold maxLen; omega) (by omega) (by simp; omega) ?_); intro ua' uc' w5 r1 r2 r3)
          have P5 := Lib.hid ((P4.out.tch ((Tch.refl _ _).new _)).uwent r2 (pk, pg) r1 r3)
          have hgl5 : g < w5.heap.size := by have := r2.size; rw [size_new] at this; omega
          have hB5 := P5.out.b.size
          have hcap := owns_cap P5.out.rv
          unfold maxLen at hcap
          obtain ⟨hcap1, hcap2⟩ := hcap
          obtain ⟨D, hD⟩ : ∃ D, D = (if vc = m + 1 then (⟨g, 0, none⟩ : Addr) else ⟨g, (m + 1) * 2, none⟩) := ⟨_, rfl⟩
          have e27 : ∀ W, (sizeOf (Try.prog.elem 27)).run Try.prog W = .ok 2 W := by
            intro W
            have he : Try.prog.elem 27 = 29 := by simp [Program.elem, Try.underlying27]
            rw [he]
            exact size29 W
          have ht27 : Try.prog.underlying 27 = some (.slice (Try.prog.elem 27)) := by simp [Program.elem, Try.underlying27]
          have hs1 : ∀ W, (Instr.slice 27 (.slice (some ⟨g, 0, none⟩) aw.length vc) none (some (.int .i64 (m : Int))) none).run Try.prog W = .ok (.slice (some ⟨g, 0, none⟩) m vc) W := by
            intro W
            rw [run_slice_h W 27 _ _ _ ht27 .i64 _ (by omega) (by omega), e27]
            have : ¬ vc = 0 := by omega
            simp [Result.andThen, sliced, Addr.add, this]
          have hs2 : ∀ W, (Instr.slice 27 (.slice (some ⟨g, 0, none⟩) aw.length vc) (some (.int .i64 ((m : Int) + 1))) none none).run Try.prog W = .ok (.slice (some D) (aw.length - (m + 1)) (vc - (m + 1))) W := by
            intro W
            rw [run_slice_l W 27 _ _ _ ht27 .i64 _ (by omega) (by omega), e27, hD]
            have h1 : ((m : Int) + 1).toNat = m + 1 := by omega
            by_cases h0 : vc = m + 1
            · simp [Result.andThen, sliced, Addr.add, h0, h1]
            · simp [Result.andThen, sliced, Addr.add, h0, h1]
          have hsplit : aw = aw.take m ++ ((pk, pg) :: aw.drop (m + 1)) := by
            have hp := HP0.out
            have e1 : aw.drop m = (pk, pg) :: aw.drop (m + 1) := by
              rw [List.drop_eq_getElem_cons hml]
              rw [List.getElem?_eq_getElem hml] at hp
              simp at hp
              rw [hp]
            rw [← e1, List.take_append_drop]
          have hN1 : ∀ W : World, W.ownsRow w.heap.size 29 2 (.slice (some ⟨g, 0, none⟩) aw.length vc) aw.length (hrows aw) → ∀ j u, (hrows (aw.take m))[j]? = some u → W.cell? ((⟨g, 0, none⟩ : Addr).add j) = some u := fun W h => news_part h [] (aw.take m) ((pk, pg) :: aw.drop (m + 1)) (by rw [List.nil_append]; exact hsplit) _ (fun _ => rfl)
          have hN2 : ∀ W : World, W.ownsRow w.heap.size 29 2 (.slice (some ⟨g, 0, none⟩) aw.length vc) aw.length (hrows aw) → ∀ j u, (hrows (aw.drop (m + 1)))[j]? = some u → W.cell? (D.add j) = some u := fun W h => news_part h (aw.take m ++ [(pk, pg)]) (aw.drop (m + 1)) [] (by rw [List.append_nil, List.append_assoc]; exact hsplit) _ (fun hne => by
            have h2 : (aw.take m ++ [(pk, pg)]).length = m + 1 := by simp; omega
            have h3 : 0 < (aw.drop (m + 1)).length := List.length_pos_iff.2 hne
            rw [List.length_drop] at h3
            rw [hD, h2, if_neg (by omega)])
          have HN1 := Lib.hid hN1
          have HN2 := Lib.hid hN2
          have HD := Lib.hid hD
          clear r1 r2 r3 hN1 hN2 hD hsplit z40 z41 ht27 e27
          go_wp2_with fail
          refine region_any (.takes [1, 2, 3, 5, 6, 7, 8] (.fork 0 [3, 7, 8] (.fork 4 [7, 8] (.fork 9 [] (.takes [10] .done) .none) .none) .none)) (by kernel_rfl) (by kernel_rfl) rfl ?_
          go_wp2_with first | ((with_reducible refine wpE_at 4 ?_); (refine wpE_append E27 rfl rfl (.tmp 105) (.tmp 108) rfl w.heap.size (.slice (some ⟨w5.heap.size, 0, none⟩) 0 0) 0 [] (owns_empty w5 _ hB5).drew rfl ⟨g, 0, none⟩ m vc (hrows (aw.take m)) rfl (by rw [hrows_len]; simp; omega) (HN1.out _ (owns_new P5.out.rv _).drew) (hrows_one _) (by unfold maxLen; omega) (by omega) (by simp; omega) ?_ wpE_none); intro va6 vc6 w6 r1 r2 r3; have k1 := owns_tch (owns_new P5.out.rv (.cells #[] 29)).drew r2 (fun b hb e => by have := (P5.out.rv.lt b hb).2; simp [Value.ownBlock] at e; omega)) | ((with_reducible refine wpE_at 9 ?_); (refine wpE_append E27 rfl rfl (.tmp 109) (.tmp 113) rfl w.heap.size (.slice va6 (0 + m) vc6) (0 + m) ([] ++ hrows (aw.take m)) r1 rfl D (aw.length - (m + 1)) (vc - (m + 1)) (hrows (aw.drop (m + 1))) rfl (by rw [hrows_len]; simp) (HN2.out _ k1) (hrows_one _) (by unfold maxLen; omega) (by omega) (by have := r2.size; simp at this; omega) ?_ wpE_none); intro va7 vc7 w7 l1 l2 l3) | (with_reducible exact True.intro) | (with_reducible exact wpE_none) | (with_reducible refine wpE_takes_nil ?_) | (with_reducible refine wpE_done ?_) | (refine wpE_take rfl rfl (fun _ _ => ?_)) | (refine wpE_skip rfl rfl ?_) | (refine wpE_fork rfl rfl (fun _ _ => ?_) ?_) | (with_reducible exact agains_nil) | (refine agains_cons rfl (fun _ => ?_) ?_) | (with_reducible refine wpE_same ?_) | (refine And.intro (rfl : (_ : World) = _) ?_) | (with_reducible refine wpE_and ?_ ?_)
          have hv7 : ∀ b, (Value.slice va7 (0 + m + (aw.length - (m + 1))) vc7).ownBlock = some b → w5.heap.size ≤ b := by
            intro b hb
            have h6 := r2.size
            simp at h6
            rcases l3 b hb with g1 | g1
            · rcases r3 b (by simpa using g1) with g2 | g2
              · simp [Value.ownBlock] at g2; omega
              · simp at g2; omega
            · omega
          have t7 : Tch [] w5 w7 := by
            have t6 : Tch [] w5 w6 := Tch.fresh (((Tch.refl _ _).new _).drew) r2 (fun k hk => by simp [Value.ownBlock] at hk; omega)
            refine Tch.fresh t6 l2 (fun k hk => ?_)
            rcases r3 k (by simpa using hk) with g2 | g2
            · simp [Value.ownBlock] at g2; omega
            · simp at g2; omega
          obtain ⟨AW, hAW⟩ : ∃ AW, AW = aw.take m ++ aw.drop (m + 1) := ⟨_, rfl⟩
          obtain ⟨BA, hBA⟩ : ∃ BA, BA = ba ++ [(pk, pg)] := ⟨_, rfl⟩
          have hN1 : AW.length = 0 + m + (aw.length - (m + 1)) := by rw [hAW, List.length_append, List.length_take, List.length_drop]; omega
          have hN2 : BA.length = ba.length + 1 := by rw [hBA]; simp
          have PX : Hid (OO w A G X w7 top4 nx4 (.slice va7 (0 + m + (aw.length - (m + 1))) vc7) (.slice ua' (ba.length + 1) uc') s' AW BA) := by
            refine Lib.hid ?_
            have h := P5.out.vnew (v' := .slice va7 (0 + m + (aw.length - (m + 1))) vc7) (aw' := AW) t7 (by rw [hN1, hAW, hrows_append]; simpa using l1) hv7
            rw [← hBA] at h
            exact h
          have IX' : Hid (Inv n s' AW BA) := by
            rw [hAW, hBA]
            exact IX
          have HA := Lib.hid ha
          clear hAW hBA hv7 t7 l1 l2 l3 r1 r2 r3 k1 ha ha' IX
          simp only [Nat.zero_add] at PX hN1 ⊢
          have hN3 : m + (aw.length - (m + 1)) ≤ aw.length := by omega
          generalize m + (aw.length - (m + 1)) = N1 at PX hN1 hN3 ⊢
          go_wp2_with fail
          go_loopw [15] (fun i wq => ∃ (m : Nat), m ≤ (ba.length + 1) ∧ i = .int .i64 m ∧ OO w A G X wq top4 nx4 (.slice va7 N1 vc7) (.slice ua' (ba.length + 1) uc') s' AW BA) (fun i _ => (ba.length + 1) - (intOf i).toNat)
          case atStart => exact ⟨0, by omega, rfl, PX.out⟩
          case round =>
            obtain ⟨m1, hm1, rfl, hO⟩ := hrel
            have PQ := Lib.hid hO
            clear hO PX
            by_cases hmb : m1 < (ba.length + 1)
            · obtain ⟨⟨pk, pg⟩, hp⟩ : ∃ p, BA[m1]? = some p := ⟨BA[m1]'(by omega), by simp⟩
              obtain ⟨gg, hge, hgl, z0, z1⟩ := row_at PQ.out.ru m1 _ hp
              subst hge
              obtain ⟨hlv, hp0, hp1⟩ := IX'.out.live_ba _ (List.mem_of_getElem? hp)
              simp only [] at hlv hp0 hp1 z0 z1
              have HLV := Lib.hid hlv
              clear hp hlv
              go_wp2_with fail
              go_at_call 13
              refine (live_any _ A G X top4 nx4 s' PQ.out.a pk pg (by omega) (by omega)).mono ?_
              rw [HLV.out]
              rintro e w8 ⟨rfl, t8⟩
              have P8 := Lib.hid (PQ.out.tch t8)
              clear t8
              go_wp2_with fail
              go_roundw
              case rel => exact ⟨m1 + 1, by omega, by go_num, P8.out⟩
              case measure => simp [intOf]; omega
            · go_wp2_with fail
              go_loopw [16] (fun i wq => ∃ (m : Nat), m ≤ N1 ∧ i = .int .i64 m ∧ OO w A G X wq top4 nx4 (.slice va7 N1 vc7) (.slice ua' (ba.length + 1) uc') s' AW BA) (fun i _ => N1 - (intOf i).toNat)
              case atStart => exact ⟨0, by omega, rfl, PQ.out⟩
              case round =>
                obtain ⟨m2, hm2, rfl, hO⟩ := hrel
                have P7 := Lib.hid hO
                clear hO PQ hmb hm1
                by_cases hmb : m2 < N1
                · obtain ⟨⟨pk, pg⟩, hp⟩ : ∃ p, AW[m2]? = some p := ⟨AW[m2]'(by omega), by simp⟩
                  obtain ⟨gg, hge, hgl, z0, z1⟩ := row_at P7.out.rv m2 _ hp
                  subst hge
                  obtain ⟨hlv, hp0, hp1⟩ := IX'.out.live_aw _ (List.mem_of_getElem? hp)
                  simp only [] at hlv hp0 hp1 z0 z1
                  have HLV := Lib.hid hlv
                  clear hp hlv
                  go_wp2_with fail
                  go_at_call 13
                  refine (live_any _ A G X top4 nx4 s' P7.out.a pk pg (by omega) (by omega)).mono ?_
                  rw [HLV.out]
                  rintro e w8 ⟨rfl, t8⟩
                  have P8 := Lib.hid (P7.out.tch t8)
                  have z2 := (t8.cell gg (m2 * 2) hgl (by simp)).trans z0
                  have z3 := (t8.cell gg (m2 * 2 + 1) hgl (by simp)).trans z1
                  have hgl8 := Nat.lt_of_lt_of_le hgl t8.size
                  have hq1 : decide (pk < 0) = false := decide_eq_false_iff_not.2 (by omega)
                  have hq2 : decide ((n : Int) ≤ pk) = false := decide_eq_false_iff_not.2 (by omega)
                  clear t8
                  go_wp2_with fail
                  go_roundw
                  case rel => exact ⟨m2 + 1, by omega, by go_num, P8.out⟩
                  case measure => simp [intOf]; omega
                · go_wp2_with (go_at_call 15; refine (len_at _ A G X top4 nx4 s' P7.out.a N1 (by have := IX'.out.len; omega)).mono ?_; rintro e w8 ⟨rfl, t8⟩; subst t8)
                  go_roundw
                  case rel => exact ⟨j + 1, top4, nx4, s', AW, BA, by omega, by omega, by go_num, by omega, by omega, HGT.out, IX'.out, P7.out⟩
                  case measure => simp [intOf]; omega
        · obtain ⟨AW, hAW⟩ : ∃ AW, AW = aw := ⟨_, rfl⟩
          obtain ⟨BA, hBA⟩ : ∃ BA, BA = ba := ⟨_, rfl⟩
          have PX : Hid (OO w A G X (wr.alloc (.cells #[.int .i64 f0, .int .i64 f1, .int .i64 f2, .int .i64 f3] 31)) top nx (.slice va aw.length vc) (.slice ua ba.length uc) s AW BA) := by
            rw [hAW, hBA]
            exact Lib.hid (HP.out.tch ((Tch.refl _ _).new _))
          have IX : Hid (Inv n s AW BA) := by
            rw [hAW, hBA]
            exact HI
          have hN1 : AW.length = aw.length := by rw [hAW]
          have hN2 : BA.length = ba.length := by rw [hBA]
          have HA := Lib.hid ha
          clear hAW hBA hvs hus
          go_wp2_with fail
          try simp only [show decide ((j : Int) < 200) = true from decide_eq_true_iff.2 (by omega)]
          clear ha
          go_loopw [15] (fun i wq => ∃ (m : Nat), m ≤ ba.length ∧ i = .int .i64 m ∧ OO w A G X wq top nx (.slice va aw.length vc) (.slice ua ba.length uc) s AW BA) (fun i _ => ba.length - (intOf i).toNat)
          case atStart => exact ⟨0, by omega, rfl, PX.out⟩
          case round =>
            obtain ⟨m, hm, rfl, hO⟩ := hrel
            have PQ := Lib.hid hO
            clear hO PX
            by_cases hmb : m < ba.length
            · obtain ⟨⟨pk, pg⟩, hp⟩ : ∃ p, BA[m]? = some p := ⟨BA[m]'(by omega), by simp⟩
              obtain ⟨g, hge, hgl, z0, z1⟩ := row_at PQ.out.ru m _ hp
              subst hge
              obtain ⟨hlv, hp0, hp1⟩ := IX.out.live_ba _ (List.mem_of_getElem? hp)
              simp only [] at hlv hp0 hp1 z0 z1
              have HLV := Lib.hid hlv
              clear hp hlv
              go_wp2_with fail
              go_at_call 13
              refine (live_any _ A G X top nx s PQ.out.a pk pg (by omega) (by omega)).mono ?_
              rw [HLV.out]
              rintro e w8 ⟨rfl, t8⟩
              have P8 := Lib.hid (PQ.out.tch t8)
              clear t8
              go_wp2_with fail
              go_roundw
              case rel => exact ⟨m + 1, by omega, by go_num, P8.out⟩
              case measure => simp [intOf]; omega
            · go_wp2_with fail
              go_loopw [16] (fun i wq => ∃ (m : Nat), m ≤ aw.length ∧ i = .int .i64 m ∧ OO w A G X wq top nx (.slice va aw.length vc) (.slice ua ba.length uc) s AW BA) (fun i _ => aw.length - (intOf i).toNat)
              case atStart => exact ⟨0, by omega, rfl, PQ.out⟩
              case round =>
                obtain ⟨m2, hm2, rfl, hO⟩ := hrel
                have P7 := Lib.hid hO
                clear hO PQ hmb hm
                by_cases hmb : m2 < aw.length
                · have := HA.out; exfalso; omega
                · go_wp2_with (go_at_call 15; refine (len_at _ A G X top nx s P7.out.a aw.length (by have := IX.out.len; omega)).mono ?_; rintro e w8 ⟨rfl, t8⟩; subst t8)
                  go_roundw
                  case rel => exact ⟨j + 1, top, nx, s, AW, BA, by omega, by omega, by go_num, by omega, by omega, HGT.out, IX.out, P7.out⟩
                  case measure => simp [intOf]; omega
    · clear hP hI hgen hlt hback hvs hus
      go_wp2_with fail
      all_goals
        go_at_call 17
        refine (awake_any _).mono ?_
        rintro e w6 ⟨rfl, b6⟩
        have hs := HP.out.b.size
        go_wp2_with fail
        go_ret
        exact ⟨rfl, HP.out.b.trans (b6.mono hs)⟩
end Go.Proofs.Ytpceeeifdgbomaa
