/-
  Layer 15: a node put into the queue. No condition besides what the queue is.
-/
import Derived.Test.YtcpmnocknpalfaaQ1
namespace Go.Proofs.Ytcpmnocknpalfaa
open Go.RowKit Go.Sl
set_option linter.unusedVariables false

theorem bel0 (w : World) (o : Obj) : Below w.heap.size w (w.alloc o) := (Below.refl _ _).alloc (Nat.le_refl _) _
/-- whatever is no cells stays -/
def Ko (w w' : World) : Prop := ∀ (k : Nat) (o : Obj), (∀ c e fr, o ≠ .cells c e fr) → w.heap[k]? = some o → w'.heap[k]? = some o
theorem Ko.refl (w : World) : Ko w w := fun _ _ _ h => h
theorem Ko.trans {w w' w'' : World} (h : Ko w w') (h2 : Ko w' w'') : Ko w w'' := fun k o a b => h2 k o a (h k o a b)
theorem Ko.below {w w' : World} (hb : Below w.heap.size w w') : Ko w w' := fun k _ _ h => (hb.block k (Array.getElem?_eq_some_iff.1 h).1).trans h
theorem Ko.append {base : Nat} {w w' : World} {q : Value} {l : List Int} (ho : Own eInt 1 base 3 w q l) (hg : w.grownBy w' q.ownBlock) : Ko w w' := fun k o a h =>
  (hg.block k (Array.getElem?_eq_some_iff.1 h).1 (fun e3 => by
    rcases ho.2 with ⟨e1, _⟩ | ⟨g', cap, cur, e1, _, hg', _⟩
    · rw [e1] at e3; cases e3
    · have e2 : k = g' := by rw [e1] at e3; simpa [Value.ownBlock] using e3
      subst e2
      rw [hg'] at h
      exact a _ _ _ (Option.some.inj h).symm)).trans h
theorem Ko.set {w : World} {a : Addr} {x : Value} {c0 : Array Value} {e0 : TypeId} {fr : Nat × Nat} (hg : w.heap[a.block]? = some (.cells c0 e0 fr)) : Ko w (w.setCell a x) := fun k o b h =>
  (Below.heap_setCell _ _ _ _ (by
    rintro rfl
    rw [hg] at h
    exact b _ _ _ (Option.some.inj h).symm)).trans h
/-- the queue's slice is v, its numbers l; what else has stayed -/
structure QX (base pb : Nat) (fv qv v : Value) (l : List Int) (w wr : World) : Prop where
  blk : wr.heap[pb]? = some (.cells #[v, fv] 117 (0, 0))
  own : Own eInt 1 base 3 wr v l
  mv : Mv eInt 1 base 3 qv v w wr
  kt : Kt 3 117 w wr
  bel : Below base w wr
  ko : Ko w wr
def QueueX (base pb : Nat) (fv qv : Value) (K : Int → Int) (l : List Int) (w w' : World) : Prop :=
  ∃ v q', QX base pb fv qv v q' w w' ∧ Hp.hp (Ord.leI K) q' ∧ q'.Perm l
theorem QX.drewN {base pb : Nat} {fv qv v : Value} {l : List Int} {w wr : World} (h : QX base pb fv qv v l w wr) (k : Nat) : QX base pb fv qv v l w (wr.drewN k) :=
  ⟨h.blk, h.own, fun v l h1 h2 => h.mv v l h1 h2, fun k c e h1 h2 h3 => h.kt k c e h1 h2 h3, below_drewN h.bel k, fun k o h1 h2 => h.ko k o h1 h2⟩
theorem QX.swap {base pb g n cap : Nat} {fv qv : Value} {l : List Int} {w wr : World} (h : QX base pb fv qv (.slice (some ⟨g, 0, none⟩) n cap) l w wr) {i j : Nat} (hi : i < l.length) (hj : j < l.length) :
    QX base pb fv qv (.slice (some ⟨g, 0, none⟩) n cap) (Hp.swap l i j) w ((wr.setCell ⟨g, i, none⟩ (.int .i64 (Hp.ge l j))).setCell ⟨g, j, none⟩ (.int .i64 (Hp.ge l i))) := by
  generalize hx : Hp.ge l j = x
  generalize hy : Hp.ge l i = y
  have e : Hp.swap l i j = (l.set i x).set j y := by rw [← hx, ← hy]; rfl
  rw [e]
  clear e hx hy
  have o1 := own_set h.own hi x
  have o2 := own_set o1 (k := j) (by simpa using hj) y
  have hg := (own_cells h.own).2.1
  have hne := h.own.ne_elem h.blk (by decide)
  have hne' : pb ≠ g := fun e => hne (by simp [Value.ownBlock, e])
  obtain ⟨cur, hcur⟩ := own_heap h.own
  have hcur2 := heap_setCell_same wr g i cur 3 (.int .i64 x) hcur
  have m1 := h.mv.trans (Mv.set (w := wr) (a := ⟨g, i, none⟩) (x := .int .i64 x) rfl)
  have m2 := m1.trans (Mv.set (a := ⟨g, j, none⟩) (x := .int .i64 y) rfl)
  have k1 := h.kt.trans (Kt.set (a := ⟨g, i, none⟩) (x := .int .i64 x) hcur (.inl rfl))
  have k2 := k1.trans (Kt.set (a := ⟨g, j, none⟩) (x := .int .i64 y) hcur2 (.inl rfl))
  have b1 := h.bel.setCell (p := ⟨g, i, none⟩) hg (.int .i64 x)
  have b2 := b1.setCell (p := ⟨g, j, none⟩) hg (.int .i64 y)
  have p1 := heap_set_keep (a := ⟨g, i, none⟩) (v := .int .i64 x) h.blk hne'
  have p2 := heap_set_keep (a := ⟨g, j, none⟩) (v := .int .i64 y) p1 hne'
  exact ⟨p2, o2, m2, k2, b2, (h.ko.trans (Ko.set (a := ⟨g, i, none⟩) hcur)).trans (Ko.set (a := ⟨g, j, none⟩) hcur2)⟩
theorem QX.put {base pb g n cap : Nat} {fv qv : Value} {l : List Int} {w wr : World} (h : QX base pb fv qv (.slice (some ⟨g, 0, none⟩) n cap) l w wr) {i : Nat} (hi : i < l.length) (x : Int) :
    QX base pb fv qv (.slice (some ⟨g, 0, none⟩) n cap) (l.set i x) w (wr.setCell ⟨g, i, none⟩ (.int .i64 x)) := by
  have o1 := own_set h.own hi x
  have hg := (own_cells h.own).2.1
  have hne := h.own.ne_elem h.blk (by decide)
  have hne' : pb ≠ g := fun e => hne (by simp [Value.ownBlock, e])
  obtain ⟨cur, hcur⟩ := own_heap h.own
  exact ⟨heap_set_keep (a := ⟨g, i, none⟩) (v := .int .i64 x) h.blk hne', o1, h.mv.trans (Mv.set (w := wr) (a := ⟨g, i, none⟩) (x := .int .i64 x) rfl), h.kt.trans (Kt.set (a := ⟨g, i, none⟩) (x := .int .i64 x) hcur (.inl rfl)), h.bel.setCell (p := ⟨g, i, none⟩) hg (.int .i64 x), h.ko.trans (Ko.set (a := ⟨g, i, none⟩) hcur)⟩
theorem QX.trunc {base pb g n cap : Nat} {fv qv : Value} {l : List Int} {w wr : World} (h : QX base pb fv qv (.slice (some ⟨g, 0, none⟩) n cap) l w wr) (hpb : base ≤ pb) {m : Nat} (hm : m ≤ l.length) :
    QX base pb fv qv (.slice (some ⟨g, 0, none⟩) m cap) (l.take m) w (wr.setCell ⟨pb, 0, none⟩ (.slice (some ⟨g, 0, none⟩) m cap)) := by
  have o1 := own_take h.own hm
  have m1 : Mv eInt 1 base 3 qv (.slice (some ⟨g, 0, none⟩) m cap) w wr := fun v l h1 h2 => h.mv v l h1 h2
  exact ⟨heap_setCell_same _ _ _ _ _ _ h.blk, o1.set_other (a := ⟨pb, 0, none⟩) (o1.ne_elem h.blk (by decide)) _, m1.trans (Mv.set_elem (a := ⟨pb, 0, none⟩) h.blk (by decide)), h.kt.trans (Kt.set (a := ⟨pb, 0, none⟩) h.blk (.inr rfl)), h.bel.setCell (p := ⟨pb, 0, none⟩) hpb _, h.ko.trans (Ko.set (a := ⟨pb, 0, none⟩) h.blk)⟩
theorem inN_perm {N : Nat} {l m : List Int} (h : l.Perm m) (hm : Dag.inN N m) : Dag.inN N l := fun x hx => hm x (h.mem_iff.1 hx)

theorem hp_swap_comm (l : List Int) (i j : Nat) (h : i ≠ j) : Hp.swap l i j = Hp.swap l j i := by
  unfold Hp.swap
  rw [List.set_comm _ _ h]

set_option maxRecDepth 100000 in
set_option maxHeartbeats 1000000 in
theorem put_any (w0 : World) (cb : Nat) (bx : Value) (eb : TypeId) (he : eb ≠ 3 ∧ eb ≠ 117) (fv : Value) (K : Int → Int) (N : Nat) (hold : OldV w0 cb bx eb fv K N) (w : World) (hC0 : w.heap[cb]? = some (.cells #[bx] eb (0, 0))) (h0 : Below w0.heap.size w0 w) (pb : Nat) (qv : Value) (q : List Int) (x : Int) (hbp : w0.heap.size ≤ pb) (hp : w.heap[pb]? = some (.cells #[qv, fv] 117 (0, 0)))
    (ho : Own eInt 1 w0.heap.size 3 w qv q) (hh : Hp.hp (Ord.leI K) q) (hn : q.length < 1000) (hN : Dag.inN N q) (hx : 0 ≤ x ∧ x < N) :
    Calls Try.prog 97 #[.pointer (some ⟨pb, 0, none⟩), .int .i64 x] w fun e w' => e = .returned (.tuple #[]) ∧ QueueX w0.heap.size pb fv qv K (x :: q) w w' := by
  obtain ⟨hpl, c0, c1, f0, f1⟩ := two_cells hp
  have HP := Lib.hid hp
  have HC0 := Lib.hid hC0
  have HE := Lib.hid he
  clear hC0 he
  have HO := Lib.hid ho
  have HH := Lib.hid hh
  have HN : Hid (Dag.inN N (x :: q)) := Lib.hid (fun y hy => by
    rcases List.mem_cons.1 hy with rfl | hy
    · exact hx
    · exact hN y hy)
  have hsz : w0.heap.size ≤ w.heap.size := by omega
  clear hp ho hh hN
  go_enter Try.func97, Try.ntmps97
  go_wp2_with (at_builtin; refine wpList_append1 rfl (en := eInt) (s := 1) (base := w0.heap.size) (e := 3) _ _ 23 rfl (.int .i64 0) 8 Try.underlying23 info3 rfl (by decide) len_eInt one_eInt qv _ q x rfl (HO.out.alloc _) rfl (Sl.fresh len_eInt rfl rfl rfl (by simp [maxLen])) (by simp only [maxLen]; omega) (by omega) (by simp; omega) ?_)
  intro v w1 hown hgr hbel hblk
  have hkt := (Kt.below (e1 := 3) (e2 := 117) ((Below.refl _ _).alloc (Nat.le_refl _) (.cells #[.int .i64 x] 3))).trans (Kt.append (HO.out.alloc (.cells #[.int .i64 x] 3)) hgr)
  have hmv := (Mv.below (en := eInt) (s := 1) (base := w0.heap.size) (e := 3) (q := qv) ((Below.refl _ _).alloc (Nat.le_refl _) (.cells #[.int .i64 x] 3))).trans (Mv.append hgr (by simpa using hblk))
  have hp1 := grown_heap hgr (heap_keep (p := .cells #[.int .i64 x] 3) HP.out) (HO.out.ne_elem HP.out (by decide))
  have hb1 := ((Below.refl w0.heap.size w).alloc hsz (.cells #[.int .i64 x] 3)).trans hbel
  obtain ⟨_, d0, _, g0, _⟩ := two_cells hp1
  obtain ⟨g, cap, cur, hv, _⟩ := hown.block (by simp)
  rw [show (q ++ [x]).length = q.length + 1 by simp] at hv
  subst hv
  have HQ : Hid (QX w0.heap.size pb fv qv (.slice (some ⟨g, 0, none⟩) (q.length + 1) cap) (q ++ [x]) w (w1.setCell ⟨pb, 0, none⟩ (.slice (some ⟨g, 0, none⟩) (q.length + 1) cap))) := Lib.hid
    ⟨heap_setCell_same _ _ _ _ _ _ hp1, hown.set_other (hown.ne_elem hp1 (by decide)) (a := ⟨pb, 0, none⟩) _, hmv.trans (Mv.set_elem (a := ⟨pb, 0, none⟩) hp1 (by decide)),
      hkt.trans (Kt.set (a := ⟨pb, 0, none⟩) hp1 (.inr rfl)), hb1.setCell hbp _, ((Ko.below (bel0 w _)).trans (Ko.append (HO.out.alloc (.cells #[.int .i64 x] 3)) hgr)).trans (Ko.set (a := ⟨pb, 0, none⟩) hp1)⟩
  have HU := Lib.hid (Hp.Up.start HH.out x)
  have HR : Hid ((q ++ [x]).Perm (x :: q)) := Lib.hid (List.perm_append_comm (l₁ := q) (l₂ := [x]))
  clear hown hgr hbel hblk hkt hmv hp1 hb1
  go_wp2_with fail
  go_loopw [4] (fun i wr => ∃ (k : Nat) (l : List Int), i = .int .i64 k ∧ k ≤ q.length ∧ Hid (l.length = q.length + 1) ∧ Hid (Hp.Up (Ord.leI K) l k) ∧ Hid (l.Perm (x :: q)) ∧ Hid (QX w0.heap.size pb fv qv (.slice (some ⟨g, 0, none⟩) (q.length + 1) cap) l w wr)) (fun i _ => (intOf i).toNat)
  case atStart => exact ⟨q.length, q ++ [x], rfl, Nat.le_refl _, Lib.hid (by simp), HU, HR, HQ⟩
  case round =>
    obtain ⟨k, l, rfl, hk, HL, HU, HR, HQ⟩ := hrel
    by_cases h00 : k = 0
    · subst h00
      have dk : decide ((0 : Int) < 0) = false := by simp
      go_wp2_with fail
      go_end0
      exact ⟨rfl, _, l, HQ.out, HU.out.top, HR.out⟩
    · have h1 : 0 < k := by omega
      have hu : (k - 1) / 2 < k := by omega
      have hC := hold wr (h0.trans HQ.out.bel) (HQ.out.kt cb _ eb HE.out.1 HE.out.2 HC0.out) pb _ l _ ((k - 1) / 2) k HQ.out.blk HQ.out.own (by rw [HL.out]; omega) (by rw [HL.out]; omega) (inN_perm HR.out HN.out)
      have hk2 : (((k - 1) / 2 : Nat) : Int) = ((k : Int) - 1) / 2 := by omega
      rw [hk2] at hC
      clear hk2
      cases hlt : Ord.ltB K (Hp.ge l ((k - 1) / 2)) (Hp.ge l k) with
      | false =>
        have HS := Lib.hid (HU.out.stop (Ord.leI_of hlt))
        rw [hlt] at hC
        clear hlt
        go_wp2_with fail
        refine hC.mono ?_
        rintro e w3 ⟨rfl, nd, rfl⟩
        go_wp2_with fail
        go_end0
        exact ⟨rfl, _, l, HQ.out.drewN _, HS.out, HR.out⟩
      | true =>
        have HS := Lib.hid (HU.out.step (Ord.leI_tr K) (Ord.leI_to K) h1 (Ord.not_leI.2 hlt))
        rw [hlt] at hC
        clear hlt
        go_wp2_with fail
        refine hC.mono ?_
        rintro e w3 ⟨rfl, nd, rfl⟩
        obtain ⟨wq, hwq⟩ : ∃ wq, wq = wr.drewN nd := ⟨_, rfl⟩
        rw [← hwq]
        have HQ2 : Hid (QX w0.heap.size pb fv qv (.slice (some ⟨g, 0, none⟩) (q.length + 1) cap) l w wq) := Lib.hid (hwq ▸ HQ.out.drewN nd)
        clear hwq HQ hC
        obtain ⟨_, e3, _, f3, _⟩ := two_cells HQ2.out.blk
        obtain ⟨hg1, -, -, hcell⟩ := own_cells HQ2.out.own
        obtain ⟨ck, fk⟩ := hcell k (by rw [HL.out]; omega)
        obtain ⟨cu, fu⟩ := hcell ((k - 1) / 2) (by rw [HL.out]; omega)
        clear hcell
        have HQ3 := Lib.hid (HQ2.out.swap (i := k) (j := (k - 1) / 2) (by rw [HL.out]; omega) (by rw [HL.out]; omega))
        have HL3 : Hid ((Hp.swap l ((k - 1) / 2) k).length = q.length + 1) := Lib.hid (by rw [Hp.swap_len, HL.out])
        have HR3 := Lib.hid ((Hp.swap_perm (l := l) (i := (k - 1) / 2) (j := k) (by rw [HL.out]; omega) (by rw [HL.out]; omega)).trans HR.out)
        have HSw : Hid (Hp.swap l k ((k - 1) / 2) = Hp.swap l ((k - 1) / 2) k) := Lib.hid (hp_swap_comm _ _ _ (by omega))
        rw [HSw.out] at HQ3
        clear HQ2 HL HR HU
        go_wp2_with fail
        go_region
        go_wp2_with fail
        go_roundw
        case rel => exact ⟨(k - 1) / 2, _, by go_num, by omega, HL3, HS, HR3, Lib.hid (HQ3.out.drewN 1)⟩
        case measure => simp [intOf]; omega
end Go.Proofs.Ytcpmnocknpalfaa
