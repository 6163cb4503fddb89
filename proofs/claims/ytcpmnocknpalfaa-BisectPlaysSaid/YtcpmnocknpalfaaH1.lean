/-
  Layer 14: a number put into the queue. No condition besides what the queue is.
-/
import Derived.Test.YtcpmnocknpalfaaD2
import Derived.Test.YtcpmnocknpalfaaG2
import Derived.Test.YtcpmnocknpalfaaG3
import Derived.Test.YtcpmnocknpalfaaAp
import Derived.BigRegion
namespace Go.Proofs.Ytcpmnocknpalfaa
open Go.RowKit Go.Sl

theorem info3 : (Try.prog.info? 3).map (fun i => (i.zero, i.size, i.bytes)) = some (some (.int .i64 0), 1, 8) := by kernel_rfl

/-- the queue's slice is v, its numbers l; what else has stayed -/
structure QW (base pb : Nat) (a b qv v : Value) (l : List Int) (w wr : World) : Prop where
  blk : wr.heap[pb]? = some (.cells #[a, b, v] 100 (0, 0))
  own : Own eInt 1 base 3 wr v l
  mv : Mv eInt 1 base 3 qv v w wr
  kt : Kt 3 100 w wr
  bel : Below base w wr
/-- the queue behind a call: numbers l, in some order -/
def Queue (base pb : Nat) (a b qv : Value) (l : List Int) (w w' : World) : Prop :=
  ∃ v q', QW base pb a b qv v q' w w' ∧ Hp.hp (· ≤ ·) q' ∧ q'.Perm l

theorem QW.drewN {base pb : Nat} {a b qv v : Value} {l : List Int} {w wr : World} (h : QW base pb a b qv v l w wr) (k : Nat) : QW base pb a b qv v l w (wr.drewN k) :=
  ⟨h.blk, h.own, fun v l h1 h2 => h.mv v l h1 h2, fun k c e h1 h2 h3 => h.kt k c e h1 h2 h3, below_drewN h.bel k⟩

theorem three100 {w : World} {g : Nat} {a b c : Value} {e : TypeId} (h : w.heap[g]? = some (.cells #[a, b, c] e (0, 0))) :
    g < w.heap.size ∧ w.cell? ⟨g, 0, none⟩ = some a ∧ w.cell? ⟨g, 1, none⟩ = some b ∧ w.cell? ⟨g, 2, none⟩ = some c ∧ w.frozen? ⟨g, 0, none⟩ = false ∧ w.frozen? ⟨g, 1, none⟩ = false ∧ w.frozen? ⟨g, 2, none⟩ = false :=
  ⟨(Array.getElem?_eq_some_iff.1 h).1, by simp [World.cell?, h], by simp [World.cell?, h], by simp [World.cell?, h], by simp [World.frozen?, h], by simp [World.frozen?, h], by simp [World.frozen?, h]⟩

/-- the cells of an own slice of integers -/
theorem own_cells {base g n cap : Nat} {w : World} {l : List Int} (h : Own eInt 1 base 3 w (.slice (some ⟨g, 0, none⟩) n cap) l) :
    g < w.heap.size ∧ base ≤ g ∧ n = l.length ∧ (∀ k, k < l.length → w.cell? ⟨g, k, none⟩ = some (.int .i64 (Hp.ge l k)) ∧ w.frozen? ⟨g, k, none⟩ = false) := by
  rcases h.2 with ⟨hv, _⟩ | ⟨g', cap', cur, hv, h1, h2, h3, h4, h5, h6⟩
  · cases hv
  · simp only [Value.slice.injEq, Option.some.injEq, Addr.mk.injEq, and_true] at hv
    obtain ⟨rfl, rfl, rfl⟩ := hv
    refine ⟨(Array.getElem?_eq_some_iff.1 h2).1, h1, rfl, fun k hk => ⟨?_, by simp [World.frozen?, h2]⟩⟩
    have e1 := flatMap_at len_eInt l k hk 0 (by omega)
    rw [← h6] at e1
    rw [cell_of_row w g k cur 3 (0, 0) h2]
    rw [List.getElem?_take, if_pos (by omega)] at e1
    simp only [Nat.mul_one, Nat.add_zero, eInt, List.getElem?_cons_zero] at e1
    simp [Hp.ge, List.getD_eq_getElem?_getD, hk]
    simpa using e1

theorem own_set {base g n cap : Nat} {w : World} {l : List Int} (h : Own eInt 1 base 3 w (.slice (some ⟨g, 0, none⟩) n cap) l) {k : Nat} (hk : k < l.length) (x : Int) :
    Own eInt 1 base 3 (w.setCell ⟨g, k, none⟩ (.int .i64 x)) (.slice (some ⟨g, 0, none⟩) n cap) (l.set k x) :=
  Own.set1 (f := fun n : Int => Value.int .i64 n) h hk x

/-- two numbers exchanged -/
theorem QW.swap {base pb g n cap : Nat} {a b qv : Value} {l : List Int} {w wr : World} (h : QW base pb a b qv (.slice (some ⟨g, 0, none⟩) n cap) l w wr) {i j : Nat} (hi : i < l.length) (hj : j < l.length) :
    QW base pb a b qv (.slice (some ⟨g, 0, none⟩) n cap) (Hp.swap l i j) w ((wr.setCell ⟨g, i, none⟩ (.int .i64 (Hp.ge l j))).setCell ⟨g, j, none⟩ (.int .i64 (Hp.ge l i))) := by
  generalize hx : Hp.ge l j = x
  generalize hy : Hp.ge l i = y
  have e : Hp.swap l i j = (l.set i x).set j y := by rw [← hx, ← hy]; rfl
  rw [e]
  clear e hx hy
  have o1 := own_set h.own hi x
  have o2 := own_set o1 (k := j) (by simpa using hj) y
  have hg := (own_cells h.own).2.1
  have hne := h.own.ne_elem h.blk (by decide)
  have hne' : pb ≠ g := fun e => hne (by simp [Value.ownBlock, e])
  obtain ⟨cur, hcur⟩ : ∃ cur, wr.heap[g]? = some (.cells cur 3 (0, 0)) := by
    rcases h.own.2 with ⟨hv, _⟩ | ⟨g', cap', cur, hv, h1, h2, _⟩
    · cases hv
    · simp only [Value.slice.injEq, Option.some.injEq, Addr.mk.injEq, and_true] at hv
      obtain ⟨rfl, _, _⟩ := hv
      exact ⟨_, h2⟩
  have hcur2 := heap_setCell_same wr g i cur 3 (.int .i64 x) hcur
  have m1 := h.mv.trans (Mv.set (w := wr) (a := ⟨g, i, none⟩) (x := .int .i64 x) rfl)
  have m2 := m1.trans (Mv.set (a := ⟨g, j, none⟩) (x := .int .i64 y) rfl)
  have k1 := h.kt.trans (Kt.set (a := ⟨g, i, none⟩) (x := .int .i64 x) hcur (.inl rfl))
  have k2 := k1.trans (Kt.set (a := ⟨g, j, none⟩) (x := .int .i64 y) hcur2 (.inl rfl))
  have b1 := h.bel.setCell (p := ⟨g, i, none⟩) hg (.int .i64 x)
  have b2 := b1.setCell (p := ⟨g, j, none⟩) hg (.int .i64 y)
  have p1 := heap_set_keep (a := ⟨g, i, none⟩) (v := .int .i64 x) h.blk hne'
  have p2 := heap_set_keep (a := ⟨g, j, none⟩) (v := .int .i64 y) p1 hne'
  exact ⟨p2, o2, m2, k2, b2⟩

theorem le_tr : ∀ a b c : Int, a ≤ b → b ≤ c → a ≤ c := fun _ _ _ => Int.le_trans
theorem le_to : ∀ a b : Int, a ≤ b ∨ b ≤ a := Int.le_total

set_option maxRecDepth 100000 in
set_option maxHeartbeats 1000000 in
theorem push_any (base pb : Nat) (a b qv : Value) (q : List Int) (x : Int) (w : World) (hbp : base ≤ pb) (hp : w.heap[pb]? = some (.cells #[a, b, qv] 100 (0, 0))) (ho : Own eInt 1 base 3 w qv q) (hh : Hp.hp (· ≤ ·) q) (hn : q.length < 1000) :
    Calls Try.prog 100 #[.pointer (some ⟨pb, 2, none⟩), .int .i64 x] w fun e w' => e = .returned (.tuple #[]) ∧ Queue base pb a b qv (x :: q) w w' := by
  obtain ⟨c0, _, _, c3, _, _, f3⟩ := three100 hp
  have HP := Lib.hid hp
  have HO := Lib.hid ho
  have HH := Lib.hid hh
  have hsz : base ≤ w.heap.size := by omega
  clear hp ho hh
  go_enter Try.func100, Try.ntmps100
  go_wp2_with (at_builtin; refine wpList_append1 rfl (en := eInt) (s := 1) (base := base) (e := 3) _ _ 23 rfl (.int .i64 0) 8 Try.underlying23 info3 rfl (by decide) len_eInt one_eInt qv _ q x rfl (HO.out.alloc _) rfl (Sl.fresh len_eInt rfl rfl rfl (by simp [maxLen])) (by simp only [maxLen]; omega) (by omega) (by simp; omega) ?_)
  intro v w1 hown hgr hbel hblk
  have hkt := (Kt.below (e1 := 3) (e2 := 100) ((Below.refl _ _).alloc (Nat.le_refl _) (.cells #[.int .i64 x] 3))).trans (Kt.append (HO.out.alloc (.cells #[.int .i64 x] 3)) hgr)
  have hmv := (Mv.below (en := eInt) (s := 1) (base := base) (e := 3) (q := qv) ((Below.refl _ _).alloc (Nat.le_refl _) (.cells #[.int .i64 x] 3))).trans (Mv.append hgr (by simpa using hblk))
  have hp1 := grown_heap hgr (heap_keep (p := .cells #[.int .i64 x] 3) HP.out) (HO.out.ne_elem HP.out (by decide))
  have hb1 := ((Below.refl base w).alloc hsz (.cells #[.int .i64 x] 3)).trans hbel
  obtain ⟨d0, _, _, d3, _, _, g3⟩ := three100 hp1
  obtain ⟨g, cap, cur, hv, _⟩ := hown.block (by simp)
  rw [show (q ++ [x]).length = q.length + 1 by simp] at hv
  subst hv
  have HQ : Hid (QW base pb a b qv (.slice (some ⟨g, 0, none⟩) (q.length + 1) cap) (q ++ [x]) w (w1.setCell ⟨pb, 2, none⟩ (.slice (some ⟨g, 0, none⟩) (q.length + 1) cap))) := Lib.hid
    ⟨heap_setCell_same _ _ _ _ _ _ hp1, hown.set_other (hown.ne_elem hp1 (by decide)) (a := ⟨pb, 2, none⟩) _, hmv.trans (Mv.set_elem (a := ⟨pb, 2, none⟩) hp1 (by decide)),
      hkt.trans (Kt.set (a := ⟨pb, 2, none⟩) hp1 (.inr rfl)), hb1.setCell hbp _⟩
  have HU := Lib.hid (Hp.Up.start HH.out x)
  have HR : Hid ((q ++ [x]).Perm (x :: q)) := Lib.hid (List.perm_append_comm (l₁ := q) (l₂ := [x]))
  clear hown hgr hbel hblk hkt hmv hp1 hb1
  go_wp2_with fail
  go_loopw [4] (fun i wr => ∃ (k : Nat) (l : List Int), i = .int .i64 k ∧ k ≤ q.length ∧ Hid (l.length = q.length + 1) ∧ Hid (Hp.Up (· ≤ ·) l k) ∧ Hid (l.Perm (x :: q)) ∧ Hid (QW base pb a b qv (.slice (some ⟨g, 0, none⟩) (q.length + 1) cap) l w wr)) (fun i _ => (intOf i).toNat)
  case atStart => exact ⟨q.length, q ++ [x], rfl, Nat.le_refl _, Lib.hid (by simp), HU, HR, HQ⟩
  case round =>
    obtain ⟨k, l, rfl, hk, HL, HU, HR, HQ⟩ := hrel
    by_cases h0 : k = 0
    · subst h0
      go_wp2_with fail
      go_end0
      exact ⟨rfl, _, l, HQ.out, HU.out.top, HR.out⟩
    · have h1 : 0 < k := by omega
      have hu : (k - 1) / 2 < k := by omega
      obtain ⟨_, _, _, e3, _, _, f3⟩ := three100 HQ.out.blk
      obtain ⟨hg1, hg2, -, hcell⟩ := own_cells HQ.out.own
      obtain ⟨ck, fk⟩ := hcell k (by rw [HL.out]; omega)
      obtain ⟨cu, fu⟩ := hcell ((k - 1) / 2) (by rw [HL.out]; omega)
      clear hcell
      by_cases hle : Hp.ge l k ≤ Hp.ge l ((k - 1) / 2)
      · have d1 := decide_eq_true hle
        have HS := Lib.hid (HU.out.stop hle)
        go_wp2_with fail
        go_quiet (fail)
        go_wp2_with fail
        refine bodyPost_ret (results_none rfl _ _ _) rfl ?_
        exact ⟨rfl, _, l, HQ.out.drewN _, HS.out, HR.out⟩
      · have hlt : Hp.ge l ((k - 1) / 2) < Hp.ge l k := by omega
        have HS := Lib.hid (HU.out.step le_tr le_to h1 hle)
        have d1 := decide_eq_false hle
        clear hle
        go_wp2_with fail
        go_quiet (fail)
        obtain ⟨wq, hwq⟩ : ∃ wq, wq = wr.drewN nq := ⟨_, rfl⟩
        rw [← hwq]
        have HQ2 : Hid (QW base pb a b qv (.slice (some ⟨g, 0, none⟩) (q.length + 1) cap) l w wq) := Lib.hid (hwq ▸ HQ.out.drewN nq)
        clear hwq HQ e3 f3 hg1 ck fk cu fu
        obtain ⟨_, _, _, e3, _, _, f3⟩ := three100 HQ2.out.blk
        obtain ⟨hg1, -, -, hcell⟩ := own_cells HQ2.out.own
        obtain ⟨ck, fk⟩ := hcell k (by rw [HL.out]; omega)
        obtain ⟨cu, fu⟩ := hcell ((k - 1) / 2) (by rw [HL.out]; omega)
        clear hcell
        have HQ3 := Lib.hid (HQ2.out.swap (i := (k - 1) / 2) (j := k) (by rw [HL.out]; omega) (by rw [HL.out]; omega))
        have HL3 : Hid ((Hp.swap l ((k - 1) / 2) k).length = q.length + 1) := Lib.hid (by rw [Hp.swap_len, HL.out])
        have HR3 := Lib.hid ((Hp.swap_perm (l := l) (i := (k - 1) / 2) (j := k) (by rw [HL.out]; omega) (by rw [HL.out]; omega)).trans HR.out)
        clear HQ2 HL HR HU
        go_wp2_with fail
        go_region
        go_wp2_with fail
        go_roundw
        case rel => exact ⟨(k - 1) / 2, _, by go_num, by omega, HL3, HS, HR3, Lib.hid (HQ3.out.drewN 1)⟩
        case measure => simp [intOf]; omega
end Go.Proofs.Ytcpmnocknpalfaa
