/-
  Layer 14: Children. No condition besides what the argument is.
-/
import Derived.Test.YtcpmnocknpalfaaH13
namespace Go.Proofs.Ytcpmnocknpalfaa
open Go.RowKit Go.Sl
set_option linter.unusedVariables false

def vcells (f : Nat → Value) (N : Nat) : Array Value := ((List.range N).map f).toArray
def updV (f : Nat → Value) (k : Nat) (v : Value) : Nat → Value := fun i => if i = k then v else f i
/-- a row of N slices at block rb, each of which owns its list; no two share a block -/
structure Fam (base rb N : Nat) (vs : Nat → Value) (Ls : Nat → List Int) (u : World) : Prop where
  hb : base ≤ rb
  blk : u.heap[rb]? = some (.cells (vcells vs N) 23 (0, 0))
  own : ∀ p, p < N → Own eInt 1 base 3 u (vs p) (Ls p)
  apart : ∀ p q, p < N → q < N → p ≠ q → Apart (vs p) (vs q)

theorem vcells_set (f : Nat → Value) (N k : Nat) (v : Value) : (vcells f N).setIfInBounds k v = vcells (updV f k v) N := by
  apply Array.ext'
  apply List.ext_getElem (by simp [vcells])
  intro n h1 h2
  simp only [vcells, Array.toList_setIfInBounds, List.getElem_set, List.getElem_map, List.getElem_range, updV]
  by_cases e : k = n
  · simp [e]
  · simp [e, Ne.symm e]
theorem Fam.cell {base rb N : Nat} {vs : Nat → Value} {Ls : Nat → List Int} {u : World} (h : Fam base rb N vs Ls u) {k : Nat} (hk : k < N) : u.cell? ⟨rb, k, none⟩ = some (vs k) ∧ u.frozen? ⟨rb, k, none⟩ = false ∧ rb < u.heap.size := by
  refine ⟨?_, by simp [World.frozen?, h.blk], (Array.getElem?_eq_some_iff.1 h.blk).1⟩
  rw [cell_of_row u rb k _ _ _ h.blk]
  simp [vcells, hk]
theorem Fam.ext {base rb N : Nat} {vs : Nat → Value} {Ls : Nat → List Int} {u u' : World} (h : Fam base rb N vs Ls u) (hb : Below u.heap.size u u') : Fam base rb N vs Ls u' :=
  ⟨h.hb, (hb.block _ (Array.getElem?_eq_some_iff.1 h.blk).1).trans h.blk, fun p hp => (h.own p hp).ext hb, h.apart⟩
theorem Fam.congr {base rb N : Nat} {vs : Nat → Value} {Ls Ls' : Nat → List Int} {u : World} (h : Fam base rb N vs Ls u) (he : ∀ p, p < N → Ls p = Ls' p) : Fam base rb N vs Ls' u :=
  ⟨h.hb, h.blk, fun p hp => by rw [← he p hp]; exact h.own p hp, h.apart⟩
/-- one list grows -/
theorem Fam.push {base rb N : Nat} {vs : Nat → Value} {Ls : Nat → List Int} {u u6 : World} (h : Fam base rb N vs Ls u) {p : Nat} (hp : p < N) {v' : Value} {l' : List Int} {o : Obj}
    (hown : Own eInt 1 base 3 u6 v' l') (hg : (u.alloc o).grownBy u6 (vs p).ownBlock) (hblk : v'.ownBlock = (vs p).ownBlock ∨ v'.ownBlock = some (u.heap.size + 1)) :
    Fam base rb N (updV vs p v') (fun i => if i = p then l' else Ls i) (u6.setCell ⟨rb, p, none⟩ v') := by
  have hb6 := grown_heap hg (heap_keep (p := o) h.blk) ((h.own p hp).ne_elem h.blk (by decide))
  refine ⟨h.hb, ?_, fun q hq => ?_, fun q r hq hr hne => ?_⟩
  · rw [heap_setCell_same _ _ _ _ _ _ hb6, vcells_set]
  · by_cases e : q = p
    · subst e
      simp only [updV, if_true]
      exact hown.set_other (hown.ne_elem hb6 (by decide)) (a := ⟨rb, q, none⟩) _
    · simp only [updV, e, if_false]
      have h1 := ((h.own q hq).alloc o).kept hg (h.apart q p hq hp e)
      exact h1.set_other (h1.ne_elem hb6 (by decide)) (a := ⟨rb, p, none⟩) _
  · have key : ∀ q, q < N → q ≠ p → Apart (vs q) v' := fun q hq e => by
      rcases hblk with hb | hb
      · unfold Apart; rw [hb]; exact h.apart q p hq hp e
      · right; rw [hb]; intro e2
        have := ((h.own q hq).lt _ e2).2
        omega
    by_cases e1 : q = p
    · have e2 : r ≠ p := by omega
      simp only [updV, e1, e2, if_true, if_false]
      rcases hv : v'.ownBlock with _ | b
      · exact .inl hv
      · right
        intro e3
        rcases key r hr e2 with h4 | h4
        · rw [h4, hv] at e3; cases e3
        · exact h4 e3.symm
    · by_cases e2 : r = p
      · simp only [updV, e1, e2, if_true, if_false]; exact key q hq e1
      · simp only [updV, e1, e2, if_false]; exact h.apart q r hq hr hne

theorem info23 : (Try.prog.info? 23).map (fun i => (i.zero, i.size, i.bytes)) = some (some (.slice none 0 0), 1, 24) := by kernel_rfl
theorem make_rows (n : Nat) (hn : n ≤ 800) : ∀ u : World, (Instr.makeSlice 34 (.int .i64 (n : Int)) (.int .i64 (n : Int))).run Try.prog u = .ok (.slice (some ⟨u.heap.size, 0, none⟩) n n) (u.alloc (.cells (madeCells #[.slice none 0 0] n) 23)) :=
  run_make_row' (P := Try.prog) 34 23 _ 24 Try.underlying34 info23 rfl .i64 .i64 n (by omega) (by omega)
theorem made_vcells (n : Nat) : madeCells #[Value.slice none 0 0] n = vcells (fun _ => .slice none 0 0) n := by
  apply Array.ext'
  rw [toList_madeCells_one]
  simp [vcells, List.map_const']
theorem Fam.start {base : Nat} (u : World) (N : Nat) (hb : base ≤ u.heap.size) : Fam base u.heap.size N (fun _ => .slice none 0 0) (fun _ => []) (u.alloc (.cells (vcells (fun _ => .slice none 0 0) N) 23)) :=
  ⟨hb, heap_new_at rfl, fun _ _ => Own.nil _ _ _ _ _, fun _ _ _ _ _ => .inl rfl⟩

theorem children_bad (gv : Value) (w : World) (es : List (SlV × Int)) (g : List Nd) (hg : ¬ Dag.okG g) (hG : Gr w gv es g) :
    Calls Try.prog 23 #[gv] w fun e w' => e = .returned (.tuple #[.slice none 0 0, .int .i64 12]) ∧ Below w.heap.size w w' := by
  have HC := Lib.hid (check_any gv es g w hG)
  rw [Dag.chk_bad hg] at HC
  clear hg
  go_enter Try.func23, Try.ntmps23
  go_wp2_with fail
  refine HC.out.mono ?_
  rintro e w1 ⟨rfl, hb⟩
  have HB := Lib.hid hb
  clear hb
  go_wp2_with fail
  go_ret2
  exact ⟨rfl, HB.out⟩

def FamOk (g : List Nd) (w : World) (e : Ending) (w' : World) : Prop := ∃ rb vs, e = .returned (.tuple #[.slice (some ⟨rb, 0, none⟩) g.length g.length, .int .i64 0]) ∧ Fam w.heap.size rb g.length vs (Dag.chL g) w' ∧ Below w.heap.size w w'

set_option maxRecDepth 100000 in
set_option maxHeartbeats 1000000 in
theorem children_ok (gv : Value) (w : World) (es : List (SlV × Int)) (g : List Nd) (hg : Dag.okG g) (hG : Gr w gv es g) :
    Calls Try.prog 23 #[gv] w (FamOk g w) := by
  have HC := Lib.hid (check_any gv es g w hG)
  rw [Dag.chk_ok hg] at HC
  have hgl := hg.1
  have hix0 := hG.run_len
  have hmk := make_rows g.length (by omega)
  rw [made_vcells] at hmk
  have HG := Lib.hid hg
  clear hg
  go_enter Try.func23, Try.ntmps23
  go_wp2_with fail
  refine HC.out.mono ?_
  rintro e w1 ⟨rfl, hb⟩
  have HB1 := Lib.hid hb
  clear hb
  have HF0 := Lib.hid (Fam.start w1 g.length HB1.out.size)
  have HW0 := Lib.hid (HB1.out.alloc HB1.out.size (.cells (vcells (fun _ => .slice none 0 0) g.length) 23))
  go_wp2_with fail
  go_loopw [20] (fun i wr => ∃ (n : Nat) (vs : Nat → Value), i = .int .i64 n ∧ n ≤ g.length ∧ Hid (Fam w.heap.size w1.heap.size g.length vs (fun a => Dag.chTo g a n) wr) ∧ Hid (Below w.heap.size w wr)) (fun i _ => g.length - (intOf i).toNat)
  case atStart => exact ⟨0, _, rfl, by omega, HF0, HW0⟩
  case round =>
    obtain ⟨n, vs, rfl, hn, HF, HW⟩ := hrel
    obtain ⟨wo, rfl⟩ : ∃ wo : World, wo = wr := ⟨_, rfl⟩
    by_cases hlt : n < g.length
    · obtain ⟨b, o, hb1, hix, P, T, a1, n1, k1, HX, HL, q0, q1, hs1, hm1⟩ := hG.at HW.out hlt
      have hls := hs1.run_len (P := Try.prog) Try.underlying23
      rw [HL.out] at hls
      have HP : Hid (g[n].1 = P) := Lib.hid (by rw [HX.out])
      have HOk : Hid (∀ i (h : i < P.length), Dag.parOk n P i P[i]) := Lib.hid (by have := (HG.out.2 n hlt).2.2.2; rw [HX.out] at this; exact this)
      have hP6 : P.length ≤ 6 := by rw [← HP.out]; exact (HG.out.2 n hlt).1
      have hsz := HW.out.size
      have HFa : Hid (Fam w.heap.size w1.heap.size g.length vs (Dag.chK g n P 0) (wo.alloc (.cells #[.slice a1 n1 k1, .int .i64 T] 90))) := Lib.hid ((HF.out.ext ((Below.refl _ _).alloc (Nat.le_refl _) _)).congr (fun p _ => (Dag.chK_zero g n P p).symm))
      have HWa := Lib.hid (HW.out.alloc hsz (.cells #[.slice a1 n1 k1, .int .i64 T] 90))
      clear HF HW
      go_wp2_with fail
      go_loopw [28] (fun i u => ∃ (k : Nat) (vs : Nat → Value), i = .int .i64 k ∧ k ≤ n1 ∧ Hid (Fam w.heap.size w1.heap.size g.length vs (Dag.chK g n P k) u) ∧ Hid (Below w.heap.size w u)) (fun i _ => n1 - (intOf i).toNat)
      case atStart => exact ⟨0, vs, rfl, by omega, HFa, HWa⟩
      case round =>
        obtain ⟨k, vs, rfl, hk, HF, HW⟩ := hrel
        by_cases hlt2 : k < n1
        · have hkP : k < P.length := by rw [HL.out]; exact hlt2
          obtain ⟨b2, o2, hb2, hix2, hc2⟩ := hs1.atB HW.out (P := Try.prog) Try.underlying23 cells3 some3 hkP
          have e1 := hc2 0 (by omega)
          simp only [eInt, List.getElem?_cons_zero, Nat.add_zero] at e1
          obtain ⟨x, HY⟩ : ∃ x, Hid (P[k] = x) := ⟨_, Lib.hid rfl⟩
          rw [HY.out] at e1
          have hok := HOk.out k hkP
          rw [HY.out] at hok
          obtain ⟨y, rfl⟩ : ∃ y : Nat, x = y := ⟨x.toNat, by have := hok.1; omega⟩
          have hyn : y < g.length := by have := hok.2.1; omega
          obtain ⟨c1, c2, c3⟩ := HF.out.cell hyn
          obtain ⟨v, hv⟩ : ∃ v, vs y = v := ⟨_, rfl⟩
          have HV := Lib.hid hv
          have HO : Hid (Own eInt 1 w.heap.size 3 wr v (Dag.chK g n P k y)) := Lib.hid (by rw [← hv]; exact HF.out.own y hyn)
          have hlen := Dag.chK_len HG.out (n := n) (k := k) (P := P) hP6 (by omega) y
          have hsz2 := HW.out.size
          rw [hv] at c1
          clear hc2 hok hv
          go_wp2_with (at_builtin; go_must (refine wpList_append1 rfl (en := eInt) (s := 1) (base := w.heap.size) (e := 3) _ _ 23 rfl (.int .i64 0) 8 Try.underlying23 info3 rfl (by decide) len_eInt one_eInt v _ _ n rfl (HO.out.alloc _) rfl (Sl.fresh len_eInt rfl rfl rfl (by simp [maxLen])) (by simp only [maxLen]; omega) (by omega) (by simp; omega) ?_; intro v' w6 hown hgr hbel hblk; obtain ⟨xa, xn, xc, rfl⟩ := hown.isSlice; have HF2 := Lib.hid (HF.out.push hyn hown (by rw [HV.out]; exact hgr) (by rw [HV.out]; simpa using hblk)); have hb6 := grown_heap hgr (heap_keep (p := .cells #[.int .i64 n] 3) HF.out.blk) (HO.out.ne_elem HF.out.blk (by decide)); have hz6 := (Array.getElem?_eq_some_iff.1 hb6).1; have z1 : w6.cell? ⟨w1.heap.size, y, none⟩ = some v := (by rw [cell_of_row w6 _ y _ _ _ hb6]; simp [vcells, hyn, HV.out]); have z2 : w6.frozen? ⟨w1.heap.size, y, none⟩ = false := (by simp [World.frozen?, hb6]); have HW2 := Lib.hid ((HW.out.alloc HW.out.size _).trans hbel); clear hown hgr hbel hblk hb6))
          go_roundw
          case rel =>
            refine ⟨k + 1, _, by go_num, by omega, Lib.hid (HF2.out.congr fun p hp => ?_), Lib.hid (HW2.out.setCell (p := ⟨w1.heap.size, y, none⟩) HF.out.hb _)⟩
            by_cases e : p = y
            · rw [if_pos e, Dag.chK_hit hkP (by rw [HY.out, e]), e]
            · rw [if_neg e, Dag.chK_miss hkP (by rw [HY.out]; omega)]
          case measure => simp [intOf]; omega
        · have HF2 : Hid (Fam w.heap.size w1.heap.size g.length vs (fun a => Dag.chTo g a (n + 1)) wr) := Lib.hid (HF.out.congr fun p _ => by
            rw [show k = P.length by rw [HL.out]; omega, Dag.chK_done hlt HP.out])
          go_wp2_with fail
          go_roundw
          case rel => exact ⟨n + 1, vs, by go_num, by omega, HF2, HW⟩
          case measure => simp [intOf]; omega
    · have HE : Hid (Fam w.heap.size w1.heap.size g.length vs (Dag.chL g) wo) := Lib.hid (HF.out.congr fun p _ => by rw [show n = g.length by omega]; rfl)
      go_wp2_with fail
      go_ret2
      exact ⟨_, _, rfl, HE.out, HW.out⟩
end Go.Proofs.Ytcpmnocknpalfaa
