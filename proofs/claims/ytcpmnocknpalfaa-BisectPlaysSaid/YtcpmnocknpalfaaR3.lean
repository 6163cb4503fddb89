/-
  Layer 14, the document's: Bases, Check, Nodes. No condition besides what the arguments are.
-/
import Derived.Test.YtcpmnocknpalfaaR2
namespace Go.Proofs.Ytcpmnocknpalfaa
open Go.RowKit Go.Sl
set_option linter.unusedVariables false

set_option maxRecDepth 100000 in
set_option maxHeartbeats 1000000 in
theorem rbases_any (gv : Value) (av bv : Int) (a b : Nat) (hav : av = a) (hbv : bv = b) (w : World) (es : List (SlV × Int)) (g : List Nd) (hg : Dag.okG g) (ha : a < g.length) (hb : b < g.length) (hG : Gr w gv es g) :
    Calls Try.prog 20 #[gv, .int .i64 av, .int .i64 bv] w fun e w' => ∃ v, e = .returned v ∧ Own eInt 1 w.heap.size 3 w' v (Dag.baseL g a b) ∧ Below w.heap.size w w' := by
  subst hav hbv
  have hix0 := hG.run_len
  have hgl := hg.1
  have HG := Lib.hid hg
  clear hg
  go_enter Try.func20, Try.ntmps20
  go_wp2_with fail
  refine (up1_any gv w es g a _ rfl HG.out ha hG).mono ?_
  rintro e w1 ⟨xb, rfl, hxb, hx, hb1⟩
  have HX := Lib.hid hx
  have HB1 := Lib.hid hb1
  clear hx hb1
  go_wp2_with fail
  refine (up1_any gv w1 es g b _ rfl HG.out hb (hG.ext HB1.out)).mono ?_
  rintro e w2 ⟨yb, rfl, hyb, hy, hb2⟩
  have HX2 := Lib.hid (HX.out.ext hb2)
  have HY := Lib.hid hy
  have HB2 := Lib.hid (HB1.out.trans (hb2.mono HB1.out.size))
  clear hy hb2 HX HB1 hxb hyb
  go_wp2_with fail
  go_loopw [9, 10] (fun v i wr => ∃ (k : Nat), i = .int .i64 k ∧ k ≤ g.length ∧ Hid (Own eInt 1 w.heap.size 3 wr v (Dag.filtN (fun x => Dag.upB g [a] x && Dag.upB g [b] x) k)) ∧ Hid (Bl xb xb g.length (Dag.upB g [a]) wr) ∧ Hid (Bl yb yb g.length (Dag.upB g [b]) wr) ∧ Hid (Below w.heap.size w wr)) (fun _ i _ => g.length - (intOf i).toNat)
  case atStart => exact ⟨0, rfl, by omega, Lib.hid (Own.nil _ _ _ _ _), HX2, HY, HB2⟩
  case round =>
    obtain ⟨k, rfl, hk, HO, HX, HY, HW⟩ := hrel
    by_cases hlt : k < g.length
    · obtain ⟨c1, c2, c3⟩ := HX.out.cell hlt
      obtain ⟨d1, d2, d3⟩ := HY.out.cell hlt
      have HT := Lib.hid (trues_snoc (fun x => Dag.upB g [a] x && Dag.upB g [b] x) k)
      have hfl := Dag.filtN_len (p := fun x => Dag.upB g [a] x && Dag.upB g [b] x) k
      have hsz := HW.out.size
      cases hfa : Dag.upB g [a] k with
      | false =>
        rw [hfa] at c1
        simp only [hfa, Bool.false_and] at HT
        clear hfa
        go_wp2_with fail
        go_roundw
        case rel => exact ⟨k + 1, by go_num, by omega, Lib.hid (by rw [HT.out]; simpa using HO.out), HX, HY, HW⟩
        case measure => simp [intOf]; omega
      | true =>
        rw [hfa] at c1
        cases hfb : Dag.upB g [b] k with
        | false =>
          rw [hfb] at d1
          simp only [hfa, hfb, Bool.and_false] at HT
          clear hfa hfb
          go_wp2_with fail
          go_roundw
          case rel => exact ⟨k + 1, by go_num, by omega, Lib.hid (by rw [HT.out]; simpa using HO.out), HX, HY, HW⟩
          case measure => simp [intOf]; omega
        | true =>
          rw [hfb] at d1
          simp only [hfa, hfb, Bool.and_true] at HT
          clear hfa hfb
          go_wp2_with (at_builtin; go_must (refine wpList_append1 rfl (en := eInt) (s := 1) (base := w.heap.size) (e := 3) _ _ 23 rfl (.int .i64 0) 8 Try.underlying23 info3 rfl (by decide) len_eInt one_eInt u9 _ _ k rfl (HO.out.alloc _) rfl (Sl.fresh len_eInt rfl rfl rfl (by simp [maxLen])) (by simp only [maxLen]; omega) (by omega) (by simp; omega) ?_; intro ov' w6 hown hgr hbel hblk; have HO2 := Lib.hid hown; have HX3 : Hid (Bl xb xb g.length (Dag.upB g [a]) w6) := Lib.hid ⟨Nat.le_refl _, grown_heap hgr (heap_keep HX.out.blk) (HO.out.ne_elem HX.out.blk (by decide))⟩; have HY3 : Hid (Bl yb yb g.length (Dag.upB g [b]) w6) := Lib.hid ⟨Nat.le_refl _, grown_heap hgr (heap_keep HY.out.blk) (HO.out.ne_elem HY.out.blk (by decide))⟩; have HW2 := Lib.hid ((HW.out.alloc HW.out.size _).trans hbel); clear hown hgr hbel hblk))
          go_roundw
          case rel => exact ⟨k + 1, by go_num, by omega, Lib.hid (by rw [HT.out]; simpa using HO2.out), HX3, HY3, HW2⟩
          case measure => simp [intOf]; omega
    · obtain rfl : k = g.length := by omega
      have HE := Lib.hid (Dag.bases_heads HG.out (a := a) (b := b) ha)
      go_wp2_with fail
      refine (rheads_any gv _ wr es g _ HG.out (own_filt _ _) (hG.ext HW.out) (HO.out.sl len_eInt)).mono ?_
      rintro e w5 ⟨v5, rfl, ho, hb5⟩
      rw [HE.out] at ho
      have HO5 := Lib.hid ho
      have HB5 := Lib.hid hb5
      clear ho hb5
      go_wp2_with fail
      go_ret
      exact ⟨_, rfl, HO5.out.mono HW.out.size, HW.out.trans (HB5.out.mono HW.out.size)⟩
end Go.Proofs.Ytcpmnocknpalfaa
