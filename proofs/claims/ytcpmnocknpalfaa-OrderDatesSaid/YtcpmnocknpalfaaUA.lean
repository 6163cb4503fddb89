/-
  Layer 15: Date, Topo, Author, Plain, works; the laws Dates and Topos, walked. No condition besides what the arguments are.
-/
import Derived.Test.YtcpmnocknpalfaaQ10
import Derived.Test.YtcpmnocknpalfaaQ13
import Derived.Test.YtcpmnocknpalfaaS3
import Derived.Sort.OwnSortedInts
import Derived.Test.YtcpmnocknpalfaaKB
import Derived.Test.YtcpmnocknpalfaaShelf
import Derived.Test.YtcpmnocknpalfaaR5
namespace Go.Proofs.Ytcpmnocknpalfaa
open Go.Proofs Go.RowKit Go.Shelf Go.Sl
set_option linter.unusedVariables false

/-- two lists compared -/
theorem same_b (v1 v2 : Value) (l1 l2 : List Int) (t : Bool) (ht : decide (l1 = l2) = t) (w : World) (h1 : Sl eInt 1 w v1 l1) (h2 : Sl eInt 1 w v2 l2) : Calls Try.prog 18 #[v1, v2] w fun e w' => e = .returned (.bool t) ∧ Below w.heap.size w w' := by
  refine (same_any v1 v2 l1 l2 w h1 h2).mono ?_
  rintro e w3 ⟨rfl, n, rfl⟩
  exact ⟨by rw [ht], below_drewN (Below.refl _ _) _⟩

theorem WK.low {b0 base wb ib ob N : Nat} {gv : Value} {inl : Nat → Bool} {op : Nat → Int} {w : World} (h : WK base wb ib ob gv N inl op w) (hb : b0 ≤ base) : WK b0 wb ib ob gv N inl op w :=
  ⟨Nat.le_trans hb h.hwb, h.blk, h.inB.mono hb, Sl.Own.mono h.opn hb⟩
noncomputable def dateL (g : List Nd) (bl l : List Int) : List Int := Ord.seqL (Ord.rdy g) (Ord.key bl) g.length g.length (Ord.inB l)
noncomputable def topoO (g : List Nd) (l : List Int) : List Int := Ord.topoL g g.length (Ord.inB l) (Dag.nn (Ord.first g (Ord.key (g.map (·.2))) (Ord.inB l)))

set_option maxRecDepth 100000 in
set_option maxHeartbeats 1000000 in
theorem date_ok (gv v : Value) (w : World) (es : List (SlV × Int)) (g : List Nd) (l : List Int) (hg : Dag.okG g) (hl : Dag.inN g.length l) (hG : Gr w gv es g) (h : Sl eInt 1 w v l) :
    Calls Try.prog 58 #[gv, v] w fun e w' => ∃ ov, e = .returned (.tuple #[ov, .int .i64 0]) ∧ Sl.Own eInt 1 w.heap.size 3 w' ov (dateL g (g.map (·.2)) l) ∧ Below w.heap.size w w' := by
  have HC := Lib.hid (ocheck_any gv v w es g l 0 (Dag.nodes_ok hg hl) hG h)
  have HG := Lib.hid hg
  have HL := Lib.hid hl
  have hgl := hg.1
  have hix0 := hG.run_len
  clear hg hl
  go_enter Try.func58, Try.ntmps58
  go_wp2_with fail
  refine HC.out.mono ?_
  rintro e w1 ⟨rfl, hb1⟩
  have HB1 := Lib.hid hb1
  clear hb1
  go_wp2_with fail
  refine (start89 gv v w1 es g l HG.out HL.out (hG.ext HB1.out) (h.ext HB1.out)).mono ?_
  rintro e w2 ⟨wb, ib, ob, rfl, hk, hb2⟩
  have HK := Lib.hid (hk.low HB1.out.size)
  have HB2 := Lib.hid (HB1.out.trans (hb2.mono HB1.out.size))
  clear hk hb2
  go_wp2_with fail
  refine (times90 gv w2 hG.outer.isSlice).mono ?_
  rintro e w3 ⟨rfl, hw3⟩
  have hbc : w3.heap[w2.heap.size]? = some (.cells #[gv] 22 (0, 0)) := by rw [hw3]; exact heap_alloc_new _ _
  have hb23 : Below w2.heap.size w2 w3 := by rw [hw3]; exact bel_alloc _ _
  have HK3 := Lib.hid (HK.out.ext hb23)
  have HB3 := Lib.hid (HB2.out.trans (hb23.mono HB2.out.size))
  have HBc := Lib.hid hbc
  have hb34 := bel_alloc w3 (.cells #[.slice none 0 0, keyV 104 w2.heap.size] 117)
  have HK4 := Lib.hid (HK3.out.ext hb34)
  have HB4 : Hid (Below w.heap.size w (w3.alloc (.cells #[.slice none 0 0, keyV 104 w2.heap.size] 117))) := Lib.hid (HB3.out.trans (hb34.mono HB3.out.size))
  have HBc4 : Hid ((w3.alloc (.cells #[.slice none 0 0, keyV 104 w2.heap.size] 117)).heap[w2.heap.size]? = some (.cells #[gv] 22 (0, 0))) := Lib.hid (heap_keep hbc)
  have HQ4 : Hid ((w3.alloc (.cells #[.slice none 0 0, keyV 104 w2.heap.size] 117)).heap[w3.heap.size]? = some (.cells #[.slice none 0 0, keyV 104 w2.heap.size] 117 (0, 0))) := Lib.hid (heap_alloc_new _ _)
  have hs3 := HB3.out.size
  have HR := Lib.hid (ready92 104 w2.heap.size wb ib ob w.heap.size gv g (Ord.inB l) (g.map (·.2)) _ hgl hix0 gv 22 (by decide) HBc4.out (older104 _ gv es g w2.heap.size (hG.ext HB4.out)) HK4.out)
  have hold := Lib.hid (older104 w gv es g w2.heap.size hG)
  clear hbc hb23 hw3 HK hb34
  unfold keyV at *
  go_wp2_with fail
  refine HR.out.mono ?_
  rintro e w5 ⟨fsv, rfl, ho, hb5⟩
  have HO5 := Lib.hid (Sl.Own.mono ho HB4.out.size)
  have HB5 := Lib.hid (HB4.out.trans (hb5.mono HB4.out.size))
  have HK5 := Lib.hid (HK4.out.ext hb5)
  have HBc5 := Lib.hid ((hb5.block _ (Array.getElem?_eq_some_iff.1 HBc4.out).1).trans HBc4.out)
  have HQ5 := Lib.hid ((hb5.block _ (Array.getElem?_eq_some_iff.1 HQ4.out).1).trans HQ4.out)
  clear ho hb5
  go_wp2_with fail
  refine (runq_any w2.heap.size wb ib ob w3.heap.size gv _ gv 22 (by decide) es g (Ord.inB l) (g.map (·.2)) fsv w w5 HG.out hG hold.out HK5.out hs3 HQ5.out HBc5.out HB5.out HO5.out).mono ?_
  rintro e w6 ⟨ov, rfl, ho, hb6⟩
  have HO6 := Lib.hid ho
  have HB6 := Lib.hid (HB5.out.trans hb6)
  clear ho hb6
  go_wp2_with fail
  go_ret2
  exact ⟨_, rfl, HO6.out, HB6.out⟩

set_option maxRecDepth 100000 in
set_option maxHeartbeats 1000000 in
theorem topo_ok (gv v : Value) (w : World) (es : List (SlV × Int)) (g : List Nd) (l : List Int) (hg : Dag.okG g) (hl : Dag.inN g.length l) (hG : Gr w gv es g) (h : Sl eInt 1 w v l) :
    Calls Try.prog 62 #[gv, v] w fun e w' => ∃ ov, e = .returned (.tuple #[ov, .int .i64 0]) ∧ Sl.Own eInt 1 w.heap.size 3 w' ov (topoO g l) ∧ Below w.heap.size w w' := by
  have HC := Lib.hid (ocheck_any gv v w es g l 0 (Dag.nodes_ok hg hl) hG h)
  have HG := Lib.hid hg
  have HL := Lib.hid hl
  have hgl := hg.1
  have hix0 := hG.run_len
  clear hg hl
  go_enter Try.func62, Try.ntmps62
  go_wp2_with fail
  refine HC.out.mono ?_
  rintro e w1 ⟨rfl, hb1⟩
  have HB1 := Lib.hid hb1
  clear hb1
  go_wp2_with fail
  refine (start89 gv v w1 es g l HG.out HL.out (hG.ext HB1.out) (h.ext HB1.out)).mono ?_
  rintro e w2 ⟨wb, ib, ob, rfl, hk, hb2⟩
  have HK := Lib.hid (hk.low HB1.out.size)
  have HB2 := Lib.hid (HB1.out.trans (hb2.mono HB1.out.size))
  have hs2 := HB2.out.size
  have HK2 := Lib.hid (HK.out.ext (bel_alloc w2 (.cells #[.slice none 0 0] 123)))
  have HB3 : Hid (Below w.heap.size w (w2.alloc (.cells #[.slice none 0 0] 123))) := Lib.hid (HB2.out.trans ((bel_alloc w2 _).mono HB2.out.size))
  have HQ3 : Hid ((w2.alloc (.cells #[.slice none 0 0] 123)).heap[w2.heap.size]? = some (.cells #[.slice none 0 0] 123 (0, 0))) := Lib.hid (heap_alloc_new _ _)
  clear hk hb2 HK
  go_wp2_with fail
  refine (times90 gv _ hG.outer.isSlice).mono ?_
  rintro e w4 ⟨rfl, hw4⟩
  simp only [World.size_alloc] at hw4 ⊢
  have hbc : w4.heap[w2.heap.size + 1]? = some (.cells #[gv] 22 (0, 0)) := by rw [hw4]; exact heap_new_at (by simp)
  have hb34 : Below (w2.heap.size + 1) (w2.alloc (.cells #[.slice none 0 0] 123)) w4 := by rw [hw4]; have := bel_alloc (w2.alloc (.cells #[.slice none 0 0] 123)) (.cells #[gv] 22); simpa using this
  have HK4 := Lib.hid (HK2.out.ext (by simpa using hb34))
  have HB4 := Lib.hid (HB3.out.trans (hb34.mono (by omega)))
  have HBc := Lib.hid hbc
  have HQ4 : Hid (w4.heap[w2.heap.size]? = some (.cells #[.slice none 0 0] 123 (0, 0))) := Lib.hid ((hb34.block _ (by omega)).trans HQ3.out)
  have HR := Lib.hid (ready92 104 (w2.heap.size + 1) wb ib ob w.heap.size gv g (Ord.inB l) (g.map (·.2)) w4 hgl hix0 gv 22 (by decide) HBc.out (older104 _ gv es g (w2.heap.size + 1) (hG.ext HB4.out)) HK4.out)
  clear hbc hb34 hw4
  unfold keyV at *
  go_wp2_with fail
  refine HR.out.mono ?_
  rintro e w5 ⟨fsv, rfl, ho, hb5⟩
  have HO5 := Lib.hid (Sl.Own.mono ho HB4.out.size)
  have HB5 := Lib.hid (HB4.out.trans (hb5.mono HB4.out.size))
  have HK5 := Lib.hid (HK4.out.ext hb5)
  have HQ5 := Lib.hid ((hb5.block _ (Array.getElem?_eq_some_iff.1 HQ4.out).1).trans HQ4.out)
  clear ho hb5
  go_wp2_with fail
  refine (runp_any wb ib ob w2.heap.size gv es g (Ord.inB l) (g.map (·.2)) fsv w w5 HG.out hG HK5.out hs2 HQ5.out HB5.out HO5.out).mono ?_
  rintro e w6 ⟨ov, rfl, ho, hb6⟩
  have HO6 := Lib.hid ho
  have HB6 := Lib.hid (HB5.out.trans hb6)
  clear ho hb6
  go_wp2_with fail
  go_ret2
  exact ⟨_, rfl, HO6.out, HB6.out⟩
set_option maxRecDepth 100000 in
set_option maxHeartbeats 1000000 in
theorem author_ok (gv v bv : Value) (w : World) (es : List (SlV × Int)) (g : List Nd) (l bl : List Int) (hg : Dag.okG g) (hl : Dag.inN g.length l) (hbl : bl.length = g.length) (hG : Gr w gv es g) (h : Sl eInt 1 w v l) (hb : Sl eInt 1 w bv bl) :
    Calls Try.prog 64 #[gv, v, bv] w fun e w' => ∃ ov, e = .returned (.tuple #[ov, .int .i64 0]) ∧ Sl.Own eInt 1 w.heap.size 3 w' ov (dateL g bl l) ∧ Below w.heap.size w w' := by
  obtain ⟨ba, bn, bc, rfl⟩ := hb.isSlice
  have hlb := hb.run_len (P := Try.prog) Try.underlying23
  rw [hbl] at hlb
  have hb01 := bel_alloc w (.cells #[.slice ba bn bc] 23)
  have HB0 := Lib.hid hb01
  have HBc0 : Hid ((w.alloc (.cells #[.slice ba bn bc] 23)).heap[w.heap.size]? = some (.cells #[.slice ba bn bc] 23 (0, 0))) := Lib.hid (heap_alloc_new _ _)
  have HC := Lib.hid (ocheck_any gv v _ es g l 0 (Dag.nodes_ok hg hl) (hG.ext hb01) (h.ext hb01))
  have HG := Lib.hid hg
  have HL := Lib.hid hl
  have HBl := Lib.hid hbl
  have hgl := hg.1
  have hix0 := hG.run_len
  have hmf : ∀ (fn : Fn) (first cap : Array Value) (w : World), (Instr.makeFunc fn first cap).run Try.prog w = .ok (.func fn first cap) w := fun _ _ _ _ => rfl
  clear hg hl hbl hb01
  go_enter Try.func64, Try.ntmps64
  go_wp2_with fail
  refine HC.out.mono ?_
  rintro e w1 ⟨rfl, hb1⟩
  simp only [World.size_alloc] at hb1
  have HB1 : Hid (Below w.heap.size w w1) := Lib.hid (HB0.out.trans (hb1.mono (by omega)))
  have HBc1 : Hid (w1.heap[w.heap.size]? = some (.cells #[.slice ba bn bc] 23 (0, 0))) := Lib.hid ((hb1.block _ (by omega)).trans HBc0.out)
  obtain ⟨_, c1, _⟩ := one_cells HBc1.out
  clear hb1 HC HB0 HBc0
  go_wp2_with fail
  refine (start89 gv v w1 es g l HG.out HL.out (hG.ext HB1.out) (h.ext HB1.out)).mono ?_
  rintro e w2 ⟨wb, ib, ob, rfl, hk, hb2⟩
  have HK := Lib.hid (hk.low HB1.out.size)
  have HB2 := Lib.hid (HB1.out.trans (hb2.mono HB1.out.size))
  have HBc2 : Hid (w2.heap[w.heap.size]? = some (.cells #[.slice ba bn bc] 23 (0, 0))) := Lib.hid ((hb2.block _ (Array.getElem?_eq_some_iff.1 HBc1.out).1).trans HBc1.out)
  have hs2 := HB2.out.size
  have hb23 := bel_alloc w2 (.cells #[.slice none 0 0, keyV 95 w.heap.size] 117)
  have HK3 := Lib.hid (HK.out.ext hb23)
  have HB3 : Hid (Below w.heap.size w (w2.alloc (.cells #[.slice none 0 0, keyV 95 w.heap.size] 117))) := Lib.hid (HB2.out.trans (hb23.mono HB2.out.size))
  have HBc3 : Hid ((w2.alloc (.cells #[.slice none 0 0, keyV 95 w.heap.size] 117)).heap[w.heap.size]? = some (.cells #[.slice ba bn bc] 23 (0, 0))) := Lib.hid (heap_keep HBc2.out)
  have HQ3 : Hid ((w2.alloc (.cells #[.slice none 0 0, keyV 95 w.heap.size] 117)).heap[w2.heap.size]? = some (.cells #[.slice none 0 0, keyV 95 w.heap.size] 117 (0, 0))) := Lib.hid (heap_alloc_new _ _)
  have HR := Lib.hid (ready92 95 w.heap.size wb ib ob w.heap.size gv g (Ord.inB l) bl _ hgl hix0 (.slice ba bn bc) 23 (by decide) HBc3.out (by rw [← HBl.out]; exact older95 _ (.slice ba bn bc) bl w.heap.size (hb.ext HB3.out)) HK3.out)
  have hold : Hid (OldV w w.heap.size (.slice ba bn bc) 23 (keyV 95 w.heap.size) (Ord.keyI bl) g.length) := Lib.hid (by rw [← HBl.out]; exact older95 w (.slice ba bn bc) bl w.heap.size hb)
  clear hk hb2 HK hb23 c1
  unfold keyV at *
  go_wp2_with fail
  refine HR.out.mono ?_
  rintro e w5 ⟨fsv, rfl, ho, hb5⟩
  have HO5 := Lib.hid (Sl.Own.mono ho HB3.out.size)
  have HB5 := Lib.hid (HB3.out.trans (hb5.mono HB3.out.size))
  have HK5 := Lib.hid (HK3.out.ext hb5)
  have HBc5 := Lib.hid ((hb5.block _ (Array.getElem?_eq_some_iff.1 HBc3.out).1).trans HBc3.out)
  have HQ5 := Lib.hid ((hb5.block _ (Array.getElem?_eq_some_iff.1 HQ3.out).1).trans HQ3.out)
  clear ho hb5
  go_wp2_with fail
  refine (runq_any w.heap.size wb ib ob w2.heap.size gv _ (.slice ba bn bc) 23 (by decide) es g (Ord.inB l) bl fsv w w5 HG.out hG hold.out HK5.out hs2 HQ5.out HBc5.out HB5.out HO5.out).mono ?_
  rintro e w6 ⟨ov, rfl, ho, hb6⟩
  have HO6 := Lib.hid ho
  have HB6 := Lib.hid (HB5.out.trans hb6)
  clear ho hb6
  go_wp2_with fail
  go_ret2
  exact ⟨_, rfl, HO6.out, HB6.out⟩
theorem nat_ne {c : Nat} (h : c ≠ 0) : ((c : Int) != 0) = true := by simp [h]
set_option maxRecDepth 100000 in
theorem date_bad (gv v : Value) (w : World) (es : List (SlV × Int)) (g : List Nd) (l : List Int) (c : Nat) (hc : Dag.nodes g l = c) (h0 : c ≠ 0) (hG : Gr w gv es g) (h : Sl eInt 1 w v l) :
    Calls Try.prog 58 #[gv, v] w fun e w' => e = .returned (.tuple #[.slice none 0 0, .int .i64 (c : Nat)]) ∧ Below w.heap.size w w' := by
  have HC := Lib.hid (ocheck_any gv v w es g l c hc hG h)
  have hn := nat_ne h0
  clear hc h0
  go_enter Try.func58, Try.ntmps58
  go_wp2_with fail
  refine HC.out.mono ?_
  rintro e w1 ⟨rfl, hb1⟩
  have HB1 := Lib.hid hb1
  clear hb1
  go_wp2_with fail
  go_ret2
  exact ⟨rfl, HB1.out⟩
set_option maxRecDepth 100000 in
theorem topo_bad (gv v : Value) (w : World) (es : List (SlV × Int)) (g : List Nd) (l : List Int) (c : Nat) (hc : Dag.nodes g l = c) (h0 : c ≠ 0) (hG : Gr w gv es g) (h : Sl eInt 1 w v l) :
    Calls Try.prog 62 #[gv, v] w fun e w' => e = .returned (.tuple #[.slice none 0 0, .int .i64 (c : Nat)]) ∧ Below w.heap.size w w' := by
  have HC := Lib.hid (ocheck_any gv v w es g l c hc hG h)
  have hn := nat_ne h0
  clear hc h0
  go_enter Try.func62, Try.ntmps62
  go_wp2_with fail
  refine HC.out.mono ?_
  rintro e w1 ⟨rfl, hb1⟩
  have HB1 := Lib.hid hb1
  clear hb1
  go_wp2_with fail
  go_ret2
  exact ⟨rfl, HB1.out⟩
set_option maxRecDepth 100000 in
theorem author_bad (gv v bv : Value) (w : World) (es : List (SlV × Int)) (g : List Nd) (l bl : List Int) (c : Nat) (hc : Dag.nodes g l = c) (h0 : c ≠ 0) (hG : Gr w gv es g) (h : Sl eInt 1 w v l) (hb : Sl eInt 1 w bv bl) :
    Calls Try.prog 64 #[gv, v, bv] w fun e w' => e = .returned (.tuple #[.slice none 0 0, .int .i64 (c : Nat)]) ∧ Below w.heap.size w w' := by
  obtain ⟨ba, bn, bc, rfl⟩ := hb.isSlice
  have HC := Lib.hid (ocheck_any gv v _ es g l c hc (hG.ext (bel_alloc w (.cells #[.slice ba bn bc] 23))) (h.ext (bel_alloc w (.cells #[.slice ba bn bc] 23))))
  have hn := nat_ne h0
  clear hc h0
  go_enter Try.func64, Try.ntmps64
  go_wp2_with fail
  refine HC.out.mono ?_
  rintro e w1 ⟨rfl, hb1⟩
  have HB1 : Hid (Below w.heap.size w w1) := Lib.hid ((bel_alloc w (.cells #[.slice ba bn bc] 23)).trans (hb1.mono (by simp)))
  clear hb1
  go_wp2_with fail
  go_ret2
  exact ⟨rfl, HB1.out⟩
set_option maxRecDepth 100000 in
theorem author_len (gv v bv : Value) (w : World) (es : List (SlV × Int)) (g : List Nd) (l bl : List Int) (hc : Dag.nodes g l = 0) (hbl : bl.length ≠ g.length) (hG : Gr w gv es g) (h : Sl eInt 1 w v l) (hb : Sl eInt 1 w bv bl) :
    Calls Try.prog 64 #[gv, v, bv] w fun e w' => e = .returned (.tuple #[.slice none 0 0, .int .i64 2]) ∧ Below w.heap.size w w' := by
  obtain ⟨ba, bn, bc, rfl⟩ := hb.isSlice
  have HC := Lib.hid (ocheck_any gv v _ es g l 0 hc (hG.ext (bel_alloc w (.cells #[.slice ba bn bc] 23))) (h.ext (bel_alloc w (.cells #[.slice ba bn bc] 23))))
  have hlb := hb.run_len (P := Try.prog) Try.underlying23
  have hix0 := hG.run_len
  have hn : ((bl.length : Int) != (g.length : Int)) = true := by simp; omega
  have hn2 : (bl.length != g.length) = true := by simp [hbl]
  clear hc hbl
  go_enter Try.func64, Try.ntmps64
  go_wp2_with fail
  refine HC.out.mono ?_
  rintro e w1 ⟨rfl, hb1⟩
  have HB1 : Hid (Below w.heap.size w w1) := Lib.hid ((bel_alloc w (.cells #[.slice ba bn bc] 23)).trans (hb1.mono (by simp)))
  have HBc1 : w1.heap[w.heap.size]? = some (.cells #[.slice ba bn bc] 23 (0, 0)) := (hb1.block _ (by simp)).trans (heap_alloc_new _ _)
  obtain ⟨_, c1, _⟩ := one_cells HBc1
  clear hb1 HBc1
  go_wp2_with fail
  go_ret2
  exact ⟨rfl, HB1.out⟩
end Go.Proofs.Ytcpmnocknpalfaa
namespace Go.Proofs.Ytcpmnocknpalfaa
open Go.RowKit Go.Sl
set_option linter.unusedVariables false

def og : List Nd := [([], 0), ([0], 5), ([0], 1), ([1, 2], 6)]
theorem og_ok : Dag.okG og := by
  unfold Dag.okG Dag.nodeOk Dag.parOk
  decide
theorem og_date : dateL og (og.map (·.2)) [0, 1, 2, 3] = [3, 1, 2, 0] := by unfold dateL; decide +kernel
theorem og_topo : topoO og [0, 1, 2, 3] = [3, 1, 2, 0] := by unfold topoO; decide +kernel
def oes (b : Nat) : List (SlV × Int) := [(⟨none, 0, 0⟩, 0), (⟨some ⟨b, 0, none⟩, 1, 1⟩, 5), (⟨some ⟨b + 1, 0, none⟩, 1, 1⟩, 1), (⟨some ⟨b + 1 + 1, 0, none⟩, 2, 2⟩, 6)]
def ocells (b : Nat) : Array Value := #[.slice none 0 0, .int .i64 0, .slice (some ⟨b, 0, none⟩) 1 1, .int .i64 5, .slice (some ⟨b + 1, 0, none⟩) 1 1, .int .i64 1, .slice (some ⟨b + 1 + 1, 0, none⟩) 2 2, .int .i64 6]
theorem og_gr (w : World) : Gr ((((w.alloc (.cells #[.int .i64 0] 3)).alloc (.cells #[.int .i64 0] 3)).alloc (.cells #[.int .i64 1, .int .i64 2] 3)).alloc (.cells (ocells w.heap.size) 90))
    (.slice (some ⟨w.heap.size + 1 + 1 + 1, 0, none⟩) 4 4) (oes w.heap.size) og := by
  have b3 : ∀ w : World, ∀ o, Below w.heap.size w (w.alloc o) := fun w o => (Below.refl _ _).alloc (Nat.le_refl _) _
  have s1 : Sl eInt 1 (w.alloc (.cells #[.int .i64 0] 3)) (.slice (some ⟨w.heap.size, 0, none⟩) 1 1) [0] := Sl.fresh len_eInt rfl rfl rfl (by simp [maxLen])
  have s2 : Sl eInt 1 ((w.alloc (.cells #[.int .i64 0] 3)).alloc (.cells #[.int .i64 0] 3)) (.slice (some ⟨w.heap.size + 1, 0, none⟩) 1 1) [0] := Sl.fresh len_eInt (by simp) rfl rfl (by simp [maxLen])
  have s3 : Sl eInt 1 (((w.alloc (.cells #[.int .i64 0] 3)).alloc (.cells #[.int .i64 0] 3)).alloc (.cells #[.int .i64 1, .int .i64 2] 3)) (.slice (some ⟨w.heap.size + 1 + 1, 0, none⟩) 2 2) [1, 2] := Sl.fresh len_eInt (by simp) rfl rfl (by simp [maxLen])
  have t1 := ((s1.ext (b3 _ (.cells #[.int .i64 0] 3))).ext (b3 _ (.cells #[.int .i64 1, .int .i64 2] 3))).ext (b3 _ (.cells (ocells w.heap.size) 90))
  have t2 := (s2.ext (b3 _ (.cells #[.int .i64 1, .int .i64 2] 3))).ext (b3 _ (.cells (ocells w.heap.size) 90))
  have t3 := s3.ext (b3 _ (.cells (ocells w.heap.size) 90))
  refine ⟨Sl.fresh len_eNd (by simp) rfl rfl (by simp [maxLen, oes]), rfl, fun k h1 h2 => ?_⟩
  have hk : k < 4 := h1
  obtain rfl | rfl | rfl | rfl : k = 0 ∨ k = 1 ∨ k = 2 ∨ k = 3 := by omega
  · exact ⟨rfl, Sl.nil _ _ _⟩
  · exact ⟨rfl, t1⟩
  · exact ⟨rfl, t2⟩
  · exact ⟨rfl, t3⟩
def q4 : Array Value := #[.int .i64 0, .int .i64 1, .int .i64 2, .int .i64 3]
def r4 : Array Value := #[.int .i64 3, .int .i64 1, .int .i64 2, .int .i64 0]
theorem q4_sl (w : World) : Sl eInt 1 (w.alloc (.cells #[.int .i64 0, .int .i64 1, .int .i64 2, .int .i64 3] 3)) (.slice (some ⟨w.heap.size, 0, none⟩) 4 4) [0, 1, 2, 3] := Sl.fresh len_eInt rfl rfl rfl (by simp [maxLen])
theorem r4_same (v : Value) (l : List Int) (hl : l = [3, 1, 2, 0]) (w : World) (h : Sl eInt 1 w v l) : Calls Try.prog 18 #[v, .slice (some ⟨w.heap.size, 0, none⟩) 4 4] (w.alloc (.cells #[.int .i64 3, .int .i64 1, .int .i64 2, .int .i64 0] 3)) fun e w' => e = .returned (.bool true) ∧ Below w.heap.size w w' := by
  have hb0 : Below w.heap.size w (w.alloc (.cells #[.int .i64 3, .int .i64 1, .int .i64 2, .int .i64 0] 3)) := (Below.refl _ _).alloc (Nat.le_refl _) _
  have hs : Sl eInt 1 (w.alloc (.cells #[.int .i64 3, .int .i64 1, .int .i64 2, .int .i64 0] 3)) (.slice (some ⟨w.heap.size, 0, none⟩) 4 4) [3, 1, 2, 0] := Sl.fresh len_eInt rfl rfl rfl (by simp [maxLen])
  refine (same_b v _ l [3, 1, 2, 0] true (by simp [hl]) _ (h.ext hb0) hs).mono ?_
  rintro e w3 ⟨rfl, hb⟩
  exact ⟨rfl, hb0.trans (hb.mono (by simp))⟩

set_option maxRecDepth 100000 in
set_option maxHeartbeats 1000000 in
theorem oworks_any (w : World) : Calls Try.prog 57 #[] w fun e w' => e = .returned (.bool true) ∧ Below w.heap.size w w' := by
  have HGr := Lib.hid (og_gr w)
  have HB0 := Lib.hid (((((Below.refl w.heap.size w).alloc (Nat.le_refl _) (.cells #[.int .i64 0] 3)).alloc (by simp) (.cells #[.int .i64 0] 3)).alloc (by simp; omega) (.cells #[.int .i64 1, .int .i64 2] 3)).alloc (by simp; omega) (.cells (ocells w.heap.size) 90))
  obtain ⟨wa, hwa⟩ : ∃ wa, wa = (((w.alloc (.cells #[.int .i64 0] 3)).alloc (.cells #[.int .i64 0] 3)).alloc (.cells #[.int .i64 1, .int .i64 2] 3)).alloc (.cells (ocells w.heap.size) 90) := ⟨_, rfl⟩
  rw [← hwa] at HGr HB0
  have HWa : Hid ((((w.alloc (.cells #[.int .i64 0] 3)).alloc (.cells #[.int .i64 0] 3)).alloc (.cells #[.int .i64 1, .int .i64 2] 3)).alloc (.cells (#[.slice none 0 0, .int .i64 0, .slice (some ⟨w.heap.size, 0, none⟩) 1 1, .int .i64 5, .slice (some ⟨w.heap.size + 1, 0, none⟩) 1 1, .int .i64 1, .slice (some ⟨w.heap.size + 1 + 1, 0, none⟩) 2 2, .int .i64 6]) 90) = wa) := Lib.hid hwa.symm
  have HSz : Hid (wa.heap.size = w.heap.size + 4) := Lib.hid (by rw [hwa]; simp)
  have HIn : Hid (Dag.inN og.length [0, 1, 2, 3]) := Lib.hid (by intro x hx; simp at hx; simp [og]; omega)
  clear hwa
  go_enter Try.func57, Try.ntmps57
  go_wp2_with fail
  rw [show w.heap.size + 1 + 1 + 1 + 1 = wa.heap.size by rw [HSz.out]]
  rw [HWa.out]
  have HQ1 := Lib.hid (q4_sl wa)
  have hb01 := bel_alloc wa (.cells #[.int .i64 0, .int .i64 1, .int .i64 2, .int .i64 3] 3)
  refine (topo_ok _ _ _ _ og [0, 1, 2, 3] og_ok HIn.out (HGr.out.ext hb01) HQ1.out).mono ?_
  rintro e w1 ⟨v1, rfl, ho, hb⟩
  have HO1 := Lib.hid (ho.sl len_eInt)
  have HB2 : Hid (Below wa.heap.size wa w1) := Lib.hid (hb01.trans (hb.mono (by simp)))
  clear ho hb hb01 HQ1
  go_wp2_with fail
  have HQ1 := Lib.hid (q4_sl w1)
  have hb01 := bel_alloc w1 (.cells #[.int .i64 0, .int .i64 1, .int .i64 2, .int .i64 3] 3)
  refine (date_ok _ _ _ _ og [0, 1, 2, 3] og_ok HIn.out ((HGr.out.ext HB2.out).ext hb01) HQ1.out).mono ?_
  rintro e w2 ⟨v2, rfl, ho, hb⟩
  have HO2 := Lib.hid (ho.sl len_eInt)
  have HB3 : Hid (Below w1.heap.size w1 w2) := Lib.hid (hb01.trans (hb.mono (by simp)))
  clear ho hb hb01 HQ1
  have HS1 := Lib.hid (r4_same v1 _ og_topo w2 (HO1.out.ext HB3.out))
  go_wp2_with fail
  refine HS1.out.mono ?_
  rintro e w3 ⟨rfl, hb⟩
  have HB4 := Lib.hid hb
  clear hb
  have HS2 := Lib.hid (r4_same v2 _ og_date w3 (HO2.out.ext HB4.out))
  go_wp2_with fail
  refine HS2.out.mono ?_
  rintro e w4 ⟨rfl, hb⟩
  have HB5 := Lib.hid hb
  clear hb
  go_wp2_with fail
  go_ret
  have h1 := HB0.out.trans (HB2.out.mono HB0.out.size)
  have h2 := h1.trans (HB3.out.mono h1.size)
  have h3 := h2.trans (HB4.out.mono h2.size)
  exact ⟨rfl, h3.trans (HB5.out.mono h3.size)⟩
end Go.Proofs.Ytcpmnocknpalfaa
namespace Go.Proofs.Ytcpmnocknpalfaa
open Go.RowKit Go.Sl
set_option linter.unusedVariables false

theorem nodes_zero {g : List Nd} {l : List Int} (h : Dag.nodes g l = 0) : Dag.okG g ∧ Dag.inN g.length l := by
  unfold Dag.nodes at h
  split at h
  · split at h
    · exact ⟨by assumption, by assumption⟩
    · cases h
  · cases h
theorem nat_eq (c : Nat) : ((c : Int) != (c : Int)) = false := by simp

set_option maxRecDepth 100000 in
set_option maxHeartbeats 1000000 in
theorem orderDates_any (gv v : Value) (w : World) (es : List (SlV × Int)) (g : List Nd) (l : List Int) (hG : Gr w gv es g) (h : Sl eInt 1 w v l) :
    Calls Try.prog 11 #[gv, v] w fun e w' => e = .returned (.bool true) ∧ Below w.heap.size w w' := by
  have hlen := h.run_len (P := Try.prog) Try.underlying23
  have HW := Lib.hid oworks_any
  by_cases hbig : 200 < l.length
  · have d0 : decide ((200 : Int) < (l.length : Int)) = true := by simp; omega
    clear hbig
    go_enter Try.func11, Try.ntmps11
    go_wp2_with fail
    refine (HW.out w).mono ?_
    rintro e w1 ⟨rfl, hb1⟩
    have HB1 := Lib.hid hb1
    clear hb1
    go_wp2_with fail
    go_ret
    exact ⟨rfl, HB1.out⟩
  · have d0 : decide ((200 : Int) < (l.length : Int)) = false := by simp; omega
    clear hbig
    by_cases h0 : Dag.nodes g l = 0
    · obtain ⟨hg, hl⟩ := nodes_zero h0
      have HG := Lib.hid hg
      have HL := Lib.hid hl
      have HZ := Lib.hid h0
      clear h0 hl
      go_enter Try.func11, Try.ntmps11
      go_wp2_with fail
      refine (date_ok gv v w es g l HG.out HL.out hG h).mono ?_
      rintro e w1 ⟨v1, rfl, ho, hb1⟩
      have HO1 := Lib.hid (ho.sl len_eInt)
      have HB1 := Lib.hid hb1
      clear ho hb1
      go_wp2_with fail
      refine (asked_any gv v w1 es g l 0 HZ.out (hG.ext HB1.out) (h.ext HB1.out)).mono ?_
      rintro e w2 ⟨rfl, hb2⟩
      have HB2 := Lib.hid hb2
      have HB12 := Lib.hid (bel_then HB1.out HB2.out)
      clear hb2
      go_wp2_with fail
      refine (times_any gv w2 es g hg.1 (hG.ext HB12.out)).mono ?_
      rintro e w3 ⟨bv, rfl, ho, hb3⟩
      have HT := Lib.hid (ho.sl len_eInt)
      have HB3 := Lib.hid hb3
      have HB13 := Lib.hid (bel_then HB12.out hb3)
      clear ho hb3
      go_wp2_with fail
      refine (rdate_any gv v bv w3 es g l (g.map (·.2)) HG.out HL.out (by simp) (hG.ext HB13.out) (h.ext HB13.out) HT.out).mono ?_
      rintro e w4 ⟨v3, rfl, ho, hb4⟩
      have HO3 := Lib.hid (ho.sl len_eInt)
      have HB24 := Lib.hid (bel_then HB3.out hb4)
      have HB14 := Lib.hid (bel_then HB13.out hb4)
      clear ho hb4
      have HS := Lib.hid (same_b v1 v3 _ _ true (by simp [dateL]) w4 (HO1.out.ext (bel_then HB2.out HB24.out)) HO3.out)
      go_wp2_with fail
      refine HS.out.mono ?_
      rintro e w5 ⟨rfl, hb5⟩
      have HB5 := Lib.hid (bel_then HB14.out hb5)
      clear hb5
      go_wp2_with fail
      refine (HW.out w5).mono ?_
      rintro e w6 ⟨rfl, hb6⟩
      have HB6 := Lib.hid (bel_then HB5.out hb6)
      clear hb6
      go_wp2_with fail
      go_ret
      exact ⟨rfl, HB6.out⟩
    · obtain ⟨c, hc⟩ : ∃ c, Dag.nodes g l = c := ⟨_, rfl⟩
      rw [hc] at h0
      have HZ := Lib.hid hc
      have HN := Lib.hid h0
      have hn := nat_ne h0
      have hn2 : (c != 0) = true := by simp [h0]
      clear h0 hc
      go_enter Try.func11, Try.ntmps11
      go_wp2_with fail
      refine (date_bad gv v w es g l c HZ.out HN.out hG h).mono ?_
      rintro e w1 ⟨rfl, hb1⟩
      have HB1 := Lib.hid hb1
      clear hb1
      go_wp2_with fail
      refine (asked_any gv v w1 es g l c HZ.out (hG.ext HB1.out) (h.ext HB1.out)).mono ?_
      rintro e w2 ⟨rfl, hb2⟩
      have HB2 := Lib.hid (bel_then HB1.out hb2)
      clear hb2
      go_wp2_with fail
      refine (HW.out w2).mono ?_
      rintro e w3 ⟨rfl, hb3⟩
      have HB3 := Lib.hid (bel_then HB2.out hb3)
      clear hb3
      go_wp2_with fail
      go_ret
      exact ⟨rfl, HB3.out⟩

set_option maxRecDepth 100000 in
set_option maxHeartbeats 1000000 in
theorem orderTopos_any (gv v : Value) (w : World) (es : List (SlV × Int)) (g : List Nd) (l : List Int) (hG : Gr w gv es g) (h : Sl eInt 1 w v l) :
    Calls Try.prog 12 #[gv, v] w fun e w' => e = .returned (.bool true) ∧ Below w.heap.size w w' := by
  have hlen := h.run_len (P := Try.prog) Try.underlying23
  have HW := Lib.hid oworks_any
  by_cases hbig : 200 < l.length
  · have d0 : decide ((200 : Int) < (l.length : Int)) = true := by simp; omega
    clear hbig
    go_enter Try.func12, Try.ntmps12
    go_wp2_with fail
    refine (HW.out w).mono ?_
    rintro e w1 ⟨rfl, hb1⟩
    have HB1 := Lib.hid hb1
    clear hb1
    go_wp2_with fail
    go_ret
    exact ⟨rfl, HB1.out⟩
  · have d0 : decide ((200 : Int) < (l.length : Int)) = false := by simp; omega
    clear hbig
    by_cases h0 : Dag.nodes g l = 0
    · obtain ⟨hg, hl⟩ := nodes_zero h0
      have HG := Lib.hid hg
      have HL := Lib.hid hl
      have HZ := Lib.hid h0
      clear h0 hl
      go_enter Try.func12, Try.ntmps12
      go_wp2_with fail
      refine (topo_ok gv v w es g l HG.out HL.out hG h).mono ?_
      rintro e w1 ⟨v1, rfl, ho, hb1⟩
      have HO1 := Lib.hid (ho.sl len_eInt)
      have HB1 := Lib.hid hb1
      clear ho hb1
      go_wp2_with fail
      refine (asked_any gv v w1 es g l 0 HZ.out (hG.ext HB1.out) (h.ext HB1.out)).mono ?_
      rintro e w2 ⟨rfl, hb2⟩
      have HB2 := Lib.hid hb2
      have HB12 := Lib.hid (bel_then HB1.out HB2.out)
      clear hb2
      go_wp2_with fail
      refine (rtopo_any gv v w2 es g l HG.out HL.out (hG.ext HB12.out) (h.ext HB12.out)).mono ?_
      rintro e w4 ⟨v3, rfl, ho, hb4⟩
      have HO3 := Lib.hid (ho.sl len_eInt)
      have HB24 := Lib.hid hb4
      have HB14 := Lib.hid (bel_then HB12.out hb4)
      clear ho hb4
      have HS := Lib.hid (same_b v1 v3 _ _ true (by simp [topoO]) w4 (HO1.out.ext (bel_then HB2.out HB24.out)) HO3.out)
      go_wp2_with fail
      refine HS.out.mono ?_
      rintro e w5 ⟨rfl, hb5⟩
      have HB5 := Lib.hid (bel_then HB14.out hb5)
      clear hb5
      go_wp2_with fail
      refine (HW.out w5).mono ?_
      rintro e w6 ⟨rfl, hb6⟩
      have HB6 := Lib.hid (bel_then HB5.out hb6)
      clear hb6
      go_wp2_with fail
      go_ret
      exact ⟨rfl, HB6.out⟩
    · obtain ⟨c, hc⟩ : ∃ c, Dag.nodes g l = c := ⟨_, rfl⟩
      rw [hc] at h0
      have HZ := Lib.hid hc
      have HN := Lib.hid h0
      have hn := nat_ne h0
      have hn2 : (c != 0) = true := by simp [h0]
      clear h0 hc
      go_enter Try.func12, Try.ntmps12
      go_wp2_with fail
      refine (topo_bad gv v w es g l c HZ.out HN.out hG h).mono ?_
      rintro e w1 ⟨rfl, hb1⟩
      have HB1 := Lib.hid hb1
      clear hb1
      go_wp2_with fail
      refine (asked_any gv v w1 es g l c HZ.out (hG.ext HB1.out) (h.ext HB1.out)).mono ?_
      rintro e w2 ⟨rfl, hb2⟩
      have HB2 := Lib.hid (bel_then HB1.out hb2)
      clear hb2
      go_wp2_with fail
      refine (HW.out w2).mono ?_
      rintro e w3 ⟨rfl, hb3⟩
      have HB3 := Lib.hid (bel_then HB2.out hb3)
      clear hb3
      go_wp2_with fail
      go_ret
      exact ⟨rfl, HB3.out⟩
end Go.Proofs.Ytcpmnocknpalfaa
namespace Go.Proofs.Ytcpmnocknpalfaa
open Go.RowKit Go.Sl
set_option linter.unusedVariables false

theorem flat_int (l : List Int) : l.flatMap eInt = l.map (Value.int .i64) := by
  induction l with
  | nil => rfl
  | cons x l ih => rw [List.flatMap_cons, ih]; rfl
theorem own_of_row {base : Nat} {w : World} {v : Value} {n : Nat} {l : List Int} (h : w.ownsRow base 3 1 v n (l.map (Value.int .i64))) (hn : n = l.length) : Sl.Own eInt 1 base 3 w v l := by
  unfold Sl.Own; rw [flat_int, ← hn]; exact h

set_option maxRecDepth 100000 in
set_option maxHeartbeats 1000000 in
theorem once_any (v : Value) (w : World) (l : List Int) (h : Sl eInt 1 w v l) (hl : l.length ≤ 1000) :
    Calls Try.prog 96 #[v] w fun e w' => ∃ v', e = .returned v' ∧ Sl.Own eInt 1 w.heap.size 3 w' v' (Ord.onceL l) ∧ Below w.heap.size w w' := by
  by_cases h0 : l = []
  · subst h0
    obtain ⟨ao, cap, rfl, -, -, hn0, -⟩ := h.shp
    rw [show ([] : List Int).length = 0 from rfl]
    have HO : Hid (Ord.onceL [] = []) := Lib.hid (List.length_eq_zero_iff.1 (Nat.le_zero.1 (Ord.onceL_spec []).2.2))
    cases ao with
    | none =>
      obtain rfl := hn0 rfl
      go_enter Try.func96, Try.ntmps96
      go_wp2_with fail
      refine (Try.slices_Clone_int_nil 0 0 w).mono ?_
      rintro e w1 ⟨rfl, rfl⟩
      go_wp2_with fail
      refine (Try.slices_Sort_int_none none 0 w1).mono ?_
      rintro e w2 ⟨rfl, rfl⟩
      go_wp2_with fail
      refine (Try.slices_Compact_int_empty none 0 w2).mono ?_
      rintro e w3 ⟨rfl, rfl⟩
      go_wp2_with fail
      go_ret
      exact ⟨_, rfl, by rw [HO.out]; exact Sl.Own.nil _ _ _ _ _, Below.refl _ _⟩
    | some a =>
      go_enter Try.func96, Try.ntmps96
      go_wp2_with fail
      refine (Try.slices_Clone_int_zero a cap w).mono ?_
      rintro e w1 ⟨v1, rfl, ho, hne, hb⟩
      rcases ho.2 with ⟨e1, _⟩ | ⟨g, cap1, cur, rfl, hg⟩
      · exact absurd e1 hne
      · have HW := Lib.hid ho
        have HB := Lib.hid hb
        clear ho hb hg hne
        go_wp2_with fail
        refine (Try.slices_Sort_int_none _ _ w1).mono ?_
        rintro e w2 ⟨rfl, rfl⟩
        go_wp2_with fail
        refine (Try.slices_Compact_int_empty _ _ w2).mono ?_
        rintro e w3 ⟨rfl, rfl⟩
        go_wp2_with fail
        go_ret
        exact ⟨_, rfl, by rw [HO.out]; exact own_of_row HW.out rfl, HB.out⟩
  · obtain ⟨ao, cap, rfl, hlc, hm, hn0, hc⟩ := h.shp
    obtain ⟨b, off, rfl, hb1, hb2⟩ := hc.resolve_left h0
    have hcells : ∀ j, j < l.length → w.cell? ⟨b, off + j, none⟩ = some (.int .i64 (l.getD j 0)) := fun j hj => by
      have := hb2 j hj 0 (by omega)
      rw [show off + j * 1 + 0 = off + j by omega] at this
      rw [this]
      simp [eInt, List.getD_eq_getElem?_getD, hj]
    have HC := Lib.hid (Try.slices_Clone_int b off l.length cap l w (Nat.le_refl _) (by omega) hcells)
    have H0 := Lib.hid h0
    clear hcells hb2 h0 hc h hn0
    go_enter Try.func96, Try.ntmps96
    go_wp2_with fail
    refine HC.out.mono ?_
    rintro e w1 ⟨v1, rfl, ho, hne, hb⟩
    rcases ho.2 with ⟨e1, _⟩ | ⟨g, cap1, cur, rfl, hg, hblk, hcl, hcm, hsz, htk⟩
    · exact absurd e1 hne
    rw [Nat.mul_one, List.take_length] at htk
    have HB := Lib.hid hb
    have hg1 := (Array.getElem?_eq_some_iff.1 hblk).1
    have HS := Lib.hid (Try.slices_Sort_int g 0 cap1 l w1 (holds_of_blockI hblk htk) hg1 (by omega))
    have hml : (l.mergeSort fun x y => decide (x ≤ y)).length = l.length := (List.mergeSort_perm _ _).length_eq
    obtain ⟨m, hmS⟩ : ∃ m, m = l.mergeSort fun x y => decide (x ≤ y) := ⟨_, rfl⟩
    rw [← hmS] at HS hml
    have HM : Hid (Ord.onceL l = Lib.compact m) := Lib.hid (by rw [hmS]; rfl)
    have HBlk := Lib.hid hblk
    have HSz := Lib.hid hsz
    have HHg := Lib.hid hg
    have HCl := Lib.hid hcl
    have HCm := Lib.hid hcm
    have HMl := Lib.hid hml
    clear ho hb hne HC hblk htk hsz hmS hml hg hcl hcm
    go_wp2_with fail
    refine HS.out.mono ?_
    rintro e w2 ⟨rfl, n, os, hw2⟩
    have hblk2 := heap_sortedI (n := n) (os := os) (m.toArray) HBlk.out
    rw [← hw2] at hblk2
    have hgr2 := grownBy_sortedI (w := w1) (g := g) (n := n) (os := os) m.toArray
    rw [← hw2] at hgr2
    have hput := take_putCellsI cur m (by rw [HMl.out, HSz.out, Nat.mul_one]; exact HCl.out)
    have HCo := Lib.hid (Try.slices_Compact_int g 0 cap1 m w2 (holds_of_blockI hblk2 hput) (by rw [HMl.out]; omega) (by rw [HMl.out]; exact HCl.out))
    rw [HMl.out] at HCo
    have HB2 : Hid (Below w.heap.size w w2) := Lib.hid (HB.out.grown hgr2 HB.out.size (fun k e => by cases e; exact HHg.out))
    have HBlk2 := Lib.hid hblk2
    have hcle : (Lib.compact m).length ≤ l.length := by rw [← HMl.out]; exact Lib.compact_length_le m
    clear hw2 hblk2 hgr2 hput HS
    go_wp2_with fail
    refine HCo.out.mono ?_
    rintro e w3 ⟨rfl, q, hw3⟩
    have hblk3 := heap_sortedI (n := q) (os := #[]) (Lib.compact m ++ List.replicate (l.length - (Lib.compact m).length) 0).toArray HBlk2.out
    have hgr3 := grownBy_sortedI (w := w2) (g := g) (n := q) (os := #[]) (Lib.compact m ++ List.replicate (l.length - (Lib.compact m).length) 0).toArray
    rw [Go.Sort.grow_empty, ← hw3] at hblk3 hgr3
    have HB3 : Hid (Below w.heap.size w w3) := Lib.hid (HB2.out.grown hgr3 HB2.out.size (fun k e => by cases e; exact HHg.out))
    have hcs : (Go.Sort.putCells (Value.int .i64) 0 m.toArray cur).size = cap1 * 1 := by rw [← HSz.out]; simp [Go.Sort.putCells]
    have hput3 := take_putCellsI (Go.Sort.putCells (Value.int .i64) 0 m.toArray cur) (Lib.compact m ++ List.replicate (l.length - (Lib.compact m).length) 0) (by rw [hcs, Nat.mul_one, List.length_append, List.length_replicate]; have := HCl.out; omega)
    have HO : Hid (Sl.Own eInt 1 w.heap.size 3 w3 (.slice (some ⟨g, 0, none⟩) (Lib.compact m).length cap1) (Lib.compact m)) := Lib.hid (own_of_row ⟨by simp, .inr ⟨g, cap1, _, rfl, HHg.out, hblk3, by have := HCl.out; omega, HCm.out, by rw [← hcs]; simp [Go.Sort.putCells], by
      have e1 := congrArg (fun x => List.take (Lib.compact m).length x) hput3
      simp only [List.take_take, List.length_append] at e1
      rw [Nat.min_eq_left (by omega)] at e1
      rw [Nat.mul_one, e1, List.map_append, List.take_append_of_le_length (by simp)]
      rw [List.take_of_length_le (by simp)]⟩⟩ rfl)
    clear hw3 hblk3 hgr3 hcs hput3
    go_wp2_with fail
    go_ret
    exact ⟨_, rfl, by rw [HM.out]; exact HO.out, HB3.out⟩

noncomputable def plainL (g : List Nd) (l : List Int) : List Int := Ord.seqL id (Ord.key (g.map (·.2))) g.length g.length (Ord.inB l)
theorem once_in {g : List Nd} {l : List Int} (hl : Dag.inN g.length l) : Dag.inN g.length (Ord.onceL l) := fun x hx => hl x ((Ord.onceL_spec l).2.1 x |>.1 hx)
theorem once_inB {l : List Int} (hl : ∀ x ∈ l, 0 ≤ x) (x : Nat) : decide ((x : Int) ∈ Ord.onceL l) = Ord.inB l x := by
  rw [Bool.eq_iff_iff, decide_eq_true_iff, (Ord.onceL_spec l).2.1, Ord.inB_iff]
  constructor
  · intro h; exact List.mem_map.2 ⟨_, h, by simp⟩
  · intro h
    obtain ⟨y, hy, e⟩ := List.mem_map.1 h
    have := hl y hy
    obtain rfl : y = (x : Int) := by omega
    exact hy
theorem take_nd' {F : List Int} (h : F.Nodup) {k : Nat} (hk : k < F.length) : F[k] ∉ F.take k := by
  intro hm
  obtain ⟨i, hi, e⟩ := List.mem_iff_getElem.1 hm
  rw [List.length_take] at hi
  rw [List.getElem_take] at e
  exact absurd ((List.getElem_inj h).1 e) (by omega)

set_option maxRecDepth 100000 in
set_option maxHeartbeats 2000000 in
theorem plain_ok (gv v : Value) (w : World) (es : List (SlV × Int)) (g : List Nd) (l : List Int) (hg : Dag.okG g) (hl : Dag.inN g.length l) (hn : l.length ≤ 1000) (hG : Gr w gv es g) (h : Sl eInt 1 w v l) :
    Calls Try.prog 65 #[gv, v] w fun e w' => ∃ ov, e = .returned (.tuple #[ov, .int .i64 0]) ∧ Sl.Own eInt 1 w.heap.size 3 w' ov (plainL g l) ∧ Below w.heap.size w w' := by
  have HC := Lib.hid (ocheck_any gv v w es g l 0 (Dag.nodes_ok hg hl) hG h)
  have hgl := hg.1
  obtain ⟨F, hF⟩ : ∃ F, Hid (F = Ord.onceL l) := ⟨_, Lib.hid rfl⟩
  have hfl : F.length ≤ 1000 := by rw [hF.out]; have := (Ord.onceL_spec l).2.2; omega
  have HNd : Hid F.Nodup := Lib.hid (by rw [hF.out]; exact (Ord.onceL_spec l).1)
  have HIn : Hid (Dag.inN g.length F) := Lib.hid (by rw [hF.out]; exact once_in hl)
  have HIb : Hid (∀ x : Nat, decide ((x : Int) ∈ F) = Ord.inB l x) := Lib.hid (fun x => by rw [hF.out]; exact once_inB (fun x hx => (hl x hx).1) x)
  obtain ⟨D, hD⟩ : ∃ D, Hid (D = plainL g l) := ⟨_, Lib.hid rfl⟩
  clear hg hl
  go_enter Try.func65, Try.ntmps65
  go_wp2_with fail
  refine HC.out.mono ?_
  rintro e w1 ⟨rfl, hb1⟩
  have HB1 := Lib.hid hb1
  clear hb1
  go_wp2_with fail
  refine (times90 gv w1 hG.outer.isSlice).mono ?_
  rintro e w2 ⟨rfl, hw2⟩
  have hbc : w2.heap[w1.heap.size]? = some (.cells #[gv] 22 (0, 0)) := by rw [hw2]; exact heap_alloc_new _ _
  have HB2 : Hid (Below w.heap.size w w2) := Lib.hid (by rw [hw2]; exact HB1.out.trans ((bel_alloc w1 _).mono HB1.out.size))
  have hbox : w1.heap.size < w2.heap.size := (Array.getElem?_eq_some_iff.1 hbc).1
  have HC0 : Hid (∀ wr, Below w2.heap.size w2 wr → wr.heap[w1.heap.size]? = some (.cells #[gv] 22 (0, 0))) := Lib.hid (fun wr h => (h.block _ hbox).trans hbc)
  have hold := Lib.hid (older104 w2 gv es g w1.heap.size (hG.ext HB2.out))
  have HSl2 := Lib.hid (h.ext HB2.out)
  have hb23 := bel_alloc w2 (.cells #[.slice none 0 0, keyV 104 w1.heap.size] 117)
  have HQ0 : Hid (QS w2.heap.size w2.heap.size (keyV 104 w1.heap.size) (Ord.keyI (g.map (·.2))) g.length (fun _ => false) (.slice none 0 0) [] (w2.alloc (.cells #[.slice none 0 0, keyV 104 w1.heap.size] 117))) := Lib.hid
    ⟨Nat.le_refl _, heap_alloc_new _ _, Sl.Own.nil _ _ _ _ _, Ord.QOk.nil _ _⟩
  have HOn := Lib.hid (once_any v _ l (HSl2.out.ext hb23) hn)
  rw [← hF.out] at HOn
  have HB3 := Lib.hid hb23
  have hs2 := HB2.out.size
  obtain ⟨fv, hfv⟩ : ∃ fv, Hid (keyV 104 w1.heap.size = fv) := ⟨_, Lib.hid rfl⟩
  obtain ⟨bl, hbl⟩ : ∃ bl, Hid (g.map (·.2) = bl) := ⟨_, Lib.hid rfl⟩
  rw [hbl.out] at hold HQ0
  clear hw2 hbc hb23 h
  unfold keyV at *
  go_wp2_with fail
  rw [hfv.out] at hold HQ0 HB3 HOn ⊢
  refine HOn.out.mono ?_
  rintro e w3 ⟨ov, rfl, ho, hb3⟩
  simp only [World.size_alloc] at ho hb3
  have HQ1 : Hid (QS w2.heap.size w2.heap.size fv (Ord.keyI bl) g.length (fun _ => false) (.slice none 0 0) [] w3) := Lib.hid
    ⟨Nat.le_refl _, (hb3.block _ (by omega)).trans HQ0.out.blk, Sl.Own.nil _ _ _ _ _, Ord.QOk.nil _ _⟩
  have HOv := Lib.hid (Sl.Own.mono (base' := w2.heap.size) ho (by omega))
  have HBw : Hid (Below w2.heap.size w2 w3) := Lib.hid (HB3.out.trans (hb3.mono (by omega)))
  clear ho hb3 HOn HQ0 HB3
  have hlen := (HOv.out.sl len_eInt).run_len (P := Try.prog) Try.underlying23
  go_wp2_with fail
  go_loopw [24] (fun i wr => ∃ (k : Nat) (qv : Value) (q : List Int), i = .int .i64 k ∧ k ≤ F.length ∧ Hid (QS w2.heap.size w2.heap.size fv (Ord.keyI bl) g.length (fun x => decide ((x : Int) ∈ F.take k)) qv q wr) ∧ Hid (Sl.Own eInt 1 w2.heap.size 3 wr ov F) ∧ Hid (Apart ov qv) ∧ Hid (Below w2.heap.size w2 wr)) (fun i _ => F.length - (intOf i).toNat)
  case atStart => exact ⟨0, _, [], rfl, by omega, Lib.hid (HQ1.out.congr (fun x _ => by simp)), HOv, Lib.hid (apart_symm (.inl rfl)), HBw⟩
  case round =>
    obtain ⟨k, qv, q, rfl, hk, HQ, HO, HA, HW⟩ := hrel
    by_cases hlt : k < F.length
    · obtain ⟨b2, o2, hb2, hix2, hc2⟩ := (HO.out.sl len_eInt).at (P := Try.prog) Try.underlying23 cells3 some3 hlt
      have e1 := hc2 0 (by omega)
      simp only [eInt, List.getElem?_cons_zero, Nat.add_zero] at e1
      obtain ⟨x, HY⟩ : ∃ x, Hid (F[k] = x) := ⟨_, Lib.hid rfl⟩
      rw [HY.out] at e1
      have hx1 := HIn.out _ (List.getElem_mem hlt)
      rw [HY.out] at hx1
      obtain ⟨y, rfl⟩ : ∃ y : Nat, x = y := ⟨x.toNat, by omega⟩
      have hql := HQ.out.ok.len
      have HP := Lib.hid (put_any w2 w1.heap.size gv 22 (by decide) fv (Ord.keyI bl) g.length hold.out wr (HC0.out _ HW.out) HW.out w2.heap.size qv q (y : Int) (Nat.le_refl _) HQ.out.blk HQ.out.own HQ.out.ok.hp (by omega) HQ.out.ok.inn ⟨by omega, by omega⟩)
      have hf0 : decide ((y : Int) ∈ F.take k) = false := decide_eq_false (by rw [← HY.out]; exact take_nd' HNd.out hlt)
      have HF0 := Lib.hid hf0
      have hyn : y < g.length := by omega
      clear hc2 hf0
      go_wp2_with fail
      refine HP.out.mono ?_
      rintro e w4 ⟨rfl, hQ⟩
      obtain ⟨qv', q', hq2, hmv, -, hb2⟩ := HQ.out.put hyn HF0.out hQ
      have HQ2 : Hid (QS w2.heap.size w2.heap.size fv (Ord.keyI bl) g.length (fun x => decide ((x : Int) ∈ F.take (k + 1))) qv' q' w4) := Lib.hid (hq2.congr (fun x _ => by
        rw [List.take_succ_eq_append_getElem hlt, HY.out]; exact upd_mem))
      have hv := hmv _ _ HO.out HA.out
      have HO2 := Lib.hid hv.1
      have HA2 := Lib.hid hv.2
      have HW2 := Lib.hid (HW.out.trans hb2)
      clear hq2 hmv hb2 hQ HP HQ HO HA HW hv
      go_wp2_with fail
      go_roundw
      case rel => exact ⟨k + 1, qv', q', by go_num, by omega, HQ2, HO2, HA2, HW2⟩
      case measure => simp [intOf]; omega
    · have HQ2 : Hid (QS w2.heap.size w2.heap.size fv (Ord.keyI bl) g.length (Ord.inB l) qv q wr) := Lib.hid (HQ.out.congr (fun x hx => by rw [List.take_of_length_le (by omega)]; exact HIb.out x))
      have HC2 : Hid (Ord.cnt (Ord.inB l) g.length ≤ g.length) := Lib.hid (Ord.cnt_le _ _)
      have HD2 : Hid ([] ++ Ord.seqL id (Ord.key bl) g.length g.length (Ord.inB l) = D) := Lib.hid (by rw [hD.out, ← hbl.out]; rfl)
      clear HQ HO HA
      go_wp2_with fail
      go_loopg [10] (g.length) (fun B ov wr => ∃ (f : Nat → Bool) (v : Value) (q out : List Int), out.length + B ≤ g.length ∧ Hid (Ord.cnt f g.length ≤ B) ∧ Hid (out ++ Ord.seqL id (Ord.key bl) g.length B f = D) ∧
        Hid (QS w2.heap.size w2.heap.size fv (Ord.keyI bl) g.length f v q wr) ∧ Hid (Sl.Own eInt 1 w2.heap.size 3 wr ov out) ∧ Hid (Apart ov v) ∧ Hid (Below w2.heap.size w2 wr))
      case atStart => exact ⟨_, qv, q, [], by simp, HC2, HD2, HQ2, Lib.hid (Sl.Own.nil _ _ _ _ _), Lib.hid (.inl rfl), HW⟩
      case round =>
        clear HW HQ2 HC2 HD2
        obtain ⟨f, v, q, out, hol, HC, HD, HQ, HO, HA, HW⟩ := hrel
        have hszw := HW.out.size
        have HE := Lib.hid (empty98 wr w2.heap.size w2.heap.size v fv q HQ.out.blk HQ.out.own)
        by_cases hq : q = []
        · have HX : Hid (out = D) := Lib.hid (by have := HD.out; subst hq; rwa [Ord.seqL_none HQ.out.ok.none, List.append_nil] at this)
          rw [decide_eq_true hq] at HE
          clear HD hq
          go_wp2_with fail
          refine HE.out.mono ?_
          rintro e w5 ⟨rfl, rfl⟩
          go_wp2_with fail
          go_ret2
          exact ⟨_, rfl, by rw [← hD.out, ← HX.out]; exact Sl.Own.mono HO.out hs2, HB2.out.trans (HW.out.mono hs2)⟩
        · obtain ⟨n, ht1, ht2, ht3, ht4⟩ := HQ.out.ok.top hq
          obtain ⟨B', rfl, hc', hs'⟩ := Ord.seq_go Ord.id_rd ht2 ht3 ht4 HC.out
          have HC2 := Lib.hid hc'
          have HD2 : Hid ((out ++ [(n : Int)]) ++ Ord.seqL id (Ord.key bl) g.length B' (Dag.upd f n false) = D) := Lib.hid (by have := HD.out; rw [hs'] at this; simpa using this)
          have hql := HQ.out.ok.len
          have HT := Lib.hid (take_any w2 w1.heap.size gv 22 (by decide) fv (Ord.keyI bl) g.length hold.out wr (HC0.out _ HW.out) HW.out w2.heap.size v q (Nat.le_refl _) HQ.out.blk HQ.out.own HQ.out.ok.hp (by omega) HQ.out.ok.inn hq)
          rw [ht1] at HT
          rw [decide_eq_false hq] at HE
          have HT1 := Lib.hid ht1
          have Hq := Lib.hid hq
          clear hc' hs' HD HC ht3 ht4 hq ht1
          go_wp2_with fail
          refine HE.out.mono ?_
          rintro e w5 ⟨rfl, rfl⟩
          go_wp2_with fail
          refine HT.out.mono ?_
          rintro e w5 ⟨rfl, hQ⟩
          obtain ⟨v', q', hq2, hmv, -, hb2⟩ := HQ.out.cut Hq.out HT1.out hQ
          have HQ2 := Lib.hid hq2
          have HO2 := Lib.hid (hmv _ _ HO.out HA.out).1
          have HA2 : Hid (Apart u10 v') := Lib.hid (hmv _ _ HO.out HA.out).2
          have HW2 := Lib.hid (HW.out.trans hb2)
          have hsz2 := HW2.out.size
          clear hq2 hmv hb2 hQ HT HE HQ HO HA HW
          go_wp2_with (at_builtin; go_must (refine wpList_append1 rfl (en := eInt) (s := 1) (base := w2.heap.size) (e := 3) _ _ 23 rfl (.int .i64 0) 8 Try.underlying23 info3 rfl (by decide) len_eInt one_eInt u10 _ _ (n : Int) rfl (HO2.out.alloc _) rfl (Sl.fresh len_eInt rfl rfl rfl (by simp [maxLen])) (by simp only [maxLen]; omega) (by omega) (by simp; omega) ?_; intro ov' w6 hown hgr hbel hblk))
          have HO3 := Lib.hid hown
          have HW3 := Lib.hid ((HW2.out.alloc hsz2 (.cells #[.int .i64 (n : Int)] 3)).trans hbel)
          have hmv := (Mv.below (en := eInt) (s := 1) (base := w2.heap.size) (e := 3) (q := u10) (bel_alloc w5 (.cells #[.int .i64 (n : Int)] 3))).trans (Mv.append hgr (by simpa using hblk))
          have hv3 := hmv _ _ HQ2.out.own (apart_symm HA2.out)
          have HQ3 : Hid (QS w2.heap.size w2.heap.size fv (Ord.keyI bl) g.length (Dag.upd f n false) v' q' w6) := Lib.hid ⟨HQ2.out.hb, grown_heap hgr (heap_keep (p := .cells #[.int .i64 (n : Int)] 3) HQ2.out.blk) (HO2.out.ne_elem HQ2.out.blk (by decide)), hv3.1, HQ2.out.ok⟩
          have HA3 := Lib.hid (apart_symm hv3.2)
          clear hown hgr hbel hblk hmv hv3 HQ2 HO2 HA2 HW2
          go_wp2_with fail
          go_roundg B'
          case rel => exact ⟨_, v', q', _, by simp; omega, HC2, HD2, HQ3, HO3, HA3, HW3⟩
          case measure => omega
set_option maxRecDepth 100000 in
theorem plain_bad (gv v : Value) (w : World) (es : List (SlV × Int)) (g : List Nd) (l : List Int) (c : Nat) (hc : Dag.nodes g l = c) (h0 : c ≠ 0) (hG : Gr w gv es g) (h : Sl eInt 1 w v l) :
    Calls Try.prog 65 #[gv, v] w fun e w' => e = .returned (.tuple #[.slice none 0 0, .int .i64 (c : Nat)]) ∧ Below w.heap.size w w' := by
  have HC := Lib.hid (ocheck_any gv v w es g l c hc hG h)
  have hn := nat_ne h0
  clear hc h0
  go_enter Try.func65, Try.ntmps65
  go_wp2_with fail
  refine HC.out.mono ?_
  rintro e w1 ⟨rfl, hb1⟩
  have HB1 := Lib.hid hb1
  clear hb1
  go_wp2_with fail
  go_ret2
  exact ⟨rfl, HB1.out⟩
end Go.Proofs.Ytcpmnocknpalfaa
