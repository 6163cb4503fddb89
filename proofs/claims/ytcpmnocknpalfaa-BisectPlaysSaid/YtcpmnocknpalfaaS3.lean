/-
  Layer 15, the document's: Plain, Asked. No condition besides what the arguments are.
-/
import Derived.Test.YtcpmnocknpalfaaS2
import Derived.Test.YtcpmnocknpalfaaR5
namespace Go.Proofs.Ytcpmnocknpalfaa
open Go.RowKit Go.Sl
set_option linter.unusedVariables false

set_option maxRecDepth 100000 in
set_option maxHeartbeats 1000000 in
theorem rplain_any (gv v : Value) (w : World) (es : List (SlV × Int)) (g : List Nd) (l : List Int) (hg : Dag.okG g) (hl : Dag.inN g.length l) (hG : Gr w gv es g) (h : Sl eInt 1 w v l) :
    Calls Try.prog 66 #[gv, v] w fun e w' => ∃ v, e = .returned v ∧ Own eInt 1 w.heap.size 3 w' v (Ord.seqL (id) (Ord.key (g.map (·.2))) g.length g.length (Ord.inB l)) ∧ Below w.heap.size w w' := by
  have hgl := hg.1
  have HG := Lib.hid hg
  have HIn := in_any gv v w es g l hgl hl hG h
  obtain ⟨D, hD⟩ : ∃ D, D = Ord.seqL (id) (Ord.key (g.map (·.2))) g.length g.length (Ord.inB l) := ⟨_, rfl⟩
  rw [← hD]
  clear hg hl h
  go_enter Try.func66, Try.ntmps66
  go_wp2_with fail
  refine HIn.mono ?_
  rintro e w1 ⟨rfl, hu, hb1⟩
  have HU := Lib.hid hu
  have HW1 := Lib.hid hb1
  clear hu hb1 HIn
  go_wp2_with fail
  refine (times_any gv w1 es g hgl (hG.ext HW1.out)).mono ?_
  rintro e w2 ⟨bv, rfl, hr, hb2⟩
  have hsz1 := HW1.out.size
  obtain ⟨tb, HT⟩ : ∃ tb, Hid (Own eInt 1 tb 3 w2 bv (g.map (·.2))) := ⟨_, Lib.hid hr⟩
  have HU2 := Lib.hid (HU.out.ext hb2)
  have HW2 := Lib.hid (HW1.out.trans (hb2.mono HW1.out.size))
  have HB2lt : Hid (∀ k, bv.ownBlock = some k → k < w2.heap.size) := Lib.hid (fun k hk => (hr.lt k hk).2)
  have hw12 : w.heap.size ≤ w2.heap.size := HW2.out.size
  have hw13 : w.heap.size < w2.heap.size := (Array.getElem?_eq_some_iff.1 HU2.out.blk).1
  clear hr hb2 HU HW1
  go_wp2_with fail
  refine (youngest_any _ _ g.length _ bv _ w2 (by omega) (by simp) HU2.out (HT.out.sl len_eInt)).mono ?_
  rintro e w3 ⟨rfl, nd, rfl⟩
  have HU3 : Hid (Bl w.heap.size w.heap.size g.length (Ord.inB l) (w2.drewN nd)) := Lib.hid ⟨HU2.out.hb, HU2.out.blk⟩
  have HW3 := Lib.hid (below_drewN HW2.out nd)
  have HC : Hid (Ord.cnt (Ord.inB l) g.length ≤ g.length) := Lib.hid (Ord.cnt_le _ _)
  have HD : Hid ([] ++ Ord.seqL (id) (Ord.key (g.map (·.2))) g.length g.length (Ord.inB l) = D) := Lib.hid hD.symm
  have HT3 : Hid (Own eInt 1 tb 3 (w2.drewN nd) bv (g.map (·.2))) := Lib.hid HT.out
  clear hD HU2 HW2 HT
  go_wp2_with fail
  go_loopg [7, 8] (g.length) (fun B ov yv wr => ∃ (left : Nat → Bool) (out : List Int), yv = .int .i64 (Ord.yng (id left) (Ord.key (g.map (·.2))) g.length) ∧ out.length + B ≤ g.length ∧ Hid (Ord.cnt left g.length ≤ B) ∧ Hid (out ++ Ord.seqL (id) (Ord.key (g.map (·.2))) g.length B left = D) ∧
    Hid (Bl w.heap.size w.heap.size g.length left wr) ∧ Hid (Own eInt 1 w2.heap.size 3 wr ov out) ∧ Hid (Own eInt 1 tb 3 wr bv (g.map (·.2))) ∧ w2.heap.size ≤ wr.heap.size ∧ Hid (Below w.heap.size w wr))
  case atStart => exact ⟨_, [], rfl, by simp, HC, HD, HU3, Lib.hid (Own.nil _ _ _ _ _), HT3, Nat.le_refl _, HW3⟩
  case round =>
    obtain ⟨left, out, rfl, hol, HC, HD, HB, HO, HT, hsz2, HW⟩ := hrel
    rcases Ord.yng_spec (id left) (Ord.key (g.map (·.2))) g.length with ⟨h1, _⟩ | ⟨y, h1, h2, h3, _⟩
    · have HE : Hid (out = D) := Lib.hid (by have := HD.out; rwa [Ord.seqL_end h1, List.append_nil] at this)
      rw [h1]
      go_wp2_with fail
      go_ret
      exact ⟨_, rfl, by rw [← HE.out]; exact HO.out.mono hw12, HW.out⟩
    · obtain ⟨B', rfl, h4, h5⟩ := Ord.seqL_go h1 HC.out h2 h3
      have HC2 := Lib.hid h4
      have HD2 : Hid ((out ++ [(y : Int)]) ++ Ord.seqL (id) (Ord.key (g.map (·.2))) g.length B' (Dag.upd left y false) = D) := Lib.hid (by have := HD.out; rw [h5] at this; simpa using this)
      rw [h1]
      have hne : bv.ownBlock = none ∨ bv.ownBlock ≠ u7.ownBlock := by
        cases hbo : bv.ownBlock with
        | none => exact .inl rfl
        | some k => exact .inr (fun e1 => by have h6 := (HO.out.lt k e1.symm).1; have h7 := HB2lt.out k hbo; omega)
      obtain ⟨c1, c2, c3⟩ := HB.out.cell h2
      clear h1 h3 h4 h5 HD
      go_wp2_with (at_builtin; go_must (refine wpList_append1 rfl (en := eInt) (s := 1) (base := w2.heap.size) (e := 3) _ _ 23 rfl (.int .i64 0) 8 Try.underlying23 info3 rfl (by decide) len_eInt one_eInt _ _ _ (y : Int) rfl (HO.out.alloc _) rfl (Sl.fresh len_eInt rfl rfl rfl (by simp [maxLen])) (by simp only [maxLen]; omega) (by omega) (by simp; omega) ?_; intro ov' w6 hown hgr hbel hblk; have HO2 := Lib.hid hown; have HT2 := Lib.hid ((HT.out.alloc (.cells #[.int .i64 (y : Int)] 3)).kept hgr hne); have HW2 := Lib.hid ((HW.out.alloc HW.out.size (.cells #[.int .i64 (y : Int)] 3)).trans (hbel.mono hw12)); have hsz6 : w2.heap.size ≤ w6.heap.size := (Nat.le_trans (by simp; omega) hbel.size); have hB2 := grown_heap hgr (heap_keep (p := .cells #[.int .i64 (y : Int)] 3) HB.out.blk) (HO.out.ne_elem HB.out.blk (by decide)); have HB2 : Hid (Bl w.heap.size w.heap.size g.length left w6) := Lib.hid ⟨HB.out.hb, hB2⟩; clear hown hgr hbel hblk hB2 c1 c2 c3; obtain ⟨c1, c2, c3⟩ := HB2.out.cell h2))
      have HB3 := Lib.hid (HB2.out.set y false)
      have HO3 := Lib.hid (Own.bl HO2.out HB2.out y (.bool false))
      have HT3 := Lib.hid (Own.bl HT2.out HB2.out y (.bool false))
      have HW3 : Hid (Below w.heap.size w (w6.setCell ⟨w.heap.size, y, none⟩ (.bool false))) := Lib.hid (HW2.out.setCell (p := ⟨w.heap.size, y, none⟩) (Nat.le_refl _) _)
      clear HB2 HO2 HW2 HB HO HW HT HT2
      refine (youngest_any _ _ g.length _ bv _ _ (by omega) (by simp) HB3.out (HT3.out.sl len_eInt)).mono ?_
      rintro e w9 ⟨rfl, nd, rfl⟩
      go_wp2_with fail
      go_roundg B'
      case rel => exact ⟨_, _, rfl, by simp; omega, HC2, HD2, Lib.hid ⟨HB3.out.hb, HB3.out.blk⟩, Lib.hid (HO3.out), Lib.hid HT3.out, by simpa using hsz6, Lib.hid (below_drewN HW3.out nd)⟩
      case measure => omega

set_option maxRecDepth 100000 in
set_option maxHeartbeats 1000000 in
theorem asked_any (gv v : Value) (w : World) (es : List (SlV × Int)) (g : List Nd) (l : List Int) (c : Nat) (hc : Dag.nodes g l = c) (hG : Gr w gv es g) (h : Sl eInt 1 w v l) :
    Calls Try.prog 59 #[gv, v] w fun e w' => e = .returned (.int .i64 (c : Nat)) ∧ Below w.heap.size w w' := by
  have HC := rnodes_any gv v w es g l c hc hG h
  clear h hG hc
  go_enter Try.func59, Try.ntmps59
  go_wp2_with fail
  refine HC.mono ?_
  rintro e w1 ⟨rfl, hb⟩
  go_wp2_with fail
  go_ret
  exact ⟨rfl, hb⟩
end Go.Proofs.Ytcpmnocknpalfaa
