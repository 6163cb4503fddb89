/-
  Layer 15, the document's: Date, Plain, Asked. No condition besides what the arguments are.
-/
import Derived.Test.YtcpmnocknpalfaaS1
import Derived.Test.YtcpmnocknpalfaaR4
namespace Go.Ord
open Go.Dag
theorem seqL_end {rd : (Nat → Bool) → Nat → Bool} {k : Nat → Int} {N f : Nat} {left : Nat → Bool} (h : yng (rd left) k N = -1) : seqL rd k N f left = [] := by
  cases f with
  | zero => rfl
  | succ f => show ite _ _ _ = _; rw [h]; simp
theorem seqL_go {rd : (Nat → Bool) → Nat → Bool} {k : Nat → Int} {N f y : Nat} {left : Nat → Bool} (h : yng (rd left) k N = y) (hc : cnt left N ≤ f) (hy : y < N) (hl : left y = true) : ∃ f', f = f' + 1 ∧ cnt (upd left y false) N ≤ f' ∧ seqL rd k N f left = (y : Int) :: seqL rd k N f' (upd left y false) := by
  have h1 := cnt_upd hy hl
  obtain ⟨f', rfl⟩ : ∃ f', f = f' + 1 := ⟨f - 1, by omega⟩
  refine ⟨f', rfl, by omega, ?_⟩
  show ite _ _ _ = _
  rw [h, if_neg (by omega)]; simp
end Go.Ord
namespace Go.Proofs.Ytcpmnocknpalfaa
open Go.RowKit Go.Sl
set_option linter.unusedVariables false

set_option maxRecDepth 100000 in
set_option maxHeartbeats 1000000 in
theorem rdate_any (gv v bv : Value) (w : World) (es : List (SlV × Int)) (g : List Nd) (l bl : List Int) (hg : Dag.okG g) (hl : Dag.inN g.length l) (hbl : bl.length = g.length) (hG : Gr w gv es g) (h : Sl eInt 1 w v l) (hb : Sl eInt 1 w bv bl) :
    Calls Try.prog 60 #[gv, v, bv] w fun e w' => ∃ v, e = .returned v ∧ Own eInt 1 w.heap.size 3 w' v (Ord.seqL (Ord.rdy g) (Ord.key bl) g.length g.length (Ord.inB l)) ∧ Below w.heap.size w w' := by
  have hgl := hg.1
  have HG := Lib.hid hg
  have HIn := in_any gv v w es g l hgl hl hG h
  have HBL := Lib.hid hbl
  obtain ⟨D, hD⟩ : ∃ D, D = Ord.seqL (Ord.rdy g) (Ord.key bl) g.length g.length (Ord.inB l) := ⟨_, rfl⟩
  rw [← hD]
  clear hg hl h hbl
  go_enter Try.func60, Try.ntmps60
  go_wp2_with fail
  refine HIn.mono ?_
  rintro e w1 ⟨rfl, hu, hb1⟩
  have HU := Lib.hid hu
  have HW1 := Lib.hid hb1
  clear hu hb1 HIn
  go_wp2_with fail
  refine (ready_any gv w1 es g HG.out _ _ (Ord.inB l) (hG.ext HW1.out) HU.out).mono ?_
  rintro e w2 ⟨rfl, hr, hb2⟩
  have HR := Lib.hid hr
  have HU2 := Lib.hid (HU.out.ext hb2)
  have HW2 := Lib.hid (HW1.out.trans (hb2.mono HW1.out.size))
  clear hr hb2 HU HW1
  go_wp2_with fail
  refine (youngest_any _ _ g.length _ bv bl w2 (by omega) HBL.out HR.out (hb.ext HW2.out)).mono ?_
  rintro e w3 ⟨rfl, nd, rfl⟩
  have HU3 : Hid (Bl w.heap.size w.heap.size g.length (Ord.inB l) (w2.drewN nd)) := Lib.hid ⟨HU2.out.hb, HU2.out.blk⟩
  have HW3 := Lib.hid (below_drewN HW2.out nd)
  have HC : Hid (Ord.cnt (Ord.inB l) g.length ≤ g.length) := Lib.hid (Ord.cnt_le _ _)
  have HD : Hid ([] ++ Ord.seqL (Ord.rdy g) (Ord.key bl) g.length g.length (Ord.inB l) = D) := Lib.hid hD.symm
  clear hD HU2 HW2 HR
  go_wp2_with fail
  go_loopg [8, 9] (g.length) (fun B ov yv wr => ∃ (left : Nat → Bool) (out : List Int), yv = .int .i64 (Ord.yng (Ord.rdy g left) (Ord.key bl) g.length) ∧ out.length + B ≤ g.length ∧ Hid (Ord.cnt left g.length ≤ B) ∧ Hid (out ++ Ord.seqL (Ord.rdy g) (Ord.key bl) g.length B left = D) ∧
    Hid (Bl w.heap.size w.heap.size g.length left wr) ∧ Hid (Own eInt 1 w.heap.size 3 wr ov out) ∧ Hid (Below w.heap.size w wr))
  case atStart => exact ⟨_, [], rfl, by simp, HC, HD, HU3, Lib.hid (Own.nil _ _ _ _ _), HW3⟩
  case round =>
    obtain ⟨left, out, rfl, hol, HC, HD, HB, HO, HW⟩ := hrel
    rcases Ord.yng_spec (Ord.rdy g left) (Ord.key bl) g.length with ⟨h1, _⟩ | ⟨y, h1, h2, h3, _⟩
    · have HE : Hid (out = D) := Lib.hid (by have := HD.out; rwa [Ord.seqL_end h1, List.append_nil] at this)
      rw [h1]
      go_wp2_with fail
      go_ret
      exact ⟨_, rfl, by rw [← HE.out]; exact HO.out, HW.out⟩
    · obtain ⟨B', rfl, h4, h5⟩ := Ord.seqL_go h1 HC.out h2 (Ord.rdy_iff.1 h3).1
      have HC2 := Lib.hid h4
      have HD2 : Hid ((out ++ [(y : Int)]) ++ Ord.seqL (Ord.rdy g) (Ord.key bl) g.length B' (Dag.upd left y false) = D) := Lib.hid (by have := HD.out; rw [h5] at this; simpa using this)
      rw [h1]
      have hsz := HW.out.size
      obtain ⟨c1, c2, c3⟩ := HB.out.cell h2
      clear h1 h3 h4 h5 HD
      go_wp2_with (at_builtin; go_must (refine wpList_append1 rfl (en := eInt) (s := 1) (base := w.heap.size) (e := 3) _ _ 23 rfl (.int .i64 0) 8 Try.underlying23 info3 rfl (by decide) len_eInt one_eInt _ _ _ (y : Int) rfl (HO.out.alloc _) rfl (Sl.fresh len_eInt rfl rfl rfl (by simp [maxLen])) (by simp only [maxLen]; omega) (by omega) (by simp; omega) ?_; intro ov' w6 hown hgr hbel hblk; have HO2 := Lib.hid hown; have HW2 := Lib.hid ((HW.out.alloc HW.out.size _).trans hbel); have hB2 := grown_heap hgr (heap_keep (p := .cells #[.int .i64 (y : Int)] 3) HB.out.blk) (HO.out.ne_elem HB.out.blk (by decide)); have HB2 : Hid (Bl w.heap.size w.heap.size g.length left w6) := Lib.hid ⟨HB.out.hb, hB2⟩; clear hown hgr hbel hblk hB2 c1 c2 c3; obtain ⟨c1, c2, c3⟩ := HB2.out.cell h2))
      have HB3 := Lib.hid (HB2.out.set y false)
      have HO3 := Lib.hid (Own.bl HO2.out HB2.out y (.bool false))
      have HW3 : Hid (Below w.heap.size w (w6.setCell ⟨w.heap.size, y, none⟩ (.bool false))) := Lib.hid (HW2.out.setCell (p := ⟨w.heap.size, y, none⟩) (Nat.le_refl _) _)
      obtain ⟨w7, hw7⟩ : ∃ w7, w7 = w6.setCell ⟨w.heap.size, y, none⟩ (.bool false) := ⟨_, rfl⟩
      rw [← hw7] at HB3 HO3 HW3 ⊢
      clear hw7 HB2 HO2 HW2 HB HO HW
      have hsz7 := HW3.out.size
      refine (ready_any gv w7 es g HG.out _ _ _ (hG.ext HW3.out) HB3.out).mono ?_
      rintro e w8 ⟨rfl, hr, hb2⟩
      have HR := Lib.hid hr
      have HB4 := Lib.hid (HB3.out.ext hb2)
      have HO4 := Lib.hid (HO3.out.ext hb2)
      have HW4 := Lib.hid (HW3.out.trans (hb2.mono hsz7))
      clear hr hb2 HB3 HO3 HW3
      go_wp2_with fail
      refine (youngest_any _ _ g.length _ bv bl w8 (by omega) HBL.out HR.out (hb.ext HW4.out)).mono ?_
      rintro e w9 ⟨rfl, nd, rfl⟩
      go_wp2_with fail
      go_roundg B'
      case rel => exact ⟨_, _, rfl, by simp; omega, HC2, HD2, Lib.hid ⟨HB4.out.hb, HB4.out.blk⟩, Lib.hid (HO4.out), Lib.hid (below_drewN HW4.out nd)⟩
      case measure => omega
end Go.Proofs.Ytcpmnocknpalfaa
