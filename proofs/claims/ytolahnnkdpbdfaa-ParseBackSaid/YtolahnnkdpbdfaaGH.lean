/-
  Layer 28: questions as they lie, wherever they come from; the law's turning of a commit. No condition besides what lies where.
  Layer 28: the law turns a commit over to the document's. No condition besides what lies where and that its steps are few.
  Layer 28: the law turns a question over to the document's: what stands meanwhile. No condition besides what lies where.
  Layer 28: the law turns a question over to the document's. No condition besides what lies where and that its parts are few.
  Layer 28: are two commits one? The document's walk. No condition besides what lies where.
-/
import Derived.Test.YtolahnnkdpbdfaaGG
import Derived.Deep.RegionHeld3
namespace Go.Proofs.Ytolahnnkdpbdfaa
open Go.Proofs Go.RowKit Go.Shelf Go.Sl Go.Prs
/-- the items of a question as they lie, whoever made them -/
def ItsS (w : World) : List Ri → List It → Prop
  | [], [] => True
  | r :: rs, x :: xs => Ra w r x ∧ ItsS w rs xs
  | _, _ => False
def IS (w : World) (iv : Value) (its : List It) : Prop := ∃ rs, Sl eRi 6 w iv rs ∧ ItsS w rs its
theorem ItsS.ext {w w' : World} (hb : Below w.heap.size w w') : ∀ {rs : List Ri} {xs : List It}, ItsS w rs xs → ItsS w' rs xs
  | [], [], _ => trivial
  | _ :: _, _ :: _, ⟨h1, h2⟩ => ⟨h1.ext hb, ItsS.ext hb h2⟩
theorem ItsS.len {w : World} : ∀ {rs : List Ri} {xs : List It}, ItsS w rs xs → rs.length = xs.length
  | [], [], _ => rfl
  | _ :: _, _ :: _, ⟨_, h2⟩ => by simp [ItsS.len h2]
theorem ItsS.get {w : World} : ∀ {rs : List Ri} {xs : List It}, ItsS w rs xs → ∀ (k : Nat) (h1 : k < rs.length) (h2 : k < xs.length), Ra w rs[k] xs[k]
  | _ :: _, _ :: _, ⟨h, _⟩, 0, _, _ => h
  | _ :: _, _ :: _, ⟨_, h⟩, k + 1, h1, h2 => ItsS.get h k (by simpa using h1) (by simpa using h2)
theorem IS.ext {w w' : World} {iv : Value} {its : List It} (h : IS w iv its) (hb : Below w.heap.size w w') : IS w' iv its := by
  obtain ⟨rs, h1, h2⟩ := h
  exact ⟨rs, h1.ext hb, h2.ext hb⟩
theorem IS.isSlice {w : World} {iv : Value} {its : List It} (h : IS w iv its) : ∃ a n c, iv = .slice a n c := by
  obtain ⟨rs, h1, _⟩ := h
  exact h1.isSlice
theorem QSt.is {N : Nat} {w : World} {iv : Value} {its : List It} (h : QSt N w iv its) : IS w iv its := by
  obtain ⟨rs, h1, h2⟩ := h
  refine ⟨rs, h1.sl len_eRi, ?_⟩
  clear h1
  induction rs generalizing its with
  | nil => cases its with
    | nil => trivial
    | cons _ _ => exact h2.elim
  | cons r rs ih => cases its with
    | nil => exact h2.elim
    | cons x xs => exact ⟨⟨h2.1.k, h2.1.ab, h2.1.av.sl len_eSt, h2.1.bb, h2.1.bv.sl len_eSt, h2.1.nt⟩, ih h2.2⟩
theorem QD.is {N : Nat} {w : World} {iv : Value} {its : List It} (h : QD N w iv its) : IS w iv its := by
  obtain ⟨rs, h1, h2⟩ := h
  refine ⟨rs, h1.sl len_eRi, ?_⟩
  clear h1
  induction rs generalizing its with
  | nil => cases its with
    | nil => trivial
    | cons _ _ => exact h2.elim
  | cons r rs ih => cases its with
    | nil => exact h2.elim
    | cons x xs => exact ⟨⟨h2.1.k, h2.1.ab, h2.1.av.sl len_eSt, h2.1.bb, h2.1.bv.sl len_eSt, h2.1.nt⟩, ih h2.2⟩
theorem cells103' : Try.prog.cellsOf 103 = 3 := by kernel_rfl
/-- what stands while a commit's steps are turned over -/
structure Rl (w : World) (bs : List UInt8) (st : List St) (k : Nat) (v : Value) (wr : World) : Prop where
  res : wr.heap[w.heap.size + 1]? = some z96
  it : wr.heap[w.heap.size + 2]? = some (.cells #[.string (bstr bs), v] 96 (0, 0))
  own : Own eSt 3 w.heap.size 118 wr v (st.take k)
  bl : Below w.heap.size w wr
  b0 : ∃ sv', wr.heap[w.heap.size]? = some (.cells #[.string (bstr bs), sv'] 81 (0, 0))
end Go.Proofs.Ytolahnnkdpbdfaa

namespace Go.Proofs.Ytolahnnkdpbdfaa
open Go.Proofs Go.RowKit Go.Shelf Go.Sl Go.Prs
section
variable {w : World} {bs : List UInt8} {st : List St} {k : Nat} {v : Value} {wr : World}
theorem Rl.grown4 (h : Rl w bs st k v wr) (o o2 : Obj) {w4 : World} (hgr : ((wr.alloc o).alloc o2).grownBy w4 v.ownBlock) {j : Nat} {c : Array Value} {e : TypeId} (hj : wr.heap[j]? = some (.cells c e (0, 0))) (he : e ≠ 118) : w4.heap[j]? = some (.cells c e (0, 0)) :=
  grown_heap hgr (heap_keep (p := o2) (heap_keep (p := o) hj)) (((h.own.alloc o).alloc o2).ne_elem (heap_keep (heap_keep hj)) he)
theorem Rl.app (h : Rl w bs st k v wr) (hk : k < st.length) (o o2 : Obj) {w4 : World} {v4 : Value} (hown : Own eSt 3 w.heap.size 118 w4 v4 (st.take k ++ [st[k]])) (hgr : ((wr.alloc o).alloc o2).grownBy w4 v.ownBlock) :
    Rl w bs st (k + 1) v4 (w4.setCell ⟨w.heap.size + 2, 1, none⟩ v4) := by
  obtain ⟨sv', hb0⟩ := h.b0
  have r4 := h.grown4 o o2 hgr h.res (by decide)
  have i4 := h.grown4 o o2 hgr h.it (by decide)
  have b4 := h.grown4 o o2 hgr hb0 (by decide)
  have kR : Bk w4 96 (w.heap.size + 2) := ⟨_, i4⟩
  have hbl : Below w.heap.size w w4 := ((h.bl.alloc h.bl.size o).alloc (by have := h.bl.size; simp; omega) o2).grown hgr (by have := h.bl.size; simp; omega) (fun j e => (((h.own.alloc o).alloc o2).lt j e).1)
  refine ⟨heap_set_keep r4 (by simp only []; omega), heap_setCell_same _ _ _ _ _ _ i4, ?_, hbl.setCell (by simp only []; omega) v4, sv', heap_set_keep b4 (by simp only []; omega)⟩
  rw [List.take_succ_eq_append_getElem hk]
  exact Own.set_bk hown kR (by decide) 1 v4
theorem Rl.app4 (h : Rl w bs st k v wr) (o o2 : Obj) {w4 : World} (hgr : ((wr.alloc o).alloc o2).grownBy w4 v.ownBlock) : w4.cell? ⟨w.heap.size + 2, 1, none⟩ = some v ∧ (∀ j, w4.frozen? ⟨w.heap.size + 2, j, none⟩ = false) := by
  have i4 := h.grown4 o o2 hgr h.it (by decide)
  obtain ⟨_, _, a1, _, _⟩ := two_cells i4
  exact ⟨a1, bk_frozen ⟨_, i4⟩⟩
end
theorem Rl.start (w : World) (bs : List UInt8) (st : List St) (sv' : Value) : Rl w bs st 0 (.slice none 0 0) (((w.alloc (.cells #[.string (bstr bs), sv'] 81)).alloc z96).alloc (.cells #[.string (bstr bs), .slice none 0 0] 96)) := by
  have h1 := heap_alloc_new w (.cells #[.string (bstr bs), sv'] 81)
  have h2 := heap_alloc_new (w.alloc (.cells #[.string (bstr bs), sv'] 81)) z96
  have h3 := heap_alloc_new ((w.alloc (.cells #[.string (bstr bs), sv'] 81)).alloc z96) (.cells #[.string (bstr bs), .slice none 0 0] 96)
  rw [show (w.alloc (.cells #[.string (bstr bs), sv'] 81)).heap.size = w.heap.size + 1 by simp] at h2
  rw [show ((w.alloc (.cells #[.string (bstr bs), sv'] 81)).alloc z96).heap.size = w.heap.size + 2 by simp] at h3
  exact ⟨heap_keep h2, h3, Own.nil _ _ _ _ _, (((Below.refl _ w).alloc (Nat.le_refl _) _).alloc (by simp) _).alloc (by simp; omega) _, sv', heap_keep (heap_keep h1)⟩
set_option maxRecDepth 100000 in
set_option maxHeartbeats 1000000 in
theorem lrev_any (bs : List UInt8) (sv : Value) (st : List St) (w : World) (h : Sl eSt 3 w sv st) (hl : st.length ≤ 1000) :
    Calls Try.prog 48 #[.agg #[.string (bstr bs), sv]] w fun e w' => ∃ a n c, e = .returned (.agg #[.string (bstr bs), .slice a n c]) ∧ Own eSt 3 w.heap.size 118 w' (.slice a n c) st ∧ Below w.heap.size w w' := by
  have HS := Lib.hid h
  obtain ⟨ao, cap, rfl, -⟩ := h.shp
  have HI := Lib.hid (Rl.start w bs st (.slice ao st.length cap))
  have HB0 := Lib.hid (show (((w.alloc (.cells #[.string (bstr bs), .slice ao st.length cap] 81)).alloc z96).alloc (.cells #[.string (bstr bs), .slice none 0 0] 96)).heap[w.heap.size]? = some (.cells #[.string (bstr bs), .slice ao st.length cap] 81 (0, 0)) from heap_keep (heap_keep (heap_alloc_new _ _)))
  clear h
  go_enter Try.func48, Try.ntmps48
  go_wp2_with fail
  go_loopw [4] (fun i wr => ∃ (k : Nat) (v : Value), k ≤ st.length ∧ i = .int .i64 k ∧ Hid (Rl w bs st k v wr) ∧ Hid (wr.heap[w.heap.size]? = some (.cells #[.string (bstr bs), .slice ao st.length cap] 81 (0, 0)))) (fun i _ => st.length - (intOf i).toNat)
  case atStart => exact ⟨0, _, by omega, rfl, HI, HB0⟩
  case round =>
    clear HI HB0
    obtain ⟨k, v, hk, rfl, HI, HB0⟩ := hrel
    obtain ⟨va, vn, vc, rfl⟩ := HI.out.own.isSlice
    obtain ⟨_, b0, b1, _, _⟩ := two_cells HB0.out
    obtain ⟨_, a0, a1, _, _⟩ := two_cells HI.out.it
    obtain ⟨_, d0, d1, _, _⟩ := two_cells HI.out.res
    have df := bk_frozen ⟨_, HI.out.res⟩
    have hsz := HI.out.bl.size
    by_cases hlt : k < st.length
    · obtain ⟨b5, o5, h5, hix, hc⟩ := HS.out.at (P := Try.prog) Try.underlying79 cells103 some103 hlt
      have e0 := (HI.out.bl.cell (p := ⟨b5, o5, none⟩) h5).trans (hc 0 (by omega))
      have e1 := (HI.out.bl.cell (p := ⟨b5, o5 + 1, none⟩) h5).trans (hc 1 (by omega))
      have e2 := (HI.out.bl.cell (p := ⟨b5, o5 + 2, none⟩) h5).trans (hc 2 (by omega))
      have a1A : ∀ o : Obj, (wr.alloc o).cell? ⟨w.heap.size + 2, 1, none⟩ = some (.slice va vn vc) := fun o => by rw [World.cell?_alloc_lt _ _ _ (Array.getElem?_eq_some_iff.1 HI.out.it).1]; exact a1
      have HTk := Lib.hid (show st.take k ++ [st[k]] = st.take k ++ [st[k]] from rfl)
      obtain ⟨x, hx⟩ : ∃ x, Hid (st[k] = x) := ⟨_, Lib.hid rfl⟩
      obtain ⟨pre, hpre⟩ : ∃ x, Hid (st.take k = x) := ⟨_, Lib.hid rfl⟩
      have hpl : pre.length ≤ 1000 := by rw [← hpre.out]; simp; omega
      have HO := Lib.hid HI.out.own
      rw [hpre.out] at HO
      simp only [eSt, hx.out, List.getElem?_cons_zero, List.getElem?_cons_succ] at e0 e1 e2
      clear hc HTk
      go_wp2_with (at_builtin; go_must (refine wpList_append rfl (en := eSt) (s := 3) (base := w.heap.size) (e := 118) _ _ _ rfl _ 32 Try.underlying94 info118 rfl (by decide) len_eSt one_eSt _ _ pre [x] (by rfl) ((HO.out.alloc _).alloc _) (by rfl) (Sl.fresh len_eSt (by simp) rfl rfl (by simp [maxLen])) (by simp [maxLen]; omega) (by simp; omega) (by simp; omega) ?_; intro v4 w4 hown4 hgr4 hb4; obtain ⟨wa, wn, wcp, rfl⟩ := hown4.isSlice; have HIA := Lib.hid (HI.out.app hlt _ _ (v4 := .slice wa wn wcp) (by rw [hpre.out, hx.out]; exact hown4) hgr4); have HBA := Lib.hid (HI.out.grown4 _ _ hgr4 HB0.out (by decide)); obtain ⟨n4, f4⟩ := HI.out.app4 _ _ hgr4; clear hown4 hgr4 hb4))
      go_roundw
      case rel => exact ⟨k + 1, _, by omega, by go_num, HIA, Lib.hid (heap_set_keep HBA.out (by simp only []; omega))⟩
      case measure => simp [intOf]; omega
    · obtain rfl : k = st.length := by omega
      have hkN := Lib.hid (show Bk _ 96 (w.heap.size + 1) from ⟨_, HI.out.res⟩)
      have HO := Lib.hid HI.out.own
      rw [List.take_length] at HO
      go_wp2_with fail
      refine bodyPost_ret (v := .agg #[.string (bstr bs), .slice va vn vc]) ?_ rfl ?_
      · simp [results, Try.results48, go_sem, d0, d1]; try rfl
      · exact ⟨va, vn, vc, rfl, Own.set_bk (Own.set_bk HO.out hkN.out (by decide) 0 _) (hkN.out.set _ _ _) (by decide) 1 _, (HI.out.bl.setCell (by simp only []; omega) _).setCell (by simp only []; omega) _⟩
end Go.Proofs.Ytolahnnkdpbdfaa

namespace Go.Proofs.Ytolahnnkdpbdfaa
open Go.Proofs Go.RowKit Go.Shelf Go.Sl Go.Prs
/-- the question, the result's block, the block of what is made -/
structure Pl (w : World) (iv : Value) (q : Qy) (k : Nat) (v : Value) (wr : World) : Prop where
  b0 : wr.heap[w.heap.size]? = some (.cells #[iv, .int .i64 q.mx, .int .i64 q.sk, .int .i64 q.od, .bool q.fi, .bool q.rv] 47 (0, 0))
  res : wr.heap[w.heap.size + 1]? = some z52
  it : wr.heap[w.heap.size + 2]? = some (.cells #[v, .int .i64 q.mx, .int .i64 q.sk, .int .i64 q.od, .bool q.fi, .bool q.rv] 52 (0, 0))
  qs : QD w.heap.size wr v (q.its.take k)
  bl : Below w.heap.size w wr
section
variable {w : World} {iv : Value} {q : Qy} {k : Nat} {v : Value} {wr : World}
theorem Pl.ext (h : Pl w iv q k v wr) {w' : World} (hb : Below wr.heap.size wr w') : Pl w iv q k v w' :=
  ⟨(hb.block _ (Array.getElem?_eq_some_iff.1 h.b0).1).trans h.b0, (hb.block _ (Array.getElem?_eq_some_iff.1 h.res).1).trans h.res, (hb.block _ (Array.getElem?_eq_some_iff.1 h.it).1).trans h.it, h.qs.ext hb, h.bl.trans (hb.mono h.bl.size)⟩
theorem Pl.fact (h : Pl w iv q k v wr) : wr.cell? ⟨w.heap.size, 0, none⟩ = some iv ∧ wr.cell? ⟨w.heap.size + 2, 0, none⟩ = some v ∧ wr.cell? ⟨w.heap.size + 2, 1, none⟩ = some (.int .i64 q.mx) ∧ wr.cell? ⟨w.heap.size + 2, 2, none⟩ = some (.int .i64 q.sk) ∧ wr.cell? ⟨w.heap.size + 2, 3, none⟩ = some (.int .i64 q.od) ∧ wr.cell? ⟨w.heap.size + 2, 4, none⟩ = some (.bool q.fi) ∧ wr.cell? ⟨w.heap.size + 2, 5, none⟩ = some (.bool q.rv) ∧
    wr.cell? ⟨w.heap.size + 1, 0, none⟩ = some (.slice none 0 0) ∧ wr.cell? ⟨w.heap.size + 1, 1, none⟩ = some (.int .i64 0) ∧ wr.cell? ⟨w.heap.size + 1, 2, none⟩ = some (.int .i64 0) ∧ wr.cell? ⟨w.heap.size + 1, 3, none⟩ = some (.int .i64 0) ∧ wr.cell? ⟨w.heap.size + 1, 4, none⟩ = some (.bool false) ∧ wr.cell? ⟨w.heap.size + 1, 5, none⟩ = some (.bool false) ∧
    (∀ o, wr.frozen? ⟨w.heap.size + 1, o, none⟩ = false) ∧ (∀ o, wr.frozen? ⟨w.heap.size + 2, o, none⟩ = false) := by
  obtain ⟨_, b0, _⟩ := six_cells h.b0
  obtain ⟨_, a0, a1, a2, a3, a4, a5⟩ := six_cells h.it
  obtain ⟨_, d0, d1, d2, d3, d4, d5⟩ := six_cells h.res
  exact ⟨b0, a0, a1, a2, a3, a4, a5, d0, d1, d2, d3, d4, d5, bk_frozen ⟨_, h.res⟩, bk_frozen ⟨_, h.it⟩⟩
theorem Pl.start (w : World) (iv : Value) (q : Qy) : Pl w iv q 0 (.slice none 0 0) (((w.alloc (.cells #[iv, .int .i64 q.mx, .int .i64 q.sk, .int .i64 q.od, .bool q.fi, .bool q.rv] 47)).alloc z52).alloc (.cells #[.slice none 0 0, .int .i64 q.mx, .int .i64 q.sk, .int .i64 q.od, .bool q.fi, .bool q.rv] 52)) := by
  have h1 := heap_alloc_new w (.cells #[iv, .int .i64 q.mx, .int .i64 q.sk, .int .i64 q.od, .bool q.fi, .bool q.rv] 47)
  have h2 := heap_alloc_new (w.alloc (.cells #[iv, .int .i64 q.mx, .int .i64 q.sk, .int .i64 q.od, .bool q.fi, .bool q.rv] 47)) z52
  have h3 := heap_alloc_new ((w.alloc (.cells #[iv, .int .i64 q.mx, .int .i64 q.sk, .int .i64 q.od, .bool q.fi, .bool q.rv] 47)).alloc z52) (.cells #[.slice none 0 0, .int .i64 q.mx, .int .i64 q.sk, .int .i64 q.od, .bool q.fi, .bool q.rv] 52)
  rw [show (w.alloc (.cells #[iv, .int .i64 q.mx, .int .i64 q.sk, .int .i64 q.od, .bool q.fi, .bool q.rv] 47)).heap.size = w.heap.size + 1 by simp] at h2
  rw [show ((w.alloc (.cells #[iv, .int .i64 q.mx, .int .i64 q.sk, .int .i64 q.od, .bool q.fi, .bool q.rv] 47)).alloc z52).heap.size = w.heap.size + 2 by simp] at h3
  exact ⟨heap_keep (heap_keep h1), heap_keep h2, h3, QD.nil _ _, (((Below.refl _ w).alloc (Nat.le_refl _) _).alloc (by simp) _).alloc (by simp; omega) _⟩
/-- an item has been put behind the others -/
theorem Pl.app (h : Pl w iv q k v wr) (hk : k < q.its.length) {rs : List Ri} (ho : Own eRi 6 w.heap.size 98 wr v rs) (hs : ItsD w.heap.size wr rs (q.its.take k)) (o2 : Obj) {w4 : World} {v4 : Value} {x0 : Ri}
    (hi : ItOD w.heap.size wr x0 q.its[k]) (hown : Own eRi 6 w.heap.size 98 w4 v4 (rs ++ [x0])) (hgr : (wr.alloc o2).grownBy w4 v.ownBlock) : Pl w iv q (k + 1) v4 (w4.setCell ⟨w.heap.size + 2, 0, none⟩ v4) := by
  have hoa := ho.alloc o2
  have b4 := grown_heap hgr (heap_keep (p := o2) h.b0) (hoa.ne_elem (heap_keep h.b0) (by decide))
  have r4 := grown_heap hgr (heap_keep (p := o2) h.res) (hoa.ne_elem (heap_keep h.res) (by decide))
  have q4 := grown_heap hgr (heap_keep (p := o2) h.it) (hoa.ne_elem (heap_keep h.it) (by decide))
  have kQ : Bk w4 52 (w.heap.size + 2) := ⟨_, q4⟩
  have bl4 : Below w.heap.size w w4 := (h.bl.alloc h.bl.size o2).grown hgr (by have := h.bl.size; simp; omega) (fun j e => (hoa.lt j e).1)
  have hkeep : ∀ v x, Own eSt 3 w.heap.size 118 wr v x → Own eSt 3 w.heap.size 118 (w4.setCell ⟨w.heap.size + 2, 0, none⟩ v4) v x := fun v x hv =>
    Own.set_bk (Own.kept_bk (hv.alloc o2) hgr (Own.row_bk hoa) (by decide)) kQ (by decide) 0 v4
  refine ⟨heap_set_keep b4 (by simp only []; omega), heap_set_keep r4 (by simp only []; omega), heap_setCell_same _ _ _ _ _ _ q4, ⟨rs ++ [x0], Own.set_bk hown kQ (by decide) 0 v4, ?_⟩, bl4.setCell (by simp only []; omega) v4⟩
  rw [List.take_succ_eq_append_getElem hk]
  exact ItsD.snoc ⟨hi.k, hi.ab, hkeep _ _ hi.av, hi.bb, hkeep _ _ hi.bv, hi.nt⟩ (hs.map hkeep)
theorem Pl.app4 (h : Pl w iv q k v wr) {rs : List Ri} (ho : Own eRi 6 w.heap.size 98 wr v rs) (o2 : Obj) {w4 : World} (hgr : (wr.alloc o2).grownBy w4 v.ownBlock) : w4.cell? ⟨w.heap.size + 2, 0, none⟩ = some v ∧ (∀ j, w4.frozen? ⟨w.heap.size + 2, j, none⟩ = false) := by
  have q4 := grown_heap hgr (heap_keep (p := o2) h.it) ((ho.alloc o2).ne_elem (heap_keep h.it) (by decide))
  obtain ⟨_, a0, _⟩ := six_cells q4
  exact ⟨a0, bk_frozen ⟨_, q4⟩⟩
end
theorem own_keep {α : Type} {en : α → List Value} {s N : Nat} {e e' : TypeId} {w w4 : World} {v : Value} {l : List α} (ho : Own en s N e w v l) {o : Obj} (hgr : (w.alloc o).grownBy w4 v.ownBlock) {X : Nat} {c : Array Value} (hx : w.heap[X]? = some (.cells c e' (0, 0))) (hne : e' ≠ e) : w4.heap[X]? = some (.cells c e' (0, 0)) :=
  grown_heap hgr (heap_keep hx) ((ho.alloc o).ne_elem (heap_keep hx) hne)
/-- the box of the item at hand -/
def PS (X : Nat) (c0 c1 c2 c3 c4 c5 : Value) (u : World) : Prop :=
  u.cell? ⟨X, 0, none⟩ = some c0 ∧ u.cell? ⟨X, 1, none⟩ = some c1 ∧ u.cell? ⟨X, 2, none⟩ = some c2 ∧ u.cell? ⟨X, 3, none⟩ = some c3 ∧ u.cell? ⟨X, 4, none⟩ = some c4 ∧ u.cell? ⟨X, 5, none⟩ = some c5
theorem PS.of {X : Nat} {u : World} {c0 c1 c2 c3 c4 c5 : Value} (h : u.heap[X]? = some (.cells #[c0, c1, c2, c3, c4, c5] 83 (0, 0))) : PS X c0 c1 c2 c3 c4 c5 u := by
  obtain ⟨_, a0, a1, a2, a3, a4, a5⟩ := six_cells h
  exact ⟨a0, a1, a2, a3, a4, a5⟩
end Go.Proofs.Ytolahnnkdpbdfaa

namespace Go.Proofs.Ytolahnnkdpbdfaa
open Go.Proofs Go.RowKit Go.Shelf Go.Sl Go.Prs
/-- few steps in each item -/
def Few (its : List It) : Prop := its.length ≤ 1000 ∧ ∀ x ∈ its, x.a.st.length ≤ 1000 ∧ x.b.st.length ≤ 1000
theorem cells83 : Try.prog.cellsOf 83 = 6 := by kernel_rfl
theorem some83 : (Try.prog.info? 83).isSome = true := by kernel_rfl
set_option maxRecDepth 100000 in
set_option maxHeartbeats 8000000 in
theorem plain_any (iv : Value) (q : Qy) (w : World) (h : IS w iv q.its) (hl : Few q.its) :
    Calls Try.prog 26 #[qv iv q] w fun e w' => ∃ iv', e = .returned (qv iv' q) ∧ QD w.heap.size w' iv' q.its ∧ Below w.heap.size w w' := by
  obtain ⟨rs, hsl, hra⟩ := h
  have HL := Lib.hid hl
  have HS := Lib.hid hsl
  have HR := Lib.hid hra
  have hlen : rs.length = q.its.length := hra.len
  have hl1 : q.its.length ≤ 1000 := hl.1
  obtain ⟨ao, cap, rfl, -⟩ := hsl.shp
  rw [hlen] at HS ⊢
  have HI := Lib.hid (Pl.start w (.slice ao q.its.length cap) q)
  have Hlen := Lib.hid hlen
  clear hra hl hlen hsl
  unfold qv
  go_enter Try.func26, Try.ntmps26
  go_wp2_with fail
  go_loopw [4] (fun i wr => ∃ (k : Nat) (v : Value), k ≤ q.its.length ∧ i = .int .i64 k ∧ Hid (Pl w (.slice ao q.its.length cap) q k v wr)) (fun i _ => q.its.length - (intOf i).toNat)
  case atStart => exact ⟨0, _, by omega, rfl, HI⟩
  case round =>
    clear HI
    obtain ⟨k, v, hk, rfl, HI⟩ := hrel
    obtain ⟨va, vn, vc, rfl⟩ := HI.out.qs.isSlice
    obtain ⟨b0, a0, a1, a2, a3, a4, a5, d0, d1, d2, d3, d4, d5, df, af⟩ := HI.out.fact
    have hsz := HI.out.bl.size
    by_cases hlt : k < q.its.length
    · have hk2 : k < rs.length := by rw [Hlen.out]; exact hlt
      obtain ⟨b5, o5, h5, hix, hc⟩ := HS.out.at (P := Try.prog) Try.underlying45 cells83 some83 hk2
      have HRa := Lib.hid (HR.out.get k hk2 hlt)
      obtain ⟨x, hx⟩ : ∃ x, Hid (q.its[k] = x) := ⟨_, Lib.hid rfl⟩
      have HFa := Lib.hid (HL.out.2 x (by rw [← hx.out]; exact List.getElem_mem _))
      rw [hx.out] at HRa
      obtain ⟨r, hr⟩ : ∃ r, rs[k] = r := ⟨_, rfl⟩
      rw [hr] at HRa hc
      clear hr hk2
      obtain ⟨rk, rab, ⟨ga, gn, gc⟩, rbb, ⟨fa, fn, fc⟩, rnt⟩ := r
      obtain rfl : rk = x.k := HRa.out.k
      obtain rfl : rab = x.a.b := HRa.out.ab
      obtain rfl : rbb = x.b.b := HRa.out.bb
      obtain rfl : rnt = x.nt := HRa.out.nt
      have HSa : Hid (Sl eSt 3 w (.slice ga gn gc) x.a.st) := Lib.hid HRa.out.av
      have HSb : Hid (Sl eSt 3 w (.slice fa fn fc) x.b.st) := Lib.hid HRa.out.bv
      have e0 : wr.cell? ⟨b5, o5, none⟩ = some (.int .i64 x.k) := (HI.out.bl.cell (p := ⟨b5, o5, none⟩) h5).trans (hc 0 (by omega))
      have e1 : wr.cell? ⟨b5, o5 + 1, none⟩ = some (.string (bstr x.a.b)) := (HI.out.bl.cell (p := ⟨b5, o5 + 1, none⟩) h5).trans (hc 1 (by omega))
      have e2 : wr.cell? ⟨b5, o5 + 2, none⟩ = some (.slice ga gn gc) := (HI.out.bl.cell (p := ⟨b5, o5 + 2, none⟩) h5).trans (hc 2 (by omega))
      have e3 : wr.cell? ⟨b5, o5 + 3, none⟩ = some (.string (bstr x.b.b)) := (HI.out.bl.cell (p := ⟨b5, o5 + 3, none⟩) h5).trans (hc 3 (by omega))
      have e4 : wr.cell? ⟨b5, o5 + 4, none⟩ = some (.slice fa fn fc) := (HI.out.bl.cell (p := ⟨b5, o5 + 4, none⟩) h5).trans (hc 4 (by omega))
      have e5 : wr.cell? ⟨b5, o5 + 5, none⟩ = some (.bool x.nt) := (HI.out.bl.cell (p := ⟨b5, o5 + 5, none⟩) h5).trans (hc 5 (by omega))
      have HXb := Lib.hid (heap_alloc_new wr (.cells #[.int .i64 x.k, .string (bstr x.a.b), .slice ga gn gc, .string (bstr x.b.b), .slice fa fn fc, .bool x.nt] 83))
      have HBX := Lib.hid ((Below.refl wr.heap.size wr).alloc (Nat.le_refl _) (.cells #[.int .i64 x.k, .string (bstr x.a.b), .slice ga gn gc, .string (bstr x.b.b), .slice fa fn fc, .bool x.nt] 83))
      have hNX : ¬ w.heap.size + 2 = wr.heap.size := by have := (Array.getElem?_eq_some_iff.1 HI.out.it).1; omega
      clear hc HRa
      go_upto_region 6 with fail
      generalize hWX : wr.alloc (.cells #[.int .i64 x.k, .string (bstr x.a.b), .slice ga gn gc, .string (bstr x.b.b), .slice fa fn fc, .bool x.nt] 83) = wX at HXb HBX ⊢
      generalize hXX : wr.heap.size = X at HXb hNX ⊢
      rw [hXX] at hsz
      have HIX := Lib.hid (HI.out.ext HBX.out)
      clear hWX hXX b0 a0 a1 a2 a3 a4 a5 d0 d1 d2 d3 d4 d5 df af e0 e1 e2 e3 e4 e5 hix h5 HI HBX
      have HX0 := Lib.hid (show wX.drew.heap[X]? = some (.cells #[.int .i64 x.k, .string (bstr x.a.b), .slice ga gn gc, .string (bstr x.b.b), .slice fa fn fc, .bool x.nt] 83 (0, 0)) from HXb.out)
      have HI0 := Lib.hid (HIX.out.ext (Below.refl _ _).drew)
      have a0 : wX.drew.cell? ⟨w.heap.size + 2, 0, none⟩ = some (.slice va vn vc) := HI0.out.fact.2.1
      refine wp_region_held_drew (S := PS X (.int .i64 x.k) (.string (bstr x.a.b)) (.slice ga gn gc) (.string (bstr x.b.b)) (.slice fa fn fc) (.bool x.nt)) (by kernel_rfl) (PS.of HX0.out) (fun hHeld => ?_)
      refine wpAnyH_take (i := 0) (oi := { dst := some 29, op := Op.fieldAddr 52 (Operand.tmp 3) 0, type := 0, pos := "law.go:32", after := #[], guard := none }) (v := ?_) rfl (by kernel_rfl) (by kernel_rfl) (by kernel_rfl) (fun _ _ _ h => h) (Or.inl ⟨by rfl, ?_⟩) (by assumption) ?_
      rotate_left
      · intro u hSu; obtain ⟨z0, z1, z2, z3, z4, z5⟩ := hSu; (go_simp <;> with_reducible rfl)
      try simp only [Act.put, List.setIfInBounds_toArray, List.set_cons_zero, List.set_cons_succ]
      refine wpAnyH_take (i := 2) (oi := { dst := some 31, op := Op.fieldAddr 83 (Operand.tmp 5) 0, type := 0, pos := "law.go:32", after := #[], guard := none }) (v := ?_) rfl (by kernel_rfl) (by kernel_rfl) (by kernel_rfl) (fun _ _ _ h => h) (Or.inl ⟨by rfl, ?_⟩) (by assumption) ?_
      rotate_left
      · intro u hSu; obtain ⟨z0, z1, z2, z3, z4, z5⟩ := hSu; (go_simp <;> with_reducible rfl)
      try simp only [Act.put, List.setIfInBounds_toArray, List.set_cons_zero, List.set_cons_succ]
      refine wpAnyH_take (i := 3) (oi := { dst := some 32, op := Op.load 3 (Operand.tmp 31), type := 3, pos := "law.go:32", after := #[{ on := 2, ground := Ground.data }], guard := none }) (v := ?_) rfl (by kernel_rfl) (by kernel_rfl) (by kernel_rfl) (fun _ _ _ h => h) (Or.inl ⟨by rfl, ?_⟩) (by assumption) ?_
      rotate_left
      · intro u hSu; obtain ⟨z0, z1, z2, z3, z4, z5⟩ := hSu; (go_simp <;> with_reducible rfl)
      try simp only [Act.put, List.setIfInBounds_toArray, List.set_cons_zero, List.set_cons_succ]
      refine wpAnyH_take (i := 4) (oi := { dst := some 33, op := Op.fieldAddr 83 (Operand.tmp 5) 1, type := 0, pos := "law.go:32", after := #[], guard := none }) (v := ?_) rfl (by kernel_rfl) (by kernel_rfl) (by kernel_rfl) (fun _ _ _ h => h) (Or.inl ⟨by rfl, ?_⟩) (by assumption) ?_
      rotate_left
      · intro u hSu; obtain ⟨z0, z1, z2, z3, z4, z5⟩ := hSu; (go_simp <;> with_reducible rfl)
      try simp only [Act.put, List.setIfInBounds_toArray, List.set_cons_zero, List.set_cons_succ]
      refine wpAnyH_take (i := 5) (oi := { dst := some 34, op := Op.load 81 (Operand.tmp 33), type := 81, pos := "law.go:32", after := #[{ on := 4, ground := Ground.data }], guard := none }) (v := ?_) rfl (by kernel_rfl) (by kernel_rfl) (by kernel_rfl) (fun _ _ _ h => h) (Or.inl ⟨by rfl, ?_⟩) (by assumption) ?_
      rotate_left
      · intro u hSu; obtain ⟨z0, z1, z2, z3, z4, z5⟩ := hSu; (go_simp <;> with_reducible rfl)
      try simp only [Act.put, List.setIfInBounds_toArray, List.set_cons_zero, List.set_cons_succ]
      refine wpAnyH_take (i := 7) (oi := { dst := some 36, op := Op.fieldAddr 83 (Operand.tmp 5) 2, type := 0, pos := "law.go:32", after := #[], guard := none }) (v := ?_) rfl (by kernel_rfl) (by kernel_rfl) (by kernel_rfl) (fun _ _ _ h => h) (Or.inl ⟨by rfl, ?_⟩) (by assumption) ?_
      rotate_left
      · intro u hSu; obtain ⟨z0, z1, z2, z3, z4, z5⟩ := hSu; (go_simp <;> with_reducible rfl)
      try simp only [Act.put, List.setIfInBounds_toArray, List.set_cons_zero, List.set_cons_succ]
      refine wpAnyH_take (i := 8) (oi := { dst := some 37, op := Op.load 81 (Operand.tmp 36), type := 81, pos := "law.go:32", after := #[{ on := 7, ground := Ground.data }], guard := none }) (v := ?_) rfl (by kernel_rfl) (by kernel_rfl) (by kernel_rfl) (fun _ _ _ h => h) (Or.inl ⟨by rfl, ?_⟩) (by assumption) ?_
      rotate_left
      · intro u hSu; obtain ⟨z0, z1, z2, z3, z4, z5⟩ := hSu; (go_simp <;> with_reducible rfl)
      try simp only [Act.put, List.setIfInBounds_toArray, List.set_cons_zero, List.set_cons_succ]
      refine wpAnyH_take (i := 10) (oi := { dst := some 39, op := Op.fieldAddr 83 (Operand.tmp 5) 3, type := 0, pos := "law.go:32", after := #[], guard := none }) (v := ?_) rfl (by kernel_rfl) (by kernel_rfl) (by kernel_rfl) (fun _ _ _ h => h) (Or.inl ⟨by rfl, ?_⟩) (by assumption) ?_
      rotate_left
      · intro u hSu; obtain ⟨z0, z1, z2, z3, z4, z5⟩ := hSu; (go_simp <;> with_reducible rfl)
      try simp only [Act.put, List.setIfInBounds_toArray, List.set_cons_zero, List.set_cons_succ]
      refine wpAnyH_take (i := 11) (oi := { dst := some 40, op := Op.load 4 (Operand.tmp 39), type := 4, pos := "law.go:32", after := #[{ on := 10, ground := Ground.data }], guard := none }) (v := ?_) rfl (by kernel_rfl) (by kernel_rfl) (by kernel_rfl) (fun _ _ _ h => h) (Or.inl ⟨by rfl, ?_⟩) (by assumption) ?_
      rotate_left
      · intro u hSu; obtain ⟨z0, z1, z2, z3, z4, z5⟩ := hSu; (go_simp <;> with_reducible rfl)
      try simp only [Act.put, List.setIfInBounds_toArray, List.set_cons_zero, List.set_cons_succ]
      refine wpAnyH_ready (rs := [1, 6]) (by kernel_rfl) (by simp) ?_
      refine AllReadyH.cons (o := { dst := some 30, op := Op.load 50 (Operand.tmp 29), type := 50, pos := "law.go:32", after := #[{ on := 0, ground := Ground.data }], guard := none }) rfl (fun K hK => ?_) ?_
      · go_simp
        refine hK.out _ _ hHeld (fun hHeld => ?_)
        clear hK K
        try simp only [Act.put, List.setIfInBounds_toArray, List.set_cons_zero, List.set_cons_succ]
        refine wpAnyH_ready (rs := [6]) (by kernel_rfl) (by simp) ?_
        refine AllReadyH.cons (o := { dst := some 35, op := Op.call { callee := Callee.value (Operand.func 48), args := #[Operand.tmp 34], argTypes := #[81] }, type := 96, pos := "law.go:32", after := #[{ on := 5, ground := Ground.data }], guard := none }) rfl (fun K hK => ?_) AllReadyH.nil
        go_simp
        refine (lrev_any x.a.b (.slice ga gn gc) x.a.st _ (HSa.out.ext HI0.out.bl) HFa.out.1).mono ?_
        rintro e u1 ⟨A1, A2, A3, rfl, hoA, hb⟩
        dsimp only
        have HI1 := Lib.hid (HI0.out.ext hb)
        have HX1 := Lib.hid ((hb.block _ (Array.getElem?_eq_some_iff.1 HX0.out).1).trans HX0.out)
        have HoA : Hid (Own eSt 3 w.heap.size 118 u1 (.slice A1 A2 A3) x.a.st) := Lib.hid (hoA.mono HI0.out.bl.size)
        clear hb hoA a0
        have a0 := HI1.out.fact.2.1
        refine hK.out _ _ (PS.of HX1.out) (fun hHeld => ?_)
        clear hK K
        try simp only [Act.put, List.setIfInBounds_toArray, List.set_cons_zero, List.set_cons_succ]
        refine wpAnyH_ready (rs := [9]) (by kernel_rfl) (by simp) ?_
        refine AllReadyH.cons (o := { dst := some 38, op := Op.call { callee := Callee.value (Operand.func 48), args := #[Operand.tmp 37], argTypes := #[81] }, type := 96, pos := "law.go:32", after := #[{ on := 8, ground := Ground.data }, { on := 6, ground := Ground.chain }], guard := none }) rfl (fun K hK => ?_) AllReadyH.nil
        go_simp
        refine (lrev_any x.b.b (.slice fa fn fc) x.b.st _ (HSb.out.ext HI1.out.bl) HFa.out.2).mono ?_
        rintro e u2 ⟨B1, B2, B3, rfl, hoB, hb⟩
        dsimp only
        have HI2 := Lib.hid (HI1.out.ext hb)
        have HX2 := Lib.hid ((hb.block _ (Array.getElem?_eq_some_iff.1 HX1.out).1).trans HX1.out)
        have HoB : Hid (Own eSt 3 w.heap.size 118 u2 (.slice B1 B2 B3) x.b.st) := Lib.hid (hoB.mono HI1.out.bl.size)
        have HoA' := Lib.hid (HoA.out.ext hb)
        clear HoA
        have HoA := HoA'
        clear HoA'
        clear hb hoB a0
        have a0 := HI2.out.fact.2.1
        refine hK.out _ _ (PS.of HX2.out) (fun hHeld => ?_)
        clear hK K
        try simp only [Act.put, List.setIfInBounds_toArray, List.set_cons_zero, List.set_cons_succ]
        refine wpAnyH_take (i := 12) (oi := { dst := some 41, op := Op.build 98 #[(0, Operand.tmp 32), (1, Operand.tmp 35), (2, Operand.tmp 38), (3, Operand.tmp 40)], type := 98, pos := "law.go:32", after := #[{ on := 3, ground := Ground.data }, { on := 6, ground := Ground.data }, { on := 9, ground := Ground.data }, { on := 11, ground := Ground.data }], guard := none }) (v := ?_) rfl (by kernel_rfl) (by kernel_rfl) (by kernel_rfl) (fun _ _ _ h => h) (Or.inl ⟨by rfl, ?_⟩) (by assumption) ?_
        rotate_left
        · intro u hSu; obtain ⟨z0, z1, z2, z3, z4, z5⟩ := hSu; (go_simp <;> with_reducible rfl)
        try simp only [Act.put, List.setIfInBounds_toArray, List.set_cons_zero, List.set_cons_succ]
        obtain ⟨rs2, HO1, HO2⟩ := HI2.out.qs
        have HOr := Lib.hid HO1
        have HOi := Lib.hid HO2
        have hr2 : rs2.length ≤ 1000 := by rw [HO2.len]; simp; omega
        clear HO1 HO2
        have hzz := HI2.out.bl.size
        refine wpAnyH_ready (rs := [13]) (by kernel_rfl) (by simp) ?_
        refine AllReadyH.cons (o := { dst := some 42, op := Op.buildSlice 50 1 #[(0, Operand.tmp 41)], type := 50, pos := "law.go:32", after := #[{ on := 12, ground := Ground.data }], guard := none }) rfl (fun K hK => ?_) AllReadyH.nil
        go_simp
        refine hK.out _ _ (PS.of (heap_keep HX2.out)) (fun hHeld => ?_)
        clear hK K
        try simp only [Act.put, List.setIfInBounds_toArray, List.set_cons_zero, List.set_cons_succ]
        refine wpAnyH_ready (rs := [14]) (by kernel_rfl) (by simp) ?_
        refine AllReadyH.cons (o := { dst := some 43, op := Op.call { callee := Callee.builtin Builtin.append, args := #[Operand.tmp 30, Operand.tmp 42], argTypes := #[50, 50] }, type := 50, pos := "law.go:32", after := #[{ on := 1, ground := Ground.data }, { on := 13, ground := Ground.data }, { on := 9, ground := Ground.chain }], guard := none }) rfl (fun K hK => ?_) AllReadyH.nil
        refine step_append rfl (en := eRi) (s := 6) (base := w.heap.size) (e := 98) _ _ _ (by rfl) _ 96 Try.underlying50 info98 rfl (by decide) len_eRi one_eRi _ _ rs2 [⟨x.k, x.a.b, (A1, A2, A3), x.b.b, (B1, B2, B3), x.nt⟩] (by rfl) (HOr.out.alloc _) (by rfl) (Sl.fresh len_eRi (by simp) rfl rfl (by simp [maxLen])) (by simp [maxLen]; omega) (by simp; omega) (by simp; omega) ?_
        intro v4 w4 hown4 hgr4 hb4
        obtain ⟨wa, wn, wcp, rfl⟩ := hown4.isSlice
        have HIA := Lib.hid (HI2.out.app hlt HOr.out HOi.out _ (v4 := .slice wa wn wcp) (x0 := ⟨x.k, x.a.b, (A1, A2, A3), x.b.b, (B1, B2, B3), x.nt⟩) (by rw [hx.out]; exact ⟨rfl, rfl, HoA.out, rfl, HoB.out, rfl⟩) hown4 hgr4)
        obtain ⟨n4, f4⟩ := HI2.out.app4 HOr.out _ hgr4
        have HX4 := Lib.hid (own_keep HOr.out hgr4 HX2.out (by decide))
        clear hown4 hgr4 hb4
        refine hK.out _ _ (PS.of HX4.out) (fun hHeld => ?_)
        clear hK K
        try simp only [Act.put, List.setIfInBounds_toArray, List.set_cons_zero, List.set_cons_succ]
        refine wpAnyH_take (i := 15) (oi := { dst := some 44, op := Op.fieldAddr 52 (Operand.tmp 3) 0, type := 0, pos := "law.go:32", after := #[{ on := 0, ground := Ground.phase }, { on := 1, ground := Ground.phase }, { on := 2, ground := Ground.phase }, { on := 3, ground := Ground.phase }, { on := 4, ground := Ground.phase }, { on := 5, ground := Ground.phase }, { on := 6, ground := Ground.phase }, { on := 7, ground := Ground.phase }, { on := 8, ground := Ground.phase }, { on := 9, ground := Ground.phase }, { on := 10, ground := Ground.phase }, { on := 11, ground := Ground.phase }, { on := 12, ground := Ground.phase }, { on := 13, ground := Ground.phase }, { on := 14, ground := Ground.phase }], guard := none }) (v := ?_) rfl (by kernel_rfl) (by kernel_rfl) (by kernel_rfl) (fun _ _ _ h => h) (Or.inl ⟨by rfl, ?_⟩) (by assumption) ?_
        rotate_left
        · intro u hSu; obtain ⟨z0, z1, z2, z3, z4, z5⟩ := hSu; (go_simp <;> with_reducible rfl)
        try simp only [Act.put, List.setIfInBounds_toArray, List.set_cons_zero, List.set_cons_succ]
        refine wpAnyH_ready (rs := [16]) (by kernel_rfl) (by simp) ?_
        refine AllReadyH.cons (o := { dst := none, op := Op.store 50 (Operand.tmp 44) (Operand.tmp 43), type := 0, pos := "law.go:32", after := #[{ on := 15, ground := Ground.data }, { on := 14, ground := Ground.data }, { on := 14, ground := Ground.chain }, { on := 0, ground := Ground.phase }, { on := 1, ground := Ground.phase }, { on := 2, ground := Ground.phase }, { on := 3, ground := Ground.phase }, { on := 4, ground := Ground.phase }, { on := 5, ground := Ground.phase }, { on := 6, ground := Ground.phase }, { on := 7, ground := Ground.phase }, { on := 8, ground := Ground.phase }, { on := 9, ground := Ground.phase }, { on := 10, ground := Ground.phase }, { on := 11, ground := Ground.phase }, { on := 12, ground := Ground.phase }, { on := 13, ground := Ground.phase }, { on := 14, ground := Ground.phase }], guard := none }) rfl (fun K hK => ?_) AllReadyH.nil
        go_simp
        refine hK.out _ _ (PS.of (heap_set_keep HX4.out (fun e => hNX e.symm))) (fun hHeld => ?_)
        clear hK K
        try simp only [Act.put, List.setIfInBounds_toArray, List.set_cons_zero, List.set_cons_succ]
        refine wpAnyH_done (by kernel_rfl) ?_ _
        go_wp2_with fail
        go_roundw
        case rel => exact ⟨k + 1, _, by omega, by go_num, HIA⟩
        case measure => simp [intOf]; omega
      refine AllReadyH.cons (o := { dst := some 35, op := Op.call { callee := Callee.value (Operand.func 48), args := #[Operand.tmp 34], argTypes := #[81] }, type := 96, pos := "law.go:32", after := #[{ on := 5, ground := Ground.data }], guard := none }) rfl (fun K hK => ?_) AllReadyH.nil
      go_simp
      refine (lrev_any x.a.b (.slice ga gn gc) x.a.st _ (HSa.out.ext HI0.out.bl) HFa.out.1).mono ?_
      rintro e u1 ⟨A1, A2, A3, rfl, hoA, hb⟩
      dsimp only
      have HI1 := Lib.hid (HI0.out.ext hb)
      have HX1 := Lib.hid ((hb.block _ (Array.getElem?_eq_some_iff.1 HX0.out).1).trans HX0.out)
      have HoA : Hid (Own eSt 3 w.heap.size 118 u1 (.slice A1 A2 A3) x.a.st) := Lib.hid (hoA.mono HI0.out.bl.size)
      clear hb hoA a0
      have a0 := HI1.out.fact.2.1
      refine hK.out _ _ (PS.of HX1.out) (fun hHeld => ?_)
      clear hK K
      try simp only [Act.put, List.setIfInBounds_toArray, List.set_cons_zero, List.set_cons_succ]
      refine wpAnyH_ready (rs := [1, 9]) (by kernel_rfl) (by simp) ?_
      refine AllReadyH.cons (o := { dst := some 30, op := Op.load 50 (Operand.tmp 29), type := 50, pos := "law.go:32", after := #[{ on := 0, ground := Ground.data }], guard := none }) rfl (fun K hK => ?_) ?_
      · go_simp
        refine hK.out _ _ hHeld (fun hHeld => ?_)
        clear hK K
        try simp only [Act.put, List.setIfInBounds_toArray, List.set_cons_zero, List.set_cons_succ]
        refine wpAnyH_ready (rs := [9]) (by kernel_rfl) (by simp) ?_
        refine AllReadyH.cons (o := { dst := some 38, op := Op.call { callee := Callee.value (Operand.func 48), args := #[Operand.tmp 37], argTypes := #[81] }, type := 96, pos := "law.go:32", after := #[{ on := 8, ground := Ground.data }, { on := 6, ground := Ground.chain }], guard := none }) rfl (fun K hK => ?_) AllReadyH.nil
        go_simp
        refine (lrev_any x.b.b (.slice fa fn fc) x.b.st _ (HSb.out.ext HI1.out.bl) HFa.out.2).mono ?_
        rintro e u2 ⟨B1, B2, B3, rfl, hoB, hb⟩
        dsimp only
        have HI2 := Lib.hid (HI1.out.ext hb)
        have HX2 := Lib.hid ((hb.block _ (Array.getElem?_eq_some_iff.1 HX1.out).1).trans HX1.out)
        have HoB : Hid (Own eSt 3 w.heap.size 118 u2 (.slice B1 B2 B3) x.b.st) := Lib.hid (hoB.mono HI1.out.bl.size)
        have HoA' := Lib.hid (HoA.out.ext hb)
        clear HoA
        have HoA := HoA'
        clear HoA'
        clear hb hoB a0
        have a0 := HI2.out.fact.2.1
        refine hK.out _ _ (PS.of HX2.out) (fun hHeld => ?_)
        clear hK K
        try simp only [Act.put, List.setIfInBounds_toArray, List.set_cons_zero, List.set_cons_succ]
        refine wpAnyH_take (i := 12) (oi := { dst := some 41, op := Op.build 98 #[(0, Operand.tmp 32), (1, Operand.tmp 35), (2, Operand.tmp 38), (3, Operand.tmp 40)], type := 98, pos := "law.go:32", after := #[{ on := 3, ground := Ground.data }, { on := 6, ground := Ground.data }, { on := 9, ground := Ground.data }, { on := 11, ground := Ground.data }], guard := none }) (v := ?_) rfl (by kernel_rfl) (by kernel_rfl) (by kernel_rfl) (fun _ _ _ h => h) (Or.inl ⟨by rfl, ?_⟩) (by assumption) ?_
        rotate_left
        · intro u hSu; obtain ⟨z0, z1, z2, z3, z4, z5⟩ := hSu; (go_simp <;> with_reducible rfl)
        try simp only [Act.put, List.setIfInBounds_toArray, List.set_cons_zero, List.set_cons_succ]
        obtain ⟨rs2, HO1, HO2⟩ := HI2.out.qs
        have HOr := Lib.hid HO1
        have HOi := Lib.hid HO2
        have hr2 : rs2.length ≤ 1000 := by rw [HO2.len]; simp; omega
        clear HO1 HO2
        have hzz := HI2.out.bl.size
        refine wpAnyH_ready (rs := [13]) (by kernel_rfl) (by simp) ?_
        refine AllReadyH.cons (o := { dst := some 42, op := Op.buildSlice 50 1 #[(0, Operand.tmp 41)], type := 50, pos := "law.go:32", after := #[{ on := 12, ground := Ground.data }], guard := none }) rfl (fun K hK => ?_) AllReadyH.nil
        go_simp
        refine hK.out _ _ (PS.of (heap_keep HX2.out)) (fun hHeld => ?_)
        clear hK K
        try simp only [Act.put, List.setIfInBounds_toArray, List.set_cons_zero, List.set_cons_succ]
        refine wpAnyH_ready (rs := [14]) (by kernel_rfl) (by simp) ?_
        refine AllReadyH.cons (o := { dst := some 43, op := Op.call { callee := Callee.builtin Builtin.append, args := #[Operand.tmp 30, Operand.tmp 42], argTypes := #[50, 50] }, type := 50, pos := "law.go:32", after := #[{ on := 1, ground := Ground.data }, { on := 13, ground := Ground.data }, { on := 9, ground := Ground.chain }], guard := none }) rfl (fun K hK => ?_) AllReadyH.nil
        refine step_append rfl (en := eRi) (s := 6) (base := w.heap.size) (e := 98) _ _ _ (by rfl) _ 96 Try.underlying50 info98 rfl (by decide) len_eRi one_eRi _ _ rs2 [⟨x.k, x.a.b, (A1, A2, A3), x.b.b, (B1, B2, B3), x.nt⟩] (by rfl) (HOr.out.alloc _) (by rfl) (Sl.fresh len_eRi (by simp) rfl rfl (by simp [maxLen])) (by simp [maxLen]; omega) (by simp; omega) (by simp; omega) ?_
        intro v4 w4 hown4 hgr4 hb4
        obtain ⟨wa, wn, wcp, rfl⟩ := hown4.isSlice
        have HIA := Lib.hid (HI2.out.app hlt HOr.out HOi.out _ (v4 := .slice wa wn wcp) (x0 := ⟨x.k, x.a.b, (A1, A2, A3), x.b.b, (B1, B2, B3), x.nt⟩) (by rw [hx.out]; exact ⟨rfl, rfl, HoA.out, rfl, HoB.out, rfl⟩) hown4 hgr4)
        obtain ⟨n4, f4⟩ := HI2.out.app4 HOr.out _ hgr4
        have HX4 := Lib.hid (own_keep HOr.out hgr4 HX2.out (by decide))
        clear hown4 hgr4 hb4
        refine hK.out _ _ (PS.of HX4.out) (fun hHeld => ?_)
        clear hK K
        try simp only [Act.put, List.setIfInBounds_toArray, List.set_cons_zero, List.set_cons_succ]
        refine wpAnyH_take (i := 15) (oi := { dst := some 44, op := Op.fieldAddr 52 (Operand.tmp 3) 0, type := 0, pos := "law.go:32", after := #[{ on := 0, ground := Ground.phase }, { on := 1, ground := Ground.phase }, { on := 2, ground := Ground.phase }, { on := 3, ground := Ground.phase }, { on := 4, ground := Ground.phase }, { on := 5, ground := Ground.phase }, { on := 6, ground := Ground.phase }, { on := 7, ground := Ground.phase }, { on := 8, ground := Ground.phase }, { on := 9, ground := Ground.phase }, { on := 10, ground := Ground.phase }, { on := 11, ground := Ground.phase }, { on := 12, ground := Ground.phase }, { on := 13, ground := Ground.phase }, { on := 14, ground := Ground.phase }], guard := none }) (v := ?_) rfl (by kernel_rfl) (by kernel_rfl) (by kernel_rfl) (fun _ _ _ h => h) (Or.inl ⟨by rfl, ?_⟩) (by assumption) ?_
        rotate_left
        · intro u hSu; obtain ⟨z0, z1, z2, z3, z4, z5⟩ := hSu; (go_simp <;> with_reducible rfl)
        try simp only [Act.put, List.setIfInBounds_toArray, List.set_cons_zero, List.set_cons_succ]
        refine wpAnyH_ready (rs := [16]) (by kernel_rfl) (by simp) ?_
        refine AllReadyH.cons (o := { dst := none, op := Op.store 50 (Operand.tmp 44) (Operand.tmp 43), type := 0, pos := "law.go:32", after := #[{ on := 15, ground := Ground.data }, { on := 14, ground := Ground.data }, { on := 14, ground := Ground.chain }, { on := 0, ground := Ground.phase }, { on := 1, ground := Ground.phase }, { on := 2, ground := Ground.phase }, { on := 3, ground := Ground.phase }, { on := 4, ground := Ground.phase }, { on := 5, ground := Ground.phase }, { on := 6, ground := Ground.phase }, { on := 7, ground := Ground.phase }, { on := 8, ground := Ground.phase }, { on := 9, ground := Ground.phase }, { on := 10, ground := Ground.phase }, { on := 11, ground := Ground.phase }, { on := 12, ground := Ground.phase }, { on := 13, ground := Ground.phase }, { on := 14, ground := Ground.phase }], guard := none }) rfl (fun K hK => ?_) AllReadyH.nil
        go_simp
        refine hK.out _ _ (PS.of (heap_set_keep HX4.out (fun e => hNX e.symm))) (fun hHeld => ?_)
        clear hK K
        try simp only [Act.put, List.setIfInBounds_toArray, List.set_cons_zero, List.set_cons_succ]
        refine wpAnyH_done (by kernel_rfl) ?_ _
        go_wp2_with fail
        go_roundw
        case rel => exact ⟨k + 1, _, by omega, by go_num, HIA⟩
        case measure => simp [intOf]; omega
      refine AllReadyH.cons (o := { dst := some 38, op := Op.call { callee := Callee.value (Operand.func 48), args := #[Operand.tmp 37], argTypes := #[81] }, type := 96, pos := "law.go:32", after := #[{ on := 8, ground := Ground.data }, { on := 6, ground := Ground.chain }], guard := none }) rfl (fun K hK => ?_) AllReadyH.nil
      go_simp
      refine (lrev_any x.b.b (.slice fa fn fc) x.b.st _ (HSb.out.ext HI1.out.bl) HFa.out.2).mono ?_
      rintro e u2 ⟨B1, B2, B3, rfl, hoB, hb⟩
      dsimp only
      have HI2 := Lib.hid (HI1.out.ext hb)
      have HX2 := Lib.hid ((hb.block _ (Array.getElem?_eq_some_iff.1 HX1.out).1).trans HX1.out)
      have HoB : Hid (Own eSt 3 w.heap.size 118 u2 (.slice B1 B2 B3) x.b.st) := Lib.hid (hoB.mono HI1.out.bl.size)
      have HoA' := Lib.hid (HoA.out.ext hb)
      clear HoA
      have HoA := HoA'
      clear HoA'
      clear hb hoB a0
      have a0 := HI2.out.fact.2.1
      refine hK.out _ _ (PS.of HX2.out) (fun hHeld => ?_)
      clear hK K
      try simp only [Act.put, List.setIfInBounds_toArray, List.set_cons_zero, List.set_cons_succ]
      refine wpAnyH_take (i := 12) (oi := { dst := some 41, op := Op.build 98 #[(0, Operand.tmp 32), (1, Operand.tmp 35), (2, Operand.tmp 38), (3, Operand.tmp 40)], type := 98, pos := "law.go:32", after := #[{ on := 3, ground := Ground.data }, { on := 6, ground := Ground.data }, { on := 9, ground := Ground.data }, { on := 11, ground := Ground.data }], guard := none }) (v := ?_) rfl (by kernel_rfl) (by kernel_rfl) (by kernel_rfl) (fun _ _ _ h => h) (Or.inl ⟨by rfl, ?_⟩) (by assumption) ?_
      rotate_left
      · intro u hSu; obtain ⟨z0, z1, z2, z3, z4, z5⟩ := hSu; (go_simp <;> with_reducible rfl)
      try simp only [Act.put, List.setIfInBounds_toArray, List.set_cons_zero, List.set_cons_succ]
      obtain ⟨rs2, HO1, HO2⟩ := HI2.out.qs
      have HOr := Lib.hid HO1
      have HOi := Lib.hid HO2
      have hr2 : rs2.length ≤ 1000 := by rw [HO2.len]; simp; omega
      clear HO1 HO2
      have hzz := HI2.out.bl.size
      have a0A := fun o : Obj => (HI2.out.ext ((Below.refl _ _).alloc (Nat.le_refl _) o)).fact.2.1
      refine wpAnyH_ready (rs := [1, 13]) (by kernel_rfl) (by simp) ?_
      refine AllReadyH.cons (o := { dst := some 30, op := Op.load 50 (Operand.tmp 29), type := 50, pos := "law.go:32", after := #[{ on := 0, ground := Ground.data }], guard := none }) rfl (fun K hK => ?_) ?_
      · go_simp
        refine hK.out _ _ hHeld (fun hHeld => ?_)
        clear hK K
        try simp only [Act.put, List.setIfInBounds_toArray, List.set_cons_zero, List.set_cons_succ]
        refine wpAnyH_ready (rs := [13]) (by kernel_rfl) (by simp) ?_
        refine AllReadyH.cons (o := { dst := some 42, op := Op.buildSlice 50 1 #[(0, Operand.tmp 41)], type := 50, pos := "law.go:32", after := #[{ on := 12, ground := Ground.data }], guard := none }) rfl (fun K hK => ?_) AllReadyH.nil
        go_simp
        refine hK.out _ _ (PS.of (heap_keep HX2.out)) (fun hHeld => ?_)
        clear hK K
        try simp only [Act.put, List.setIfInBounds_toArray, List.set_cons_zero, List.set_cons_succ]
        refine wpAnyH_ready (rs := [14]) (by kernel_rfl) (by simp) ?_
        refine AllReadyH.cons (o := { dst := some 43, op := Op.call { callee := Callee.builtin Builtin.append, args := #[Operand.tmp 30, Operand.tmp 42], argTypes := #[50, 50] }, type := 50, pos := "law.go:32", after := #[{ on := 1, ground := Ground.data }, { on := 13, ground := Ground.data }, { on := 9, ground := Ground.chain }], guard := none }) rfl (fun K hK => ?_) AllReadyH.nil
        refine step_append rfl (en := eRi) (s := 6) (base := w.heap.size) (e := 98) _ _ _ (by rfl) _ 96 Try.underlying50 info98 rfl (by decide) len_eRi one_eRi _ _ rs2 [⟨x.k, x.a.b, (A1, A2, A3), x.b.b, (B1, B2, B3), x.nt⟩] (by rfl) (HOr.out.alloc _) (by rfl) (Sl.fresh len_eRi (by simp) rfl rfl (by simp [maxLen])) (by simp [maxLen]; omega) (by simp; omega) (by simp; omega) ?_
        intro v4 w4 hown4 hgr4 hb4
        obtain ⟨wa, wn, wcp, rfl⟩ := hown4.isSlice
        have HIA := Lib.hid (HI2.out.app hlt HOr.out HOi.out _ (v4 := .slice wa wn wcp) (x0 := ⟨x.k, x.a.b, (A1, A2, A3), x.b.b, (B1, B2, B3), x.nt⟩) (by rw [hx.out]; exact ⟨rfl, rfl, HoA.out, rfl, HoB.out, rfl⟩) hown4 hgr4)
        obtain ⟨n4, f4⟩ := HI2.out.app4 HOr.out _ hgr4
        have HX4 := Lib.hid (own_keep HOr.out hgr4 HX2.out (by decide))
        clear hown4 hgr4 hb4
        refine hK.out _ _ (PS.of HX4.out) (fun hHeld => ?_)
        clear hK K
        try simp only [Act.put, List.setIfInBounds_toArray, List.set_cons_zero, List.set_cons_succ]
        refine wpAnyH_take (i := 15) (oi := { dst := some 44, op := Op.fieldAddr 52 (Operand.tmp 3) 0, type := 0, pos := "law.go:32", after := #[{ on := 0, ground := Ground.phase }, { on := 1, ground := Ground.phase }, { on := 2, ground := Ground.phase }, { on := 3, ground := Ground.phase }, { on := 4, ground := Ground.phase }, { on := 5, ground := Ground.phase }, { on := 6, ground := Ground.phase }, { on := 7, ground := Ground.phase }, { on := 8, ground := Ground.phase }, { on := 9, ground := Ground.phase }, { on := 10, ground := Ground.phase }, { on := 11, ground := Ground.phase }, { on := 12, ground := Ground.phase }, { on := 13, ground := Ground.phase }, { on := 14, ground := Ground.phase }], guard := none }) (v := ?_) rfl (by kernel_rfl) (by kernel_rfl) (by kernel_rfl) (fun _ _ _ h => h) (Or.inl ⟨by rfl, ?_⟩) (by assumption) ?_
        rotate_left
        · intro u hSu; obtain ⟨z0, z1, z2, z3, z4, z5⟩ := hSu; (go_simp <;> with_reducible rfl)
        try simp only [Act.put, List.setIfInBounds_toArray, List.set_cons_zero, List.set_cons_succ]
        refine wpAnyH_ready (rs := [16]) (by kernel_rfl) (by simp) ?_
        refine AllReadyH.cons (o := { dst := none, op := Op.store 50 (Operand.tmp 44) (Operand.tmp 43), type := 0, pos := "law.go:32", after := #[{ on := 15, ground := Ground.data }, { on := 14, ground := Ground.data }, { on := 14, ground := Ground.chain }, { on := 0, ground := Ground.phase }, { on := 1, ground := Ground.phase }, { on := 2, ground := Ground.phase }, { on := 3, ground := Ground.phase }, { on := 4, ground := Ground.phase }, { on := 5, ground := Ground.phase }, { on := 6, ground := Ground.phase }, { on := 7, ground := Ground.phase }, { on := 8, ground := Ground.phase }, { on := 9, ground := Ground.phase }, { on := 10, ground := Ground.phase }, { on := 11, ground := Ground.phase }, { on := 12, ground := Ground.phase }, { on := 13, ground := Ground.phase }, { on := 14, ground := Ground.phase }], guard := none }) rfl (fun K hK => ?_) AllReadyH.nil
        go_simp
        refine hK.out _ _ (PS.of (heap_set_keep HX4.out (fun e => hNX e.symm))) (fun hHeld => ?_)
        clear hK K
        try simp only [Act.put, List.setIfInBounds_toArray, List.set_cons_zero, List.set_cons_succ]
        refine wpAnyH_done (by kernel_rfl) ?_ _
        go_wp2_with fail
        go_roundw
        case rel => exact ⟨k + 1, _, by omega, by go_num, HIA⟩
        case measure => simp [intOf]; omega
      refine AllReadyH.cons (o := { dst := some 42, op := Op.buildSlice 50 1 #[(0, Operand.tmp 41)], type := 50, pos := "law.go:32", after := #[{ on := 12, ground := Ground.data }], guard := none }) rfl (fun K hK => ?_) AllReadyH.nil
      go_simp
      refine hK.out _ _ (PS.of (heap_keep HX2.out)) (fun hHeld => ?_)
      clear hK K
      try simp only [Act.put, List.setIfInBounds_toArray, List.set_cons_zero, List.set_cons_succ]
      refine wpAnyH_ready (rs := [1]) (by kernel_rfl) (by simp) ?_
      refine AllReadyH.cons (o := { dst := some 30, op := Op.load 50 (Operand.tmp 29), type := 50, pos := "law.go:32", after := #[{ on := 0, ground := Ground.data }], guard := none }) rfl (fun K hK => ?_) AllReadyH.nil
      go_simp
      refine hK.out _ _ hHeld (fun hHeld => ?_)
      clear hK K
      try simp only [Act.put, List.setIfInBounds_toArray, List.set_cons_zero, List.set_cons_succ]
      refine wpAnyH_ready (rs := [14]) (by kernel_rfl) (by simp) ?_
      refine AllReadyH.cons (o := { dst := some 43, op := Op.call { callee := Callee.builtin Builtin.append, args := #[Operand.tmp 30, Operand.tmp 42], argTypes := #[50, 50] }, type := 50, pos := "law.go:32", after := #[{ on := 1, ground := Ground.data }, { on := 13, ground := Ground.data }, { on := 9, ground := Ground.chain }], guard := none }) rfl (fun K hK => ?_) AllReadyH.nil
      refine step_append rfl (en := eRi) (s := 6) (base := w.heap.size) (e := 98) _ _ _ (by rfl) _ 96 Try.underlying50 info98 rfl (by decide) len_eRi one_eRi _ _ rs2 [⟨x.k, x.a.b, (A1, A2, A3), x.b.b, (B1, B2, B3), x.nt⟩] (by rfl) (HOr.out.alloc _) (by rfl) (Sl.fresh len_eRi (by simp) rfl rfl (by simp [maxLen])) (by simp [maxLen]; omega) (by simp; omega) (by simp; omega) ?_
      intro v4 w4 hown4 hgr4 hb4
      obtain ⟨wa, wn, wcp, rfl⟩ := hown4.isSlice
      have HIA := Lib.hid (HI2.out.app hlt HOr.out HOi.out _ (v4 := .slice wa wn wcp) (x0 := ⟨x.k, x.a.b, (A1, A2, A3), x.b.b, (B1, B2, B3), x.nt⟩) (by rw [hx.out]; exact ⟨rfl, rfl, HoA.out, rfl, HoB.out, rfl⟩) hown4 hgr4)
      obtain ⟨n4, f4⟩ := HI2.out.app4 HOr.out _ hgr4
      have HX4 := Lib.hid (own_keep HOr.out hgr4 HX2.out (by decide))
      clear hown4 hgr4 hb4
      refine hK.out _ _ (PS.of HX4.out) (fun hHeld => ?_)
      clear hK K
      try simp only [Act.put, List.setIfInBounds_toArray, List.set_cons_zero, List.set_cons_succ]
      refine wpAnyH_take (i := 15) (oi := { dst := some 44, op := Op.fieldAddr 52 (Operand.tmp 3) 0, type := 0, pos := "law.go:32", after := #[{ on := 0, ground := Ground.phase }, { on := 1, ground := Ground.phase }, { on := 2, ground := Ground.phase }, { on := 3, ground := Ground.phase }, { on := 4, ground := Ground.phase }, { on := 5, ground := Ground.phase }, { on := 6, ground := Ground.phase }, { on := 7, ground := Ground.phase }, { on := 8, ground := Ground.phase }, { on := 9, ground := Ground.phase }, { on := 10, ground := Ground.phase }, { on := 11, ground := Ground.phase }, { on := 12, ground := Ground.phase }, { on := 13, ground := Ground.phase }, { on := 14, ground := Ground.phase }], guard := none }) (v := ?_) rfl (by kernel_rfl) (by kernel_rfl) (by kernel_rfl) (fun _ _ _ h => h) (Or.inl ⟨by rfl, ?_⟩) (by assumption) ?_
      rotate_left
      · intro u hSu; obtain ⟨z0, z1, z2, z3, z4, z5⟩ := hSu; (go_simp <;> with_reducible rfl)
      try simp only [Act.put, List.setIfInBounds_toArray, List.set_cons_zero, List.set_cons_succ]
      refine wpAnyH_ready (rs := [16]) (by kernel_rfl) (by simp) ?_
      refine AllReadyH.cons (o := { dst := none, op := Op.store 50 (Operand.tmp 44) (Operand.tmp 43), type := 0, pos := "law.go:32", after := #[{ on := 15, ground := Ground.data }, { on := 14, ground := Ground.data }, { on := 14, ground := Ground.chain }, { on := 0, ground := Ground.phase }, { on := 1, ground := Ground.phase }, { on := 2, ground := Ground.phase }, { on := 3, ground := Ground.phase }, { on := 4, ground := Ground.phase }, { on := 5, ground := Ground.phase }, { on := 6, ground := Ground.phase }, { on := 7, ground := Ground.phase }, { on := 8, ground := Ground.phase }, { on := 9, ground := Ground.phase }, { on := 10, ground := Ground.phase }, { on := 11, ground := Ground.phase }, { on := 12, ground := Ground.phase }, { on := 13, ground := Ground.phase }, { on := 14, ground := Ground.phase }], guard := none }) rfl (fun K hK => ?_) AllReadyH.nil
      go_simp
      refine hK.out _ _ (PS.of (heap_set_keep HX4.out (fun e => hNX e.symm))) (fun hHeld => ?_)
      clear hK K
      try simp only [Act.put, List.setIfInBounds_toArray, List.set_cons_zero, List.set_cons_succ]
      refine wpAnyH_done (by kernel_rfl) ?_ _
      go_wp2_with fail
      go_roundw
      case rel => exact ⟨k + 1, _, by omega, by go_num, HIA⟩
      case measure => simp [intOf]; omega
    · obtain rfl : k = q.its.length := by omega
      have hkN := Lib.hid (show Bk _ 52 (w.heap.size + 1) from ⟨_, HI.out.res⟩)
      have HO := Lib.hid HI.out.qs
      rw [List.take_length] at HO
      go_wp2_with fail
      refine bodyPost_ret (v := .agg #[.slice va vn vc, .int .i64 q.mx, .int .i64 q.sk, .int .i64 q.od, .bool q.fi, .bool q.rv]) ?_ rfl ?_
      · simp [results, Try.results26, go_sem, d0, d1, d2, d3, d4, d5]; try rfl
      · exact ⟨_, rfl, (qd_set6 HO.out hkN.out (by omega) HI.out.bl _ _ _ _ _ _).1, (qd_set6 HO.out hkN.out (by omega) HI.out.bl _ _ _ _ _ _).2⟩
end Go.Proofs.Ytolahnnkdpbdfaa

namespace Go.Proofs.Ytolahnnkdpbdfaa
open Go.Proofs Go.RowKit Go.Shelf Go.Sl Go.Prs
def fKd : Field := { name := "Kind", type := 3, offset := 0, embedded := false, tag := "", pkgPath := "", byteOffset := 0 }
def fNn : Field := { name := "N", type := 3, offset := 1, embedded := false, tag := "", pkgPath := "", byteOffset := 8 }
def fWd : Field := { name := "Word", type := 9, offset := 2, embedded := false, tag := "", pkgPath := "", byteOffset := 16 }
theorem fields118 : Try.prog.fieldsOf 118 = #[fKd, fNn, fWd] := by kernel_rfl
theorem stood118 : Try.prog.stoodInHeld 118 = false := by kernel_rfl
theorem und118 : Try.prog.underlying 118 = some (.struct (Try.prog.fieldsOf 118)) := by rw [fields118]; exact Try.underlying118
theorem st_eq (x y : St) : decide (x = y) = (decide (x.k = y.k) && (decide (x.n = y.n) && decide (x.w = y.w))) := by
  cases x; cases y; simp
theorem eqIn118 (u : World) (x y : St) : (Op.equalIn 10000 118 (.agg (eSt x).toArray) (.agg (eSt y).toArray)).run Try.prog u = .ok (decide (x = y)) u := by
  have hp0 : ∀ (r : St) (w : World), (part 3 (eSt r).toArray 0).run Try.prog w = .ok (.int .i64 r.k) w := fun r w => by
    simp [part, isAgg, run_underlying Try.underlying3, eSt]
  have hp1 : ∀ (r : St) (w : World), (part 3 (eSt r).toArray 1).run Try.prog w = .ok (.int .i64 r.n) w := fun r w => by
    simp [part, isAgg, run_underlying Try.underlying3, eSt]
  have hp2 : ∀ (r : St) (w : World), (part 9 (eSt r).toArray 2).run Try.prog w = .ok (.string (bstr r.w)) w := fun r w => by
    simp [part, isAgg, run_underlying Try.underlying9, eSt]
  have hi : ∀ (a b : Int) (w : World), (Op.equalIn 9999 3 (.int .i64 a) (.int .i64 b)).run Try.prog w = .ok (decide (a = b)) w := fun a b w => by
    rw [run_equalIn_int w 9998 3 _ _ _ _ Try.underlying3]
    congr 1
  have hs : ∀ (a b : List UInt8) (w : World), (Op.equalIn 9999 9 (.string (bstr a)) (.string (bstr b))).run Try.prog w = .ok (decide (a = b)) w := fun a b w => by
    rw [run_equalIn_string w 9998 9 _ _ Try.underlying9, bstr_toList, bstr_toList]
    congr 1
    rw [Bool.eq_iff_iff]; simp
  rw [run_equalIn_struct u 9999 118 _ _ und118 stood118, fields118, st_eq]
  have n0 : fKd.name ≠ "_" := by decide
  have n1 : fNn.name ≠ "_" := by decide
  have n2 : fWd.name ≠ "_" := by decide
  have t0 : fKd.type = 3 := rfl
  have t1 : fNn.type = 3 := rfl
  have t2 : fWd.type = 9 := rfl
  have o0 : fKd.offset = 0 := rfl
  have o1 : fNn.offset = 1 := rfl
  have o2 : fWd.offset = 2 := rfl
  simp only [Op.eqFields, n0, n1, n2, ne_eq, not_false_eq_true, if_true, t0, t1, t2, o0, o1, o2, Sem.run_bind, hp0, hp1, hp2, Result.andThen_ok, hi, hs, Sem.run_ite, Sem.run_pure]
  cases decide (x.k = y.k) <;> cases decide (x.n = y.n) <;> cases decide (x.w = y.w) <;> rfl
theorem neq118 (u : World) (x y : St) : (binOp .neq 118 (.agg #[.int .i64 x.k, .int .i64 x.n, .string (bstr x.w)]) (.agg #[.int .i64 y.k, .int .i64 y.n, .string (bstr y.w)])).run Try.prog u = .ok (.bool (!decide (x = y))) u := by
  have h := eqIn118 u x y
  have h2 := run_neq_struct (P := Try.prog) u 118 (eSt x).toArray (eSt y).toArray
  rw [h] at h2
  exact h2
theorem guard118 (x y : Operand) (a b : Array Value) (u : World) : (eqGuard .neq 118 x y (.agg a) (.agg b)).run Try.prog u = .ok () u := run_eqGuard_agg u .neq 118 x y a b (by kernel_rfl)
set_option maxRecDepth 100000 in
set_option maxHeartbeats 1000000 in
theorem sameRev_any (x y : Rv) (v1 v2 : Value) (w : World) (h1 : Sl eSt 3 w v1 x.st) (h2 : Sl eSt 3 w v2 y.st) :
    Calls Try.prog 47 #[.agg #[.string (bstr x.b), v1], .agg #[.string (bstr y.b), v2]] w fun e w' => e = .returned (.bool (decide (x = y))) ∧ Below w.heap.size w w' := by
  have H1 := Lib.hid h1
  have H2 := Lib.hid h2
  have hm1 := h1.len_le
  have hm2 := h2.len_le
  obtain ⟨ao, cap, rfl, -⟩ := h1.shp
  obtain ⟨bo, cap2, rfl, -⟩ := h2.shp
  have HA : Hid (Below w.heap.size w ((w.alloc (.cells #[.string (bstr x.b), .slice ao x.st.length cap] 96)).alloc (.cells #[.string (bstr y.b), .slice bo y.st.length cap2] 96))) := Lib.hid (((Below.refl _ w).alloc (Nat.le_refl _) _).alloc (by simp) _)
  have K1 := Lib.hid (heap_keep (p := .cells #[.string (bstr y.b), .slice bo y.st.length cap2] 96) (heap_alloc_new w (.cells #[.string (bstr x.b), .slice ao x.st.length cap] 96)))
  have K2 : Hid (((w.alloc (.cells #[.string (bstr x.b), .slice ao x.st.length cap] 96)).alloc (.cells #[.string (bstr y.b), .slice bo y.st.length cap2] 96)).heap[w.heap.size + 1]? = some (.cells #[.string (bstr y.b), .slice bo y.st.length cap2] 96 (0, 0))) := Lib.hid (by
    have := heap_alloc_new (w.alloc (.cells #[.string (bstr x.b), .slice ao x.st.length cap] 96)) (.cells #[.string (bstr y.b), .slice bo y.st.length cap2] 96)
    simpa using this)
  clear h1 h2
  by_cases hb : x.b = y.b
  · by_cases hn : x.st.length = y.st.length
    · have q1 : (x.b == y.b) = true := by rw [hb]; exact beq_self_eq_true _
      have q2 : (x.b != y.b) = false := by rw [hb]; exact bne_self_eq_false _
      have q3 : ((x.st.length : Int) != (y.st.length : Int)) = false := by rw [hn]; exact bne_self_eq_false _
      have Hb := Lib.hid hb
      have Hn := Lib.hid hn
      clear hb hn
      go_enter Try.func47, Try.ntmps47
      go_wp2_with fail
      generalize (w.alloc (.cells #[.string (bstr x.b), .slice ao x.st.length cap] 96)).alloc (.cells #[.string (bstr y.b), .slice bo y.st.length cap2] 96) = W at HA K1 K2 ⊢
      go_loopw [5] (fun i wr => ∃ k : Nat, k ≤ x.st.length ∧ i = .int .i64 k ∧ Hid (x.st.take k = y.st.take k) ∧ Hid (Below W.heap.size W wr)) (fun i _ => x.st.length - (intOf i).toNat)
      case atStart => exact ⟨0, by omega, rfl, Lib.hid rfl, Lib.hid (Below.refl _ _)⟩
      case round =>
        obtain ⟨k, hk, rfl, HT, HW⟩ := hrel
        have L1 := (HW.out.block _ (Array.getElem?_eq_some_iff.1 K1.out).1).trans K1.out
        have L2 := (HW.out.block _ (Array.getElem?_eq_some_iff.1 K2.out).1).trans K2.out
        obtain ⟨_, a0, a1, _, _⟩ := two_cells L1
        obtain ⟨_, c0, c1, _, _⟩ := two_cells L2
        have HWw := Lib.hid (HA.out.trans (HW.out.mono HA.out.size))
        clear L1 L2
        by_cases hlt : k < x.st.length
        · have hk2 : k < y.st.length := by rw [← Hn.out]; exact hlt
          obtain ⟨b5, o5, h5, hix, hc⟩ := H1.out.at (P := Try.prog) Try.underlying94 cells118 (by kernel_rfl) hlt
          obtain ⟨b6, o6, h6, hix6, hc6⟩ := H2.out.at (P := Try.prog) Try.underlying94 cells118 (by kernel_rfl) hk2
          obtain ⟨s, hs⟩ : ∃ s, Hid (x.st[k] = s) := ⟨_, Lib.hid rfl⟩
          obtain ⟨t, ht⟩ : ∃ s, Hid (y.st[k] = s) := ⟨_, Lib.hid rfl⟩
          rw [hs.out] at hc
          rw [ht.out] at hc6
          have e0 : wr.cell? ⟨b5, o5, none⟩ = some (.int .i64 s.k) := (HWw.out.cell (p := ⟨b5, o5, none⟩) h5).trans (hc 0 (by omega))
          have e1 : wr.cell? ⟨b5, o5 + 1, none⟩ = some (.int .i64 s.n) := (HWw.out.cell (p := ⟨b5, o5 + 1, none⟩) h5).trans (hc 1 (by omega))
          have e2 : wr.cell? ⟨b5, o5 + 2, none⟩ = some (.string (bstr s.w)) := (HWw.out.cell (p := ⟨b5, o5 + 2, none⟩) h5).trans (hc 2 (by omega))
          have g0 : wr.cell? ⟨b6, o6, none⟩ = some (.int .i64 t.k) := (HWw.out.cell (p := ⟨b6, o6, none⟩) h6).trans (hc6 0 (by omega))
          have g1 : wr.cell? ⟨b6, o6 + 1, none⟩ = some (.int .i64 t.n) := (HWw.out.cell (p := ⟨b6, o6 + 1, none⟩) h6).trans (hc6 1 (by omega))
          have g2 : wr.cell? ⟨b6, o6 + 2, none⟩ = some (.string (bstr t.w)) := (HWw.out.cell (p := ⟨b6, o6 + 2, none⟩) h6).trans (hc6 2 (by omega))
          clear hc hc6 h5 h6
          by_cases hst : s = t
          · have hq : ∀ u : World, (binOp .neq 118 (.agg #[.int .i64 s.k, .int .i64 s.n, .string (bstr s.w)]) (.agg #[.int .i64 t.k, .int .i64 t.n, .string (bstr t.w)])).run Try.prog u = .ok (.bool false) u := fun u => by rw [neq118, decide_eq_true hst]; rfl
            have hg := fun (u : World) => guard118 (.tmp 31) (.tmp 36) #[.int .i64 s.k, .int .i64 s.n, .string (bstr s.w)] #[.int .i64 t.k, .int .i64 t.n, .string (bstr t.w)] u
            have HT2 : Hid (x.st.take (k + 1) = y.st.take (k + 1)) := Lib.hid (by rw [List.take_succ_eq_append_getElem hlt, List.take_succ_eq_append_getElem hk2, HT.out, hs.out, ht.out, hst])
            clear hst
            go_wp2_with fail
            go_quiet (fail)
            go_wp2_with fail
            go_roundw
            case rel => exact ⟨k + 1, by omega, by go_num, HT2, Lib.hid (below_drewN HW.out _)⟩
            case measure => simp [intOf]; omega
          · have hq : ∀ u : World, (binOp .neq 118 (.agg #[.int .i64 s.k, .int .i64 s.n, .string (bstr s.w)]) (.agg #[.int .i64 t.k, .int .i64 t.n, .string (bstr t.w)])).run Try.prog u = .ok (.bool true) u := fun u => by rw [neq118, decide_eq_false hst]; rfl
            have hg := fun (u : World) => guard118 (.tmp 31) (.tmp 36) #[.int .i64 s.k, .int .i64 s.n, .string (bstr s.w)] #[.int .i64 t.k, .int .i64 t.n, .string (bstr t.w)] u
            have HZ : Hid (decide (x = y) = false) := Lib.hid (decide_eq_false (fun e => hst (by rw [← hs.out, ← ht.out]; subst e; rfl)))
            clear hst
            go_wp2_with fail
            go_quiet (fail)
            go_wp2_with fail
            go_ret
            exact ⟨ret_bool HZ.out.symm, below_drewN HWw.out _⟩
        · obtain rfl : k = x.st.length := by omega
          have HZ : Hid (decide (x = y) = true) := Lib.hid (decide_eq_true (by
            have h3 := HT.out
            rw [List.take_length, Hn.out, List.take_length] at h3
            have h4 := Hb.out
            cases x; cases y; simp only at h3 h4; rw [h3, h4]))
          go_wp2_with fail
          go_ret
          exact ⟨ret_bool HZ.out.symm, HWw.out⟩
    · have q1 : (x.b == y.b) = true := by rw [hb]; exact beq_self_eq_true _
      have q2 : (x.b != y.b) = false := by rw [hb]; exact bne_self_eq_false _
      have q3 : ((x.st.length : Int) != (y.st.length : Int)) = true := by rw [bne_iff_ne]; omega
      have HZ : Hid (decide (x = y) = false) := Lib.hid (decide_eq_false (fun e => hn (by rw [e])))
      clear hb hn
      go_enter Try.func47, Try.ntmps47
      go_wp2_with fail
      go_ret
      exact ⟨ret_bool HZ.out.symm, HA.out⟩
  · have q1 : (x.b == y.b) = false := beq_eq_false_iff_ne.2 hb
    have q2 : (x.b != y.b) = true := bne_iff_ne.2 hb
    have HZ : Hid (decide (x = y) = false) := Lib.hid (decide_eq_false (fun e => hb (by rw [e])))
    clear hb
    go_enter Try.func47, Try.ntmps47
    go_wp2_with fail
    go_ret
    exact ⟨ret_bool HZ.out.symm, HA.out⟩
end Go.Proofs.Ytolahnnkdpbdfaa
