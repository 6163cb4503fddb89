/-
  Layer 20: Split, and Fit: the lines of a text, collected, and counted. No condition besides what the arguments are.
-/
import Derived.Test.YtibebmdpjaknpaaDoorW1
import Derived.Test.YtibebmdpjaknpaaDoorApIn
namespace Go.Proofs.YtibebmdpjaknpaaDoor
open Go.Proofs Go.RowKit Go.Shelf Go.Sl
set_option linter.unusedVariables false

attribute [local go_sem] Oper.semAt_some

/-- a line as a string's cell -/
def eL (x : List UInt8) : List Value := [.string (bstr x)]
theorem len_eL (x : List UInt8) : (eL x).length = 1 := rfl
theorem one_eL (x : List UInt8) : ∀ u ∈ eL x, u.oneCell' = true := by simp [eL, Value.oneCell']
theorem info9 : (Tryd.prog.info? 9).map (fun i => (i.zero, i.size, i.bytes)) = some (some (.string .empty), 1, 16) := by kernel_rfl

/-- an own row stays when a block that is no cells is turned -/
theorem own_nc {α : Type} {en : α → List Value} {s base : Nat} {e : TypeId} {v : Value} {l : List α} {W W' : World} {row : Option Nat} (h : Sl.Own en s base e W v l) (hg : W.grownBy W' row) (hr : ∀ r, row = some r → ∃ o : Obj, W.heap[r]? = some o ∧ o.isCells = false) : Sl.Own en s base e W' v l := by
  refine Sl.Own.kept h hg ?_
  rcases h.2 with ⟨rfl, _⟩ | ⟨g', cap, cur, rfl, _, hg', _⟩
  · exact .inl rfl
  · right; intro e
    obtain ⟨o, ho, hc⟩ := hr g' e.symm
    rw [hg'] at ho
    obtain rfl := Option.some.inj ho
    simp [Obj.isCells] at hc
theorem cells_nc {W W' : World} {row : Option Nat} {b : Nat} {c : Array Value} {e : TypeId} {fr : Nat × Nat} (h : W.heap[b]? = some (.cells c e fr)) (hg : W.grownBy W' row) (hr : ∀ r, row = some r → ∃ o : Obj, W.heap[r]? = some o ∧ o.isCells = false) : W'.heap[b]? = some (.cells c e fr) :=
  grown_heap hg h (fun e1 => by
    obtain ⟨o, ho, hc⟩ := hr _ e1
    rw [h] at ho
    obtain rfl := Option.some.inj ho
    simp [Obj.isCells] at hc)

theorem own_isCells {α : Type} {en : α → List Value} {s base : Nat} {e : TypeId} {v : Value} {l : List α} {W : World} (h : Sl.Own en s base e W v l) : ∀ (j : Nat) (o : Obj), v.ownBlock = some j → W.heap[j]? = some o → o.isCells = true := by
  intro j o hj ho
  rcases h.2 with ⟨rfl, _⟩ | ⟨g', cap, cur, rfl, _, hg', _⟩
  · cases hj
  · have : g' = j := by simpa [Value.ownBlock] using hj
    subst this
    rw [hg'] at ho
    obtain rfl := Option.some.inj ho
    rfl
/-- what stands between two rounds of Split -/
def IS (w : World) (Bo Bs : Nat) (pre : List (List UInt8)) (W : World) : Prop :=
  ∃ ov, W.heap[Bo]? = some (.cells #[ov] 28 (0, 0)) ∧ Sl.Own eL 1 w.heap.size 9 W ov pre ∧ Below w.heap.size w W ∧ Bs < W.heap.size
theorem IS.from {w : World} {Bo Bs B : Nat} (hB : w.heap.size ≤ B) : OwnFrom B (IS w Bo Bs) := by
  rintro pre W W' row ⟨ov, h1, h2, h3, h4⟩ hg hr
  exact ⟨ov, cells_nc h1 hg (fun r e => (hr r e).2), own_nc h2 hg (fun r e => (hr r e).2), h3.grown hg h3.size (fun r e => Nat.le_trans hB (hr r e).1), Nat.lt_of_lt_of_le h4 hg.size⟩
theorem IS.step {w : World} {Bo Bs : Nat} (hne : Bo ≠ Bs) (hs : w.heap.size ≤ Bs) : ∀ pre A B, IS w Bo Bs pre A → TL Bs A B → IS w Bo Bs pre B := by
  rintro pre A B ⟨ov, h1, h2, h3, h4⟩ ⟨v, c, hc, rfl⟩
  exact ⟨ov, heap_set_keep h1 hne, h2.set_other (h2.ne_elem hc (by decide)) _, h3.setCell (p := ⟨Bs, 0, none⟩) hs _, by rw [World.size_setCell]; exact h4⟩

/-- a line has been collected: what a round of Split owes -/
theorem IS.done {w : World} {Bo Bs B : Nat} {pre : List (List UInt8)} {x : List UInt8} {ov nv : Value} {W w6 : World} {o1 : Obj} (hne : Bo ≠ Bs) (hBo : w.heap.size ≤ Bo) (hB : Bs < W.heap.size) (h1 : W.heap[Bo]? = some (.cells #[ov] 28 (0, 0))) (h2 : Sl.Own eL 1 w.heap.size 9 W ov pre) (h3 : Below w.heap.size w w6) (hW : Below w.heap.size w W)
    (hg : (W.alloc o1).grownBy w6 ov.ownBlock) (ho : Sl.Own eL 1 w.heap.size 9 w6 nv (pre ++ [x])) (h6 : w6.heap[Bo]? = some (.cells #[ov] 28 (0, 0))) :
    KeepsFrom B W (w6.setCell ⟨Bo, 0, none⟩ nv) ∧ KpL w.heap.size Bs W (w6.setCell ⟨Bo, 0, none⟩ nv) ∧ IS w Bo Bs (pre ++ [x]) (w6.setCell ⟨Bo, 0, none⟩ nv) := by
  have ha := h2.alloc o1
  refine ⟨(((KeepsOthers.alloc W o1).trans (KeepsOthers.of_grownBy hg (own_isCells ha))).trans (KeepsOthers.setCell _ _ _)).from _, ⟨?_, fun c hc => ?_⟩, ⟨nv, one_set h6, ho.set_other (ho.ne_elem h6 (by decide)) _, h3.setCell (p := ⟨Bo, 0, none⟩) hBo _, by rw [World.size_setCell]; have := hg.size; simp at this; omega⟩⟩
  · exact (((Below.refl _ W).alloc hW.size o1).grown hg (by have := hW.size; simp; omega) (fun k e => (ha.lt k e).1)).setCell (p := ⟨Bo, 0, none⟩) hBo _
  · exact heap_set_keep (grown_heap hg (heap_keep hc) (fun e => h2.ne_elem hc (by decide) e)) (Ne.symm hne)

set_option maxRecDepth 100000 in
set_option maxHeartbeats 2000000 in
theorem split_any (v : Value) (L : List UInt8) (w : World) (hv : Sl eByte 1 w v L) (hL : L.length ≤ 100000) :
    Calls Tryd.prog 9 #[v] w fun e w' => ∃ ov, e = .returned ov ∧ Sl.Own eL 1 w.heap.size 9 w' ov (Line.lines L) ∧ Below w.heap.size w w' := by
  obtain ⟨a, n, c, rfl⟩ := hv.isSlice
  refine (callsIn_wide (n := 6)).1 ?_
  refine callsIn_of_wp_marks Tryd.func9 rfl trivial ?_ rfl
  simp only [Tryd.ntmps9, List.size_toArray, List.length_cons, List.length_nil, Nat.reduceAdd, Nat.reduceSub, Array.replicate_succ, Array.replicate_zero, List.push_toArray, List.append_toArray, List.nil_append, List.cons_append]
  gi_wp2_with (refine ⟨trivial, ?_⟩; gi_at_call 11; refine (lines21 5 _ _ _ _).mono ?_; rintro e w2 ⟨rfl, rfl⟩)
  obtain ⟨W0, hW0⟩ : ∃ W0, (w.alloc (.cells #[.slice none 0 0] 28)).alloc (.cells #[.slice a n c] 30) = W0 := ⟨_, rfl⟩
  have hb0 : Below w.heap.size w W0 := by rw [← hW0]; exact ((Below.refl _ w).alloc (Nat.le_refl _) _).alloc (by simp) _
  have hsz : W0.heap.size = w.heap.size + 2 := by rw [← hW0]; simp
  have hbs : W0.heap[w.heap.size + 1]? = some (.cells #[.slice a n c] 30 (0, 0)) := by rw [← hW0]; exact heap_new_at (by simp)
  have hbo : W0.heap[w.heap.size]? = some (.cells #[.slice none 0 0] 28 (0, 0)) := by rw [← hW0]; exact heap_keep (heap_new_at rfl)
  have hll := Line.len_lines L
  have HI0 : Hid (IS w w.heap.size (w.heap.size + 1) [] W0) := Lib.hid ⟨_, hbo, Sl.Own.nil _ _ _ _ _, hb0, by omega⟩
  rw [hW0]
  have hseq := lines_seq 5 (by omega) (w.heap.size + 1) w.heap.size L w W0 (Nat.le_refl _) (by omega) (.slice a n c) hv hb0 hbs
  refine wpIn_range_T rfl (by omega) (gf := 16) (lb := #[.pointer (some ⟨w.heap.size + 1, 0, none⟩)]) rfl trivial (enters_of Tryd.func16 (by kernel_rfl) rfl) hseq (fun A B h => tL_keeps A B h) (fun h k => kpL_t h k) (kpL_b (by omega)) (Below.refl _ _) (fun _ => rfl)
    (IS w w.heap.size (w.heap.size + 1)) (fun _ _ _ => False) (IS.from (by omega)) (fun _ _ _ _ _ hs _ _ => hs) (IS.step (by omega) (by omega)) (fun _ _ _ _ h _ => h) HI0.out
    (fun x => { tmps := #[.slice a n c, undef, .slice none 0 0, .pointer (some ⟨w.heap.size, 0, none⟩), .string (bstr x), .slice a n c, .func (.func 16) #[] #[.pointer (some ⟨w.heap.size + 1, 0, none⟩)], .string (bstr x), undef, undef, undef, undef, undef], defers := [] }) ?assign ?body ?done ?stop
  case assign =>
    intro l x W K hK
    simp only [encL]
    gi_wp2
    exact hK
  case body =>
    rintro l pre x W ⟨ov, h1, h2, h3, h4⟩ hlt
    obtain ⟨b1, c1, f1⟩ := one_cells h1
    have hpl : pre.length < 100000 := by omega
    have H1 := Lib.hid h1
    have H2 := Lib.hid h2
    have H3 := Lib.hid h3
    have HS : Hid (w.heap.size + 1 < W.heap.size) := Lib.hid h4
    clear h1 h2 h3 h4
    obtain ⟨oa, on, oc, rfl⟩ := H2.out.isSlice
    gi_wp2_with (gi_at_builtin; go_must (refine wpListIn_append1 rfl (en := eL) (s := 1) (base := w.heap.size) (e := 9) _ _ 28 rfl (.string .empty) 16 Tryd.underlying28 info9 rfl (by decide) len_eL one_eL (.slice oa on oc) _ pre x rfl (H2.out.alloc _) rfl (Sl.fresh len_eL rfl rfl rfl (by simp [maxLen])) (by simp only [maxLen]; omega) (by omega) (by have := H3.out.size; simp; omega) ?_; intro ov' w6 hown hgr hbel hblk; obtain ⟨na, nn, nc, rfl⟩ := hown.isSlice; have hb6 := grown_heap hgr (heap_keep H1.out) (fun e => H2.out.ne_elem H1.out (by decide) e); obtain ⟨b6, c6, f6⟩ := one_cells hb6; have HB6 := Lib.hid hb6; clear hb6; have HO2 := Lib.hid hown; have HG := Lib.hid hgr; have HB2 := Lib.hid (H3.out.trans (((Below.refl _ W).alloc H3.out.size _).trans hbel)); clear hown hgr hbel hblk))
    exact IS.done (by omega) (Nat.le_refl _) (by have := H3.out.size; have := HS.out; omega) H1.out H2.out HB2.out H3.out HG.out HO2.out HB6.out
  case done =>
    rintro D ys W hD rfl ⟨ov, h1, h2, h3, h4⟩ hK
    obtain ⟨b1, c1, f1⟩ := one_cells h1
    obtain ⟨oa, on, oc, rfl⟩ := h2.isSlice
    have H1 := Lib.hid h1
    have H2 := Lib.hid h2
    have H3 := Lib.hid h3
    have HK := Lib.hid hK
    clear h1 h2 h3 hK
    gi_wp2
    refine ⟨by simp, .inl ⟨_, _, rfl, run_takeDeferred HK.out, ?_⟩⟩
    refine ⟨_, results_tmp rfl _ _ _, _, rfl, own_nc H2.out (grownBy_putObj' W D _) (fun r e => by cases e; exact ⟨_, HK.out, rfl⟩), ?_⟩
    exact H3.out.grown (grownBy_putObj' W D _) H3.out.size (fun r e => by cases e; omega)
  case stop =>
    rintro D c pre W _ _ h _
    exact h.elim
end Go.Proofs.YtibebmdpjaknpaaDoor
