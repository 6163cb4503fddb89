/-
  Layer 16: what stands while a filter is made. No condition besides what the arguments are.
-/
import Derived.Test.YtopamnfelngkcaaDoorBP4
import Derived.Test.YtopamnfelngkcaaDoorBW5
import Derived.Test.YtopamnfelngkcaaDoorBW8
namespace Go.Proofs.YtopamnfelngkcaaDoor.Bm
open Go.Proofs Go.RowKit Go.Shelf Go.Sl Go.Bl
set_option linter.unusedVariables false

/-- the marks that loops over functions have left -/
def marks (Ds : List Nat) : List Deferred := Ds.map fun D => { target := .collected D, args := #[] }
def putAll (w : World) (Ds : List Nat) : World := Ds.foldl (fun w D => w.putObj D (.deferred none)) w
theorem leaves_marks {F : Fence} {n : Nat} {P : Program} {fn : Func} {tmps : Array Value} {R : Ending → World → Prop} : ∀ (Ds : List Nat) (w : World), (∀ D ∈ Ds, w.heap[D]? = some (.deferred (some []))) → Ds.Nodup →
    LeavesIn F n P fn tmps R [] .returning (putAll w Ds) → LeavesInM F n P fn tmps R (marks Ds) .returning w
  | [], w, _, _, h => h
  | D :: Ds, w, h1, h2, h => by
    refine ⟨by simp, .inl ⟨D, _, rfl, run_takeDeferred (h1 D (by simp)), ?_⟩⟩
    obtain ⟨h3, h4⟩ := List.nodup_cons.1 h2
    exact leaves_marks Ds _ (fun D' hD' => (World.putObj_heap_other (fun e => h3 (by rw [← e]; exact hD'))).trans (h1 D' (List.mem_cons_of_mem _ hD'))) h4 h
theorem putAll_heap {b : Nat} {o : Obj} (ho : o.isCells = true) : ∀ (Ds : List Nat) (w : World), (∀ D ∈ Ds, w.heap[D]? = some (.deferred (some []))) → Ds.Nodup → w.heap[b]? = some o → (putAll w Ds).heap[b]? = some o
  | [], w, _, _, h => h
  | D :: Ds, w, h1, h2, h => by
    obtain ⟨h3, h4⟩ := List.nodup_cons.1 h2
    refine putAll_heap ho Ds _ (fun D' hD' => (World.putObj_heap_other (fun e => h3 (by rw [← e]; exact hD'))).trans (h1 D' (List.mem_cons_of_mem _ hD'))) h4 ((World.putObj_heap_other fun e => ?_).trans h)
    rw [e, h1 D (by simp)] at h
    obtain rfl := Option.some.inj h
    simp [Obj.isCells] at ho
theorem putAll_below {base : Nat} {w0 : World} : ∀ (Ds : List Nat) (w : World), (∀ D ∈ Ds, base ≤ D) → (∀ D ∈ Ds, D < w.heap.size) → Below base w0 w → Below base w0 (putAll w Ds)
  | [], w, _, _, h => h
  | D :: Ds, w, h1, h2, h => by
    have hD := h2 D (by simp)
    have hb := h1 D (by simp)
    refine putAll_below Ds _ (fun D' hD' => h1 D' (List.mem_cons_of_mem _ hD')) (fun D' hD' => by have := h2 D' (List.mem_cons_of_mem _ hD'); simpa using this) (h.trans ((Below.refl base w).grown (grownBy_putObj' w D _) (by omega) (fun k e => by cases e; exact hb)))

def yb (g : List UInt8) : Array Value := (g.map fun c : UInt8 => Value.int .u8 (c.toNat : Int)).toArray
theorem info5 : (Tryd.prog.info? 5).map (fun i => (i.zero, i.size, i.bytes)) = some (some (.int .u8 0), 1, 1) := by kernel_rfl
theorem make_bytes (n : Nat) (hn : n ≤ 1000) : ∀ u : World, (Instr.makeSlice 34 (.int .i64 (n : Int)) (.int .i64 (n : Int))).run Tryd.prog u = .ok (.slice (some ⟨u.heap.size, 0, none⟩) n n) (u.alloc (.cells (madeCells #[.int .u8 0] n) 5)) :=
  run_make_row' (P := Tryd.prog) 34 5 _ 1 Tryd.underlying34 info5 rfl .i64 .i64 n (by omega) (by omega)
theorem yb_made (n : Nat) : madeCells #[Value.int .u8 0] n = yb (List.replicate n 0) := by
  apply Array.ext'
  rw [toList_madeCells_one]
  simp [yb]
theorem yb_set (g : List UInt8) (n : Nat) (c : UInt8) : (yb g).setIfInBounds n (.int .u8 (c.toNat : Int)) = yb (g.set n c) := by
  unfold yb
  rw [List.setIfInBounds_toArray, List.map_set]
theorem yb_cell {W : World} {b : Nat} {g : List UInt8} (h : W.heap[b]? = some (.cells (yb g) 5 (0, 0))) {i : Nat} (hi : i < g.length) : W.cell? ⟨b, i, none⟩ = some (.int .u8 (g[i].toNat : Int)) ∧ W.frozen? ⟨b, i, none⟩ = false := by
  constructor
  · simp [World.cell?, h, yb, hi]
  · simp [World.frozen?, h]
theorem yb_own {W : World} {base b : Nat} {g : List UInt8} (h : W.heap[b]? = some (.cells (yb g) 5 (0, 0))) (hb : base ≤ b) (hl : g.length ≤ 1000) : Sl.Own eByte 1 base 5 W (.slice (some ⟨b, 0, none⟩) g.length g.length) g := by
  refine ⟨by rw [flatMap_len len_eByte], .inr ⟨b, g.length, _, rfl, hb, h, Nat.le_refl _, by simp [maxLen]; omega, by simp [yb], ?_⟩⟩
  have : ∀ g : List UInt8, g.flatMap eByte = g.map fun c : UInt8 => Value.int .u8 (c.toNat : Int) := by
    intro g
    induction g with
    | nil => rfl
    | cons a r ih => rw [List.flatMap_cons, ih]; rfl
  rw [this]
  simp only [yb, List.toArray]
  exact List.take_of_length_le (by simp)
/-- what stands while a filter is made -/
structure MI (base cb fb : Nat) (w0 : World) (ov : Value) (T : List Str) (N : Nat) (g : List UInt8) (W : World) : Prop where
  c4 : W.heap[cb]? = some (.cells #[.slice (some ⟨fb, 0, none⟩) N N] 34 (0, 0))
  blk : W.heap[fb]? = some (.cells (yb g) 5 (0, 0))
  own : Sl.Own eL 1 base 9 W ov T
  bel : Below base w0 W
  hc : base ≤ cb
  hf : base ≤ fb
section
variable {base cb fb : Nat} {w0 : World} {ov : Value} {T : List Str} {N : Nat} {g : List UInt8} {W W' : World}
theorem MI.nc (h : MI base cb fb w0 ov T N g W) (hB : base ≤ W.heap.size) {row : Option Nat} (hg : W.grownBy W' row) (hr : ∀ r, row = some r → base ≤ r ∧ ∃ o : Obj, W.heap[r]? = some o ∧ o.isCells = false) : MI base cb fb w0 ov T N g W' := by
  refine ⟨cells_nc h.c4 hg (fun r e => (hr r e).2), cells_nc h.blk hg (fun r e => (hr r e).2), Sl.Own.kept h.own hg ?_, h.bel.grown hg hB (fun r e => (hr r e).1), h.hc, h.hf⟩
  rcases h.own.2 with ⟨e1, _⟩ | ⟨g', cap, cur, e1, _, hg', _⟩
  · left; rw [e1]; rfl
  · right; intro e2
    obtain ⟨-, o, ho, hc⟩ := hr g' (e2.symm.trans (by rw [e1]; rfl))
    rw [hg'] at ho
    obtain rfl := Option.some.inj ho
    simp [Obj.isCells] at hc
theorem MI.ext (h : MI base cb fb w0 ov T N g W) (hB : base ≤ W.heap.size) (hb : Below W.heap.size W W') : MI base cb fb w0 ov T N g W' :=
  have k : ∀ {k : Nat} {o : Obj}, W.heap[k]? = some o → W'.heap[k]? = some o := fun {_ _} h => (hb.block _ (Array.getElem?_eq_some_iff.1 h).1).trans h
  ⟨k h.c4, k h.blk, h.own.ext hb, h.bel.trans (hb.mono hB), h.hc, h.hf⟩
theorem MI.step (h : MI base cb fb w0 ov T N g W) (hd : Dn W W') : MI base cb fb w0 ov T N g W' :=
  ⟨by rw [hd.heap]; exact h.c4, by rw [hd.heap]; exact h.blk, h.own.ext hd.below, h.bel.trans hd.below, h.hc, h.hf⟩
theorem MI.set (h : MI base cb fb w0 ov T N g W) (i : Nat) (c : UInt8) : MI base cb fb w0 ov T N (g.set i c) (W.setCell ⟨fb, i, none⟩ (.int .u8 (c.toNat : Int))) := by
  have hne : cb ≠ fb := by
    rintro rfl
    have := h.c4.symm.trans h.blk
    simp at this
  refine ⟨heap_set_keep (a := ⟨fb, i, none⟩) h.c4 hne, ?_, Sl.Own.set_other h.own (a := ⟨fb, i, none⟩) (Sl.Own.ne_elem h.own h.blk (by decide)) _, h.bel.setCell (p := ⟨fb, i, none⟩) h.hf _, h.hc, h.hf⟩
  rw [← yb_set]
  exact heap_setCell_same _ _ _ _ _ _ h.blk
end
/-- between two places of a key -/
def IM (base cb fb B : Nat) (w0 : World) (ov : Value) (T : List Str) (N : Nat) (g : List UInt8) (Ds : List Nat) (many : Nat) (pre : List (Pl many)) (W : World) : Prop :=
  MI base cb fb w0 ov T N (setAll g (pre.map (fun p => p.1))) W ∧ base ≤ W.heap.size ∧ ∀ D ∈ Ds, base ≤ D ∧ D < B ∧ W.heap[D]? = some (.deferred (some []))
theorem IM.from {base cb fb B : Nat} {w0 : World} {ov : Value} {T : List Str} {N : Nat} {g : List UInt8} {Ds : List Nat} {many : Nat} (hB : base ≤ B) : OwnFrom B (IM base cb fb B w0 ov T N g Ds many) := by
  rintro pre W W' row ⟨h1, h2, h3⟩ hg hr
  refine ⟨h1.nc h2 hg (fun r e => ⟨Nat.le_trans hB (hr r e).1, (hr r e).2⟩), ?_, fun D hD => ⟨(h3 D hD).1, (h3 D hD).2.1, grown_heap hg (h3 D hD).2.2 (fun e => by have := (hr _ e).1; have := (h3 D hD).2.1; omega)⟩⟩
  exact ((Below.refl base W).grown hg h2 (fun r e => Nat.le_trans hB (hr r e).1)).size |> Nat.le_trans h2
theorem IM.step {base cb fb B : Nat} {w0 : World} {ov : Value} {T : List Str} {N : Nat} {g : List UInt8} {Ds : List Nat} {many : Nat} : ∀ pre A C, IM base cb fb B w0 ov T N g Ds many pre A → Dn A C → IM base cb fb B w0 ov T N g Ds many pre C := by
  rintro pre A C ⟨h1, h2, h3⟩ hd
  exact ⟨h1.step hd, by rw [hd.heap]; exact h2, fun D hD => by rw [hd.heap]; exact h3 D hD⟩
end Go.Proofs.YtopamnfelngkcaaDoor.Bm
