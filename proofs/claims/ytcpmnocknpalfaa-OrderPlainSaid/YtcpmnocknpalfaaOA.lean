/-
  Arguments opened as lists and graphs. No condition besides what each asks.
-/
import Derived.Test.YtcpmnocknpalfaaSl
import Derived.ProofKit
import Derived.OpenShut
import Derived.ShutString
import Derived.ChangeOld
import Derived.SliceStrings
import Derived.Deep.Slices
import Derived.Lib.SmallJoins
import Derived.ChangeSame
import Derived.Deep.Strs
import Derived.Test.YtcpmnocknpalfaaD1
import Derived.SizedLaws
namespace Go.Sl
open Go.RowKit Go.ChangeShapes Go.WideShapes Go.ChangeAt Go.Deep Go.Joins

section
variable {H : Type} {enc : TypeId × Value → H} {P : Program} {w : World} {base : Nat} {spare : Nat → Bool} {held : Bool}

theorem plain_of_cell {a : Addr} {v : Value} (h : w.cell? a = some v) : a = ⟨a.block, a.off, none⟩ ∧ a.block < w.heap.size := by
  have h1 : a.spot = none := World.cell?_spot h
  have h2 := World.block_lt_of_cell? w _ h
  refine ⟨?_, h2⟩
  cases a; simp_all

/-- of cells at a.add k: a list of one-cell elements -/
theorem Sl.of_cells {α : Type} {en : α → List Value} {s : Nat} {ao : Option Addr} {cap : Nat} {l : List α} (hlc : l.length ≤ cap) (hm : cap ≤ maxLen) (hn : ao = none → cap = 0) (hs : 0 < s) (hen : ∀ x, (en x).length = s)
    (h : ∀ a, ao = some a → ∀ k (hk : k < l.length) j, j < s → w.cell? (a.add (k * s + j)) = (en l[k])[j]?) : Sl en s w (.slice ao l.length cap) l := by
  refine ⟨ao, cap, rfl, hlc, hm, hn, ?_⟩
  cases l with
  | nil => exact .inl rfl
  | cons x l =>
    right
    cases ao with
    | none => have := hn rfl; simp at hlc; omega
    | some a =>
      have h0 := h a rfl 0 (by simp) 0 hs
      have h1 : (en ((x :: l)[0]'(by simp)))[0]? = some ((en x)[0]'(by rw [hen]; exact hs)) := by simp
      rw [h1, show 0 * s + 0 = 0 by omega] at h0
      have h0 : w.cell? a = some ((en x)[0]'(by rw [hen]; exact hs)) := by simpa [Addr.add] using h0
      obtain ⟨e1, e2⟩ := plain_of_cell h0
      refine ⟨a.block, a.off, by rw [← e1], e2, fun k hk j hj => ?_⟩
      have h2 := h a rfl k hk j hj
      rw [e1, Addr.add_lit] at h2
      rw [Nat.add_assoc]; exact h2

def toByte (n : Int) : UInt8 := UInt8.ofNat n.toNat
theorem toByte_eq {n : Int} (h : (Lit.int .u8 n).wf = true) : ((toByte n).toNat : Int) = n := by
  have h1 : IntKind.u8.min = 0 := rfl
  have h2 : IntKind.u8.max = 255 := rfl
  simp only [Lit.wf, Bool.and_eq_true, decide_eq_true_eq] at h
  unfold toByte
  rw [UInt8.toNat_ofNat']
  omega

theorem opn_bytes {t e : TypeId} {fuel : Nat} {cs : List Value} {x : DataW H × List MemPlace} (ht : P.underlying t = some (.slice e)) (he : P.underlying e = some (.int .u8)) (hc : P.cellsOf e = 1)
    (h : DataW.trod enc P w base spare held fuel t cs = some x) : ∃ v l, cs = [v] ∧ Sl eByte 1 w v l := by
  rcases open_ints ht he hc h with ⟨hcs, hx⟩ | ⟨a, len, cap, zs, hcs, _, hl, hm, hz, hx, hcell, hwz⟩
  · exact ⟨_, [], hcs, Sl.nil _ _ _⟩
  · have hlz : len ≤ zs.length := by rw [hz]; split <;> omega
    refine ⟨_, (zs.take len).map toByte, hcs, ?_⟩
    have hlen : ((zs.take len).map toByte).length = len := by simp; omega
    have hn : (some a : Option Addr) = none → cap = 0 := fun h => by cases h
    have := Sl.of_cells (w := w) (en := eByte) (s := 1) (ao := some a) (cap := cap) (l := (zs.take len).map toByte) (by omega) hm hn (by omega) len_eByte (by
      intro a' ha k hk j hj
      obtain rfl := Option.some.inj ha
      obtain rfl : j = 0 := by omega
      have hk' : k < zs.length := by omega
      rw [Nat.mul_one, Nat.add_zero, hcell k hk']
      simp only [eByte, List.getElem?_cons_zero, List.getElem_map, List.getElem_take]
      rw [toByte_eq (hwz _ (List.getElem_mem hk'))]
      simp [List.getD, hk'])
    rw [hlen] at this
    exact this

theorem opn_ints {t e : TypeId} {fuel : Nat} {cs : List Value} {x : DataW H × List MemPlace} (ht : P.underlying t = some (.slice e)) (he : P.underlying e = some (.int .i64)) (hc : P.cellsOf e = 1)
    (h : DataW.trod enc P w base spare held fuel t cs = some x) : ∃ v l, cs = [v] ∧ Sl eInt 1 w v l ∧ ∀ n ∈ l, (Lit.int .i64 n).wf = true := by
  rcases open_ints ht he hc h with ⟨hcs, hx⟩ | ⟨a, len, cap, zs, hcs, _, hl, hm, hz, hx, hcell, hwz⟩
  · exact ⟨_, [], hcs, Sl.nil _ _ _, by simp⟩
  · have hlz : len ≤ zs.length := by rw [hz]; split <;> omega
    refine ⟨_, zs.take len, hcs, ?_, fun n hn => hwz n (List.mem_of_mem_take hn)⟩
    have hlen : (zs.take len).length = len := by simp; omega
    have hn : (some a : Option Addr) = none → cap = 0 := fun h => by cases h
    have := Sl.of_cells (w := w) (en := eInt) (s := 1) (ao := some a) (cap := cap) (l := zs.take len) (by omega) hm hn (by omega) len_eInt (by
      intro a' ha k hk j hj
      obtain rfl := Option.some.inj ha
      obtain rfl : j = 0 := by omega
      have hk' : k < zs.length := by omega
      rw [Nat.mul_one, Nat.add_zero, hcell k hk']
      simp [eInt, List.getD, hk'])
    rw [hlen] at this
    exact this

theorem opn_strs {t e : TypeId} {fuel : Nat} {cs : List Value} {x : DataW H × List MemPlace} (ht : P.underlying t = some (.slice e)) (he : P.underlying e = some .string) (hc : P.cellsOf e = 1)
    (h : DataW.trod enc P w base spare held fuel t cs = some x) : ∃ v l, cs = [v] ∧ Sl eStr 1 w v l ∧ ∀ s ∈ l, s.size ≤ maxLen := by
  rcases open_strings ht he hc h with ⟨hcs, hx⟩ | ⟨a, len, cap, zs, hcs, _, hl, hm, hz, hx, hcell, hwz⟩
  · exact ⟨_, [], hcs, Sl.nil _ _ _, by simp⟩
  · have hlz : len ≤ zs.length := by rw [hz]; split <;> omega
    refine ⟨_, zs.take len, hcs, ?_, fun n hn => hwz n (List.mem_of_mem_take hn)⟩
    have hlen : (zs.take len).length = len := by simp; omega
    have hn : (some a : Option Addr) = none → cap = 0 := fun h => by cases h
    have := Sl.of_cells (w := w) (en := eStr) (s := 1) (ao := some a) (cap := cap) (l := zs.take len) (by omega) hm hn (by omega) len_eStr (by
      intro a' ha k hk j hj
      obtain rfl := Option.some.inj ha
      obtain rfl : j = 0 := by omega
      have hk' : k < zs.length := by omega
      rw [Nat.mul_one, Nat.add_zero, hcell k hk']
      simp [eStr, List.getD, hk'])
    rw [hlen] at this
    exact this

/-- a slice of one-cell elements, each of which opens by itself -/
theorem opn_vals {t e : TypeId} {fuel : Nat} {cs : List Value} {x : DataW H × List MemPlace} (ht : P.underlying t = some (.slice e)) (hc : P.cellsOf e = 1)
    (h : DataW.trod enc P w base spare held fuel t cs = some x) :
    ∃ v vs, cs = [v] ∧ Sl eVal 1 w v vs ∧ ∀ k (hk : k < vs.length), ∃ n y, DataW.trod enc P w base spare held n e [vs[k]] = some y := by
  rcases open_slice1 ht hc h with ⟨hcs, hx⟩ | ⟨a, len, cap, m, n, V, D, Pl, hcs, _, hl, hm, hmm, hx, hV⟩
  · exact ⟨_, [], hcs, Sl.nil _ _ _, by simp⟩
  · have hlm : len ≤ m := by rw [hmm]; split <;> omega
    refine ⟨_, (List.range len).map V, hcs, ?_, ?_⟩
    · have hn : (some a : Option Addr) = none → cap = 0 := fun h => by cases h
      have := Sl.of_cells (w := w) (en := eVal) (s := 1) (ao := some a) (cap := cap) (l := (List.range len).map V) (by simpa using hl) hm hn (by omega) len_eVal (by
        intro a' ha k hk j hj
        obtain rfl := Option.some.inj ha
        obtain rfl : j = 0 := by omega
        simp at hk
        rw [Nat.mul_one, Nat.add_zero, (hV k (by omega)).1]
        simp [eVal])
      simpa using this
    · intro k hk
      simp at hk
      refine ⟨n, (D k, Pl k), ?_⟩
      rw [List.getElem_map, List.getElem_range]
      exact (hV k (by omega)).2

theorem choose_list {α : Type} {p : Nat → α → Prop} (n : Nat) (h : ∀ k, k < n → ∃ x, p k x) : ∃ l : List α, l.length = n ∧ ∀ k (hk : k < l.length), p k l[k] := by
  induction n with
  | zero => exact ⟨[], rfl, by simp⟩
  | succ n ih =>
    obtain ⟨l, hl, hp⟩ := ih (fun k hk => h k (by omega))
    obtain ⟨x, hx⟩ := h n (by omega)
    refine ⟨l ++ [x], by simp [hl], fun k hk => ?_⟩
    rw [List.getElem_append]
    split
    · exact hp k _
    · have : k = n := by simp at hk; omega
      subst this; simpa [hl] using hx

theorem opn_bytess {t e b : TypeId} {fuel : Nat} {cs : List Value} {x : DataW H × List MemPlace} (ht : P.underlying t = some (.slice e)) (hc : P.cellsOf e = 1) (he : P.underlying e = some (.slice b)) (hb : P.underlying b = some (.int .u8)) (hbc : P.cellsOf b = 1)
    (h : DataW.trod enc P w base spare held fuel t cs = some x) : ∃ v vs ls, cs = [v] ∧ Sls eByte 1 w v vs ls := by
  obtain ⟨v, vs, hcs, hv, hin⟩ := opn_vals ht hc h
  obtain ⟨ls, hl, hp⟩ := choose_list (p := fun k l => ∀ hk : k < vs.length, Sl eByte 1 w vs[k] l) vs.length (fun k hk => by
    obtain ⟨n, y, hy⟩ := hin k hk
    obtain ⟨v', l, h1, h2⟩ := opn_bytes he hb hbc hy
    obtain rfl : vs[k] = v' := by simpa using h1
    exact ⟨l, fun _ => h2⟩)
  exact ⟨v, vs, ls, hcs, hv, hl.symm, fun k h1 h2 => hp k h2 h1⟩

/-- a value that is one cell reads as what its cell reads as -/
theorem one_cell {t : TypeId} {v : Value} {d : DataW H} {ps : List MemPlace} (h : DataW.Trod enc P w base spare held t v d ps) {a : Option Addr} {n c : Nat} (hv : v = .slice a n c) : ∃ fuel x, DataW.trod enc P w base spare held fuel t [v] = some x := by
  subst hv
  obtain ⟨fuel, hf⟩ := h
  exact ⟨fuel, _, by simpa [Value.cells] using hf⟩
end

theorem toBv_eq {n : Int} (h : (Lit.int .u32 n).wf = true) : n = ((BitVec.ofInt 32 n).toNat : Int) := by
  have h1 : IntKind.u32.min = 0 := rfl
  have h2 : IntKind.u32.max = 4294967295 := rfl
  simp only [Lit.wf, Bool.and_eq_true, decide_eq_true_eq] at h
  rw [BitVec.toNat_ofInt]; omega
end Go.Sl
namespace Go.Sl
open Go.RowKit Go.ChangeShapes Go.WideShapes Go.ChangeAt Go.Deep Go.Joins
section
variable {H : Type} {enc : TypeId × Value → H} {P : Program} {w : World} {base : Nat} {spare : Nat → Bool} {held : Bool}

/-- a slice whose elements open by themselves -/
theorem opn_elems {α : Type} {en : α → List Value} {R : α → Prop} {s : Nat} (hs : 0 < s) (hen : ∀ x, (en x).length = s) {t e : TypeId} {fuel : Nat} {cs : List Value} {x : DataW H × List MemPlace} (ht : P.underlying t = some (.slice e)) (hc : P.cellsOf e = s)
    (he : ∀ n cs' y, DataW.trod enc P w base spare held n e cs' = some y → cs'.length = s → ∃ x : α, R x ∧ cs' = en x)
    (h : DataW.trod enc P w base spare held fuel t cs = some x) : ∃ v l, cs = [v] ∧ Sl en s w v l ∧ ∀ x ∈ l, R x := by
  rcases open_slice ht h with ⟨hcs, hx⟩ | ⟨a, len, cap, m, n, D, Pl, hcs, _, hl, hm, hmm, hx, hV⟩
  · exact ⟨_, [], hcs, Sl.nil _ _ _, by simp⟩
  · have hlm : len ≤ m := by rw [hmm]; split <;> omega
    obtain ⟨l, hll, hp⟩ := choose_list (p := fun k (x : α) => R x ∧ ∀ j, j < s → w.cell? (a.add (k * s + j)) = (en x)[j]?) len (fun k hk => by
      obtain ⟨cs', h1, h2⟩ := hV k (by omega)
      obtain ⟨_, h3, h4⟩ := World.cells?_some h1
      rw [hc] at h3 h4
      obtain ⟨x, hr, rfl⟩ := he _ _ _ h2 h3
      refine ⟨x, hr, fun j hj => ?_⟩
      rw [← h4 j hj]
      congr 1
      by_cases hk0 : k * s = 0 <;> by_cases hj0 : j = 0 <;> simp [Addr.add, hk0, hj0] <;> omega)
    refine ⟨_, l, hcs, ?_, fun x hx => ?_⟩
    · have hn : (some a : Option Addr) = none → cap = 0 := fun h => by cases h
      have := Sl.of_cells (w := w) (en := en) (s := s) (ao := some a) (cap := cap) (l := l) (by omega) hm hn hs hen (by
        intro a' ha k hk j hj
        obtain rfl := Option.some.inj ha
        exact (hp k hk).2 j hj)
      rw [hll] at this
      exact this
    · obtain ⟨k, hk, rfl⟩ := List.getElem_of_mem hx
      exact (hp k hk).1
end
end Go.Sl
namespace Go.Sl
open Go.RowKit Go.ChangeShapes Go.WideShapes Go.ChangeAt Go.Deep Go.Joins
section
variable {H : Type} {enc : TypeId × Value → H} {P : Program} {w : World} {base : Nat} {spare : Nat → Bool} {held : Bool}

/-- a slice whose elements open by themselves; the data stand beside them -/
theorem opn_elems_d {α : Type} {en : α → List Value} {R : α → DataW H → Prop} {s : Nat} (hs : 0 < s) (hen : ∀ x, (en x).length = s) {t e : TypeId} {fuel : Nat} {cs : List Value} {x : DataW H × List MemPlace} (ht : P.underlying t = some (.slice e)) (hc : P.cellsOf e = s)
    (he : ∀ n cs' y, DataW.trod enc P w base spare held n e cs' = some y → cs'.length = s → ∃ x : α, R x y.1 ∧ cs' = en x)
    (h : DataW.trod enc P w base spare held fuel t cs = some x) :
    ∃ v l ds, cs = [v] ∧ Sl en s w v l ∧ ds.length = l.length ∧ (∀ k (h1 : k < l.length) (h2 : k < ds.length), R l[k] ds[k]) ∧ ((x.1 = .nil ∧ ds = []) ∨ ∃ sp, x.1 = .slice ds sp) := by
  rcases open_slice ht h with ⟨hcs, hx⟩ | ⟨a, len, cap, m, n, D, Pl, hcs, _, hl, hm, hmm, hx, hV⟩
  · exact ⟨_, [], [], hcs, Sl.nil _ _ _, rfl, by simp, .inl ⟨by rw [hx], rfl⟩⟩
  · have hlm : len ≤ m := by rw [hmm]; split <;> omega
    obtain ⟨l, hll, hp⟩ := choose_list (p := fun k (x : α) => R x (D k) ∧ ∀ j, j < s → w.cell? (a.add (k * s + j)) = (en x)[j]?) len (fun k hk => by
      obtain ⟨cs', h1, h2⟩ := hV k (by omega)
      obtain ⟨_, h3, h4⟩ := World.cells?_some h1
      rw [hc] at h3 h4
      obtain ⟨x, hr, rfl⟩ := he _ _ _ h2 h3
      refine ⟨x, hr, fun j hj => ?_⟩
      rw [← h4 j hj]
      congr 1
      by_cases hk0 : k * s = 0 <;> by_cases hj0 : j = 0 <;> simp [Addr.add, hk0, hj0] <;> omega)
    refine ⟨_, l, (List.range len).map D, hcs, ?_, by simp [hll], fun k h1 h2 => ?_, .inr ⟨_, by rw [hx]⟩⟩
    · have hn : (some a : Option Addr) = none → cap = 0 := fun h => by cases h
      have := Sl.of_cells (w := w) (en := en) (s := s) (ao := some a) (cap := cap) (l := l) (by omega) hm hn hs hen (by
        intro a' ha k hk j hj
        obtain rfl := Option.some.inj ha
        exact (hp k hk).2 j hj)
      rw [hll] at this
      exact this
    · have := (hp k h1).1
      simpa using this

/-- a value that is one cell reads as what its cell reads as; the datum named -/
theorem one_cell_d {t : TypeId} {v : Value} {d : DataW H} {ps : List MemPlace} (h : DataW.Trod enc P w base spare held t v d ps) {a : Option Addr} {n c : Nat} (hv : v = .slice a n c) : ∃ fuel, DataW.trod enc P w base spare held fuel t [v] = some (d, ps) := by
  subst hv
  obtain ⟨fuel, hf⟩ := h
  exact ⟨fuel, by simpa [Value.cells] using hf⟩
end
end Go.Sl
namespace Go.Proofs.Ytcpmnocknpalfaa
open Go.RowKit Go.ChangeShapes Go.WideShapes Go.ChangeAt Go.Deep Go.Joins Go.Sl
set_option linter.unusedVariables false

section
variable {H : Type} {enc : TypeId × Value → H} {w : World} {base : Nat} {spare : Nat → Bool} {held : Bool}

theorem len2 {α : Type} {l : List α} (h : l.length = 2) : ∃ a b, l = [a, b] := by
  match l, h with
  | [a, b], _ => exact ⟨a, b, rfl⟩
theorem int_cell {t : TypeId} (ht : Try.prog.underlying t = some (.int .i64)) {n : Nat} {cs : List Value} {y : DataW H × List MemPlace} (h : DataW.trod enc Try.prog w base spare held n t cs = some y) : ∃ a : Int, cs = [.int .i64 a] ∧ (Lit.int .i64 a).wf = true := by
  obtain ⟨a, e0, _, wa⟩ := DataW.trod_int ht h
  exact ⟨a, e0, wa⟩
theorem slv_of {α : Type} {en : α → List Value} {s : Nat} {w : World} {v : Value} {l : List α} (h : Sl en s w v l) : ∃ x : SlV, v = x.val := by
  obtain ⟨a, n, c, rfl⟩ := h.isSlice; exact ⟨⟨a, n, c⟩, rfl⟩

theorem opn_graph {fuel : Nat} {cs : List Value} {x : DataW H × List MemPlace} (h : DataW.trod enc Try.prog w base spare held fuel 22 cs = some x) : ∃ v g, cs = [v] ∧ ∃ es, Gr w v es g := by
  have k3 : Try.prog.cellsOf 3 = 1 := by kernel_rfl
  have k23 : Try.prog.cellsOf 23 = 1 := by kernel_rfl
  obtain ⟨v, l, h1, h2, h4⟩ := opn_elems (α := (SlV × Int) × Nd) (en := fun x => eNd x.1) (R := fun x => x.1.2 = x.2.2 ∧ Sl eInt 1 w x.1.1.val x.2.1) (by omega) (fun x => len_eNd x.1) Try.underlying22 cells90 (fun n cs' y hy hl => by
      obtain ⟨y0, y1, m, hy', _, h0, h1⟩ := trod_struct2 Try.underlying90 hy
      obtain ⟨c0, c1, rfl⟩ := len2 hl
      obtain ⟨v1, l1, e1, s1, _⟩ := opn_ints Try.underlying23 (by kernel_rfl) (by kernel_rfl) h0
      obtain ⟨a, ea, wa⟩ := int_cell (by kernel_rfl) h1
      have e1' : c0 = v1 := by simpa [k23] using e1
      have ea' : c1 = .int .i64 a := by simpa [k3] using ea
      obtain ⟨z1, rfl⟩ := slv_of s1
      exact ⟨((z1, a), (l1, a)), ⟨rfl, s1⟩, by rw [ea', e1']; rfl⟩) h
  refine ⟨v, l.map (·.2), h1, l.map (·.1), ?_, by simp, ?_⟩
  · obtain ⟨ao, cap, hv, g1, g2, g3, g4⟩ := h2.shp
    refine ⟨ao, cap, by simpa using hv, by simpa using g1, g2, g3, ?_⟩
    rcases g4 with rfl | ⟨b, off, g5, g6, g7⟩
    · exact .inl rfl
    · exact .inr ⟨b, off, g5, g6, fun k hk j hj => by
        have hk' : k < l.length := by simpa using hk
        rw [g7 k hk' j hj]; simp⟩
  · intro k g1 g2
    have hk : k < l.length := by simpa using g1
    have := h4 _ (List.getElem_mem hk)
    simpa using this
end
end Go.Proofs.Ytcpmnocknpalfaa
namespace Go.Proofs.Ytcpmnocknpalfaa
open Go.RowKit Go.ChangeShapes Go.WideShapes Go.ChangeAt Go.Deep Go.Joins Go.Sl
set_option linter.unusedVariables false

section
variable {H : Type} {enc : TypeId × Value → H} {w : World} {base : Nat} {spare : Nat → Bool} {held : Bool}
theorem opn_graph_d {fuel : Nat} {cs : List Value} {d : DataW H} {ps : List MemPlace} (h : DataW.trod enc Try.prog w base spare held fuel 22 cs = some (d, ps)) :
    ∃ v g ds, cs = [v] ∧ (∃ es, Gr w v es g) ∧ ds.length = g.length ∧ ((d = .nil ∧ ds = []) ∨ ∃ sp, d = .slice ds sp) := by
  have k3 : Try.prog.cellsOf 3 = 1 := by kernel_rfl
  have k23 : Try.prog.cellsOf 23 = 1 := by kernel_rfl
  obtain ⟨v, l, ds, h1, h2, h3, h4, h5⟩ := opn_elems_d (α := (SlV × Int) × Nd) (en := fun x => eNd x.1) (R := fun x (_ : DataW H) => x.1.2 = x.2.2 ∧ Sl eInt 1 w x.1.1.val x.2.1) (by omega) (fun x => len_eNd x.1) Try.underlying22 cells90 (fun n cs' y hy hl => by
      obtain ⟨y0, y1, m, hy', _, h0, h1⟩ := trod_struct2 Try.underlying90 hy
      obtain ⟨c0, c1, rfl⟩ := len2 hl
      obtain ⟨v1, l1, e1, s1, _⟩ := opn_ints Try.underlying23 (by kernel_rfl) (by kernel_rfl) h0
      obtain ⟨a, ea, wa⟩ := int_cell (by kernel_rfl) h1
      have e1' : c0 = v1 := by simpa [k23] using e1
      have ea' : c1 = .int .i64 a := by simpa [k3] using ea
      obtain ⟨z1, rfl⟩ := slv_of s1
      exact ⟨((z1, a), (l1, a)), ⟨rfl, s1⟩, by rw [ea', e1']; rfl⟩) h
  refine ⟨v, l.map (·.2), ds, h1, ⟨l.map (·.1), ?_, by simp, ?_⟩, by simpa using h3, h5⟩
  · obtain ⟨ao, cap, hv, g1, g2, g3, g4⟩ := h2.shp
    refine ⟨ao, cap, by simpa using hv, by simpa using g1, g2, g3, ?_⟩
    rcases g4 with rfl | ⟨b, off, g5, g6, g7⟩
    · exact .inl rfl
    · exact .inr ⟨b, off, g5, g6, fun k hk j hj => by
        have hk' : k < l.length := by simpa using hk
        rw [g7 k hk' j hj]; simp⟩
  · intro k g1 g2
    have hk : k < l.length := by simpa using g1
    have := h4 k hk (by omega)
    simpa using this
theorem graph_bound {ts : List TypeId} {ds : List (DataW H)} (h : (DataW.weightsEach Try.prog ts ds).all (· ≤ reachBytes) = true) {j : Nat} {d : DataW H} (ht : ts[j]? = some 22) (hd : ds[j]? = some d) {el : List (DataW H)} (hel : (d = .nil ∧ el = []) ∨ ∃ sp, d = .slice el sp) {g : List Nd} (hl : el.length = g.length) :
    g.length ≤ 4398046511104 := by
  have kb : Try.prog.bytesOf 90 = 32 := by kernel_rfl
  rcases hel with ⟨-, rfl⟩ | ⟨sp, rfl⟩
  · rw [← hl]; simp
  · have := sized_slice h ht hd Try.underlying22
    have h2 := reachBytes_lt
    rw [kb] at this
    omega
end
end Go.Proofs.Ytcpmnocknpalfaa
