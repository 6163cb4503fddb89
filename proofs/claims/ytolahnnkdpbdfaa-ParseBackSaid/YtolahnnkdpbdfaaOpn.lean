/-
  An argument's reading as data, opened as a list: bytes, integers, strings, slices of these. No program is named here.
-/
import Derived.Test.YtolahnnkdpbdfaaSl
import Derived.ProofKit
import Derived.OpenShut
import Derived.ShutString
import Derived.ChangeOld
import Derived.SliceStrings
import Derived.Deep.Slices
import Derived.Lib.SmallJoins
namespace Go.Sl
open Go.RowKit Go.ChangeShapes Go.WideShapes Go.ChangeAt Go.Deep Go.Joins

section
variable {H : Type} {enc : TypeId × Value → H} {P : Program} {w : World} {base : Nat} {spare : Nat → Bool} {held : Bool}

theorem plain_of_cell {a : Addr} {v : Value} (h : w.cell? a = some v) : a = ⟨a.block, a.off, none⟩ ∧ a.block < w.heap.size := by
  have h1 : a.spot = none := World.cell?_spot h
  have h2 := World.block_lt_of_cell? w _ h
  refine ⟨?_, h2⟩
  cases a; simp_all

/-- of cells at a.add k: a list of one-cell elements -/
theorem Sl.of_cells {α : Type} {en : α → List Value} {s : Nat} {ao : Option Addr} {cap : Nat} {l : List α} (hlc : l.length ≤ cap) (hm : cap ≤ maxLen) (hn : ao = none → cap = 0) (hs : 0 < s) (hen : ∀ x, (en x).length = s)
    (h : ∀ a, ao = some a → ∀ k (hk : k < l.length) j, j < s → w.cell? (a.add (k * s + j)) = (en l[k])[j]?) : Sl en s w (.slice ao l.length cap) l := by
  refine ⟨ao, cap, rfl, hlc, hm, hn, ?_⟩
  cases l with
  | nil => exact .inl rfl
  | cons x l =>
    right
    cases ao with
    | none => have := hn rfl; simp at hlc; omega
    | some a =>
      have h0 := h a rfl 0 (by simp) 0 hs
      have h1 : (en ((x :: l)[0]'(by simp)))[0]? = some ((en x)[0]'(by rw [hen]; exact hs)) := by simp
      rw [h1, show 0 * s + 0 = 0 by omega] at h0
      have h0 : w.cell? a = some ((en x)[0]'(by rw [hen]; exact hs)) := by simpa [Addr.add] using h0
      obtain ⟨e1, e2⟩ := plain_of_cell h0
      refine ⟨a.block, a.off, by rw [← e1], e2, fun k hk j hj => ?_⟩
      have h2 := h a rfl k hk j hj
      rw [e1, Addr.add_lit] at h2
      rw [Nat.add_assoc]; exact h2

def toByte (n : Int) : UInt8 := UInt8.ofNat n.toNat
theorem toByte_eq {n : Int} (h : (Lit.int .u8 n).wf = true) : ((toByte n).toNat : Int) = n := by
  have h1 : IntKind.u8.min = 0 := rfl
  have h2 : IntKind.u8.max = 255 := rfl
  simp only [Lit.wf, Bool.and_eq_true, decide_eq_true_eq] at h
  unfold toByte
  rw [UInt8.toNat_ofNat']
  omega

theorem opn_bytes {t e : TypeId} {fuel : Nat} {cs : List Value} {x : DataW H × List MemPlace} (ht : P.underlying t = some (.slice e)) (he : P.underlying e = some (.int .u8)) (hc : P.cellsOf e = 1)
    (h : DataW.trod enc P w base spare held fuel t cs = some x) : ∃ v l, cs = [v] ∧ Sl eByte 1 w v l := by
  rcases open_ints ht he hc h with ⟨hcs, hx⟩ | ⟨a, len, cap, zs, hcs, _, hl, hm, hz, hx, hcell, hwz⟩
  · exact ⟨_, [], hcs, Sl.nil _ _ _⟩
  · have hlz : len ≤ zs.length := by rw [hz]; split <;> omega
    refine ⟨_, (zs.take len).map toByte, hcs, ?_⟩
    have hlen : ((zs.take len).map toByte).length = len := by simp; omega
    have hn : (some a : Option Addr) = none → cap = 0 := fun h => by cases h
    have := Sl.of_cells (w := w) (en := eByte) (s := 1) (ao := some a) (cap := cap) (l := (zs.take len).map toByte) (by omega) hm hn (by omega) len_eByte (by
      intro a' ha k hk j hj
      obtain rfl := Option.some.inj ha
      obtain rfl : j = 0 := by omega
      have hk' : k < zs.length := by omega
      rw [Nat.mul_one, Nat.add_zero, hcell k hk']
      simp only [eByte, List.getElem?_cons_zero, List.getElem_map, List.getElem_take]
      rw [toByte_eq (hwz _ (List.getElem_mem hk'))]
      simp [List.getD, hk'])
    rw [hlen] at this
    exact this

theorem opn_ints {t e : TypeId} {fuel : Nat} {cs : List Value} {x : DataW H × List MemPlace} (ht : P.underlying t = some (.slice e)) (he : P.underlying e = some (.int .i64)) (hc : P.cellsOf e = 1)
    (h : DataW.trod enc P w base spare held fuel t cs = some x) : ∃ v l, cs = [v] ∧ Sl eInt 1 w v l ∧ ∀ n ∈ l, (Lit.int .i64 n).wf = true := by
  rcases open_ints ht he hc h with ⟨hcs, hx⟩ | ⟨a, len, cap, zs, hcs, _, hl, hm, hz, hx, hcell, hwz⟩
  · exact ⟨_, [], hcs, Sl.nil _ _ _, by simp⟩
  · have hlz : len ≤ zs.length := by rw [hz]; split <;> omega
    refine ⟨_, zs.take len, hcs, ?_, fun n hn => hwz n (List.mem_of_mem_take hn)⟩
    have hlen : (zs.take len).length = len := by simp; omega
    have hn : (some a : Option Addr) = none → cap = 0 := fun h => by cases h
    have := Sl.of_cells (w := w) (en := eInt) (s := 1) (ao := some a) (cap := cap) (l := zs.take len) (by omega) hm hn (by omega) len_eInt (by
      intro a' ha k hk j hj
      obtain rfl := Option.some.inj ha
      obtain rfl : j = 0 := by omega
      have hk' : k < zs.length := by omega
      rw [Nat.mul_one, Nat.add_zero, hcell k hk']
      simp [eInt, List.getD, hk'])
    rw [hlen] at this
    exact this

theorem opn_strs {t e : TypeId} {fuel : Nat} {cs : List Value} {x : DataW H × List MemPlace} (ht : P.underlying t = some (.slice e)) (he : P.underlying e = some .string) (hc : P.cellsOf e = 1)
    (h : DataW.trod enc P w base spare held fuel t cs = some x) : ∃ v l, cs = [v] ∧ Sl eStr 1 w v l ∧ ∀ s ∈ l, s.size ≤ maxLen := by
  rcases open_strings ht he hc h with ⟨hcs, hx⟩ | ⟨a, len, cap, zs, hcs, _, hl, hm, hz, hx, hcell, hwz⟩
  · exact ⟨_, [], hcs, Sl.nil _ _ _, by simp⟩
  · have hlz : len ≤ zs.length := by rw [hz]; split <;> omega
    refine ⟨_, zs.take len, hcs, ?_, fun n hn => hwz n (List.mem_of_mem_take hn)⟩
    have hlen : (zs.take len).length = len := by simp; omega
    have hn : (some a : Option Addr) = none → cap = 0 := fun h => by cases h
    have := Sl.of_cells (w := w) (en := eStr) (s := 1) (ao := some a) (cap := cap) (l := zs.take len) (by omega) hm hn (by omega) len_eStr (by
      intro a' ha k hk j hj
      obtain rfl := Option.some.inj ha
      obtain rfl : j = 0 := by omega
      have hk' : k < zs.length := by omega
      rw [Nat.mul_one, Nat.add_zero, hcell k hk']
      simp [eStr, List.getD, hk'])
    rw [hlen] at this
    exact this

/-- a slice of one-cell elements, each of which opens by itself -/
theorem opn_vals {t e : TypeId} {fuel : Nat} {cs : List Value} {x : DataW H × List MemPlace} (ht : P.underlying t = some (.slice e)) (hc : P.cellsOf e = 1)
    (h : DataW.trod enc P w base spare held fuel t cs = some x) :
    ∃ v vs, cs = [v] ∧ Sl eVal 1 w v vs ∧ ∀ k (hk : k < vs.length), ∃ n y, DataW.trod enc P w base spare held n e [vs[k]] = some y := by
  rcases open_slice1 ht hc h with ⟨hcs, hx⟩ | ⟨a, len, cap, m, n, V, D, Pl, hcs, _, hl, hm, hmm, hx, hV⟩
  · exact ⟨_, [], hcs, Sl.nil _ _ _, by simp⟩
  · have hlm : len ≤ m := by rw [hmm]; split <;> omega
    refine ⟨_, (List.range len).map V, hcs, ?_, ?_⟩
    · have hn : (some a : Option Addr) = none → cap = 0 := fun h => by cases h
      have := Sl.of_cells (w := w) (en := eVal) (s := 1) (ao := some a) (cap := cap) (l := (List.range len).map V) (by simpa using hl) hm hn (by omega) len_eVal (by
        intro a' ha k hk j hj
        obtain rfl := Option.some.inj ha
        obtain rfl : j = 0 := by omega
        simp at hk
        rw [Nat.mul_one, Nat.add_zero, (hV k (by omega)).1]
        simp [eVal])
      simpa using this
    · intro k hk
      simp at hk
      refine ⟨n, (D k, Pl k), ?_⟩
      rw [List.getElem_map, List.getElem_range]
      exact (hV k (by omega)).2

theorem choose_list {α : Type} {p : Nat → α → Prop} (n : Nat) (h : ∀ k, k < n → ∃ x, p k x) : ∃ l : List α, l.length = n ∧ ∀ k (hk : k < l.length), p k l[k] := by
  induction n with
  | zero => exact ⟨[], rfl, by simp⟩
  | succ n ih =>
    obtain ⟨l, hl, hp⟩ := ih (fun k hk => h k (by omega))
    obtain ⟨x, hx⟩ := h n (by omega)
    refine ⟨l ++ [x], by simp [hl], fun k hk => ?_⟩
    rw [List.getElem_append]
    split
    · exact hp k _
    · have : k = n := by simp at hk; omega
      subst this; simpa [hl] using hx

theorem opn_bytess {t e b : TypeId} {fuel : Nat} {cs : List Value} {x : DataW H × List MemPlace} (ht : P.underlying t = some (.slice e)) (hc : P.cellsOf e = 1) (he : P.underlying e = some (.slice b)) (hb : P.underlying b = some (.int .u8)) (hbc : P.cellsOf b = 1)
    (h : DataW.trod enc P w base spare held fuel t cs = some x) : ∃ v vs ls, cs = [v] ∧ Sls eByte 1 w v vs ls := by
  obtain ⟨v, vs, hcs, hv, hin⟩ := opn_vals ht hc h
  obtain ⟨ls, hl, hp⟩ := choose_list (p := fun k l => ∀ hk : k < vs.length, Sl eByte 1 w vs[k] l) vs.length (fun k hk => by
    obtain ⟨n, y, hy⟩ := hin k hk
    obtain ⟨v', l, h1, h2⟩ := opn_bytes he hb hbc hy
    obtain rfl : vs[k] = v' := by simpa using h1
    exact ⟨l, fun _ => h2⟩)
  exact ⟨v, vs, ls, hcs, hv, hl.symm, fun k h1 h2 => hp k h2 h1⟩

/-- a value that is one cell reads as what its cell reads as -/
theorem one_cell {t : TypeId} {v : Value} {d : DataW H} {ps : List MemPlace} (h : DataW.Trod enc P w base spare held t v d ps) {a : Option Addr} {n c : Nat} (hv : v = .slice a n c) : ∃ fuel x, DataW.trod enc P w base spare held fuel t [v] = some x := by
  subst hv
  obtain ⟨fuel, hf⟩ := h
  exact ⟨fuel, _, by simpa [Value.cells] using hf⟩
end

theorem toBv_eq {n : Int} (h : (Lit.int .u32 n).wf = true) : n = ((BitVec.ofInt 32 n).toNat : Int) := by
  have h1 : IntKind.u32.min = 0 := rfl
  have h2 : IntKind.u32.max = 4294967295 := rfl
  simp only [Lit.wf, Bool.and_eq_true, decide_eq_true_eq] at h
  rw [BitVec.toNat_ofInt]; omega
end Go.Sl
