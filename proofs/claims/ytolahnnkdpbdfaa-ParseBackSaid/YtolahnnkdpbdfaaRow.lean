/-
  Rows of integers that the call makes itself, by make; and counters that go down to -1. No program is named here.
-/
import Derived.Test.YtolahnnkdpbdfaaSl
import Derived.Deep.OwnRows
namespace Go.Sl
open Go.RowKit

theorem take_snoc' {α : Type} (l : List α) (k : Nat) (h : k < l.length) : l.take (k + 1) = l.take k ++ [l[k]] := by
  rw [List.take_succ_eq_append_getElem h]

/-- a store beside what is known of the first cells -/
theorem row_step {F : Nat → Value} {f : Nat → Value} {j : Nat} {v : Value} (h : ∀ m, m ≤ j → F m = f m) (hv : v = f (j + 1)) :
    ∀ m, m ≤ j + 1 → (fun i => if i = j + 1 then v else F i) m = f m := by
  intro m hm
  by_cases e : m = j + 1
  · subst e; simp [hv]
  · simp only [e, if_false]; exact h m (by omega)

/-- a counter that stands ahead of k, on its way down: k - 1 -/
def Down (k : Nat) (i : Value) : Prop := (∃ q : Nat, k = q + 1 ∧ i = .int .i64 q) ∨ (k = 0 ∧ i = .int .i64 (-1))
theorem Down.of (k : Nat) : Down k (.int .i64 ((k : Int) - 1)) := by
  cases k with
  | zero => exact .inr ⟨rfl, rfl⟩
  | succ q => exact .inl ⟨q, rfl, by congr 1; omega⟩

theorem max_cast (p q : Nat) : Value.int .i64 (if p < q then (q : Int) else (p : Int)) = .int .i64 ((max p q : Nat) : Int) := by
  congr 1; split <;> omega

/-- the place of element k in a later world -/
theorem Sl.atB {α : Type} {en : α → List Value} {s : Nat} {w wr : World} {v : Value} {l : List α} {P : Program} {t e : TypeId} (h : Sl en s w v l) (hb : Below w.heap.size w wr) (ht : P.underlying t = some (.slice e)) (hs : P.cellsOf e = s) (hi : (P.info? e).isSome = true) {k : Nat} (hk : k < l.length) :
    ∃ b o, b < w.heap.size ∧ (∀ (ik : IntKind) (u : World), (Instr.indexAt t v (.int ik (k : Int))).run P u = .ok (.pointer (some ⟨b, o, none⟩)) u) ∧ ∀ j, j < s → wr.cell? ⟨b, o + j, none⟩ = (en l[k])[j]? := by
  obtain ⟨b, o, h1, h2, h3⟩ := h.at ht hs hi hk
  exact ⟨b, o, h1, h2, fun j hj => (hb.cell (p := ⟨b, o + j, none⟩) h1).trans (h3 j hj)⟩

theorem rowIs_drewN {w : World} {b n : Nat} {t : TypeId} {f : Nat → Value} (h : w.rowIs b t n f) (k : Nat) : (w.drewN k).rowIs b t n f := h
theorem below_drewN {B : Nat} {w w' : World} (h : Below B w w') (k : Nat) : Below B w (w'.drewN k) := ⟨h.os, h.tape, h.output, h.size, h.block⟩
/-- a store beside what is known of the last cells -/
theorem row_down {F : Nat → Value} {f : Nat → Value} {j n : Nat} {v : Value} (h : ∀ m, j + 1 ≤ m → m ≤ n → F m = f m) (hv : v = f j) :
    ∀ m, j ≤ m → m ≤ n → (fun i => if i = j then v else F i) m = f m := by
  intro m hm hn
  by_cases e : m = j
  · subst e; simp [hv]
  · simp only [e, if_false]; exact h m (by omega) hn
theorem row_over {F : Nat → Value} {f : Nat → Value} {j n : Nat} {v : Value} (h : ∀ m, j + 1 ≤ m → m ≤ n → F m = f m) : ∀ m, j + 1 ≤ m → m ≤ n → (fun i => if i = j then v else F i) m = f m := by
  intro m hm hn
  have e : m ≠ j := by omega
  simp only [e, if_false]; exact h m hm hn

/-- two rows made in one statement -/
theorem two_made (w : World) (n : Nat) (e : TypeId) (z : Value) : ((w.alloc (.cells (madeCells #[z] n) e)).alloc (.cells (madeCells #[z] n) e)).drew.rowIs w.heap.size e n (fun _ => z) ∧
    ((w.alloc (.cells (madeCells #[z] n) e)).alloc (.cells (madeCells #[z] n) e)).drew.rowIs (w.heap.size + 1) e n (fun _ => z) ∧
    Below w.heap.size w ((w.alloc (.cells (madeCells #[z] n) e)).alloc (.cells (madeCells #[z] n) e)).drew := by
  refine ⟨((World.rowIs_made w _ n e).alloc _).drew, ?_, (((Below.refl _ _).alloc (Nat.le_refl _) _).alloc (by simp) _).drew⟩
  have := World.rowIs_made (w.alloc (.cells (madeCells #[z] n) e)) z n e
  rw [World.size_alloc] at this
  exact this.drew
end Go.Sl
