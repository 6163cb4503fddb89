/-
  Layer 20: Numbers. No condition besides what the arguments are.
-/
import Derived.Test.YtibebmdpjaknpaaW7
namespace Go.Proofs.Ytibebmdpjaknpaa
open Go.RowKit Go.Sl Go.Maps
set_option linter.unusedVariables false

theorem own_base {α : Type} {en : α → List Value} {s base base' : Nat} {e : TypeId} {v : Value} {l : List α} {W : World} (h : Sl.Own en s base e W v l) (hb : base' ≤ base) : Sl.Own en s base' e W v l := by
  refine ⟨h.1, ?_⟩
  rcases h.2 with h1 | ⟨g, cap, cur, h1, h2, h3⟩
  · exact .inl h1
  · exact .inr ⟨g, cap, cur, h1, Nat.le_trans hb h2, h3⟩

set_option maxRecDepth 100000 in
set_option maxHeartbeats 1000000 in
theorem numbers_any (va vb : Value) (a b : List (List UInt8)) (w : World) (ha : Sl eL 1 w va a) (hb : Sl eL 1 w vb b) (la : a.length ≤ 1000) (lb : b.length ≤ 1000) (sa : ∀ s ∈ a, (bstr s).size ≤ maxLen) (sb : ∀ s ∈ b, (bstr s).size ≤ maxLen) :
    Calls Try.prog 7 #[va, vb] w fun e w' => ∃ x y, e = .returned (.tuple #[x, y]) ∧ Sl.Own eInt 1 w.heap.size 3 w' x (zn (Line.nums [] a)) ∧ Sl.Own eInt 1 w.heap.size 3 w' y (zn (Line.nums (Line.kn [] a) b)) ∧ Below w.heap.size w w' := by
  have hmm := @run_makeMap Try.prog
  have Hb := Lib.hid hb
  have Ha := Lib.hid ha
  have Hsa := Lib.hid sa
  have Hsb := Lib.hid sb
  clear ha hb sa sb
  have hb2 : Below w.heap.size w ((w.alloc (.map #[] 0)).alloc (.cells #[.map (some w.heap.size)] 38)) := ((Below.refl _ w).alloc (Nat.le_refl _) _).alloc (by simp) _
  have hbx : ((w.alloc (.map #[] 0)).alloc (.cells #[.map (some w.heap.size)] 38)).heap[w.heap.size + 1]? = some (.cells #[.map (some w.heap.size)] 38 (0, 0)) := heap_new_at (by simp)
  have hom := (World.ownsMap_made w Try.prog 9 (plainElem (H := Unit) Try.prog 3)).alloc (.cells #[.map (some w.heap.size)] 38)
  have HC1 := Lib.hid (number_any va a w _ (w.heap.size + 1) w.heap.size 0 (.map []) [] Ha.out Hsa.out la (by omega) hb2 (Nat.le_refl _) hbx hom NumD.nil (by simp))
  have HBx := Lib.hid hbx
  have HB2 := Lib.hid hb2
  have hsz : ((w.alloc (.map #[] 0)).alloc (.cells #[.map (some w.heap.size)] 38)).heap.size = w.heap.size + 2 := by simp
  have HSZ := Lib.hid hsz
  have hkl : (Line.kn ([] : List (List UInt8)) a).length ≤ 1000 := by
    have := Line.kn_len ([] : List (List UInt8)) a
    simp at this; omega
  clear hb2 hbx hom hsz
  go_enter Try.func7, Try.ntmps7
  go_wp2_with (first
    | (have _g := HC2.out; go_at_call 19; go_must (refine HC2.out.mono ?_; rintro e w4 ⟨y, D2, rfl, hy, -, -, hg4⟩; have HY := Lib.hid hy; have HX2 := Lib.hid (HX.out.kept hg4 (.inr (fun e => own_not_map HX.out HM.out e))); have HW4 := Lib.hid (HW3.out.grown hg4 HW3.out.size (fun j e => by cases e; exact Nat.le_refl _)); clear hy hg4))
    | (go_at_call 19; go_must (refine HC1.out.mono ?_; rintro e w3 ⟨x, D1, rfl, hx, hm, hd, hg3⟩; have hb3 := HB2.out.grown hg3 HB2.out.size (fun j e => by cases e; exact Nat.le_refl _); have hbx3 := grown_heap hg3 HBx.out (by simp); have HC2 := Lib.hid (number_any vb b w w3 (w.heap.size + 1) w.heap.size (0 + a.length) D1 (Line.kn [] a) Hb.out Hsb.out lb (by omega) hb3 (Nat.le_refl _) hbx3 hm hd hkl); have HX := Lib.hid hx; have HM := Lib.hid hm; have HW3 := Lib.hid hb3; clear hx hm hd hg3 hb3 hbx3)))
  go_ret2
  exact ⟨_, _, rfl, own_base HX2.out (by rw [HSZ.out]; omega), own_base HY.out HW3.out.size, HW4.out⟩
end Go.Proofs.Ytibebmdpjaknpaa
