/-
  Layer 12: slices.Clone and slices.Insert at the table's type. No condition besides what the arguments are.
-/
import Derived.Test.YtopamnfelngkcaaDoorR21
import Derived.Shelf.RegionOpenPlain
import Derived.Deep.RegionLaw
namespace Go.Proofs.YtopamnfelngkcaaDoor.Rf
open Go.Proofs Go.RowKit Go.Shelf Go.Sl Go.Route Go.Refs
set_option linter.unusedVariables false

theorem step_copyR {P : Program} {ops : Array Oper} {o : Oper} {a : Act} {w : World} {K : Act → World → Prop} {Q : Exit → Act → World → Prop} {E : Prop}
    (hg : o.guard = none) (d x : Operand) (dT sT : TypeId) (hop : o.op = Op.call { callee := Callee.builtin Builtin.copy, args := #[d, x], argTypes := #[dT, sT] })
    (v u : Value) (hd : a.eval d = v) (hx : a.eval x = u) {v' : Value} {w' : World} (hr : (Builtin.copy_ #[dT, sT] o.type #[v, u]).run P w = .ok v' w') (hK : K (a.put o.dst v') w') :
    if Region.wanted o (yielded ops a.tmps) = true then Oper.wp P o a w K Q else E := by
  rw [if_pos (by simp [Region.wanted, hg])]
  exact wp_copyR w d x dT sT hop v u hd hx hr hK

theorem made0 (w : World) : Sl.Own eRf 33 w.heap.size 43 (w.alloc (.cells #[] 43)) (.slice (some ⟨w.heap.size, 0, none⟩) 0 0) [] := World.ownsRow_made w #[] 0 (Nat.le_refl _) (Nat.zero_le _) (by simp)

set_option maxRecDepth 100000 in
set_option maxHeartbeats 1000000 in
theorem clone_any (v : Value) (l : List Go.Sl.Rf) (w : World) (hv : Sl eRf 33 w v l) (hL : l.length ≤ 100000) :
    Calls Tryd.prog 89 #[v] w fun e w' => ∃ ov, e = .returned ov ∧ Sl.Own eRf 33 w.heap.size 43 w' ov l ∧ Below w.heap.size w w' := by
  obtain ⟨ao, cap, rfl, h1, h2, h3, _⟩ := hv.shp
  have q37 : ∀ (w : World) (a : Option Addr) (n c n' c' : Nat), (binOp .eql 37 (.slice a n c) (.slice none n' c')).run Tryd.prog w = .ok (.bool a.isNone) w := fun w a n c n' c' => Lib.run_eql_slice_nil w _ _ a n c n' c' Tryd.underlying37
  have s43 := sz43
  have HV := Lib.hid hv
  clear hv
  cases ao with
  | none =>
    obtain rfl := h3 rfl
    obtain rfl : l = [] := List.length_eq_zero_iff.1 (by omega)
    go_enter Tryd.func89, Tryd.ntmps89
    go_wp2_with fail
    go_ret
    exact ⟨_, rfl, Sl.Own.nil _ _ _ _ _, Below.refl _ _⟩
  | some a =>
    obtain ⟨b, o, sp⟩ := a
    go_enter Tryd.func89, Tryd.ntmps89
    go_wp2_with (at_builtin; go_must (refine wpList_append rfl (en := eRf) (s := 33) (base := w.heap.size) (e := 43) _ _ 37 rfl (vRf zRf) 48 Tryd.underlying37 info43 (size_eRf _) (by decide) len_eRf one_eRf _ _ [] l rfl (made0 w) rfl (HV.out.ext ((Below.refl _ _).alloc (Nat.le_refl _) _)) (by simp only [maxLen, List.length_nil]; omega) (by simp only [List.length_nil]; omega) (by simp) ?_; intro ov' w6 hown hgr hbel; have HO := Lib.hid hown; have HW := Lib.hid (((Below.refl _ w).alloc (Nat.le_refl _) (.cells #[] 43)).trans hbel); clear hown hgr hbel))
    go_ret
    exact ⟨_, rfl, HO.out, HW.out⟩
end Go.Proofs.YtopamnfelngkcaaDoor.Rf
