/-
  The law RefsKeeps holds for every input: it returns true and leaves its arguments as they were. No condition.
-/
import Derived.Test.YtopamnfelngkcaaDoorKD
import Derived.Test.YtopamnfelngkcaaDoorRO
import Derived.Test.YtopamnfelngkcaaDoorShelf2
import Derived.Test.YtopamnfelngkcaaDoorHandS
import Derived.Test.YtopamnfelngkcaaDoorOpn3
import Derived.Test.YtopamnfelngkcaaDoorRows
import Derived.Test.YtopamnfelngkcaaDoorCards
import Derived.Test.YtopamnfelngkcaaDoorTie
import Derived.WalkKit
import Derived.ProofKit
import Derived.OpenShut
import Derived.ShutString
import Derived.ChangeOld
import Derived.Below
import Derived.LaidLaws
import Derived.LaidHandle
import Derived.SevenTiedAt
import Derived.JoinedOf
namespace Go.Proofs.YtopamnfelngkcaaDoor.refsKeeps
open Go.ChangeShapes Go.WideShapes Go.ChangeAt Go.RowKit Go.Sl
open Go.ChangeMaps (open_string shut_string)
set_option linter.unusedVariables false

theorem own : ownKnob Tryd.prog.godebug = none := by kernel_rfl
/-- a table's numbers as cells -/
def cellOf : DataW Unit → Value
  | .lit (.int k n) => .int k n
  | _ => undef
def row1 : DataW Unit → List Value
  | .agg l => l.map cellOf
  | _ => []
def row2 : DataW Unit → List Value
  | .agg l => (l.map row1).flatten
  | _ => []
/-- a world in which the listed tables lie -/
noncomputable def layAt (w : World) (b : Nat) (l : List Value) : World :=
  { w with heap := w.heap.modify b fun
      | .cells _ t frozen => .cells l.toArray t frozen
      | o => o }
noncomputable def laidWorld (os : Os) : World :=
  (layAt (layAt (World.holding Tryd.prog os ⟨#[], #[], []⟩) 2 (row2 Rows.laid_unicode_utf8_acceptRanges)) 1 (row1 Rows.laid_unicode_utf8_first))
theorem laidOut : laidOutB Tryd.prog = true := by kernel_rfl

theorem laidWorld_met (os : Os) (args : Array Value) : laidMetH Tryd.prog Rows.refsKeepsRow.laid ((laidWorld os).forCall (fun _ _ => 0) ⟨#[], args, []⟩).memory :=
  laidMetH_of_parts (laidMet_of_run' 8 (by kernel_rfl) (by kernel_rfl)) (by kernel_rfl)

set_option maxRecDepth 100000 in
theorem lifted (os : Os) (started : os.Started) (H : Type) (enc : TypeId × Value → H) :
    ReturnsInHanded {} Tryd.checked os 14 .any (fun w args => (Rows.refsKeepsSpec.pre enc Tryd.prog Tryd.f14 Rows.refsKeepsRow.domain false w args ∧ laidMetH Tryd.prog Rows.refsKeepsRow.laid w) ∧ sizedMet enc Tryd.prog Tryd.f14 (OpenSpec.ofChange Rows.refsKeepsSpec) false w args)
      (Rows.refsKeepsSpec.post enc Tryd.prog Tryd.f14 false true false false) := by
  refine handed_and_shaped (C := Tryd.checked) (X := fun w _ => laidMetH Tryd.prog Rows.refsKeepsRow.laid w) (fun _ _ _ hh h => h.of_heap hh) own started (by kernel_rfl) Tryd.func14
    (ChangeSpec.witness_at (enc := enc) (C := Tryd.checked) (os := os) (X := fun w _ => laidMetH Tryd.prog Rows.refsKeepsRow.laid w) false (laidWorld os) #[.slice none 0 0, .string .empty, .agg (Array.replicate 32 (.int .u8 0))] 8 rfl (by kernel_rfl) (by kernel_rfl) (by kernel_rfl) (by kernel_rfl) (by kernel_rfl) (laidWorld_met os _)) ?_
  intro W base args ds gs before hval0 hW _ hwt hsh _ _
  have hval : ∀ (j : Nat) t v, Tryd.f14.params[j]? = some t → args[j]? = some v → Value.okWide Tryd.prog W .any base t v := hval0
  have hW' := hW
  obtain ⟨p, q, hA0, hV, rfl, hfz, hnd⟩ := hW
  have hA : DataW.TrodAll enc Tryd.prog W 0 (fun _ => true) true Tryd.f14.params.toList args.toList ds p := hA0
  rw [Tryd.params14] at hA hval
  obtain ⟨v0, vs0, d0, ds0, p0, q0, hargs, rfl, rfl, h0, r0⟩ := trodAll_cons hA
  obtain ⟨v1, vs1, d1, ds1, p1, q1, rfl, rfl, rfl, h1, r1⟩ := trodAll_cons r0
  obtain ⟨v2, vs2, d2, ds2, p2, q2, rfl, rfl, rfl, h2, r2⟩ := trodAll_cons r1
  obtain ⟨rfl, rfl, rfl⟩ := trodAll_nil r2
  obtain rfl : args = #[v0, v1, v2] := by cases args; simp_all
  obtain ⟨rfl, rfl⟩ := trodVars_none hV
  have k0 := h0
  have lt0 : ∀ x ∈ p0, x.block < W.heap.size := by obtain ⟨m, hm⟩ := k0; exact DataW.trod_lt m _ _ _ hm
  obtain ⟨ao0, len0, cap0, hv0⟩ := okWide_slice Tryd.underlying37 (hval 0 37 v0 rfl rfl)
  obtain ⟨fuel0, x0, hf0⟩ := one_cell h0 hv0
  obtain ⟨v0', l0, e0, s0⟩ := Rf.opn_refs hf0
  obtain rfl : v0 = v0' := by simpa using e0
  have k1 := h1
  have lt1 : ∀ x ∈ p1, x.block < W.heap.size := by obtain ⟨m, hm⟩ := k1; exact DataW.trod_lt m _ _ _ hm
  obtain ⟨a1, rfl, rfl, rfl, w1⟩ := open_string Tryd.underlying9 (hval 1 9 v1 rfl rfl) h1
  have k2 := h2
  have lt2 : ∀ x ∈ p2, x.block < W.heap.size := by obtain ⟨m, hm⟩ := k2; exact DataW.trod_lt m _ _ _ hm
  obtain ⟨i2, rfl⟩ := (fun _ h => Rf.opn_idv h) (hval 2 39 v2 rfl rfl) h2
  clear hA0 hval0
  refine Calls.mono (R := fun e w' => e = .returned (.bool true) ∧ Below W.heap.size W w') (by obtain ⟨l1, rfl, -⟩ := bstr_of a1; exact Rf.refsKeeps_any _ _ _ _ W s0.1 s0.2 (by have h1 : l1.length ≤ 140737488355328 := Rf.str_bound hwt (j := 1) (t := 9) (s := l1) rfl rfl; omega) (Tryd.laysM146.s1_3 W hsh)) fun e W' ⟨he, bel⟩ => ?_
  subst he
  exact ⟨_, rfl, _, _, _, [], _, [], hW', trodAll_mk1 (shut_bool Tryd.underlying4 _), (trodAll_cons_mk (Below.trod laidOut (by kernel_rfl) (of_decide_eq_true (by kernel_rfl)) k0 bel lt0) (trodAll_cons_mk (Below.trod laidOut (by kernel_rfl) (of_decide_eq_true (by kernel_rfl)) k1 bel lt1) (trodAll_cons_mk (Below.trod laidOut (by kernel_rfl) (of_decide_eq_true (by kernel_rfl)) k2 bel lt2) trodAll_mk0))), rfl, bel.frame _, fun h => by cases h⟩

theorem row_proved : Rows.RefsKeepsSaid :=
  OpenClaim.holds_of_wide 14 Tryd.f14 rfl rfl rfl rfl rfl rfl rfl ⟨rfl, rfl, rfl, rfl, rfl⟩ rfl rfl rfl rfl rfl (by kernel_rfl) Tryd.func14 (by kernel_rfl)
    (of_decide_eq_true (by kernel_rfl)) (by unfold Func.isWrapper; first | (rw [if_pos (by decide +kernel)]; kernel_rfl) | (rw [if_neg (by decide +kernel)]; exact ⟨rfl, rfl⟩))
    (fun os started H enc _ => lifted os started H enc)
theorem proved : Rows.RefsKeepsCardSaid :=
  Claim7.holds_tied_plain_at .later [] [.data, .pinned] true (true, "68083e3a969a3813233239de7e874619da711f2043e9ffca7711b2e8b0bdf765") false
    row_proved (fun _ h => by cases h) (by kernel_rfl) (fun _ h => by cases h) refsKeeps_row_tie rfl ⟨rfl, rfl⟩ (by kernel_rfl) rfl
    (fun f fn hf hfn => by
      obtain rfl : f = 14 := Option.some.inj ((show Tryd.prog.funcNamed "sleuth/sleuthlaw12.RefsKeeps" = some 14 by kernel_rfl).symm.trans hf) |>.symm
      obtain rfl : fn = Tryd.f14 := (Option.some.inj (Tryd.func14.symm.trans hfn)).symm
      exact ⟨by kernel_rfl, fun j t ht => by
        rw [Tryd.params14] at ht
        have h3 : t = 37 ∨ t = 9 ∨ t = 39 := by
          rcases j with _ | j
          · have := ht; simp at this; subst this; simp
          rcases j with _ | j
          · have := ht; simp at this; subst this; simp
          rcases j with _ | j
          · have := ht; simp at this; subst this; simp
          simp at ht
        rcases h3 with rfl | rfl | rfl
        · exact (show Tryd.prog.wantsStandIn 37 = false by kernel_rfl)
        · exact (show Tryd.prog.wantsStandIn 9 = false by kernel_rfl)
        · exact (show Tryd.prog.wantsStandIn 39 = false by kernel_rfl)⟩)
    (by kernel_rfl)
end Go.Proofs.YtopamnfelngkcaaDoor.refsKeeps
