/-
  The argument of ScriptEdits opened. No condition.
-/
import Derived.Test.YtdlmdjhnigbfpaaO2
namespace Go.Proofs.Ytdlmdjhnigbfpaa
open Go.RowKit Go.ChangeShapes Go.WideShapes Go.ChangeAt Go.Deep Go.Joins Go.Sl
section
variable {H : Type} {enc : TypeId × Value → H} {w : World} {base : Nat} {spare : Nat → Bool} {held : Bool}
theorem opn_two {r : Reach} {b0 : Nat} {v : Value} {d : DataW H} {p : List MemPlace} (hv : Value.okWide Try.prog w r b0 61 v) (h : DataW.Trod enc Try.prog w base spare held 61 v d p) :
    ∃ va vb vl a b l, v = .agg #[va, vb, vl] ∧ Sl eStr 1 w va a ∧ Sl eStr 1 w vb b ∧ Sl ePair 2 w vl l := by
  obtain ⟨v0, v1, v2, y0, y1, y2, n, rfl, _, _, h0, h1, h2⟩ := open_agg3 Try.underlying61 (by kernel_rfl) (by kernel_rfl) hv h
  obtain ⟨x0, l0, _, e0, s0, _⟩ := opn_text h0
  obtain ⟨x1, l1, _, e1, s1, _⟩ := opn_text h1
  obtain ⟨x2, l2, e2, s2, _⟩ := opn_pairs h2
  obtain rfl : v0 = x0 := by simpa using e0
  obtain rfl : v1 = x1 := by simpa using e1
  obtain rfl : v2 = x2 := by simpa using e2
  exact ⟨_, _, _, _, _, _, rfl, s0, s1, s2⟩
end
end Go.Proofs.Ytdlmdjhnigbfpaa
