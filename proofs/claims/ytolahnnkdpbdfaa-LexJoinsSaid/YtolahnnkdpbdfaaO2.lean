/-
  Tokens as an argument, opened. No condition.
-/
import Derived.Test.YtolahnnkdpbdfaaO1
import Derived.Test.YtolahnnkdpbdfaaJ1
namespace Go.Proofs.Ytolahnnkdpbdfaa
open Go.RowKit Go.ChangeShapes Go.WideShapes Go.ChangeAt Go.Deep Go.Joins Go.Sl
section
variable {H : Type} {enc : TypeId × Value → H} {w : World} {base : Nat} {spare : Nat → Bool} {held : Bool}
set_option maxRecDepth 100000 in
theorem opn_toks {fuel : Nat} {cs : List Value} {x : DataW H × List MemPlace} (h : DataW.trod enc Try.prog w base spare held fuel 23 cs = some x) : ∃ v l, cs = [v] ∧ Sl eTk 3 w v l := by
  obtain ⟨v, l, e, s, _⟩ := opn_elems (R := fun _ => True) (en := eTk) (by omega) len_eTk Try.underlying23 cells33 (fun n cs' y hy hl => by
    obtain ⟨y0, y1, y2, m, _, _, h0, h1, h2⟩ := trod_struct3 Try.underlying33 hy
    match cs', hl with
    | [c0, c1, c2], _ =>
      obtain ⟨a, ea, _, _⟩ := DataW.trod_int (by kernel_rfl) h0
      obtain ⟨b, eb, _, _⟩ := DataW.trod_string (by kernel_rfl) h1
      obtain ⟨c, ec, _, _⟩ := DataW.trod_int (by kernel_rfl) h2
      obtain ⟨m, rfl, -⟩ := bstr_of b
      exact ⟨(a, m, c), trivial, by
        have k : Try.prog.cellsOf 3 = 1 := by kernel_rfl
        have k9 : Try.prog.cellsOf 9 = 1 := by kernel_rfl
        have e1 : c0 = .int .i64 a := by simpa [k, k9] using ea
        have e2 : c1 = .string (bstr m) := by simpa [k, k9] using eb
        have e3 : c2 = .int .i64 c := by simpa [k, k9] using ec
        rw [e1, e2, e3]; rfl⟩) h
  exact ⟨v, l, e, s⟩
end
end Go.Proofs.Ytolahnnkdpbdfaa
