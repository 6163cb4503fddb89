/-
  A token as an argument, opened. No condition.
-/
import Derived.Test.YtolahnnkdpbdfaaL8
import Derived.Test.YtolahnnkdpbdfaaOpn3
namespace Go.Proofs.Ytolahnnkdpbdfaa
open Go.RowKit Go.ChangeShapes Go.WideShapes Go.ChangeAt Go.Deep Go.Joins Go.Sl
section
variable {H : Type} {enc : TypeId × Value → H} {w : World} {base : Nat} {spare : Nat → Bool} {held : Bool}
set_option maxRecDepth 100000 in
theorem opn_tok {r : Reach} {b0 : Nat} {v : Value} {d : DataW H} {p : List MemPlace} (hv : Value.okWide Try.prog w r b0 33 v) (h : DataW.Trod enc Try.prog w base spare held 33 v d p) :
    ∃ (K : Int) (x : ByteArray) (q : Int), v = .agg #[.int .i64 K, .string x, .int .i64 q] := by
  obtain ⟨v0, v1, v2, y0, y1, y2, n, rfl, _, _, h0, h1, h2⟩ := open_agg3 Try.underlying33 (by kernel_rfl) (by kernel_rfl) hv h
  obtain ⟨a, e0, _, _⟩ := DataW.trod_int (by kernel_rfl) h0
  obtain ⟨b, e1, _, _⟩ := DataW.trod_string (by kernel_rfl) h1
  obtain ⟨c, e2, _, _⟩ := DataW.trod_int (by kernel_rfl) h2
  obtain rfl : v0 = .int .i64 a := by simpa using e0
  obtain rfl : v1 = .string b := by simpa using e1
  obtain rfl : v2 = .int .i64 c := by simpa using e2
  exact ⟨_, _, _, rfl⟩
end
end Go.Proofs.Ytolahnnkdpbdfaa
