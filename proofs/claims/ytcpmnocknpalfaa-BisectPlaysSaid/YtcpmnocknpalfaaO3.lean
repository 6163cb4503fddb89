/-
  Arguments of layer 34 opened: what the call has been given, answers. No condition.
-/
import Derived.Test.YtcpmnocknpalfaaO1
import Derived.Test.YtcpmnocknpalfaaT9
namespace Go.Proofs.Ytcpmnocknpalfaa
open Go.B64 Go.Bis Go.RowKit Go.ChangeShapes Go.WideShapes Go.ChangeAt Go.Deep Go.Joins Go.Sl
set_option linter.unusedVariables false


def eSay (x : Int × Int × Bool) : List Value := [.int .i64 x.1, .int .i64 x.2.1, .bool x.2.2]
theorem len_eSay (x : Int × Int × Bool) : (eSay x).length = 3 := rfl
theorem cells63 : Try.prog.cellsOf 63 = 3 := by kernel_rfl
theorem some63 : (Try.prog.info? 63).isSome = true := by kernel_rfl
/-- what the call has been given -/
structure Asked (w : World) (gv lv : Value) (es : List (SlV × Int)) (g : List Nd) (l : List Int) : Prop where
  gr : Gr w gv es g
  sl : Sl eInt 1 w lv l
theorem newE_cases (g : List Nd) (bad : Int) (l : List Int) : newE g bad l = 12 ∨ newE g bad l = 2 ∨ newE g bad l = 50 ∨ newE g bad l = 0 := by
  unfold newE
  split
  · split
    · split
      · exact .inr (.inr (.inl rfl))
      · exact .inr (.inr (.inr rfl))
    · exact .inr (.inl rfl)
  · exact .inl rfl
theorem newE_zero {g : List Nd} {bad : Int} {l : List Int} (h : newE g bad l = 0) : Dag.okG g ∧ Ok g (newS g bad l) ∧ ∃ bn : Nat, bad = (bn : Int) ∧ bn < g.length := by
  unfold newE at h
  split at h
  · rename_i hg
    split at h
    · rename_i hi
      split at h
      · cases h
      · rename_i hf
        have hb := hi bad (by simp)
        refine ⟨hg, Ok.first hg (by omega) (by simpa using hf), bad.toNat, by omega, by omega⟩
    · cases h
  · cases h

section
variable {H : Type} {enc : TypeId × Value → H} {w : World} {base : Nat} {spare : Nat → Bool} {held : Bool}

theorem len3 {α : Type} {l : List α} (h : l.length = 3) : ∃ a b c, l = [a, b, c] := by
  match l, h with
  | [a, b, c], _ => exact ⟨a, b, c, rfl⟩
theorem cells55 : Try.prog.cellsOf 55 = 3 := by kernel_rfl
set_option maxRecDepth 100000 in
theorem opn_asked {r : Reach} {b0 : Nat} {v : Value} {d : DataW H} {p : List MemPlace} (hv : Value.okWide Try.prog w r b0 55 v) (h : DataW.Trod enc Try.prog w base spare held 55 v d p) :
    ∃ gv bad lv es g l, v = .agg #[gv, .int .i64 bad, lv] ∧ Asked w gv lv es g l := by
  obtain ⟨v0, v1, v2, y0, y1, y2, n, rfl, -, -, h0, h1, h2⟩ := open_agg3 Try.underlying55 (by kernel_rfl) cells55 hv h
  obtain ⟨gv, g, e0, es, hg⟩ := opn_graph h0
  obtain ⟨bad, e1, -⟩ := int_cell (by kernel_rfl) h1
  obtain ⟨lv, l, e2, hl, -⟩ := opn_ints Try.underlying23 (by kernel_rfl) (by kernel_rfl) h2
  obtain rfl : v0 = gv := by simpa using e0
  obtain rfl : v1 = .int .i64 bad := by simpa using e1
  obtain rfl : v2 = lv := by simpa using e2
  exact ⟨_, _, _, es, g, l, rfl, hg, hl⟩
theorem opn_says {fuel : Nat} {cs : List Value} {x : DataW H × List MemPlace} (h : DataW.trod enc Try.prog w base spare held fuel 56 cs = some x) : ∃ v l, cs = [v] ∧ Sl eSay 3 w v l := by
  have k3 : Try.prog.cellsOf 3 = 1 := by kernel_rfl
  have k4 : Try.prog.cellsOf 4 = 1 := by kernel_rfl
  obtain ⟨v, l, h1, h2, -⟩ := opn_elems (α := Int × Int × Bool) (en := eSay) (R := fun _ => True) (by omega) len_eSay Try.underlying56 cells63 (fun n cs' y hy hl => by
      obtain ⟨y0, y1, y2, m, hy', _, h0, h1, h2⟩ := trod_struct3 Try.underlying63 hy
      obtain ⟨c0, c1, c2, rfl⟩ := len3 hl
      obtain ⟨a, ea, -⟩ := int_cell (by kernel_rfl) h0
      obtain ⟨b, eb, -⟩ := int_cell (by kernel_rfl) h1
      obtain ⟨c, ec, -⟩ := DataW.trod_bool Try.underlying4 h2
      have ea' : c0 = .int .i64 a := by simpa [k3] using ea
      have eb' : c1 = .int .i64 b := by simpa [k3] using eb
      have ec' : c2 = .bool c := by simpa [k3, k4] using ec
      exact ⟨(a, b, c), trivial, by rw [ea', eb', ec']; rfl⟩) h
  exact ⟨v, l, h1, h2⟩
end
end Go.Proofs.Ytcpmnocknpalfaa
