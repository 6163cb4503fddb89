/-
  Arguments of layer 21 opened: pairs, hunks, and a struct of both. No condition.
-/
import Derived.Test.YtdlmdjhnigbfpaaW1
import Derived.Test.YtdlmdjhnigbfpaaW2
import Derived.Test.YtdlmdjhnigbfpaaOpn2
namespace Go.Proofs.Ytdlmdjhnigbfpaa
open Go.RowKit Go.ChangeShapes Go.WideShapes Go.ChangeAt Go.Deep Go.Joins Go.Sl

section
variable {H : Type} {enc : TypeId × Value → H} {w : World} {base : Nat} {spare : Nat → Bool} {held : Bool}

theorem int_cell {t : TypeId} (ht : Try.prog.underlying t = some (.int .i64)) {n : Nat} {cs : List Value} {y : DataW H × List MemPlace} (h : DataW.trod enc Try.prog w base spare held n t cs = some y) : ∃ a : Int, cs = [.int .i64 a] ∧ (Lit.int .i64 a).wf = true := by
  obtain ⟨a, e0, _, wa⟩ := DataW.trod_int ht h
  exact ⟨a, e0, wa⟩

theorem opn_pairs {fuel : Nat} {cs : List Value} {x : DataW H × List MemPlace} (h : DataW.trod enc Try.prog w base spare held fuel 23 cs = some x) : ∃ v l, cs = [v] ∧ Sl ePair 2 w v l ∧ ∀ p ∈ l, (Lit.int .i64 p.1).wf = true ∧ (Lit.int .i64 p.2).wf = true :=
  opn_elems (by omega) len_ePair Try.underlying23 cells31 (fun n cs' y hy hl => by
    obtain ⟨y0, y1, m, _, _, h0, h1⟩ := trod_struct2 Try.underlying31 hy
    match cs', hl with
    | [c0, c1], _ =>
      obtain ⟨a, ea, wa⟩ := int_cell (by kernel_rfl) h0
      obtain ⟨b, eb, wb⟩ := int_cell (by kernel_rfl) h1
      exact ⟨(a, b), ⟨wa, wb⟩, by
        have e1 : c0 = .int .i64 a := by simpa [show Try.prog.cellsOf 3 = 1 from by kernel_rfl] using ea
        have e2 : c1 = .int .i64 b := by simpa [show Try.prog.cellsOf 3 = 1 from by kernel_rfl] using eb
        rw [e1, e2]; rfl⟩) h

theorem opn_hunks {fuel : Nat} {cs : List Value} {x : DataW H × List MemPlace} (h : DataW.trod enc Try.prog w base spare held fuel 33 cs = some x) : ∃ v l, cs = [v] ∧ Sl eHunk 4 w v l ∧ ∀ p ∈ l, True :=
  opn_elems (by omega) len_eHunk Try.underlying33 (by kernel_rfl) (fun n cs' y hy hl => by
    obtain ⟨y0, y1, y2, y3, m, _, _, h0, h1, h2, h3⟩ := trod_struct4 Try.underlying69 hy
    match cs', hl with
    | [c0, c1, c2, c3], _ =>
      obtain ⟨a, ea, _⟩ := int_cell (by kernel_rfl) h0
      obtain ⟨b, eb, _⟩ := int_cell (by kernel_rfl) h1
      obtain ⟨c, ec, _⟩ := int_cell (by kernel_rfl) h2
      obtain ⟨d, ed, _⟩ := int_cell (by kernel_rfl) h3
      exact ⟨(a, b, c, d), trivial, by
        have k : Try.prog.cellsOf 3 = 1 := by kernel_rfl
        have e1 : c0 = .int .i64 a := by simpa [k] using ea
        have e2 : c1 = .int .i64 b := by simpa [k] using eb
        have e3 : c2 = .int .i64 c := by simpa [k] using ec
        have e4 : c3 = .int .i64 d := by simpa [k] using ed
        rw [e1, e2, e3, e4]; rfl⟩) h

/-- pairs and hunks in one struct -/
theorem opn_told {r : Reach} {b0 : Nat} {v : Value} {d : DataW H} {p : List MemPlace} (hv : Value.okWide Try.prog w r b0 35 v) (h : DataW.Trod enc Try.prog w base spare held 35 v d p) :
    ∃ lv hv l h, v = .agg #[lv, hv] ∧ Sl ePair 2 w lv l ∧ Sl eHunk 4 w hv h := by
  obtain ⟨v0, v1, y0, y1, n, rfl, _, _, h0, h1⟩ := open_agg2 Try.underlying35 (by kernel_rfl) (by kernel_rfl) hv h
  obtain ⟨x0, l0, e0, s0, _⟩ := opn_pairs h0
  obtain ⟨x1, l1, e1, s1, _⟩ := opn_hunks h1
  obtain rfl : v0 = x0 := by simpa using e0
  obtain rfl : v1 = x1 := by simpa using e1
  exact ⟨_, _, _, _, rfl, s0, s1⟩
end
end Go.Proofs.Ytdlmdjhnigbfpaa
