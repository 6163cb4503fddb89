/-
  Layer 27: Join. Plain: what both give; and a builder of strings as a list of bytes.
-/
import Derived.Test.YtolahnnkdpbdfaaQ12
import Derived.Test.YtolahnnkdpbdfaaShelf
namespace Go.Lex
/-- a token as it may come in -/
abbrev Tk := Int × List UInt8 × Int
def okTk (t : Tk) (last : Bool) : Bool := right t.1 t.2.1 t.2.2 && (decide (t.1 = 9) == last)
def okG : List Tk → Bool
  | [] => true
  | t :: r => okTk t (decide (r = [])) && okG r
def text (l : List Tk) : List UInt8 := l.flatMap fun t => t.2.1
def join (l : List Tk) : List UInt8 × Nat := if l = [] ∨ okG l = false then ([], 40) else if 200 < (text l).length then ([], 3) else (text l, 0)
theorem okG_step {l : List Tk} {k : Nat} {t : Tk} (hk : k < l.length) (ht : l[k] = t) : okG (l.drop k) = (okTk t (decide (k + 1 = l.length)) && okG (l.drop (k + 1))) := by
  rw [List.drop_eq_getElem_cons hk, okG, ht]
  congr 2
  rw [decide_eq_decide, List.drop_eq_nil_iff]; omega
theorem text_step {l : List Tk} {k : Nat} {t : Tk} (hk : k < l.length) (ht : l[k] = t) : text (l.take (k + 1)) = text (l.take k) ++ t.2.1 := by
  rw [List.take_succ_eq_append_getElem hk, text, text, List.flatMap_append, ht]; simp
theorem text_le (l : List Tk) (k : Nat) : (text (l.take k)).length ≤ (text l).length := by
  have : text l = text (l.take k) ++ text (l.drop k) := by rw [text, text, text, ← List.flatMap_append, List.take_append_drop]
  rw [this]; simp
end Go.Lex

namespace Go.Proofs.Ytolahnnkdpbdfaa
open Go.RowKit Go.Sl

def eTk (t : Lex.Tk) : List Value := [.int .i64 t.1, .string (bstr t.2.1), .int .i64 t.2.2]
theorem len_eTk (t : Lex.Tk) : (eTk t).length = 3 := rfl
theorem one_eTk (t : Lex.Tk) : ∀ u ∈ eTk t, u.oneCell' = true := by simp [eTk, Value.oneCell']

/-- a builder in block b that holds l -/
def Bd (b : Nat) (l : List UInt8) (w : World) : Prop := Lib.IsBuilder 72 5 b b (Lib.byteCells l) w
theorem at_alloc {p : Value} {bs : List Value} {b : Nat} {w : World} (h : Lib.BuilderAt 72 5 b b p bs w) (o : Obj) : Lib.BuilderAt 72 5 b b p bs (w.alloc o) := by
  obtain ⟨h1, v, h2, h3, h4⟩ := h
  exact ⟨h1, v, heap_keep h2, World.ownsRow.alloc h3 o, h4⟩
theorem Bd.alloc {b : Nat} {l : List UInt8} {w : World} (h : Bd b l w) (o : Obj) : Bd b l (w.alloc o) := h.elim (fun h => .inl (at_alloc h o)) (fun h => .inr (at_alloc h o))
theorem Bd.drewN {b : Nat} {l : List UInt8} {w : World} (h : Bd b l w) (n : Nat) : Bd b l (w.drewN n) := h
theorem Bd.lt {b : Nat} {l : List UInt8} {w : World} (h : Bd b l w) : b < w.heap.size := h.elim (fun h => h.lt) (fun h => h.lt)
theorem Bd.start (w : World) : Bd w.heap.size [] (w.alloc (.cells #[.pointer none, .slice none 0 0] 72)) := Lib.fresh_isBuilder 72 5 w
theorem Bd.len {b : Nat} {l : List UInt8} {w : World} (h : Bd b l w) : Calls Try.prog 39 #[.pointer (some ⟨b, 0, none⟩)] w fun e w' => e = .returned (.int .i64 (l.length : Nat)) ∧ ∃ n, w' = w.drewN n :=
  (Try.Builder_Len b b _ w h).mono fun _ _ ⟨h1, h2⟩ => ⟨by rw [h1, Lib.byteCells_length], 0, h2⟩
theorem Bd.write {b : Nat} {l : List UInt8} {w : World} (h : Bd b l w) (m : List UInt8) (hl : l.length + m.length ≤ 100000) : Calls Try.prog 40 #[.pointer (some ⟨b, 0, none⟩), .string (bstr m)] w fun e w' => e = .returned (.tuple #[.int .i64 (m.length : Nat), .nilIface]) ∧ Bd b (l ++ m) w' ∧ Below b w w' :=
  (Try.Builder_WriteString b b _ (bstr m) w h (by rw [Lib.byteCells_length, bstr_size]; omega) (Nat.le_of_lt h.lt)).mono fun _ _ ⟨h1, h2, h3⟩ => ⟨by rw [h1, bstr_size], .inr (by rw [Lib.byteCells_append]; exact h2), h3⟩
theorem Bd.string {b : Nat} {l : List UInt8} {w : World} (h : Bd b l w) : Calls Try.prog 41 #[.pointer (some ⟨b, 0, none⟩)] w fun e w' => e = .returned (.string (bstr l)) ∧ Below b w w' :=
  Try.Builder_String_any b b l w h (Nat.le_of_lt h.lt)
end Go.Proofs.Ytolahnnkdpbdfaa
