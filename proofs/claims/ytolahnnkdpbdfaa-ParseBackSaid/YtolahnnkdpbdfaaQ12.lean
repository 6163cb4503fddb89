/-
  LexWords: what the program answers, the document's. No condition.
-/
import Derived.Test.YtolahnnkdpbdfaaQ11
import Derived.Deep.RegionHeld3

namespace Go.Proofs.Ytolahnnkdpbdfaa
open Go.RowKit Go.Sl

/-- a token in a block of its own -/
def Bx (w : World) (a b c : Value) (u : World) : Prop :=
  u.cell? ⟨w.heap.size, 0, none⟩ = some a ∧ u.cell? ⟨w.heap.size, 1, none⟩ = some b ∧ u.cell? ⟨w.heap.size, 2, none⟩ = some c ∧ u.heap[w.heap.size]? = some (.cells #[a, b, c] 33 (0, 0)) ∧ Below w.heap.size w u
theorem Bx.of {w u : World} {a b c : Value} (h : u.heap[w.heap.size]? = some (.cells #[a, b, c] 33 (0, 0))) (hb : Below w.heap.size w u) : Bx w a b c u := by
  obtain ⟨_, h1, h2, h3⟩ := three_cells h
  exact ⟨h1, h2, h3, h, hb⟩
theorem Bx.start (w : World) (a b c : Value) : Bx w a b c (w.alloc (.cells #[a, b, c] 33)) := Bx.of (heap_alloc_new _ _) ((Below.refl _ _).alloc (Nat.le_refl _) _)
theorem Bx.step {w u u' : World} {a b c : Value} (h : Bx w a b c u) (hb : Below u.heap.size u u') : Bx w a b c u' :=
  Bx.of ((hb.block _ (Array.getElem?_eq_some_iff.1 h.2.2.2.1).1).trans h.2.2.2.1) (h.2.2.2.2.trans (hb.mono h.2.2.2.2.size))

set_option maxHeartbeats 1000000 in
theorem words_any (K p : Int) (x s : ByteArray) (w : World) : Calls Try.prog 4 #[.agg #[.int .i64 K, .string x, .int .i64 p], .string s] w fun e w' => e = .returned (.bool true) ∧ Below w.heap.size w w' := by
  obtain ⟨l, rfl, -⟩ := bstr_of x
  obtain ⟨m, rfl, -⟩ := bstr_of s
  have HS := Lib.hid (Bx.start w (.int .i64 K) (.string (bstr l)) (.int .i64 p))
  by_cases h1 : 400 < l.length
  · have d1 : decide ((400 : Int) < l.length) = true := decide_eq_true (by omega)
    go_enter Try.func4, Try.ntmps4
    go_wp2_with (go_at_call 12; go_must (refine (works_any _).mono ?_; rintro e w' ⟨rfl, hb⟩; have HB := Lib.hid hb; clear hb))
    go_ret
    exact ⟨rfl, (HS.out.step HB.out).2.2.2.2⟩
  · have d1 : decide ((400 : Int) < l.length) = false := decide_eq_false (by omega)
    by_cases h2 : 400 < m.length
    · have d2 : decide ((400 : Int) < m.length) = true := decide_eq_true (by omega)
      go_enter Try.func4, Try.ntmps4
      go_wp2_with (go_at_call 12; go_must (refine (works_any _).mono ?_; rintro e w' ⟨rfl, hb⟩; have HB := Lib.hid hb; clear hb))
      go_ret
      exact ⟨rfl, (HS.out.step HB.out).2.2.2.2⟩
    · have d2 : decide ((400 : Int) < m.length) = false := decide_eq_false (by omega)
      obtain ⟨⟨n, t⟩, hn⟩ : ∃ q, Lex.count m = q := ⟨_, rfl⟩
      obtain ⟨r, hr⟩ : ∃ r, Lex.right K l p = r := ⟨_, rfl⟩
      have hr2 : Lex.rright K l p = r := by rw [← Lex.right_same]; exact hr
      have HC := Lib.hid (fun u => count_any m n t hn u (by omega))
      have HD := Lib.hid (fun u => rcount_any m n t hn u (by omega))
      have HR := Lib.hid (fun u => right_any K l p r hr u (by omega))
      have HQ := Lib.hid (fun u => rright_any K l p r hr2 u (by omega))
      clear hn hr hr2
      go_enter Try.func4, Try.ntmps4
      go_wp2_with (first
        | (go_at_call 16; go_must (refine (HC.out _).mono ?_; rintro e w' ⟨rfl, rfl⟩))
        | (go_at_call 17; go_must (refine (HD.out _).mono ?_; rintro e w' ⟨rfl, rfl⟩)))
      go_region_held3 (fun u => u.cell? ⟨w.heap.size, 0, none⟩ = some (.int .i64 K) ∧ u.cell? ⟨w.heap.size, 1, none⟩ = some (.string (bstr l)) ∧ u.cell? ⟨w.heap.size, 2, none⟩ = some (.int .i64 p) ∧ u.heap[w.heap.size]? = some (.cells #[.int .i64 K, .string (bstr l), .int .i64 p] 33 (0, 0)) ∧ Below w.heap.size w u)
        (first
          | exact HS.out
          | exact HS.out.step (Below.refl _ _).drew
          | (go_split_ands; exact Bx.step (Bx.of (by assumption) (by assumption)) (by assumption))
          | (go_split_ands; exact ⟨by assumption, by assumption, by assumption, by assumption, by assumption⟩))
        (first
          | (go_at_call 18; (with_reducible refine (HR.out _).mono ?_); rintro e w3 ⟨rfl, hb3⟩)
          | (go_at_call 19; (with_reducible refine (HQ.out _).mono ?_); rintro e w4 ⟨rfl, hb4⟩)
          | (go_at_call 12; (with_reducible refine (works_any _).mono ?_); rintro e w5 ⟨rfl, hb5⟩))
      go_split_ands
      go_wp2_with fail
      go_ret
      exact ⟨rfl, by assumption⟩
end Go.Proofs.Ytolahnnkdpbdfaa
