/-
  Layer 28: the tokens of a text as the parser needs them; the closure that catches. No condition besides what lies where.
  Layer 28: Parse, the program's walk. No condition but that a text is short and what the library's variable holds.
-/
import Derived.Test.YtolahnnkdpbdfaaGC
import Derived.Test.YtolahnnkdpbdfaaB1
import Derived.Defers
import Derived.Recover
namespace Go.Prs
open Go.Lex
theorem one_brace (l : List UInt8) (h : (one l).1 = 7) : (one l).2 = 0 ∨ 2 ≤ (one l).2 := by
  cases l with
  | nil => simp [one] at h
  | cons c r =>
    unfold one at h ⊢
    simp only at h ⊢
    split at h
    · simp at h
    · split at h
      · simp at h
      · split at h
        · simp at h
        · split at h
          · rename_i h1 h2 h3 h4
            rw [if_neg h1, if_neg h2, if_neg h3, if_pos h4]
            simp only
            unfold brace
            simp only
            split
            · right; omega
            · left; rfl
          · split at h
            · simp at h
            · split at h
              · simp at h
              · split at h <;> simp at h
theorem tkG_tl : ∀ (f : Nat) (r : List UInt8) (p c : Nat) (m : List Tok), r.length ≤ 200 → tkG one f r p c = .ok m → Tl m
  | 0, r, p, c, m, _, h => by simp [tkG] at h
  | f + 1, r, p, c, m, hl, h => by
    rw [tkG] at h
    split at h
    · split at h
      · cases h
      · cases h; exact ⟨⟨by simp, by simp⟩, .inl ⟨rfl, rfl⟩⟩
    · split at h
      · cases h
      · rename_i hr h0
        split at h
        · cases h
        · split at h
          · rename_i l' hl'
            cases h
            have ih := tkG_tl f _ _ _ _ (by simp; omega) hl'
            have h1 := one_le r
            have h2 := one_kind r
            refine ⟨⟨by simp; omega, fun h7 => ?_⟩, .inr ⟨by simp only; omega, ih⟩⟩
            have := one_brace r h7
            simp only [List.length_take]
            omega
          · cases h
theorem tokens_tl {s : List UInt8} {m : List Tok} (h : tokens one s = .ok m) : Tl m := by
  unfold tokens at h
  split at h
  · cases h
  · exact tkG_tl _ _ _ _ _ (by omega) h
end Go.Prs
namespace Go.Proofs.Ytolahnnkdpbdfaa
open Go.Proofs Go.RowKit Go.Shelf Go.Sl Go.Prs
abbrev z47 : Obj := .cells #[.slice none 0 0, .int .i64 0, .int .i64 0, .int .i64 0, .bool false, .bool false] 47 (0, 0)
theorem assert_nil (u : World) : (Instr.typeAssert Value.nilIface 20 88 true).run Try.prog u = .ok (.tuple #[.agg #[.int .i64 0], .bool false]) u := by kernel_rfl
theorem assert_flt (n : Int) (u : World) : (Instr.typeAssert (.iface 88 (.agg #[.int .i64 n])) 20 88 true).run Try.prog u = .ok (.tuple #[.agg #[.int .i64 n], .bool true]) u := by kernel_rfl
set_option maxRecDepth 100000 in
theorem catch_idle (p0 p1 p2 : Addr) (w : World) :
    CallsD Try.prog 42 #[.pointer (some p0), .pointer (some p1), .pointer (some p2)] .returning w fun e u' w' => e = .returned (.tuple #[]) ∧ u' = .returning ∧ Below w.heap.size w w' := by
  have ha := assert_nil
  refine callsD_of_wpS Try.func42 rfl fun c₀ cs hu => ?_
  rw [Try.ntmps42]
  rw [show (#[Value.pointer (some p0), Value.pointer (some p1), Value.pointer (some p2)] ++ Array.replicate (14 - (#[Value.pointer (some p0), Value.pointer (some p1), Value.pointer (some p2)] : Array Value).size) undef : Array Value) = #[.pointer (some p0), .pointer (some p1), .pointer (some p2), undef, undef, undef, undef, undef, undef, undef, undef, undef, undef, undef] from rfl]
  apply wpS_seq
  apply wpS_region
  simp [wpOpsS, go_sem, recoverD, hu, Exit.thenS, ha]
  refine wpS_of_wp ?_
  go_wp2_with fail
  refine ⟨rfl, .returning, by cases c₀; simp_all, .tuple #[], by simp [results, Try.results42, go_sem], rfl, rfl, (Below.refl _ _).alloc (Nat.le_refl _) _⟩
/-- what a closure that has caught leaves: the three results -/
structure Caught (b0 b1 b2 : Nat) (n : Int) (w w' : World) : Prop where
  q : w'.heap[b0]? = some z47
  at_ : w'.heap[b1]? = some (.cells #[.int .i64 n] 3 (0, 0))
  er : w'.heap[b2]? = some (.cells #[.int .i64 41] 24 (0, 0))
  os : w'.os = w.os
  tape : w'.tape = w.tape
  output : w'.output = w.output
  size : w.heap.size ≤ w'.heap.size
  block : ∀ k, k < w.heap.size → k ≠ b0 → k ≠ b1 → k ≠ b2 → w'.heap[k]? = w.heap[k]?
theorem six_set {W : World} {b : Nat} {q0 q1 q2 q3 q4 q5 : Value} {t : TypeId} (h : W.heap[b]? = some (.cells #[q0, q1, q2, q3, q4, q5] t (0, 0))) (v0 v1 v2 v3 v4 v5 : Value) :
    ((((((W.setCell ⟨b, 0, none⟩ v0).setCell ⟨b, 1, none⟩ v1).setCell ⟨b, 2, none⟩ v2).setCell ⟨b, 3, none⟩ v3).setCell ⟨b, 4, none⟩ v4).setCell ⟨b, 5, none⟩ v5).heap[b]? = some (.cells #[v0, v1, v2, v3, v4, v5] t (0, 0)) := by
  have h0 : (W.setCell ⟨b, 0, none⟩ v0).heap[b]? = some (.cells #[v0, q1, q2, q3, q4, q5] t (0, 0)) := heap_setCell_same _ _ _ _ _ _ h
  generalize W.setCell ⟨b, 0, none⟩ v0 = W0 at h0 ⊢
  have h1 : (W0.setCell ⟨b, 1, none⟩ v1).heap[b]? = some (.cells #[v0, v1, q2, q3, q4, q5] t (0, 0)) := heap_setCell_same _ _ _ _ _ _ h0
  generalize W0.setCell ⟨b, 1, none⟩ v1 = W1 at h1 ⊢
  have h2 : (W1.setCell ⟨b, 2, none⟩ v2).heap[b]? = some (.cells #[v0, v1, v2, q3, q4, q5] t (0, 0)) := heap_setCell_same _ _ _ _ _ _ h1
  generalize W1.setCell ⟨b, 2, none⟩ v2 = W2 at h2 ⊢
  have h3 : (W2.setCell ⟨b, 3, none⟩ v3).heap[b]? = some (.cells #[v0, v1, v2, v3, q4, q5] t (0, 0)) := heap_setCell_same _ _ _ _ _ _ h2
  generalize W2.setCell ⟨b, 3, none⟩ v3 = W3 at h3 ⊢
  have h4 : (W3.setCell ⟨b, 4, none⟩ v4).heap[b]? = some (.cells #[v0, v1, v2, v3, v4, q5] t (0, 0)) := heap_setCell_same _ _ _ _ _ _ h3
  generalize W3.setCell ⟨b, 4, none⟩ v4 = W4 at h4 ⊢
  exact heap_setCell_same _ _ _ _ _ _ h4
theorem six_keep (W : World) {b k : Nat} (hk : k ≠ b) (v0 v1 v2 v3 v4 v5 : Value) :
    ((((((W.setCell ⟨b, 0, none⟩ v0).setCell ⟨b, 1, none⟩ v1).setCell ⟨b, 2, none⟩ v2).setCell ⟨b, 3, none⟩ v3).setCell ⟨b, 4, none⟩ v4).setCell ⟨b, 5, none⟩ v5).heap[k]? = W.heap[k]? := by
  rw [Below.heap_setCell _ _ _ _ hk, Below.heap_setCell _ _ _ _ hk, Below.heap_setCell _ _ _ _ hk, Below.heap_setCell _ _ _ _ hk, Below.heap_setCell _ _ _ _ hk, Below.heap_setCell _ _ _ _ hk]
theorem caught_of {b0 b1 b2 : Nat} {n : Int} {q0 q1 q2 q3 q4 q5 a0 e0 : Value} {w W : World} (H0 : W.heap[b0]? = some (.cells #[q0, q1, q2, q3, q4, q5] 47 (0, 0))) (H1 : W.heap[b1]? = some (.cells #[a0] 3 (0, 0))) (H2 : W.heap[b2]? = some (.cells #[e0] 24 (0, 0))) (HB : Below w.heap.size w W) (h01 : b0 ≠ b1) (h02 : b0 ≠ b2) (h12 : b1 ≠ b2) :
    Caught b0 b1 b2 n w ((((((((W.setCell ⟨b0, 0, none⟩ (.slice none 0 0)).setCell ⟨b0, 1, none⟩ (.int .i64 0)).setCell ⟨b0, 2, none⟩ (.int .i64 0)).setCell ⟨b0, 3, none⟩ (.int .i64 0)).setCell ⟨b0, 4, none⟩ (.bool false)).setCell ⟨b0, 5, none⟩ (.bool false)).setCell ⟨b1, 0, none⟩ (.int .i64 n)).setCell ⟨b2, 0, none⟩ (.int .i64 41)).drew := by
  have h6 := six_set H0 (.slice none 0 0) (.int .i64 0) (.int .i64 0) (.int .i64 0) (.bool false) (.bool false)
  have g1 := (six_keep W (Ne.symm h01) (.slice none 0 0) (.int .i64 0) (.int .i64 0) (.int .i64 0) (.bool false) (.bool false)).trans H1
  have g2 := (six_keep W (Ne.symm h02) (.slice none 0 0) (.int .i64 0) (.int .i64 0) (.int .i64 0) (.bool false) (.bool false)).trans H2
  have gk := fun (j : Nat) (hj : j ≠ b0) => six_keep W hj (.slice none 0 0) (.int .i64 0) (.int .i64 0) (.int .i64 0) (.bool false) (.bool false)
  have hgr := grown_trans (grown_trans (grown_trans (grown_trans (grown_trans (grown_set W ⟨b0, 0, none⟩ (.slice none 0 0)) (grown_set _ ⟨b0, 1, none⟩ (.int .i64 0))) (grown_set _ ⟨b0, 2, none⟩ (.int .i64 0))) (grown_set _ ⟨b0, 3, none⟩ (.int .i64 0))) (grown_set _ ⟨b0, 4, none⟩ (.bool false))) (grown_set _ ⟨b0, 5, none⟩ (.bool false))
  generalize (((((W.setCell ⟨b0, 0, none⟩ (.slice none 0 0)).setCell ⟨b0, 1, none⟩ (.int .i64 0)).setCell ⟨b0, 2, none⟩ (.int .i64 0)).setCell ⟨b0, 3, none⟩ (.int .i64 0)).setCell ⟨b0, 4, none⟩ (.bool false)).setCell ⟨b0, 5, none⟩ (.bool false) = V at h6 g1 g2 gk hgr ⊢
  have hsz : W.heap.size ≤ V.heap.size := hgr.size
  refine ⟨?_, ?_, ?_, hgr.os.trans HB.os, hgr.tape.trans HB.tape, hgr.output.trans HB.output, ?_, fun k hk a b c => ?_⟩
  · exact heap_set_keep (heap_set_keep h6 h01) h02
  · exact heap_set_keep (heap_setCell_same _ _ _ _ _ _ g1) h12
  · exact heap_setCell_same _ _ _ _ _ _ ((Below.heap_setCell _ _ _ _ (Ne.symm h12)).trans g2)
  · have := HB.size; simp; omega
  · exact (Below.heap_setCell _ _ _ _ c).trans ((Below.heap_setCell _ _ _ _ b).trans ((gk k a).trans (HB.block k hk)))
set_option maxRecDepth 100000 in
theorem catch_panicking (b0 b1 b2 : Nat) (n : Int) (q0 q1 q2 q3 q4 q5 a0 e0 : Value) (w : World) (h0 : w.heap[b0]? = some (.cells #[q0, q1, q2, q3, q4, q5] 47 (0, 0))) (h1 : w.heap[b1]? = some (.cells #[a0] 3 (0, 0))) (h2 : w.heap[b2]? = some (.cells #[e0] 24 (0, 0))) (h01 : b0 ≠ b1) (h02 : b0 ≠ b2) (h12 : b1 ≠ b2) :
    CallsD Try.prog 42 #[.pointer (some ⟨b0, 0, none⟩), .pointer (some ⟨b1, 0, none⟩), .pointer (some ⟨b2, 0, none⟩)] (.panicking [{ v := .iface 88 (.agg #[.int .i64 n]), recovered := false }]) w fun e u' w' => e = .returned (.tuple #[]) ∧ u' = .panicking [{ v := .iface 88 (.agg #[.int .i64 n]), recovered := true }] ∧ Caught b0 b1 b2 n w w' := by
  have ha := assert_flt n
  refine callsD_of_wpS Try.func42 rfl fun c₀ cs hu => ?_
  rw [Try.ntmps42]
  rw [show (#[Value.pointer (some ⟨b0, 0, none⟩), Value.pointer (some ⟨b1, 0, none⟩), Value.pointer (some ⟨b2, 0, none⟩)] ++ Array.replicate (14 - (#[Value.pointer (some ⟨b0, 0, none⟩), Value.pointer (some ⟨b1, 0, none⟩), Value.pointer (some ⟨b2, 0, none⟩)] : Array Value).size) undef : Array Value) = #[.pointer (some ⟨b0, 0, none⟩), .pointer (some ⟨b1, 0, none⟩), .pointer (some ⟨b2, 0, none⟩), undef, undef, undef, undef, undef, undef, undef, undef, undef, undef, undef] from rfl]
  apply wpS_seq
  apply wpS_region
  simp [wpOpsS, go_sem, recoverD, hu, Exit.thenS, ha]
  refine wpS_of_wp ?_
  have H0 := Lib.hid (heap_keep (p := .cells #[.int .i64 n] 88) h0)
  have H1 := Lib.hid (heap_keep (p := .cells #[.int .i64 n] 88) h1)
  have H2 := Lib.hid (heap_keep (p := .cells #[.int .i64 n] 88) h2)
  have hl0 := (Array.getElem?_eq_some_iff.1 h0).1
  have hl1 := (Array.getElem?_eq_some_iff.1 h1).1
  have hl2 := (Array.getElem?_eq_some_iff.1 h2).1
  have hwz : w.heap.size < (w.alloc (.cells #[.int .i64 n] 88)).heap.size := by simp
  obtain ⟨W, hW⟩ : ∃ W, w.alloc (.cells #[.int .i64 n] 88) = W := ⟨_, rfl⟩
  have HN := Lib.hid (heap_alloc_new w (.cells #[.int .i64 n] 88))
  have HB := Lib.hid ((Below.refl w.heap.size w).alloc (Nat.le_refl _) (.cells #[.int .i64 n] 88))
  rw [hW] at H0 H1 H2 HN HB hwz ⊢
  clear hW h0 h1 h2 ha
  obtain ⟨_, x0, x1, x2, x3, x4, x5⟩ := six_cells H0.out
  obtain ⟨_, y0, y1⟩ := one_cells H1.out
  obtain ⟨_, z0, z1⟩ := one_cells H2.out
  obtain ⟨_, v0, v1⟩ := one_cells HN.out
  have xf := bk_frozen ⟨_, H0.out⟩
  have ne1 : ¬ b0 = w.heap.size := by omega
  have ne2 : ¬ b1 = w.heap.size := by omega
  have ne3 : ¬ b2 = w.heap.size := by omega
  have ne4 : ¬ b1 = b0 := Ne.symm h01
  have ne5 : ¬ b2 = b0 := Ne.symm h02
  have ne6 : ¬ b2 = b1 := Ne.symm h12
  have ne7 : ¬ w.heap.size = b0 := by omega
  have ne8 : ¬ w.heap.size = b1 := by omega
  go_wp2_with fail
  go_region_with (fail)
  all_goals
    go_wp2_with fail
    exact ⟨rfl, _, rfl, .tuple #[], by simp [results, Try.results42, go_sem], rfl, rfl, caught_of H0.out H1.out H2.out HB.out h01 h02 h12⟩
end Go.Proofs.Ytolahnnkdpbdfaa

namespace Go.Prs
open Go.Lex
theorem parse_tok {s : List UInt8} {p c : Nat} (h : tokens one s = .error (p, c)) : parse s = (zQy, p, c) := by rw [parse, h]
theorem parse_bad {s : List UInt8} {l : List Tok} {p : Nat} (h : tokens one s = .ok l) (hq : quest (l.length + 1) l nQy false = .error p) : parse s = (zQy, p, 41) := by rw [parse, h]; simp only [hq]
theorem parse_ok {s : List UInt8} {l : List Tok} {q : Qy} (h : tokens one s = .ok l) (hq : quest (l.length + 1) l nQy false = .ok q) : parse s = (q, 0, 0) := by rw [parse, h]; simp only [hq]
end Go.Prs
namespace Go.Proofs.Ytolahnnkdpbdfaa
open Go.Proofs Go.RowKit Go.Shelf Go.Sl Go.Prs
/-- a question as the program hands it back -/
def qv (iv : Value) (q : Qy) : Value := .agg #[iv, .int .i64 q.mx, .int .i64 q.sk, .int .i64 q.od, .bool q.fi, .bool q.rv]
/-- what Parse ends with -/
def PaP (w : World) (o : Qy × Nat × Nat) (e : Ending) (w' : World) : Prop :=
  Below w.heap.size w w' ∧ ∃ iv, e = .returned (.tuple #[qv iv o.1, .int .i64 (o.2.1 : Nat), .int .i64 (o.2.2 : Nat)]) ∧ QSt w.heap.size w' iv o.1.its
theorem PaP.mk {w w' : World} {o : Qy × Nat × Nat} {q : Qy} {p c : Nat} {iv : Value} {x y : Int} (ho : o = (q, p, c)) (hb : Below w.heap.size w w') (hq : QSt w.heap.size w' iv q.its) (hx : x = p) (hy : y = c) : PaP w o (.returned (.tuple #[.agg #[iv, .int .i64 q.mx, .int .i64 q.sk, .int .i64 q.od, .bool q.fi, .bool q.rv], .int .i64 x, .int .i64 y])) w' := by
  subst ho hx hy; exact ⟨hb, iv, rfl, hq⟩
/-- the three results are read -/
theorem res23 {W : World} {tmps : Array Value} {b0 b1 b2 : Nat} {q0 q1 q2 q3 q4 q5 a e : Value} (t2 : tmps[2]? = some (.pointer (some ⟨b0, 0, none⟩))) (t3 : tmps[3]? = some (.pointer (some ⟨b1, 0, none⟩))) (t4 : tmps[4]? = some (.pointer (some ⟨b2, 0, none⟩)))
    (h0 : W.heap[b0]? = some (.cells #[q0, q1, q2, q3, q4, q5] 47 (0, 0))) (h1 : W.heap[b1]? = some (.cells #[a] 3 (0, 0))) (h2 : W.heap[b2]? = some (.cells #[e] 24 (0, 0))) :
    (results Try.f23 tmps).run Try.prog W = .ok (.tuple #[.agg #[q0, q1, q2, q3, q4, q5], a, e]) W := by
  obtain ⟨_, x0, x1, x2, x3, x4, x5⟩ := six_cells h0
  obtain ⟨_, y0, _⟩ := one_cells h1
  obtain ⟨_, z0, _⟩ := one_cells h2
  simp [results, Try.results23, go_sem, x0, x1, x2, x3, x4, x5, y0, z0, t2, t3, t4]
theorem res23d {W : World} {tmps : Array Value} {b0 b1 b2 : Nat} {q0 q1 q2 q3 q4 q5 a e : Value} (t2 : tmps[2]? = some (.pointer (some ⟨b0, 0, none⟩))) (t3 : tmps[3]? = some (.pointer (some ⟨b1, 0, none⟩))) (t4 : tmps[4]? = some (.pointer (some ⟨b2, 0, none⟩)))
    (h0 : W.heap[b0]? = some (.cells #[q0, q1, q2, q3, q4, q5] 47 (0, 0))) (h1 : W.heap[b1]? = some (.cells #[a] 3 (0, 0))) (h2 : W.heap[b2]? = some (.cells #[e] 24 (0, 0))) :
    (results Try.f23 tmps).run Try.prog W.drew = .ok (.tuple #[.agg #[q0, q1, q2, q3, q4, q5], a, e]) W.drew := res23 (W := W.drew) t2 t3 t4 h0 h1 h2
theorem end_same {W : World} {b0 b1 b2 : Nat} {q0 q1 q2 q3 q4 q5 a e : Value} (h0 : W.heap[b0]? = some (.cells #[q0, q1, q2, q3, q4, q5] 47 (0, 0))) (h1 : W.heap[b1]? = some (.cells #[a] 3 (0, 0))) (h2 : W.heap[b2]? = some (.cells #[e] 24 (0, 0))) (h01 : b0 ≠ b1) (h02 : b0 ≠ b2) (h12 : b1 ≠ b2) (v0 v1 v2 v3 v4 v5 va ve : Value) :
    ((((((((W.setCell ⟨b0, 0, none⟩ v0).setCell ⟨b0, 1, none⟩ v1).setCell ⟨b0, 2, none⟩ v2).setCell ⟨b0, 3, none⟩ v3).setCell ⟨b0, 4, none⟩ v4).setCell ⟨b0, 5, none⟩ v5).setCell ⟨b1, 0, none⟩ va).setCell ⟨b2, 0, none⟩ ve).heap[b0]? = some (.cells #[v0, v1, v2, v3, v4, v5] 47 (0, 0)) ∧
    ((((((((W.setCell ⟨b0, 0, none⟩ v0).setCell ⟨b0, 1, none⟩ v1).setCell ⟨b0, 2, none⟩ v2).setCell ⟨b0, 3, none⟩ v3).setCell ⟨b0, 4, none⟩ v4).setCell ⟨b0, 5, none⟩ v5).setCell ⟨b1, 0, none⟩ va).setCell ⟨b2, 0, none⟩ ve).heap[b1]? = some (.cells #[va] 3 (0, 0)) ∧
    ((((((((W.setCell ⟨b0, 0, none⟩ v0).setCell ⟨b0, 1, none⟩ v1).setCell ⟨b0, 2, none⟩ v2).setCell ⟨b0, 3, none⟩ v3).setCell ⟨b0, 4, none⟩ v4).setCell ⟨b0, 5, none⟩ v5).setCell ⟨b1, 0, none⟩ va).setCell ⟨b2, 0, none⟩ ve).heap[b2]? = some (.cells #[ve] 24 (0, 0)) := by
  have h6 := six_set h0 v0 v1 v2 v3 v4 v5
  have g1 := (six_keep W (Ne.symm h01) v0 v1 v2 v3 v4 v5).trans h1
  have g2 := (six_keep W (Ne.symm h02) v0 v1 v2 v3 v4 v5).trans h2
  generalize (((((W.setCell ⟨b0, 0, none⟩ v0).setCell ⟨b0, 1, none⟩ v1).setCell ⟨b0, 2, none⟩ v2).setCell ⟨b0, 3, none⟩ v3).setCell ⟨b0, 4, none⟩ v4).setCell ⟨b0, 5, none⟩ v5 = V at h6 g1 g2 ⊢
  exact ⟨heap_set_keep (heap_set_keep h6 h01) h02, heap_set_keep (heap_setCell_same _ _ _ _ _ _ g1) h12, heap_setCell_same _ _ _ _ _ _ ((Below.heap_setCell _ _ _ _ (Ne.symm h12)).trans g2)⟩
theorem QSt.mono {N N' : Nat} {w : World} {iv : Value} {its : List It} (h : QSt N w iv its) (hN : N' ≤ N) : QSt N' w iv its := by
  obtain ⟨rs, ho, hi⟩ := h
  refine ⟨rs, ho.mono hN, ?_⟩
  clear ho
  induction rs generalizing its with
  | nil => cases its with
    | nil => trivial
    | cons _ _ => exact hi.elim
  | cons r rs ih => cases its with
    | nil => exact hi.elim
    | cons x xs => exact ⟨⟨hi.1.k, hi.1.ab, hi.1.av.mono hN, hi.1.bb, hi.1.bv.mono hN, hi.1.nt⟩, ih hi.2⟩
theorem QSt.isSlice {N : Nat} {w : World} {iv : Value} {its : List It} (h : QSt N w iv its) : ∃ a n c, iv = .slice a n c := by
  obtain ⟨rs, ho, _⟩ := h
  exact ho.isSlice
/-- the parser has been laid -/
structure St86 (w : World) (b : Nat) (l : List Lex.Tok) (W : World) : Prop where
  pz : Pz b W (rst (.slice none 0 0) nQy false) l
  sz : w.heap.size + 3 ≤ W.heap.size
  ml : Ml W
  bl : Below w.heap.size w W
  h0 : W.heap[w.heap.size]? = some z47
  h1 : W.heap[w.heap.size + 1]? = some (.cells #[.int .i64 0] 3 (0, 0))
  h2 : W.heap[w.heap.size + 1 + 1]? = some (.cells #[.int .i64 0] 24 (0, 0))
theorem start86 {w w1 : World} {l : List Lex.Tok} {r : Value} {base : Nat} (HB : Below w.heap.size w w1) (H0 : w1.heap[w.heap.size]? = some z47) (H1 : w1.heap[w.heap.size + 1]? = some (.cells #[.int .i64 0] 3 (0, 0))) (H2 : w1.heap[w.heap.size + 1 + 1]? = some (.cells #[.int .i64 0] 24 (0, 0)))
    (HO : Own eTok 3 base 33 w1 r l) (hs : w.heap.size + 3 ≤ w1.heap.size) (_ : Tl l) (hm : Ml w) :
    St86 w w1.heap.size l (((w1.setCell ⟨w.heap.size + 1, 0, none⟩ (.int .i64 0)).setCell ⟨w.heap.size + 1 + 1, 0, none⟩ (.int .i64 0)).alloc (.cells #[r, .slice none 0 0, .int .i64 (-1), .int .i64 0, .int .i64 0, .bool false, .bool false, .bool false] 86)) := by
  have k1 : Bk w1 3 (w.heap.size + 1) := ⟨_, H1⟩
  have k2 : Bk w1 24 (w.heap.size + 1 + 1) := ⟨_, H2⟩
  have o1 := Own.set_bk HO k1 (by decide) 0 (.int .i64 0)
  have o2 := Own.set_bk o1 (k2.set _ _ _) (by decide) 0 (.int .i64 0)
  have g1 : (w1.setCell ⟨w.heap.size + 1, 0, none⟩ (.int .i64 0)).heap[w.heap.size + 1]? = some (.cells #[.int .i64 0] 3 (0, 0)) := heap_setCell_same _ _ _ _ _ _ H1
  have g0 := heap_set_keep (a := ⟨w.heap.size + 1, 0, none⟩) (v := .int .i64 0) H0 (by simp only []; omega)
  have g2 := heap_set_keep (a := ⟨w.heap.size + 1, 0, none⟩) (v := .int .i64 0) H2 (by simp only []; omega)
  have hb1 := HB.setCell (p := ⟨w.heap.size + 1, 0, none⟩) (by simp only []; omega) (.int .i64 0)
  have hz1 : (w1.setCell ⟨w.heap.size + 1, 0, none⟩ (.int .i64 0)).heap.size = w1.heap.size := by simp
  clear o1
  generalize w1.setCell ⟨w.heap.size + 1, 0, none⟩ (.int .i64 0) = U1 at o2 g0 g1 g2 hb1 hz1 ⊢
  have f2 : (U1.setCell ⟨w.heap.size + 1 + 1, 0, none⟩ (.int .i64 0)).heap[w.heap.size + 1 + 1]? = some (.cells #[.int .i64 0] 24 (0, 0)) := heap_setCell_same _ _ _ _ _ _ g2
  have f0 := heap_set_keep (a := ⟨w.heap.size + 1 + 1, 0, none⟩) (v := .int .i64 0) g0 (by simp only []; omega)
  have f1 := heap_set_keep (a := ⟨w.heap.size + 1 + 1, 0, none⟩) (v := .int .i64 0) g1 (by simp only []; omega)
  have hb2 := hb1.setCell (p := ⟨w.heap.size + 1 + 1, 0, none⟩) (by simp only []; omega) (.int .i64 0)
  have hz2 : (U1.setCell ⟨w.heap.size + 1 + 1, 0, none⟩ (.int .i64 0)).heap.size = w1.heap.size := by simp [hz1]
  generalize U1.setCell ⟨w.heap.size + 1 + 1, 0, none⟩ (.int .i64 0) = U2 at o2 f0 f1 f2 hb2 hz2 ⊢
  have hb3 := hb2.alloc (by omega) (.cells #[r, .slice none 0 0, .int .i64 (-1), .int .i64 0, .int .i64 0, .bool false, .bool false, .bool false] 86)
  refine ⟨⟨r, ?_, ((o2.alloc _).sl len_eTok), Own.row_bk (o2.alloc _)⟩, by simp; omega, hm.below hb3 hm.lt, hb3, heap_keep f0, heap_keep f1, heap_keep f2⟩
  have := heap_alloc_new U2 (.cells #[r, .slice none 0 0, .int .i64 (-1), .int .i64 0, .int .i64 0, .bool false, .bool false, .bool false] 86)
  rw [hz2] at this
  exact this
theorem QSt.set {N : Nat} {w : World} {iv : Value} {its : List It} (h : QSt N w iv its) {e : TypeId} {k : Nat} (hk : Bk w e k) (h1 : e ≠ 83) (h2 : e ≠ 103) (o : Nat) (v : Value) : QSt N (w.setCell ⟨k, o, none⟩ v) iv its :=
  h.kept (grown_set w ⟨k, o, none⟩ v) (fun g hg => by cases hg; exact hk) h1 h2
structure QB (w : World) (iv : Value) (its : List It) (W : World) : Prop where
  qs : QSt w.heap.size W iv its
  bl : Below w.heap.size w W
  k0 : Bk W 47 w.heap.size
  k1 : Bk W 3 (w.heap.size + 1)
  k2 : Bk W 24 (w.heap.size + 1 + 1)
theorem QB.step {w : World} {iv : Value} {its : List It} {W : World} (h : QB w iv its W) {j : Nat} {e : TypeId} (hj : (j = w.heap.size ∧ e = 47) ∨ (j = w.heap.size + 1 ∧ e = 3) ∨ (j = w.heap.size + 1 + 1 ∧ e = 24)) (o : Nat) (v : Value) : QB w iv its (W.setCell ⟨j, o, none⟩ v) := by
  have hk : Bk W e j := by rcases hj with ⟨rfl, rfl⟩ | ⟨rfl, rfl⟩ | ⟨rfl, rfl⟩ <;> first | exact h.k0 | exact h.k1 | exact h.k2
  have h1 : e ≠ 83 := by rcases hj with ⟨_, rfl⟩ | ⟨_, rfl⟩ | ⟨_, rfl⟩ <;> decide
  have h2 : e ≠ 103 := by rcases hj with ⟨_, rfl⟩ | ⟨_, rfl⟩ | ⟨_, rfl⟩ <;> decide
  have hl : w.heap.size ≤ j := by rcases hj with ⟨rfl, _⟩ | ⟨rfl, _⟩ | ⟨rfl, _⟩ <;> omega
  exact ⟨h.qs.set hk h1 h2 o v, h.bl.setCell hl v, h.k0.set _ _ _, h.k1.set _ _ _, h.k2.set _ _ _⟩
theorem end_qst {W w : World} {q0 q1 q2 q3 q4 q5 a e : Value} {iv' : Value} {its : List It} (h0 : W.heap[w.heap.size]? = some (.cells #[q0, q1, q2, q3, q4, q5] 47 (0, 0))) (h1 : W.heap[w.heap.size + 1]? = some (.cells #[a] 3 (0, 0))) (h2 : W.heap[w.heap.size + 1 + 1]? = some (.cells #[e] 24 (0, 0))) (hq : QSt w.heap.size W iv' its) (hb : Below w.heap.size w W) (v0 v1 v2 v3 v4 v5 va ve : Value) :
    QSt w.heap.size ((((((((W.setCell ⟨w.heap.size, 0, none⟩ v0).setCell ⟨w.heap.size, 1, none⟩ v1).setCell ⟨w.heap.size, 2, none⟩ v2).setCell ⟨w.heap.size, 3, none⟩ v3).setCell ⟨w.heap.size, 4, none⟩ v4).setCell ⟨w.heap.size, 5, none⟩ v5).setCell ⟨w.heap.size + 1, 0, none⟩ va).setCell ⟨w.heap.size + 1 + 1, 0, none⟩ ve) iv' its ∧
    Below w.heap.size w ((((((((W.setCell ⟨w.heap.size, 0, none⟩ v0).setCell ⟨w.heap.size, 1, none⟩ v1).setCell ⟨w.heap.size, 2, none⟩ v2).setCell ⟨w.heap.size, 3, none⟩ v3).setCell ⟨w.heap.size, 4, none⟩ v4).setCell ⟨w.heap.size, 5, none⟩ v5).setCell ⟨w.heap.size + 1, 0, none⟩ va).setCell ⟨w.heap.size + 1 + 1, 0, none⟩ ve) := by
  have k0 : Bk W 47 w.heap.size := ⟨_, h0⟩
  have k1 : Bk W 3 (w.heap.size + 1) := ⟨_, h1⟩
  have k2 : Bk W 24 (w.heap.size + 1 + 1) := ⟨_, h2⟩
  have s0 : QB w iv' its W := ⟨hq, hb, k0, k1, k2⟩
  have s1 := s0.step (j := w.heap.size) (e := 47) (.inl ⟨rfl, rfl⟩) 0 v0
  generalize W.setCell ⟨w.heap.size, 0, none⟩ v0 = W1 at s1 ⊢
  have s2 := s1.step (j := w.heap.size) (e := 47) (.inl ⟨rfl, rfl⟩) 1 v1
  generalize W1.setCell ⟨w.heap.size, 1, none⟩ v1 = W2 at s2 ⊢
  have s3 := s2.step (j := w.heap.size) (e := 47) (.inl ⟨rfl, rfl⟩) 2 v2
  generalize W2.setCell ⟨w.heap.size, 2, none⟩ v2 = W3 at s3 ⊢
  have s4 := s3.step (j := w.heap.size) (e := 47) (.inl ⟨rfl, rfl⟩) 3 v3
  generalize W3.setCell ⟨w.heap.size, 3, none⟩ v3 = W4 at s4 ⊢
  have s5 := s4.step (j := w.heap.size) (e := 47) (.inl ⟨rfl, rfl⟩) 4 v4
  generalize W4.setCell ⟨w.heap.size, 4, none⟩ v4 = W5 at s5 ⊢
  have s6 := s5.step (j := w.heap.size) (e := 47) (.inl ⟨rfl, rfl⟩) 5 v5
  generalize W5.setCell ⟨w.heap.size, 5, none⟩ v5 = W6 at s6 ⊢
  have s7 := s6.step (j := w.heap.size + 1) (e := 3) (.inr (.inl ⟨rfl, rfl⟩)) 0 va
  generalize W6.setCell ⟨w.heap.size + 1, 0, none⟩ va = W7 at s7 ⊢
  have s8 := s7.step (j := w.heap.size + 1 + 1) (e := 24) (.inr (.inr ⟨rfl, rfl⟩)) 0 ve
  exact ⟨s8.qs, s8.bl⟩
set_option maxRecDepth 100000 in
set_option maxHeartbeats 4000000 in
theorem parse1_any (s : List UInt8) (w : World) (hl : s.length ≤ 100000) (hm : Ml w) : Calls Try.prog 23 #[.string (bstr s)] w (PaP w (Prs.parse s)) := by
  have hmf : ∀ (fn : Fn) (first cap : Array Value) (w : World), (Instr.makeFunc fn first cap).run Try.prog w = .ok (.func fn first cap) w := fun _ _ _ _ => rfl
  have HM := Lib.hid hm
  have HA : Hid (Below w.heap.size w (((w.alloc z47).alloc (.cells #[.int .i64 0] 3)).alloc (.cells #[.int .i64 0] 24))) := Lib.hid ((((Below.refl _ w).alloc (Nat.le_refl _) _).alloc (by simp) _).alloc (by simp; omega) _)
  have HTk := Lib.hid (tokens_any s (((w.alloc z47).alloc (.cells #[.int .i64 0] 3)).alloc (.cells #[.int .i64 0] 24)) (by omega))
  have HN0 := Lib.hid (heap_keep (p := .cells #[.int .i64 0] 24) (heap_keep (p := .cells #[.int .i64 0] 3) (heap_alloc_new w z47)))
  have HN1 : Hid ((((w.alloc z47).alloc (.cells #[.int .i64 0] 3)).alloc (.cells #[.int .i64 0] 24)).heap[w.heap.size + 1]? = some (.cells #[.int .i64 0] 3 (0, 0))) := Lib.hid (heap_keep (by have := heap_alloc_new (w.alloc z47) (.cells #[.int .i64 0] 3); simpa using this))
  have HN2 : Hid ((((w.alloc z47).alloc (.cells #[.int .i64 0] 3)).alloc (.cells #[.int .i64 0] 24)).heap[w.heap.size + 1 + 1]? = some (.cells #[.int .i64 0] 24 (0, 0))) := Lib.hid (by have := heap_alloc_new ((w.alloc z47).alloc (.cells #[.int .i64 0] 3)) (.cells #[.int .i64 0] 24); simpa using this)
  have hsA : (((w.alloc z47).alloc (.cells #[.int .i64 0] 3)).alloc (.cells #[.int .i64 0] 24)).heap.size = w.heap.size + 3 := by simp
  have HsA := Lib.hid hsA
  clear hm hsA
  go_enter_defers Try.func23, Try.ntmps23
  go_wp2_with fail
  cases htk : Lex.tokens Lex.one s with
  | error c =>
    obtain ⟨p, c⟩ := c
    have HE := Lib.hid (parse_tok htk)
    have hc0 := (Lex.tokens_err htk).1
    rw [htk] at HTk
    clear htk
    have hcb : ((c : Int) != 0) = true := by rw [bne_iff_ne]; omega
    clear hc0
    refine HTk.out.mono ?_
    rintro e w1 ⟨hb, rfl⟩
    have HB := Lib.hid (HA.out.trans (hb.mono (by rw [HsA.out]; omega)))
    have H0 := Lib.hid ((hb.block _ (by rw [HsA.out]; omega)).trans HN0.out)
    have H1 := Lib.hid ((hb.block _ (by rw [HsA.out]; omega)).trans HN1.out)
    have H2 := Lib.hid ((hb.block _ (by rw [HsA.out]; omega)).trans HN2.out)
    obtain ⟨_, x0, x1, x2, x3, x4, x5⟩ := six_cells H0.out
    have xf := bk_frozen ⟨_, H0.out⟩
    obtain ⟨_, y0, y1⟩ := one_cells H1.out
    obtain ⟨_, z0, z1⟩ := one_cells H2.out
    clear hb HTk
    go_wp2_with fail
    refine wp_region_noPanic ?_
    go_region_with (fail)
    all_goals
      refine NoPanic.normal ?_
      go_wp2_with fail
      refine ⟨.tuple #[.agg #[.slice none 0 0, .int .i64 0, .int .i64 0, .int .i64 0, .bool false, .bool false], .int .i64 p, .int .i64 c], ?_, ?_⟩
      · have g1 : ((w1.setCell ⟨w.heap.size + 1, 0, none⟩ (.int .i64 (p : Int))).setCell ⟨w.heap.size + 1 + 1, 0, none⟩ (.int .i64 (c : Int))).heap[w.heap.size + 1]? = some (.cells #[.int .i64 (p : Int)] 3 (0, 0)) := heap_set_keep (heap_setCell_same _ _ _ _ _ _ H1.out) (by simp only []; omega)
        have g2 : ((w1.setCell ⟨w.heap.size + 1, 0, none⟩ (.int .i64 (p : Int))).setCell ⟨w.heap.size + 1 + 1, 0, none⟩ (.int .i64 (c : Int))).heap[w.heap.size + 1 + 1]? = some (.cells #[.int .i64 (c : Int)] 24 (0, 0)) := heap_setCell_same _ _ _ _ _ _ (heap_set_keep H2.out (by simp only []; omega))
        have g0 : ((w1.setCell ⟨w.heap.size + 1, 0, none⟩ (.int .i64 (p : Int))).setCell ⟨w.heap.size + 1 + 1, 0, none⟩ (.int .i64 (c : Int))).heap[w.heap.size]? = some z47 := heap_set_keep (heap_set_keep H0.out (by simp only []; omega)) (by simp only []; omega)
        obtain ⟨r0, r1, r2⟩ := end_same g0 g1 g2 (by omega) (by omega) (by omega) (.slice none 0 0) (.int .i64 0) (.int .i64 0) (.int .i64 0) (.bool false) (.bool false) (.int .i64 (p : Int)) (.int .i64 (c : Int))
        exact res23d rfl rfl rfl r0 r1 r2
      · refine PaP.mk (q := zQy) HE.out ?_ (QSt.nil _ _) rfl rfl
        refine Below.drew ?_
        iterate 10 (refine Below.setCell ?_ (by simp only []; omega) _)
        exact HB.out
  | ok l =>
    rw [htk] at HTk
    have HTl := Lib.hid (tokens_tl htk)
    have hln := Lex.tokens_len htk
    have HT := Lib.hid htk
    clear htk
    refine HTk.out.mono ?_
    rintro e w1 ⟨hb, r, rfl, ho⟩
    have HB := Lib.hid (HA.out.trans (hb.mono (by rw [HsA.out]; omega)))
    have H0 := Lib.hid ((hb.block _ (by rw [HsA.out]; omega)).trans HN0.out)
    have H1 := Lib.hid ((hb.block _ (by rw [HsA.out]; omega)).trans HN1.out)
    have H2 := Lib.hid ((hb.block _ (by rw [HsA.out]; omega)).trans HN2.out)
    have HO := Lib.hid ho
    obtain ⟨ra, rn, rc, rfl⟩ := ho.isSlice
    have hs1 : w.heap.size + 3 ≤ w1.heap.size := by have := hb.size; rw [HsA.out] at this; omega
    obtain ⟨_, x0, x1, x2, x3, x4, x5⟩ := six_cells H0.out
    have xf := bk_frozen ⟨_, H0.out⟩
    obtain ⟨_, y0, y1⟩ := one_cells H1.out
    obtain ⟨_, z0, z1⟩ := one_cells H2.out
    clear hb HTk ho
    go_wp2_with fail
    have hW := Lib.hid (start86 HB.out H0.out H1.out H2.out HO.out (by omega) HTl.out HM.out)
    generalize ((w1.setCell ⟨w.heap.size + 1, 0, none⟩ (.int .i64 0)).setCell ⟨w.heap.size + 1 + 1, 0, none⟩ (.int .i64 0)).alloc (.cells #[.slice ra rn rc, .slice none 0 0, .int .i64 (-1), .int .i64 0, .int .i64 0, .bool false, .bool false, .bool false] 86) = W at hW ⊢
    generalize hb : w1.heap.size = b at hW ⊢
    have hbn : w.heap.size + 3 ≤ b := by omega
    clear x0 x1 x2 x3 x4 x5 xf y0 y1 z0 z1 HB H0 H1 H2 HO hs1 hb HN0 HN1 HN2 HA HsA
    have hQ := Lib.hid (quest_any (w.heap.size + 3) b (.slice none 0 0) (l.length + 1) l nQy false W hW.out.pz HTl.out (QSt.nil _ _) hW.out.sz hbn (by omega) hW.out.ml (by omega) (by omega) (by show 0 + l.length ≤ 200; omega))
    cases hq : quest (l.length + 1) l nQy false with
    | error p =>
      have HE := Lib.hid (parse_bad HT.out hq)
      rw [hq] at hQ
      clear hq
      refine hQ.out.mono ?_
      rintro e w3 ⟨hb3, rfl⟩
      have HB3 := Lib.hid (hW.out.bl.trans (hb3.mono (by omega)))
      have K0 := Lib.hid ((hb3.block _ (by omega)).trans hW.out.h0)
      have K1 := Lib.hid ((hb3.block _ (by omega)).trans hW.out.h1)
      have K2 := Lib.hid ((hb3.block _ (by omega)).trans hW.out.h2)
      clear hb3 hQ
      refine leaves_cons (f := 42) (args := #[.pointer (some ⟨w.heap.size, 0, none⟩), .pointer (some ⟨w.heap.size + 1, 0, none⟩), .pointer (some ⟨w.heap.size + 1 + 1, 0, none⟩)]) (by simp) (by simp [go_sem]) ?_
      refine (catch_panicking w.heap.size (w.heap.size + 1) (w.heap.size + 1 + 1) (p : Nat) _ _ _ _ _ _ _ _ w3 K0.out K1.out K2.out (by omega) (by omega) (by omega)).mono ?_
      rintro e u' w4 ⟨rfl, rfl, hc⟩
      exact ⟨_, res23 rfl rfl rfl hc.q hc.at_ hc.er, PaP.mk (q := zQy) HE.out ⟨hc.os.trans HB3.out.os, hc.tape.trans HB3.out.tape, hc.output.trans HB3.out.output, Nat.le_trans HB3.out.size hc.size, fun k hk => (hc.block k (Nat.lt_of_lt_of_le hk HB3.out.size) (by omega) (by omega) (by omega)).trans (HB3.out.block k hk)⟩ (QSt.nil _ _) rfl rfl⟩
    | ok q =>
      have HE := Lib.hid (parse_ok HT.out hq)
      rw [hq] at hQ
      clear hq
      refine hQ.out.mono ?_
      rintro e w3 ⟨hb3, ⟨v, rfl⟩, iv, nt, l', hp3, hq3⟩
      have HB3 := Lib.hid (hW.out.bl.trans (hb3.mono (by omega)))
      have K0 := Lib.hid ((hb3.block _ (by omega)).trans hW.out.h0)
      have K1 := Lib.hid ((hb3.block _ (by omega)).trans hW.out.h1)
      have K2 := Lib.hid ((hb3.block _ (by omega)).trans hW.out.h2)
      obtain ⟨ia, iN, ic, rfl⟩ := hq3.isSlice
      have HQ3 := Lib.hid (hq3.mono (show w.heap.size ≤ w.heap.size + 3 by omega))
      obtain ⟨c1, c2, c3, c4, c5, c6, _⟩ := hp3.cells
      obtain ⟨_, x0, x1, x2, x3, x4, x5⟩ := six_cells K0.out
      have xf := bk_frozen ⟨_, K0.out⟩
      obtain ⟨_, y0, y1⟩ := one_cells K1.out
      obtain ⟨_, z0, z1⟩ := one_cells K2.out
      clear hb3 hQ hp3 hq3 hW
      go_wp2_with fail
      have E := end_same K0.out K1.out K2.out (by omega) (by omega) (by omega) (.slice ia iN ic) (.int .i64 q.mx) (.int .i64 q.sk) (.int .i64 q.od) (.bool q.fi) (.bool q.rv) (.int .i64 0) (.int .i64 0)
      have EQ := end_qst K0.out K1.out K2.out HQ3.out HB3.out (.slice ia iN ic) (.int .i64 q.mx) (.int .i64 q.sk) (.int .i64 q.od) (.bool q.fi) (.bool q.rv) (.int .i64 0) (.int .i64 0)
      clear x0 x1 x2 x3 x4 x5 xf y0 y1 z0 z1 c1 c2 c3 c4 c5 c6
      generalize (((((((w3.setCell ⟨w.heap.size, 0, none⟩ (.slice ia iN ic)).setCell ⟨w.heap.size, 1, none⟩ (.int .i64 q.mx)).setCell ⟨w.heap.size, 2, none⟩ (.int .i64 q.sk)).setCell ⟨w.heap.size, 3, none⟩ (.int .i64 q.od)).setCell ⟨w.heap.size, 4, none⟩ (.bool q.fi)).setCell ⟨w.heap.size, 5, none⟩ (.bool q.rv)).setCell ⟨w.heap.size + 1, 0, none⟩ (.int .i64 0)).setCell ⟨w.heap.size + 1 + 1, 0, none⟩ (.int .i64 0) = V at E EQ ⊢
      show Leaves Try.prog Try.f23 _ _ _ .returning _
      refine leaves_cons (f := 42) (args := #[.pointer (some ⟨w.heap.size, 0, none⟩), .pointer (some ⟨w.heap.size + 1, 0, none⟩), .pointer (some ⟨w.heap.size + 1 + 1, 0, none⟩)]) (by simp) (by simp [go_sem]) ?_
      obtain ⟨r0, r1, r2⟩ := E
      refine (catch_idle ⟨w.heap.size, 0, none⟩ ⟨w.heap.size + 1, 0, none⟩ ⟨w.heap.size + 1 + 1, 0, none⟩ V).mono ?_
      rintro e u' w4 ⟨rfl, rfl, hb4⟩
      have g0 := (hb4.block _ (Array.getElem?_eq_some_iff.1 r0).1).trans r0
      have g1 := (hb4.block _ (Array.getElem?_eq_some_iff.1 r1).1).trans r1
      have g2 := (hb4.block _ (Array.getElem?_eq_some_iff.1 r2).1).trans r2
      exact ⟨_, res23 rfl rfl rfl g0 g1 g2, PaP.mk HE.out (EQ.2.trans (hb4.mono EQ.2.size)) (EQ.1.ext hb4) rfl rfl⟩
end Go.Proofs.Ytolahnnkdpbdfaa
