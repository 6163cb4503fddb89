/-
  Walks of layer 21: the closure in Hunks. No condition.
-/
import Derived.Test.YtdlmdjhnigbfpaaW1
namespace Go.Proofs.Ytdlmdjhnigbfpaa
open Go.RowKit Go.Sl Go.Scr

def eHunk (h : Int × Int × Int × Int) : List Value := [.int .i64 h.1, .int .i64 h.2.1, .int .i64 h.2.2.1, .int .i64 h.2.2.2]
theorem len_eHunk (h : Int × Int × Int × Int) : (eHunk h).length = 4 := rfl
theorem one_eHunk (h : Int × Int × Int × Int) : ∀ u ∈ eHunk h, u.oneCell' = true := by simp [eHunk, Value.oneCell']
theorem one_ePair (h : Int × Int) : ∀ u ∈ ePair h, u.oneCell' = true := by simp [ePair, Value.oneCell']
theorem info69 : (Try.prog.info? 69).map (fun i => (i.zero, i.size, i.bytes)) = some (some (.agg #[.int .i64 0, .int .i64 0, .int .i64 0, .int .i64 0]), 4, 32) := by kernel_rfl
theorem info31 : (Try.prog.info? 31).map (fun i => (i.zero, i.size, i.bytes)) = some (some (.agg #[.int .i64 0, .int .i64 0]), 2, 16) := by kernel_rfl

/-- what the closure leaves -/
structure UpTo (w w' : World) (gA gO base : Nat) (a b : Int) (acc : List (Int × Int × Int × Int)) (p : Int × Int) : Prop where
  at_ : w'.heap[gA]? = some (.cells #[.int .i64 (p.1 + 1), .int .i64 (p.2 + 1)] 31 (0, 0))
  out : ∃ v, w'.heap[gO]? = some (.cells #[v] 33 (0, 0)) ∧ Own eHunk 4 base 69 w' v (acc ++ (if a < p.1 ∨ b < p.2 then [(a, p.1 - a, b, p.2 - b)] else []))
  below : ∀ B, B ≤ gA → B ≤ gO → B ≤ base → Below B w w'

set_option maxHeartbeats 1000000 in
theorem upto_any (x y a b : Int) (gA gO base : Nat) (v : Value) (acc : List (Int × Int × Int × Int)) (w : World)
    (hx : -1 ≤ x ∧ x ≤ 800) (hy : -1 ≤ y ∧ y ≤ 800) (ha : 0 ≤ a ∧ a ≤ 801) (hb : 0 ≤ b ∧ b ≤ 801)
    (hA : w.heap[gA]? = some (.cells #[.int .i64 a, .int .i64 b] 31 (0, 0))) (hO : w.heap[gO]? = some (.cells #[v] 33 (0, 0)))
    (hne : gA ≠ gO) (hbA : gA < base) (hbO : gO < base) (hbs : base ≤ w.heap.size) (hown : Own eHunk 4 base 69 w v acc) (hacc : acc.length ≤ 100000) :
    Calls Try.prog 29 #[.agg #[.int .i64 x, .int .i64 y], .pointer (some ⟨gA, 0, none⟩), .pointer (some ⟨gO, 0, none⟩)] w fun e w' => e = .returned (.tuple #[]) ∧ UpTo w w' gA gO base a b acc (x, y) := by
  have hlA : gA < w.heap.size := (Array.getElem?_eq_some_iff.1 hA).1
  have hlO : gO < w.heap.size := (Array.getElem?_eq_some_iff.1 hO).1
  have c0 : w.cell? ⟨gA, 0, none⟩ = some (.int .i64 a) := by simp [World.cell?, hA]
  have c1 : w.cell? ⟨gA, 1, none⟩ = some (.int .i64 b) := by simp [World.cell?, hA]
  have c2 : w.cell? ⟨gO, 0, none⟩ = some v := by simp [World.cell?, hO]
  have f0 : w.frozen? ⟨gA, 0, none⟩ = false := by simp [World.frozen?, hA]
  have f1 : w.frozen? ⟨gA, 1, none⟩ = false := by simp [World.frozen?, hA]
  have f2 : w.frozen? ⟨gO, 0, none⟩ = false := by simp [World.frozen?, hO]
  have HA := Lib.hid hA
  have HO := Lib.hid hO
  clear hA hO
  have hvA := hown.ne (g := gA) (.inl hbA)
  have hvO := hown.ne (g := gO) (.inl hbO)
  have hvP := hown.ne (g := w.heap.size) (.inr (Nat.le_refl _))
  have HV := Lib.hid (And.intro hvA (And.intro hvO hvP))
  clear hvA hvO hvP
  by_cases ht : a < x ∨ b < y
  · go_enter Try.func29, Try.ntmps29
    go_wp2_with (at_builtin; go_must (refine wpList_append rfl _ _ _ rfl _ 32 Try.underlying33 info69 rfl (by omega) len_eHunk one_eHunk _ _ acc [(a, x - a, b, y - b)] rfl ((hown.alloc _).alloc _) rfl (Sl.fresh len_eHunk (by simp) rfl rfl (by simp [maxLen])) (by simp only [maxLen, List.length_cons, List.length_nil]; omega) (by simp only [List.length_cons, List.length_nil]; omega) (by simp; omega) ?_; intro v1 w1 hown1 hgr hbl; have HA1 := Lib.hid (grown_heap hgr (heap_keep (heap_keep HA.out)) HV.out.1); have HO1 := Lib.hid (grown_heap hgr (heap_keep (heap_keep HO.out)) HV.out.2.1); have HP1 := Lib.hid (grown_heap hgr (heap_keep (heap_alloc_new _ _)) HV.out.2.2); obtain ⟨_, d0, d1, d2, d3⟩ := two_cells HA1.out; obtain ⟨_, d4, d5⟩ := one_cells HO1.out; obtain ⟨_, d6, d7, _, _⟩ := two_cells HP1.out; have HG := Lib.hid (And.intro hown1 (And.intro hgr hbl)); clear hgr hbl; obtain ⟨q1, q2, q3, rfl⟩ := hown1.isSlice; clear hown1))
    all_goals
      go_end0
      have hvA1 := HG.out.1.ne (g := gA) (.inl hbA)
      have hvO1 := HG.out.1.ne (g := gO) (.inl hbO)
      refine ⟨rfl, two_set (heap_set_keep HA1.out hne), ⟨_, heap_set_keep (heap_set_keep (one_set HO1.out) (Ne.symm hne)) (Ne.symm hne), ?_⟩, fun B h1 h2 h3 => ((((((Below.refl _ _).alloc (by omega) _).alloc (by simp; omega) _).trans (HG.out.2.2.mono h3)).setCell h2 _).setCell h1 _).setCell h1 _⟩
      rw [if_pos ht]
      exact ((HG.out.1.set_other hvO1 _).set_other hvA1 _).set_other hvA1 _
  · go_enter Try.func29, Try.ntmps29
    go_wp2_with fail
    go_end0
    have h2 := Lib.hid ht
    refine ⟨rfl, heap_keep (two_set HA.out), ⟨v, heap_keep (heap_set_keep (heap_set_keep HO.out (Ne.symm hne)) (Ne.symm hne)), ?_⟩, fun B h1 h2 h3 => (((Below.refl _ _).setCell h1 _).setCell h1 _).alloc (by simp; omega) _⟩
    rw [if_neg h2.out, List.append_nil]
    exact ((hown.set_other HV.out.1 _).set_other HV.out.1 _).alloc _
end Go.Proofs.Ytdlmdjhnigbfpaa
