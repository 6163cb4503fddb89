/-
  Walks of layer 21: what the law ScriptEdits needs besides: the error of Edits, two texts that are long, a box of three. No condition.
-/
import Derived.Test.YtdlmdjhnigbfpaaE8
namespace Go.Proofs.Ytdlmdjhnigbfpaa
open Go.RowKit Go.Sl Go.Scr

/-- a box of three values -/
structure Box3 (w : World) (a b c : Value) (u : World) : Prop where
  cells : u.heap[w.heap.size]? = some (.cells #[a, b, c] 61 (0, 0))
  below : Below w.heap.size w u
theorem Box3.start (w : World) (a b c : Value) : Box3 w a b c (w.alloc (.cells #[a, b, c] 61)) := ⟨heap_alloc_new _ _, (Below.refl _ _).alloc (Nat.le_refl _) _⟩
theorem Box3.step {w u u' : World} {a b c : Value} (h : Box3 w a b c u) (hb : Below u.heap.size u u') : Box3 w a b c u' :=
  ⟨(hb.block _ (Array.getElem?_eq_some_iff.1 h.cells).1).trans h.cells, h.below.trans (hb.mono h.below.size)⟩
theorem Box3.get {w u : World} {a b c : Value} (h : Box3 w a b c u) : u.cell? ⟨w.heap.size, 0, none⟩ = some a ∧ u.cell? ⟨w.heap.size, 1, none⟩ = some b ∧ u.cell? ⟨w.heap.size, 2, none⟩ = some c := (three_cells h.cells).2

set_option maxHeartbeats 1000000 in
theorem edits_err (va vb vl : Value) (a b : List ByteArray) (l : List (Int × Int)) (c : Int) (w : World) (ha : Sl eStr 1 w va a) (hb : Sl eStr 1 w vb b) (hl : Sl ePair 2 w vl l) (hk0 : alk a b l = c) (hc : (c == 0) = false) :
    Calls Try.prog 23 #[va, vb, vl] w fun e w' => e = .returned (.tuple #[.slice none 0 0, .int .i64 c]) ∧ Below w.heap.size w w' := by
  have HAl := Lib.hid (fun u (h1 : Sl eStr 1 u va a) (h2 : Sl eStr 1 u vb b) (h3 : Sl ePair 2 u vl l) => hk0 ▸ alike_any va vb vl a b l u h1 h2 h3)
  clear hk0
  go_enter Try.func23, Try.ntmps23
  go_wp2_with (go_at_call 31; go_must (refine (HAl.out _ ha hb hl).mono ?_; rintro e w1 ⟨rfl, hb1⟩; have HB1 := Lib.hid hb1; clear hb1))
  go_ret2
  exact ⟨rfl, HB1.out⟩

/-- two texts -/
theorem long_two (w : World) (v1 v2 : Value) (l1 l2 : List ByteArray) (g : Nat) (h1 : Sl eStr 1 w v1 l1) (h2 : Sl eStr 1 w v2 l2) (hg : w.heap[g]? = some (.cells #[v1, v2] 47 (0, 0))) :
    Calls Try.prog 19 #[.slice (some ⟨g, 0, none⟩) 2 2] w fun e w' => e = .returned (.bool (decide (200 < l1.length ∨ 200 < l2.length))) ∧ w = w' := by
  have hlen1 := h1.run_len (P := Try.prog) Try.underlying47
  have hlen2 := h2.run_len (P := Try.prog) Try.underlying47
  obtain ⟨_, c0, c1, _⟩ := two_cells hg
  clear hg
  go_enter Try.func19, Try.ntmps19
  go_wp2_with fail
  go_loop [3] (fun i => ∃ (k : Nat), k ≤ 2 ∧ i = .int .i64 k ∧ (1 ≤ k → l1.length ≤ 200) ∧ (2 ≤ k → l2.length ≤ 200)) (fun i => 2 - (intOf i).toNat)
  case atStart => exact ⟨0, by omega, rfl, by omega, by omega⟩
  case round =>
    obtain ⟨k, hk, rfl, hl1, hl2⟩ := hrel
    match k, hk with
    | 0, _ =>
      clear hl1 hl2
      by_cases hlong : 200 < l1.length
      · go_wp2_with fail
        go_ret
        exact ⟨ret_bool (by simp), rfl⟩
      · have hlong2 : (l1.length : Int) ≤ 200 := by omega
        go_wp2_with fail
        go_round
        case rel => exact ⟨1, by omega, rfl, fun _ => by omega, by omega⟩
        case measure => simp [intOf]
    | 1, _ =>
      have hl := hl1 (by omega)
      clear hl1 hl2
      by_cases hlong : 200 < l2.length
      · go_wp2_with fail
        go_ret
        exact ⟨ret_bool (by simp), rfl⟩
      · have hlong2 : (l2.length : Int) ≤ 200 := by omega
        go_wp2_with fail
        go_round
        case rel => exact ⟨2, by omega, rfl, fun _ => by omega, fun _ => by omega⟩
        case measure => simp [intOf]
    | 2, _ =>
      have hla := hl1 (by omega)
      have hlb := hl2 (by omega)
      clear hl1 hl2
      go_wp2_with fail
      go_ret
      exact ⟨ret_bool (by simp; omega), rfl⟩

theorem edits_bd {a b : List ByteArray} {l : List (Int × Int)} (hc : chk a.length b.length l = 0) : ∀ x ∈ edits a b l, 0 ≤ x.1 ∧ x.1 ≤ 800 ∧ x.2.1.length ≤ 800 ∧ x.2.2.length ≤ 800 := by
  intro x hx
  obtain ⟨h, hh, rfl⟩ := List.mem_map.1 hx
  obtain ⟨g1, g2, g3, g4, g5, g6⟩ := hunks_within hc h hh
  obtain ⟨s1, s2, s3, s4⟩ := sz_bound (chk_zero hc).1
  simp only [edOf, List.length_take, List.length_drop]
  omega
theorem edits_len {a b : List ByteArray} {l : List (Int × Int)} (hc : chk a.length b.length l = 0) : (edits a b l).length ≤ 802 := by
  unfold edits; rw [List.length_map]; exact hunks_len hc
theorem insum_le {xs : List (Ed ByteArray)} (h : ∀ x ∈ xs, x.2.2.length ≤ 800) : insum xs ≤ 800 * xs.length := by
  induction xs with
  | nil => simp [insum]
  | cons x xs ih =>
    have h1 := h x (by simp)
    have h2 := ih (fun y hy => h y (by simp [hy]))
    have : insum (x :: xs) = x.2.2.length + insum xs := by simp [insum]
    rw [this, List.length_cons]; omega
theorem undoF_out : ∀ (xs : List (Ed ByteArray)) (m : Int), (undoF m xs).length = xs.length ∧ ((∀ x ∈ xs, x.2.1.length ≤ 800) → ∀ y ∈ undoF m xs, y.2.2.length ≤ 800) := by
  intro xs
  induction xs with
  | nil => intro m; exact ⟨rfl, fun _ y hy => by cases hy⟩
  | cons x xs ih =>
    intro m
    obtain ⟨h1, h2⟩ := ih (m + ((x.2.2.length : Int) - x.2.1.length))
    refine ⟨by simp only [undoF, List.length_cons, h1], fun h y hy => ?_⟩
    simp only [undoF] at hy
    rcases List.mem_cons.1 hy with rfl | hy
    · exact h x (by simp)
    · exact h2 (fun z hz => h z (by simp [hz])) y hy
theorem undo_wf {a b : List ByteArray} {l : List (Int × Int)} (hc : chk a.length b.length l = 0) : ∀ x ∈ undoF 0 (edits a b l), x.1 ≤ 9223372036854775807 := by
  obtain ⟨h1, h2⟩ := chk_zero hc
  have e := undo_hk a b l 0 0 (by omega) (by omega) (by omega) (by omega) (by simpa using h2)
  intro x hx
  unfold edits hunks at hx
  rw [show (0 : Int) - 0 = 0 by omega] at e
  rw [e] at hx
  obtain ⟨h, hh, rfl⟩ := List.mem_map.1 hx
  obtain ⟨h', hh', rfl⟩ := List.mem_map.1 hh
  obtain ⟨g1, g2, g3, g4, g5, g6⟩ := hunks_within hc h' hh'
  obtain ⟨s1, s2, s3, s4⟩ := sz_bound h1
  simp only [edOf, swapH]
  omega
end Go.Proofs.Ytdlmdjhnigbfpaa
