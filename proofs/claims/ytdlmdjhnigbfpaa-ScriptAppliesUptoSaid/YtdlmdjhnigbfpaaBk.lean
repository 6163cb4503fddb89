/-
  What the bound on what comes in gives: how many lines a text and edits have. No condition.
-/
import Derived.Test.YtdlmdjhnigbfpaaRows
import Derived.Test.YtdlmdjhnigbfpaaO2
namespace Go.Proofs.Ytdlmdjhnigbfpaa
open Go.Scr Go.Sl

theorem bulk_one {H : Type} (d : DataW H) : 1 ≤ Rows.uptoBulk d := by
  cases d with
  | lit l => cases l <;> simp [Rows.uptoBulk]
  | nil => simp [Rows.uptoBulk]
  | ptr d => simp [Rows.uptoBulk]
  | slice elems spare => simp [Rows.uptoBulk]
  | agg parts => simp [Rows.uptoBulk]
  | iface t d => simp [Rows.uptoBulk]
  | map entries => simp [Rows.uptoBulk]
  | held h => simp [Rows.uptoBulk]
theorem bulk_len {H : Type} (l : List (DataW H)) : l.length ≤ Rows.uptoBulkAll l := by
  induction l with
  | nil => simp [Rows.uptoBulkAll]
  | cons x r ih => have := bulk_one x; simp only [Rows.uptoBulkAll, List.length_cons]; omega
theorem bulk_lists {H : Type} {d : DataW H} {ds : List (DataW H)} (h : Lists d ds) : Rows.uptoBulkAll ds ≤ Rows.uptoBulk d := by
  rcases h with ⟨rfl, rfl⟩ | ⟨sp, rfl⟩
  · simp [Rows.uptoBulk, Rows.uptoBulkAll]
  · simp only [Rows.uptoBulk]; omega

theorem insum_bulk {H : Type} : ∀ (xs : List (Ed ByteArray)) (ds : List (DataW H)), ds.length = xs.length → (∀ k (h1 : k < xs.length) (h2 : k < ds.length), ∃ d0 d1 d2 es', ds[k] = .agg [d0, d1, d2] ∧ Lists d2 es' ∧ es'.length = xs[k].2.2.length) → insum xs ≤ Rows.uptoBulkAll ds := by
  intro xs
  induction xs with
  | nil => intro ds _ _; simp [insum]
  | cons x xs ih =>
    intro ds hl h
    match ds, hl with
    | d :: ds, hl =>
      have h1 := ih ds (by simpa using hl) (fun k g1 g2 => by have := h (k + 1) (by simpa using g1) (by simpa using g2); simpa using this)
      obtain ⟨d0, d1, d2, es', e1, e2, e3⟩ := h 0 (by simp) (by simp)
      simp only [List.getElem_cons_zero] at e1 e3
      have h2 := bulk_len es'
      have h3 := bulk_lists e2
      have h4 : insum (x :: xs) = x.2.2.length + insum xs := by simp [insum]
      rw [h4, e1]
      simp only [Rows.uptoBulkAll, Rows.uptoBulk]
      omega

theorem applies_bound {H : Type} {d0 d1 : DataW H} {a : List ByteArray} {xs : List (Ed ByteArray)} {ds0 ds1 : List (DataW H)} (hk : Rows.uptoSmall H [d0, d1] = true) (h0 : Lists d0 ds0) (l0 : ds0.length = a.length) (h1 : Lists d1 ds1) (l1 : ds1.length = xs.length)
    (h : ∀ k (h1 : k < xs.length) (h2 : k < ds1.length), ∃ d0 d1 d2 es', ds1[k] = .agg [d0, d1, d2] ∧ Lists d2 es' ∧ es'.length = xs[k].2.2.length) : a.length + insum xs ≤ 4000000 := by
  have hb : Rows.uptoBulkAll [d0, d1] ≤ 1048576 := of_decide_eq_true hk
  have g0 := bulk_len ds0
  have g1 := bulk_lists h0
  have g2 := bulk_lists h1
  have g3 := insum_bulk xs ds1 l1 h
  simp only [Rows.uptoBulkAll] at hb
  omega
end Go.Proofs.Ytdlmdjhnigbfpaa
