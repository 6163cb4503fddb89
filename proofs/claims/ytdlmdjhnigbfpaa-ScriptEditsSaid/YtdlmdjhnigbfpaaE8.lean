/-
  Walks of layer 21: Undo. No condition but that edits are short.
-/
import Derived.Test.YtdlmdjhnigbfpaaE7
namespace Go.Proofs.Ytdlmdjhnigbfpaa
open Go.RowKit Go.Sl Go.Scr

theorem of_block3 {u : World} {g : Nat} {a b c : Value} {e : TypeId} (h : u.heap[g]? = some (.cells #[a, b, c] e (0, 0))) : u.cell? ⟨g, 0, none⟩ = some a ∧ u.cell? ⟨g, 1, none⟩ = some b ∧ u.cell? ⟨g, 2, none⟩ = some c ∧
    u.heap[g]? = some (.cells #[a, b, c] e (0, 0)) ∧ g < u.heap.size := by
  obtain ⟨h0, h1, h2, h3⟩ := three_cells h
  exact ⟨h1, h2, h3, h, h0⟩

set_option maxRecDepth 100000 in
set_option maxHeartbeats 2000000 in
theorem undo_any (vl : Value) (es0 : List (Int × SlV × SlV)) (xs : List (Ed ByteArray)) (w : World) (hl : Eds w vl es0 xs) (hlen : xs.length ≤ 802) (hbd : ∀ x ∈ xs, 0 ≤ x.1 ∧ x.1 ≤ 800 ∧ x.2.1.length ≤ 800 ∧ x.2.2.length ≤ 800) :
    Calls Try.prog 26 #[vl] w fun e w' => ∃ r es, e = .returned r ∧ Own eEd 3 w.heap.size 52 w' r es ∧ Ins w' es (undoF 0 xs) ∧ Below w.heap.size w w' := by
  have e2 := hl.outer.run_len (P := Try.prog) Try.underlying48
  rw [hl.len] at e2
  have HBD := Lib.hid hbd
  clear hbd
  go_enter Try.func26, Try.ntmps26
  go_wp2_with fail
  go_loopw [3, 4, 9] (fun o m i wr => ∃ (k : Nat) (mo : Int) (es : List (Int × SlV × SlV)) (ys : List (Ed ByteArray)), k ≤ xs.length ∧ i = .int .i64 k ∧ m = .int .i64 mo ∧ -800 * (k : Int) ≤ mo ∧ mo ≤ 800 * (k : Int) ∧ es.length ≤ k ∧
    Hid (Own eEd 3 w.heap.size 52 wr o es) ∧ Hid (InsO w.heap.size wr es ys) ∧ Hid (undoF 0 xs = ys ++ undoF mo (xs.drop k)) ∧ Hid (Below w.heap.size w wr) ∧ w.heap.size ≤ wr.heap.size) (fun _ _ i _ => xs.length - (intOf i).toNat)
  case atStart => exact ⟨0, 0, [], [], by omega, rfl, rfl, by omega, by omega, by simp, Lib.hid (Own.nil _ _ _ _ _), Lib.hid (InsO.nil _ _), Lib.hid rfl, Lib.hid (Below.refl _ _), by omega⟩
  case round =>
    obtain ⟨k, mo, es, ys, hk, rfl, rfl, hm1, hm2, hel, HO, HI, HU, HB, hsz⟩ := hrel
    by_cases hlt : k < xs.length
    · obtain ⟨b0, o0, hb0, hix, A, lo, li, a1, a2, n1, c1, n2, c2, HX, HL1, HL2, q0, q1, q2, hs1, hs2, _, _, _⟩ := hl.at HB.out Try.underlying48 cells52 some52 hlt
      have hx := HBD.out xs[k] (List.getElem_mem hlt)
      rw [HX.out] at hx
      obtain ⟨hA0, hA8, hlo, hli⟩ := hx
      simp only at hA0 hA8 hlo hli
      have hn1 : n1 ≤ 800 := by rw [← HL1.out]; exact hlo
      have hn2 : n2 ≤ 800 := by rw [← HL2.out]; exact hli
      have HS1 := Lib.hid hs1
      have HS2 := Lib.hid hs2
      clear hs1 hs2
      have HBX : Hid (Below w.heap.size w (wr.alloc (.cells #[.int .i64 A, .slice a1 n1 c1, .slice a2 n2 c2] 52)).drew) := Lib.hid (HB.out.alloc hsz _).drew
      have hzX : w.heap.size ≤ (wr.alloc (.cells #[.int .i64 A, .slice a1 n1 c1, .slice a2 n2 c2] 52)).drew.heap.size := by show _ ≤ (wr.alloc _).heap.size; simp; omega
      have HNe := Lib.hid (HO.out.ne (g := wr.heap.size) (.inr (Nat.le_refl _)))
      go_wp2_with fail
      have hw1 : IntKind.i64.wrap (A + mo) = A + mo := IntWalk.i64_in _ (by omega)
      go_region_held3 (fun u => u.cell? ⟨wr.heap.size, 0, none⟩ = some (.int .i64 A) ∧ u.cell? ⟨wr.heap.size, 1, none⟩ = some (.slice a1 n1 c1) ∧ u.cell? ⟨wr.heap.size, 2, none⟩ = some (.slice a2 n2 c2) ∧ u.heap[wr.heap.size]? = some (.cells #[.int .i64 A, .slice a1 n1 c1, .slice a2 n2 c2] 52 (0, 0)) ∧ wr.heap.size < u.heap.size)
        (first
          | exact of_block3 (heap_alloc_new _ _)
          | (go_split_ands; exact of_block3 (grown_heap hgr5 (by assumption) HNe.out))
          | (go_split_ands; exact of_block3 (heap_keep (w := w4) (by assumption)))
          | (go_split_ands; exact of_block3 ((hb4.block _ (by assumption)).trans (by assumption)))
          | (go_split_ands; exact of_block3 ((hb3.block _ (by assumption)).trans (by assumption)))
          | (go_split_ands; exact ⟨by assumption, by assumption, by assumption, by assumption, by assumption⟩))
        (first
          | (go_at_call 32; (with_reducible refine (clone_sl (.slice a2 n2 c2) _ _ (HS2.out.ext HBX.out) (by omega)).mono ?_); rintro e w3 ⟨p2, q2, r2, rfl, hsl3, hb3⟩)
          | (go_at_call 32; (with_reducible refine (clone_sl (.slice a1 n1 c1) _ _ (HS1.out.ext (HBX.out.trans (hb3.mono HBX.out.size))) (by omega)).mono ?_); rintro e w4 ⟨p1, q1, r1, rfl, hsl4, hb4⟩; have hz4 : w.heap.size ≤ w4.heap.size := Nat.le_trans hzX (Nat.le_trans hb3.size hb4.size); have HO4 := Lib.hid (((HO.out.alloc (.cells #[.int .i64 A, .slice a1 n1 c1, .slice a2 n2 c2] 52)).drew.ext hb3).ext hb4); have HO5 := Lib.hid (HO4.out.alloc (.cells #[.int .i64 (A + mo), .slice p2 q2 r2, .slice p1 q1 r1] 52)); have HF5 : Hid (Sl eEd 3 (w4.alloc (.cells #[.int .i64 (A + mo), .slice p2 q2 r2, .slice p1 q1 r1] 52)) (.slice (some ⟨w4.heap.size, 0, none⟩) 1 1) [(A + mo, ⟨p2, q2, r2⟩, ⟨p1, q1, r1⟩)] ∧ w.heap.size ≤ (w4.alloc (.cells #[.int .i64 (A + mo), .slice p2 q2 r2, .slice p1 q1 r1] 52)).heap.size) := Lib.hid ⟨Sl.fresh len_eEd rfl rfl rfl (by simp [maxLen]), by simp; omega⟩)
          | (refine step_append rfl _ _ _ (by rfl) _ 56 Try.underlying48 info52 rfl (by omega) len_eEd one_eEd _ (.slice (some ⟨w4.heap.size, 0, none⟩) 1 1) es [(A + mo, ⟨p2, q2, r2⟩, ⟨p1, q1, r1⟩)] (by rfl) HO5.out (by rfl) HF5.out.1 (by simp only [maxLen, List.length_cons, List.length_nil]; omega) (by simp only [List.length_cons, List.length_nil]; omega) HF5.out.2 ?_; intro v5 w5 hown5 hgr5 hb5))
      have hX0 : wr.heap.size ≤ (wr.alloc (.cells #[.int .i64 A, .slice a1 n1 c1, .slice a2 n2 c2] 52)).drew.heap.size := by show wr.heap.size ≤ (wr.alloc _).heap.size; simp
      have HBr : Hid (Below wr.heap.size wr (w4.alloc (.cells #[.int .i64 (A + mo), .slice p2 q2 r2, .slice p1 q1 r1] 52))) := Lib.hid ((((Below.refl wr.heap.size wr).alloc (Nat.le_refl _) _).drew.trans ((hb3.mono hX0).trans (hb4.mono (Nat.le_trans hX0 hb3.size)))).alloc (Nat.le_trans hX0 (Nat.le_trans hb3.size hb4.size)) _)
      have HI5 := Lib.hid ((HI.out.ext HBr.out).grown HO5.out (by decide) hgr5)
      have HL3 := Lib.hid ((((hsl3.mono hzX).ext hb4).alloc (.cells #[.int .i64 (A + mo), .slice p2 q2 r2, .slice p1 q1 r1] 52)).kept hgr5 (own_apart (((hsl3.mono hzX).ext hb4).alloc _) HO5.out (by decide)))
      have HL4 := Lib.hid (((hsl4.mono (Nat.le_trans hzX hb3.size)).alloc (.cells #[.int .i64 (A + mo), .slice p2 q2 r2, .slice p1 q1 r1] 52)).kept hgr5 (own_apart ((hsl4.mono (Nat.le_trans hzX hb3.size)).alloc _) HO5.out (by decide)))
      have HB5 := Lib.hid (HB.out.trans ((HBr.out.mono hsz).trans hb5))
      have HO6 := Lib.hid hown5
      have hlast : w5.cell? ⟨wr.heap.size, 1, none⟩ = some (.slice a1 n1 c1) ∧ w5.cell? ⟨wr.heap.size, 2, none⟩ = some (.slice a2 n2 c2) := by go_split_ands; exact ⟨by assumption, by assumption⟩
      obtain ⟨z1, z2⟩ := hlast
      clear hw1 hb3 hb4 hb5 hgr5 hown5 hsl3 hsl4 hz4
      go_wp2_with fail
      go_roundw
      case rel =>
        refine ⟨k + 1, _, _, ys ++ [(A + mo, li, lo)], by omega, by go_num, rfl, by omega, by omega, ?_, HO6, Lib.hid (HI5.out.snoc rfl HL3.out HL4.out), Lib.hid ?_, HB5, HB5.out.size⟩
        · simp only [List.length_append, List.length_cons, List.length_nil]; omega
        · rw [HU.out, drop_at xs hlt, HX.out, undoF, List.append_assoc, HL1.out, HL2.out]; rfl
      case measure => simp [intOf]; omega
    · have hkl : xs.drop k = [] := List.drop_eq_nil_of_le (by omega)
      have HKL := Lib.hid hkl
      clear hkl
      go_wp2_with fail
      go_ret
      refine ⟨_, es, rfl, HO.out, ?_, HB.out⟩
      rw [HU.out, HKL.out, undoF, List.append_nil]
      exact HI.out.ins
end Go.Proofs.Ytdlmdjhnigbfpaa
