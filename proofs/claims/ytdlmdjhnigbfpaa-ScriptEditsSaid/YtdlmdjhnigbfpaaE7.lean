/-
  Walks of layer 21: Edits, the reference's. No condition but that texts are short.
-/
import Derived.Test.YtdlmdjhnigbfpaaE6
namespace Go.Proofs.Ytdlmdjhnigbfpaa
open Go.RowKit Go.Sl Go.Scr

theorem rhunks_of (n m : Int) (v : Value) (l : List (Int × Int)) (h : List (Int × Int × Int × Int)) (w : World) (hv : Sl ePair 2 w v l) (hc : chk n m l = 0) (hh : hunks n m l = h) :
    Calls Try.prog 15 #[.int .i64 n, .int .i64 m, v] w fun e w' => ∃ r, e = .returned r ∧ Own eHunk 4 w.heap.size 69 w' r h ∧ Below w.heap.size w w' := by
  subst hh; exact rhunks_any n m v l w hv hc

set_option maxRecDepth 100000 in
set_option maxHeartbeats 2000000 in
theorem redits_any (va vb vl : Value) (a b : List ByteArray) (l : List (Int × Int)) (w : World) (ha : Sl eStr 1 w va a) (hb : Sl eStr 1 w vb b) (hl : Sl ePair 2 w vl l) (hc0 : chk a.length b.length l = 0) :
    Calls Try.prog 25 #[va, vb, vl] w fun e w' => ∃ r es, e = .returned r ∧ Own eEd 3 w.heap.size 53 w' r es ∧ Ins w' es (edits a b l) ∧ Below w.heap.size w w' := by
  have e1 := ha.run_len (P := Try.prog) Try.underlying47
  have e2 := hb.run_len (P := Try.prog) Try.underlying47
  obtain ⟨hs, HHs⟩ : ∃ h, Hid (hunks a.length b.length l = h) := ⟨_, Lib.hid rfl⟩
  have HHu := Lib.hid (fun u (h3 : Sl ePair 2 u vl l) => rhunks_of a.length b.length vl l hs u h3 hc0 HHs.out)
  have HW : Hid (∀ x ∈ hs, Within a.length b.length x) := Lib.hid (HHs.out ▸ hunks_within hc0)
  have hsz := sz_bound (chk_zero hc0).1
  have hal : a.length ≤ 800 := by omega
  have hbl : b.length ≤ 800 := by omega
  have hhl : hs.length ≤ 802 := by rw [← HHs.out]; exact hunks_len hc0
  have HE : Hid (edits a b l = hs.map (edOf a b)) := Lib.hid (by unfold edits; rw [HHs.out])
  clear hc0 hsz
  go_enter Try.func25, Try.ntmps25
  go_wp2_with (go_at_call 15; go_must (refine (HHu.out _ hl).mono ?_; rintro e w2 ⟨vh, rfl, hown, hb2⟩; have HHv := Lib.hid (hown.sl len_eHunk); have HB2 := Lib.hid hb2; have hlenh := (hown.sl len_eHunk).run_len (P := Try.prog) Try.underlying33; clear hown hb2))
  go_loopw [8, 9] (fun o i wr => ∃ (k : Nat) (es : List (Int × SlV × SlV)), k ≤ hs.length ∧ i = .int .i64 k ∧ es.length = k ∧ Hid (Own eEd 3 w2.heap.size 53 wr o es) ∧ Hid (Ins w es ((hs.take k).map (edOf a b))) ∧ Hid (Below w2.heap.size w2 wr) ∧ w2.heap.size ≤ wr.heap.size) (fun _ i _ => hs.length - (intOf i).toNat)
  case atStart => exact ⟨0, [], by omega, rfl, rfl, Lib.hid (Own.nil _ _ _ _ _), Lib.hid (Ins.nil _), Lib.hid (Below.refl _ _), by omega⟩
  case round =>
    obtain ⟨k, es, hk, rfl, hes, HO, HI, HB, hwz⟩ := hrel
    have HEs := Lib.hid hes
    have hel : es.length ≤ 802 := by omega
    clear hes
    have HBw : Hid (Below w.heap.size w wr) := Lib.hid (HB2.out.trans (HB.out.mono HB2.out.size))
    have hws := HBw.out.size
    by_cases hlt : k < hs.length
    · obtain ⟨b0, o0, hb0, hix, hcl⟩ := HHv.out.atB HB.out (P := Try.prog) Try.underlying33 cells69 some69 hlt
      have c0 := hcl 0 (by omega)
      have c1 := hcl 1 (by omega)
      have c2 := hcl 2 (by omega)
      have c3 := hcl 3 (by omega)
      have hw := HW.out hs[k] (List.getElem_mem hlt)
      simp only [eHunk, List.getElem?_cons_zero, List.getElem?_cons_succ, Nat.add_zero] at c0 c1 c2 c3
      obtain ⟨A, An, B, Bn, HX⟩ : ∃ A An B Bn : Nat, Hid (hs[k] = ((A : Int), (An : Int), (B : Int), (Bn : Int))) :=
        ⟨hs[k].1.toNat, hs[k].2.1.toNat, hs[k].2.2.1.toNat, hs[k].2.2.2.toNat, Lib.hid (by
          obtain ⟨g1, g2, _, g4, g5, _⟩ := hw
          rw [Int.toNat_of_nonneg g1, Int.toNat_of_nonneg g2, Int.toNat_of_nonneg g4, Int.toNat_of_nonneg g5])⟩
      rw [HX.out] at c0 c1 c2 c3 hw
      obtain ⟨_, _, g3, _, _, g6⟩ := hw
      simp only at g3 g6
      clear hcl
      obtain ⟨v1, hv1, ⟨p1, q1, r1, rfl⟩, HS1⟩ := ha.sub (P := Try.prog) Try.underlying47 elem47 cells9 some9 (lo := A) (hi' := A + An) (x := (A : Int)) (y := (A : Int) + An) rfl (by omega) (by omega) (by omega)
      obtain ⟨v2, hv2, ⟨p2, q2, r2, rfl⟩, HS2⟩ := hb.sub (P := Try.prog) Try.underlying47 elem47 cells9 some9 (lo := B) (hi' := B + Bn) (x := (B : Int)) (y := (B : Int) + Bn) rfl (by omega) (by omega) (by omega)
      rw [show A + An - A = An by omega] at HS1
      rw [show B + Bn - B = Bn by omega] at HS2
      have HS1 := Lib.hid HS1
      have HS2 := Lib.hid HS2
      have HBX : Hid (Below w.heap.size w (wr.alloc (.cells #[.int .i64 A, .int .i64 An, .int .i64 B, .int .i64 Bn] 69)).drew) := Lib.hid (HBw.out.alloc hws _).drew
      have hzX : w2.heap.size ≤ (wr.alloc (.cells #[.int .i64 A, .int .i64 An, .int .i64 B, .int .i64 Bn] 69)).drew.heap.size := by show _ ≤ (wr.alloc _).heap.size; simp; omega
      have HO5 := Lib.hid ((HO.out.alloc (.cells #[.int .i64 (A : Int), .int .i64 (An : Int), .int .i64 (B : Int), .int .i64 (Bn : Int)] 69)).alloc (.cells #[.int .i64 (A : Int), .slice p1 q1 r1, .slice p2 q2 r2] 53)).drew
      have HF5 : Hid (Sl eEd 3 (((wr.alloc (.cells #[.int .i64 (A : Int), .int .i64 (An : Int), .int .i64 (B : Int), .int .i64 (Bn : Int)] 69)).alloc (.cells #[.int .i64 (A : Int), .slice p1 q1 r1, .slice p2 q2 r2] 53)).drew) (.slice (some ⟨wr.heap.size + 1, 0, none⟩) 1 1) [((A : Int), ⟨p1, q1, r1⟩, ⟨p2, q2, r2⟩)] ∧ w2.heap.size ≤ (((wr.alloc (.cells #[.int .i64 (A : Int), .int .i64 (An : Int), .int .i64 (B : Int), .int .i64 (Bn : Int)] 69)).alloc (.cells #[.int .i64 (A : Int), .slice p1 q1 r1, .slice p2 q2 r2] 53)).drew).heap.size) := Lib.hid ⟨Sl.drew (Sl.fresh len_eEd (by simp) rfl rfl (by simp [maxLen])), by show _ ≤ ((wr.alloc _).alloc _).heap.size; simp; omega⟩
      go_wp2_with fail
      have hw1 : IntKind.i64.wrap ((A : Int) + An) = (A : Int) + An := IntWalk.i64_in _ (by omega)
      have hw2 : IntKind.i64.wrap ((B : Int) + Bn) = (B : Int) + Bn := IntWalk.i64_in _ (by omega)
      go_region_held3 (fun u => u.cell? ⟨wr.heap.size, 0, none⟩ = some (.int .i64 (A : Int)) ∧ u.cell? ⟨wr.heap.size, 1, none⟩ = some (.int .i64 (An : Int)) ∧ u.cell? ⟨wr.heap.size, 2, none⟩ = some (.int .i64 (B : Int)) ∧ u.cell? ⟨wr.heap.size, 3, none⟩ = some (.int .i64 (Bn : Int)) ∧ u.heap[wr.heap.size]? = some (.cells #[.int .i64 (A : Int), .int .i64 (An : Int), .int .i64 (B : Int), .int .i64 (Bn : Int)] 69 (0, 0)) ∧ wr.heap.size < u.heap.size)
        (first
          | exact of_block (heap_alloc_new _ _)
          | (go_split_ands; exact of_block (grown_heap hgr5 (by assumption) (HO5.out.ne_elem (by assumption) (by decide))))
          | (go_split_ands; exact of_block (heap_keep (by assumption)))
          | (go_split_ands; exact ⟨by assumption, by assumption, by assumption, by assumption, by assumption, by assumption⟩))
        ((refine step_append rfl _ _ _ (by rfl) _ 56 Try.underlying50 info53 rfl (by omega) len_eEd one_eEd _ (.slice (some ⟨wr.heap.size + 1, 0, none⟩) 1 1) es [((A : Int), ⟨p1, q1, r1⟩, ⟨p2, q2, r2⟩)] (by rfl) HO5.out (by rfl) HF5.out.1 (by simp only [maxLen, List.length_cons, List.length_nil]; omega) (by simp only [List.length_cons, List.length_nil]; omega) HF5.out.2 ?_; intro v5 w5 hown5 hgr5 hb5))
      have HB5 := Lib.hid (HB.out.trans (((((Below.refl wr.heap.size wr).alloc (Nat.le_refl _) (.cells #[.int .i64 (A : Int), .int .i64 (An : Int), .int .i64 (B : Int), .int .i64 (Bn : Int)] 69)).alloc (by simp) (.cells #[.int .i64 (A : Int), .slice p1 q1 r1, .slice p2 q2 r2] 53)).drew.mono hwz).trans hb5))
      have HO6 := Lib.hid hown5
      clear hw1 hw2 hb5 hgr5 hown5
      go_wp2_with fail
      go_roundw
      case rel =>
        refine ⟨k + 1, _, by omega, by go_num, ?_, HO6, Lib.hid ?_, HB5, HB5.out.size⟩
        · rw [List.length_append, HEs.out]; rfl
        · rw [List.take_succ_eq_append_getElem hlt, List.map_append, List.map_singleton, HX.out]
          exact HI.out.snoc (by simp [edOf]) (by simpa [edOf, SlV.val] using HS1.out) (by simpa [edOf, SlV.val] using HS2.out)
      case measure => simp [intOf]; omega
    · have hkl : k = hs.length := by omega
      have HKL := Lib.hid hkl
      clear hkl
      go_wp2_with fail
      go_ret
      refine ⟨_, es, rfl, HO.out.mono HB2.out.size, ?_, HBw.out⟩
      have := HI.out.ext HBw.out
      rwa [HKL.out, List.take_length, ← HE.out] at this
end Go.Proofs.Ytdlmdjhnigbfpaa
