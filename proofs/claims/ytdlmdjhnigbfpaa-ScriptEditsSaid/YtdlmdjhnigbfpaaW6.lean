/-
  Walks of layer 21: the reference's Hunks. No condition.
-/
import Derived.Test.YtdlmdjhnigbfpaaW5
import Derived.Deep.RegionHeld3
namespace Go.Proofs.Ytdlmdjhnigbfpaa
open Go.RowKit Go.Sl Go.Scr

set_option maxHeartbeats 1000000 in
theorem rhunks_any (n m : Int) (v : Value) (l : List (Int × Int)) (w : World) (hv : Sl ePair 2 w v l) (hc : chk n m l = 0) :
    Calls Try.prog 15 #[.int .i64 n, .int .i64 m, v] w fun e w' => ∃ r, e = .returned r ∧ Own eHunk 4 w.heap.size 69 w' r (hunks n m l) ∧ Below w.heap.size w w' := by
  obtain ⟨hsz, hok⟩ := chk_zero hc
  have hbn := sz_bound hsz
  have hll := okF_len (show (-1 : Int) < n by omega) hok
  have hpb : ∀ p ∈ l ++ [(n, m)], -1 < p.1 ∧ -1 < p.2 ∧ p.1 ≤ 800 ∧ p.2 ≤ 800 := fun p hp => by
    rcases List.mem_append.1 hp with h | h
    · have := okF_bound hok p h; omega
    · simp at h; subst h; omega
  have hal : (l ++ [(n, m)]).length = l.length + 1 := by simp
  obtain ⟨all, HAll⟩ : ∃ all, Hid (all = l ++ [(n, m)]) := ⟨_, Lib.hid rfl⟩
  rw [← HAll.out] at hpb hal
  have HPB := Lib.hid hpb
  have HAL := Lib.hid hal
  clear hc hsz hok hpb hal
  go_enter Try.func15, Try.ntmps15
  go_wp2_with (first
    | (at_builtin; refine wpList_append rfl _ _ _ rfl _ 16 Try.underlying23 info31 rfl (by omega) len_ePair one_ePair _ _ [] l rfl (Own.nil _ _ w.heap.size _ _) rfl hv (by simp only [maxLen, List.length_nil]; omega) (by simp only [List.length_nil]; omega) (Nat.le_refl _) ?_; intro v1 w1 hown1 hgr1 hb1; have HO1 := Lib.hid hown1; have HB1 := Lib.hid hb1; have hs1 := hb1.size; clear hgr1 hb1; obtain ⟨q1, q2, q3, rfl⟩ := hown1.isSlice; clear hown1)
    | (at_builtin; refine wpList_append rfl _ _ _ rfl _ 16 Try.underlying23 info31 rfl (by omega) len_ePair one_ePair _ _ ([] ++ l) [(n, m)] rfl (HO1.out.alloc _) rfl (Sl.fresh len_ePair (by simp) rfl rfl (by simp [maxLen])) (by simp only [maxLen, List.length_cons, List.length_nil, List.nil_append]; omega) (by simp only [List.length_cons, List.length_nil, List.nil_append]; omega) (by simp; omega) ?_; intro v2 w2 hown2 hgr2 hb2; have HO2 := Lib.hid hown2; have HB2 := Lib.hid (HB1.out.trans (((Below.refl _ _).alloc hs1 _).trans hb2)); clear hgr2 hb2 hown2))
  have hs2 := (HO2.out.sl len_ePair)
  rw [List.nil_append, ← HAll.out] at hs2
  have HS2 := Lib.hid hs2
  have hlen := hs2.run_len (P := Try.prog) Try.underlying23
  have hB := HB2.out.size
  have hmax := hs2.len_le
  have HHk : Hid (hunks n m l = [] ++ Scr.hk 0 0 (all.drop 0)) := Lib.hid (by rw [HAll.out]; rfl)
  clear hs2
  go_loopw [8, 9, 10, 11] (fun o sa sb i wr => ∃ (k : Nat) (a b : Int) (acc : List (Int × Int × Int × Int)), k ≤ all.length ∧ i = .int .i64 k ∧ sa = .int .i64 a ∧ sb = .int .i64 b ∧ 0 ≤ a ∧ a ≤ 801 ∧ 0 ≤ b ∧ b ≤ 801 ∧ acc.length ≤ k ∧ Hid (hunks n m l = acc ++ Scr.hk a b (all.drop k)) ∧
      Hid (Own eHunk 4 w2.heap.size 69 wr o acc) ∧ Hid (Below w2.heap.size w2 wr)) (fun _ _ _ i _ => all.length - (intOf i).toNat)
  case atStart => exact ⟨0, 0, 0, [], by omega, rfl, rfl, rfl, by omega, by omega, by omega, by omega, by simp, HHk, Lib.hid (Own.nil _ _ _ _ _), Lib.hid (Below.refl _ _)⟩
  case round =>
    obtain ⟨k, a, b, acc, hk, rfl, rfl, rfl, ha1, ha2, hb1, hb2, hacc, H1, HO, HB⟩ := hrel
    by_cases hlt : k < all.length
    · obtain ⟨b0, o0, hb0, hix, hc⟩ := HS2.out.at (P := Try.prog) Try.underlying23 cells31 some31 hlt
      have hc0 := (HB.out.cell (p := ⟨b0, _, none⟩) hb0).trans (hc 0 (by omega))
      have hc1 := (HB.out.cell (p := ⟨b0, _, none⟩) hb0).trans (hc 1 (by omega))
      simp only [ePair, List.getElem?_cons_zero, List.getElem?_cons_succ, Nat.add_zero] at hc0 hc1
      have hp := HPB.out all[k] (List.getElem_mem hlt)
      obtain ⟨x, y, hxy⟩ : ∃ x y, all[k] = (x, y) := ⟨_, _, rfl⟩
      rw [hxy] at hc0 hc1 hp
      have HX := Lib.hid hxy
      clear hxy hc
      simp only at hp
      have hall := HAL.out
      have hwr := HB.out.size
      obtain ⟨z1, z2, z3, z4⟩ := hp
      have HF : Hid (Sl eHunk 4 (wr.alloc (.cells #[.int .i64 a, .int .i64 (x - a), .int .i64 b, .int .i64 (y - b)] 69)).drew (.slice (some ⟨wr.heap.size, 0, none⟩) 1 1) [(a, x - a, b, y - b)]) :=
        Lib.hid (Sl.drew (Sl.fresh len_eHunk rfl rfl rfl (by simp [maxLen])))
      by_cases ht : a < x ∨ b < y
      · go_wp2_with fail
        all_goals
          have hw1 : IntKind.i64.wrap (x - a) = x - a := IntWalk.i64_in _ (by omega)
          have hw2 : IntKind.i64.wrap (y - b) = y - b := IntWalk.i64_in _ (by omega)
          go_region_held3 (fun u => u.cell? ⟨b0, o0, none⟩ = some (.int .i64 x) ∧ u.cell? ⟨b0, o0 + 1, none⟩ = some (.int .i64 y))
            (first
              | exact ⟨hc0, hc1⟩
              | exact ⟨(World.cell?_alloc_lt (w := wr) _ _ (by show b0 < _; omega)).trans hc0, (World.cell?_alloc_lt (w := wr) _ _ (by show b0 < _; omega)).trans hc1⟩
              | (go_split_ands; exact ⟨by assumption, by assumption⟩)
              | (go_split_ands; refine ⟨(hb3.cell (p := ⟨b0, _, none⟩) hb0).trans ?_, (hb3.cell (p := ⟨b0, _, none⟩) hb0).trans ?_⟩ <;> assumption))
            ((refine step_append rfl _ _ _ (by rfl) _ 32 Try.underlying33 info69 rfl (by omega) len_eHunk one_eHunk _ (.slice (some ⟨wr.heap.size, 0, none⟩) 1 1) acc [(a, x - a, b, y - b)] (by rfl) ((HO.out.alloc _).drew) (by rfl) HF.out (by simp only [maxLen, List.length_cons, List.length_nil]; omega) (by simp only [List.length_cons, List.length_nil]; omega) (by show _ ≤ (wr.alloc _).heap.size; simp; omega) ?_; intro v3 w3 hown3 hgr3 hb3))
          have hb4 : Below w2.heap.size wr w3 := (((Below.refl _ wr).alloc hwr _).drew).trans hb3
          have hd0 := (hb4.cell (p := ⟨b0, _, none⟩) hb0).trans hc0
          have hd1 := (hb4.cell (p := ⟨b0, _, none⟩) hb0).trans hc1
          have HB4 := Lib.hid hb4
          have HO3 := Lib.hid hown3
          clear hw1 hw2 hb4 hb3 hgr3 hown3
          go_wp2_with fail
          go_roundw
          case rel =>
            refine ⟨k + 1, x + 1, y + 1, _, by omega, by go_num, rfl, rfl, by omega, by omega, by omega, by omega, ?_, Lib.hid ?_, HO3, Lib.hid (HB.out.trans HB4.out)⟩
            · simp only [List.length_append, List.length_cons, List.length_nil]; omega
            · rw [H1.out, drop_at all hlt, HX.out, Scr.hk, if_pos (show a < x ∨ b < y from ht), List.append_assoc]
          case measure => simp [intOf]; omega
      · go_wp2_with fail
        go_roundw
        case rel =>
          refine ⟨k + 1, x + 1, y + 1, acc, by omega, by go_num, rfl, rfl, by omega, by omega, by omega, by omega, by omega, Lib.hid ?_, HO, HB⟩
          rw [H1.out, drop_at all hlt, HX.out, Scr.hk, if_neg (show ¬ (a < x ∨ b < y) from ht), List.nil_append]
        case measure => simp [intOf]; omega
    · go_wp2_with fail
      go_ret
      refine ⟨_, rfl, ?_, HB2.out.trans (HB.out.mono hB)⟩
      rw [H1.out, List.drop_eq_nil_of_le (by omega), Scr.hk, List.append_nil]
      exact HO.out.mono hB
end Go.Proofs.Ytdlmdjhnigbfpaa
