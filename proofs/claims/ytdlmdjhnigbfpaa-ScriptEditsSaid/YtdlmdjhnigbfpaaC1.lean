/-
  Walks of layer 21: Common, the program's. No condition.
-/
import Derived.Test.YtdlmdjhnigbfpaaW4
import Derived.Test.YtdlmdjhnigbfpaaP4
import Derived.Deep.DeepCutAuto
import Derived.Test.YtdlmdjhnigbfpaaRow
import Derived.RegionTactic
namespace Go.Proofs.Ytdlmdjhnigbfpaa
open Go.RowKit Go.Sl Go.Scr

theorem cells3 : Try.prog.cellsOf 3 = 1 := by kernel_rfl
theorem some3 : (Try.prog.info? 3).isSome = true := by kernel_rfl
theorem info3 : (Try.prog.info? 3).map (fun i => (i.zero, i.size, i.bytes)) = some (some (.int .i64 0), 1, 8) := by kernel_rfl

theorem make_ints (n : Nat) (hn : n ≤ 800) : ∀ u : World, (Instr.makeSlice 22 (.int .i64 ((n : Int) + 1)) (.int .i64 ((n : Int) + 1))).run Try.prog u = .ok (.slice (some ⟨u.heap.size, 0, none⟩) (n + 1) (n + 1)) (u.alloc (.cells (madeCells #[.int .i64 0] (n + 1)) 3)) := by
  have h := run_make_row' (P := Try.prog) 22 3 _ 8 Try.underlying22 info3 rfl .i64 .i64 (n + 1) (by omega) (by omega)
  rw [show ((n + 1 : Nat) : Int) = (n : Int) + 1 by omega] at h
  exact h


theorem lcp_len (a b : List Int) : lcp a b ≤ b.length := by have := lcs_len a.reverse b.reverse; simpa [lcp] using this
theorem lcp_yes {a b : List Int} {k j : Nat} {x : Int} (hk : k < a.length) (hj : j < b.length) (hx : a[k] = x) (hy : b[j] = x) : lcp (a.take (k + 1)) (b.take (j + 1)) = lcp (a.take k) (b.take j) + 1 := by
  rw [take_snoc' a k hk, take_snoc' b j hj, lcp_snoc, hx, hy, if_pos rfl]
theorem lcp_no {a b : List Int} {k j : Nat} {x y : Int} (hk : k < a.length) (hj : j < b.length) (hx : a[k] = x) (hy : b[j] = y) (h : ¬ x = y) : lcp (a.take (k + 1)) (b.take (j + 1)) = max (lcp (a.take k) (b.take (j + 1))) (lcp (a.take (k + 1)) (b.take j)) := by
  conv => lhs; rw [take_snoc' a k hk, take_snoc' b j hj, lcp_snoc, hx, hy, if_neg h]
  rw [← hx, ← hy, ← take_snoc' a k hk, ← take_snoc' b j hj]

set_option maxHeartbeats 1000000 in
theorem common_any (va vb : Value) (a b : List Int) (w : World) (ha : Sl eInt 1 w va a) (hb : Sl eInt 1 w vb b) (hla : a.length ≤ 800) (hlb : b.length ≤ 800) :
    Calls Try.prog 9 #[va, vb] w fun e w' => e = .returned (.tuple #[.int .i64 (lcs a b : Nat), .int .i64 0]) ∧ Below w.heap.size w w' := by
  have hlen1 := ha.run_len (P := Try.prog) Try.underlying22
  have hlen2 := hb.run_len (P := Try.prog) Try.underlying22
  have hmk := make_ints b.length hlb
  go_enter Try.func9, Try.ntmps9
  go_wp2_with fail
  go_upto_region 4 with fail
  go_cut [6, 7] (fun s t wx => ∃ g h : Nat, s = .slice (some ⟨g, 0, none⟩) (b.length + 1) (b.length + 1) ∧ t = .slice (some ⟨h, 0, none⟩) (b.length + 1) (b.length + 1) ∧ g ≠ h ∧ w.heap.size ≤ g ∧ w.heap.size ≤ h ∧
    Hid (wx.rowIs g 3 (b.length + 1) (fun _ => .int .i64 0)) ∧ Hid (wx.rowIs h 3 (b.length + 1) (fun _ => .int .i64 0)) ∧ Hid (Below w.heap.size w wx))
  case first =>
    go_region
    · go_wp2_with fail
      go_meet
      exact ⟨_, _, rfl, rfl, by omega, by omega, by omega, Lib.hid (two_made w _ _ _).1, Lib.hid (two_made w _ _ _).2.1, Lib.hid (two_made w _ _ _).2.2⟩
    · go_wp2_with fail
      go_meet
      exact ⟨_, _, rfl, rfl, by omega, by omega, by omega, Lib.hid (two_made w _ _ _).2.1, Lib.hid (two_made w _ _ _).1, Lib.hid (two_made w _ _ _).2.2⟩
  case rest =>
    obtain ⟨g, h, rfl, rfl, hgh, hg, hh, HG, HH, HB⟩ := hcut
    clear hmk
    go_wp2_with fail
    go_loopw [6, 7, 30] (fun s t i wr => ∃ (k g h : Nat) (F : Nat → Value), k ≤ a.length ∧ i = .int .i64 k ∧ s = .slice (some ⟨g, 0, none⟩) (b.length + 1) (b.length + 1) ∧ t = .slice (some ⟨h, 0, none⟩) (b.length + 1) (b.length + 1) ∧ g ≠ h ∧ w.heap.size ≤ g ∧ w.heap.size ≤ h ∧
      Hid (wr.rowIs g 3 (b.length + 1) (fun j => .int .i64 (lcp (a.take k) (b.take j) : Nat))) ∧ Hid (wr.rowIs h 3 (b.length + 1) F) ∧ Hid (F 0 = .int .i64 0) ∧ Hid (Below w.heap.size w wr)) (fun _ _ i _ => a.length - (intOf i).toNat)
    case atStart => exact ⟨0, g, h, _, by omega, rfl, rfl, rfl, hgh, hg, hh, Lib.hid (HG.out.congr fun j _ => by simp [lcp_nil]), HH, Lib.hid rfl, HB⟩
    case round =>
      clear hgh hg hh HG HH HB
      obtain ⟨k, g, h, F, hk, rfl, rfl, rfl, hgh, hg, hh, HG, HH, HF, HB⟩ := hrel
      by_cases hlt : k < a.length
      · obtain ⟨b1, o1, _, hix1, hc1⟩ := (ha.ext HB.out).at (P := Try.prog) Try.underlying22 cells3 some3 hlt
        have hx := hc1 0 (by omega)
        simp only [eInt, List.getElem?_cons_zero, Nat.add_zero] at hx
        obtain ⟨x, HX⟩ : ∃ x, Hid (a[k] = x) := ⟨_, Lib.hid rfl⟩
        rw [HX.out] at hx
        clear hc1
        go_wp2_with fail
        obtain ⟨wo, rfl⟩ : ∃ wo : World, wo = wr := ⟨_, rfl⟩
        go_loopw [36] (fun i wi => ∃ (j : Nat) (F : Nat → Value), j ≤ b.length ∧ i = .int .i64 j ∧ 
          Hid (wi.rowIs g 3 (b.length + 1) (fun j => .int .i64 (lcp (a.take k) (b.take j) : Nat))) ∧ Hid (wi.rowIs h 3 (b.length + 1) F) ∧ Hid (∀ m, m ≤ j → F m = .int .i64 (lcp (a.take (k + 1)) (b.take m) : Nat)) ∧ Hid (Below w.heap.size w wi)) (fun i _ => b.length - (intOf i).toNat)
        case atStart => exact ⟨0, F, by omega, rfl, HG, HH, Lib.hid (fun m hm => by rw [Nat.le_zero.1 hm, HF.out]; simp [lcp_nil']), HB⟩
        case round =>
          obtain ⟨j, G, hj, rfl, HG2, HH2, HF2, HB2⟩ := hrel
          by_cases hlt2 : j < b.length
          · obtain ⟨b2, o2, _, hix2, hc2⟩ := (hb.ext HB2.out).at (P := Try.prog) Try.underlying22 cells3 some3 hlt2
            have hy := hc2 0 (by omega)
            simp only [eInt, List.getElem?_cons_zero, Nat.add_zero] at hy
            obtain ⟨y, HY⟩ : ∃ y, Hid (b[j] = y) := ⟨_, Lib.hid rfl⟩
            rw [HY.out] at hy
            clear hc2
            have e1 : wr.cell? ⟨g, j, none⟩ = _ := HG2.out.cell (i := j) (by omega)
            have e2 : wr.cell? ⟨g, j + 1, none⟩ = _ := HG2.out.cell (i := j + 1) (by omega)
            have e3 : wr.cell? ⟨h, j, none⟩ = _ := HH2.out.cell (i := j) (by omega)
            have e4 : wr.cell? ⟨h, j + 1, none⟩ = _ := HH2.out.cell (i := j + 1) (by omega)
            have e5 := HH2.out.frozen (j + 1)
            rw [HF2.out j (Nat.le_refl _)] at e3
            have l1 : lcp (a.take k) (b.take j) ≤ 800 := by have := lcp_len (a.take k) (b.take j); simp at this; omega
            by_cases hxy : x = y
            · have hxb : (x == y) = true := by simpa using hxy
              go_wp2_with fail
              go_roundw
              case rel =>
                refine ⟨j + 1, _, by omega, by go_num, Lib.hid (HG2.out.setOther hgh _), Lib.hid (HH2.out.set (j + 1) _), Lib.hid (row_step HF2.out ?_), Lib.hid (HB2.out.setCell hh _)⟩
                rw [lcp_yes hlt hlt2 HX.out (HY.out.trans hxy.symm)]; go_num
              case measure => simp [intOf]; omega
            · have hxb : (x == y) = false := by simpa using hxy
              go_wp2_with fail
              go_region
              all_goals
                go_wp2_with fail
                go_roundw
                case rel =>
                  refine ⟨j + 1, _, by omega, by go_num, Lib.hid (HG2.out.setOther hgh _).drew, Lib.hid (HH2.out.set (j + 1) _).drew, Lib.hid (row_step HF2.out ?_), Lib.hid (HB2.out.setCell hh _).drew⟩
                  rw [lcp_no hlt hlt2 HX.out HY.out hxy, max_cast]
                case measure => simp [intOf]; omega
          · obtain rfl : j = b.length := by omega
            go_wp2_with fail
            go_roundw
            case rel =>
              refine ⟨k + 1, h, g, _, by omega, by go_num, rfl, rfl, by omega, hh, hg, Lib.hid (HH2.out.congr fun m hm => HF2.out m (by omega)), HG2, Lib.hid (by simp [lcp_nil']), HB2⟩
            case measure => simp [intOf]; omega
      · obtain rfl : k = a.length := by omega
        have e1 : wr.cell? ⟨g, b.length, none⟩ = _ := HG.out.cell (i := b.length) (by omega)
        rw [List.take_length, List.take_length, lcp_eq] at e1
        go_wp2_with fail
        go_ret2
        exact ⟨rfl, HB.out⟩
end Go.Proofs.Ytdlmdjhnigbfpaa
