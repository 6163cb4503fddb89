/-
  Layer 20: the law's own two lines. No condition.
-/
import Derived.Test.YtibebmdpjaknpaaDoorW2
import Derived.Lib.SlBytesConst
namespace Go.Proofs.YtibebmdpjaknpaaDoor
open Go.RowKit Go.Sl
set_option linter.unusedVariables false

theorem ret_bool {a b : Bool} (h : a = b) : Ending.returned (.bool a) = .returned (.bool b) := by rw [h]
theorem ret_int {k : IntKind} {a b : Int} (h : a = b) : Ending.returned (.int k a) = .returned (.int k b) := by rw [h]
theorem cells9 : Tryd.prog.cellsOf 9 = 1 := by kernel_rfl
theorem some9 : (Tryd.prog.info? 9).isSome = true := by kernel_rfl
theorem lines_ab : Line.lines [97, 10, 98] = [[97, 10], [98]] := by decide

set_option maxRecDepth 100000 in
set_option maxHeartbeats 1000000 in
theorem works_any (w : World) : Calls Tryd.prog 4 #[] w fun e w' => e = .returned (.bool true) ∧ Below w.heap.size w w' := by
  have kc := fun (w : World) (C : Array Value) (n c : Nat) => Lib.run_convert_bytes_const (P := Tryd.prog) w 30 5 C n c Tryd.underlying30 Tryd.underlying5
  have hs0 : Sl eByte 1 (w.alloc (.cells #[.int .u8 97, .int .u8 10, .int .u8 98] 5 (3, 4))) (.slice (some ⟨w.heap.size, 0, none⟩) 3 3) [97, 10, 98] := Sl.fresh len_eByte rfl rfl rfl (by simp [maxLen])
  have HC := Lib.hid (split_any _ _ _ hs0 (by decide))
  rw [lines_ab] at HC
  have HB := Lib.hid ((Below.refl w.heap.size w).alloc (Nat.le_refl _) (.cells #[.int .u8 97, .int .u8 10, .int .u8 98] 5 (3, 4)))
  clear hs0
  go_enter Tryd.func4, Tryd.ntmps4
  go_wp2_with (go_at_call 9; go_must (refine HC.out.mono ?_; rintro e w2 ⟨ov, rfl, hown, hb⟩; have hs := hown.sl len_eL; have hlen := hs.run_len (P := Tryd.prog) Tryd.underlying28; obtain ⟨b0, o0, hb0, hix0, hc0⟩ := hs.at (P := Tryd.prog) Tryd.underlying28 cells9 some9 (k := 0) (by decide); obtain ⟨b1, o1, hb1, hix1, hc1⟩ := hs.at (P := Tryd.prog) Tryd.underlying28 cells9 some9 (k := 1) (by decide); simp only [Int.natCast_zero, Int.natCast_one] at hix0 hix1; have e0 := hc0 0 (by omega); have e1 := hc1 0 (by omega); simp only [eL, List.getElem?_cons_zero, Nat.add_zero, List.getElem_cons_zero, List.getElem_cons_succ] at e0 e1; simp only [List.length_cons, List.length_nil] at hlen; have HB2 := Lib.hid (HB.out.trans (hb.mono (by simp))); obtain ⟨oa, on, oc, rfl⟩ := hs.isSlice; clear hc0 hc1 hown hb hs))
  go_ret
  exact ⟨rfl, HB2.out⟩
end Go.Proofs.YtibebmdpjaknpaaDoor
