/-
  Layer 14: works. No condition.
-/
import Derived.Test.YtcpmnocknpalfaaR5
import Derived.Test.YtcpmnocknpalfaaG5
namespace Go.Proofs.Ytcpmnocknpalfaa
open Go.RowKit Go.Sl
set_option linter.unusedVariables false

def wes (b : Nat) : List (SlV × Int) := [(⟨none, 0, 0⟩, 0), (⟨some ⟨b, 0, none⟩, 1, 1⟩, 0), (⟨some ⟨b + 1, 0, none⟩, 1, 1⟩, 0), (⟨some ⟨b + 1 + 1, 0, none⟩, 2, 2⟩, 0)]
def wcells (b : Nat) : Array Value := #[.slice none 0 0, .int .i64 0, .slice (some ⟨b, 0, none⟩) 1 1, .int .i64 0, .slice (some ⟨b + 1, 0, none⟩) 1 1, .int .i64 0, .slice (some ⟨b + 1 + 1, 0, none⟩) 2 2, .int .i64 0]
theorem wg_gr (w : World) : Gr ((((w.alloc (.cells #[.int .i64 0] 3)).alloc (.cells #[.int .i64 0] 3)).alloc (.cells #[.int .i64 1, .int .i64 2] 3)).alloc (.cells (wcells w.heap.size) 90))
    (.slice (some ⟨w.heap.size + 1 + 1 + 1, 0, none⟩) 4 4) (wes w.heap.size) Dag.wg := by
  have b3 : ∀ w : World, ∀ o, Below w.heap.size w (w.alloc o) := fun w o => (Below.refl _ _).alloc (Nat.le_refl _) _
  have s1 : Sl eInt 1 (w.alloc (.cells #[.int .i64 0] 3)) (.slice (some ⟨w.heap.size, 0, none⟩) 1 1) [0] := Sl.fresh len_eInt rfl rfl rfl (by simp [maxLen])
  have s2 : Sl eInt 1 ((w.alloc (.cells #[.int .i64 0] 3)).alloc (.cells #[.int .i64 0] 3)) (.slice (some ⟨w.heap.size + 1, 0, none⟩) 1 1) [0] := Sl.fresh len_eInt (by simp) rfl rfl (by simp [maxLen])
  have s3 : Sl eInt 1 (((w.alloc (.cells #[.int .i64 0] 3)).alloc (.cells #[.int .i64 0] 3)).alloc (.cells #[.int .i64 1, .int .i64 2] 3)) (.slice (some ⟨w.heap.size + 1 + 1, 0, none⟩) 2 2) [1, 2] := Sl.fresh len_eInt (by simp) rfl rfl (by simp [maxLen])
  have t1 := ((s1.ext (b3 _ (.cells #[.int .i64 0] 3))).ext (b3 _ (.cells #[.int .i64 1, .int .i64 2] 3))).ext (b3 _ (.cells (wcells w.heap.size) 90))
  have t2 := (s2.ext (b3 _ (.cells #[.int .i64 1, .int .i64 2] 3))).ext (b3 _ (.cells (wcells w.heap.size) 90))
  have t3 := s3.ext (b3 _ (.cells (wcells w.heap.size) 90))
  refine ⟨Sl.fresh len_eNd (by simp) rfl rfl (by simp [maxLen, wes]), rfl, fun k h1 h2 => ?_⟩
  have hk : k < 4 := h1
  obtain rfl | rfl | rfl | rfl : k = 0 ∨ k = 1 ∨ k = 2 ∨ k = 3 := by omega
  · exact ⟨rfl, Sl.nil _ _ _⟩
  · exact ⟨rfl, t1⟩
  · exact ⟨rfl, t2⟩
  · exact ⟨rfl, t3⟩

theorem same1_any (v : Value) (l : List Int) (x : Int) (t : Bool) (ht : decide (l = [x]) = t) (w : World) (h : Sl eInt 1 w v l) : Calls Try.prog 18 #[v, .slice (some ⟨w.heap.size, 0, none⟩) 1 1] (w.alloc (.cells #[.int .i64 x] 3)) fun e w' => e = .returned (.bool t) ∧ Below w.heap.size w w' := by
  have hb0 : Below w.heap.size w (w.alloc (.cells #[.int .i64 x] 3)) := (Below.refl _ _).alloc (Nat.le_refl _) _
  have hs : Sl eInt 1 (w.alloc (.cells #[.int .i64 x] 3)) (.slice (some ⟨w.heap.size, 0, none⟩) 1 1) [x] := Sl.fresh len_eInt rfl rfl rfl (by simp [maxLen])
  refine (same_any v _ l [x] _ (h.ext hb0) hs).mono ?_
  rintro e w3 ⟨rfl, n, rfl⟩
  exact ⟨by rw [ht], below_drewN hb0 _⟩
/-- two lists compared -/
theorem same_b (v1 v2 : Value) (l1 l2 : List Int) (t : Bool) (ht : decide (l1 = l2) = t) (w : World) (h1 : Sl eInt 1 w v1 l1) (h2 : Sl eInt 1 w v2 l2) : Calls Try.prog 18 #[v1, v2] w fun e w' => e = .returned (.bool t) ∧ Below w.heap.size w w' := by
  refine (same_any v1 v2 l1 l2 w h1 h2).mono ?_
  rintro e w3 ⟨rfl, n, rfl⟩
  exact ⟨by rw [ht], below_drewN (Below.refl _ _) _⟩

set_option maxRecDepth 100000 in
set_option maxHeartbeats 1000000 in
theorem works_any (w : World) : Calls Try.prog 19 #[] w fun e w' => e = .returned (.bool true) ∧ Below w.heap.size w w' := by
  have HGr := Lib.hid (wg_gr w)
  have HB0 := Lib.hid (((((Below.refl w.heap.size w).alloc (Nat.le_refl _) (.cells #[.int .i64 0] 3)).alloc (by simp) (.cells #[.int .i64 0] 3)).alloc (by simp; omega) (.cells #[.int .i64 1, .int .i64 2] 3)).alloc (by simp; omega) (.cells (wcells w.heap.size) 90))
  have HA := Lib.hid Dag.wg_a
  have HBb := Lib.hid Dag.wg_b
  obtain ⟨wa, hwa⟩ : ∃ wa, wa = (((w.alloc (.cells #[.int .i64 0] 3)).alloc (.cells #[.int .i64 0] 3)).alloc (.cells #[.int .i64 1, .int .i64 2] 3)).alloc (.cells (wcells w.heap.size) 90) := ⟨_, rfl⟩
  rw [← hwa] at HGr HB0
  have HWa : Hid ((((w.alloc (.cells #[.int .i64 0] 3)).alloc (.cells #[.int .i64 0] 3)).alloc (.cells #[.int .i64 1, .int .i64 2] 3)).alloc (.cells (#[.slice none 0 0, .int .i64 0, .slice (some ⟨w.heap.size, 0, none⟩) 1 1, .int .i64 0, .slice (some ⟨w.heap.size + 1, 0, none⟩) 1 1, .int .i64 0, .slice (some ⟨w.heap.size + 1 + 1, 0, none⟩) 2 2, .int .i64 0]) 90) = wa) := Lib.hid hwa.symm
  clear hwa
  go_enter Try.func19, Try.ntmps19
  go_wp2_with fail
  rw [HWa.out]
  refine (bases_ok _ _ _ 1 2 rfl rfl wa _ Dag.wg Dag.wg_ok (by decide) (by decide) HGr.out).mono ?_
  rintro e w1 ⟨v1, rfl, ho, hb⟩
  rw [HA.out] at ho
  have HO1 := Lib.hid ho
  have HB1 := Lib.hid hb
  clear ho hb
  go_wp2_with fail
  refine (bases_ok _ _ _ 3 2 rfl rfl w1 _ Dag.wg Dag.wg_ok (by decide) (by decide) (HGr.out.ext HB1.out)).mono ?_
  rintro e w2 ⟨v2, rfl, ho, hb⟩
  rw [HBb.out] at ho
  have HO2 := Lib.hid ho
  have HB2 := Lib.hid hb
  clear ho hb
  go_wp2_with fail
  refine (same1_any v1 [0] 0 true rfl w2 ((HO1.out.sl len_eInt).ext HB2.out)).mono ?_
  rintro e w3 ⟨rfl, hb⟩
  have HB3 := Lib.hid hb
  clear hb
  go_wp2_with fail
  refine (same1_any v2 [2] 2 true rfl w3 ((HO2.out.sl len_eInt).ext HB3.out)).mono ?_
  rintro e w4 ⟨rfl, hb⟩
  have HB4 := Lib.hid hb
  clear hb
  go_wp2_with fail
  go_ret
  have h1 := HB0.out.trans (HB1.out.mono HB0.out.size)
  have h2 := h1.trans (HB2.out.mono h1.size)
  have h3 := h2.trans (HB3.out.mono h2.size)
  exact ⟨rfl, h3.trans (HB4.out.mono h3.size)⟩
end Go.Proofs.Ytcpmnocknpalfaa
