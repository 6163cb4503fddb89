/-
  Layer 16: a filter keeps its texts; the law's own lines. No condition.
-/
import Derived.Test.YtopamnfelngkcaaDoorBW11
import Derived.Test.YtopamnfelngkcaaDoorBW9
namespace Go.Proofs.YtopamnfelngkcaaDoor.Bm
open Go.Proofs Go.RowKit Go.Shelf Go.Sl Go.Bl
set_option linter.unusedVariables false

theorem plc_lt (l : Str) {many : Nat} (h : 0 < many) (i : Nat) : plc l many i < many := by unfold plc; exact Nat.mod_lt _ h
theorem all255 : ∀ p : Fin 8, bitF [255] p.val = true := by decide +kernel
theorem hasF_ne {f l : Str} (hne : f ≠ []) : hasF f l = (List.range 7).all (fun i => bitF f (plc l (8 * f.length) i)) := by
  unfold hasF
  rw [List.isEmpty_eq_false_iff.2 hne, Bool.false_or]
theorem all_of {α : Type} (g : α → Bool) (r : List α) (h : ∀ x, g x = true) : r.all g = true := List.all_eq_true.2 (fun x _ => h x)
theorem hitF_of {l : Str} {many i : Nat} (hi : i < 7) : hitF l many (plc l many i) = true := by
  unfold hitF
  rw [List.any_eq_true]
  exact ⟨i, List.mem_range.2 hi, decide_eq_true (Eq.refl _)⟩
theorem MkF.ne {T : List Str} {f : List UInt8} (h : MkF T f) : f ≠ [] := by
  unfold MkF at h
  by_cases hT : 200 < T.length
  · rw [if_pos hT] at h; rw [h]; simp
  · rw [if_neg hT] at h
    rintro rfl
    have := szF_pos T.length
    rw [← h.1] at this
    simp at this
theorem MkF.len {T : List Str} {f : List UInt8} (h : MkF T f) : f.length ≤ 1000 := by
  unfold MkF at h
  by_cases hT : 200 < T.length
  · rw [if_pos hT] at h; rw [h]; simp
  · rw [if_neg hT] at h
    rw [h.1]; exact szF_le (by omega)
theorem MkF.has {T : List Str} {f x : List UInt8} (h : MkF T f) (hx : x ∈ T) : hasF f x = true := by
  have hne := h.ne
  have hpos := List.length_pos_iff.2 hne
  rw [hasF_ne hne, List.all_eq_true]
  intro i hi
  have hi7 := List.mem_range.1 hi
  have hp := plc_lt x (many := 8 * f.length) (by omega) i
  obtain ⟨p, hpe⟩ : ∃ p, Hid (plc x (8 * f.length) i = p) := ⟨_, Lib.hid rfl⟩
  have hit := hitF_of (l := x) (many := 8 * f.length) hi7
  rw [hpe.out] at hit hp ⊢
  unfold MkF at h
  by_cases hT : 200 < T.length
  · rw [if_pos hT] at h
    subst h
    exact all255 ⟨p, by simpa using hp⟩
  · rw [if_neg hT] at h
    rw [h.2 p hp, List.any_eq_true]
    exact ⟨x, hx, hit⟩
theorem hash_one : u32 (hash 1#32 []) = 1364076727 := by decide +kernel

set_option maxRecDepth 100000 in
set_option maxHeartbeats 1000000 in
theorem works_any (w : World) : Calls Tryd.prog 41 #[] w fun e w' => e = .returned (.bool true) ∧ Below w.heap.size w w' := by
  have HH : Hid (∀ u, Calls Tryd.prog 74 #[.int .u32 1, .string { data := #[] }] u fun e w' => e = .returned (.int .u32 1364076727) ∧ Dn u w') := Lib.hid (fun u => hash_any (seed := 1#32) (S0 := 1) (by decide) [] (by simp) hash_one u)
  have HM : Hid (∀ u : World, Calls Tryd.prog 44 #[.slice (some ⟨u.heap.size, 0, none⟩) 1 1] (u.alloc (.cells #[.string { data := #[97] }] 9)) fun e w' => ∃ (fv : Value) (f : List UInt8), e = .returned fv ∧ f.length ≤ 1000 ∧ hasF f [97] = true ∧ Sl eByte 1 w' fv f ∧ Below u.heap.size u w') := Lib.hid (fun u =>
    (make_any _ [[97]] _ (Sl.fresh len_eL rfl rfl rfl (by simp [maxLen])) (by simp) (by simp)).mono (by
      rintro e w' ⟨fv, T, f, rfl, hun, hmk, hown, hb⟩
      exact ⟨fv, f, rfl, hmk.len, hmk.has ((hun.2 _).2 (by simp)), hown.sl len_eByte, ((Below.refl _ u).alloc (Nat.le_refl _) _).trans (hb.mono (by simp))⟩))
  go_enter Tryd.func41, Tryd.ntmps41
  go_wp2_with fail
  refine (HH.out w).mono ?_
  rintro e w1 ⟨rfl, hb⟩
  have HW1 := Lib.hid (Dn.below (B := w.heap.size) hb)
  have HB1 := Lib.hid hb
  clear HH hb
  go_wp2_with fail
  refine (HM.out w1).mono ?_
  rintro e w2 ⟨fv, f, rfl, hf, hh, hs, hb⟩
  have HW2 := Lib.hid (bthen HW1.out hb)
  have HA := Lib.hid (has_any fv f [97] w2 hs hf (by decide))
  rw [hh] at HA
  clear hb hs hh HM
  go_wp2_with fail
  refine HA.out.mono ?_
  rintro e w3 ⟨rfl, hb⟩
  have HW3 := Lib.hid (bthen HW2.out hb)
  clear hb HA
  go_wp2_with fail
  go_ret
  exact ⟨rfl, HW3.out⟩
end Go.Proofs.YtopamnfelngkcaaDoor.Bm
