/-
  Layer 12: RefsGets. No condition besides what the arguments are.
-/
import Derived.Test.YtopamnfelngkcaaDoorR19
namespace Go.Proofs.YtopamnfelngkcaaDoor.Rf
open Go.Proofs Go.RowKit Go.Shelf Go.Sl Go.Route Go.Refs
set_option linter.unusedVariables false

theorem getF_zero {b : List UInt8} (h : (getF b).2 = 0) : putF (getF b).1 = (b, 0) ∧ ∀ r ∈ (getF b).1, r.nm.length ≤ b.length := by
  unfold getF at h ⊢
  cases hg : getG b with
  | none => rw [hg] at h; simp at h
  | some X =>
    rw [hg] at h
    simp only at h ⊢
    by_cases hc : chk X = 0
    · rw [if_pos hc]
      refine ⟨?_, (getG_len _ _ _ (Nat.le_refl _) hg).2⟩
      unfold putF
      rw [if_pos hc, getG_text _ _ _ (Nat.le_refl _) hg]
    · rw [if_neg hc] at h; exact absurd h hc
theorem getF_names (b : List UInt8) : ∀ r ∈ (getF b).1, r.nm.length ≤ b.length := by
  unfold getF
  cases hg : getG b with
  | none => intro r hr; simp at hr
  | some X =>
    simp only
    by_cases hc : chk X = 0
    · rw [if_pos hc]; exact (getG_len _ _ _ (Nat.le_refl _) hg).2
    · rw [if_neg hc]; intro r hr; simp at hr

set_option maxRecDepth 100000 in
set_option maxHeartbeats 2000000 in
theorem refsGets_any (v : Value) (b : List UInt8) (w : World) (hv : Sl eByte 1 w v b) (hm : Ml w) :
    Calls Tryd.prog 12 #[v] w fun e w' => e = .returned (.bool true) ∧ Below w.heap.size w w' := by
  have hlen := hv.run_len (P := Tryd.prog) Tryd.underlying34
  have hmax := hv.len_le
  have HV := Lib.hid hv
  have HMl := Lib.hid hm
  clear hv hm
  by_cases h80 : 4000 < b.length
  · have d1 : decide ((4000 : Int) < b.length) = true := decide_eq_true (by omega)
    go_enter Tryd.func12, Tryd.ntmps12
    go_wp2_with fail
    refine (works12_any w HMl.out).mono ?_
    rintro e w2 ⟨rfl, hb⟩
    have HB := Lib.hid hb
    clear hb
    go_wp2_with fail
    go_ret
    exact ⟨rfl, HB.out⟩
  have d1 : decide ((4000 : Int) < b.length) = false := decide_eq_false (by omega)
  have HZ := Lib.hid (getF_zero (b := b))
  have HN := Lib.hid (getF_names b)
  obtain ⟨X, hX⟩ : ∃ X, Hid ((getF b).1 = X) := ⟨_, Lib.hid rfl⟩
  obtain ⟨c, hc⟩ : ∃ c, Hid ((getF b).2 = c) := ⟨_, Lib.hid rfl⟩
  rw [hX.out, hc.out] at HZ
  rw [hX.out] at HN
  have HL : Hid (∀ r ∈ X, r.nm.length ≤ 9223372036854775807) := Lib.hid (fun r hr => by have := HN.out r hr; omega)
  go_enter Tryd.func12, Tryd.ntmps12
  go_wp2_with fail
  refine (get_any v b w HV.out (by omega) HMl.out).mono ?_
  rintro e w1 ⟨v1, rfl, hs1, hb⟩
  rw [hX.out] at hs1
  rw [hc.out]
  have HS1 := Lib.hid hs1
  have HW1 := Lib.hid hb
  clear hb hs1
  go_wp2_with fail
  refine (rget_any v b w1 (HV.out.ext HW1.out) (by omega)).mono ?_
  rintro e w2 ⟨v2, rfl, hs2, hb⟩
  rw [hX.out] at hs2
  rw [hc.out]
  have HS2 := Lib.hid hs2
  have HS12 := Lib.hid (HS1.out.ext hb)
  have HW2 := Lib.hid (bthen HW1.out hb)
  clear hb hs2
  go_wp2_with fail
  have HSame := Lib.hid (same_any v1 v2 X X w2 HS12.out HS2.out)
  rw [show decide (X = X) = true by simp] at HSame
  refine HSame.out.mono ?_
  rintro e w3 ⟨rfl, hb⟩
  have HS3 := Lib.hid (HS12.out.ext hb)
  have HW3 := Lib.hid (bthen HW2.out hb)
  have HPut := Lib.hid (put_any v1 X w3 HS3.out HL.out (HMl.out.ext HW3.out))
  clear hb HSame
  by_cases hc0 : c = 0
  · subst hc0
    rw [(HZ.out rfl).1] at HPut
    clear hX hc
    go_wp2_with fail
    refine HPut.out.mono ?_
    rintro e w4 ⟨v4, rfl, hs4, hb⟩
    have HS4 := Lib.hid hs4
    have HW4 := Lib.hid (bthen HW3.out hb)
    have HV4 := Lib.hid (HV.out.ext HW4.out)
    clear hb hs4 HPut
    go_wp2_with (first
      | (go_at_call 56; go_must (refine (sameB_any v4 v b b true (by simp) w4 HS4.out HV4.out).mono ?_; rintro e w5 ⟨rfl, rfl⟩))
      | (go_at_call 46; go_must (refine (works12_any w4 (HMl.out.ext HW4.out)).mono ?_; rintro e w6 ⟨rfl, hb⟩; have HW6 := Lib.hid (bthen HW4.out hb); clear hb)))
    go_ret
    exact ⟨rfl, HW6.out⟩
  · have hne : (c == 0) = false := by rw [beq_eq_false_iff_ne]; exact hc0
    obtain ⟨T, hT⟩ : ∃ T, Hid ((putF X).1 = T) := ⟨_, Lib.hid rfl⟩
    obtain ⟨t, ht⟩ : ∃ t, Hid ((putF X).2 = t) := ⟨_, Lib.hid rfl⟩
    rw [hT.out, ht.out] at HPut
    go_wp2_with fail
    refine HPut.out.mono ?_
    rintro e w4 ⟨v4, rfl, hs4, hb⟩
    have HW4 := Lib.hid (bthen HW3.out hb)
    clear hb hs4 HPut
    go_wp2_with (first
      | (go_at_call 46; go_must (refine (works12_any w4 (HMl.out.ext HW4.out)).mono ?_; rintro e w6 ⟨rfl, hb⟩; have HW6 := Lib.hid (bthen HW4.out hb); clear hb)))
    go_ret
    exact ⟨rfl, HW6.out⟩
end Go.Proofs.YtopamnfelngkcaaDoor.Rf
