/-
  Layer 12: Resolve. No condition besides what the arguments are.
-/
import Derived.Test.YtopamnfelngkcaaDoorR7
namespace Go.Proofs.YtopamnfelngkcaaDoor.Rf
open Go.Proofs Go.RowKit Go.Shelf Go.Sl Go.Route Go.Refs
set_option linter.unusedVariables false

theorem resF_bad {l : List Go.Sl.Rf} {s : List UInt8} (h : chk l ≠ 0) : resF l s = (zRf, chk l) := by unfold resF; rw [if_neg h]
theorem resF_ok {l : List Go.Sl.Rf} {s : List UInt8} (h : chk l = 0) : resF l s = if (firstF l [s, heads ++ s, tags ++ s]).2 then ((firstF l [s, heads ++ s, tags ++ s]).1, 0) else (zRf, 35) := by unfold resF; rw [if_pos h]
theorem c_heads : (⟨#[104, 101, 97, 100, 115, 47]⟩ : ByteArray) = bstr heads := rfl
theorem c_tags : (⟨#[116, 97, 103, 115, 47]⟩ : ByteArray) = bstr tags := rfl
theorem len_heads : heads.length = 6 := rfl
theorem len_tags : tags.length = 5 := rfl

set_option maxRecDepth 100000 in
set_option maxHeartbeats 1000000 in
theorem resolve_any (v : Value) (l : List Go.Sl.Rf) (s : List UInt8) (w : World) (hv : Sl eRf 33 w v l) (hl : ∀ r ∈ l, r.nm.length ≤ 9223372036854775807) (hs : s.length ≤ 9223372036854775000) (hm : Ml w) :
    Calls Tryd.prog 49 #[v, .string (bstr s)] w fun e w' => e = .returned (.tuple #[vRf (resF l s).1, .int .i64 (resF l s).2]) ∧ Below w.heap.size w w' := by
  have HV := Lib.hid hv
  have HL := Lib.hid hl
  have HMl := Lib.hid hm
  clear hv hl hm
  go_enter Tryd.func49, Tryd.ntmps49
  go_wp2_with (first | refine al43 rfl rfl ?_)
  obtain ⟨w1, hw1⟩ : ∃ u, Hid (u = w.alloc (.cells (eRf zRf).toArray 43)) := ⟨_, Lib.hid rfl⟩
  have hs1 : w1.heap.size = w.heap.size + 1 := by rw [hw1.out]; simp
  have HG : Hid (w1.heap[w.heap.size]? = some (.cells (eRf zRf).toArray 43 (0, 0))) := Lib.hid (by rw [hw1.out]; exact heap_alloc_new _ _)
  have HB1 : Hid (Below w.heap.size w w1) := Lib.hid (by rw [hw1.out]; exact (Below.refl _ _).alloc (Nat.le_refl _) _)
  rw [← hw1.out]
  clear hw1
  refine (check_any v l w1 (HV.out.ext HB1.out) HL.out (HMl.out.ext HB1.out)).mono ?_
  rintro e w2 ⟨rfl, hb⟩
  have HW2 := Lib.hid hb
  have HG2 : Hid (w2.heap[w.heap.size]? = some (.cells (eRf zRf).toArray 43 (0, 0))) := Lib.hid ((hb.block _ (by omega)).trans HG.out)
  have HW2w := Lib.hid (bthen HB1.out hb)
  have hs2 : w.heap.size < w2.heap.size := by have := hb.size; omega
  clear hb
  obtain ⟨c, hc⟩ : ∃ c, Hid (chk l = c) := ⟨_, Lib.hid rfl⟩
  rw [hc.out]
  by_cases h0 : c = 0
  · subst h0
    have HF := Lib.hid (resF_ok (s := s) hc.out)
    have c1 := c_heads
    have c2 := c_tags
    have n1 := len_heads
    have n2 := len_tags
    go_wp2_with fail
    refine (first_any _ _ l [s, heads ++ s, tags ++ s] _ (HV.out.ext ?b1) ?b2).mono ?_
    case b1 => exact HW2w.out.alloc HW2w.out.size _
    case b2 => exact Sl.fresh len_eL rfl rfl rfl (by simp [maxLen])
    rintro e w3 ⟨rfl, hb⟩
    have hb3 : Below w2.heap.size w2 w3 := ((Below.refl _ w2).alloc (Nat.le_refl _) _).trans (hb.mono (by simp))
    have HW3 := Lib.hid (bthen HW2w.out hb3)
    have HG3 : Hid (w3.heap[w.heap.size]? = some (.cells (eRf zRf).toArray 43 (0, 0))) := Lib.hid ((hb3.block _ hs2).trans HG2.out)
    clear hb hb3 c1 c2 n1 n2
    obtain ⟨r, hr⟩ : ∃ r, Hid ((firstF l [s, heads ++ s, tags ++ s]).1 = r) := ⟨_, Lib.hid rfl⟩
    obtain ⟨t, ht⟩ : ∃ t, Hid ((firstF l [s, heads ++ s, tags ++ s]).2 = t) := ⟨_, Lib.hid rfl⟩
    have HF2 : Hid (resF l s = if t then (r, 0) else (zRf, 35)) := Lib.hid (by rw [HF.out, hr.out, ht.out])
    rw [hr.out, ht.out]
    have HN : Hid ((w3.alloc (.cells (eRf r).toArray 43)).heap[w3.heap.size]? = some (.cells (eRf r).toArray 43 (0, 0))) := Lib.hid (heap_alloc_new _ _)
    have HI : Hid ((w3.alloc (.cells (eRf r).toArray 43)).rangeAt w3.heap.size 0 (eRf r)) := Lib.hid (range_of_heap (cs := (eRf r).toArray) HN.out)
    have HG4 : Hid ((w3.alloc (.cells (eRf r).toArray 43)).heap[w.heap.size]? = some (.cells (eRf zRf).toArray 43 (0, 0))) := Lib.hid (heap_keep HG3.out)
    have HW4 : Hid (Below w.heap.size w (w3.alloc (.cells (eRf r).toArray 43))) := Lib.hid (HW3.out.alloc HW3.out.size _)
    clear HF hr ht
    cases t with
    | true =>
      have HZ : Hid (resF l s = (r, 0)) := Lib.hid (by rw [HF2.out, if_pos rfl])
      go_wp2_with (first
        | refine new43 rfl rfl rfl _ _ rfl rfl r rfl rfl ?_
        | refine ld43 rfl _ rfl _ _ rfl r HI.out ?_
        | refine st43 rfl rfl _ _ rfl w.heap.size rfl r zRf rfl HG4.out ?_)
      refine bodyPost_ret (results_row_tmp rfl _ w.heap.size 43 _ (0, 0) _ rfl (setRow_heap _ _ _ _ _ _ HG4.out) Tryd.underlying43 rfl (by rw [size43, size_eRf])) rfl ?_
      rw [HZ.out]
      exact ⟨rfl, below_setRow HW4.out (Nat.le_refl _) _⟩
    | false =>
      have HZ : Hid (resF l s = (zRf, 35)) := Lib.hid (by rw [HF2.out]; rfl)
      go_wp2_with (first
        | refine new43 rfl rfl rfl _ _ rfl rfl r rfl rfl ?_
        | refine bd43z rfl rfl ?_
        | refine st43 rfl rfl _ _ rfl w.heap.size rfl zRf zRf rfl HG4.out ?_)
      refine bodyPost_ret (results_row_tmp rfl _ w.heap.size 43 _ (0, 0) _ rfl (setRow_heap _ _ _ _ _ _ HG4.out) Tryd.underlying43 rfl (by rw [size43, size_eRf])) rfl ?_
      rw [HZ.out]
      exact ⟨rfl, below_setRow HW4.out (Nat.le_refl _) _⟩
  · have hne : (c == 0) = false := by rw [beq_eq_false_iff_ne]; exact h0
    have HZ : Hid (resF l s = (zRf, c)) := Lib.hid (by rw [resF_bad (by rw [hc.out]; exact h0), hc.out])
    go_wp2_with (first
      | refine bd43z rfl rfl ?_
      | refine st43 rfl rfl _ _ rfl w.heap.size rfl zRf zRf rfl HG2.out ?_)
    refine bodyPost_ret (results_row_tmp rfl _ w.heap.size 43 _ (0, 0) _ rfl (setRow_heap _ _ _ _ _ _ HG2.out) Tryd.underlying43 rfl (by rw [size43, size_eRf])) rfl ?_
    rw [HZ.out]
    exact ⟨rfl, below_setRow HW2w.out (Nat.le_refl _) _⟩
end Go.Proofs.YtopamnfelngkcaaDoor.Rf
