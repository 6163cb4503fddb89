/-
  Layer 12: Read, and the document's Begin and Read. No condition besides what the arguments are.
-/
import Derived.Test.YtopamnfelngkcaaDoorR16
namespace Go.Proofs.YtopamnfelngkcaaDoor.Rf
open Go.Proofs Go.RowKit Go.Shelf Go.Sl Go.Route Go.Refs
set_option linter.unusedVariables false

theorem ne64 {n : Nat} (h : n ≠ 64) : ((n : Int) == 64) = false ∧ ¬ (n : Int) = 64 := ⟨by rw [beq_eq_false_iff_ne]; omega, by omega⟩

set_option maxRecDepth 100000 in
set_option maxHeartbeats 2000000 in
theorem read_any (s : List UInt8) (hsl : s.length ≤ 9223372036854775807) (w : World) : Calls Tryd.prog 86 #[.string (bstr s)] w fun e w' => e = .returned (.tuple #[vId (readF s).1, .int .i64 (readF s).2]) ∧ Below w.heap.size w w' := by
  obtain ⟨w1, hw1⟩ : ∃ u, Hid (u = w.alloc (.cells (eId zId).toArray 39)) := ⟨_, Lib.hid rfl⟩
  have hs1 : w1.heap.size = w.heap.size + 1 := by rw [hw1.out]; simp
  have HG : Hid (w1.heap[w.heap.size]? = some (.cells (eId zId).toArray 39 (0, 0))) := Lib.hid (by rw [hw1.out]; exact heap_alloc_new _ _)
  have HB1 : Hid (Below w.heap.size w w1) := Lib.hid (by rw [hw1.out]; exact (Below.refl _ _).alloc (Nat.le_refl _) _)
  by_cases hs : s.length = 64
  · have hz : ((s.length : Nat) : Int) = 64 := by omega
    have hb1 : ((s.length : Int) == 64) = true := by rw [hz]; rfl
    have HC := Lib.hid (begin_any s hs w1)
    clear hs
    go_enter Tryd.func86, Tryd.ntmps86
    go_wp2_with (first | (refine al39 rfl rfl ?_; rw [← hw1.out]))
    refine HC.out.mono ?_
    rintro e w2 ⟨n, rfl, hb⟩
    obtain ⟨i, hi⟩ : ∃ i, Hid ((readF s).1 = i) := ⟨_, Lib.hid rfl⟩
    obtain ⟨c, hc⟩ : ∃ c, Hid ((readF s).2 = c) := ⟨_, Lib.hid rfl⟩
    rw [hi.out, hc.out]
    have HG2 : Hid (w2.heap[w.heap.size]? = some (.cells (eId zId).toArray 39 (0, 0))) := Lib.hid ((hb.block _ (by omega)).trans HG.out)
    obtain ⟨w3, hw3⟩ : ∃ u, Hid (u = w2.alloc (.cells (ePf i.l n).toArray 121)) := ⟨_, Lib.hid rfl⟩
    have HG3 : Hid (w3.heap[w.heap.size]? = some (.cells (eId zId).toArray 39 (0, 0))) := Lib.hid (by rw [hw3.out]; exact heap_keep HG2.out)
    have HP : Hid (w3.heap[w2.heap.size]? = some (.cells (ePf i.l n).toArray 121 (0, 0))) := Lib.hid (by rw [hw3.out]; exact heap_alloc_new _ _)
    have HR : Hid (w3.rangeAt w2.heap.size 0 (eId i)) := Lib.hid (range_pf i.len HP.out)
    have HW3 : Hid (Below w.heap.size w w3) := Lib.hid (by rw [hw3.out]; exact (bthen HB1.out hb).alloc (bthen HB1.out hb).size _)
    clear hb HC hw1
    go_wp2_with (first
      | (refine new121 rfl rfl rfl _ _ rfl rfl i.l i.len n rfl rfl ?_; rw [← hw3.out])
      | refine ld39 rfl _ rfl _ _ rfl i HR.out ?_
      | refine st39 rfl rfl _ _ rfl w.heap.size rfl i zId rfl HG3.out ?_)
    refine bodyPost_ret (results_row_tmp rfl _ w.heap.size 39 _ (0, 0) _ rfl (setRow_heap _ _ _ _ _ _ HG3.out) Tryd.underlying39 rfl (by rw [size39, size_eId])) rfl ?_
    rw [hi.out, hc.out]; exact ⟨rfl, below_setRow HW3.out (Nat.le_refl _) _⟩
  · obtain ⟨h1, h2⟩ := ne64 hs
    have HZ := Lib.hid (readF_len hs)
    clear hs
    go_enter Tryd.func86, Tryd.ntmps86
    go_wp2_with (first
      | (refine al39 rfl rfl ?_; rw [← hw1.out])
      | refine bd39z rfl rfl ?_
      | refine st39 rfl rfl _ _ rfl w.heap.size rfl zId zId rfl HG.out ?_)
    refine bodyPost_ret (results_row_tmp rfl _ w.heap.size 39 _ (0, 0) _ rfl (setRow_heap _ _ _ _ _ _ HG.out) Tryd.underlying39 rfl (by rw [size39, size_eId])) rfl ?_
    rw [HZ.out]
    exact ⟨rfl, below_setRow HB1.out (Nat.le_refl _) _⟩

theorem cell_idc {w : World} {b : Nat} {l : List UInt8} (hl : l.length = 32) {t : TypeId} {fr : Nat × Nat} (h : w.heap[b]? = some (.cells (l.map Extern.Stop.cell).toArray t fr)) {k : Nat} (hk : k < 32) : w.cell? ⟨b, k, none⟩ = some (.int .u8 ((l[k]'(by rw [hl]; exact hk)).toNat : Int)) := by
  have := range_of_heap h k (Extern.Stop.cell (l[k]'(by rw [hl]; exact hk))) (by simp [List.getElem?_eq_getElem (show k < l.length by rw [hl]; exact hk)])
  rw [Nat.zero_add] at this
  exact this
theorem set_id {w : World} {b : Nat} {l : List UInt8} {t : TypeId} (h : w.heap[b]? = some (.cells (l.map Extern.Stop.cell).toArray t (0, 0))) (k : Nat) (x : UInt8) : (w.setCell ⟨b, k, none⟩ (.int .u8 (x.toNat : Int))).heap[b]? = some (.cells ((l.set k x).map Extern.Stop.cell).toArray t (0, 0)) := by
  have h1 := heap_setCell_same w b k (l.map Extern.Stop.cell).toArray t (.int .u8 (x.toNat : Int)) h
  rw [h1]
  congr 2
  apply Array.ext'
  simp only [Array.set!_eq_setIfInBounds, Array.toList_setIfInBounds, List.toList_toArray]
  rw [List.map_set]
  rfl

set_option maxRecDepth 100000 in
set_option maxHeartbeats 2000000 in
theorem rbegin_any (s : List UInt8) (hs : s.length = 64) (w : World) : Calls Tryd.prog 108 #[.string (bstr s)] w fun e w' => ∃ n : Int, e = .returned (.tuple #[vId (readF s).1, .int .i64 n, .int .i64 (readF s).2]) ∧ Below w.heap.size w w' := by
  have Hs := Lib.hid hs
  have hz : ((s.length : Nat) : Int) = 64 := by omega
  have d1 : decide ((64 : Int) < (s.length : Int)) = false := decide_eq_false (by omega)
  have d1' : decide ((64 : Int) < 64) = false := by decide
  clear hs
  go_enter Tryd.func108, Tryd.ntmps108
  go_wp2_with (first | refine al39 rfl rfl ?_)
  obtain ⟨w1, hw1⟩ : ∃ u, Hid (u = (w.alloc (.cells (eId zId).toArray 39)).alloc (.cells (eId zId).toArray 39)) := ⟨_, Lib.hid rfl⟩
  have HG0 : Hid (w1.heap[w.heap.size]? = some (.cells (eId zId).toArray 39 (0, 0))) := Lib.hid (by rw [hw1.out]; exact heap_keep (heap_alloc_new _ _))
  have HG1 : Hid (w1.heap[w.heap.size + 1]? = some (.cells ((prt s 0).map Extern.Stop.cell).toArray 39 (0, 0))) := Lib.hid (by
    rw [hw1.out, prt_zero]
    have := heap_alloc_new (w.alloc (.cells (eId zId).toArray 39)) (.cells (eId zId).toArray 39)
    rwa [World.size_alloc] at this)
  have HB1 : Hid (Below w.heap.size w w1) := Lib.hid (by rw [hw1.out]; exact ((Below.refl _ _).alloc (Nat.le_refl _) _).alloc (by simp) _)
  rw [← hw1.out]
  clear hw1
  obtain ⟨g, hg⟩ : ∃ g, Hid (w.heap.size + 1 = g) := ⟨_, Lib.hid rfl⟩
  have hgn : w.heap.size ≠ g := by rw [← hg.out]; omega
  have hgl : w.heap.size ≤ g := by rw [← hg.out]; omega
  rw [hg.out] at HG1 ⊢
  go_loopw [6] (fun i wr => ∃ (k : Nat), i = .int .i64 k ∧ k ≤ 64 ∧ Hid (∀ j, j < k → ∀ h : j < s.length, wth s[j] < 16) ∧ Hid (wr.heap[g]? = some (.cells ((prt s k).map Extern.Stop.cell).toArray 39 (0, 0))) ∧ Hid (wr.heap[w.heap.size]? = some (.cells (eId zId).toArray 39 (0, 0))) ∧ Hid (Below w.heap.size w wr)) (fun i _ => 64 - (intOf i).toNat)
  case atStart => exact ⟨0, rfl, by omega, Lib.hid (fun j hj => by omega), HG1, HG0, HB1⟩
  case round =>
    obtain ⟨wo, rfl⟩ : ∃ u : World, u = wr := ⟨_, rfl⟩
    obtain ⟨k, rfl, hk, HT, HP, HZ, HW⟩ := hrel
    by_cases hlt : k < 64
    · have d2 : decide ((k : Int) < 64) = true := decide_eq_true (by omega)
      have hks : k < s.length := by rw [Hs.out]; exact hlt
      obtain ⟨c, hc⟩ : ∃ c, Hid (s[k] = c) := ⟨_, Lib.hid rfl⟩
      have hix : ∀ u, (Instr.index 9 (.string (bstr s)) (.int .i64 (k : Int))).run Tryd.prog u = .ok (.int .u8 (c.toNat : Int)) u := fun u => by
        rw [← hc.out]; exact idxS s hks u
      go_wp2_with fail
      refine (rworth_any c wo).mono ?_
      rintro e w2 ⟨rfl, rfl⟩
      by_cases hw : wth c < 16
      · obtain ⟨t, ht⟩ : ∃ t, Hid (wth c = t) := ⟨_, Lib.hid rfl⟩
        have hwv : wv c = (t : Int) := by unfold wv; rw [if_pos hw, ht.out]
        have ht16 : t < 16 := by rw [← ht.out]; exact hw
        have HT2 : Hid (∀ j, j < k + 1 → ∀ h : j < s.length, wth s[j] < 16) := Lib.hid (fun j hj h => by
          by_cases e : j = k
          · subst e; rw [hc.out]; exact hw
          · exact HT.out j (by omega) h)
        rw [hwv]
        clear hwv hw hix
        obtain ⟨m, hm⟩ : ∃ m, k = 2 * m ∨ k = 2 * m + 1 := ⟨k / 2, by omega⟩
        rcases hm with rfl | rfl
        · have hm32 : m < 32 := by omega
          have e0 : wo.cell? ⟨g, m, none⟩ = some (.int .u8 0) := by
            have h1 := cell_idc (prt_len s _) HP.out hm32
            rw [prt_at s _ hm32, if_neg (by omega), if_neg (by omega)] at h1
            exact h1
          have hix := idxp39 g hm32
          have q1 : ((2 * m : Nat) : Int) / 2 = (m : Int) := by omega
          have q2 : ((2 * m : Nat) : Int) % 2 = 0 := by omega
          have d3 : decide ((t : Int) < 0) = false := decide_eq_false (by omega)
          obtain ⟨z, hz2⟩ : ∃ z : UInt8, Hid (UInt8.ofNat (t * 16) = z) := ⟨_, Lib.hid rfl⟩
          have hzt : (z.toNat : Int) = (t : Int) * 16 := by rw [← hz2.out, UInt8.toNat_ofNat']; omega
          have hfz : wo.frozen? ⟨g, m, none⟩ = false := frz HP.out m
          have HP2 : Hid ((wo.setCell ⟨g, m, none⟩ (.int .u8 ((t : Int) * 16))).heap[g]? = some (.cells ((prt s (2 * m + 1)).map Extern.Stop.cell).toArray 39 (0, 0))) := Lib.hid (by
            rw [prt_even s hm32 Hs.out, hc.out, ht.out, hz2.out, ← hzt]; exact set_id HP.out m _)
          have HZ2 : Hid ((wo.setCell ⟨g, m, none⟩ (.int .u8 ((t : Int) * 16))).heap[w.heap.size]? = some (.cells (eId zId).toArray 39 (0, 0))) := Lib.hid (heap_set_keep HZ.out hgn)
          have HW2 : Hid (Below w.heap.size w (wo.setCell ⟨g, m, none⟩ (.int .u8 ((t : Int) * 16)))) := Lib.hid (HW.out.setCell (p := ⟨g, m, none⟩) hgl _)
          clear hzt
          go_wp2_with fail
          go_roundw
          case rel => exact ⟨2 * m + 1, by go_num, by omega, HT2, HP2, HZ2, HW2⟩
          case measure => simp [intOf]; omega
        · have hm32 : m < 32 := by omega
          have hm2 : 2 * m < s.length := by rw [Hs.out]; omega
          obtain ⟨c0, hc0⟩ : ∃ c0, Hid (s[2 * m] = c0) := ⟨_, Lib.hid rfl⟩
          obtain ⟨v, hv⟩ : ∃ v, Hid (wth c0 = v) := ⟨_, Lib.hid rfl⟩
          have hv16 : v < 16 := by rw [← hv.out, ← hc0.out]; exact HT.out (2 * m) (by omega) hm2
          have e0 : wo.cell? ⟨g, m, none⟩ = some (.int .u8 ((v * 16 : Nat) : Int)) := by
            have h1 := cell_idc (prt_len s _) HP.out hm32
            rw [prt_at s _ hm32, if_neg (by omega), if_pos (by omega), List.getD_eq_getElem?_getD, List.getElem?_eq_getElem hm2, Option.getD_some, hc0.out, hv.out, UInt8.toNat_ofNat', Nat.mod_eq_of_lt (by omega)] at h1
            exact h1
          have hix := idxp39 g hm32
          have q1 : ((2 * m + 1 : Nat) : Int) / 2 = (m : Int) := by omega
          have q2 : ((2 * m + 1 : Nat) : Int) % 2 = 1 := by omega
          have q3 : (2 * (m : Int) + 1) / 2 = (m : Int) := by omega
          have q4 : (2 * (m : Int) + 1) % 2 = 1 := by omega
          have d3 : decide ((t : Int) < 0) = false := decide_eq_false (by omega)
          obtain ⟨z, hz2⟩ : ∃ z : UInt8, Hid (UInt8.ofNat (v * 16 + t) = z) := ⟨_, Lib.hid rfl⟩
          obtain ⟨y, hy⟩ : ∃ y : Int, Hid (((v * 16 : Nat) : Int) = y) := ⟨_, Lib.hid rfl⟩
          have hy1 : 0 ≤ y := by rw [← hy.out]; omega
          have hy2 : y ≤ 240 := by rw [← hy.out]; omega
          have hzt : (z.toNat : Int) = y + (t : Int) := by rw [← hz2.out, UInt8.toNat_ofNat', ← hy.out]; omega
          have hfz : wo.frozen? ⟨g, m, none⟩ = false := frz HP.out m
          have HP2 : Hid ((wo.setCell ⟨g, m, none⟩ (.int .u8 (y + (t : Int)))).heap[g]? = some (.cells ((prt s (2 * m + 1 + 1)).map Extern.Stop.cell).toArray 39 (0, 0))) := Lib.hid (by
            have e : prt s (2 * m + 1 + 1) = (prt s (2 * m + 1)).set m z := by
              rw [prt_odd s hm32 Hs.out, hc.out, hc0.out]; unfold byt; rw [hv.out, ht.out, hz2.out]
            rw [e, ← hzt]; exact set_id HP.out m _)
          have HZ2 : Hid ((wo.setCell ⟨g, m, none⟩ (.int .u8 (y + (t : Int)))).heap[w.heap.size]? = some (.cells (eId zId).toArray 39 (0, 0))) := Lib.hid (heap_set_keep HZ.out hgn)
          have HW2 : Hid (Below w.heap.size w (wo.setCell ⟨g, m, none⟩ (.int .u8 (y + (t : Int))))) := Lib.hid (HW.out.setCell (p := ⟨g, m, none⟩) hgl _)
          rw [hy.out] at e0
          clear hzt
          go_wp2_with fail
          go_roundw
          case rel => exact ⟨2 * m + 1 + 1, by go_num, by omega, HT2, HP2, HZ2, HW2⟩
          case measure => simp [intOf]; omega
      · have hwv : wv c = -1 := by unfold wv; rw [if_neg hw]
        have HR : Hid (readF s = (zId, 14)) := Lib.hid (readF_bad Hs.out hks (by rw [hc.out]; exact hw))
        rw [hwv]
        clear hwv hw hix
        go_wp2_with (first
          | refine bd39z rfl rfl ?_
          | refine st39 rfl rfl _ _ rfl w.heap.size rfl zId zId rfl HZ.out ?_)
        refine bodyPost_ret (results_row_tmp2 rfl _ w.heap.size 39 _ (0, 0) _ rfl (setRow_heap _ _ _ _ _ _ HZ.out) Tryd.underlying39 rfl (by rw [size39, size_eId])) rfl ?_
        rw [HR.out]
        exact ⟨_, rfl, below_setRow HW.out (Nat.le_refl _) _⟩
    · obtain rfl : k = 64 := by omega
      have d2 : decide (((64 : Nat) : Int) < 64) = false := by decide
      obtain ⟨hr1, hr2⟩ := readF_ok Hs.out (fun j hj => HT.out j (by rw [Hs.out] at hj; exact hj) hj)
      obtain ⟨i, hi⟩ : ∃ i, Hid ((readF s).1 = i) := ⟨_, Lib.hid rfl⟩
      rw [hi.out] at hr1
      have HR2 := Lib.hid hr2
      have HP3 : Hid (wo.heap[g]? = some (.cells (eId i).toArray 39 (0, 0))) := Lib.hid (by unfold eId; rw [hr1]; exact HP.out)
      have HR3 : Hid (wo.rangeAt g 0 (eId i)) := Lib.hid (range_of_heap (cs := (eId i).toArray) HP3.out)
      clear hr1 hr2
      go_wp2_with (first
        | refine ld39 rfl _ rfl _ _ rfl i HR3.out ?_
        | refine st39 rfl rfl _ _ rfl w.heap.size rfl i zId rfl HZ.out ?_)
      refine bodyPost_ret (results_row_tmp2 rfl _ w.heap.size 39 _ (0, 0) _ rfl (setRow_heap _ _ _ _ _ _ HZ.out) Tryd.underlying39 rfl (by rw [size39, size_eId])) rfl ?_
      rw [hi.out, HR2.out]
      exact ⟨_, rfl, below_setRow HW.out (Nat.le_refl _) _⟩

set_option maxRecDepth 100000 in
set_option maxHeartbeats 2000000 in
theorem rread_any (s : List UInt8) (hsl : s.length ≤ 9223372036854775807) (w : World) : Calls Tryd.prog 87 #[.string (bstr s)] w fun e w' => e = .returned (.tuple #[vId (readF s).1, .int .i64 (readF s).2]) ∧ Below w.heap.size w w' := by
  obtain ⟨w1, hw1⟩ : ∃ u, Hid (u = w.alloc (.cells (eId zId).toArray 39)) := ⟨_, Lib.hid rfl⟩
  have hs1 : w1.heap.size = w.heap.size + 1 := by rw [hw1.out]; simp
  have HG : Hid (w1.heap[w.heap.size]? = some (.cells (eId zId).toArray 39 (0, 0))) := Lib.hid (by rw [hw1.out]; exact heap_alloc_new _ _)
  have HB1 : Hid (Below w.heap.size w w1) := Lib.hid (by rw [hw1.out]; exact (Below.refl _ _).alloc (Nat.le_refl _) _)
  by_cases hs : s.length = 64
  · have hz : ((s.length : Nat) : Int) = 64 := by omega
    have hb1 : ((s.length : Int) == 64) = true := by rw [hz]; rfl
    have HC := Lib.hid (rbegin_any s hs w1)
    clear hs
    go_enter Tryd.func87, Tryd.ntmps87
    go_wp2_with (first | (refine al39 rfl rfl ?_; rw [← hw1.out]))
    refine HC.out.mono ?_
    rintro e w2 ⟨n, rfl, hb⟩
    obtain ⟨i, hi⟩ : ∃ i, Hid ((readF s).1 = i) := ⟨_, Lib.hid rfl⟩
    obtain ⟨c, hc⟩ : ∃ c, Hid ((readF s).2 = c) := ⟨_, Lib.hid rfl⟩
    rw [hi.out, hc.out]
    have HG2 : Hid (w2.heap[w.heap.size]? = some (.cells (eId zId).toArray 39 (0, 0))) := Lib.hid ((hb.block _ (by omega)).trans HG.out)
    obtain ⟨w3, hw3⟩ : ∃ u, Hid (u = w2.alloc (.cells (eId i).toArray 39)) := ⟨_, Lib.hid rfl⟩
    have HG3 : Hid (w3.heap[w.heap.size]? = some (.cells (eId zId).toArray 39 (0, 0))) := Lib.hid (by rw [hw3.out]; exact heap_keep HG2.out)
    have HR : Hid (w3.rangeAt w2.heap.size 0 (eId i)) := Lib.hid (by rw [hw3.out]; exact range_of_heap (cs := (eId i).toArray) (heap_alloc_new _ _))
    have HW3 : Hid (Below w.heap.size w w3) := Lib.hid (by rw [hw3.out]; exact (bthen HB1.out hb).alloc (bthen HB1.out hb).size _)
    clear hb HC hw1
    go_wp2_with (first
      | (refine new39 rfl rfl rfl _ _ rfl rfl i rfl rfl ?_; rw [← hw3.out])
      | refine ld39 rfl _ rfl _ _ rfl i HR.out ?_
      | refine st39 rfl rfl _ _ rfl w.heap.size rfl i zId rfl HG3.out ?_)
    refine bodyPost_ret (results_row_tmp rfl _ w.heap.size 39 _ (0, 0) _ rfl (setRow_heap _ _ _ _ _ _ HG3.out) Tryd.underlying39 rfl (by rw [size39, size_eId])) rfl ?_
    rw [hi.out, hc.out]; exact ⟨rfl, below_setRow HW3.out (Nat.le_refl _) _⟩
  · obtain ⟨h1, h2⟩ := ne64 hs
    have HZ := Lib.hid (readF_len hs)
    clear hs
    go_enter Tryd.func87, Tryd.ntmps87
    go_wp2_with (first
      | (refine al39 rfl rfl ?_; rw [← hw1.out])
      | refine bd39z rfl rfl ?_
      | refine st39 rfl rfl _ _ rfl w.heap.size rfl zId zId rfl HG.out ?_)
    refine bodyPost_ret (results_row_tmp rfl _ w.heap.size 39 _ (0, 0) _ rfl (setRow_heap _ _ _ _ _ _ HG.out) Tryd.underlying39 rfl (by rw [size39, size_eId])) rfl ?_
    rw [HZ.out]
    exact ⟨rfl, below_setRow HB1.out (Nat.le_refl _) _⟩
end Go.Proofs.YtopamnfelngkcaaDoor.Rf
