/-
  Layer 12: Begin and Read. No condition besides what the arguments are.
-/
import Derived.Test.YtopamnfelngkcaaDoorR15
namespace Go.Proofs.YtopamnfelngkcaaDoor.Rf
open Go.Proofs Go.RowKit Go.Shelf Go.Sl Go.Route Go.Refs
set_option linter.unusedVariables false

/-- a prefix's cells -/
def ePf (l : List UInt8) (n : Int) : List Value := l.map Extern.Stop.cell ++ [.int .i64 n]
abbrev vPf (l : List UInt8) (n : Int) : Value := .agg (ePf l n).toArray
theorem size_ePf {l : List UInt8} (h : l.length = 32) (n : Int) : (ePf l n).toArray.size = 33 := by simp [ePf, h]
theorem one_ePf (l : List UInt8) (n : Int) : ∀ u ∈ ePf l n, u.oneCell' = true := by
  intro u hu
  rcases List.mem_append.1 hu with hu | hu
  · obtain ⟨b, _, rfl⟩ := List.mem_map.1 hu; rfl
  · obtain rfl : u = .int .i64 n := by simpa using hu
    rfl
theorem zero121 : (Tryd.prog.info? 121).map (fun i => (i.zero, i.size)) = some (some (vPf zId.l 0), 33) := by kernel_rfl
theorem size121 : (Tryd.prog.info? 121).map (·.size) = some 33 := by kernel_rfl
theorem build121 (w : World) : (Instr.build 121 #[]).run Tryd.prog w = .ok (vPf zId.l 0) w := by kernel_rfl
theorem build121_64 (w : World) : (Instr.build 121 #[(1, .int .i64 64)]).run Tryd.prog w = .ok (vPf zId.l 64) w := by kernel_rfl
theorem range_pf {w : World} {b : Nat} {l : List UInt8} (hl : l.length = 32) {n : Int} {t : TypeId} {fr : Nat × Nat} (h : w.heap[b]? = some (.cells (ePf l n).toArray t fr)) : w.rangeAt b 0 (l.map Extern.Stop.cell) := fun j v hv => by
  have h1 := range_of_heap h j v
  apply h1
  have hj : j < (l.map Extern.Stop.cell).length := (List.getElem?_eq_some_iff.1 hv).1
  show (ePf l n)[j]? = some v
  unfold ePf
  rw [List.getElem?_append_left hj]; exact hv

section
variable {ops : Array Oper} {rest : List Oper} {o o' : Oper} {a : Act} {w : World} {Q : Exit → Act → World → Prop}
theorem al121 (hg : o.guard = none) (ho : o.op = .alloc 121)
    (h : wpList Tryd.prog ops Q rest (a.put o.dst (.pointer (some ⟨w.heap.size, 0, none⟩))) (w.alloc (.cells (ePf zId.l 0).toArray 121))) : wpList Tryd.prog ops Q (o :: rest) a w :=
  wpList_allocZ hg 121 ho (vPf zId.l 0) 33 zero121 _ rfl h
theorem new121 (hg : o.guard = none) (hg' : o'.guard = none) (hd : o'.dst = none) (x y : Operand) (ho : o.op = .alloc 121) (ho' : o'.op = .store 121 x y) (l : List UInt8) (hl : l.length = 32) (n : Int)
    (hx : (a.put o.dst (.pointer (some ⟨w.heap.size, 0, none⟩))).eval x = .pointer (some ⟨w.heap.size, 0, none⟩))
    (hy : (a.put o.dst (.pointer (some ⟨w.heap.size, 0, none⟩))).eval y = vPf l n)
    (h : wpList Tryd.prog ops Q rest (a.put o.dst (.pointer (some ⟨w.heap.size, 0, none⟩))) (w.alloc (.cells (ePf l n).toArray 121))) : wpList Tryd.prog ops Q (o :: o' :: rest) a w :=
  wpList_allocStore hg hg' hd 121 x y ho ho' _ hx hy (vPf zId.l 0) (by rw [zero121, size_ePf hl]) (by rw [size_ePf hl]; exact size_ePf zId.len 0) (one_ePf l n) h
theorem st121 (hg : o.guard = none) (hd : o.dst = none) (x y : Operand) (ho : o.op = .store 121 x y) (g : Nat) (hx : a.eval x = .pointer (some ⟨g, 0, none⟩)) (l q : List UInt8) (hl : l.length = 32) (hq : q.length = 32) (n m : Int) (hy : a.eval y = vPf l n) (hb : w.heap[g]? = some (.cells (ePf q m).toArray 121 (0, 0)))
    (h : wpList Tryd.prog ops Q rest a (w.setRow g (ePf l n).toArray)) : wpList Tryd.prog ops Q (o :: rest) a w :=
  wpList_storeRow hg hd 121 x y ho g hx _ hy 121 _ hb (by rw [size_ePf hl, size_ePf hq]) (by rw [size121, size_ePf hl]) (one_ePf l n) h
theorem ld121 (hg : o.guard = none) (x : Operand) (ho : o.op = .load 121 x) (g : Nat) (hx : a.eval x = .pointer (some ⟨g, 0, none⟩)) (l : List UInt8) (hl : l.length = 32) (n : Int) (hb : w.heap[g]? = some (.cells (ePf l n).toArray 121 (0, 0)))
    (h : wpList Tryd.prog ops Q rest (a.put o.dst (vPf l n)) w) : wpList Tryd.prog ops Q (o :: rest) a w :=
  wpList_load_mid hg 121 x ho g 0 hx (ePf l n) _ (range_of_heap (cs := (ePf l n).toArray) hb) Tryd.underlying121 rfl (by rw [size121]; simp [ePf, hl]) h
theorem bd121 (hg : o.guard = none) (ho : o.op = .build 121 #[]) (h : wpList Tryd.prog ops Q rest (a.put o.dst (vPf zId.l 0)) w) : wpList Tryd.prog ops Q (o :: rest) a w :=
  bd_run hg ho (by simp only [List.map_toArray, List.map_nil]; exact build121 w) h
theorem bd121n (hg : o.guard = none) (x : Operand) (ho : o.op = .build 121 #[(1, x)]) (hx : a.eval x = .int .i64 64) (h : wpList Tryd.prog ops Q rest (a.put o.dst (vPf zId.l 64)) w) : wpList Tryd.prog ops Q (o :: rest) a w :=
  bd_run hg ho (by simp only [List.map_toArray, List.map_cons, List.map_nil, hx]; exact build121_64 w) h
end

theorem cell_pf {w : World} {b : Nat} {l : List UInt8} (hl : l.length = 32) {n : Int} {t : TypeId} {fr : Nat × Nat} (h : w.heap[b]? = some (.cells (ePf l n).toArray t fr)) {k : Nat} (hk : k < 32) : w.cell? ⟨b, k, none⟩ = some (.int .u8 ((l[k]'(by rw [hl]; exact hk)).toNat : Int)) := by
  have := range_pf hl h k (Extern.Stop.cell (l[k]'(by rw [hl]; exact hk))) (by rw [List.getElem?_map, List.getElem?_eq_getElem (by rw [hl]; exact hk)]; rfl)
  rw [Nat.zero_add] at this
  exact this
theorem or_even (t : Nat) (h : t < 16) : bits .or .u8 0 ((t : Int) * 16) = ((UInt8.ofNat (t * 16)).toNat : Int) := by
  have key : ∀ t : Fin 16, bits .or .u8 0 ((t.val : Int) * 16) = ((UInt8.ofNat (t.val * 16)).toNat : Int) := by decide +kernel
  exact key ⟨t, h⟩
theorem or_odd (v t : Nat) (hv : v < 16) (ht : t < 16) : bits .or .u8 ((v * 16 : Nat) : Int) (t : Int) = ((UInt8.ofNat (v * 16 + t)).toNat : Int) := by
  have key : ∀ v t : Fin 16, bits .or .u8 ((v.val * 16 : Nat) : Int) (t.val : Int) = ((UInt8.ofNat (v.val * 16 + t.val)).toNat : Int) := by decide +kernel
  exact key ⟨v, hv⟩ ⟨t, ht⟩
/-- a byte of a prefix's id put down -/
theorem set_pf {w : World} {b : Nat} {l : List UInt8} (hl : l.length = 32) {n : Int} {t : TypeId} (h : w.heap[b]? = some (.cells (ePf l n).toArray t (0, 0))) {k : Nat} (hk : k < 32) (x : UInt8) : (w.setCell ⟨b, k, none⟩ (.int .u8 (x.toNat : Int))).heap[b]? = some (.cells (ePf (l.set k x) n).toArray t (0, 0)) := by
  have h1 := heap_setCell_same w b k (ePf l n).toArray t (.int .u8 (x.toNat : Int)) h
  rw [h1]
  congr 2
  apply Array.ext'
  simp only [Array.set!_eq_setIfInBounds, Array.toList_setIfInBounds, List.toList_toArray]
  unfold ePf
  rw [List.set_append_left _ _ (by rw [List.length_map, hl]; exact hk), List.map_set]
  rfl
theorem frz {w : World} {b : Nat} {cs : Array Value} {t : TypeId} (h : w.heap[b]? = some (.cells cs t (0, 0))) (k : Nat) : w.frozen? ⟨b, k, none⟩ = false := by simp [World.frozen?, h]
theorem idxS (s : List UInt8) {k : Nat} (hk : k < s.length) (w : World) : (Instr.index 9 (.string (bstr s)) (.int .i64 (k : Int))).run Tryd.prog w = .ok (.int .u8 (s[k].toNat : Int)) w := by
  have hg : (bstr s)[k]? = some s[k] := by
    have h1 : k < (bstr s).size := by rw [bstr_size]; exact hk
    have : (bstr s)[k]? = some ((bstr s)[k]'h1) := getElem?_pos _ _ _
    rw [this, bstr_get]
  simp [Instr.index, asIntOf, run_underlying Tryd.underlying9, hg]

set_option maxRecDepth 100000 in
set_option maxHeartbeats 2000000 in
theorem begin_any (s : List UInt8) (hs : s.length = 64) (w : World) : Calls Tryd.prog 107 #[.string (bstr s)] w fun e w' => ∃ n : Int, e = .returned (.tuple #[vPf (readF s).1.l n, .int .i64 (readF s).2]) ∧ Below w.heap.size w w' := by
  have Hs := Lib.hid hs
  have hz : ((s.length : Nat) : Int) = 64 := by omega
  have d1 : decide ((64 : Int) < (s.length : Int)) = false := decide_eq_false (by omega)
  have d1' : decide ((64 : Int) < 64) = false := by decide
  clear hs
  go_enter Tryd.func107, Tryd.ntmps107
  go_wp2_with (first
    | refine new121 rfl rfl rfl _ _ rfl rfl zId.l zId.len 64 rfl rfl ?_
    | refine al121 rfl rfl ?_
    | refine bd121n rfl _ rfl rfl ?_)
  obtain ⟨w1, hw1⟩ : ∃ u, Hid (u = (w.alloc (.cells (ePf zId.l 0).toArray 121)).alloc (.cells (ePf zId.l 64).toArray 121)) := ⟨_, Lib.hid rfl⟩
  have HG0 : Hid (w1.heap[w.heap.size]? = some (.cells (ePf zId.l 0).toArray 121 (0, 0))) := Lib.hid (by rw [hw1.out]; exact heap_keep (heap_alloc_new _ _))
  have HG1 : Hid (w1.heap[w.heap.size + 1]? = some (.cells (ePf (prt s 0) 64).toArray 121 (0, 0))) := Lib.hid (by
    rw [hw1.out, prt_zero]
    have := heap_alloc_new (w.alloc (.cells (ePf zId.l 0).toArray 121)) (.cells (ePf zId.l 64).toArray 121)
    rwa [World.size_alloc] at this)
  have HB1 : Hid (Below w.heap.size w w1) := Lib.hid (by rw [hw1.out]; exact ((Below.refl _ _).alloc (Nat.le_refl _) _).alloc (by simp) _)
  have hs1 : w1.heap.size = w.heap.size + 2 := by rw [hw1.out]; simp
  rw [← hw1.out]
  clear hw1
  obtain ⟨g, hg⟩ : ∃ g, Hid (w.heap.size + 1 = g) := ⟨_, Lib.hid rfl⟩
  have hgn : w.heap.size ≠ g := by rw [← hg.out]; omega
  have hgl : w.heap.size ≤ g := by rw [← hg.out]; omega
  rw [hg.out] at HG1 ⊢
  go_loopw [16] (fun i wr => ∃ (k : Nat), i = .int .i64 k ∧ k ≤ 64 ∧ Hid (∀ j, j < k → ∀ h : j < s.length, wth s[j] < 16) ∧ Hid (wr.heap[g]? = some (.cells (ePf (prt s k) 64).toArray 121 (0, 0))) ∧ Hid (wr.heap[w.heap.size]? = some (.cells (ePf zId.l 0).toArray 121 (0, 0))) ∧ Hid (Below w.heap.size w wr)) (fun i _ => 64 - (intOf i).toNat)
  case atStart => exact ⟨0, rfl, by omega, Lib.hid (fun j hj => by omega), HG1, HG0, HB1⟩
  case round =>
    obtain ⟨wo, rfl⟩ : ∃ u : World, u = wr := ⟨_, rfl⟩
    obtain ⟨k, rfl, hk, HT, HP, HZ, HW⟩ := hrel
    by_cases hlt : k < 64
    · have d2 : decide ((k : Int) < 64) = true := decide_eq_true (by omega)
      have hks : k < s.length := by rw [Hs.out]; exact hlt
      obtain ⟨c, hc⟩ : ∃ c, Hid (s[k] = c) := ⟨_, Lib.hid rfl⟩
      have hix : ∀ u, (Instr.index 9 (.string (bstr s)) (.int .i64 (k : Int))).run Tryd.prog u = .ok (.int .u8 (c.toNat : Int)) u := fun u => by
        rw [← hc.out]; exact idxS s hks u
      go_wp2_with fail
      refine (worth_any c wo).mono ?_
      rintro e w2 ⟨rfl, rfl⟩
      by_cases hw : wth c < 16
      · obtain ⟨t, ht⟩ : ∃ t, Hid (wth c = t) := ⟨_, Lib.hid rfl⟩
        have hwv : wv c = (t : Int) := by unfold wv; rw [if_pos hw, ht.out]
        have ht16 : t < 16 := by rw [← ht.out]; exact hw
        have HT2 : Hid (∀ j, j < k + 1 → ∀ h : j < s.length, wth s[j] < 16) := Lib.hid (fun j hj h => by
          by_cases e : j = k
          · subst e; rw [hc.out]; exact hw
          · exact HT.out j (by omega) h)
        rw [hwv]
        clear hwv hw hix
        obtain ⟨m, hm⟩ : ∃ m, k = 2 * m ∨ k = 2 * m + 1 := ⟨k / 2, by omega⟩
        rcases hm with rfl | rfl
        · have hm32 : m < 32 := by omega
          have e0 : wo.cell? ⟨g, m, none⟩ = some (.int .u8 0) := by
            have h1 := cell_pf (prt_len s _) HP.out hm32
            rw [prt_at s _ hm32, if_neg (by omega), if_neg (by omega)] at h1
            exact h1
          have hix := idxp39 g hm32
          have q1 : ((2 * m : Nat) : Int) / 2 = (m : Int) := by omega
          have q2 : ((2 * m : Nat) : Int) % 2 = 0 := by omega
          have d3 : decide ((t : Int) < 0) = false := decide_eq_false (by omega)
          obtain ⟨z, hz2⟩ : ∃ z : UInt8, Hid (UInt8.ofNat (t * 16) = z) := ⟨_, Lib.hid rfl⟩
          have hor : bits .or .u8 0 ((t : Int) * 16) = (z.toNat : Int) := by rw [← hz2.out]; exact or_even t ht16
          have hfz : wo.frozen? ⟨g, m, none⟩ = false := frz HP.out m
          have HP2 : Hid ((wo.setCell ⟨g, m, none⟩ (.int .u8 (z.toNat : Int))).heap[g]? = some (.cells (ePf (prt s (2 * m + 1)) 64).toArray 121 (0, 0))) := Lib.hid (by
            rw [prt_even s hm32 Hs.out, hc.out, ht.out, hz2.out]; exact set_pf (prt_len s _) HP.out hm32 _)
          have HZ2 : Hid ((wo.setCell ⟨g, m, none⟩ (.int .u8 (z.toNat : Int))).heap[w.heap.size]? = some (.cells (ePf zId.l 0).toArray 121 (0, 0))) := Lib.hid (heap_set_keep HZ.out hgn)
          have HW2 : Hid (Below w.heap.size w (wo.setCell ⟨g, m, none⟩ (.int .u8 (z.toNat : Int)))) := Lib.hid (HW.out.setCell (p := ⟨g, m, none⟩) hgl _)
          go_wp2_with fail
          go_roundw
          case rel => exact ⟨2 * m + 1, by go_num, by omega, HT2, HP2, HZ2, HW2⟩
          case measure => simp [intOf]; omega
        · have hm32 : m < 32 := by omega
          have hm2 : 2 * m < s.length := by rw [Hs.out]; omega
          obtain ⟨c0, hc0⟩ : ∃ c0, Hid (s[2 * m] = c0) := ⟨_, Lib.hid rfl⟩
          obtain ⟨v, hv⟩ : ∃ v, Hid (wth c0 = v) := ⟨_, Lib.hid rfl⟩
          have hv16 : v < 16 := by rw [← hv.out, ← hc0.out]; exact HT.out (2 * m) (by omega) hm2
          have e0 : wo.cell? ⟨g, m, none⟩ = some (.int .u8 ((v * 16 : Nat) : Int)) := by
            have h1 := cell_pf (prt_len s _) HP.out hm32
            rw [prt_at s _ hm32, if_neg (by omega), if_pos (by omega), List.getD_eq_getElem?_getD, List.getElem?_eq_getElem hm2, Option.getD_some, hc0.out, hv.out, UInt8.toNat_ofNat', Nat.mod_eq_of_lt (by omega)] at h1
            exact h1
          have hix := idxp39 g hm32
          have q1 : ((2 * m + 1 : Nat) : Int) / 2 = (m : Int) := by omega
          have q2 : ((2 * m + 1 : Nat) : Int) % 2 = 1 := by omega
          have q3 : (2 * (m : Int) + 1) / 2 = (m : Int) := by omega
          have q4 : (2 * (m : Int) + 1) % 2 = 1 := by omega
          have d3 : decide ((t : Int) < 0) = false := decide_eq_false (by omega)
          obtain ⟨z, hz2⟩ : ∃ z : UInt8, Hid (UInt8.ofNat (v * 16 + t) = z) := ⟨_, Lib.hid rfl⟩
          have hor : bits .or .u8 ((v * 16 : Nat) : Int) (t : Int) = (z.toNat : Int) := by rw [← hz2.out]; exact or_odd v t hv16 ht16
          have hfz : wo.frozen? ⟨g, m, none⟩ = false := frz HP.out m
          have HP2 : Hid ((wo.setCell ⟨g, m, none⟩ (.int .u8 (z.toNat : Int))).heap[g]? = some (.cells (ePf (prt s (2 * m + 1 + 1)) 64).toArray 121 (0, 0))) := Lib.hid (by
            have e : prt s (2 * m + 1 + 1) = (prt s (2 * m + 1)).set m z := by
              rw [prt_odd s hm32 Hs.out, hc.out, hc0.out]; unfold byt; rw [hv.out, ht.out, hz2.out]
            rw [e]; exact set_pf (prt_len s _) HP.out hm32 _)
          have HZ2 : Hid ((wo.setCell ⟨g, m, none⟩ (.int .u8 (z.toNat : Int))).heap[w.heap.size]? = some (.cells (ePf zId.l 0).toArray 121 (0, 0))) := Lib.hid (heap_set_keep HZ.out hgn)
          have HW2 : Hid (Below w.heap.size w (wo.setCell ⟨g, m, none⟩ (.int .u8 (z.toNat : Int)))) := Lib.hid (HW.out.setCell (p := ⟨g, m, none⟩) hgl _)
          obtain ⟨y, hy⟩ : ∃ y : Int, Hid (((v * 16 : Nat) : Int) = y) := ⟨_, Lib.hid rfl⟩
          rw [hy.out] at e0 hor
          go_wp2_with fail
          go_roundw
          case rel => exact ⟨2 * m + 1 + 1, by go_num, by omega, HT2, HP2, HZ2, HW2⟩
          case measure => simp [intOf]; omega
      · have hwv : wv c = -1 := by unfold wv; rw [if_neg hw]
        have HR : Hid (readF s = (zId, 14)) := Lib.hid (readF_bad Hs.out hks (by rw [hc.out]; exact hw))
        rw [hwv]
        clear hwv hw hix
        go_wp2_with (first
          | refine bd121 rfl rfl ?_
          | refine st121 rfl rfl _ _ rfl w.heap.size rfl zId.l zId.l zId.len zId.len 0 0 rfl HZ.out ?_)
        refine bodyPost_ret (results_row_tmp rfl _ w.heap.size 121 _ (0, 0) _ rfl (setRow_heap _ _ _ _ _ _ HZ.out) Tryd.underlying121 rfl (by rw [size121, size_ePf zId.len])) rfl ?_
        rw [HR.out]
        exact ⟨0, rfl, below_setRow HW.out (Nat.le_refl _) _⟩
    · obtain rfl : k = 64 := by omega
      have d2 : decide (((64 : Nat) : Int) < 64) = false := by decide
      obtain ⟨hr1, hr2⟩ := readF_ok Hs.out (fun j hj => HT.out j (by rw [Hs.out] at hj; exact hj) hj)
      have HR := Lib.hid hr1
      have HR2 := Lib.hid hr2
      clear hr1 hr2
      go_wp2_with (first
        | refine ld121 rfl _ rfl g rfl (prt s 64) (prt_len s 64) 64 HP.out ?_
        | refine st121 rfl rfl _ _ rfl w.heap.size rfl (prt s 64) zId.l (prt_len s 64) zId.len 64 0 rfl HZ.out ?_)
      refine bodyPost_ret (results_row_tmp rfl _ w.heap.size 121 _ (0, 0) _ rfl (setRow_heap _ _ _ _ _ _ HZ.out) Tryd.underlying121 rfl (by rw [size121, size_ePf (prt_len s 64)])) rfl ?_
      rw [HR.out, HR2.out]
      exact ⟨64, rfl, below_setRow HW.out (Nat.le_refl _) _⟩
end Go.Proofs.YtopamnfelngkcaaDoor.Rf
