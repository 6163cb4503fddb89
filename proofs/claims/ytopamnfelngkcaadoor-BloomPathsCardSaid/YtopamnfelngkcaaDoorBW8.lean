/-
  Layer 16: unlike: keys, each once, by their bytes. No condition besides what the arguments are.
-/
import Derived.Maps.OwnSet
import Derived.Maps.RangeWalk
import Derived.Maps.AppendAt
import Derived.Test.YtopamnfelngkcaaDoorBP3
import Derived.Test.YtopamnfelngkcaaDoorBW5
import Derived.Test.YtopamnfelngkcaaDoorBShelf
import Derived.Test.YtopamnfelngkcaaDoorApIn
namespace Go.Proofs.YtopamnfelngkcaaDoor.Bm
open Go.Proofs Go.RowKit Go.Sl Go.Bl Go.Maps Go.Sort
open Go.WideMaps (keyOf_string_mk)
set_option linter.unusedVariables false

def eL (x : List UInt8) : List Value := [.string (bstr x)]
theorem len_eL (x : List UInt8) : (eL x).length = 1 := rfl
theorem one_eL (x : List UInt8) : ∀ u ∈ eL x, u.oneCell' = true := by simp [eL, Value.oneCell']
theorem info9 : (Tryd.prog.info? 9).map (fun i => (i.zero, i.size, i.bytes)) = some (some (.string .empty), 1, 16) := by kernel_rfl
theorem cells9 : Tryd.prog.cellsOf 9 = 1 := by kernel_rfl
theorem some9 : (Tryd.prog.info? 9).isSome = true := by kernel_rfl
theorem law9 : Keyed Tryd.prog 9 := string_keyed Tryd.underlying9
theorem key9 {x : List UInt8} (h : x.length ≤ maxLen) : keyOf Tryd.prog 9 (.string (bstr x)) = some (.string x) := by
  have := keyOf_string_mk (P := Tryd.prog) Tryd.underlying9 (s := bstr x) (by rw [bstr_size]; exact h)
  rwa [show (bstr x).data.toList = x by simp [bstr]] at this
theorem enc_eL (l : List (List UInt8)) : l.map encStr = l.flatMap eL := by
  induction l with
  | nil => rfl
  | cons x l ih => rw [List.map_cons, List.flatMap_cons, ih]; rfl

set_option maxRecDepth 100000 in
set_option maxHeartbeats 1000000 in
theorem unlike_any (v : Value) (L : List (List UInt8)) (w : World) (hv : Sl eL 1 w v L) (hL : L.length ≤ 100000) (hl : ∀ x ∈ L, x.length ≤ 100000) :
    Calls Tryd.prog 75 #[v] w fun e w' => ∃ (ov : Value) (T : List (List UInt8)), e = .returned ov ∧ Un L T ∧ Sl.Own eL 1 w.heap.size 9 w' ov T ∧ Below w.heap.size w w' := by
  have hlen := hv.run_len (P := Tryd.prog) Tryd.underlying22
  have hmm := @run_makeMap Tryd.prog
  obtain ⟨i0, hi, hz0, hz1, hz2⟩ := info_parts info9
  have HL := Lib.hid hl
  have HV := Lib.hid hv
  clear hl hv
  go_enter Tryd.func75, Tryd.ntmps75
  go_wp2_with fail
  go_loopw [11] (fun i wr => ∃ (k : Nat) (C : DataW Unit), i = .int .i64 k ∧ k ≤ L.length ∧ Hid (wr.ownsMap Tryd.prog 9 (plainElem Tryd.prog 4) w.heap.size k C) ∧ Hid (∀ x, Maps.has C (.string x) = decide (x ∈ L.take k)) ∧ Hid (Below w.heap.size w wr)) (fun i _ => L.length - (intOf i).toNat)
  case atStart => exact ⟨0, _, rfl, by omega, Lib.hid (World.ownsMap_made _ _ _ _), Lib.hid (fun x => rfl), Lib.hid ((Below.refl _ _).alloc (Nat.le_refl _) _)⟩
  case round =>
    obtain ⟨k, C, rfl, hk, HM, HC, HW⟩ := hrel
    by_cases hlt : k < L.length
    · obtain ⟨b5, o5, hb5, hix, hcell⟩ := HV.out.atB HW.out (P := Tryd.prog) Tryd.underlying22 cells9 some9 hlt
      have e1 := hcell 0 (by omega)
      simp only [eL, List.getElem?_cons_zero, Nat.add_zero] at e1
      obtain ⟨x, hx⟩ : ∃ x, Hid (L[k] = x) := ⟨_, Lib.hid rfl⟩
      rw [hx.out] at e1
      have hxl : x.length ≤ maxLen := by rw [← hx.out]; have := HL.out _ (List.getElem_mem hlt); unfold maxLen; omega
      have hkey := key9 hxl
      have HT : Hid (L.take (k + 1) = L.take k ++ [x]) := Lib.hid (by rw [List.take_succ_eq_append_getElem hlt, hx.out])
      clear hcell
      go_wp2_with (first | (at_mapUpdate; refine wpList_mapUpdate_own _ rfl _ _ _ 113 rfl 9 4 law9 Tryd.underlying113 _ w.heap.size k C rfl HM.out (by unfold maxLen; omega) _ _ _ rfl rfl hkey _ [] (plainElem_bool Tryd.underlying4 true) ?_; intro w1 hown1 hgrow1; have HM1 := Lib.hid hown1; have HW1 := Lib.hid (HW.out.grown hgrow1 HW.out.size (fun j hj => by cases hj; exact Nat.le_refl _)); clear hown1 hgrow1) | go_in)
      go_roundw
      case rel => exact ⟨k + 1, _, by go_num, by omega, HM1, Lib.hid (fun y => by
        rw [HT.out]
        by_cases e : y = x
        · subst e
          rw [has_put_same HM.out.isMap (show WideAt.IsKeyLit (.string y) from trivial)]; simp
        · rw [has_put_other (by simpa using e), HC.out y]; simp [e]), HW1⟩
      case measure => simp [intOf]; omega
    · obtain rfl : k = L.length := by omega
      have HC2 : Hid (∀ x, Maps.has C (.string x) = decide (x ∈ L)) := Lib.hid (fun x => by have := HC.out x; rwa [List.take_length] at this)
      have hbl : w.heap.size < wr.heap.size := HM.out.lt
      obtain ⟨m, hm⟩ : ∃ m, Hid (Maps.size C = m) := ⟨_, Lib.hid rfl⟩
      have hm2 : m ≤ 100000 := by rw [← hm.out]; exact Nat.le_trans HM.out.size_le hL
      have hwb := HW.out.size
      have hz3 : i0.bytes * m ≤ 281474976710656 := by rw [hz2]; omega
      clear HC hk hlt
      go_wp2_with (first
        | (at_len; refine wpList_len_own _ rfl _ 113 rfl 9 4 Tryd.underlying113 _ w.heap.size _ _ rfl HM.out ?_)
        | (at_make; refine wpList_make_own _ rfl _ _ 22 rfl (w.heap.size + 1) 9 i0 (.string .empty) 1 Tryd.underlying22 hi hz0 hz1 _ _ _ m rfl rfl (by rw [hm.out]) hz3 (by unfold maxLen; omega) hbl ?_; intro w1 hrow1 hg1)
        | (at_range; refine wpList_range_own _ rfl _ 113 rfl 9 4 law9 Tryd.underlying113 _ w.heap.size _ _ rfl (HM.out.kept hg1 (by simp)) ?_; intro w0 hrg0 hg0 hs0)
        | go_in)
      go_frame
      have HB0 : Hid (Below w.heap.size w w0) := Lib.hid ((HW.out.grown hg1 HW.out.size (fun j hj => by cases hj)).grown hg0 (Nat.le_trans HW.out.size hg1.size) (fun j hj => by cases hj))
      have hws : w.heap.size ≤ w1.heap.size := Nat.le_trans HW.out.size hg1.size
      have Hm := hm.out
      clear hs0
      go_loopw [6] (fun v6 wr2 => ∃ (left : Lit → Bool) (cnt : Nat) (ss : List (List UInt8)), wr2.ranges Tryd.prog 9 (plainElem Tryd.prog 4) w.heap.size w1.heap.size L.length C left cnt ∧ ss.length + cnt ≤ m ∧
          wr2.ownsRow (w.heap.size + 1) 9 1 v6 ss.length (ss.map encStr) ∧ v6 ≠ .slice none 0 0 ∧ Collected C left ss ∧ Hid (Below w.heap.size w wr2)) (fun _ wr2 => wr2.rangeLeft w.heap.size w1.heap.size)
      case atStart =>
        exact ⟨_, _, [], hrg0, by simp [Hm], hrow1.kept hg0 (Or.inr (by simp [Value.ownBlock])), by simp, Collected.start C, HB0⟩
      case round =>
        obtain ⟨left, cnt, ss, hrg, hcs, hrow, hnn, hC, HWx⟩ := hrel
        go_wp2_with (first
          | (at_next; go_must (refine wpList_next_ranges _ rfl _ rfl 9 law9 (plainElem Tryd.prog 4) encStr (fun v : Value => v) (fun key kl hk => by obtain ⟨x, hx, _⟩ := Maps.keyOf_str Tryd.underlying9 hk; exact ⟨x, hx⟩) (fun v y _ => ⟨v, rfl⟩) w.heap.size w1.heap.size L.length _ _ _ rfl hrg ?_ ?_))
          | go_in)
        · intro hc0 hl0
          rcases hrow.2 with ⟨hnil, _⟩ | ⟨g, cap, cur, rfl, hbase, hb, h1, h2, h3, h4⟩
          · exact absurd hnil hnn
          have hH : Holds encStr wr g 0 ss.toArray := holds_of_block hb (by simpa using h4)
          have hgl : g < wr.heap.size := (Array.getElem?_eq_some_iff.1 hb).1
          have hc := Lib.hid (Tryd.slices_Sort_string g 0 cap ss wr hH hgl (by omega))
          have HU : Hid (Un L (ss.mergeSort (fun x y => decide (x ≤ y)))) := Lib.hid (Un.of_sorted hC.1 (fun x => by
            rw [hC.2 x, hl0, HC2.out x, decide_eq_true_eq]; simp))
          have HN := Lib.hid (fun (nn : Nat) os => (ownsRow_sorted (n := nn) (os := os) (ts := ss.mergeSort (fun x y => decide (x ≤ y))) (by simp) hbase hb h1 h2 h3))
          have HG := Lib.hid (fun (nn : Nat) os => (HWx.out.grown (grownBy_sorted (g := g) (n := nn) (os := os) (ss.mergeSort (fun x y => decide (x ≤ y))).toArray) HWx.out.size (fun j hj => by cases hj; omega)))
          clear hrow hb h4 hH hrg hC hnn hl0 hc0
          go_wp2_with fail
          refine hc.out.mono ?_
          rintro e w' ⟨rfl, nn, os, rfl⟩
          go_wp2_with fail
          go_ret
          have h := HN.out nn os
          rw [enc_eL] at h
          refine ⟨_, _, rfl, HU.out, ?_, HG.out nn os⟩
          exact Sl.Own.mono (base := w.heap.size + 1) (by unfold Sl.Own; rw [List.length_mergeSort]; exact h) (by omega)
        · intro x c kl yd yp w2 cnt2 hkey hlk hv hat hrg2 hlt hg2 hs2 hen
          obtain ⟨x', ex, rfl, _⟩ := Maps.keyOf_str Tryd.underlying9 hkey
          obtain rfl : x = x' := encStr_inj ex
          have hrow2 := hrow.kept hg2 (Or.inr (row_ne_iter hrow hrg).symm)
          clear hs2
          go_wp2_with (first
            | (at_builtin; go_must (refine wpList_append_own _ rfl _ _ 22 rfl (w.heap.size + 1) 9 i0 (.string .empty) 1 16 Tryd.underlying22 hi hz0 hz1 hz2 rfl (by decide) _ _ _ rfl (hrow2.alloc _) ⟨w2.heap.size, 0, none⟩ 1 1 [encStr x] rfl rfl (cell_one_new _ _ _) (by simp [Value.oneCell', encStr]) (by unfold maxLen at *; omega) (by omega) (by have := HWx.out.size; have := hg2.size; have := hrg2.lt; simp; omega) ?_; intro v' w3 hown' hg3 hnil3))
            | go_in)
          have hrg3 := (hrg2.alloc _).kept hg3 (row_ne_low hrow2 (Nat.lt_succ_self _)) (row_ne_iter hrow2 hrg2)
          go_roundw
          case rel =>
            refine ⟨_, cnt2, hrg3, ss ++ [x], by simp; omega, by simpa using hown', hC.step hlk hat, ?_⟩
            exact Lib.hid (((HWx.out.grown hg2 HWx.out.size (fun j hj => by cases hj; exact hws)).alloc (by have := HWx.out.size; have := hg2.size; omega) _).grown hg3 (by have := HWx.out.size; have := hg2.size; simp; omega) (fun j hj => by have := (hrow2.lt j hj).1; omega))
          case measure => rw [hrg3.left_eq, hrg.left_eq]; exact hlt
end Go.Proofs.YtopamnfelngkcaaDoor.Bm
