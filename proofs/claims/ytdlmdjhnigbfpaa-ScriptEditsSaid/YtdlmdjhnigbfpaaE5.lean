/-
  Walks of layer 21: Clone, and whether pairs' lines are one, the program's and the reference's. No condition.
-/
import Derived.Test.YtdlmdjhnigbfpaaE4
import Derived.Test.YtdlmdjhnigbfpaaP5
import Derived.Test.YtdlmdjhnigbfpaaP7
import Derived.Test.YtdlmdjhnigbfpaaC3
import Derived.Test.YtdlmdjhnigbfpaaW6
namespace Go.Proofs.Ytdlmdjhnigbfpaa
open Go.RowKit Go.Sl Go.Scr

set_option maxHeartbeats 400000 in
theorem clone_any (v : Value) (l : List ByteArray) (w : World) (h : Sl eStr 1 w v l) (hl : l.length ≤ 4000000) :
    Calls Try.prog 32 #[v] w fun e w' => ∃ r, e = .returned r ∧ Own eStr 1 w.heap.size 9 w' r l ∧ Below w.heap.size w w' := by
  obtain ⟨ao, cap, rfl, h1, h2, h3, h4⟩ := h.shp
  cases ao with
  | none =>
    have hl0 : l = [] := by
      rcases h4 with h4 | ⟨b, off, hb, _⟩
      · exact h4
      · cases hb
    subst hl0
    obtain rfl := h3 rfl
    have hn1 := fun u => Lib.run_eql_slice_nil (P := Try.prog) u 47 9 none 0 0 0 0 Try.underlying47
    go_enter Try.func32, Try.ntmps32
    go_wp2_with fail
    go_ret
    exact ⟨_, rfl, Own.nil _ _ _ _ _, Below.refl _ _⟩
  | some ad =>
    have hn1 := fun u => Lib.run_eql_slice_nil (P := Try.prog) u 47 9 (some ad) l.length cap 0 0 Try.underlying47
    go_enter Try.func32, Try.ntmps32
    go_wp2_with (at_builtin; go_must (refine wpList_append rfl _ _ _ rfl (.string .empty) 16 Try.underlying47 info9 rfl (by omega) len_eStr one_eStr _ _ [] l rfl (own_empty w) rfl (h.ext ((Below.refl _ _).alloc (Nat.le_refl _) _)) (by simp only [maxLen, List.length_nil]; omega) (by simp only [List.length_nil]; omega) (by simp) ?_; intro w1 w2 hown1 _ hb1; have HO := Lib.hid (List.nil_append l ▸ hown1); have HB := Lib.hid hb1; clear hown1 hb1))
    go_ret
    exact ⟨_, rfl, HO.out, ((Below.refl _ _).alloc (Nat.le_refl _) _).trans HB.out⟩

theorem rcheck_of (n m c : Int) (v : Value) (l : List (Int × Int)) (w : World) (hv : Sl ePair 2 w v l) (hc : chk n m l = c) :
    Calls Try.prog 12 #[.int .i64 n, .int .i64 m, v] w fun e w' => e = .returned (.int .i64 c) ∧ Below w.heap.size w w' := by
  subst hc; exact rcheck_any n m v l w hv

/-- what is known of a pair that is looked at -/
theorem pair_at {a b : List ByteArray} {va vb vl : Value} {l : List (Int × Int)} {w wr : World} (ha : Sl eStr 1 w va a) (hb : Sl eStr 1 w vb b) (hl : Sl ePair 2 w vl l) (hB : Below w.heap.size w wr) (hc : chk a.length b.length l = 0) {k : Nat} (hk : k < l.length) :
    ∃ (p q : Nat) (x y : ByteArray) (b0 o0 b1 o1 b2 o2 : Nat), b0 < w.heap.size ∧ b1 < w.heap.size ∧ b2 < w.heap.size ∧ p ≤ 800 ∧ q ≤ 800 ∧
      (∀ (ik : IntKind) (u : World), (Instr.indexAt 23 vl (.int ik (k : Int))).run Try.prog u = .ok (.pointer (some ⟨b0, o0, none⟩)) u) ∧
      (∀ (ik : IntKind) (u : World), (Instr.indexAt 47 va (.int ik (p : Int))).run Try.prog u = .ok (.pointer (some ⟨b1, o1, none⟩)) u) ∧
      (∀ (ik : IntKind) (u : World), (Instr.indexAt 47 vb (.int ik (q : Int))).run Try.prog u = .ok (.pointer (some ⟨b2, o2, none⟩)) u) ∧
      wr.cell? ⟨b0, o0, none⟩ = some (.int .i64 (p : Int)) ∧ wr.cell? ⟨b0, o0 + 1, none⟩ = some (.int .i64 (q : Int)) ∧ wr.cell? ⟨b1, o1, none⟩ = some (.string x) ∧ wr.cell? ⟨b2, o2, none⟩ = some (.string y) ∧
      Hid (x = y → One a b (l.take k) → One a b (l.take (k + 1))) ∧ Hid (x ≠ y → ¬ One a b l) := by
  obtain ⟨b0, o0, hb0, hix, hcl⟩ := hl.atB hB (P := Try.prog) Try.underlying23 cells31 some31 hk
  have hc0 := hcl 0 (by omega)
  have hc1 := hcl 1 (by omega)
  have hin := chk_at hc hk
  have hs := sz_bound (chk_zero hc).1
  obtain ⟨p, hp⟩ := Int.eq_ofNat_of_zero_le hin.1
  obtain ⟨q, hq⟩ := Int.eq_ofNat_of_zero_le hin.2.2.1
  simp only [ePair, List.getElem?_cons_zero, List.getElem?_cons_succ, Nat.add_zero, hp, hq] at hc0 hc1
  have hpl : p < a.length := by have := hin.2.1; omega
  have hql : q < b.length := by have := hin.2.2.2; omega
  obtain ⟨b1, o1, hb1, hix1, hcl1⟩ := ha.atB hB (P := Try.prog) Try.underlying47 cells9 some9 hpl
  obtain ⟨b2, o2, hb2, hix2, hcl2⟩ := hb.atB hB (P := Try.prog) Try.underlying47 cells9 some9 hql
  have hx := hcl1 0 (by omega)
  have hy := hcl2 0 (by omega)
  simp only [eStr, List.getElem?_cons_zero, Nat.add_zero] at hx hy
  refine ⟨p, q, a[p], b[q], b0, o0, b1, o1, b2, o2, hb0, hb1, hb2, by omega, by omega, hix, hix1, hix2, hc0, hc1, hx, hy, Lib.hid fun e h => h.snoc hk ?_, Lib.hid fun e h => e ?_⟩
  · rw [hp, hq]; simp [hpl, hql, e]
  · have := h l[k] (List.getElem_mem hk)
    rw [hp, hq] at this
    simpa [hpl, hql] using this

set_option maxHeartbeats 1000000 in
theorem alike_any (va vb vl : Value) (a b : List ByteArray) (l : List (Int × Int)) (w : World) (ha : Sl eStr 1 w va a) (hb : Sl eStr 1 w vb b) (hl : Sl ePair 2 w vl l) :
    Calls Try.prog 31 #[va, vb, vl] w fun e w' => e = .returned (.int .i64 (alk a b l)) ∧ Below w.heap.size w w' := by
  have e1 := ha.run_len (P := Try.prog) Try.underlying47
  have e2 := hb.run_len (P := Try.prog) Try.underlying47
  have e3 := hl.run_len (P := Try.prog) Try.underlying23
  have hmax := hl.len_le
  rcases chk_cases a.length b.length l with hc | hc
  · have HC := Lib.hid hc
    clear hc
    go_enter Try.func31, Try.ntmps31
    go_wp2_with (go_at_call 11; go_must (refine (check_of _ _ 0 vl l _ hl HC.out).mono ?_; rintro e w1 ⟨rfl, hbb⟩; have HB := Lib.hid hbb; clear hbb))
    go_loopw [21] (fun i wr => ∃ (k : Nat), k ≤ l.length ∧ i = .int .i64 k ∧ Hid (One a b (l.take k)) ∧ Hid (Below w.heap.size w wr)) (fun i _ => l.length - (intOf i).toNat)
    case atStart => exact ⟨0, by omega, rfl, Lib.hid (One.nil _ _), HB⟩
    case round =>
      clear HB
      obtain ⟨k, hk, rfl, HT, HB⟩ := hrel
      by_cases hlt : k < l.length
      · obtain ⟨p, q, x, y, b0, o0, b1, o1, b2, o2, hb0, hb1, hb2, hp8, hq8, hi0, hi1, hi2, c0, c1, c2, c3, HN, HS⟩ := pair_at ha hb hl HB.out HC.out hlt
        have hs := HB.out.size
        have g1 : b1 < wr.heap.size := by omega
        have g2 : b2 < wr.heap.size := by omega
        have HBa := fun X => Lib.hid (HB.out.alloc hs X)
        have HBA := Lib.hid HBa
        clear HBa
        by_cases hxy : x = y
        · have hbt : (x.toList == y.toList) = true := by rw [str_eq]; simpa using hxy
          have HXY := Lib.hid hxy
          clear hxy
          go_wp2_with fail
          go_quiet (fail)
          go_wp2_with fail
          go_roundw
          case rel => exact ⟨k + 1, by omega, by go_num, Lib.hid (HN.out HXY.out HT.out), Lib.hid (below_drewN (HBA.out _).out _)⟩
          case measure => simp [intOf]; omega
        · have hbt : (x.toList == y.toList) = false := by rw [str_eq]; simpa using hxy
          have HXY := Lib.hid hxy
          clear hxy
          go_wp2_with fail
          go_quiet (fail)
          go_wp2_with fail
          go_ret
          exact ⟨ret_int (alk_two HC.out (HS.out HXY.out)).symm, below_drewN (HBA.out _).out _⟩
      · go_wp2_with fail
        go_ret
        refine ⟨ret_int (alk_zero HC.out ?_).symm, HB.out⟩
        have := HT.out
        rwa [List.take_of_length_le (by omega)] at this
  · have HC := Lib.hid hc
    clear hc
    go_enter Try.func31, Try.ntmps31
    go_wp2_with (go_at_call 11; go_must (refine (check_of _ _ 12 vl l _ hl HC.out).mono ?_; rintro e w1 ⟨rfl, hbb⟩; have HB := Lib.hid hbb; clear hbb))
    go_ret
    exact ⟨ret_int (alk_bad (by rw [HC.out]; decide)).symm, HB.out⟩

set_option maxHeartbeats 1000000 in
theorem ralike_any (va vb vl : Value) (a b : List ByteArray) (l : List (Int × Int)) (w : World) (ha : Sl eStr 1 w va a) (hb : Sl eStr 1 w vb b) (hl : Sl ePair 2 w vl l) :
    Calls Try.prog 24 #[va, vb, vl] w fun e w' => e = .returned (.int .i64 (alk a b l)) ∧ Below w.heap.size w w' := by
  have e1 := ha.run_len (P := Try.prog) Try.underlying47
  have e2 := hb.run_len (P := Try.prog) Try.underlying47
  have e3 := hl.run_len (P := Try.prog) Try.underlying23
  have hmax := hl.len_le
  rcases chk_cases a.length b.length l with hc | hc
  · have HC := Lib.hid hc
    clear hc
    go_enter Try.func24, Try.ntmps24
    go_wp2_with (go_at_call 12; go_must (refine (rcheck_of _ _ 0 vl l _ hl HC.out).mono ?_; rintro e w1 ⟨rfl, hbb⟩; have HB := Lib.hid hbb; clear hbb))
    go_loopw [8] (fun i wr => ∃ (k : Nat), k ≤ l.length ∧ i = .int .i64 k ∧ Hid (One a b (l.take k)) ∧ Hid (Below w.heap.size w wr)) (fun i _ => l.length - (intOf i).toNat)
    case atStart => exact ⟨0, by omega, rfl, Lib.hid (One.nil _ _), HB⟩
    case round =>
      clear HB
      obtain ⟨k, hk, rfl, HT, HB⟩ := hrel
      by_cases hlt : k < l.length
      · obtain ⟨p, q, x, y, b0, o0, b1, o1, b2, o2, hb0, hb1, hb2, hp8, hq8, hi0, hi1, hi2, c0, c1, c2, c3, HN, HS⟩ := pair_at ha hb hl HB.out HC.out hlt
        by_cases hxy : x = y
        · have hbt : (x.toList == y.toList) = true := by rw [str_eq]; simpa using hxy
          have HXY := Lib.hid hxy
          clear hxy
          go_wp2_with fail
          go_quiet (fail)
          go_wp2_with fail
          go_roundw
          case rel => exact ⟨k + 1, by omega, by go_num, Lib.hid (HN.out HXY.out HT.out), Lib.hid (below_drewN HB.out _)⟩
          case measure => simp [intOf]; omega
        · have hbt : (x.toList == y.toList) = false := by rw [str_eq]; simpa using hxy
          have HXY := Lib.hid hxy
          clear hxy
          go_wp2_with fail
          go_quiet (fail)
          go_wp2_with fail
          go_ret
          exact ⟨ret_int (alk_two HC.out (HS.out HXY.out)).symm, below_drewN HB.out _⟩
      · go_wp2_with fail
        go_ret
        refine ⟨ret_int (alk_zero HC.out ?_).symm, HB.out⟩
        have := HT.out
        rwa [List.take_of_length_le (by omega)] at this
  · have HC := Lib.hid hc
    clear hc
    go_enter Try.func24, Try.ntmps24
    go_wp2_with (go_at_call 12; go_must (refine (rcheck_of _ _ 12 vl l _ hl HC.out).mono ?_; rintro e w1 ⟨rfl, hbb⟩; have HB := Lib.hid hbb; clear hbb))
    go_ret
    exact ⟨ret_int (alk_bad (by rw [HC.out]; decide)).symm, HB.out⟩
end Go.Proofs.Ytdlmdjhnigbfpaa
