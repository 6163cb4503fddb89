/-
  Walks of layer 21: the reference's Pairs. No condition.
-/
import Derived.Test.YtdlmdjhnigbfpaaW6
import Derived.Test.YtdlmdjhnigbfpaaP2
import Derived.Deep.DeepCutAuto
namespace Go.Proofs.Ytdlmdjhnigbfpaa
open Go.RowKit Go.Sl Go.Scr

/-- what the reference's Pairs returns -/
def RPairsPost (base : Nat) (w : World) (o : Option (List (Int × Int))) (e : Ending) (w' : World) : Prop :=
  Below w.heap.size w w' ∧ match o with
  | none => e = .returned (.tuple #[.slice none 0 0, .bool false])
  | some l => ∃ r, e = .returned (.tuple #[r, .bool true]) ∧ Own ePair 2 base 31 w' r l

theorem RPairsPost.none {base : Nat} {w w' : World} {o : Option (List (Int × Int))} (ho : o = .none) (hb : Below w.heap.size w w') : RPairsPost base w o (.returned (.tuple #[.slice none 0 0, .bool false])) w' := by
  subst ho; exact ⟨hb, rfl⟩
theorem RPairsPost.some {base : Nat} {w w' : World} {o : Option (List (Int × Int))} {l : List (Int × Int)} {r : Value} (ho : o = .some l) (hb : Below w.heap.size w w') (h : Own ePair 2 base 31 w' r l) : RPairsPost base w o (.returned (.tuple #[r, .bool true])) w' := by
  subst ho; exact ⟨hb, _, rfl, h⟩

set_option maxRecDepth 100000 in
set_option maxHeartbeats 4000000 in
theorem rpairs_any (n m : Int) (v : Value) (h : List (Int × Int × Int × Int)) (w : World) (hv : Sl eHunk 4 w v h) (hmax : h.length ≤ 1000000) :
    Calls Try.prog 17 #[.int .i64 n, .int .i64 m, v] w (RPairsPost w.heap.size w (pairs n m h)) := by
  have hlen := hv.run_len (P := Try.prog) Try.underlying33
  cases hs : sz n m with
  | false =>
    have hz : ∀ u, Calls Try.prog 28 #[.int .i64 n, .int .i64 m] u fun e w' => e = .returned (.bool false) ∧ u = w' := fun u => hs ▸ rsizes_any n m u
    have HZ := Lib.hid hz
    have HS := Lib.hid hs
    clear hz hs
    go_enter Try.func17, Try.ntmps17
    go_wp2_with (go_at_call 28; go_must (refine (HZ.out _).mono ?_; rintro e w' ⟨rfl, rfl⟩))
    go_ret2
    exact RPairsPost.none (by rw [pairs, HS.out]; rfl) (Below.refl _ _)
  | true =>
    have hz : ∀ u, Calls Try.prog 28 #[.int .i64 n, .int .i64 m] u fun e w' => e = .returned (.bool true) ∧ u = w' := fun u => hs ▸ rsizes_any n m u
    have HZ := Lib.hid hz
    have HS := Lib.hid hs
    have hbn := sz_bound hs
    clear hz hs
    go_enter Try.func17, Try.ntmps17
    go_wp2_with (go_at_call 28; go_must (refine (HZ.out _).mono ?_; rintro e w' ⟨rfl, rfl⟩))
    have HP0 : Hid (if 0 ≤ h.length then pairs n m h = (prs n m (decide (0 = 0)) 0 0 (h.drop 0)).map ([] ++ ·) else pairs n m h = some []) := Lib.hid (by rw [if_pos (Nat.zero_le _), pairs, HS.out]; simp)
    go_loopw [8, 9, 10, 11] (fun o sa sb i wr => ∃ (k : Nat) (a b : Int) (acc : List (Int × Int)), k ≤ h.length + 1 ∧ i = .int .i64 k ∧ sa = .int .i64 a ∧ sb = .int .i64 b ∧ 0 ≤ a ∧ a ≤ n ∧ 0 ≤ b ∧ b ≤ m ∧ (acc.length : Int) ≤ a ∧ Hid (if k ≤ h.length then pairs n m h = (prs n m (decide (k = 0)) a b (h.drop k)).map (acc ++ ·) else pairs n m h = some acc) ∧
      Hid (Own ePair 2 w.heap.size 31 wr o acc) ∧ Hid (Below w.heap.size w wr) ∧ w.heap.size ≤ wr.heap.size) (fun _ _ _ i _ => h.length + 1 - (intOf i).toNat)
    case atStart => exact ⟨0, 0, 0, [], by omega, rfl, rfl, rfl, by omega, by omega, by omega, by omega, by simp, HP0, Lib.hid (Own.nil _ _ _ _ _), Lib.hid (Below.refl _ _), Nat.le_refl _⟩
    case round =>
      obtain ⟨k, a, b, acc, hk, rfl, rfl, rfl, ha1, ha2, hb1, hb2, hacc, H0, HO, HB, hsz⟩ := hrel
      have HAcc := Lib.hid hacc
      clear hacc
      by_cases hlt : k < h.length
      · have H1 : Hid (pairs n m h = (prs n m (decide (k = 0)) a b (h.drop k)).map (acc ++ ·)) := Lib.hid (by have := H0.out; rwa [if_pos (by omega)] at this)
        obtain ⟨b0, o0, hb0, hix, hc⟩ := (hv.ext HB.out).at (P := Try.prog) Try.underlying33 cells69 some69 hlt
        have c0 := hc 0 (by omega)
        have c1 := hc 1 (by omega)
        have c2 := hc 2 (by omega)
        have c3 := hc 3 (by omega)
        simp only [eHunk, List.getElem?_cons_zero, List.getElem?_cons_succ, Nat.add_zero] at c0 c1 c2 c3
        obtain ⟨A, An, B, Bn, hx⟩ : ∃ A An B Bn, h[k] = (A, An, B, Bn) := ⟨_, _, _, _, rfl⟩
        rw [hx] at c0 c1 c2 c3
        have HX := Lib.hid hx
        clear hx hc
        have hno : (An < 0 ∨ Bn < 0 ∨ (An = 0 ∧ Bn = 0)) ∨ (A < a ∨ n < A ∨ B < b ∨ m < B ∨ n - A < An ∨ m - B < Bn ∨ A - a ≠ B - b) ∨ (k ≠ 0 ∧ A = a) → pairs n m h = none := fun hh => by
          rw [H1.out, drop_at h hlt, HX.out, prs, if_pos (by simp only [bad, decide_eq_false_iff_not]; omega)]; rfl
        have HNo := Lib.hid hno
        clear hno
        go_upto_region 11 with fail
        go_cut [51] (fun s wx => ∃ t : Bool, s = .bool t ∧ Hid (t = decide (An < 0 ∨ Bn < 0 ∨ (An = 0 ∧ Bn = 0))) ∧ wx = wr.alloc (.cells #[.int .i64 A, .int .i64 An, .int .i64 B, .int .i64 Bn] 69))
        case first =>
          go_wp2_with fail
          all_goals
            go_meet
            refine ⟨_, rfl, Lib.hid ?_, by first | rfl | simp [*]⟩
            rw [Bool.eq_iff_iff]
            simp only [decide_eq_true_eq, Bool.or_eq_true, beq_iff_eq, true_iff, eq_self]
            omega
        case rest =>
          obtain ⟨t, rfl, HT, rfl⟩ := hcut
          cases t with
          | true =>
            go_wp2_with fail
            go_ret2
            exact RPairsPost.none (HNo.out (.inl (of_decide_eq_true HT.out.symm))) (HB.out.alloc (by omega) _)
          | false =>
          have hgd := of_decide_eq_false HT.out.symm
          have g1 : 0 ≤ An := by omega
          have g2 : 0 ≤ Bn := by omega
          clear hgd
          go_upto_region 13 with fail
          go_cut [102] (fun s wx => ∃ t : Bool, s = .bool t ∧ Hid (t = decide (A < a ∨ n < A ∨ B < b ∨ m < B ∨ n - A < An ∨ m - B < Bn ∨ A - a ≠ B - b)) ∧ wx = wr.alloc (.cells #[.int .i64 A, .int .i64 An, .int .i64 B, .int .i64 Bn] 69))
          case first =>
            go_wp2_with fail
            all_goals
              go_meet
              refine ⟨_, rfl, Lib.hid ?_, by first | rfl | simp [*]⟩
              rw [Bool.eq_iff_iff]
              simp only [decide_eq_true_eq, Bool.or_eq_true, bne_iff_ne, true_iff, eq_self]
              omega
          case rest =>
            obtain ⟨t, rfl, HT2, rfl⟩ := hcut
            cases t with
            | true =>
              go_wp2_with fail
              go_ret2
              exact RPairsPost.none (HNo.out (.inr (.inl (of_decide_eq_true HT2.out.symm)))) (HB.out.alloc (by omega) _)
            | false =>
            have hgd := of_decide_eq_false HT2.out.symm
            have g4 : An ≤ n - A := by omega
            have g5 : Bn ≤ m - B := by omega
            have g6 : a ≤ A := by omega
            have g7 : b ≤ B := by omega
            have g8 : A ≤ n := by omega
            have g9 : B ≤ m := by omega
            have HGap := Lib.hid (show A - a = B - b by omega)
            clear hgd
            by_cases hz : k ≠ 0 ∧ A = a
            · have hz1 : (A == a) = true := by simpa using hz.2
              have hz2 : 0 < k := by omega
              have hz3 : (0 : Int) < k := by omega
              have HZ3 := Lib.hid hz
              clear hz
              go_wp2_with fail
              all_goals
                go_ret2
                exact RPairsPost.none (HNo.out (.inr (.inr HZ3.out))) (HB.out.alloc (by omega) _)
            · have hnx : pairs n m h = ((prs n m false (A + An) (B + Bn) (h.drop (k + 1))).map (run a b (A - a).toNat ++ ·)).map (acc ++ ·) := by
                have e1 := HGap.out
                have e3 := of_decide_eq_false HT.out.symm
                rw [H1.out, drop_at h hlt, HX.out, prs, if_neg (by simp only [bad, decide_eq_false_iff_not]; omega)]
              have HNx := Lib.hid hnx
              have HZ3 := Lib.hid hz
              clear hnx hz
              have hzz : k ≤ 0 ∨ (A == a) = false := by
                have := HZ3.out
                by_cases e : k = 0
                · exact .inl (by omega)
                · right; simp; omega
              rcases hzz with hzz | hzz
              all_goals
                go_wp2_with fail
                all_goals
                  go_loopw [8, 9, 10] (fun o sa sb wi => ∃ (j : Nat), (j : Int) ≤ A - a ∧ sa = .int .i64 (a + j) ∧ sb = .int .i64 (b + j) ∧ Hid (wi.heap[wr.heap.size]? = some (.cells #[.int .i64 A, .int .i64 An, .int .i64 B, .int .i64 Bn] 69 (0, 0)) ∧
                    Own ePair 2 w.heap.size 31 wi o (acc ++ run a b j) ∧ Below w.heap.size w wi) ∧ w.heap.size ≤ wi.heap.size) (fun _ sa _ _ => (A - intOf sa).toNat)
                  case atStart => exact ⟨0, by omega, by go_num, by go_num, Lib.hid ⟨heap_alloc_new _ _, by rw [run_zero, List.append_nil]; exact HO.out.alloc _, HB.out.alloc (by omega) _⟩, by simp; omega⟩
                  case round =>
                    obtain ⟨j, hj, rfl, rfl, HI, hwi⟩ := hrel
                    obtain ⟨_, x0, x1, x2, x3⟩ := four_cells HI.out.1
                    by_cases hjl : (j : Int) < A - a
                    · have hln : ((acc ++ run a b j).length : Int) ≤ 799 := by
                        rw [List.length_append, run_len]; have := HAcc.out; omega
                      have hln2 : (acc ++ run a b j).length ≤ 799 := by omega
                      have HIO := HI.out.2.1
                      obtain ⟨acc2, HA3⟩ : ∃ l, Hid (l = acc ++ run a b j) := ⟨_, Lib.hid rfl⟩
                      rw [← HA3.out] at HIO hln hln2
                      have hj2 : 0 ≤ a + (j : Int) ∧ a + (j : Int) ≤ 800 := by omega
                      have hj3 : 0 ≤ b + (j : Int) ∧ b + (j : Int) ≤ 800 := by have := HGap.out; omega
                      have hj4 : a + (j : Int) < A := by omega
                      have HIo := Lib.hid HIO
                      clear HIO hln
                      go_wp2_with (at_builtin; go_must (refine wpList_append rfl _ _ _ rfl _ 16 Try.underlying23 info31 rfl (by omega) len_ePair one_ePair _ _ acc2 [(a + (j : Int), b + (j : Int))] rfl (HIo.out.alloc _) rfl (Sl.fresh len_ePair rfl rfl rfl (by simp [maxLen])) (by simp only [maxLen, List.length_cons, List.length_nil]; omega) (by simp only [List.length_cons, List.length_nil]; omega) (by simp; omega) ?_; intro v1 w1 hown1 hgr1 hb1; have HO1 := Lib.hid hown1; have HG1 := Lib.hid (And.intro hgr1 hb1); clear hown1 hgr1 hb1))
                      go_roundw
                      case rel =>
                        have hs1 := HG1.out.2.size
                        simp at hs1
                        refine ⟨j + 1, by omega, by go_num, by go_num, Lib.hid ⟨?_, ?_, ?_⟩, by omega⟩
                        · exact grown_heap HG1.out.1 (heap_keep HI.out.1) (HI.out.2.1.ne_elem HI.out.1 (by decide))
                        · rw [run_succ, ← List.append_assoc, ← HA3.out]; exact HO1.out
                        · exact HI.out.2.2.trans (((Below.refl _ _).alloc (by omega) _).trans HG1.out.2)
                      case measure => simp [intOf]; try omega
                    · have hjj : (j : Int) = A - a := by omega
                      have hj4 : ¬ a + (j : Int) < A := by omega
                      have hj5 : a + (j : Int) ≤ 800 := by omega
                      have hj6 : 0 ≤ b + (j : Int) ∧ b + (j : Int) ≤ 800 := by have := HGap.out; omega
                      have HJJ := Lib.hid hjj
                      clear hjj
                      go_wp2_with fail
                      go_roundw
                      case rel =>
                        have e3 := HGap.out
                        have e4 := HJJ.out
                        refine ⟨k + 1, a + j + An, b + j + Bn, acc ++ run a b j, by omega, by go_num, rfl, rfl, by omega, by omega, by omega, by omega, ?_, Lib.hid ?_, Lib.hid HI.out.2.1, Lib.hid HI.out.2.2, hwi⟩
                        · rw [List.length_append, run_len]; have := HAcc.out; omega
                        · rw [if_pos (by omega), HNx.out, Option.map_map, show (A - a).toNat = j by omega, show a + j + An = A + An by omega, show b + j + Bn = B + Bn by omega]
                          congr 1
                          funext q
                          simp
                      case measure => simp [intOf]; try omega
      · by_cases hle : k = h.length
        · have H1 : Hid (pairs n m h = (if n - a ≠ m - b then none else some (run a b (n - a).toNat)).map (acc ++ ·)) := Lib.hid (by
            have := H0.out
            rw [if_pos (by omega), List.drop_eq_nil_of_le (by omega), prs] at this
            exact this)
          have hk2 : h.length < k + 1 := by omega
          have hk3 : ¬ k < h.length := by omega
          by_cases hgap : n - a = m - b
          · have hgb : ((n - a : Int) != (m - b)) = false := by simpa using hgap
            have HEnd : Hid (pairs n m h = (some (run a b (n - a).toNat)).map (acc ++ ·)) := Lib.hid (by have := H1.out; rwa [if_neg (by simpa using hgap)] at this)
            have HGap := Lib.hid hgap
            clear hgap
            go_wp2_with fail
            all_goals
              go_loopw [8, 9, 10] (fun o sa sb wi => ∃ (j : Nat), (j : Int) ≤ n - a ∧ sa = .int .i64 (a + j) ∧ sb = .int .i64 (b + j) ∧ Hid (wi.heap[wr.heap.size]? = some (.cells #[.int .i64 n, .int .i64 0, .int .i64 m, .int .i64 0] 69 (0, 0)) ∧
                Own ePair 2 w.heap.size 31 wi o (acc ++ run a b j) ∧ Below w.heap.size w wi) ∧ w.heap.size ≤ wi.heap.size) (fun _ sa _ _ => (n - intOf sa).toNat)
              case atStart => exact ⟨0, by omega, by go_num, by go_num, Lib.hid ⟨heap_alloc_new _ _, by rw [run_zero, List.append_nil]; exact HO.out.alloc _, HB.out.alloc (by omega) _⟩, by simp; omega⟩
              case round =>
                obtain ⟨j, hj, rfl, rfl, HI, hwi⟩ := hrel
                obtain ⟨_, x0, x1, x2, x3⟩ := four_cells HI.out.1
                by_cases hjl : (j : Int) < n - a
                · have hln : ((acc ++ run a b j).length : Int) ≤ 799 := by
                    rw [List.length_append, run_len]; have := HAcc.out; omega
                  have hln2 : (acc ++ run a b j).length ≤ 799 := by omega
                  have HIO := HI.out.2.1
                  obtain ⟨acc2, HA3⟩ : ∃ l, Hid (l = acc ++ run a b j) := ⟨_, Lib.hid rfl⟩
                  rw [← HA3.out] at HIO hln hln2
                  have hj2 : 0 ≤ a + (j : Int) ∧ a + (j : Int) ≤ 800 := by omega
                  have hj3 : 0 ≤ b + (j : Int) ∧ b + (j : Int) ≤ 800 := by have := HGap.out; omega
                  have hj4 : a + (j : Int) < n := by omega
                  have HIo := Lib.hid HIO
                  clear HIO hln
                  go_wp2_with (at_builtin; go_must (refine wpList_append rfl _ _ _ rfl _ 16 Try.underlying23 info31 rfl (by omega) len_ePair one_ePair _ _ acc2 [(a + (j : Int), b + (j : Int))] rfl (HIo.out.alloc _) rfl (Sl.fresh len_ePair rfl rfl rfl (by simp [maxLen])) (by simp only [maxLen, List.length_cons, List.length_nil]; omega) (by simp only [List.length_cons, List.length_nil]; omega) (by simp; omega) ?_; intro v1 w1 hown1 hgr1 hb1; have HO1 := Lib.hid hown1; have HG1 := Lib.hid (And.intro hgr1 hb1); clear hown1 hgr1 hb1))
                  go_roundw
                  case rel =>
                    have hs1 := HG1.out.2.size
                    simp at hs1
                    refine ⟨j + 1, by omega, by go_num, by go_num, Lib.hid ⟨?_, ?_, ?_⟩, by omega⟩
                    · exact grown_heap HG1.out.1 (heap_keep HI.out.1) (HI.out.2.1.ne_elem HI.out.1 (by decide))
                    · rw [run_succ, ← List.append_assoc, ← HA3.out]; exact HO1.out
                    · exact HI.out.2.2.trans (((Below.refl _ _).alloc (by omega) _).trans HG1.out.2)
                  case measure => simp [intOf]; try omega
                · have hjj : (j : Int) = n - a := by omega
                  have hj4 : ¬ a + (j : Int) < n := by omega
                  have hj5 : a + (j : Int) ≤ 800 := by omega
                  have hj6 : 0 ≤ b + (j : Int) ∧ b + (j : Int) ≤ 800 := by have := HGap.out; omega
                  have HJJ := Lib.hid hjj
                  clear hjj
                  go_wp2_with fail
                  go_roundw
                  case rel =>
                    have e3 := HGap.out
                    have e4 := HJJ.out
                    refine ⟨k + 1, a + j, b + j, acc ++ run a b j, by omega, by go_num, rfl, rfl, by omega, by omega, by omega, by omega, ?_, Lib.hid ?_, Lib.hid HI.out.2.1, Lib.hid HI.out.2.2, hwi⟩
                    · rw [List.length_append, run_len]; have := HAcc.out; omega
                    · rw [if_neg (by omega), HEnd.out, show (n - a).toNat = j by omega]; rfl
                  case measure => simp [intOf]; try omega
          · have hgb : ((n - a : Int) != (m - b)) = true := by simpa using hgap
            have HEnd : Hid (pairs n m h = none) := Lib.hid (by have := H1.out; rw [if_pos (by simpa using hgap)] at this; exact this)
            clear hgap
            go_wp2_with fail
            go_ret2
            exact RPairsPost.none HEnd.out (HB.out.alloc (by omega) _)
        · go_wp2_with fail
          go_ret2
          have := H0.out
          rw [if_neg (by omega)] at this
          exact RPairsPost.some this HB.out HO.out
end Go.Proofs.Ytdlmdjhnigbfpaa
