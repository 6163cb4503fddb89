/-
  Walks of layer 21: Pairs. No condition.
-/
import Derived.Test.YtdlmdjhnigbfpaaW6
import Derived.Test.YtdlmdjhnigbfpaaP2
import Derived.Deep.DeepCutAuto
namespace Go.Proofs.Ytdlmdjhnigbfpaa
open Go.RowKit Go.Sl Go.Scr

/-- what Pairs returns -/
def PairsPost (base : Nat) (w : World) (o : Option (List (Int × Int))) (e : Ending) (w' : World) : Prop :=
  Below w.heap.size w w' ∧ match o with
  | none => e = .returned (.tuple #[.slice none 0 0, .int .i64 12])
  | some l => ∃ r, e = .returned (.tuple #[r, .int .i64 0]) ∧ Own ePair 2 base 31 w' r l

theorem PairsPost.none {base : Nat} {w w' : World} {o : Option (List (Int × Int))} (ho : o = .none) (hb : Below w.heap.size w w') : PairsPost base w o (.returned (.tuple #[.slice none 0 0, .int .i64 12])) w' := by
  subst ho; exact ⟨hb, rfl⟩
theorem PairsPost.some {base : Nat} {w w' : World} {o : Option (List (Int × Int))} {l : List (Int × Int)} {r : Value} (ho : o = .some l) (hb : Below w.heap.size w w') (h : Own ePair 2 base 31 w' r l) : PairsPost base w o (.returned (.tuple #[r, .int .i64 0])) w' := by
  subst ho; exact ⟨hb, _, rfl, h⟩

set_option maxRecDepth 100000 in
set_option maxHeartbeats 2000000 in
theorem pairs_any (n m : Int) (v : Value) (h : List (Int × Int × Int × Int)) (w : World) (hv : Sl eHunk 4 w v h) :
    Calls Try.prog 16 #[.int .i64 n, .int .i64 m, v] w (PairsPost w.heap.size w (pairs n m h)) := by
  have hlen := hv.run_len (P := Try.prog) Try.underlying33
  have hmax := hv.len_le
  cases hs : sz n m with
  | false =>
    have hz : ∀ u, Calls Try.prog 27 #[.int .i64 n, .int .i64 m] u fun e w' => e = .returned (.bool false) ∧ u = w' := fun u => hs ▸ sizes_any n m u
    have HZ := Lib.hid hz
    have HS := Lib.hid hs
    clear hz hs
    go_enter Try.func16, Try.ntmps16
    go_wp2_with (go_at_call 27; go_must (refine (HZ.out _).mono ?_; rintro e w' ⟨rfl, rfl⟩))
    go_ret2
    exact PairsPost.none (by rw [pairs, HS.out]; rfl) (Below.refl _ _)
  | true =>
    have hz : ∀ u, Calls Try.prog 27 #[.int .i64 n, .int .i64 m] u fun e w' => e = .returned (.bool true) ∧ u = w' := fun u => hs ▸ sizes_any n m u
    have HZ := Lib.hid hz
    have HS := Lib.hid hs
    have hbn := sz_bound hs
    clear hz hs
    go_enter Try.func16, Try.ntmps16
    go_wp2_with (go_at_call 27; go_must (refine (HZ.out _).mono ?_; rintro e w' ⟨rfl, rfl⟩))
    have HP0 : Hid (pairs n m h = (prs n m (decide (0 = 0)) 0 0 (h.drop 0)).map ([] ++ ·)) := Lib.hid (by rw [pairs, HS.out]; simp)
    go_loopw [8, 21] (fun o i wr => ∃ (k : Nat) (a b : Int) (acc : List (Int × Int)), k ≤ h.length ∧ i = .int .i64 k ∧ 0 ≤ a ∧ a ≤ n ∧ 0 ≤ b ∧ b ≤ m ∧ (acc.length : Int) ≤ a ∧ Hid (pairs n m h = (prs n m (decide (k = 0)) a b (h.drop k)).map (acc ++ ·)) ∧
      Hid (wr.heap[w.heap.size]? = some (.cells #[.int .i64 a, .int .i64 b] 31 (0, 0))) ∧ Hid (Own ePair 2 (w.heap.size + 1) 31 wr o acc) ∧ Hid (Below w.heap.size w wr) ∧ w.heap.size + 1 ≤ wr.heap.size) (fun _ i _ => h.length - (intOf i).toNat)
    case atStart => exact ⟨0, 0, 0, [], by omega, rfl, by omega, by omega, by omega, by omega, by simp, HP0, Lib.hid (heap_alloc_new _ _), Lib.hid (Own.nil _ _ _ _ _), Lib.hid ((Below.refl _ _).alloc (Nat.le_refl _) _), by simp⟩
    case round =>
      obtain ⟨k, a, b, acc, hk, rfl, ha1, ha2, hb1, hb2, hacc, H1, HA, HO, HB, hsz⟩ := hrel
      obtain ⟨_, d0, d1, f0, f1⟩ := two_cells HA.out
      by_cases hlt : k < h.length
      · obtain ⟨b0, o0, hb0, hix, hc⟩ := (hv.ext HB.out).at (P := Try.prog) Try.underlying33 cells69 some69 hlt
        have c0 := hc 0 (by omega)
        have c1 := hc 1 (by omega)
        have c2 := hc 2 (by omega)
        have c3 := hc 3 (by omega)
        simp only [eHunk, List.getElem?_cons_zero, List.getElem?_cons_succ, Nat.add_zero] at c0 c1 c2 c3
        obtain ⟨A, An, B, Bn, hx⟩ : ∃ A An B Bn, h[k] = (A, An, B, Bn) := ⟨_, _, _, _, rfl⟩
        rw [hx] at c0 c1 c2 c3
        have HX := Lib.hid hx
        clear hx hc
        have hno : bad n m a b (A, An, B, Bn) ∨ A - a ≠ B - b ∨ (decide (k = 0) = false ∧ A - a = 0) → pairs n m h = none := fun hh => by
          rw [H1.out, drop_at h hlt, HX.out, prs, if_pos hh]; rfl
        have HNo := Lib.hid hno
        clear hno
        have HAcc := Lib.hid hacc
        have HD := Lib.hid (And.intro d0 (And.intro d1 (And.intro f0 f1)))
        clear hacc hk
        go_upto_region 8 with fail
        go_cut [87] (fun s wx => ∃ t : Bool, s = .bool t ∧ Hid (t = decide (bad n m a b (A, An, B, Bn))) ∧ wx = wr.alloc (.cells #[.int .i64 A, .int .i64 An, .int .i64 B, .int .i64 Bn] 69))
        case first =>
          go_wp2_with fail
          all_goals
            go_meet
            refine ⟨_, rfl, Lib.hid ?_, by first | rfl | simp [*]⟩
            rw [Bool.eq_iff_iff]
            simp only [decide_eq_true_eq, Bool.or_eq_true, beq_iff_eq, true_iff, eq_self]
            simp only [bad]
            omega
        case rest =>
          obtain ⟨t, rfl, HT, rfl⟩ := hcut
          cases t with
          | true =>
            go_wp2_with fail
            go_ret2
            exact PairsPost.none (HNo.out (.inl (of_decide_eq_true HT.out.symm))) (HB.out.alloc (by omega) _)
          | false =>
          have hgd := of_decide_eq_false HT.out.symm
          simp only [bad] at hgd
          have g1 : 0 ≤ An := by omega
          have g2 : 0 ≤ Bn := by omega
          have g3 : ¬ (An = 0 ∧ Bn = 0) := by omega
          have g4 : An ≤ n := by omega
          have g5 : Bn ≤ m := by omega
          have g6 : a ≤ A := by omega
          have g7 : b ≤ B := by omega
          have g8 : A ≤ n - An := by omega
          have g9 : B ≤ m - Bn := by omega
          have HA2 := Lib.hid (And.intro ha1 hb1)
          clear hgd g3
          by_cases hgap : A - a = B - b
          · have hgb : ((A - a : Int) != (B - b)) = false := by simpa using hgap
            have HGap := Lib.hid hgap
            clear hgap
            by_cases hz : k = 0 ∨ A - a ≠ 0
            · have hyes : ¬ (bad n m a b (A, An, B, Bn) ∨ A - a ≠ B - b ∨ (decide (k = 0) = false ∧ A - a = 0)) := by
                have e1 := HGap.out
                have e2 := of_decide_eq_false HT.out.symm
                simp only [decide_eq_false_iff_not]
                rintro (e | e | e)
                · exact e2 e
                · exact e e1
                · omega
              have hnx : pairs n m h = ((prs n m false (A + An) (B + Bn) (h.drop (k + 1))).map (run a b (A - a).toNat ++ ·)).map (acc ++ ·) := by
                rw [H1.out, drop_at h hlt, HX.out, prs, if_neg hyes]
              have HNx := Lib.hid hnx
              have HZ1 := Lib.hid hz
              clear hyes hnx hz
              go_wp2_with fail
              all_goals first
              | (exfalso; have e1 := HZ1.out; have e2 : (A - a == 0) = true := (by assumption); have e3 : 0 < k := (by assumption); simp at e2; omega)
              | skip
              all_goals
                go_loopw [8, 13, 109] (fun o _ c wi => ∃ (j : Nat), (j : Int) ≤ A - a ∧ c = .int .i64 j ∧ Hid (wi.heap[w.heap.size]? = some (.cells #[.int .i64 a, .int .i64 b] 31 (0, 0)) ∧ wi.heap[wr.heap.size]? = some (.cells #[.int .i64 A, .int .i64 An, .int .i64 B, .int .i64 Bn] 69 (0, 0)) ∧
                  Own ePair 2 (w.heap.size + 1) 31 wi o (acc ++ run a b j) ∧ Below w.heap.size w wi) ∧ w.heap.size < wi.heap.size) (fun _ _ c _ => (A - a).toNat - (intOf c).toNat)
                case atStart => exact ⟨0, by omega, rfl, Lib.hid ⟨heap_keep HA.out, heap_alloc_new _ _, by rw [run_zero, List.append_nil]; exact HO.out.alloc _, HB.out.alloc (by omega) _⟩, by simp; omega⟩
                case round =>
                  obtain ⟨j, hj, rfl, HI, hwi⟩ := hrel
                  obtain ⟨_, d0, d1, f0, f1⟩ := two_cells HI.out.1
                  obtain ⟨_, x0, x1, x2, x3⟩ := four_cells HI.out.2.1
                  by_cases hjl : (j : Int) < A - a
                  · have hln : ((acc ++ run a b j).length : Int) ≤ 799 := by
                      rw [List.length_append, run_len]; have := HAcc.out; have := HA2.out; omega
                    have hln2 : (acc ++ run a b j).length ≤ 799 := by omega
                    have HIO := HI.out.2.2.1
                    obtain ⟨acc2, HA3⟩ : ∃ l, Hid (l = acc ++ run a b j) := ⟨_, Lib.hid rfl⟩
                    rw [← HA3.out] at HIO hln hln2
                    have hj2 : 0 ≤ a + (j : Int) ∧ a + (j : Int) ≤ 800 := by have := HA2.out; omega
                    have hj3 : 0 ≤ b + (j : Int) ∧ b + (j : Int) ≤ 800 := by have := HA2.out; have := HGap.out; omega
                    have HIo := Lib.hid HIO
                    clear HIO hln
                    go_wp2_with (at_builtin; go_must (refine wpList_append rfl _ _ _ rfl _ 16 Try.underlying23 info31 rfl (by omega) len_ePair one_ePair _ _ acc2 [(a + (j : Int), b + (j : Int))] rfl (HIo.out.alloc _) rfl (Sl.fresh len_ePair rfl rfl rfl (by simp [maxLen])) (by simp only [maxLen, List.length_cons, List.length_nil]; omega) (by simp only [List.length_cons, List.length_nil]; omega) (by simp; omega) ?_; intro v1 w1 hown1 hgr1 hb1; have HO1 := Lib.hid hown1; have HG1 := Lib.hid (And.intro hgr1 hb1); clear hown1 hgr1 hb1))
                    go_roundw
                    case rel =>
                      have hs1 := HG1.out.2.size
                      simp at hs1
                      refine ⟨j + 1, by omega, by go_num, Lib.hid ⟨?_, ?_, ?_, ?_⟩, by omega⟩
                      · exact (HG1.out.2.block _ (by omega)).trans (heap_keep HI.out.1)
                      · exact grown_heap HG1.out.1 (heap_keep HI.out.2.1) (HI.out.2.2.1.ne_elem HI.out.2.1 (by decide))
                      · rw [run_succ, ← List.append_assoc, ← HA3.out]; exact HO1.out
                      · exact HI.out.2.2.2.trans (((Below.refl _ _).alloc (by omega) _).trans (HG1.out.2.mono (by omega)))
                    case measure => simp [intOf]; omega
                  · have hjj : (j : Int) = A - a := by omega
                    have HJJ := Lib.hid hjj
                    clear hjj
                    go_wp2_with fail
                    go_roundw
                    case rel =>
                      have e2 := HA2.out
                      have e3 := HGap.out
                      refine ⟨k + 1, A + An, B + Bn, acc ++ run a b j, by omega, by go_num, by omega, by omega, by omega, by omega, ?_, Lib.hid ?_, Lib.hid (two_set HI.out.1), Lib.hid ?_, Lib.hid ((HI.out.2.2.2.setCell (Nat.le_refl _) _).setCell (Nat.le_refl _) _), by simp; omega⟩
                      · rw [List.length_append, run_len]; have := HAcc.out; have := HJJ.out; omega
                      · rw [HNx.out, Option.map_map, show (A - a).toNat = j by have := HJJ.out; omega]
                        congr 1
                        funext q
                        simp
                      · have hne := HI.out.2.2.1.ne (g := w.heap.size) (.inl (by omega))
                        exact (HI.out.2.2.1.set_other hne _).set_other hne _
                    case measure => simp [intOf]; omega
            · have hz1 : ((A - a : Int) == 0) = true := by simp; omega
              have hz2 : 0 < k := by omega
              have hz3 : (0 : Int) < k := by omega
              have HZ := Lib.hid hz
              clear hz
              go_wp2_with fail
              all_goals
                go_ret2
                exact PairsPost.none (HNo.out (.inr (.inr ⟨by simp; omega, by have := HZ.out; omega⟩))) (HB.out.alloc (by omega) _)
          · have hgb : ((A - a : Int) != (B - b)) = true := by simpa using hgap
            have HGap := Lib.hid hgap
            clear hgap
            go_wp2_with fail
            all_goals
              go_ret2
              exact PairsPost.none (HNo.out (.inr (.inl HGap.out))) (HB.out.alloc (by omega) _)
      · have hend : pairs n m h = (if n - a ≠ m - b then none else some (run a b (n - a).toNat)).map (acc ++ ·) := by
          rw [H1.out, List.drop_eq_nil_of_le (by omega), prs]
        have HAcc := Lib.hid hacc
        clear hacc
        by_cases hgap : n - a = m - b
        · have hgb : ((n - a : Int) != (m - b)) = false := by simpa using hgap
          rw [if_neg (by simpa using hgap)] at hend
          have HGap := Lib.hid hgap
          have HEnd := Lib.hid hend
          clear hgap hend
          go_wp2_with fail
          go_loopw [8, 14, 150] (fun o _ c wi => ∃ (j : Nat), (j : Int) ≤ n - a ∧ c = .int .i64 j ∧ Hid (wi.heap[w.heap.size]? = some (.cells #[.int .i64 a, .int .i64 b] 31 (0, 0)) ∧
            Own ePair 2 (w.heap.size + 1) 31 wi o (acc ++ run a b j) ∧ Below w.heap.size w wi) ∧ w.heap.size < wi.heap.size) (fun _ _ c _ => (n - a).toNat - (intOf c).toNat)
          case atStart => exact ⟨0, by omega, rfl, Lib.hid ⟨HA.out, by rw [run_zero, List.append_nil]; exact HO.out, HB.out⟩, by omega⟩
          case round =>
            obtain ⟨j, hj, rfl, HI, hwi⟩ := hrel
            obtain ⟨_, d0, d1, f0, f1⟩ := two_cells HI.out.1
            by_cases hjl : (j : Int) < n - a
            · have hln : ((acc ++ run a b j).length : Int) ≤ 799 := by
                rw [List.length_append, run_len]; have := HAcc.out; omega
              have hln2 : (acc ++ run a b j).length ≤ 799 := by omega
              have HIO := HI.out.2.1
              obtain ⟨acc2, HA3⟩ : ∃ l, Hid (l = acc ++ run a b j) := ⟨_, Lib.hid rfl⟩
              rw [← HA3.out] at HIO hln hln2
              have hj2 : 0 ≤ a + (j : Int) ∧ a + (j : Int) ≤ 800 := by omega
              have hj3 : 0 ≤ b + (j : Int) ∧ b + (j : Int) ≤ 800 := by have := HGap.out; omega
              have HIo := Lib.hid HIO
              clear HIO hln
              go_wp2_with (at_builtin; go_must (refine wpList_append rfl _ _ _ rfl _ 16 Try.underlying23 info31 rfl (by omega) len_ePair one_ePair _ _ acc2 [(a + (j : Int), b + (j : Int))] rfl (HIo.out.alloc _) rfl (Sl.fresh len_ePair rfl rfl rfl (by simp [maxLen])) (by simp only [maxLen, List.length_cons, List.length_nil]; omega) (by simp only [List.length_cons, List.length_nil]; omega) (by simp; omega) ?_; intro v1 w1 hown1 hgr1 hb1; have HO1 := Lib.hid hown1; have HG1 := Lib.hid (And.intro hgr1 hb1); clear hown1 hgr1 hb1))
              go_roundw
              case rel =>
                have hs1 := HG1.out.2.size
                simp at hs1
                refine ⟨j + 1, by omega, by go_num, Lib.hid ⟨?_, ?_, ?_⟩, by omega⟩
                · exact (HG1.out.2.block _ (by omega)).trans (heap_keep HI.out.1)
                · rw [run_succ, ← List.append_assoc, ← HA3.out]; exact HO1.out
                · exact HI.out.2.2.trans (((Below.refl _ _).alloc (by omega) _).trans (HG1.out.2.mono (by omega)))
              case measure => simp [intOf]; omega
            · have hjj : (j : Int) = n - a := by omega
              have HJJ := Lib.hid hjj
              clear hjj
              go_wp2_with fail
              go_ret2
              refine PairsPost.some (l := acc ++ run a b j) ?_ HI.out.2.2 (HI.out.2.1.mono (by omega))
              rw [HEnd.out, show (n - a).toNat = j by have := HJJ.out; omega]; rfl
        · have hgb : ((n - a : Int) != (m - b)) = true := by simpa using hgap
          rw [if_pos (by simpa using hgap)] at hend
          have HEnd := Lib.hid hend
          clear hgap hend
          go_wp2_with fail
          go_ret2
          exact PairsPost.none HEnd.out HB.out
end Go.Proofs.Ytdlmdjhnigbfpaa
