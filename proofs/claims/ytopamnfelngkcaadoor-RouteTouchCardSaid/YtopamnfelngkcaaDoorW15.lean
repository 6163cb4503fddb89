/-
  Layer 5: the document's word: does a word stand for a part? No condition besides what the arguments are.
-/
import Derived.Test.YtopamnfelngkcaaDoorW14
namespace Go.Proofs.YtopamnfelngkcaaDoor
open Go.RowKit Go.Sl Go.Route
set_option linter.unusedVariables false

set_option maxRecDepth 100000 in
set_option maxHeartbeats 4000000 in
theorem rword_any (wd s : Wd) (w : World) (hw : wd.length ≤ 1000) (hs : s.length ≤ 1000) :
    Calls Tryd.prog 97 #[.string (bstr wd), .string (bstr s)] w fun e w' => e = .returned (.bool (glob wd s)) ∧ Below w.heap.size w w' := by
  have hmk := make_bools s.length hs
  have HR0 := Lib.hid (rw_made w (s.length + 1))
  obtain ⟨c1, c2, c3⟩ := HR0.out.cell (k := s.length) (by omega)
  have e0 : ((w.alloc (.cells (madeCells #[.bool false] (s.length + 1)) 4)).setCell ⟨w.heap.size, s.length, none⟩ (.bool true)) = (w.alloc (.cells ((madeCells #[.bool false] (s.length + 1)).setIfInBounds s.length (.bool true)) 4)) := World.setCell_alloc_new _ _ _ _
  have HR1 : Hid (Rw w.heap.size (s.length + 1) (gl wd s wd.length) (w.alloc (.cells ((madeCells #[.bool false] (s.length + 1)).setIfInBounds s.length (.bool true)) 4))) :=
    Lib.hid (by rw [← e0]; exact (HR0.out.set s.length true).congr fun k hk => by rw [gl_last wd s (by omega)]; by_cases h : k = s.length <;> simp [h])
  have HB1 : Hid (Below w.heap.size w (w.alloc (.cells ((madeCells #[.bool false] (s.length + 1)).setIfInBounds s.length (.bool true)) 4))) :=
    Lib.hid (by rw [← e0]; exact ((Below.refl _ _).alloc (Nat.le_refl _) _).setCell (p := ⟨w.heap.size, s.length, none⟩) (Nat.le_refl _) _)
  clear e0
  go_enter Tryd.func97, Tryd.ntmps97
  go_wp2_with fail
  go_loopw [5, 6] (fun sv iv wr => ∃ (A m : Nat) (i : Int), sv = .slice (some ⟨A, 0, none⟩) (s.length + 1) (s.length + 1) ∧ iv = .int .i64 i ∧ i = (m : Int) - 1 ∧ m ≤ wd.length ∧ w.heap.size ≤ A ∧ Hid (Rw A (s.length + 1) (gl wd s m) wr) ∧ Hid (Below w.heap.size w wr)) (fun _ iv _ => (intOf iv + 1).toNat)
  case atStart => exact ⟨w.heap.size, wd.length, (wd.length : Int) - 1, rfl, by go_num, rfl, by omega, by omega, HR1, HB1⟩
  case round =>
    clear HR0 c1 c2 c3 HR1 HB1
    obtain ⟨A, m, i, rfl, rfl, hi, hm, hA, HR, HB⟩ := hrel
    cases m with
    | zero =>
      have hi0 : ¬ (0 ≤ i) := by omega
      have d0 : decide (0 ≤ i) = false := decide_eq_false hi0
      clear hi
      obtain ⟨c1, c2, c3⟩ := HR.out.cell (k := 0) (by omega)
      go_wp2_with fail
      go_ret
      exact ⟨ret_bool rfl, HB.out⟩
    | succ m =>
      obtain rfl : i = (m : Int) := by omega
      clear hi
      obtain ⟨wo, rfl⟩ : ∃ x, x = wr := ⟨_, rfl⟩
      have hAl := HR.out.lt
      have HR1 := Lib.hid (HR.out.alloc (s.length + 1))
      have HN1 : Hid (Rw wo.heap.size (s.length + 1) (gj wd s m (s.length + 1)) (wo.alloc (.cells (madeCells #[.bool false] (s.length + 1)) 4))) := Lib.hid ((rw_made wo (s.length + 1)).congr fun k hk => gj_start wd s m hk)
      have HB1 := Lib.hid (HB.out.alloc HB.out.size (.cells (madeCells #[.bool false] (s.length + 1)) 4))
      obtain ⟨N, hN⟩ : ∃ N, N = wo.heap.size := ⟨_, rfl⟩
      have hAN : A ≠ N := by omega
      have hNs : w.heap.size ≤ N := by have := HB.out.size; omega
      go_wp2_with fail
      rw [← hN] at HN1 ⊢
      clear hN
      go_loopw [8] (fun kv wr => ∃ (j : Nat) (i' : Int), kv = .int .i64 i' ∧ i' = (j : Int) - 1 ∧ j ≤ s.length + 1 ∧ Hid (Rw N (s.length + 1) (gj wd s m j) wr) ∧ Hid (Rw A (s.length + 1) (gl wd s (m + 1)) wr) ∧ Hid (Below w.heap.size w wr)) (fun kv _ => (intOf kv + 1).toNat)
      case atStart => exact ⟨s.length + 1, (s.length : Int), rfl, by omega, by omega, HN1, HR1, HB1⟩
      case round =>
        obtain ⟨j, i', rfl, hi', hj, HN, HA, HBq⟩ := hrel
        cases j with
        | zero =>
          have hi0 : ¬ (0 ≤ i') := by omega
          have d0 : decide (0 ≤ i') = false := decide_eq_false hi0
          clear hi'
          have HNe : Hid (Rw N (s.length + 1) (gl wd s m) wr) := Lib.hid (HN.out.congr fun k _ => gj_zero wd s m k)
          go_wp2_with fail
          go_roundw
          case rel => exact ⟨N, m, (m : Int) - 1, rfl, by go_num, rfl, by omega, hNs, HNe, HBq⟩
          case measure => (first | (simp [intOf]; omega) | simp [intOf])
        | succ k =>
          obtain rfl : i' = (k : Int) := by omega
          clear hi'
          obtain ⟨a1, a2, a3⟩ := HA.out.cell (k := k) (by omega)
          obtain ⟨n1, n2, n3⟩ := HN.out.cell (k := k) (by omega)
          by_cases h42 : wd[m] = 42
          · have c1 : ((wd[m].toNat : Int) == 42) = true := by rw [h42]; rfl
            have c2 : (wd[m].toNat : Int) = 42 := by rw [h42]; rfl
            by_cases hk2 : k < s.length
            · obtain ⟨n4, n5, n6⟩ := HN.out.cell (k := k + 1) (by omega)
              rw [gj_at] at n4
              have d1 : decide (k < s.length) = true := decide_eq_true hk2
              have d2 : decide ((k : Int) < (s.length : Int)) = true := decide_eq_true (by omega)
              cases hF : gl wd s (m + 1) k with
              | true =>
                rw [hF] at a1
                have HN2 := Lib.hid ((HN.out.set k true).congr fun y _ => gj_set (m := m) (v := true) (by rw [gl_star hm h42 hk2, hF]; rfl) y)
                have HA2 := Lib.hid (HA.out.other (grown_set wr N k (.bool true)) (by simpa using Ne.symm hAN))
                have HB2 := Lib.hid (HBq.out.setCell (p := ⟨N, k, none⟩) hNs (.bool true))
                clear h42
                go_wp2_with fail
                go_roundw
                case rel => exact ⟨k, (k : Int) - 1, by go_num, rfl, by omega, HN2, HA2, HB2⟩
                case measure => (first | (simp [intOf]; omega) | simp [intOf])
              | false =>
                rw [hF] at a1
                have HN2 := Lib.hid ((HN.out.set k (gl wd s m (k + 1))).congr fun y _ => gj_set (m := m) (v := (gl wd s m (k + 1))) (by rw [gl_star hm h42 hk2, hF]; rfl) y)
                have HA2 := Lib.hid (HA.out.other (grown_set wr N k (.bool (gl wd s m (k + 1)))) (by simpa using Ne.symm hAN))
                have HB2 := Lib.hid (HBq.out.setCell (p := ⟨N, k, none⟩) hNs (.bool (gl wd s m (k + 1))))
                clear h42
                go_wp2_with fail
                go_roundw
                case rel => exact ⟨k, (k : Int) - 1, by go_num, rfl, by omega, HN2, HA2, HB2⟩
                case measure => (first | (simp [intOf]; omega) | simp [intOf])
            · obtain rfl : k = s.length := by omega
              have d1 : decide (s.length < s.length) = false := decide_eq_false hk2
              have d2 : decide ((s.length : Int) < (s.length : Int)) = false := decide_eq_false (by omega)
              cases hF : gl wd s (m + 1) s.length with
              | true =>
                rw [hF] at a1
                have HN2 := Lib.hid ((HN.out.set s.length true).congr fun y _ => gj_set (m := m) (v := true) (by rw [gl_star_end hm h42, hF]) y)
                have HA2 := Lib.hid (HA.out.other (grown_set wr N s.length (.bool true)) (by simpa using Ne.symm hAN))
                have HB2 := Lib.hid (HBq.out.setCell (p := ⟨N, s.length, none⟩) hNs (.bool true))
                clear h42
                go_wp2_with fail
                go_roundw
                case rel => exact ⟨s.length, (s.length : Int) - 1, by go_num, rfl, by omega, HN2, HA2, HB2⟩
                case measure => (first | (simp [intOf]; omega) | simp [intOf])
              | false =>
                rw [hF] at a1
                have HN2 := Lib.hid ((HN.out.set s.length false).congr fun y _ => gj_set (m := m) (v := false) (by rw [gl_star_end hm h42, hF]) y)
                have HA2 := Lib.hid (HA.out.other (grown_set wr N s.length (.bool false)) (by simpa using Ne.symm hAN))
                have HB2 := Lib.hid (HBq.out.setCell (p := ⟨N, s.length, none⟩) hNs (.bool false))
                clear h42
                go_wp2_with fail
                go_roundw
                case rel => exact ⟨s.length, (s.length : Int) - 1, by go_num, rfl, by omega, HN2, HA2, HB2⟩
                case measure => (first | (simp [intOf]; omega) | simp [intOf])
          · have c1 : ((wd[m].toNat : Int) == 42) = false := byte_ne (d := 42) h42
            have c2 : ¬ (wd[m].toNat : Int) = 42 := byte_neP (d := 42) h42
            by_cases hk2 : k < s.length
            · obtain ⟨a4, a5, a6⟩ := HA.out.cell (k := k + 1) (by omega)
              have d1 : decide (k < s.length) = true := decide_eq_true hk2
              have d2 : decide ((k : Int) < (s.length : Int)) = true := decide_eq_true (by omega)
              by_cases h63 : wd[m] = 63
              · have c3 : ((wd[m].toNat : Int) == 63) = true := by rw [h63]; rfl
                have c4 : (wd[m].toNat : Int) = 63 := by rw [h63]; rfl
                have HN2 : Hid (∀ n, Rw N (s.length + 1) (gj wd s m k) ((wr.drewN n).setCell ⟨N, k, none⟩ (.bool (gl wd s (m + 1) (k + 1))))) := Lib.hid fun n => ((HN.out.drewN n).set k (gl wd s (m + 1) (k + 1))).congr fun y _ => gj_set (m := m) (v := (gl wd s (m + 1) (k + 1))) ((gl_lit hm h42 hk2 (.inl h63)).symm) y
                have HA2 : Hid (∀ n, Rw A (s.length + 1) (gl wd s (m + 1)) ((wr.drewN n).setCell ⟨N, k, none⟩ (.bool (gl wd s (m + 1) (k + 1))))) := Lib.hid fun n => (HA.out.drewN n).other (grown_set _ N k (.bool (gl wd s (m + 1) (k + 1)))) (by simpa using Ne.symm hAN)
                have HB2 : Hid (∀ n, Below w.heap.size w ((wr.drewN n).setCell ⟨N, k, none⟩ (.bool (gl wd s (m + 1) (k + 1))))) := Lib.hid fun n => (below_drewN HBq.out n).setCell (p := ⟨N, k, none⟩) hNs (.bool (gl wd s (m + 1) (k + 1)))
                clear h42 h63 c2
                go_wp2_with fail
                go_quiet (fail)
                go_wp2_with fail
                go_roundw
                case rel => exact ⟨k, (k : Int) - 1, by go_num, rfl, by omega, Lib.hid (HN2.out _), Lib.hid (HA2.out _), Lib.hid (HB2.out _)⟩
                case measure => (first | (simp [intOf]; omega) | simp [intOf])
              · have c3 : ((wd[m].toNat : Int) == 63) = false := byte_ne (d := 63) h63
                have c4 : ¬ (wd[m].toNat : Int) = 63 := byte_neP (d := 63) h63
                by_cases heq : wd[m] = s[k]
                · have c5 : ((wd[m].toNat : Int) == (s[k].toNat : Int)) = true := byte_eq heq
                  have c6 : (wd[m].toNat == s[k].toNat) = true := by rw [heq]; simp
                  have HN2 : Hid (∀ n, Rw N (s.length + 1) (gj wd s m k) ((wr.drewN n).setCell ⟨N, k, none⟩ (.bool (gl wd s (m + 1) (k + 1))))) := Lib.hid fun n => ((HN.out.drewN n).set k (gl wd s (m + 1) (k + 1))).congr fun y _ => gj_set (m := m) (v := (gl wd s (m + 1) (k + 1))) ((gl_lit hm h42 hk2 (.inr heq)).symm) y
                  have HA2 : Hid (∀ n, Rw A (s.length + 1) (gl wd s (m + 1)) ((wr.drewN n).setCell ⟨N, k, none⟩ (.bool (gl wd s (m + 1) (k + 1))))) := Lib.hid fun n => (HA.out.drewN n).other (grown_set _ N k (.bool (gl wd s (m + 1) (k + 1)))) (by simpa using Ne.symm hAN)
                  have HB2 : Hid (∀ n, Below w.heap.size w ((wr.drewN n).setCell ⟨N, k, none⟩ (.bool (gl wd s (m + 1) (k + 1))))) := Lib.hid fun n => (below_drewN HBq.out n).setCell (p := ⟨N, k, none⟩) hNs (.bool (gl wd s (m + 1) (k + 1)))
                  clear h42 h63 heq
                  go_wp2_with fail
                  go_quiet (fail)
                  go_wp2_with fail
                  go_roundw
                  case rel => exact ⟨k, (k : Int) - 1, by go_num, rfl, by omega, Lib.hid (HN2.out _), Lib.hid (HA2.out _), Lib.hid (HB2.out _)⟩
                  case measure => (first | (simp [intOf]; omega) | simp [intOf])
                · have c5 : ((wd[m].toNat : Int) == (s[k].toNat : Int)) = false := byte_ne heq
                  have c6 : (wd[m].toNat == s[k].toNat) = false := byte_neN heq
                  have HN2 : Hid (∀ n, Rw N (s.length + 1) (gj wd s m k) (wr.drewN n)) := Lib.hid fun n => (HN.out.drewN n).congr fun y _ => gj_skip (m := m) (gl_no hm h42 hk2 (fun h => h.elim h63 heq)) y
                  have HA2 : Hid (∀ n, Rw A (s.length + 1) (gl wd s (m + 1)) (wr.drewN n)) := Lib.hid fun n => HA.out.drewN n
                  have HB2 : Hid (∀ n, Below w.heap.size w (wr.drewN n)) := Lib.hid fun n => below_drewN HBq.out n
                  clear h42 h63 heq
                  go_wp2_with fail
                  go_quiet (fail)
                  go_wp2_with fail
                  go_roundw
                  case rel => exact ⟨k, (k : Int) - 1, by go_num, rfl, by omega, Lib.hid (HN2.out _), Lib.hid (HA2.out _), Lib.hid (HB2.out _)⟩
                  case measure => (first | (simp [intOf]; omega) | simp [intOf])
            · obtain rfl : k = s.length := by omega
              have d1 : decide (s.length < s.length) = false := decide_eq_false hk2
              have d2 : decide ((s.length : Int) < (s.length : Int)) = false := decide_eq_false (by omega)
              have HN2 : Hid (∀ n, Rw N (s.length + 1) (gj wd s m s.length) (wr.drewN n)) := Lib.hid fun n => (HN.out.drewN n).congr fun y _ => gj_skip (m := m) (gl_no_end hm h42) y
              have HA2 : Hid (∀ n, Rw A (s.length + 1) (gl wd s (m + 1)) (wr.drewN n)) := Lib.hid fun n => HA.out.drewN n
              have HB2 : Hid (∀ n, Below w.heap.size w (wr.drewN n)) := Lib.hid fun n => below_drewN HBq.out n
              clear h42
              go_wp2_with fail
              go_quiet (fail)
              go_wp2_with fail
              go_roundw
              case rel => exact ⟨s.length, (s.length : Int) - 1, by go_num, rfl, by omega, Lib.hid (HN2.out _), Lib.hid (HA2.out _), Lib.hid (HB2.out _)⟩
              case measure => (first | (simp [intOf]; omega) | simp [intOf])
end Go.Proofs.YtopamnfelngkcaaDoor
