/-
  Walks of layer 21: the reference's Check. No condition.
-/
import Derived.Test.YtdlmdjhnigbfpaaW4
namespace Go.Proofs.Ytdlmdjhnigbfpaa
open Go.RowKit Go.Sl Go.Scr

/-- the pair ahead of place k -/
structure Prev (l : List (Int × Int)) (k : Nat) (a b : Int) : Prop where
  lo : -1 ≤ a ∧ -1 ≤ b
  zero : k = 0 → a = -1 ∧ b = -1
  succ : ∀ j (h : j < l.length), k = j + 1 → l[j] = (a, b)

set_option maxHeartbeats 1000000 in
theorem rcheck_any (n m : Int) (v : Value) (l : List (Int × Int)) (w : World) (hv : Sl ePair 2 w v l) :
    Calls Try.prog 12 #[.int .i64 n, .int .i64 m, v] w fun e w' => e = .returned (.int .i64 (chk n m l)) ∧ Below w.heap.size w w' := by
  have hlen := hv.run_len (P := Try.prog) Try.underlying23
  have hmax := hv.len_le
  cases hs : sz n m with
  | false =>
    have hz : ∀ u, Calls Try.prog 28 #[.int .i64 n, .int .i64 m] u fun e w' => e = .returned (.bool false) ∧ u = w' := fun u => hs ▸ rsizes_any n m u
    have HZ := Lib.hid hz
    clear hz
    go_enter Try.func12, Try.ntmps12
    go_wp2_with (go_at_call 28; go_must (refine (HZ.out _).mono ?_; rintro e w' ⟨rfl, rfl⟩))
    go_ret
    exact ⟨ret_int (by simp [chk, hs]), Below.refl _ _⟩
  | true =>
    have hz : ∀ u, Calls Try.prog 28 #[.int .i64 n, .int .i64 m] u fun e w' => e = .returned (.bool true) ∧ u = w' := fun u => hs ▸ rsizes_any n m u
    have HZ := Lib.hid hz
    have HS := Lib.hid hs
    clear hz hs
    go_enter Try.func12, Try.ntmps12
    go_wp2_with (go_at_call 28; go_must (refine (HZ.out _).mono ?_; rintro e w' ⟨rfl, rfl⟩))
    go_loopw [7] (fun i wr => ∃ (k : Nat) (a b : Int), k ≤ l.length ∧ i = .int .i64 k ∧ Hid (okF n m (-1) (-1) l = okF n m a b (l.drop k)) ∧ Hid (Prev l k a b) ∧ Hid (Below w.heap.size w wr)) (fun i _ => l.length - (intOf i).toNat)
    case atStart => exact ⟨0, -1, -1, by omega, rfl, Lib.hid rfl, Lib.hid ⟨by omega, fun _ => ⟨rfl, rfl⟩, fun j _ h => by omega⟩, Lib.hid (Below.refl _ _)⟩
    case round =>
      obtain ⟨k, a, b, hk, rfl, H2, HP, HB⟩ := hrel
      by_cases hlt : k < l.length
      · obtain ⟨b0, o, hb0, hix, hc⟩ := (hv.ext HB.out).at (P := Try.prog) Try.underlying23 cells31 some31 hlt
        have hc0 := hc 0 (by omega)
        have hc1 := hc 1 (by omega)
        simp only [ePair, List.getElem?_cons_zero, List.getElem?_cons_succ, Nat.add_zero] at hc0 hc1
        obtain ⟨x, y, hxy⟩ : ∃ x y, l[k] = (x, y) := ⟨_, _, rfl⟩
        rw [hxy] at hc0 hc1
        have HX := Lib.hid hxy
        have hlo := HP.out.lo
        clear hxy hc
        have hno : x < 0 ∨ n ≤ x ∨ y < 0 ∨ m ≤ y → chk n m l = 12 := fun h => by
          rw [chk, if_pos HS.out, H2.out, drop_at l hlt, HX.out, okF, if_pos (show x ≤ a ∨ y ≤ b ∨ n ≤ x ∨ m ≤ y by omega)]; rfl
        have HNo := Lib.hid hno
        clear hno
        by_cases h1 : x < 0 ∨ n ≤ x ∨ y < 0 ∨ m ≤ y
        · go_wp2_with fail
          all_goals
            go_ret
            exact ⟨ret_int (HNo.out h1).symm, HB.out⟩
        · have h1x : 0 ≤ x := by omega
          have h1n : x < n := by omega
          have h1y : 0 ≤ y := by omega
          have h1m : y < m := by omega
          clear h1
          by_cases hk0 : k = 0
          · have hz := HP.out.zero hk0
            have HZ0 := Lib.hid hz
            clear hz
            subst hk0
            have hix0 : ∀ (u : World), (Instr.indexAt 23 v (.int .i64 0)).run Try.prog u = .ok (.pointer (some ⟨b0, o, none⟩)) u := fun u => hix .i64 u
            have hz := HP.out.zero rfl
            obtain ⟨rfl, rfl⟩ := hz
            go_wp2_with fail
            go_quiet (fail)
            go_wp2_with fail
            go_roundw
            case rel => exact ⟨0 + 1, x, y, by omega, by go_num, Lib.hid (by rw [H2.out, drop_at l hlt, HX.out, okF, if_neg (show ¬ (x ≤ -1 ∨ y ≤ -1 ∨ n ≤ x ∨ m ≤ y) by omega)]), Lib.hid ⟨by omega, fun h => by omega, fun i hi h => by obtain rfl : 0 = i := (by omega); exact HX.out⟩, Lib.hid (HB.out.trans (below_drewN' _ _ _))⟩
            case measure => simp [intOf]; omega
          · obtain ⟨j, hkj⟩ : ∃ j, k = j + 1 := ⟨k - 1, by omega⟩
            have hj : j < l.length := by omega
            have hpj := HP.out.succ j hj hkj
            obtain ⟨b2, o2, hb2, hix2, hd⟩ := (hv.ext HB.out).at (P := Try.prog) Try.underlying23 cells31 some31 hj
            have hd0 := hd 0 (by omega)
            have hd1 := hd 1 (by omega)
            simp only [ePair, List.getElem?_cons_zero, List.getElem?_cons_succ, Nat.add_zero] at hd0 hd1
            rw [hpj] at hd0 hd1
            have hix3 : ∀ (ik : IntKind) (u : World), (Instr.indexAt 23 v (.int ik ((k : Int) - 1))).run Try.prog u = .ok (.pointer (some ⟨b2, o2, none⟩)) u := fun ik u => by
              rw [show ((k : Int) - 1) = (j : Int) by omega]; exact hix2 ik u
            have hk1 : (0 : Int) < (k : Int) := by omega
            have hk2 : 0 < k := by omega
            clear hd hpj hix2 hkj hk0
            by_cases g1 : x ≤ a
            · have q1 : decide (x ≤ a) = true := decide_eq_true g1
              go_wp2_with fail
              go_quiet (fail)
              go_wp2_with fail
              go_ret
              exact ⟨ret_int (by rw [chk, if_pos HS.out, H2.out, drop_at l hlt, HX.out, okF, if_pos (show x ≤ a ∨ y ≤ b ∨ n ≤ x ∨ m ≤ y by omega)]; try rfl), HB.out.trans (below_drewN' _ _ _)⟩
            · have q1 : decide (x ≤ a) = false := decide_eq_false g1
              by_cases g2 : y ≤ b
              · have q2 : decide (y ≤ b) = true := decide_eq_true g2
                go_wp2_with fail
                go_quiet (fail)
                go_wp2_with fail
                go_ret
                exact ⟨ret_int (by rw [chk, if_pos HS.out, H2.out, drop_at l hlt, HX.out, okF, if_pos (show x ≤ a ∨ y ≤ b ∨ n ≤ x ∨ m ≤ y by omega)]; try rfl), HB.out.trans (below_drewN' _ _ _)⟩
              · have q2 : decide (y ≤ b) = false := decide_eq_false g2
                go_wp2_with fail
                go_quiet (fail)
                go_wp2_with fail
                go_roundw
                case rel => exact ⟨k + 1, x, y, by omega, by go_num, Lib.hid (by rw [H2.out, drop_at l hlt, HX.out, okF, if_neg (show ¬ (x ≤ a ∨ y ≤ b ∨ n ≤ x ∨ m ≤ y) by omega)]), Lib.hid ⟨by omega, fun h => by omega, fun i hi h => by obtain rfl : k = i := (by omega); exact HX.out⟩, Lib.hid (HB.out.trans (below_drewN' _ _ _))⟩
                case measure => simp [intOf]; omega
      · go_wp2_with fail
        go_ret
        exact ⟨ret_int (by rw [chk, if_pos HS.out, H2.out, List.drop_eq_nil_of_le (by omega), okF]; try rfl), HB.out⟩
end Go.Proofs.Ytdlmdjhnigbfpaa
