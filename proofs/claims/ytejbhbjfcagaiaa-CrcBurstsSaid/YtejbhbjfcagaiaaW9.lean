/-
  Walks of CRC-32: the reference's Burst, and Same. No condition.
-/
import Derived.Test.YtejbhbjfcagaiaaW8
namespace Go.Proofs.Ytejbhbjfcagaiaa
open Go.RowKit Go.Sl Go.Bv

set_option maxHeartbeats 1000000 in
theorem rburst_no (v : Value) (l : List UInt8) (n : Int) (turn : BitVec 32) (w : World) (hv : Sl eByte 1 w v l) (hno : n < 0 ∨ 8 * (l.length : Int) < n + 32) (hn : n ≤ 9223372036854775807) :
    Calls Try.prog 13 #[v, .int .i64 n, .int .u32 (u32 turn)] w fun e w' => e = .returned (.tuple #[.slice none 0 0, .bool false]) ∧ w = w' := by
  have hlen := hv.run_len (P := Try.prog) Try.underlying24
  have hmax := hv.len_le
  by_cases h0 : n < 0
  · clear hno
    go_enter Try.func13, Try.ntmps13
    go_wp2_with fail
    go_ret2
    exact ⟨rfl, rfl⟩
  · obtain ⟨a, rfl⟩ := Int.eq_ofNat_of_zero_le (show 0 ≤ n by omega)
    obtain ⟨q, HQ⟩ : ∃ q : Nat, Hid (q = a / 8) := ⟨_, Lib.hid rfl⟩
    obtain ⟨r, HR⟩ : ∃ r : Nat, Hid (r = a % 8) := ⟨_, Lib.hid rfl⟩
    have hq : (a : Int).tdiv 8 = q := by rw [HQ.out]; rfl
    have hr : (a : Int).tmod 8 = r := by rw [HR.out]; rfl
    have hb : q * 8 + r = a := by rw [HQ.out, HR.out]; omega
    have hr8 : r < 8 := by rw [HR.out]; omega
    have hq5 : q ≤ 1152921504606846975 := by rw [HQ.out]; omega
    clear hn hmax
    by_cases h1 : (l.length : Int) ≤ q
    · clear hno
      go_enter Try.func13, Try.ntmps13
      go_wp2_with fail
      all_goals try (exfalso; omega)
      go_ret2
      exact ⟨rfl, rfl⟩
    · have h2 : 8 * ((l.length : Int) - q) - r < 32 := by omega
      clear hno
      go_enter Try.func13, Try.ntmps13
      go_wp2_with fail
      all_goals try (exfalso; omega)
      go_ret2
      exact ⟨rfl, rfl⟩

theorem u32_odd (t : BitVec 32) (k : Nat) (b : Bool) (h : t.getLsbD k = b) : (u32 (t >>> k) % 2 == 1) = b := by
  rw [mod2_eq, BitVec.getLsbD_ushiftRight, Nat.add_zero, h]
theorem u32_half (t : BitVec 32) (k : Nat) : (u32 (t >>> k)).tdiv 2 % 4294967296 = u32 (t >>> (k + 1)) := by
  rw [tdiv2, shr1, BitVec.shiftRight_add]
theorem turned_set (l : List UInt8) (a : Nat) (turn : BitVec 32) (k : Nat) {p s : Nat} (hp : p = (a + k) / 8) (hs : s = (a + k) % 8) (h : p < (turned l a turn k).length) (ht : turn.getLsbD k = true) :
    ∃ b : UInt8, bits .xor .u8 (((turned l a turn k)[p].toNat : Nat) : Int) (2 ^ s) = ((b.toNat : Nat) : Int) ∧ (turned l a turn k).set p b = turned l a turn (k + 1) := by
  obtain ⟨b, h1, h2⟩ := turn_bit l a turn k hp hs h
  refine ⟨b, ?_, h2⟩
  rw [← h1, and_bit, if_pos ht]
  have hs8 : s < 8 := by omega
  have : ∀ r : Fin 8, (1 * 2 ^ r.val % 256 : Int) = 2 ^ r.val := by decide
  rw [this ⟨s, hs8⟩]
theorem turned_keep (l : List UInt8) (a : Nat) (turn : BitVec 32) (k : Nat) (ht : turn.getLsbD k = false) : turned l a turn (k + 1) = turned l a turn k := by
  rw [turned, ht]; rfl
theorem pow_wrap (j : Nat) (h : j < 7) : (2 ^ j * 2 % 256 : Int) = 2 ^ (j + 1) := by
  have : ∀ r : Fin 7, (2 ^ r.val * 2 % 256 : Int) = 2 ^ (r.val + 1) := by decide
  exact this ⟨j, h⟩

set_option maxHeartbeats 2000000 in
theorem rburst_yes (v : Value) (l : List UInt8) (a : Nat) (turn : BitVec 32) (w : World) (hv : Sl eByte 1 w v l) (hyes : a + 32 ≤ 8 * l.length) (hmx : l.length ≤ 2000) :
    Calls Try.prog 13 #[v, .int .i64 a, .int .u32 (u32 turn)] w fun e w' => ∃ r, e = .returned (.tuple #[r, .bool true]) ∧ Own eByte 1 w.heap.size 5 w' r (turned l a turn 32) ∧ Below w.heap.size w w' := by
  have hlen := hv.run_len (P := Try.prog) Try.underlying24
  have hmax := hv.len_le
  obtain ⟨q, HQ⟩ : ∃ q : Nat, Hid (q = a / 8) := ⟨_, Lib.hid rfl⟩
  obtain ⟨r, HR⟩ : ∃ r : Nat, Hid (r = a % 8) := ⟨_, Lib.hid rfl⟩
  have hq : (a : Int).tdiv 8 = q := by rw [HQ.out]; rfl
  have hr : (a : Int).tmod 8 = r := by rw [HR.out]; rfl
  have hb : q * 8 + r = a := by rw [HQ.out, HR.out]; omega
  have hr8 : r < 8 := by rw [HR.out]; omega
  go_enter Try.func13, Try.ntmps13
  go_wp2_with (at_builtin; go_must (refine wpList_append rfl _ _ _ rfl (.int .u8 0) 1 Try.underlying24 info5 rfl (by omega) len_eByte one_eByte _ _ _ _ rfl (Own.nil eByte 1 w.heap.size 5 _) rfl hv (by simp only [maxLen, List.length_nil]; omega) (by simp only [List.length_nil]; omega) (Nat.le_refl _) ?_; intro v' w1 hown1 _ hb1))
  all_goals try (exfalso; omega)
  rw [List.nil_append] at hown1
  go_loopw [2, 9] (fun t i wr => ∃ (k : Nat), k ≤ 32 ∧ i = .int .i64 k ∧ t = .int .u32 (u32 (turn >>> k)) ∧ Own eByte 1 w.heap.size 5 wr v' (turned l a turn k) ∧ Below w.heap.size w wr) (fun _ i _ => 32 - (intOf i).toNat)
  case atStart => exact ⟨0, by omega, rfl, by simp, hown1, hb1⟩
  case round =>
    obtain ⟨k, hk, rfl, rfl, hown, hbel⟩ := hrel
    clear hq hr hb hr8
    have hr0 := (u32_lt (turn >>> k)).1
    by_cases hlt : k < 32
    · cases hbit : turn.getLsbD k
      · have hm := u32_odd turn k false hbit
        have HB := Lib.hid hbit
        clear hbit
        go_wp2_with fail
        go_roundw
        case rel => exact ⟨k + 1, by omega, by go_num, by rw [u32_half], by rw [turned_keep _ _ _ _ HB.out]; exact hown, hbel⟩
        case measure => simp [intOf]; omega
      · have hm := u32_odd turn k true hbit
        have HB := Lib.hid hbit
        clear hbit
        obtain ⟨p, HP⟩ : ∃ p : Nat, Hid (p = (a + k) / 8) := ⟨_, Lib.hid rfl⟩
        obtain ⟨s, HS⟩ : ∃ s : Nat, Hid (s = (a + k) % 8) := ⟨_, Lib.hid rfl⟩
        have hp : ((a : Int) + k).tdiv 8 = p := by rw [HP.out]; rfl
        have hs : ((a : Int) + k).tmod 8 = s := by rw [HS.out]; rfl
        have hpl : p < (turned l a turn k).length := by rw [turned_len, HP.out]; omega
        have hpb : p < 2000 := by rw [HP.out]; omega
        have hsb : s < 8 := by rw [HS.out]; omega
        obtain ⟨ad, hix, hcell, hfro, hset⟩ := own_elem hown hpl
        go_wp2_with fail
        go_loopw [11, 12] (fun b j wr2 => ∃ (i : Nat), i ≤ s ∧ j = .int .i64 i ∧ b = .int .u8 (2 ^ i) ∧ wr2 = wr) (fun _ j _ => s - (intOf j).toNat)
        case atStart => exact ⟨0, by omega, rfl, rfl, rfl⟩
        case round =>
          obtain ⟨i, hi, rfl, rfl, rfl⟩ := hrel
          by_cases hlt2 : i < s
          · go_wp2_with fail
            go_roundw
            case rel => exact ⟨i + 1, by omega, by go_num, by rw [pow_wrap i (by omega)], trivial⟩
            case measure => simp [intOf]; omega
          · obtain rfl : i = s := by omega
            go_wp2_with fail
            go_roundw
            case rel =>
              obtain ⟨b, h1, h2⟩ := turned_set l a turn k HP.out HS.out hpl HB.out
              rw [h1]
              refine ⟨k + 1, by omega, by go_num, by rw [u32_half], ?_, hbel.trans (hset b).2⟩
              rw [← h2]; exact (hset b).1
            case measure => simp [intOf]; omega
    · obtain rfl : k = 32 := by omega
      go_wp2_with fail
      go_ret2
      exact ⟨v', rfl, hown, hbel⟩
end Go.Proofs.Ytejbhbjfcagaiaa
