/-
  Numbers below 128 as two numbers of 64 bits. No program is named here, no condition.
-/
import Derived.WalkKit
import Derived.Test.YtcpmnocknpalfaaPop
namespace Go.B64
open Go.Pop Go.Lib

/-- a uint64 as a value -/
def u64 (c : BitVec 64) : Int := (c.toNat : Int)
theorem u64_lt (c : BitVec 64) : 0 ≤ u64 c ∧ u64 c < 18446744073709551616 := by have := c.isLt; unfold u64; omega
theorem ofInt_u64 (c : BitVec 64) : BitVec.ofInt 64 (u64 c) = c := by unfold u64; rw [BitVec.ofInt_natCast]; simp
theorem wrap_u64 (c : BitVec 64) : IntKind.u64.wrap (c.toNat : Int) = u64 c := by
  have := c.isLt; rw [IntKind.wrap_u64]; unfold u64; omega
theorem bor (a b : BitVec 64) : bits .or .u64 (u64 a) (u64 b) = u64 (a ||| b) := by
  show IntKind.u64.wrap (((BitVec.ofInt 64 (u64 a) ||| BitVec.ofInt 64 (u64 b)).toNat : Nat) : Int) = _
  rw [ofInt_u64, ofInt_u64, wrap_u64]
theorem band (a b : BitVec 64) : bits .and .u64 (u64 a) (u64 b) = u64 (a &&& b) := by
  show IntKind.u64.wrap (((BitVec.ofInt 64 (u64 a) &&& BitVec.ofInt 64 (u64 b)).toNat : Nat) : Int) = _
  rw [ofInt_u64, ofInt_u64, wrap_u64]
theorem bless (a b : BitVec 64) : bits .andNot .u64 (u64 a) (u64 b) = u64 (a &&& ~~~ b) := by
  show IntKind.u64.wrap (((BitVec.ofInt 64 (u64 a) &&& ~~~ BitVec.ofInt 64 (u64 b)).toNat : Nat) : Int) = _
  rw [ofInt_u64, ofInt_u64, wrap_u64]
theorem u64_inj {a b : BitVec 64} (h : u64 a = u64 b) : a = b := by
  unfold u64 at h
  exact BitVec.eq_of_toNat_eq (by omega)

abbrev S := BitVec 128
def mem (s : S) (n : Nat) : Bool := s.getLsbD n
def wd (s : S) (j : Nat) : BitVec 64 := s.extractLsb' (64 * j) 64
def one (n : Nat) : S := BitVec.twoPow 128 n
theorem wd_bit (s : S) (j i : Nat) : (wd s j).getLsbD i = (decide (i < 64) && mem s (64 * j + i)) := by
  simp [wd, mem, BitVec.getLsbD_extractLsb']
theorem mem_ge (s : S) {n : Nat} (h : 128 ≤ n) : mem s n = false := BitVec.getLsbD_of_ge _ _ h
theorem ext {a b : S} (h : ∀ n, n < 128 → mem a n = mem b n) : a = b := BitVec.eq_of_getLsbD_eq h
theorem mem_or (a b : S) (n : Nat) : mem (a ||| b) n = (mem a n || mem b n) := by simp [mem]
theorem mem_and (a b : S) (n : Nat) : mem (a &&& b) n = (mem a n && mem b n) := by simp [mem]
theorem mem_less (a b : S) (n : Nat) : mem (a &&& ~~~ b) n = (mem a n && !mem b n) := by
  unfold mem
  rw [BitVec.getLsbD_and, BitVec.getLsbD_not]
  by_cases h : n < 128
  · simp [h]
  · rw [BitVec.getLsbD_of_ge _ _ (by omega)]; simp
theorem mem_one {m : Nat} (hm : m < 128) (n : Nat) : mem (one m) n = decide (n = m) := by
  unfold mem one
  rw [BitVec.getLsbD_twoPow]
  by_cases e : n = m
  · subst e; simp [hm]
  · simp [e]; omega
theorem mem_zero (n : Nat) : mem 0 n = false := by simp [mem]
theorem wd_or (a b : S) (j : Nat) : wd (a ||| b) j = wd a j ||| wd b j := by
  apply BitVec.eq_of_getLsbD_eq
  intro i hi
  rw [BitVec.getLsbD_or, wd_bit, wd_bit, wd_bit, mem_or]; simp [hi]
theorem wd_and (a b : S) (j : Nat) : wd (a &&& b) j = wd a j &&& wd b j := by
  apply BitVec.eq_of_getLsbD_eq
  intro i hi
  rw [BitVec.getLsbD_and, wd_bit, wd_bit, wd_bit, mem_and]; simp [hi]
theorem wd_less (a b : S) (j : Nat) : wd (a &&& ~~~ b) j = wd a j &&& ~~~ wd b j := by
  apply BitVec.eq_of_getLsbD_eq
  intro i hi
  rw [BitVec.getLsbD_and, BitVec.getLsbD_not, wd_bit, wd_bit, wd_bit, mem_less]; simp [hi]
theorem wd_zero (j : Nat) : wd 0 j = 0 := by
  apply BitVec.eq_of_getLsbD_eq
  intro i hi
  rw [wd_bit, mem_zero]; simp
theorem wd_one {n : Nat} (hn : n < 128) {j : Nat} (_hj : j < 2) : wd (one n) j = if n / 64 = j then BitVec.twoPow 64 (n % 64) else 0 := by
  apply BitVec.eq_of_getLsbD_eq
  intro i hi
  rw [wd_bit, mem_one hn]
  by_cases e : n / 64 = j
  · rw [if_pos e, BitVec.getLsbD_twoPow, Bool.eq_iff_iff]
    simp [hi]; omega
  · rw [if_neg e]
    simp; omega
theorem wd_with_same {n : Nat} (hn : n < 128) (s : S) : wd (s ||| one n) (n / 64) = wd s (n / 64) ||| BitVec.twoPow 64 (n % 64) := by
  rw [wd_or, wd_one hn (by omega), if_pos rfl]
theorem wd_with_other {n j : Nat} (hn : n < 128) (hj : j < 2) (h : n / 64 ≠ j) (s : S) : wd (s ||| one n) j = wd s j := by
  rw [wd_or, wd_one hn hj, if_neg h]; simp
theorem eq_zero {s : S} : s = 0 ↔ wd s 0 = 0 ∧ wd s 1 = 0 := by
  constructor
  · rintro rfl; exact ⟨wd_zero _, wd_zero _⟩
  · rintro ⟨h0, h1⟩
    apply ext
    intro n hn
    rw [mem_zero]
    by_cases h : n < 64
    · have := congrArg (fun x => x.getLsbD n) h0
      simp only [wd_bit] at this
      rw [show 64 * 0 + n = n by omega, decide_eq_true h] at this
      simpa using this
    · have := congrArg (fun x => x.getLsbD (n - 64)) h1
      simp only [wd_bit] at this
      rw [show 64 * 1 + (n - 64) = n by omega, decide_eq_true (show n - 64 < 64 by omega)] at this
      simpa using this

/-- how many there are -/
def cnt (s : S) : Nat := ((List.range 128).filter (mem s)).length
theorem cnt_eq (s : S) : onesCount (wd s 0).toNat + onesCount (wd s 1).toNat = cnt s := by
  unfold onesCount cnt
  rw [pop_bits, pop_bits, show (128 : Nat) = 64 + 64 from rfl, List.range_add, List.filter_append, List.length_append]
  congr 1
  · congr 1
    apply List.filter_congr
    intro i hi
    have hi := List.mem_range.1 hi
    have := wd_bit s 0 i
    rw [BitVec.getLsbD] at this
    rw [this]; simp [hi]
  · rw [List.filter_map, List.length_map]
    congr 1
    apply List.filter_congr
    intro i hi
    have hi := List.mem_range.1 hi
    have := wd_bit s 1 i
    rw [BitVec.getLsbD] at this
    rw [this]; simp [hi]
theorem cnt_le (s : S) : cnt s ≤ 128 := by
  unfold cnt
  have := List.length_filter_le (mem s) (List.range 128)
  simpa using this

/-- a set out of what is in it -/
def setOf (f : Nat → Bool) : Nat → S
  | 0 => 0
  | k + 1 => if f k then setOf f k ||| one k else setOf f k
theorem mem_setOf (f : Nat → Bool) : ∀ k, k ≤ 128 → ∀ n, mem (setOf f k) n = (decide (n < k) && f n)
  | 0, _, n => by rw [show setOf f 0 = 0 from rfl, mem_zero]; simp
  | k + 1, h, n => by
    unfold setOf
    by_cases e : n = k
    · subst e
      cases hf : f n
      · rw [if_neg (by simp), mem_setOf f n (by omega)]; simp
      · rw [if_pos rfl, mem_or, mem_one (by omega)]; simp
    · have hl : decide (n < k + 1) = decide (n < k) := by rw [Bool.eq_iff_iff]; simp; omega
      rw [hl]
      split
      · rw [mem_or, mem_setOf f k (by omega), mem_one (by omega)]; simp [e]
      · rw [mem_setOf f k (by omega)]

/-- a bit, as the program reads it -/
theorem bit_walk (c : BitVec 64) (k : Nat) : bits .and .u64 (u64 (c >>> k)) 1 = if c.getLsbD k then 1 else 0 := by
  have h1 : (1 : Int) = u64 1 := rfl
  rw [h1, band]
  have : c >>> k &&& 1 = if c.getLsbD k then (1 : BitVec 64) else 0 := by
    apply BitVec.eq_of_getLsbD_eq
    intro i hi
    rw [BitVec.getLsbD_and, BitVec.getLsbD_ushiftRight]
    by_cases e : i = 0
    · subst e; cases h : c.getLsbD k <;> simp
    · have : (1 : BitVec 64).getLsbD i = false := by
        show (1#64).getLsbD i = false
        rw [BitVec.getLsbD_one]; simp [e]
      rw [this]
      split <;> simp [e]
  rw [this]
  split <;> rfl
theorem u64_shr (c : BitVec 64) (k : Nat) : u64 (c >>> k) = u64 c / 2 ^ k := by
  unfold u64; rw [BitVec.toNat_ushiftRight, Nat.shiftRight_eq_div_pow]; simp
theorem u64_two {k : Nat} (h : k < 64) : u64 (BitVec.twoPow 64 k) = 2 ^ k := by
  unfold u64
  rw [BitVec.toNat_twoPow, Nat.mod_eq_of_lt (Nat.pow_lt_pow_right (by omega) h)]
  simp
end Go.B64
