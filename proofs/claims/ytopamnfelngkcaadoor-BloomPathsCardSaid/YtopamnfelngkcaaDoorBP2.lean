/-
  Layer 16, plain: the bits of a filter. No program is named here, no condition.
-/
import Derived.Lib.BitFns
import Derived.Test.YtopamnfelngkcaaDoorBP1
namespace Go.Bl
set_option linter.unusedVariables false

def bitN (c : UInt8) (k : Nat) : Bool := c.toNat.testBit k
def bitF (f : List UInt8) (p : Nat) : Bool := bitN (f.getD (p / 8) 0) (p % 8)
theorem bit8 (c : UInt8) (k : Nat) : bits .and .u8 ((c.toNat : Int) / 2 ^ k) 1 = if bitN c k then 1 else 0 := by
  have e : (c.toNat : Int) / 2 ^ k = ((c.toNat / 2 ^ k : Nat) : Int) := by simp
  rw [e]
  show IntKind.u8.wrap (((BitVec.ofInt 8 ((c.toNat / 2 ^ k : Nat) : Int) &&& BitVec.ofInt 8 1).toNat : Nat) : Int) = _
  rw [BitVec.ofInt_natCast, BitVec.toNat_and, show (BitVec.ofInt 8 1).toNat = 1 from rfl, Nat.and_one_is_mod, BitVec.toNat_ofNat, IntKind.wrap_u8]
  unfold bitN
  rw [Nat.testBit_eq_decide_div_mod_eq]
  have h2 : c.toNat / 2 ^ k % 2 ^ 8 % 2 = c.toNat / 2 ^ k % 2 := by omega
  rw [h2]
  rcases Nat.mod_two_eq_zero_or_one (c.toNat / 2 ^ k) with h | h <;> rw [h] <;> rfl
theorem ones8 : ∀ n : Fin 256, Lib.onesCount n.val = ((List.range 8).filter (fun k => n.val.testBit k)).length := by decide +kernel
theorem ones_byte (c : UInt8) : Lib.onesCount c.toNat = ((List.range 8).filter (bitN c)).length := ones8 ⟨c.toNat, c.toNat_lt⟩
/-- how many bits are 1 -/
def cntF (f : List UInt8) (n : Nat) : Nat := ((List.range n).filter (bitF f)).length
theorem cntF_succ (f : List UInt8) (n : Nat) : cntF f (n + 1) = cntF f n + if bitF f n then 1 else 0 := by
  unfold cntF
  rw [List.range_succ, List.filter_append, List.length_append]
  congr 1
  cases h : bitF f n <;> simp [h]
theorem cntF_le (f : List UInt8) (n : Nat) : cntF f n ≤ n := by
  unfold cntF
  have := List.length_filter_le (bitF f) (List.range n)
  simpa using this
theorem cntF_byte (f : List UInt8) (k : Nat) : cntF f (8 * (k + 1)) = cntF f (8 * k) + Lib.onesCount (f.getD k 0).toNat := by
  rw [ones_byte]
  unfold cntF
  rw [show 8 * (k + 1) = 8 * k + 8 by omega, List.range_add, List.filter_append, List.length_append]
  congr 1
  rw [List.filter_map, List.length_map]
  congr 1
  apply List.filter_congr
  intro i hi
  have hi := List.mem_range.1 hi
  show bitF f (8 * k + i) = _
  unfold bitF
  rw [show (8 * k + i) / 8 = k by omega, show (8 * k + i) % 8 = i by omega]
end Go.Bl
