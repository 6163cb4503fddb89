/-
  Layer 16, plain: bytes of bits. No program is named here, no condition.
-/
import Derived.Test.YtopamnfelngkcaaP4
namespace Go.Bl
set_option linter.unusedVariables false
def valB (f : Nat → Bool) : Nat → Nat
  | 0 => 0
  | t + 1 => 2 * valB f t + (if f (7 - t) then 1 else 0)
theorem valB_lt (f : Nat → Bool) : ∀ t, valB f t < 2 ^ t
  | 0 => by simp [valB]
  | t + 1 => by
    have := valB_lt f t
    simp only [valB, Nat.pow_succ]
    split <;> omega
theorem valB_le (f : Nat → Bool) {t : Nat} (h : t ≤ 8) : valB f t < 256 := Nat.lt_of_lt_of_le (valB_lt f t) (Nat.pow_le_pow_right (n := 2) (by omega) h)
theorem bits8 : ∀ a b c d e f g h : Bool, ∀ k : Fin 8,
    (2 * (2 * (2 * (2 * (2 * (2 * (2 * (2 * 0 + (if a then 1 else 0)) + (if b then 1 else 0)) + (if c then 1 else 0)) + (if d then 1 else 0)) + (if e then 1 else 0)) + (if f then 1 else 0)) + (if g then 1 else 0)) + (if h then 1 else 0)).testBit k.val
      = (match k with | 0 => h | 1 => g | 2 => f | 3 => e | 4 => d | 5 => c | 6 => b | 7 => a) := by decide +kernel
theorem valB_bit (f : Nat → Bool) {k : Nat} (hk : k < 8) : (valB f 8).testBit k = f k := by
  have := bits8 (f 7) (f 6) (f 5) (f 4) (f 3) (f 2) (f 1) (f 0) ⟨k, hk⟩
  have e : valB f 8 = 2 * (2 * (2 * (2 * (2 * (2 * (2 * (2 * 0 + (if f 7 then 1 else 0)) + (if f 6 then 1 else 0)) + (if f 5 then 1 else 0)) + (if f 4 then 1 else 0)) + (if f 3 then 1 else 0)) + (if f 2 then 1 else 0)) + (if f 1 then 1 else 0)) + (if f 0 then 1 else 0) := rfl
  rw [e, this]
  match k, hk with
  | 0, _ => rfl
  | 1, _ => rfl
  | 2, _ => rfl
  | 3, _ => rfl
  | 4, _ => rfl
  | 5, _ => rfl
  | 6, _ => rfl
  | 7, _ => rfl
/-- the b-th byte of bits -/
def byB (g : List Bool) (b : Nat) : UInt8 := UInt8.ofNat (valB (fun k => g.getD (8 * b + k) false) 8)
theorem byB_toNat (g : List Bool) (b : Nat) : (byB g b).toNat = valB (fun k => g.getD (8 * b + k) false) 8 := by
  unfold byB
  rw [UInt8.toNat_ofNat']
  exact Nat.mod_eq_of_lt (valB_le _ (Nat.le_refl 8))
def fB (g : List Bool) (n : Nat) : List UInt8 := (List.range n).map (byB g)
theorem fB_len (g : List Bool) (n : Nat) : (fB g n).length = n := by simp [fB]
theorem fB_succ (g : List Bool) (n : Nat) : fB g (n + 1) = fB g n ++ [byB g n] := by simp [fB, List.range_succ]
theorem fB_bit {g : List Bool} {n p : Nat} (hp : p < 8 * n) : bitF (fB g n) p = g.getD p false := by
  unfold bitF fB
  rw [List.getD_eq_getElem?_getD, List.getElem?_map, List.getElem?_range (by omega)]
  show bitN (byB g (p / 8)) (p % 8) = _
  unfold bitN
  rw [byB_toNat, valB_bit _ (Nat.mod_lt _ (by omega))]
  congr 1
  omega
end Go.Bl
