/-
  Layer 16, plain: bytes as a number; the hash. No program is named here, no condition.
-/
import Derived.WalkKit
import Derived.Test.YtopamnfelngkcaaDoorSl
namespace Go.Bl
set_option linter.unusedVariables false

/-- a uint32 as a value -/
def u32 (c : BitVec 32) : Int := (c.toNat : Int)
theorem u32_lt (c : BitVec 32) : 0 ≤ u32 c ∧ u32 c < 4294967296 := by have := c.isLt; unfold u32; omega
theorem ofInt_u32 (c : BitVec 32) : BitVec.ofInt 32 (u32 c) = c := by unfold u32; rw [BitVec.ofInt_natCast]; simp
theorem wrap_u32 (c : BitVec 32) : IntKind.u32.wrap (c.toNat : Int) = u32 c := by
  have := c.isLt; rw [IntKind.wrap_u32]; unfold u32; omega
theorem bxor (a b : BitVec 32) : bits .xor .u32 (u32 a) (u32 b) = u32 (a ^^^ b) := by
  show IntKind.u32.wrap (((BitVec.ofInt 32 (u32 a) ^^^ BitVec.ofInt 32 (u32 b)).toNat : Nat) : Int) = _
  rw [ofInt_u32, ofInt_u32, wrap_u32]
theorem bor (a b : BitVec 32) : bits .or .u32 (u32 a) (u32 b) = u32 (a ||| b) := by
  show IntKind.u32.wrap (((BitVec.ofInt 32 (u32 a) ||| BitVec.ofInt 32 (u32 b)).toNat : Nat) : Int) = _
  rw [ofInt_u32, ofInt_u32, wrap_u32]
theorem mulw (a b : BitVec 32) : (u32 a * u32 b) % 4294967296 = u32 (a * b) := by
  unfold u32; rw [BitVec.toNat_mul]; omega
theorem addw (a b : BitVec 32) : (u32 a + u32 b) % 4294967296 = u32 (a + b) := by
  unfold u32; rw [BitVec.toNat_add]; omega
theorem shrw (a : BitVec 32) (n : Nat) : u32 a / 2 ^ n = u32 (a >>> n) := by
  unfold u32; rw [BitVec.toNat_ushiftRight, Nat.shiftRight_eq_div_pow]; simp
theorem shlw (a : BitVec 32) (n : Nat) : (u32 a * 2 ^ n) % 4294967296 = u32 (a <<< n) := by
  unfold u32; rw [BitVec.toNat_shiftLeft, Nat.shiftLeft_eq]; simp
theorem lit (n : Nat) (h : n < 4294967296) : (n : Int) = u32 (BitVec.ofNat 32 n) := by unfold u32; simp; omega

/-- bytes as a number, the first the least -/
def leN : List UInt8 → Nat
  | [] => 0
  | x :: l => x.toNat + 256 * leN l
theorem leN_lt : ∀ l, leN l < 256 ^ l.length
  | [] => by simp [leN]
  | x :: l => by
    have h := leN_lt l
    have := x.toNat_lt
    rw [List.length_cons, Nat.pow_succ]
    unfold leN; omega
theorem leN_snoc (x : UInt8) : ∀ l, leN (l ++ [x]) = leN l + 2 ^ (8 * l.length) * x.toNat
  | [] => by simp [leN]
  | y :: l => by
    rw [List.cons_append, leN, leN_snoc x l, leN, List.length_cons, show 8 * (l.length + 1) = 8 * l.length + 8 by omega, Nat.pow_add]
    have : 2 ^ (8 * l.length) * 2 ^ 8 * x.toNat = 256 * (2 ^ (8 * l.length) * x.toNat) := by
      rw [Nat.mul_comm (2 ^ (8 * l.length)) (2 ^ 8), Nat.mul_assoc]
    rw [this]; omega
theorem leN_or (l : List UInt8) (x : UInt8) : leN l ||| (2 ^ (8 * l.length) * x.toNat) = leN (l ++ [x]) := by
  have h := leN_lt l
  have e : 256 ^ l.length = 2 ^ (8 * l.length) := by rw [show (256 : Nat) = 2 ^ 8 from rfl, ← Nat.pow_mul]
  rw [e] at h
  rw [Nat.or_comm, ← Nat.two_pow_add_eq_or_of_lt h, leN_snoc]; omega
theorem leN_lt32 {l : List UInt8} (h : l.length ≤ 4) : leN l < 4294967296 := by
  have h1 := leN_lt l
  have h2 : 256 ^ l.length ≤ 256 ^ 4 := Nat.pow_le_pow_right (by omega) h
  have h3 : (256 : Nat) ^ 4 = 4294967296 := rfl
  omega
/-- bytes as a word -/
def word (l : List UInt8) : BitVec 32 := BitVec.ofNat 32 (leN l)
theorem word_u32 {l : List UInt8} (h : l.length ≤ 4) : u32 (word l) = (leN l : Int) := by
  unfold word; exact (lit _ (leN_lt32 h)).symm
theorem word_nil : word [] = 0 := rfl
/-- from the end on -/
theorem word_cons (x : UInt8) (l : List UInt8) : word l * 256#32 + BitVec.ofNat 32 x.toNat = word (x :: l) := by
  unfold word
  apply BitVec.eq_of_toNat_eq
  rw [BitVec.toNat_add, BitVec.toNat_mul]
  simp only [BitVec.toNat_ofNat, leN]
  have := x.toNat_lt
  omega
/-- from the front on -/
theorem word_or (l : List UInt8) (x : UInt8) : word l ||| (BitVec.ofNat 32 x.toNat <<< (8 * l.length)) = word (l ++ [x]) := by
  unfold word
  rw [← leN_or]
  have hx : x.toNat < 4294967296 := by have := x.toNat_lt; omega
  apply BitVec.eq_of_toNat_eq
  simp only [BitVec.toNat_or, BitVec.toNat_shiftLeft, BitVec.toNat_ofNat, Nat.shiftLeft_eq]
  rw [Nat.or_mod_two_pow, Nat.mod_eq_of_lt (a := x.toNat) hx, Nat.mul_comm]

/-- turned left -/
def rot (x : BitVec 32) (k : Nat) : BitVec 32 := (x <<< k) ||| (x >>> (32 - k))
def mix (k : BitVec 32) : BitVec 32 := rot (k * 0xcc9e2d51#32) 15 * 0x1b873593#32
theorem mix_zero : mix 0 = 0 := by decide +kernel
def rnd (h k : BitVec 32) : BitVec 32 := rot (h ^^^ mix k) 13 * 5#32 + 0xe6546b64#32
/-- bytes taken by fours; what is left at the end -/
def hsG {α : Type} (R E : α → List UInt8 → α) : List UInt8 → α → α
  | a :: b :: c :: d :: r, h => hsG R E r (R h [a, b, c, d])
  | l, h => E h l
theorem hsG_four {α : Type} (R E : α → List UInt8 → α) (a b c d : UInt8) (r : List UInt8) (h : α) : hsG R E (a :: b :: c :: d :: r) h = hsG R E r (R h [a, b, c, d]) := rfl
theorem hsG_few {α : Type} (R E : α → List UInt8 → α) {l : List UInt8} (h : l.length < 4) (x : α) : hsG R E l x = E x l := by
  match l, h with
  | [], _ => rfl
  | [_], _ => rfl
  | [_, _], _ => rfl
  | [_, _, _], _ => rfl
  | _ :: _ :: _ :: _ :: _, h => simp at h; omega
/-- the bytes put into a hash -/
def hs (l : List UInt8) (h : BitVec 32) : BitVec 32 := hsG (fun h l => rnd h (word l)) (fun h l => h ^^^ mix (word l)) l h
def fin (h : BitVec 32) (n : Nat) : BitVec 32 :=
  let h := h ^^^ BitVec.ofNat 32 n
  let h := h ^^^ h >>> 16
  let h := h * 0x85ebca6b#32
  let h := h ^^^ h >>> 13
  let h := h * 0xc2b2ae35#32
  h ^^^ h >>> 16
def hash (seed : BitVec 32) (l : List UInt8) : BitVec 32 := fin (hs l seed) l.length
theorem hs_four {l : List UInt8} {at_ : Nat} (h : at_ + 4 ≤ l.length) (x : BitVec 32) : hs (l.drop at_) x = hs (l.drop (at_ + 4)) (rnd x (word [l[at_], l[at_ + 1], l[at_ + 2], l[at_ + 3]])) := by
  unfold hs
  rw [List.drop_eq_getElem_cons (by omega), List.drop_eq_getElem_cons (i := at_ + 1) (by omega), List.drop_eq_getElem_cons (i := at_ + 1 + 1) (by omega), List.drop_eq_getElem_cons (i := at_ + 1 + 1 + 1) (by omega), hsG_four]
theorem hs_few {l : List UInt8} (h : l.length < 4) (x : BitVec 32) : hs l x = x ^^^ mix (word l) := by
  unfold hs; rw [hsG_few _ _ h]
end Go.Bl
