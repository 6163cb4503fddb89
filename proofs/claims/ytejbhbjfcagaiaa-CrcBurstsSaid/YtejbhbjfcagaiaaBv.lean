/-
  Plain mathematics of CRC-32 over 32 bits, and how the model's integers of uint32 read as bits.
-/
import Derived.WalkKit
namespace Go.Bv

/-- a uint32 as a value -/
def u32 (c : BitVec 32) : Int := (c.toNat : Int)

theorem u32_lt (c : BitVec 32) : 0 ≤ u32 c ∧ u32 c < 4294967296 := by have := c.isLt; unfold u32; omega

theorem ofInt_u32 (c : BitVec 32) : BitVec.ofInt 32 (u32 c) = c := by
  unfold u32; rw [BitVec.ofInt_natCast]; simp

theorem wrap_u32 (c : BitVec 32) : IntKind.u32.wrap (c.toNat : Int) = u32 c := by
  have := c.isLt; rw [IntKind.wrap_u32]; unfold u32; omega

theorem bxor (a b : BitVec 32) : bits .xor .u32 (u32 a) (u32 b) = u32 (a ^^^ b) := by
  show IntKind.u32.wrap (((BitVec.ofInt 32 (u32 a) ^^^ BitVec.ofInt 32 (u32 b)).toNat : Nat) : Int) = _
  rw [ofInt_u32, ofInt_u32, wrap_u32]
theorem band (a b : BitVec 32) : bits .and .u32 (u32 a) (u32 b) = u32 (a &&& b) := by
  show IntKind.u32.wrap (((BitVec.ofInt 32 (u32 a) &&& BitVec.ofInt 32 (u32 b)).toNat : Nat) : Int) = _
  rw [ofInt_u32, ofInt_u32, wrap_u32]
theorem band_lit (a : BitVec 32) (n : Nat) (h : n < 4294967296) : bits .and .u32 (u32 a) (n : Int) = u32 (a &&& BitVec.ofNat 32 n) := by
  have : (n : Int) = u32 (BitVec.ofNat 32 n) := by unfold u32; simp; omega
  rw [this, band]
theorem band_lit' (a : BitVec 32) (n : Nat) (h : n < 4294967296) : bits .and .u32 (n : Int) (u32 a) = u32 (BitVec.ofNat 32 n &&& a) := by
  have : (n : Int) = u32 (BitVec.ofNat 32 n) := by unfold u32; simp; omega
  rw [this, band]
theorem bxor_lit (a : BitVec 32) (n : Nat) (h : n < 4294967296) : bits .xor .u32 (u32 a) (n : Int) = u32 (a ^^^ BitVec.ofNat 32 n) := by
  have : (n : Int) = u32 (BitVec.ofNat 32 n) := by unfold u32; simp; omega
  rw [this, bxor]
theorem bnot (a : BitVec 32) : bits .xor .u32 4294967295 (u32 a) = u32 (~~~ a) := by
  have : (4294967295 : Int) = u32 (BitVec.allOnes 32) := by decide
  rw [this, bxor]; congr 1
theorem shr_lit (a : BitVec 32) (n : Nat) : u32 a / 2 ^ n = u32 (a >>> n) := by
  unfold u32; rw [BitVec.toNat_ushiftRight, Nat.shiftRight_eq_div_pow]; simp
theorem neg_u32 (a : BitVec 32) : (-u32 a) % 4294967296 = u32 (-a) := by
  unfold u32; rw [BitVec.toNat_neg]; have := a.isLt; omega

/-! ### CRC-32 -/
def poly : BitVec 32 := 0xedb88320#32
/-- a bit -/
def sb (c : BitVec 32) : BitVec 32 := (c >>> 1) ^^^ (poly &&& -(c &&& 1#32))
/-- k bits -/
def sbn : Nat → BitVec 32 → BitVec 32 | 0, c => c | k + 1, c => sb (sbn k c)
/-- the reference's bit -/
def rb (c : BitVec 32) : BitVec 32 := if c &&& 1#32 = 1#32 then (c >>> 1) ^^^ poly else c >>> 1
/-- a byte -/
def tb (c : BitVec 32) (x : BitVec 32) : BitVec 32 := sbn 8 ((c &&& 0xff#32) ^^^ x) ^^^ (c >>> 8)
/-- the reference's byte -/
def tr (c : BitVec 32) (x : BitVec 32) : BitVec 32 := sbn 8 (c ^^^ x)

theorem and_one (c : BitVec 32) : c &&& 1#32 = if c.getLsbD 0 then 1#32 else 0#32 := by
  apply BitVec.eq_of_toNat_eq
  rw [BitVec.toNat_and]
  show c.toNat &&& 1 = _
  rw [Nat.and_one_is_mod, BitVec.getLsbD]
  rw [Nat.testBit_zero]
  rcases Nat.mod_two_eq_zero_or_one c.toNat with h | h <;> simp [h]

theorem neg_one : -(1#32) = BitVec.allOnes 32 := by decide

theorem sb_eq (c : BitVec 32) : sb c = if c.getLsbD 0 then (c >>> 1) ^^^ poly else c >>> 1 := by
  unfold sb
  rw [and_one]
  cases c.getLsbD 0
  · simp
  · rw [if_pos rfl, neg_one, BitVec.and_allOnes]; rfl

theorem rb_eq (c : BitVec 32) : rb c = sb c := by
  rw [sb_eq]; unfold rb; rw [and_one]
  cases c.getLsbD 0 <;> simp

theorem sb_xor (a b : BitVec 32) : sb (a ^^^ b) = sb a ^^^ sb b := by
  simp only [sb_eq, BitVec.getLsbD_xor, BitVec.ushiftRight_xor_distrib]
  generalize a >>> 1 = p
  generalize b >>> 1 = q
  generalize poly = r
  cases a.getLsbD 0 <;> cases b.getLsbD 0 <;> simp only [Bool.xor_false, Bool.xor_true, Bool.not_true, Bool.not_false, Bool.false_eq_true, if_true, if_false] <;>
    (ext i hi; simp only [BitVec.getElem_xor]; cases p[i] <;> cases q[i] <;> cases r[i] <;> rfl)

theorem sbn_xor (k : Nat) (a b : BitVec 32) : sbn k (a ^^^ b) = sbn k a ^^^ sbn k b := by
  induction k with
  | zero => rfl
  | succ k ih => simp only [sbn, ih, sb_xor]

theorem sbn_low (k : Nat) (a : BitVec 32) (h : ∀ i, i < k → a.getLsbD i = false) : sbn k a = a >>> k := by
  induction k with
  | zero => simp [sbn]
  | succ k ih =>
    rw [sbn, ih (fun i hi => h i (by omega)), sb_eq]
    have : (a >>> k).getLsbD 0 = false := by simp [h k (by omega)]
    rw [this]; simp
    rw [← BitVec.shiftRight_add]

theorem low8 (i : Nat) (hi : i < 8) : (0xff#32).getLsbD i = true := by
  match i, hi with
  | 0, _ | 1, _ | 2, _ | 3, _ | 4, _ | 5, _ | 6, _ | 7, _ => rfl
theorem high8 (i : Nat) : (0xff#32).getLsbD (8 + i) = false := by
  have : (0xff#32).getLsbD (8 + i) = Nat.testBit 255 (8 + i) := rfl
  rw [this]
  apply Nat.testBit_lt_two_pow
  calc 255 < 2 ^ 8 := by decide
    _ ≤ 2 ^ (8 + i) := Nat.pow_le_pow_right (by decide) (by omega)
theorem sbn_high (c : BitVec 32) : sbn 8 (c &&& ~~~ 0xff#32) = c >>> 8 := by
  generalize hm : 0xff#32 = m
  rw [sbn_low]
  · apply BitVec.eq_of_getLsbD_eq
    intro i hi
    simp only [BitVec.getLsbD_ushiftRight, BitVec.getLsbD_and, BitVec.getLsbD_not]
    rw [← hm, high8]
    by_cases h8 : 8 + i < 32
    · simp [h8]
    · rw [BitVec.getLsbD_of_ge _ _ (by omega)]; simp
  · intro i hi
    rw [BitVec.getLsbD_and, BitVec.getLsbD_not, ← hm, low8 i hi]
    simp

theorem tb_eq (c x : BitVec 32) : tb c x = tr c x := by
  unfold tb tr
  have h2 := sbn_high c
  generalize 0xff#32 = m at h2
  have hc : c ^^^ x = ((c &&& m) ^^^ x) ^^^ (c &&& ~~~ m) := by
    ext i hi
    simp only [BitVec.getElem_xor, BitVec.getElem_and, BitVec.getElem_not]
    cases c[i] <;> cases m[i] <;> cases x[i] <;> rfl
  rw [hc, sbn_xor 8 (c &&& m ^^^ x) (c &&& ~~~ m), h2]


/-! ### in the walk's own spelling -/
/-- a byte among 32 bits -/
def byte (b : UInt8) : BitVec 32 := BitVec.ofNat 32 b.toNat
theorem byte_conv (b : UInt8) : ((b.toNat : Int)) % 4294967296 = u32 (byte b) := by
  have := b.toNat_lt; unfold u32 byte; simp; omega
theorem and1 (a : BitVec 32) : bits .and .u32 (u32 a) 1 = u32 (a &&& 1#32) := band_lit a 1 (by decide)
theorem and255 (a : BitVec 32) : bits .and .u32 (u32 a) 255 = u32 (a &&& 255#32) := band_lit a 255 (by decide)
theorem polyand (a : BitVec 32) : bits .and .u32 3988292384 (u32 a) = u32 (poly &&& a) := band_lit' a 3988292384 (by decide)
theorem xorpoly (a : BitVec 32) : bits .xor .u32 (u32 a) 3988292384 = u32 (a ^^^ poly) := bxor_lit a 3988292384 (by decide)
theorem shr1 (a : BitVec 32) : u32 a / (2 : Int) = u32 (a >>> 1) := shr_lit a 1
theorem shr8 (a : BitVec 32) : u32 a / (256 : Int) = u32 (a >>> 8) := shr_lit a 8
theorem mod2 (a : BitVec 32) : (u32 a % 2 == 1) = decide (a &&& 1#32 = 1#32) := by
  rw [Bool.eq_iff_iff]
  rw [and_one, BitVec.getLsbD, Nat.testBit_zero]
  simp only [beq_iff_eq, decide_eq_true_eq]
  unfold u32
  rcases Nat.mod_two_eq_zero_or_one a.toNat with h | h <;> simp [h] <;> omega

theorem sb_walk (a : BitVec 32) : bits .xor .u32 (u32 a / 2) (bits .and .u32 3988292384 (-bits .and .u32 (u32 a) 1 % 4294967296)) = u32 (sb a) := by
  rw [and1, neg_u32, polyand, shr1, bxor]; rfl

/-- the register behind bytes -/
def tk (c : BitVec 32) (l : List UInt8) : BitVec 32 := l.foldl (fun c b => tr c (byte b)) c
theorem tk_snoc (c : BitVec 32) (l : List UInt8) (b : UInt8) : tk c (l ++ [b]) = tr (tk c l) (byte b) := by simp [tk]
theorem tk_append (c : BitVec 32) (l m : List UInt8) : tk c (l ++ m) = tk (tk c l) m := by simp [tk]
theorem tk_take (c : BitVec 32) (l : List UInt8) (k : Nat) (h : k < l.length) : tk c (l.take (k + 1)) = tr (tk c (l.take k)) (byte l[k]) := by
  rw [List.take_succ_eq_append_getElem h, tk_snoc]
/-- the sum behind a sum -/
def more (c : BitVec 32) (l : List UInt8) : BitVec 32 := ~~~ tk (~~~ c) l
theorem more_append (c : BitVec 32) (l m : List UInt8) : more c (l ++ m) = more (more c l) m := by
  unfold more; rw [tk_append]; simp
theorem more_nil (c : BitVec 32) : more c [] = c := by simp [more, tk]

theorem mod2_eq (a : BitVec 32) : (u32 a % 2 == 1) = a.getLsbD 0 := by
  rw [mod2, and_one]; cases a.getLsbD 0 <;> simp
theorem tdiv2 (a : BitVec 32) : (u32 a).tdiv 2 % 4294967296 = u32 a / (2 : Int) := by
  have := u32_lt a; rw [Int.tdiv_eq_ediv_of_nonneg (by omega)]; omega
theorem sb_odd (a : BitVec 32) (h : a.getLsbD 0 = true) : bits .xor .u32 ((u32 a).tdiv 2 % 4294967296) 3988292384 = u32 (sb a) := by
  rw [tdiv2, shr1, xorpoly, sb_eq, h]; rfl
theorem sb_even (a : BitVec 32) (h : a.getLsbD 0 = false) : (u32 a).tdiv 2 % 4294967296 = u32 (sb a) := by
  rw [tdiv2, shr1, sb_eq, h]; rfl

theorem wpList_not32 {P : Program} {ops : Array Oper} {rest : List Oper} {o : Oper} {a : Act} {w : World} {Q : Exit → Act → World → Prop} (hg : o.guard = none) (t : TypeId) (x : Operand)
    (ho : o.op = .unOp .xor t x) (c : BitVec 32) (hx : a.eval x = .int .u32 (u32 c))
    (h : wpList P ops Q rest (a.put o.dst (.int .u32 (u32 (~~~ c)))) w) : wpList P ops Q (o :: rest) a w := by
  refine wpList_plain hg fun K hK => ?_
  unfold Oper.wp
  have hm : (if IntKind.u32.signed then -1 else IntKind.u32.max) = 4294967295 := rfl
  have hb : Op.intBits .xor .u32 4294967295 (u32 c) = pure (.int .u32 (u32 (~~~ c))) := by
    rw [intBits_xor, bnot]
  simp only [execOp, ho, hx, Op.unary, hm, hb]
  exact hK _ _ h

/-! ### matrices -/
/-- a bit of a number that is shifted -/
theorem tst (c : BitVec 32) (k : Nat) : (bits .and .u32 (u32 c / 2 ^ k) 1 == 1) = c.getLsbD k := by
  rw [shr_lit, and1, and_one]
  have : (c >>> k).getLsbD 0 = c.getLsbD k := by simp
  rw [this]
  cases c.getLsbD k <;> decide

/-- the lowest k bits -/
def low (c : BitVec 32) : Nat → BitVec 32
  | 0 => 0#32
  | k + 1 => if c.getLsbD k then low c k ^^^ (1#32 <<< k) else low c k
theorem one_shl (k i : Nat) (h : k < 32) : (1#32 <<< k).getLsbD i = decide (i = k) := by
  rw [BitVec.getLsbD_shiftLeft]
  by_cases hi : i < 32
  · by_cases hk : i < k
    · simp [hk]; omega
    · have : (1#32).getLsbD (i - k) = decide (i - k = 0) := by rw [BitVec.getLsbD_one]; simp
      rw [this]; simp only [hi, hk]; simp; omega
  · simp [hi]; omega
theorem low_bit (c : BitVec 32) (k : Nat) (hk : k ≤ 32) : ∀ i, (low c k).getLsbD i = (decide (i < k) && c.getLsbD i) := by
  induction k with
  | zero => intro i; simp [low]
  | succ k ih =>
    intro i
    have ih' := ih (by omega) i
    unfold low
    by_cases hb : c.getLsbD k = true
    · rw [if_pos hb, BitVec.getLsbD_xor, ih', one_shl _ _ (by omega)]
      by_cases h1 : i = k
      · subst h1; simp [hb]
      · have : decide (i < k + 1) = decide (i < k) := by simp; omega
        rw [this]; simp [h1]
    · rw [if_neg hb, ih']
      by_cases h1 : i = k
      · subst h1; simp [Bool.eq_false_iff.2 hb]
      · have : decide (i < k + 1) = decide (i < k) := by simp; omega
        rw [this]
theorem low_all (c : BitVec 32) : low c 32 = c := by
  apply BitVec.eq_of_getLsbD_eq
  intro i hi
  rw [low_bit c 32 (by omega)]; simp [hi]

/-- sums go through -/
structure Lin (f : BitVec 32 → BitVec 32) : Prop where
  add : ∀ a b, f (a ^^^ b) = f a ^^^ f b
theorem Lin.zero {f : BitVec 32 → BitVec 32} (h : Lin f) : f 0#32 = 0#32 := by
  have := h.add 0#32 0#32
  simp at this; exact this
theorem Lin.comp {f g : BitVec 32 → BitVec 32} (h : Lin f) (k : Lin g) : Lin (fun x => f (g x)) := ⟨fun a b => by rw [k.add, h.add]⟩
theorem lin_sbn (k : Nat) : Lin (sbn k) := ⟨sbn_xor k⟩

/-- ms are the rows of f -/
structure Mat (ms : List (BitVec 32)) (f : BitVec 32 → BitVec 32) : Prop where
  lin : Lin f
  len : ms.length = 32
  row : ∀ k, k < 32 → ms.getD k 0#32 = f (1#32 <<< k)
/-- the sum of the rows below k whose bits are set -/
def mtx (ms : List (BitVec 32)) (c : BitVec 32) : Nat → BitVec 32
  | 0 => 0#32
  | k + 1 => if c.getLsbD k then mtx ms c k ^^^ ms.getD k 0#32 else mtx ms c k
theorem Mat.mtx_low {ms : List (BitVec 32)} {f : BitVec 32 → BitVec 32} (h : Mat ms f) (c : BitVec 32) : ∀ k, k ≤ 32 → mtx ms c k = f (low c k) := by
  intro k
  induction k with
  | zero => intro _; exact h.lin.zero.symm
  | succ k ih =>
    intro hk
    unfold mtx low
    rw [ih (by omega), h.row k (by omega)]
    by_cases hb : c.getLsbD k = true
    · rw [if_pos hb, if_pos hb, h.lin.add]
    · rw [if_neg hb, if_neg hb]
theorem Mat.mtx_all {ms : List (BitVec 32)} {f : BitVec 32 → BitVec 32} (h : Mat ms f) (c : BitVec 32) : mtx ms c 32 = f c := by
  rw [h.mtx_low c 32 (by omega), low_all]

/-- n times -/
def times : Nat → (BitVec 32 → BitVec 32) → BitVec 32 → BitVec 32 | 0, _, a => a | n + 1, f, a => times n f (f a)
theorem times_sq (f : BitVec 32 → BitVec 32) (n : Nat) : ∀ a, times n (fun x => f (f x)) a = times (2 * n) f a := by
  induction n with
  | zero => intro a; rfl
  | succ n ih => intro a; rw [show 2 * (n + 1) = 2 * n + 1 + 1 by omega]; simp only [times]; exact ih _
theorem times_out (f : BitVec 32 → BitVec 32) (n : Nat) : ∀ a, times (n + 1) f a = f (times n f a) := by
  induction n with
  | zero => intro a; rfl
  | succ n ih => intro a; rw [times, ih]; rfl
theorem times_half (f : BitVec 32 → BitVec 32) (n : Nat) (a : BitVec 32) : times n f a = times (n / 2) (fun x => f (f x)) (if n % 2 = 1 then f a else a) := by
  rw [times_sq]
  by_cases h : n % 2 = 1
  · rw [if_pos h]
    have : n = 2 * (n / 2) + 1 := by omega
    conv => lhs; rw [this, times]
  · rw [if_neg h, show 2 * (n / 2) = n by omega]

theorem tb0 (c : BitVec 32) : sbn 8 (c &&& 255#32) ^^^ c >>> 8 = sbn 8 c := by
  have := tb_eq c 0#32
  unfold tb tr at this
  simpa using this
end Go.Bv
