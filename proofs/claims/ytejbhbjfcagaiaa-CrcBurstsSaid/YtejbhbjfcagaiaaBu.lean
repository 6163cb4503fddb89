/-
  A row of 32 turned bits changes the sum, if one was turned. Plain: no program in sight.
-/
import Derived.Test.YtejbhbjfcagaiaaBv
namespace Go.Bv

/-- the byte l[i] with bit r turned -/
def flip (l : List UInt8) (p : Nat) : List UInt8 := l.set (p / 8) (l[p / 8]! ^^^ (1 <<< UInt8.ofNat (p % 8)))

/-- the bits of a row that are turned, of the first k -/
def turned (b : List UInt8) (at' : Nat) (turn : BitVec 32) : Nat → List UInt8
  | 0 => b
  | k + 1 => if turn.getLsbD k then flip (turned b at' turn k) (at' + k) else turned b at' turn k

/-- the lowb k bits -/
def lowb (turn : BitVec 32) : Nat → BitVec 32
  | 0 => 0#32
  | k + 1 => lowb turn k ^^^ (if turn.getLsbD k then 1#32 <<< k else 0#32)

theorem flip_len (l : List UInt8) (p : Nat) : (flip l p).length = l.length := by simp [flip]
theorem turned_len (b : List UInt8) (at' : Nat) (turn : BitVec 32) (k : Nat) : (turned b at' turn k).length = b.length := by
  induction k with
  | zero => rfl
  | succ k ih => simp only [turned]; split <;> simp [flip_len, ih]

theorem lowb_bit (turn : BitVec 32) (k i : Nat) : (lowb turn k).getLsbD i = (decide (i < k) && turn.getLsbD i && decide (i < 32)) := by
  induction k with
  | zero => simp [lowb]
  | succ k ih =>
    rw [lowb, BitVec.getLsbD_xor, ih]
    by_cases hi : i < 32
    · by_cases h : i = k
      · subst h
        cases ht : turn.getLsbD i
        · simp
        · simp [hi]
      · have h1 : (decide (i < k + 1)) = decide (i < k) := by simp; omega
        have h2 : (if turn.getLsbD k then 1#32 <<< k else 0#32).getLsbD i = false := by
          split
          · simp only [BitVec.getLsbD_shiftLeft, BitVec.getLsbD_one]
            by_cases hik : i < k
            · simp [hik]
            · have : i - k ≠ 0 := by omega
              simp [this]
          · simp
        rw [h1, h2]; simp
    · have h3 : (if turn.getLsbD k then 1#32 <<< k else 0#32).getLsbD i = false := BitVec.getLsbD_of_ge _ _ (by omega)
      rw [h3]; simp [hi]

theorem lowb_all (turn : BitVec 32) : lowb turn 32 = turn := by
  apply BitVec.eq_of_getLsbD_eq
  intro i hi
  rw [lowb_bit]; simp [hi]

theorem sb_zero (c : BitVec 32) (h : sb c = 0#32) : c = 0#32 := by
  rw [sb_eq] at h
  by_cases hc : c.getLsbD 0 = true
  · rw [if_pos hc] at h
    have h31 := congrArg (fun x => x.getLsbD 31) h
    simp only [BitVec.getLsbD_xor, BitVec.getLsbD_ushiftRight] at h31
    rw [BitVec.getLsbD_of_ge c (1 + 31) (by omega)] at h31
    exact absurd h31 (by decide)
  · rw [if_neg hc] at h
    apply BitVec.eq_of_getLsbD_eq
    intro i hi
    cases i with
    | zero => simpa using hc
    | succ i =>
      have := congrArg (fun x => x.getLsbD i) h
      simp only [BitVec.getLsbD_ushiftRight] at this
      rw [Nat.add_comm] at this
      simpa using this

theorem sbn_zero (n : Nat) (c : BitVec 32) : sbn n c = 0#32 ↔ c = 0#32 := by
  constructor
  · induction n with
    | zero => exact id
    | succ n ih => intro h; exact ih (sb_zero _ h)
  · rintro rfl
    induction n with
    | zero => rfl
    | succ n ih => rw [sbn, ih]; decide

theorem sbn_add (n m : Nat) (c : BitVec 32) : sbn n (sbn m c) = sbn (n + m) c := by
  induction n with
  | zero => simp [sbn]
  | succ n ih => rw [sbn, ih, Nat.add_right_comm, sbn]

theorem sbn_one (k : Nat) (hk : k < 32) : sbn k (1#32 <<< k) = 1#32 := by
  rw [sbn_low]
  · apply BitVec.eq_of_getLsbD_eq
    intro i hi
    simp only [BitVec.getLsbD_ushiftRight, BitVec.getLsbD_shiftLeft, BitVec.getLsbD_one]
    by_cases h : i = 0
    · subst h; simp [hk]
    · by_cases h2 : k + i < 32
      · simp [h2, h]
      · simp [h2, h]
  · intro i hi; simp [hi]

theorem tr_zero' (c : BitVec 32) : tr c 0#32 = sbn 8 c := by simp [tr]

/-- tk with a register apart -/
theorem tk_xor (c d : BitVec 32) (l : List UInt8) : tk (c ^^^ d) l = tk c l ^^^ sbn (8 * l.length) d := by
  induction l generalizing c d with
  | nil => simp [tk, sbn]
  | cons b l ih =>
    have h : tr (c ^^^ d) (byte b) = tr c (byte b) ^^^ sbn 8 d := by
      simp only [tr]; rw [← sbn_xor]; congr 1; rw [BitVec.xor_assoc, BitVec.xor_assoc, BitVec.xor_comm d]
    show tk (tr (c ^^^ d) (byte b)) l = tk (tr c (byte b)) l ^^^ _
    rw [h, ih, sbn_add, List.length_cons]; rfl

theorem byte_xor (a b : UInt8) : byte (a ^^^ b) = byte a ^^^ byte b := by
  apply BitVec.eq_of_toNat_eq
  simp only [byte, BitVec.toNat_xor, BitVec.toNat_ofNat, UInt8.toNat_xor]
  rw [Nat.mod_eq_of_lt, Nat.mod_eq_of_lt, Nat.mod_eq_of_lt]
  · have := b.toNat_lt; omega
  · have := a.toNat_lt; omega
  · have := (a ^^^ b).toNat_lt; rw [UInt8.toNat_xor] at this; omega
theorem byte_one (r : Nat) (hr : r < 8) : byte (1 <<< UInt8.ofNat r) = 1#32 <<< r := by
  have : ∀ r : Fin 8, byte (1 <<< UInt8.ofNat r.val) = 1#32 <<< r.val := by decide
  exact this ⟨r, hr⟩

theorem tk_flip (c : BitVec 32) (l : List UInt8) (p : Nat) (hp : p < 8 * l.length) : tk c (flip l p) = tk c l ^^^ sbn (8 * l.length - p) 1#32 := by
  have hi : p / 8 < l.length := by omega
  have hsplit : l = l.take (p / 8) ++ l[p / 8] :: l.drop (p / 8 + 1) := by simp
  have hf : flip l p = l.take (p / 8) ++ (l[p / 8] ^^^ (1 <<< UInt8.ofNat (p % 8))) :: l.drop (p / 8 + 1) := by
    rw [flip, List.set_eq_take_append_cons_drop, if_pos hi]; simp [hi]
  rw [hf]
  conv => rhs; rw [hsplit]
  rw [tk_append, tk_append]
  generalize tk c (l.take (p / 8)) = d
  show tk (tr d (byte _)) _ = tk (tr d (byte _)) _ ^^^ _
  have h1 : tr d (byte (l[p / 8] ^^^ (1 <<< UInt8.ofNat (p % 8)))) = tr d (byte l[p / 8]) ^^^ sbn (8 - p % 8) 1#32 := by
    rw [byte_xor, byte_one _ (by omega)]
    simp only [tr]; rw [← BitVec.xor_assoc, sbn_xor]
    congr 1
    conv => rhs; rw [← sbn_one (p % 8) (by omega)]
    rw [sbn_add]; congr 1; omega
  rw [h1, tk_xor, sbn_add]
  congr 2
  rw [List.length_append, List.length_cons, List.length_take, List.length_drop]; omega

theorem tk_turned (c : BitVec 32) (b : List UInt8) (at' : Nat) (turn : BitVec 32) (k : Nat) (hk : k ≤ 32) (hat : at' + 32 ≤ 8 * b.length) :
    tk c (turned b at' turn k) = tk c b ^^^ sbn (8 * b.length - at') (lowb turn k) := by
  induction k with
  | zero => simp [turned, lowb, (sbn_zero _ _).2]
  | succ k ih =>
    rw [turned, lowb]
    split
    · rw [tk_flip _ _ _ (by rw [turned_len]; omega), ih (by omega), turned_len, sbn_xor, BitVec.xor_assoc]
      congr 2
      conv => lhs; rw [← sbn_one k (by omega)]
      rw [sbn_add]; congr 1; omega
    · rw [ih (by omega)]; simp

theorem more_turned (c : BitVec 32) (b : List UInt8) (at' : Nat) (turn : BitVec 32) (hat : at' + 32 ≤ 8 * b.length) :
    more c (turned b at' turn 32) = more c b ↔ turn = 0#32 := by
  unfold more
  rw [tk_turned _ _ _ _ _ (Nat.le_refl _) hat, lowb_all]
  constructor
  · intro h
    have h2 := congrArg (fun x => ~~~ x) h
    simp only [BitVec.not_not] at h2
    have h3 : sbn (8 * b.length - at') turn = 0#32 := by
      have := congrArg (fun x => tk (~~~ c) b ^^^ x) h2
      simpa [← BitVec.xor_assoc] using this
    exact (sbn_zero _ _).1 h3
  · rintro rfl
    rw [(sbn_zero _ _).2 rfl]; simp

end Go.Bv
