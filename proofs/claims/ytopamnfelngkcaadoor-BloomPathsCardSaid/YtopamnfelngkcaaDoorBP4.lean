/-
  Layer 16, plain: a filter made of texts. No program is named here, no condition.
-/
import Derived.Test.YtopamnfelngkcaaDoorBP2
import Derived.Test.YtopamnfelngkcaaDoorBP3
namespace Go.Bl
set_option linter.unusedVariables false

def orB (c : UInt8) (k : Nat) : UInt8 := UInt8.ofNat (c.toNat ||| 2 ^ k)
def setB (f : List UInt8) (p : Nat) : List UInt8 := f.set (p / 8) (orB (f.getD (p / 8) 0) (p % 8))
theorem or8 : ∀ (n : Fin 256) (k : Fin 8), bits .or .u8 (n.val : Int) ((2 ^ k.val : Nat) : Int) = ((n.val ||| 2 ^ k.val : Nat) : Int) ∧ (n.val ||| 2 ^ k.val) < 256 := by decide +kernel
theorem orB_toNat (c : UInt8) {k : Nat} (hk : k < 8) : (orB c k).toNat = c.toNat ||| 2 ^ k := by
  have := (or8 ⟨c.toNat, c.toNat_lt⟩ ⟨k, hk⟩).2
  unfold orB
  rw [UInt8.toNat_ofNat']
  exact Nat.mod_eq_of_lt this
theorem orI (c : UInt8) {k : Nat} (hk : k < 8) : bits .or .u8 (c.toNat : Int) ((2 ^ k : Nat) : Int) = ((orB c k).toNat : Int) := by
  rw [orB_toNat c hk]
  exact (or8 ⟨c.toNat, c.toNat_lt⟩ ⟨k, hk⟩).1
theorem bitN_orB (c : UInt8) {k : Nat} (hk : k < 8) (j : Nat) : bitN (orB c k) j = (bitN c j || decide (k = j)) := by
  unfold bitN
  rw [orB_toNat c hk, Nat.testBit_or, Nat.testBit_two_pow]
theorem setB_len (f : List UInt8) (p : Nat) : (setB f p).length = f.length := by simp [setB]
theorem bitF_setB {f : List UInt8} {p : Nat} (hp : p < 8 * f.length) (q : Nat) : bitF (setB f p) q = (bitF f q || decide (p = q)) := by
  unfold bitF setB
  have hk : p % 8 < 8 := Nat.mod_lt _ (by omega)
  simp only [List.getD_eq_getElem?_getD, List.getElem?_set]
  by_cases h : p / 8 = q / 8
  · rw [if_pos h, if_pos (by omega), Option.getD_some, bitN_orB _ hk, ← h]
    congr 1
    rw [Bool.eq_iff_iff, decide_eq_true_iff, decide_eq_true_iff]
    omega
  · rw [if_neg h]
    have : decide (p = q) = false := decide_eq_false (by omega)
    rw [this, Bool.or_false]
def setAll (f : List UInt8) (ps : List Nat) : List UInt8 := ps.foldl setB f
theorem setAll_len (f : List UInt8) (ps : List Nat) : (setAll f ps).length = f.length := by
  unfold setAll
  induction ps generalizing f with
  | nil => rfl
  | cons a r ih => rw [List.foldl_cons, ih, setB_len]
theorem setAll_snoc (f : List UInt8) (ps : List Nat) (p : Nat) : setAll f (ps ++ [p]) = setB (setAll f ps) p := by simp [setAll, List.foldl_append]
theorem bitF_setAll {f : List UInt8} {ps : List Nat} (h : ∀ p ∈ ps, p < 8 * f.length) (q : Nat) : bitF (setAll f ps) q = (bitF f q || ps.any (fun p => decide (p = q))) := by
  unfold setAll
  induction ps generalizing f with
  | nil => simp
  | cons a r ih =>
    rw [List.foldl_cons, ih (fun p hp => by rw [setB_len]; exact h p (by simp [hp])), bitF_setB (h a (by simp)), List.any_cons, Bool.or_assoc]
theorem byte_ext {c d : UInt8} (h : ∀ k, k < 8 → bitN c k = bitN d k) : c = d := by
  apply UInt8.toNat_inj.1
  apply Nat.eq_of_testBit_eq
  intro i
  by_cases hi : i < 8
  · exact h i hi
  · have e : ∀ c : UInt8, c.toNat.testBit i = false := fun c => Nat.testBit_lt_two_pow (Nat.lt_of_lt_of_le c.toNat_lt (Nat.pow_le_pow_right (n := 2) (by omega) (by omega : 8 ≤ i)))
    rw [e, e]
theorem bits_ext {f g : List UInt8} (hl : f.length = g.length) (h : ∀ p, p < 8 * f.length → bitF f p = bitF g p) : f = g := by
  refine List.ext_getElem hl fun i h1 h2 => byte_ext fun k hk => ?_
  have := h (8 * i + k) (by omega)
  unfold bitF at this
  rw [show (8 * i + k) / 8 = i by omega, show (8 * i + k) % 8 = k by omega, List.getD_eq_getElem?_getD, List.getD_eq_getElem?_getD, List.getElem?_eq_getElem h1, List.getElem?_eq_getElem h2] at this
  exact this
/-- how many bytes for n texts -/
def szF (n : Nat) : Nat := max 1 ((10 * n + 7) / 8)
theorem szF_pos (n : Nat) : 1 ≤ szF n := Nat.le_max_left _ _
theorem bitF_zero (n p : Nat) : bitF (List.replicate n 0) p = false := by
  unfold bitF
  have : (List.replicate n (0 : UInt8)).getD (p / 8) 0 = 0 := by
    rw [List.getD_eq_getElem?_getD, List.getElem?_replicate]
    split <;> rfl
  rw [this]
  simp [bitN]
end Go.Bl
