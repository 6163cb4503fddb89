/-
  Layer 12: an id's digits, in plain Lean. No program is named here.
-/
import Derived.Test.YtopamnfelngkcaaDoorRP2
namespace Go.Refs
open Go.Sl Go.Route

def letters : List UInt8 := [48, 49, 50, 51, 52, 53, 54, 55, 56, 57, 97, 98, 99, 100, 101, 102]
/-- a digit's letter -/
def dig (n : Nat) : UInt8 := letters.getD n 0
/-- a letter's worth; 16: it is none -/
def wth (c : UInt8) : Nat := if 48 ≤ c.toNat ∧ c.toNat ≤ 57 then c.toNat - 48 else if 97 ≤ c.toNat ∧ c.toNat ≤ 102 then c.toNat - 87 else 16
def hex2 (b : UInt8) : List UInt8 := [dig (b.toNat / 16), dig (b.toNat % 16)]
def hexF (i : Idb) : List UInt8 := i.l.flatMap hex2
theorem hex2_len (b : UInt8) : (hex2 b).length = 2 := rfl
theorem hexs_len (l : List UInt8) : (l.flatMap hex2).length = 2 * l.length := by
  induction l with
  | nil => rfl
  | cons b l ih => rw [List.flatMap_cons, List.length_append, ih, hex2_len, List.length_cons]; omega
theorem hexF_len (i : Idb) : (hexF i).length = 64 := by unfold hexF; rw [hexs_len, i.len]
theorem wth_dig : ∀ n, n < 16 → wth (dig n) = n := by decide
theorem dig_wth : ∀ c : UInt8, wth c < 16 → dig (wth c) = c := by
  intro c hc
  unfold wth at hc ⊢
  split at hc
  · next h =>
    rw [if_pos h]
    obtain ⟨n, hn⟩ : ∃ n, n = c.toNat - 48 := ⟨_, rfl⟩
    have h1 : n < 10 := by omega
    have h2 : c = UInt8.ofNat (n + 48) := by apply UInt8.toNat_inj.1; rw [UInt8.toNat_ofNat']; omega
    rw [← hn, h2]
    have key : ∀ n, n < 10 → dig n = UInt8.ofNat (n + 48) := by decide
    exact key n h1
  · split at hc
    · next h0 h =>
      rw [if_neg h0, if_pos h]
      obtain ⟨n, hn⟩ : ∃ n, n = c.toNat - 97 := ⟨_, rfl⟩
      have h1 : n < 6 := by omega
      have h2 : c = UInt8.ofNat (n + 97) := by apply UInt8.toNat_inj.1; rw [UInt8.toNat_ofNat']; omega
      have h3 : c.toNat - 87 = n + 10 := by omega
      rw [h3, h2]
      have key : ∀ n, n < 6 → dig (n + 10) = UInt8.ofNat (n + 97) := by decide
      exact key n h1
    · omega
theorem dig_ne (n : Nat) (h : n < 16) : dig n ≠ 32 ∧ dig n ≠ 10 := by
  have key : ∀ n, n < 16 → dig n ≠ 32 ∧ dig n ≠ 10 := by decide
  exact key n h
theorem wth_ne {c : UInt8} (h : wth c < 16) : c ≠ 32 ∧ c ≠ 10 := by
  have := dig_ne _ h
  rwa [dig_wth c h] at this

/-- the byte of two letters -/
def byt (a b : UInt8) : UInt8 := UInt8.ofNat (wth a * 16 + wth b)
/-- the bytes of letters -/
def unhex : List UInt8 → List UInt8
  | a :: b :: r => byt a b :: unhex r
  | _ => []
theorem unhex_len : ∀ (l : List UInt8), (unhex l).length = l.length / 2
  | [] => rfl
  | [_] => by simp [unhex]
  | a :: b :: r => by simp only [unhex, List.length_cons, unhex_len r]; omega
def allHex (l : List UInt8) : Bool := l.all (fun c => decide (wth c < 16))
/-- the id of digits; an error's number -/
def readF (s : List UInt8) : Idb × Int := if h : s.length = 64 then (if allHex s then (⟨unhex s, by rw [unhex_len, h]⟩, 0) else (zId, 14)) else (zId, 3)
theorem unhex_at : ∀ (l : List UInt8) (k : Nat) (h : 2 * k + 1 < l.length), (unhex l)[k]? = some (byt l[2 * k] l[2 * k + 1])
  | [], k, h => by simp at h
  | [_], k, h => by simp at h
  | a :: b :: r, 0, h => rfl
  | a :: b :: r, k + 1, h => by
    have := unhex_at r k (by simp at h; omega)
    simp only [unhex, List.getElem?_cons_succ]
    rw [this]
    rfl
theorem byt_hex2 (b : UInt8) : byt (dig (b.toNat / 16)) (dig (b.toNat % 16)) = b := by
  have hb := b.toNat_lt
  unfold byt
  rw [wth_dig _ (by omega), wth_dig _ (by omega)]
  apply UInt8.toNat_inj.1
  rw [UInt8.toNat_ofNat']
  omega
theorem unhex_hexs (l : List UInt8) : unhex (l.flatMap hex2) = l := by
  induction l with
  | nil => rfl
  | cons b l ih =>
    rw [List.flatMap_cons]
    show byt (dig (b.toNat / 16)) (dig (b.toNat % 16)) :: unhex (l.flatMap hex2) = _
    rw [ih, byt_hex2]
theorem hexs_all (l : List UInt8) : allHex (l.flatMap hex2) = true := by
  unfold allHex
  rw [List.all_eq_true]
  intro c hc
  obtain ⟨b, _, hb⟩ := List.mem_flatMap.1 hc
  have hb1 := b.toNat_lt
  simp only [hex2, List.mem_cons, List.not_mem_nil, or_false] at hb
  rcases hb with rfl | rfl <;> rw [wth_dig _ (by omega)] <;> simp <;> omega
theorem readF_hex (i : Idb) : readF (hexF i) = (i, 0) := by
  unfold readF
  rw [dif_pos (hexF_len i), if_pos (by exact hexs_all i.l)]
  congr 1
  cases i with
  | mk l h =>
    simp only [Idb.mk.injEq]
    exact unhex_hexs l
theorem hexs_unhex : ∀ (l : List UInt8), allHex l = true → l.length % 2 = 0 → (unhex l).flatMap hex2 = l
  | [], _, _ => rfl
  | [_], _, h => by simp at h
  | a :: b :: r, h, hl => by
    simp only [allHex, List.all_cons, Bool.and_eq_true, decide_eq_true_eq] at h
    obtain ⟨ha, hb, hr⟩ := h
    rw [unhex, List.flatMap_cons, hexs_unhex r hr (by simp at hl; omega)]
    have hbt : (byt a b).toNat = wth a * 16 + wth b := by unfold byt; rw [UInt8.toNat_ofNat']; omega
    unfold hex2
    rw [hbt, show (wth a * 16 + wth b) / 16 = wth a by omega, show (wth a * 16 + wth b) % 16 = wth b by omega, dig_wth a ha, dig_wth b hb]
    rfl
end Go.Refs
