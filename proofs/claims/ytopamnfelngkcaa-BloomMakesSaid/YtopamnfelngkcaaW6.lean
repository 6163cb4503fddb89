/-
  Layer 16: the document's Bit, Places, Has; Bits. No condition besides what the arguments are.
-/
import Derived.Test.YtopamnfelngkcaaW5
import Derived.Test.YtopamnfelngkcaaAp
import Derived.Test.YtopamnfelngkcaaShelf
namespace Go.Proofs.Ytopamnfelngkcaa
open Go.Proofs Go.RowKit Go.Sl Go.Bl
set_option linter.unusedVariables false

set_option maxHeartbeats 1000000 in
theorem rbit_any (v : Value) (f : List UInt8) (p : Nat) (w : World) (hv : Sl eByte 1 w v f) (hp : p / 8 < f.length) (hp2 : p < 1000000) :
    Calls Try.prog 14 #[v, .int .i64 (p : Int)] w fun e w' => e = .returned (.bool (bitF f p)) ∧ w = w' := by
  obtain ⟨b5, o5, hb5, hix, hcell⟩ := hv.at (P := Try.prog) Try.underlying28 cells5 some5 hp
  have e1 := hcell 0 (by omega)
  simp only [eByte, List.getElem?_cons_zero, Nat.add_zero] at e1
  obtain ⟨cb, hcb⟩ : ∃ cb, f[p / 8] = cb := ⟨_, rfl⟩
  rw [hcb] at e1
  have HB : Hid (bitF f p = bitN cb (p % 8)) := Lib.hid (by unfold bitF; rw [List.getD_eq_getElem?_getD, List.getElem?_eq_getElem hp, hcb]; rfl)
  rw [show ((p / 8 : Nat) : Int) = (p : Int) / 8 by omega] at hix
  have hc := cb.toNat_lt
  clear hcell hcb
  go_enter Try.func14, Try.ntmps14
  go_wp2_with fail
  go_loopw [5, 6] (fun c i wr => ∃ (k : Nat) (C : Int), i = .int .i64 k ∧ k ≤ p % 8 ∧ c = .int .i64 C ∧ Hid (C = ((cb.toNat / 2 ^ k : Nat) : Int)) ∧ Hid (wr = w)) (fun _ i _ => p % 8 - (intOf i).toNat)
  case atStart => exact ⟨0, _, rfl, by omega, rfl, Lib.hid (by simp), Lib.hid rfl⟩
  case round =>
    obtain ⟨k, C, rfl, hk, rfl, hC, hW⟩ := hrel
    obtain rfl := hW.out
    have hC2 : 0 ≤ C ∧ C ≤ 255 := by
      have h1 := hC.out
      have h2 := Nat.div_le_self cb.toNat (2 ^ k)
      obtain ⟨D, hD⟩ : ∃ D, cb.toNat / 2 ^ k = D := ⟨_, rfl⟩
      rw [hD] at h1 h2
      omega
    by_cases hlt : k < p % 8
    · have hd : (k : Int) < (p : Int) % 8 := by omega
      have HN : Hid (C / 2 = ((cb.toNat / 2 ^ (k + 1) : Nat) : Int)) := Lib.hid (by rw [hC.out, Nat.pow_succ, ← Nat.div_div_eq_div_mul]; obtain ⟨D, hD⟩ : ∃ D, cb.toNat / 2 ^ k = D := ⟨_, rfl⟩; rw [hD]; omega)
      go_wp2_with fail
      go_roundw
      case rel => exact ⟨k + 1, _, by go_num, by omega, rfl, HN, by first | exact Lib.hid rfl | exact Lib.hid trivial⟩
      case measure => simp [intOf]; omega
    · obtain rfl : k = p % 8 := by omega
      have hd : ¬ ((p % 8 : Nat) : Int) < (p : Int) % 8 := by omega
      have HE : Hid (bitF f p = (C % 2 == 1)) := Lib.hid (by
        rw [HB.out]; unfold bitN
        rw [Nat.testBit_eq_decide_div_mod_eq, hC.out, Bool.eq_iff_iff, decide_eq_true_eq, beq_iff_eq]; obtain ⟨D, hD⟩ : ∃ D, cb.toNat / 2 ^ (p % 8) = D := ⟨_, rfl⟩; rw [hD]; omega)
      clear hlt
      go_wp2_with fail
      go_ret
      exact ⟨by rw [HE.out]; rfl, rfl⟩

theorem cells3 : Try.prog.cellsOf 3 = 1 := by kernel_rfl
theorem some3 : (Try.prog.info? 3).isSome = true := by kernel_rfl
theorem info3 : (Try.prog.info? 3).map (fun i => (i.zero, i.size, i.bytes)) = some (some (.int .i64 0), 1, 8) := by kernel_rfl
theorem u3 : Try.prog.underlying 3 = some (.int .i64) := by kernel_rfl
/-- the places as numbers -/
def plcI7 (l : List UInt8) (many : Nat) : List Int := (List.range 7).map (fun i => (plc l many i : Int))
def plcK (l : List UInt8) (many k : Nat) : List Int := (List.range k).map (fun i => (plc l many i : Int))
theorem plcK_succ (l : List UInt8) (many k : Nat) : plcK l many (k + 1) = plcK l many k ++ [(plc l many k : Int)] := by unfold plcK; rw [List.range_succ, List.map_append]; rfl
theorem mulK {k : Nat} {b : BitVec 32} {H : Int} (h : u32 b = H) (hk : k < 7) : (k : Int) * H % 4294967296 = u32 (BitVec.ofNat 32 k * b) := by
  rw [← h, lit k (by omega), mulw]
theorem posI {l : List UInt8} {k : Nat} {A B : Int} (hA : u32 (hash s0 l) = A) (hB : u32 (hash s1 l) = B) (hk : k < 7) : (A + (k : Int) * B % 4294967296) % 4294967296 = u32 (hash s0 l + BitVec.ofNat 32 k * hash s1 l) := by
  rw [mulK hB hk, ← hA, addw]

set_option maxRecDepth 100000 in
set_option maxHeartbeats 1000000 in
theorem rplaces_any (l : List UInt8) (hl : l.length ≤ 100000) (many : Nat) (hm0 : 0 < many) (hm1 : many < 1000000) (w : World) :
    Calls Try.prog 23 #[.string (bstr l), .int .i64 (many : Int)] w fun e w' => ∃ v, e = .returned v ∧ Sl.Own eInt 1 w.heap.size 3 w' v (plcI7 l many) ∧ Below w.heap.size w w' := by
  obtain ⟨A, hA⟩ : ∃ X, Hid (u32 (hash s0 l) = X) := ⟨_, Lib.hid rfl⟩
  obtain ⟨B, hB⟩ : ∃ X, Hid (u32 (hash s1 l) = X) := ⟨_, Lib.hid rfl⟩
  have HA := Lib.hid (fun u => rhash_any (seed := s0) (S0 := 691726191) (by decide) l hl hA.out u)
  have HB := Lib.hid (fun u => rhash_any (seed := s1) (S0 := 2120511020) (by decide) l hl hB.out u)
  go_enter Try.func23, Try.ntmps23
  go_wp2_with fail
  refine (HA.out _).mono ?_
  rintro e w1 ⟨rfl, hb1⟩
  have HB1 := Lib.hid hb1
  clear hb1
  go_wp2_with fail
  refine (HB.out _).mono ?_
  rintro e w2 ⟨rfl, hb2⟩
  have HB2 := Lib.hid (HB1.out.trans (hb2.mono HB1.out.size))
  clear hb2 HA HB
  go_wp2_with fail
  go_loopw [5, 8] (fun v i wr => ∃ (k : Nat), i = .int .i64 k ∧ k ≤ 7 ∧ Hid (Sl.Own eInt 1 w.heap.size 3 wr v (plcK l many k)) ∧ Hid (Below w.heap.size w wr)) (fun _ i _ => 7 - (intOf i).toNat)
  case atStart => exact ⟨0, rfl, by omega, Lib.hid (Sl.Own.nil _ _ _ _ _), HB2⟩
  case round =>
    obtain ⟨k, rfl, hk, HO, HW⟩ := hrel
    by_cases hlt : k < 7
    · obtain ⟨X, hX⟩ : ∃ X, Hid (Go.Bl.u32 (hash s0 l + BitVec.ofNat 32 k * hash s1 l) = X) := ⟨_, Lib.hid rfl⟩
      have hX0 := u32_lt (hash s0 l + BitVec.ofNat 32 k * hash s1 l)
      have k1 := posI hA.out hB.out hlt
      have k2 := plcI hm0 hm1 hX.out
      rw [hX.out] at hX0 k1
      have HT := Lib.hid (plcK_succ l many k)
      obtain ⟨P, hP⟩ : ∃ P : Int, Hid ((plc l many k : Int) = P) := ⟨_, Lib.hid rfl⟩
      rw [hP.out] at k2 HT
      have hkl : (plcK l many k).length = k := by unfold plcK; simp
      have hkm : (k : Int) % 4294967296 = (k : Int) := by omega
      go_wp2_with (at_builtin; go_must (refine wpList_append1 rfl (en := eInt) (s := 1) (base := w.heap.size) (e := 3) _ _ 40 rfl (.int .i64 0) 8 Try.underlying40 info3 rfl (by decide) len_eInt one_eInt _ _ _ _ rfl (HO.out.alloc _) rfl (Sl.fresh len_eInt rfl rfl rfl (by simp [maxLen])) (by simp only [maxLen]; omega) (by omega) (by have := HW.out.size; simp; omega) ?_; intro ov' w6 hown hgr hbel hblk; have HO2 := Lib.hid hown; have HW2 := Lib.hid ((HW.out.alloc HW.out.size _).trans hbel); clear hown hgr hbel hblk))
      go_roundw
      case rel => exact ⟨k + 1, by go_num, by omega, Lib.hid (by rw [HT.out]; exact HO2.out), HW2⟩
      case measure => simp [intOf]; omega
    · obtain rfl : k = 7 := by omega
      go_wp2_with fail
      go_ret
      exact ⟨_, rfl, HO.out, HW.out⟩
end Go.Proofs.Ytopamnfelngkcaa
