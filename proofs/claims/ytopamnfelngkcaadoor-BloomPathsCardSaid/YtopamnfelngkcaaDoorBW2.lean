/-
  Layer 16: the program's hash. No condition besides what the arguments are.
-/
import Derived.Test.YtopamnfelngkcaaDoorBW1
namespace Go.Proofs.YtopamnfelngkcaaDoor.Bm
open Go.RowKit Go.Sl Go.Bl
set_option linter.unusedVariables false

def szOf (v : Value) : Nat := match v with | .string b => b.size | _ => 0
theorem xorI {a b : BitVec 32} {A B : Int} (ha : u32 a = A) (hb : u32 b = B) : bits .xor .u32 A B = u32 (a ^^^ b) := by rw [← ha, ← hb, bxor]
theorem rnd_eq (h k : BitVec 32) : rnd h k = rot (h ^^^ mix k) 13 * 5#32 + 0xe6546b64#32 := by unfold rnd; exact Eq.refl _
theorem rndI {x k : BitVec 32} {Q N : Int} (hQ : u32 (rot (x ^^^ mix k) 13) = Q) (hN : u32 (rnd x k) = N) : (Q * 5 % 4294967296 + 3864292196) % 4294967296 = N := by rw [← hQ, m5i, ← hN, rnd_eq]
theorem hs_cons (a b c d : UInt8) (r : List UInt8) (x : BitVec 32) : hs (a :: b :: c :: d :: r) x = hs r (rnd x (word [a, b, c, d])) := by unfold hs; rw [hsG_four]
theorem byteI (a : UInt8) : (a.toNat : Int) % 4294967296 = (a.toNat : Int) := by have := a.toNat_lt; omega
theorem fourI {a b c d : UInt8} {K : Int} (h : u32 (word [a, b, c, d]) = K) : bits .or .u32 (bits .or .u32 (bits .or .u32 ((a.toNat : Int) % 4294967296) ((b.toNat : Int) % 4294967296 * 256 % 4294967296)) ((c.toNat : Int) % 4294967296 * 65536 % 4294967296)) ((d.toNat : Int) % 4294967296 * 16777216 % 4294967296) = K := by
  rw [byteI, byteI, byteI, byteI, ← h, four]

/-- the end of a hash, step by step -/
theorem finI {h : BitVec 32} {n : Nat} {H0 R : Int} (h0 : u32 h = H0) (hn : n ≤ 100000) (hR : u32 (fin h n) = R) : ∃ H1 H2 H3 H4 H5 : Int, bits .xor .u32 H0 (n : Int) = H1 ∧ bits .xor .u32 H1 (H1 / 65536) = H2 ∧ H2 * 2246822507 % 4294967296 = H3 ∧ bits .xor .u32 H3 (H3 / 8192) = H4 ∧ H4 * 3266489909 % 4294967296 = H5 ∧ bits .xor .u32 H5 (H5 / 65536) = R := by
  have e : (n : Int) = u32 (BitVec.ofNat 32 n) := lit n (by omega)
  rw [e, ← h0, bxor]
  refine ⟨_, _, _, _, _, rfl, (s16i _), (m3i _), (s13i _), (m4i _), ?_⟩
  rw [s16i, ← hR]
  unfold fin
  exact Eq.refl _

/-- but for draws the same world -/
def Dn (w w' : World) : Prop := ∃ n, w' = w.drewN n
theorem Dn.refl (w : World) : Dn w w := ⟨0, rfl⟩
theorem Dn.more {w w' : World} (h : Dn w w') (m : Nat) : Dn w (w'.drewN m) := by
  obtain ⟨n, rfl⟩ := h; exact ⟨n + m, by rw [World.drewN_drewN]⟩
theorem Dn.trans {w w' w2 : World} (h : Dn w w') (h2 : Dn w' w2) : Dn w w2 := by
  obtain ⟨m, rfl⟩ := h2; exact h.more m
theorem Dn.below {w w' : World} {B : Nat} (h : Dn w w') : Below B w w' := by
  obtain ⟨n, rfl⟩ := h; exact below_drewN (Below.refl _ _) n
theorem Dn.heap {w w' : World} (h : Dn w w') : w'.heap = w.heap := by
  obtain ⟨n, rfl⟩ := h
  induction n with
  | zero => rfl
  | succ n ih => exact ih

set_option maxRecDepth 100000 in
set_option maxHeartbeats 1000000 in
theorem hash_any {seed : BitVec 32} {S0 R : Int} (hS : u32 seed = S0) (l : List UInt8) (hl : l.length ≤ 100000) (hR : u32 (hash seed l) = R) (w : World) :
    Calls Tryd.prog 74 #[.int .u32 S0, .string (bstr l)] w fun e w' => e = .returned (.int .u32 R) ∧ Dn w w' := by
  have HS := Lib.hid hS
  have HR := Lib.hid hR
  have HL := Lib.hid hl
  clear hS hR
  go_enter Tryd.func74, Tryd.ntmps74
  go_wp2_with fail
  go_loopw [5, 6] (fun s5 s6 wr => ∃ (x : BitVec 32) (X : Int) (r : List UInt8), s5 = .int .u32 X ∧ s6 = .string (bstr r) ∧ Hid (Go.Bl.u32 x = X) ∧ Hid (hs r x = hs l seed) ∧ Hid (r.length ≤ l.length) ∧ Hid (Dn w wr)) (fun _ s6 _ => szOf s6)
  case atStart => exact ⟨seed, _, l, rfl, rfl, HS, Lib.hid rfl, Lib.hid (Nat.le_refl _), Lib.hid (Dn.refl _)⟩
  case round =>
    obtain ⟨x, X, r, rfl, rfl, HX, HI, HLe, HW⟩ := hrel
    by_cases h4 : 4 ≤ r.length
    · obtain ⟨a, b, c, d, r, rfl⟩ : ∃ a b c d r', r = a :: b :: c :: d :: r' := by
        match r, h4 with
        | a :: b :: c :: d :: r', _ => exact ⟨a, b, c, d, r', rfl⟩
      obtain ⟨K, hK⟩ : ∃ K, Hid (Go.Bl.u32 (word [a, b, c, d]) = K) := ⟨_, Lib.hid rfl⟩
      obtain ⟨M, hM⟩ : ∃ M, Hid (Go.Bl.u32 (mix (word [a, b, c, d])) = M) := ⟨_, Lib.hid rfl⟩
      obtain ⟨P, hP⟩ : ∃ P, Hid (Go.Bl.u32 (x ^^^ mix (word [a, b, c, d])) = P) := ⟨_, Lib.hid rfl⟩
      obtain ⟨Q, hQ⟩ : ∃ Q, Hid (Go.Bl.u32 (rot (x ^^^ mix (word [a, b, c, d])) 13) = Q) := ⟨_, Lib.hid rfl⟩
      obtain ⟨N, hN⟩ : ∃ N, Hid (Go.Bl.u32 (rnd x (word [a, b, c, d])) = N) := ⟨_, Lib.hid rfl⟩
      have k1 := fourI hK.out
      have k2 : bits .xor .u32 X M = P := by rw [xorI HX.out hM.out, hP.out]
      have k3 := rndI hQ.out hN.out
      have K3 := Lib.hid k3
      have HMx := Lib.hid (fun u => mixed_any hK.out hM.out u)
      have HRt := Lib.hid (fun u => rot13_any hP.out hQ.out u)
      have HI2 : Hid (hs r (rnd x (word [a, b, c, d])) = hs l seed) := Lib.hid (by rw [← HI.out, hs_cons])
      have HLe2 : Hid (r.length ≤ l.length) := Lib.hid (by have := HLe.out; simp only [List.length_cons] at this; omega)
      clear h4 HI
      go_wp2_with fail
      go_quiet (fail)
      go_wp2_with fail
      refine (HMx.out _).mono ?_
      rintro e w1 ⟨rfl, rfl⟩
      go_wp2_with fail
      refine (HRt.out _).mono ?_
      rintro e w1 ⟨rfl, rfl⟩
      go_wp2_with fail
      go_roundw
      case rel => exact ⟨_, _, r, rfl, rfl, Lib.hid (hN.out.trans K3.out.symm), HI2, HLe2, Lib.hid (HW.out.more _)⟩
      case measure => (simp [szOf]; rw [bstr_size, bstr_size]; simp only [List.length_cons]; omega)
    · have HSh : Hid (r.length < 4) := Lib.hid (by omega)
      have d4 : ¬ (4 : Int) ≤ (r.length : Int) := by omega
      have hr4 : r.length < 4 := by omega
      clear h4
      go_wp2_with fail
      go_loopw [8, 44] (fun s8 i wr => ∃ (j : Nat) (K : Int), i = .int .i64 j ∧ j ≤ r.length ∧ s8 = .int .u32 K ∧ Hid (Go.Bl.u32 (word (r.take j)) = K) ∧ Hid (Dn w wr)) (fun _ i _ => r.length - (intOf i).toNat)
      case atStart => exact ⟨0, _, rfl, by omega, rfl, Lib.hid rfl, HW⟩
      case round =>
        obtain ⟨j, K, rfl, hj, rfl, hK, HW⟩ := hrel
        by_cases hj2 : j < r.length
        · obtain ⟨b, hb⟩ : ∃ b, r[j] = b := ⟨_, rfl⟩
          obtain ⟨K2, hK2⟩ : ∃ K2, Hid (Go.Bl.u32 (word (r.take (j + 1))) = K2) := ⟨_, Lib.hid rfl⟩
          have hT : Hid (r.take (j + 1) = r.take j ++ [b]) := Lib.hid (by rw [List.take_succ_eq_append_getElem hj2, hb])
          rcases (by omega : j = 0 ∨ j = 1 ∨ j = 2) with rfl | rfl | rfl
          · have kj : bits .or .u32 K ((b.toNat : Int) % 4294967296) = K2 := by
              rw [← hK.out, ← hK2.out, hT.out, byteI]
              have := orI (r.take 0) b 1 (by simp); rwa [Int.mul_one, byteI] at this
            have hj0 : (0 : Int) < (r.length : Int) := by omega
            have KJ := Lib.hid kj
            go_wp2_with fail
            go_roundw
            case rel => exact ⟨1, _, rfl, by omega, rfl, hK2, HW⟩
            case measure => simp [intOf]; omega
          · have kj : bits .or .u32 K ((b.toNat : Int) % 4294967296 * 256 % 4294967296) = K2 := by
              rw [← hK.out, ← hK2.out, hT.out, byteI]
              exact orI _ _ _ (by rw [List.length_take, Nat.min_eq_left (by omega)]; decide)
            have hj0 : (1 : Int) < (r.length : Int) := by omega
            have KJ := Lib.hid kj
            go_wp2_with fail
            go_roundw
            case rel => exact ⟨2, _, rfl, by omega, rfl, hK2, HW⟩
            case measure => simp [intOf]; omega
          · have kj : bits .or .u32 K ((b.toNat : Int) % 4294967296 * 65536 % 4294967296) = K2 := by
              rw [← hK.out, ← hK2.out, hT.out, byteI]
              exact orI _ _ _ (by rw [List.length_take, Nat.min_eq_left (by omega)]; decide)
            have hj0 : (2 : Int) < (r.length : Int) := by omega
            have KJ := Lib.hid kj
            go_wp2_with fail
            go_roundw
            case rel => exact ⟨3, _, rfl, by omega, rfl, hK2, HW⟩
            case measure => simp [intOf]; omega
        · obtain rfl : j = r.length := by omega
          have hw : Hid (Go.Bl.u32 (word r) = K) := Lib.hid (by have := hK.out; rwa [List.take_length] at this)
          obtain ⟨M, hM⟩ : ∃ M, Hid (Go.Bl.u32 (mix (word r)) = M) := ⟨_, Lib.hid rfl⟩
          have HMx := Lib.hid (fun u => mixed_any hw.out hM.out u)
          obtain ⟨H0, h0⟩ : ∃ M, Hid (Go.Bl.u32 (hs l seed) = M) := ⟨_, Lib.hid rfl⟩
          have k0 : bits .xor .u32 X M = H0 := by rw [xorI HX.out hM.out, ← h0.out, ← HI.out, hs_few HSh.out]
          obtain ⟨H1, H2, H3, H4, H5, k1, k2, k3, k4, k5, k6⟩ := finI h0.out HL.out HR.out
          have F := Lib.hid (And.intro k0 (And.intro k1 (And.intro k2 (And.intro k3 (And.intro k4 (And.intro k5 k6))))))
          clear hK
          go_wp2_with fail
          refine (HMx.out _).mono ?_
          rintro e w1 ⟨rfl, rfl⟩
          go_wp2_with fail
          go_ret
          exact ⟨rfl, HW.out⟩
end Go.Proofs.YtopamnfelngkcaaDoor.Bm
