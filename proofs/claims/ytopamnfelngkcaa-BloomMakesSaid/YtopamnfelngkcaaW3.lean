/-
  Layer 16: the document's hash. No condition besides what the arguments are.
-/
import Derived.Test.YtopamnfelngkcaaW2
namespace Go.Proofs.Ytopamnfelngkcaa
open Go.RowKit Go.Sl Go.Bl
set_option linter.unusedVariables false

theorem stepI {l : List UInt8} {x : UInt8} {K K2 : Int} (h : u32 (word l) = K) (h2 : u32 (word (x :: l)) = K2) : (K * 256 % 4294967296 + (x.toNat : Int) % 4294967296) % 4294967296 = K2 := by rw [byteI, ← h, stepw, h2]

set_option maxRecDepth 100000 in
set_option maxHeartbeats 1000000 in
theorem rhash_any {seed : BitVec 32} {S0 R : Int} (hS : u32 seed = S0) (l : List UInt8) (hl : l.length ≤ 100000) (hR : u32 (hash seed l) = R) (w : World) :
    Calls Try.prog 9 #[.int .u32 S0, .string (bstr l)] w fun e w' => e = .returned (.int .u32 R) ∧ Below w.heap.size w w' := by
  have HS := Lib.hid hS
  have HR := Lib.hid hR
  have HL := Lib.hid hl
  clear hS hR
  go_enter Try.func9, Try.ntmps9
  go_wp2_with fail
  go_loopw [5, 6, 7, 8] (fun s5 s6 _ _ wr => ∃ (x : BitVec 32) (X : Int) (a : Nat), s5 = .int .u32 X ∧ s6 = .int .i64 a ∧ a ≤ l.length ∧ Hid (Go.Bl.u32 x = X) ∧ Hid (hs (l.drop a) x = hs l seed) ∧ Hid (Below w.heap.size w wr)) (fun _ s6 _ _ _ => l.length - (intOf s6).toNat)
  case atStart => exact ⟨seed, _, 0, rfl, rfl, by omega, HS, Lib.hid rfl, Lib.hid (Below.refl _ _)⟩
  case round =>
    obtain ⟨wo, rfl⟩ : ∃ u : World, u = wr := ⟨_, rfl⟩
    obtain ⟨x, X, a, rfl, rfl, ha, HX, HI, HW⟩ := hrel
    by_cases h4 : a + 4 ≤ l.length
    · obtain ⟨b0, h0⟩ : ∃ b, l[a] = b := ⟨_, rfl⟩
      obtain ⟨b1, h1⟩ : ∃ b, l[a + 1] = b := ⟨_, rfl⟩
      obtain ⟨b2, h2⟩ : ∃ b, l[a + 2] = b := ⟨_, rfl⟩
      obtain ⟨b3, h3⟩ : ∃ b, l[a + 3] = b := ⟨_, rfl⟩
      have HI2 : Hid (hs (l.drop (a + 4)) (rnd x (word [b0, b1, b2, b3])) = hs l seed) := Lib.hid (by rw [← HI.out, hs_four h4, h0, h1, h2, h3])
      have d4 : (a : Int) + 4 ≤ (l.length : Int) := by omega
      clear HI
      go_wp2_with fail
      go_loopw [7, 8] (fun s7 s8 wr => ∃ (m : Nat) (K : Int), s8 = .int .i64 (3 - (m : Int)) ∧ m ≤ 4 ∧ s7 = .int .u32 K ∧ Hid (Go.Bl.u32 (word ([b0, b1, b2, b3].drop (4 - m))) = K) ∧ Hid (Below w.heap.size w wr)) (fun _ s8 _ => (intOf s8 + 1).toNat)
      case atStart => exact ⟨0, _, rfl, by omega, rfl, Lib.hid rfl, HW⟩
      case round =>
        obtain ⟨m, K, rfl, hm, rfl, hK, HW⟩ := hrel
        by_cases hm2 : m < 4
        · rcases (by omega : m = 0 ∨ m = 1 ∨ m = 2 ∨ m = 3) with rfl | rfl | rfl | rfl
          · obtain ⟨K2, hK2⟩ : ∃ K2, Hid (Go.Bl.u32 (word [b3]) = K2) := ⟨_, Lib.hid rfl⟩
            have k := stepI (l := []) hK.out hK2.out
            have KK := Lib.hid k
            go_wp2_with fail
            go_roundw
            case rel => exact ⟨1, _, rfl, by omega, rfl, Lib.hid (hK2.out.trans KK.out.symm), HW⟩
            case measure => simp [intOf]
          · obtain ⟨K2, hK2⟩ : ∃ K2, Hid (Go.Bl.u32 (word [b2, b3]) = K2) := ⟨_, Lib.hid rfl⟩
            have k := stepI (l := [b3]) hK.out hK2.out
            have KK := Lib.hid k
            go_wp2_with fail
            go_roundw
            case rel => exact ⟨2, _, rfl, by omega, rfl, Lib.hid (hK2.out.trans KK.out.symm), HW⟩
            case measure => simp [intOf]
          · obtain ⟨K2, hK2⟩ : ∃ K2, Hid (Go.Bl.u32 (word [b1, b2, b3]) = K2) := ⟨_, Lib.hid rfl⟩
            have k := stepI (l := [b2, b3]) hK.out hK2.out
            have KK := Lib.hid k
            go_wp2_with fail
            go_roundw
            case rel => exact ⟨3, _, rfl, by omega, rfl, Lib.hid (hK2.out.trans KK.out.symm), HW⟩
            case measure => simp [intOf]
          · obtain ⟨K2, hK2⟩ : ∃ K2, Hid (Go.Bl.u32 (word [b0, b1, b2, b3]) = K2) := ⟨_, Lib.hid rfl⟩
            have k := stepI (l := [b1, b2, b3]) hK.out hK2.out
            have KK := Lib.hid k
            go_wp2_with fail
            go_roundw
            case rel => exact ⟨4, _, rfl, by omega, rfl, Lib.hid (hK2.out.trans KK.out.symm), HW⟩
            case measure => simp [intOf]
        · obtain rfl : m = 4 := by omega
          have hK' : Hid (Go.Bl.u32 (word [b0, b1, b2, b3]) = K) := Lib.hid hK.out
          obtain ⟨M, hM⟩ : ∃ M, Hid (Go.Bl.u32 (mix (word [b0, b1, b2, b3])) = M) := ⟨_, Lib.hid rfl⟩
          obtain ⟨P, hP⟩ : ∃ P, Hid (Go.Bl.u32 (x ^^^ mix (word [b0, b1, b2, b3])) = P) := ⟨_, Lib.hid rfl⟩
          obtain ⟨Q, hQ⟩ : ∃ Q, Hid (Go.Bl.u32 (rot (x ^^^ mix (word [b0, b1, b2, b3])) 13) = Q) := ⟨_, Lib.hid rfl⟩
          obtain ⟨N, hN⟩ : ∃ N, Hid (Go.Bl.u32 (rnd x (word [b0, b1, b2, b3])) = N) := ⟨_, Lib.hid rfl⟩
          have k2 : bits .xor .u32 X M = P := by rw [xorI HX.out hM.out, hP.out]
          have k3 := rndI hQ.out hN.out
          have K3 := Lib.hid k3
          have HMx := Lib.hid (fun u => rmixed_any hK'.out hM.out u)
          have HRt := Lib.hid (fun u => left13_any hP.out hQ.out u)
          clear hK hm hm2
          go_wp2_with fail
          refine (HMx.out _).mono ?_
          rintro e w1 ⟨rfl, rfl⟩
          go_wp2_with fail
          refine (HRt.out _).mono ?_
          rintro e w1 ⟨rfl, rfl⟩
          go_wp2_with fail
          go_roundw
          case rel => exact ⟨_, _, a + 4, rfl, by go_num, by omega, Lib.hid (by first | exact hN.out | exact hN.out.trans K3.out.symm), HI2, HW⟩
          case measure => simp [intOf]; omega
    · have hr4 : (l.drop a).length < 4 := by rw [List.length_drop]; omega
      have d4 : ¬ (a : Int) + 4 ≤ (l.length : Int) := by omega
      obtain ⟨H0, hh0⟩ : ∃ M, Hid (Go.Bl.u32 (hs l seed) = M) := ⟨_, Lib.hid rfl⟩
      obtain ⟨H1, H2, H3, H4, H5, k1, k2, k3, k4, k5, k6⟩ := finI hh0.out HL.out HR.out
      have HF := Lib.hid hr4
      obtain ⟨⟨p1, p1'⟩, ⟨p3, p3'⟩, p5, p5'⟩ : (0 ≤ H1 ∧ H1 < 4294967296) ∧ (0 ≤ H3 ∧ H3 < 4294967296) ∧ (0 ≤ H5 ∧ H5 < 4294967296) := by
        rw [← k3, ← k5, ← k1, show (l.length : Int) = Go.Bl.u32 (BitVec.ofNat 32 l.length) from lit _ (by omega), ← hh0.out, bxor]
        exact ⟨u32_lt _, ⟨by omega, by omega⟩, ⟨by omega, by omega⟩⟩
      clear h4 hr4
      by_cases hal : a < l.length
      · have d5 : (a : Int) < (l.length : Int) := by omega
        have HK0 : Hid (Go.Bl.u32 (word (l.drop l.length)) = 0) := Lib.hid (by rw [List.drop_length]; exact zero32.symm)
        go_wp2_with fail
        go_loopw [9, 10] (fun s9 s10 wr => ∃ (p : Nat) (z K : Int), s10 = .int .i64 z ∧ z = (p : Int) - 1 ∧ a ≤ p ∧ p ≤ l.length ∧ s9 = .int .u32 K ∧ Hid (Go.Bl.u32 (word (l.drop p)) = K) ∧ Hid (Below w.heap.size w wr)) (fun _ s10 _ => (intOf s10 + 1).toNat)
        case atStart => exact ⟨l.length, _, _, rfl, rfl, by omega, by omega, rfl, HK0, HW⟩
        case round =>
          obtain ⟨p, z, K, rfl, hz, hp1, hp2, rfl, hK, HW⟩ := hrel
          by_cases hpa : a < p
          · obtain ⟨q, rfl⟩ : ∃ q, p = q + 1 := ⟨p - 1, by omega⟩
            obtain rfl : z = (q : Int) := by omega
            have hql : q < l.length := by omega
            obtain ⟨b, hb⟩ : ∃ b, l[q] = b := ⟨_, rfl⟩
            obtain ⟨K2, hK2⟩ : ∃ K2, Hid (Go.Bl.u32 (word (l.drop q)) = K2) := ⟨_, Lib.hid rfl⟩
            have k := stepI (x := b) (K2 := K2) hK.out (by rw [← hb, ← List.drop_eq_getElem_cons hql]; exact hK2.out)
            have KK := Lib.hid k
            have dq : (a : Int) ≤ (q : Int) := by omega
            clear hz k1 k2 k3 k4 k5 k6
            go_wp2_with fail
            go_roundw
            case rel => exact ⟨q, _, _, rfl, rfl, by omega, by omega, rfl, Lib.hid (hK2.out.trans KK.out.symm), HW⟩
            case measure => simp [intOf]
          · obtain rfl : p = a := by omega
            have dz : ¬ (p : Int) ≤ z := by omega
            obtain ⟨M, hM⟩ : ∃ M, Hid (Go.Bl.u32 (mix (word (l.drop p))) = M) := ⟨_, Lib.hid rfl⟩
            have HMx := Lib.hid (fun u => rmixed_any hK.out hM.out u)
            have k0 : bits .xor .u32 X M = H0 := by rw [xorI HX.out hM.out, ← hh0.out, ← HI.out, hs_few HF.out]
            clear hz hpa hp1 hp2
            go_wp2_with fail
            refine (HMx.out _).mono ?_
            rintro e w1 ⟨rfl, rfl⟩
            go_wp2_with fail
            go_ret
            exact ⟨rfl, HW.out⟩
      · obtain rfl : a = l.length := by omega
        obtain rfl : X = H0 := by
          rw [← HX.out, ← hh0.out, ← HI.out, List.drop_length, hs_few (by simp), word_nil, mix_zero]; simp
        go_wp2_with fail
        go_ret
        exact ⟨rfl, HW.out⟩
end Go.Proofs.Ytopamnfelngkcaa
