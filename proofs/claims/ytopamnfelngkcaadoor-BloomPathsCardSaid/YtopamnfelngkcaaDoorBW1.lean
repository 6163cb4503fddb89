/-
  Layer 16: the mixing of a word; both hashes. No condition besides what the arguments are.
-/
import Derived.Deep.QuietTactic
import Derived.BigQuiet
import Derived.WalkSpells
import Derived.Lib.Hide
import Derived.Below
import Derived.Test.YtopamnfelngkcaaDoorBP1
import Derived.Test.YtopamnfelngkcaaDoorBs
import Derived.Test.YtopamnfelngkcaaDoorProg
namespace Go.Proofs.YtopamnfelngkcaaDoor.Bm
open Go.RowKit Go.Sl Go.Bl
set_option linter.unusedVariables false

theorem rotI (x : BitVec 32) (k : Nat) (a b : Int) (ha : a = 2 ^ k) (hb : b = 2 ^ (32 - k)) : bits .or .u32 (u32 x * a % 4294967296) (u32 x / b) = u32 (rot x k) := by
  subst ha hb
  rw [shlw, shrw, bor]; rfl
theorem rot15i (x : BitVec 32) : bits .or .u32 (u32 x * 32768 % 4294967296) (u32 x / 131072) = u32 (rot x 15) := rotI x 15 _ _ (by decide) (by decide)
theorem rot13i (x : BitVec 32) : bits .or .u32 (u32 x * 8192 % 4294967296) (u32 x / 524288) = u32 (rot x 13) := rotI x 13 _ _ (by decide) (by decide)
theorem mulI (x c : BitVec 32) (n : Int) (h : n = u32 c) : u32 x * n % 4294967296 = u32 (x * c) := by rw [h, mulw]
theorem m1i (x : BitVec 32) : u32 x * 3432918353 % 4294967296 = u32 (x * 0xcc9e2d51#32) := mulI _ _ _ (by decide)
theorem m2i (x : BitVec 32) : u32 x * 461845907 % 4294967296 = u32 (x * 0x1b873593#32) := mulI _ _ _ (by decide)
theorem mxi (x : BitVec 32) : u32 (rot (x * 0xcc9e2d51#32) 15) * 461845907 % 4294967296 = u32 (mix x) := by unfold mix; exact m2i _
theorem m3i (x : BitVec 32) : u32 x * 2246822507 % 4294967296 = u32 (x * 0x85ebca6b#32) := mulI _ _ _ (by decide)
theorem m4i (x : BitVec 32) : u32 x * 3266489909 % 4294967296 = u32 (x * 0xc2b2ae35#32) := mulI _ _ _ (by decide)
theorem m5i (x : BitVec 32) : (u32 x * 5 % 4294967296 + 3864292196) % 4294967296 = u32 (x * 5#32 + 0xe6546b64#32) := by
  rw [mulI x 5#32 5 (by decide), show (3864292196 : Int) = u32 0xe6546b64#32 by decide, addw]
theorem s16i (x : BitVec 32) : bits .xor .u32 (u32 x) (u32 x / 65536) = u32 (x ^^^ x >>> 16) := by rw [show (65536 : Int) = 2 ^ 16 by decide, shrw, bxor]
theorem s13i (x : BitVec 32) : bits .xor .u32 (u32 x) (u32 x / 8192) = u32 (x ^^^ x >>> 13) := by rw [show (8192 : Int) = 2 ^ 13 by decide, shrw, bxor]
theorem b32 (x : UInt8) : (x.toNat : Int) = u32 (BitVec.ofNat 32 x.toNat) := lit _ (by have := x.toNat_lt; omega)
theorem stepw (l : List UInt8) (x : UInt8) : (u32 (word l) * 256 % 4294967296 + (x.toNat : Int)) % 4294967296 = u32 (word (x :: l)) := by
  rw [mulI (word l) 256#32 256 (by decide), b32, addw, word_cons]
theorem orI (l : List UInt8) (x : UInt8) (a : Int) (ha : a = 2 ^ (8 * l.length)) : bits .or .u32 (u32 (word l)) ((x.toNat : Int) * a % 4294967296) = u32 (word (l ++ [x])) := by
  subst ha
  rw [b32, shlw, bor, word_or]
theorem word1 (x : UInt8) : (x.toNat : Int) = u32 (word [x]) := by
  have := word_u32 (l := [x]) (by simp)
  rw [this]; simp [leN]
theorem four (a b c d : UInt8) : bits .or .u32 (bits .or .u32 (bits .or .u32 (a.toNat : Int) ((b.toNat : Int) * 256 % 4294967296)) ((c.toNat : Int) * 65536 % 4294967296)) ((d.toNat : Int) * 16777216 % 4294967296) = u32 (word [a, b, c, d]) := by
  rw [word1 a, orI [a] b 256 (by simp), orI ([a] ++ [b]) c 65536 (by simp), orI ([a] ++ [b] ++ [c]) d 16777216 (by simp)]
  rfl
theorem zero32 : (0 : Int) = u32 (word []) := rfl

theorem rot15_any {x : BitVec 32} {X R : Int} (hX : u32 x = X) (hR : u32 (rot x 15) = R) (w : World) : Calls Tryd.prog 99 #[.int .u32 X, .int .i64 15] w fun e w' => e = .returned (.int .u32 R) ∧ w = w' := by
  have h := rot15i x
  rw [hX, hR] at h
  have k : bits .and .u64 15 31 = 15 := by decide
  clear hX hR
  go_enter Tryd.func99, Tryd.ntmps99
  go_wp2_with fail
  go_ret
  exact ⟨rfl, rfl⟩
theorem rot13_any {x : BitVec 32} {X R : Int} (hX : u32 x = X) (hR : u32 (rot x 13) = R) (w : World) : Calls Tryd.prog 99 #[.int .u32 X, .int .i64 13] w fun e w' => e = .returned (.int .u32 R) ∧ w = w' := by
  have h := rot13i x
  rw [hX, hR] at h
  have k : bits .and .u64 13 31 = 13 := by decide
  clear hX hR
  go_enter Tryd.func99, Tryd.ntmps99
  go_wp2_with fail
  go_ret
  exact ⟨rfl, rfl⟩
theorem mixed_any {x : BitVec 32} {X R : Int} (hX : u32 x = X) (hR : u32 (mix x) = R) (w : World) : Calls Tryd.prog 100 #[.int .u32 X] w fun e w' => e = .returned (.int .u32 R) ∧ w = w' := by
  have h1 := m1i x
  have h2 := mxi x
  obtain ⟨Y, hY⟩ : ∃ Y, u32 (x * 0xcc9e2d51#32) = Y := ⟨_, rfl⟩
  obtain ⟨Z, hZ⟩ : ∃ Z, u32 (rot (x * 0xcc9e2d51#32) 15) = Z := ⟨_, rfl⟩
  rw [hX, hY] at h1
  rw [hZ, hR] at h2
  have H2 := Lib.hid h2
  clear h2
  have HC := Lib.hid (rot15_any hY hZ w)
  clear hX hR hY hZ
  go_enter Tryd.func100, Tryd.ntmps100
  go_wp2_with fail
  refine HC.out.mono ?_
  rintro e w' ⟨rfl, rfl⟩
  go_wp2_with fail
  go_ret
  exact ⟨congrArg (fun z => Ending.returned (Value.int .u32 z)) H2.out, rfl⟩
end Go.Proofs.YtopamnfelngkcaaDoor.Bm
