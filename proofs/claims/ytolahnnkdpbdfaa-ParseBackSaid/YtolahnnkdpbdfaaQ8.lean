/-
  Walks of layer 27: works, the law's. No condition.
-/
import Derived.Test.YtolahnnkdpbdfaaQ7

namespace Go.Proofs.Ytolahnnkdpbdfaa
open Go.RowKit Go.Sl

def wText : List UInt8 := [109, 97, 105, 110, 126, 50, 46, 46, 118, 49, 46, 48, 94, 32, 45, 45, 109, 97, 120, 61, 53]
def wToks : List Lex.Tok := [(1, [109, 97, 105, 110], 0), (4, [126], 4), (1, [50], 5), (5, [46, 46], 6), (1, [118, 49, 46, 48], 8), (3, [94], 12), (8, [32], 13), (2, [45, 45, 109, 97, 120, 61, 53], 14), (9, [], 21)]
theorem wToks_ok : Lex.tokens Lex.one wText = .ok wToks := by rfl
theorem tokens_w (w : World) : Calls Try.prog 13 #[.string ⟨#[109, 97, 105, 110, 126, 50, 46, 46, 118, 49, 46, 48, 94, 32, 45, 45, 109, 97, 120, 61, 53]⟩] w fun e w' => Below w.heap.size w w' ∧ ∃ r, e = .returned (.tuple #[r, .int .i64 0, .int .i64 0]) ∧ Own eTok 3 w.heap.size 33 w' r wToks := by
  refine (tokens_any wText w (by decide)).mono ?_
  rintro e w' ⟨hb, he⟩
  rw [wToks_ok] at he
  exact ⟨hb, he⟩
theorem tok_at {w : World} {v : Value} (h : Sl eTok 3 w v wToks) (k : Nat) (hk : k < wToks.length) (q : Int) (hq : (k : Int) = q) (A : Nat) (hA : wToks[k].1 = A) (s : List UInt8) (hs : wToks[k].2.1 = s) :
    ∃ b o, b < w.heap.size ∧ (∀ (ik : IntKind) (u : World), (Instr.indexAt 23 v (.int ik q)).run Try.prog u = .ok (.pointer (some ⟨b, o, none⟩)) u) ∧ w.cell? ⟨b, o, none⟩ = some (.int .i64 (A : Nat)) ∧ w.cell? ⟨b, o + 1, none⟩ = some (.string ⟨s.toArray⟩) := by
  subst hq hA hs
  obtain ⟨b, o, h1, h2, h3⟩ := h.at (P := Try.prog) Try.underlying23 cells33 some33 hk
  exact ⟨b, o, h1, h2, h3 0 (by omega), h3 1 (by omega)⟩

set_option maxHeartbeats 1000000 in
theorem works_any (w : World) : Calls Try.prog 12 #[] w fun e w' => e = .returned (.bool true) ∧ Below w.heap.size w w' := by
  go_enter Try.func12, Try.ntmps12
  go_wp2_with (go_at_call 13; go_must (refine (tokens_w _).mono ?_; rintro e w' ⟨hb, r, rfl, ho⟩; have HB := Lib.hid hb; have hs := ho.sl len_eTok; have hlen := hs.run_len (P := Try.prog) Try.underlying23; obtain ⟨b0, o0, z0, i0, p0, q0⟩ := tok_at hs 0 (by decide) 0 rfl 1 rfl _ rfl; obtain ⟨b3, o3, z3, i3, p3, q3⟩ := tok_at hs 3 (by decide) 3 rfl 5 rfl _ rfl; obtain ⟨b4, o4, z4, i4, p4, q4⟩ := tok_at hs 4 (by decide) 4 rfl 1 rfl _ rfl; obtain ⟨b7, o7, z7, i7, p7, q7⟩ := tok_at hs 7 (by decide) 7 rfl 2 rfl _ rfl; clear hb ho hs))
  go_ret
  exact ⟨rfl, HB.out⟩
end Go.Proofs.Ytolahnnkdpbdfaa
