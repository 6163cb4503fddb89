/-
  Layer 20: Bare: the program's word and the document's. No condition besides what the argument is.
-/
import Derived.Test.YtibebmdpjaknpaaDoorW15
namespace Go.Proofs.YtibebmdpjaknpaaDoor
open Go.RowKit Go.Sl
set_option linter.unusedVariables false

/-- a line without what is blank at its end -/
def bare (l : List UInt8) : List UInt8 := Lib.trimRightS l [32, 9, 13, 10]
theorem bare_nil : bare [] = [] := rfl
theorem bare_blank {l : List UInt8} {c : UInt8} (h : c = 32 ∨ c = 9 ∨ c = 13 ∨ c = 10) : bare (l ++ [c]) = bare l := by
  unfold bare Lib.trimRightS
  rw [List.reverse_append, List.reverse_singleton, List.singleton_append, List.dropWhile_cons]
  rw [if_pos (by rcases h with rfl | rfl | rfl | rfl <;> decide)]
theorem bare_other {l : List UInt8} {c : UInt8} (h : ¬ (c = 32 ∨ c = 9 ∨ c = 13 ∨ c = 10)) : bare (l ++ [c]) = l ++ [c] := by
  unfold bare Lib.trimRightS
  rw [List.reverse_append, List.reverse_singleton, List.singleton_append, List.dropWhile_cons]
  rw [if_neg (by simpa using h)]
  simp

set_option maxHeartbeats 400000 in
theorem bare_any (l : List UInt8) (w : World) (hl : l.length ≤ 9223372036854775807) :
    Calls Tryd.prog 7 #[.string (bstr l)] w fun e w' => e = .returned (.string (bstr (bare l))) ∧ Below w.heap.size w w' := by
  have hC := Go.Proofs.Any.strings_TrimRight_laid Tryd.lays162 (by kernel_rfl) (bstr l) ⟨#[32, 9, 13, 10]⟩ w (by rw [bstr_size]; exact hl) (by decide) (Go.Proofs.ascii_of_all (by decide))
  have e1 : (bstr l).data.toList = l := by simp [bstr]
  rw [e1] at hC
  have HC : Hid (Calls Tryd.prog 10 #[.string (bstr l), .string ⟨#[32, 9, 13, 10]⟩] w fun e w' => e = .returned (.string (bstr (bare l))) ∧ Below w.heap.size w w') := Lib.hid hC
  clear hC
  go_enter Tryd.func7, Tryd.ntmps7
  go_wp2_with (go_at_call 10; go_must (refine HC.out.mono ?_; rintro e w2 ⟨rfl, hb⟩; have HB := Lib.hid hb; clear hb))
  go_ret
  exact ⟨rfl, HB.out⟩

theorem take_snoc2 {l : List UInt8} {n : Nat} (h : n < l.length) : l.take (n + 1) = l.take n ++ [l[n]] := by rw [List.take_succ_eq_append_getElem h]

set_option maxRecDepth 100000 in
set_option maxHeartbeats 1000000 in
theorem rbare_any (l : List UInt8) (w : World) (hl : l.length ≤ 9223372036854775807) :
    Calls Tryd.prog 8 #[.string (bstr l)] w fun e w' => e = .returned (.string (bstr (bare l))) ∧ w = w' := by
  go_enter Tryd.func8, Tryd.ntmps8
  go_wp2_with fail
  go_loop [3] (fun i => ∃ (n : Nat), n ≤ l.length ∧ i = .int .i64 n ∧ Hid (bare (l.take n) = bare l)) (fun i => (intOf i).toNat)
  case atStart => exact ⟨l.length, by omega, by simp, Lib.hid (by rw [List.take_of_length_le (Nat.le_refl _)])⟩
  case round =>
    obtain ⟨n, hn, rfl, HT⟩ := hrel
    cases n with
    | zero =>
      have HX : Hid (bare l = []) := Lib.hid (by rw [← HT.out]; rfl)
      go_wp2_with fail
      go_ret
      exact ⟨by rw [HX.out]; rfl, rfl⟩
    | succ n =>
      have hlt : n < l.length := by omega
      have hu : ∀ k : Nat, k < 256 → ((l[n].toNat : Int) = k ↔ l[n] = UInt8.ofNat k) := fun k hk => by
        constructor
        · intro h
          refine UInt8.toNat_inj.1 ?_
          rw [UInt8.toNat_ofNat']
          omega
        · intro h
          rw [h, UInt8.toNat_ofNat']
          omega
      have HB : Hid (((l[n].toNat : Int) = 32 ∨ (l[n].toNat : Int) = 9 ∨ (l[n].toNat : Int) = 13 ∨ (l[n].toNat : Int) = 10) → bare (l.take n) = bare l) := Lib.hid (fun h => by
        rw [← HT.out, take_snoc2 hlt, bare_blank]
        have h1 := hu 32 (by omega); have h2 := hu 9 (by omega); have h3 := hu 13 (by omega); have h4 := hu 10 (by omega)
        rcases h with h | h | h | h
        · exact .inl (h1.1 h)
        · exact .inr (.inl (h2.1 h))
        · exact .inr (.inr (.inl (h3.1 h)))
        · exact .inr (.inr (.inr (h4.1 h))))
      have HZ : Hid (¬ (l[n].toNat : Int) = 32 → ¬ (l[n].toNat : Int) = 9 → ¬ (l[n].toNat : Int) = 13 → ¬ (l[n].toNat : Int) = 10 → bare l = l.take (n + 1)) := Lib.hid (fun g1 g2 g3 g4 => by
        rw [← HT.out, take_snoc2 hlt, bare_other]
        have h1 := hu 32 (by omega); have h2 := hu 9 (by omega); have h3 := hu 13 (by omega); have h4 := hu 10 (by omega)
        rintro (h | h | h | h)
        · exact g1 (h1.2 h)
        · exact g2 (h2.2 h)
        · exact g3 (h3.2 h)
        · exact g4 (h4.2 h))
      have hcast : ((n + 1 : Nat) : Int) - 1 = n := by omega
      clear hu
      go_wp2_with fail
      all_goals first
        | exact ⟨⟨n, by omega, rfl, Lib.hid (HB.out (by first | exact .inl ‹_› | exact .inr (.inl ‹_›) | exact .inr (.inr (.inl ‹_›)) | exact .inr (.inr (.inr ‹_›))))⟩, by simp [intOf]⟩
        | exact ⟨⟨n, by omega, rfl, Lib.hid (HB.out (by have h9 : (((((l[n].toNat : Int) == 32) = true ∨ ((l[n].toNat : Int) == 9) = true) ∨ ((l[n].toNat : Int) == 13) = true) ∨ ((l[n].toNat : Int) == 10) = true) := (by assumption); simp at h9; omega))⟩, by simp [intOf]⟩
        | (have h9 : (((((l[n].toNat : Int) == 32) = false ∧ ((l[n].toNat : Int) == 9) = false) ∧ ((l[n].toNat : Int) == 13) = false) ∧ ((l[n].toNat : Int) == 10) = false) := (by assumption); simp at h9; have HY := Lib.hid (HZ.out (by omega) (by omega) (by omega) (by omega)); clear h9; go_ret; exact ⟨by rw [HY.out]; rfl, rfl⟩)
end Go.Proofs.YtibebmdpjaknpaaDoor
