/-
  The laws CrcJoins and CrcParts at values that read as numbers and bytes. No condition.
-/
import Derived.Test.YtejbhbjfcagaiaaW6
namespace Go.Proofs.Ytejbhbjfcagaiaa
open Go.RowKit Go.Sl Go.Bv

set_option maxHeartbeats 400000 in
theorem joins_no (a b : BitVec 32) (n : Int) (hn : n < 0 ∨ 65536 < n) (w : World) :
    Calls Try.prog 5 #[.int .u32 (u32 a), .int .u32 (u32 b), .int .i64 n] w fun e w' => e = .returned (.bool true) ∧ Below w.heap.size w w' := by
  rcases hn with hn | hn
  · go_enter Try.func5, Try.ntmps5
    go_wp2_with (first
      | (go_at_call 15; go_must (refine (join_no a b n (.inl hn) _).mono ?_; rintro e w' ⟨rfl, rfl⟩))
      | (go_at_call 7; go_must (refine (works_any _).mono ?_; rintro e w' ⟨rfl, hb⟩)))
    go_ret
    exact ⟨rfl, hb⟩
  · have h0 : ¬ n < 0 := by omega
    go_enter Try.func5, Try.ntmps5
    go_wp2_with (first
      | (go_at_call 15; go_must (refine (join_no a b n (.inr hn) _).mono ?_; rintro e w' ⟨rfl, rfl⟩))
      | (go_at_call 7; go_must (refine (works_any _).mono ?_; rintro e w' ⟨rfl, hb⟩)))
    go_ret
    exact ⟨rfl, hb⟩

set_option maxHeartbeats 400000 in
theorem joins_yes (a b : BitVec 32) (n : Nat) (hn : n ≤ 65536) (w : World) :
    Calls Try.prog 5 #[.int .u32 (u32 a), .int .u32 (u32 b), .int .i64 n] w fun e w' => e = .returned (.bool true) ∧ Below w.heap.size w w' := by
  go_enter Try.func5, Try.ntmps5
  go_wp2_with (first
    | (go_at_call 15; go_must (refine (join_any a b n hn _).mono ?_; rintro e w1 ⟨rfl, hb1⟩))
    | (go_at_call 16; go_must (refine (rjoin_any a b n hn _).mono ?_; rintro e w' ⟨rfl, rfl⟩))
    | (go_at_call 7; go_must (refine (works_any _).mono ?_; rintro e w' ⟨rfl, hb⟩)))
  go_ret
  exact ⟨rfl, hb1.trans (hb.mono hb1.size)⟩

theorem joins_any (a b : BitVec 32) (n : Int) (w : World) :
    Calls Try.prog 5 #[.int .u32 (u32 a), .int .u32 (u32 b), .int .i64 n] w fun e w' => e = .returned (.bool true) ∧ Below w.heap.size w w' := by
  by_cases h : n < 0 ∨ 65536 < n
  · exact joins_no a b n h w
  · obtain ⟨m, rfl⟩ := Int.eq_ofNat_of_zero_le (show 0 ≤ n by omega)
    exact joins_yes a b m (by omega) w

/-- a byte of 0 behind a register, length times, and a text's own sum: that of both -/
theorem times_lin (f : BitVec 32 → BitVec 32) (h : Lin f) (n : Nat) : ∀ a b, times n f (a ^^^ b) = times n f a ^^^ times n f b := by
  induction n with
  | zero => intro a b; rfl
  | succ n ih => intro a b; rw [times, h.add, ih]; rfl
theorem tk_lin (l : List UInt8) : ∀ c d, tk (c ^^^ d) l = times l.length (sbn 8) c ^^^ tk d l := by
  induction l with
  | nil => intro c d; rfl
  | cons x l ih =>
    intro c d
    have h1 : tr (c ^^^ d) (byte x) = sbn 8 c ^^^ tr d (byte x) := by
      unfold tr
      rw [BitVec.xor_assoc, sbn_xor]
    show tk (tr (c ^^^ d) (byte x)) l = _
    rw [h1, ih]; rfl
theorem more_join (c : BitVec 32) (l : List UInt8) : times l.length (sbn 8) c ^^^ more 0#32 l = more c l := by
  unfold more
  have h1 : ~~~ c = c ^^^ ~~~ 0#32 := by
    ext i hi
    have : (~~~ 0#32)[i] = true := by rw [BitVec.getElem_not]; simp
    rw [BitVec.getElem_xor, BitVec.getElem_not, this]; cases c[i] <;> rfl
  rw [h1, tk_lin]
  generalize times l.length (sbn 8) c = x
  generalize tk (~~~ 0#32) l = y
  ext i hi
  simp only [BitVec.getElem_xor, BitVec.getElem_not]
  cases x[i] <;> cases y[i] <;> rfl

theorem of_fresh1 {wB w0 : World} {n : Nat} {v : Value} {l : List UInt8} (hb : Below wB.heap.size wB w0) (h : Sl eByte 1 wB v l) (hn : n = w0.heap.size) :
    Calls Try.prog 8 #[.slice (some ⟨n, 0, none⟩) 1 1] (w0.alloc (.cells #[v] 24)) fun e w' => e = .returned (.int .u32 (u32 (more 0#32 l))) ∧ Below wB.heap.size wB w' := by
  have hs : Sls eByte 1 (w0.alloc (.cells [v].toArray 24)) (.slice (some ⟨n, 0, none⟩) 1 1) [v] [l] :=
    Sls.fresh hn rfl (by simp [maxLen]) (fun k h1 h2 => by
      obtain rfl : k = 0 := by simpa using h1
      exact h.ext hb)
  refine (of_any _ _ _ _ hs).mono ?_
  rintro e w' ⟨rfl, rfl⟩
  exact ⟨by simp, hb.alloc hb.size _⟩

theorem of_fresh2 {wB w0 : World} {n : Nat} {v v' : Value} {l l' : List UInt8} (hb : Below wB.heap.size wB w0) (h : Sl eByte 1 wB v l) (h' : Sl eByte 1 wB v' l') (hn : n = w0.heap.size) :
    Calls Try.prog 8 #[.slice (some ⟨n, 0, none⟩) 2 2] (w0.alloc (.cells #[v, v'] 24)) fun e w' => e = .returned (.int .u32 (u32 (more (more 0#32 l) l'))) ∧ Below wB.heap.size wB w' := by
  have hs : Sls eByte 1 (w0.alloc (.cells [v, v'].toArray 24)) (.slice (some ⟨n, 0, none⟩) 2 2) [v, v'] [l, l'] :=
    Sls.fresh hn rfl (by simp [maxLen]) (fun k h1 h2 => by
      match k, h1 with
      | 0, _ => exact h.ext hb
      | 1, _ => exact h'.ext hb)
  refine (of_any _ _ _ _ hs).mono ?_
  rintro e w' ⟨rfl, rfl⟩
  exact ⟨by simp [more_append], hb.alloc hb.size _⟩

set_option maxHeartbeats 400000 in
theorem parts_any (v1 v2 : Value) (l1 l2 : List UInt8) (w : World) (h1 : Sl eByte 1 w v1 l1) (h2 : Sl eByte 1 w v2 l2) :
    Calls Try.prog 6 #[v1, v2] w fun e w' => e = .returned (.bool true) ∧ Below w.heap.size w w' := by
  have hl1 := h1.run_len (P := Try.prog) Try.underlying24
  have hl2 := h2.run_len (P := Try.prog) Try.underlying24
  have hm1 := h1.len_le
  have hm2 := h2.len_le
  obtain ⟨a1, n1, c1, rfl⟩ : ∃ a n c, v1 = .slice a n c := let ⟨_, _, h, _⟩ := h1.shp; ⟨_, _, _, h⟩
  obtain ⟨a2, n2, c2, rfl⟩ : ∃ a n c, v2 = .slice a n c := let ⟨_, _, h, _⟩ := h2.shp; ⟨_, _, _, h⟩
  by_cases t1 : 2000 < l1.length
  · go_enter Try.func6, Try.ntmps6
    go_wp2_with (first
      | (go_at_call 7; go_must (refine (works_any _).mono ?_; rintro e w' ⟨rfl, hb⟩)))
    go_ret
    exact ⟨rfl, hb⟩
  by_cases t2 : 2000 < l2.length
  · go_enter Try.func6, Try.ntmps6
    go_wp2_with (first
      | (go_at_call 7; go_must (refine (works_any _).mono ?_; rintro e w' ⟨rfl, hb⟩)))
    go_ret
    exact ⟨rfl, hb⟩
  have hbel := Below.refl w.heap.size w
  have hj := more_join (more 0#32 l1) l2
  go_enter Try.func6, Try.ntmps6
  go_wp2_with (first
    | (go_at_call 8; ((with_reducible refine (of_fresh1 hbel h1 (by simp)).mono ?_); rintro e w1 ⟨rfl, hbel⟩))
    | (go_at_call 8; ((with_reducible refine (of_fresh1 hbel h2 (by simp)).mono ?_); rintro e w1 ⟨rfl, hbel⟩))
    | (go_at_call 8; ((with_reducible refine (of_fresh2 hbel h1 h2 (by simp)).mono ?_); rintro e w1 ⟨rfl, hbel⟩))
    | (go_at_call 10; go_must (refine (more_any _ _ _ _ (h2.ext hbel)).mono ?_; rintro e w1 ⟨rfl, rfl⟩))
    | (go_at_call 15; go_must (refine (join_any _ _ l2.length (by omega) _).mono ?_; rintro e w1 ⟨rfl, hb1⟩; have hbel := hbel.trans (hb1.mono hbel.size)))
    | (go_at_call 7; go_must (refine (works_any _).mono ?_; rintro e w' ⟨rfl, hb⟩)))
  go_ret
  exact ⟨rfl, hbel.trans (hb.mono hbel.size)⟩
end Go.Proofs.Ytejbhbjfcagaiaa
