/-
  Layer 34: sets of numbers: how many bits are 1; with, has, or, and, less, count, list. No condition besides what the arguments are.
-/
import Derived.Test.YtcpmnocknpalfaaR5
import Derived.Test.YtcpmnocknpalfaaBi
namespace Go.Proofs.Ytcpmnocknpalfaa
open Go.RowKit Go.Sl Go.B64 Go.Bis
set_option linter.unusedVariables false

theorem wrap64_small (n : Int) (h : 0 ≤ n) (h2 : n < 1000000) : IntKind.i64.wrap n = n := by
  rw [IntKind.wrap_i64]; omega
theorem band_nat {p m : Nat} (hp : p < 18446744073709551616) (hm : m < 18446744073709551616) : bits .and .u64 (p : Int) (m : Int) = ((p &&& m : Nat) : Int) := by
  have e1 : (p : Int) = u64 (BitVec.ofNat 64 p) := by unfold u64; rw [BitVec.toNat_ofNat, Nat.mod_eq_of_lt hp]
  have e2 : (m : Int) = u64 (BitVec.ofNat 64 m) := by unfold u64; rw [BitVec.toNat_ofNat, Nat.mod_eq_of_lt hm]
  rw [e1, e2, band]
  unfold u64
  rw [BitVec.toNat_and, BitVec.toNat_ofNat, BitVec.toNat_ofNat, Nat.mod_eq_of_lt hp, Nat.mod_eq_of_lt hm]
theorem wrap_nat {p : Nat} (hp : p < 18446744073709551616) : IntKind.u64.wrap (p : Int) = (p : Int) := by
  rw [IntKind.wrap_u64]; omega
theorem and127 (t : Nat) : bits .and .i64 (wrap64 (t : Int)) 127 = ((t % 128 : Nat) : Int) := by
  have e1 : BitVec.ofInt 64 (wrap64 (t : Int)) = BitVec.ofNat 64 t := by
    apply BitVec.eq_of_toNat_eq
    rw [BitVec.toNat_ofInt, BitVec.toNat_ofNat]
    unfold wrap64
    simp only [Nat.reducePow]
    omega
  show IntKind.i64.wrap (((BitVec.ofInt 64 (wrap64 (t : Int)) &&& BitVec.ofInt 64 127).toNat : Nat) : Int) = _
  rw [e1, BitVec.toNat_and, BitVec.toNat_ofNat]
  rw [show (BitVec.ofInt 64 127).toNat = 2 ^ 7 - 1 from rfl, Nat.and_two_pow_sub_one_eq_mod]
  have e2 : t % 2 ^ 64 % 2 ^ 7 = t % 128 := by omega
  rw [e2]
  have : t % 128 < 128 := Nat.mod_lt _ (by omega)
  exact wrap64_small _ (by omega) (by omega)
structure OnesE (x a1 a2 x1 b1 b2 x2 c1 x3 y z t r : Nat) : Prop where
  e1 : bits .and .u64 ((x : Int) / 2) 6148914691236517205 = a1
  e2 : bits .and .u64 (x : Int) 6148914691236517205 = a2
  e3 : IntKind.u64.wrap ((a1 : Int) + a2) = x1
  e4 : bits .and .u64 ((x1 : Int) / 4) 3689348814741910323 = b1
  e5 : bits .and .u64 (x1 : Int) 3689348814741910323 = b2
  e6 : IntKind.u64.wrap ((b1 : Int) + b2) = x2
  e7 : IntKind.u64.wrap ((x2 : Int) / 16 + x2) = c1
  e8 : bits .and .u64 (c1 : Int) 1085102592571150095 = x3
  e9 : IntKind.u64.wrap ((x3 : Int) + (x3 : Int) / 256) = y
  e10 : IntKind.u64.wrap ((y : Int) + (y : Int) / 65536) = z
  e11 : IntKind.u64.wrap ((z : Int) + (z : Int) / 4294967296) = t
  e12 : t % 128 = r
theorem onesE (x : Nat) (hx : x < 18446744073709551616) : ∃ a1 a2 x1 b1 b2 x2 c1 x3 y z t, OnesE x a1 a2 x1 b1 b2 x2 c1 x3 y z t (Lib.onesCount x) := by
  obtain ⟨a1, d1⟩ : ∃ a, a = x / 2 &&& 6148914691236517205 := ⟨_, rfl⟩
  obtain ⟨a2, d2⟩ : ∃ a, a = x &&& 6148914691236517205 := ⟨_, rfl⟩
  obtain ⟨x1, d3⟩ : ∃ a, a = a1 + a2 := ⟨_, rfl⟩
  obtain ⟨b1, d4⟩ : ∃ a, a = x1 / 4 &&& 3689348814741910323 := ⟨_, rfl⟩
  obtain ⟨b2, d5⟩ : ∃ a, a = x1 &&& 3689348814741910323 := ⟨_, rfl⟩
  obtain ⟨x2, d6⟩ : ∃ a, a = b1 + b2 := ⟨_, rfl⟩
  obtain ⟨c1, d7⟩ : ∃ a, a = x2 / 16 + x2 := ⟨_, rfl⟩
  obtain ⟨x3, d8⟩ : ∃ a, a = c1 &&& 1085102592571150095 := ⟨_, rfl⟩
  obtain ⟨y, d9⟩ : ∃ a, a = x3 + x3 / 256 := ⟨_, rfl⟩
  obtain ⟨z, d10⟩ : ∃ a, a = y + y / 65536 := ⟨_, rfl⟩
  obtain ⟨t, d11⟩ : ∃ a, a = z + z / 4294967296 := ⟨_, rfl⟩
  obtain ⟨h1, h2, h3, h4, h5, h6, h7⟩ := Pop.ones x x1 x2 x3 y z t hx (by rw [d3, d1, d2]) (by rw [d6, d4, d5]) (by rw [d8, d7]) d9 d10 d11
  refine ⟨a1, a2, x1, b1, b2, x2, c1, x3, y, z, t, ⟨?_, ?_, ?_, ?_, ?_, ?_, ?_, ?_, ?_, ?_, ?_, h1⟩⟩
  · rw [d1]; exact band_nat (p := x / 2) (by omega) (by decide)
  · rw [d2]; exact band_nat hx (by decide)
  · rw [d3] at h2 ⊢; exact wrap_nat (p := a1 + a2) h2
  · rw [d4]; exact band_nat (p := x1 / 4) (by omega) (by decide)
  · rw [d5]; exact band_nat h2 (by decide)
  · rw [d6] at h3 ⊢; exact wrap_nat (p := b1 + b2) h3
  · rw [d7]; exact wrap_nat (p := x2 / 16 + x2) h4
  · rw [d8]; exact band_nat (by omega) (by decide)
  · rw [d9] at h5 ⊢; exact wrap_nat (p := x3 + x3 / 256) h5
  · rw [d10] at h6 ⊢; exact wrap_nat (p := y + y / 65536) h6
  · rw [d11] at h7 ⊢; exact wrap_nat (p := z + z / 4294967296) h7

set_option maxHeartbeats 1000000 in
theorem ones_any (x : Nat) (hx : x < 18446744073709551616) (w : World) : Calls Try.prog 103 #[.int .u64 (x : Int)] w fun e w' => e = .returned (.int .i64 (Lib.onesCount x : Nat)) ∧ w = w' := by
  obtain ⟨a1, a2, x1, b1, b2, x2, c1, x3, y, z, t, ⟨e1, e2, e3, e4, e5, e6, e7, e8, e9, e10, e11, e12⟩⟩ := onesE x hx
  have H := Lib.hid e12
  clear hx e12
  go_enter Try.func103, Try.ntmps103
  go_wp2_with fail
  go_ret
  exact ⟨ret_int (by rw [and127, H.out]), rfl⟩


/-- a set as a value -/
abbrev sv (s : S) : Value := .agg #[.int .u64 (u64 (wd s 0)), .int .u64 (u64 (wd s 1))]

theorem two_wrap {k : Nat} (h : k < 64) : IntKind.u64.wrap (2 ^ k) = u64 (BitVec.twoPow 64 k) := by
  have h1 := u64_two h
  have h2 := u64_lt (BitVec.twoPow 64 k)
  rw [← h1, IntKind.wrap_u64]; omega
set_option maxHeartbeats 1000000 in
theorem with_any (s : S) (n : Nat) (hn : n < 128) (w : World) : Calls Try.prog 83 #[sv s, .int .i64 (n : Int)] w fun e w' => e = .returned (sv (s ||| one n)) ∧ Below w.heap.size w w' := by
  by_cases h : n < 64
  · have e1 : n / 64 = 0 := by omega
    have E0 := wd_with_same hn s
    have E1 := wd_with_other hn (j := 1) (by omega) (by omega) s
    rw [e1] at E0
    obtain ⟨a, ha⟩ : ∃ a, Hid (a = u64 (wd s 0)) := ⟨_, Lib.hid rfl⟩
    obtain ⟨b, hb⟩ : ∃ b, Hid (b = u64 (wd s 1)) := ⟨_, Lib.hid rfl⟩
    have HE : Hid (sv (s ||| one n) = .agg #[.int .u64 (bits .or .u64 a (IntKind.u64.wrap (2 ^ (n % 64)))), .int .u64 b]) := Lib.hid (by
      unfold sv; rw [E0, E1, ← bor, two_wrap (Nat.mod_lt _ (by omega)), ha.out, hb.out])
    unfold sv
    rw [← ha.out, ← hb.out]
    clear E0 E1
    go_enter Try.func83, Try.ntmps83
    go_wp2_with fail
    exact bodyPost_ret (v := .agg #[.int .u64 (bits .or .u64 a (IntKind.u64.wrap (2 ^ (n % 64)))), .int .u64 b]) (by simp [results, Try.results83, go_sem]) rfl ⟨by rw [← HE.out], ((Below.refl _ _).alloc (Nat.le_refl _) _).alloc (by simp) _⟩
  · have e1 : n / 64 = 1 := by omega
    have E0 := wd_with_same hn s
    have E1 := wd_with_other hn (j := 0) (by omega) (by omega) s
    rw [e1] at E0
    obtain ⟨a, ha⟩ : ∃ a, Hid (a = u64 (wd s 0)) := ⟨_, Lib.hid rfl⟩
    obtain ⟨b, hb⟩ : ∃ b, Hid (b = u64 (wd s 1)) := ⟨_, Lib.hid rfl⟩
    have HE : Hid (sv (s ||| one n) = .agg #[.int .u64 a, .int .u64 (bits .or .u64 b (IntKind.u64.wrap (2 ^ (n % 64))))]) := Lib.hid (by
      unfold sv; rw [E0, E1, ← bor, two_wrap (Nat.mod_lt _ (by omega)), ha.out, hb.out])
    unfold sv
    rw [← ha.out, ← hb.out]
    clear E0 E1
    go_enter Try.func83, Try.ntmps83
    go_wp2_with fail
    exact bodyPost_ret (v := .agg #[.int .u64 a, .int .u64 (bits .or .u64 b (IntKind.u64.wrap (2 ^ (n % 64))))]) (by simp [results, Try.results83, go_sem]) rfl ⟨by rw [← HE.out], ((Below.refl _ _).alloc (Nat.le_refl _) _).alloc (by simp) _⟩

set_option maxHeartbeats 1000000 in
theorem or_any (s t : S) (w : World) : Calls Try.prog 78 #[sv s, sv t] w fun e w' => e = .returned (sv (s ||| t)) ∧ Below w.heap.size w w' := by
  unfold sv
  rw [wd_or, wd_or, ← bor, ← bor]
  obtain ⟨a, ha⟩ : ∃ a, a = u64 (wd s 0) := ⟨_, rfl⟩
  obtain ⟨b, hb⟩ : ∃ b, b = u64 (wd s 1) := ⟨_, rfl⟩
  obtain ⟨c, hc⟩ : ∃ a, a = u64 (wd t 0) := ⟨_, rfl⟩
  obtain ⟨d, hd⟩ : ∃ b, b = u64 (wd t 1) := ⟨_, rfl⟩
  rw [← ha, ← hb, ← hc, ← hd]
  clear ha hb hc hd
  go_enter Try.func78, Try.ntmps78
  go_wp2_with fail
  exact bodyPost_ret (v := .agg #[.int .u64 (bits .or .u64 a c), .int .u64 (bits .or .u64 b d)]) (by simp [results, Try.results78, go_sem]) rfl ⟨rfl, (((Below.refl _ _).alloc (Nat.le_refl _) _).alloc (by simp) _).alloc (by simp; omega) _⟩

set_option maxHeartbeats 1000000 in
theorem and_any (s t : S) (w : World) : Calls Try.prog 87 #[sv s, sv t] w fun e w' => e = .returned (sv (s &&& t)) ∧ Below w.heap.size w w' := by
  unfold sv
  rw [wd_and, wd_and, ← band, ← band]
  obtain ⟨a, ha⟩ : ∃ a, a = u64 (wd s 0) := ⟨_, rfl⟩
  obtain ⟨b, hb⟩ : ∃ b, b = u64 (wd s 1) := ⟨_, rfl⟩
  obtain ⟨c, hc⟩ : ∃ a, a = u64 (wd t 0) := ⟨_, rfl⟩
  obtain ⟨d, hd⟩ : ∃ b, b = u64 (wd t 1) := ⟨_, rfl⟩
  rw [← ha, ← hb, ← hc, ← hd]
  clear ha hb hc hd
  go_enter Try.func87, Try.ntmps87
  go_wp2_with fail
  exact bodyPost_ret (v := .agg #[.int .u64 (bits .and .u64 a c), .int .u64 (bits .and .u64 b d)]) (by simp [results, Try.results87, go_sem]) rfl ⟨rfl, (((Below.refl _ _).alloc (Nat.le_refl _) _).alloc (by simp) _).alloc (by simp; omega) _⟩

set_option maxHeartbeats 1000000 in
theorem less_any (s t : S) (w : World) : Calls Try.prog 80 #[sv s, sv t] w fun e w' => e = .returned (sv (s &&& ~~~ t)) ∧ Below w.heap.size w w' := by
  unfold sv
  rw [wd_less, wd_less, ← bless, ← bless]
  obtain ⟨a, ha⟩ : ∃ a, a = u64 (wd s 0) := ⟨_, rfl⟩
  obtain ⟨b, hb⟩ : ∃ b, b = u64 (wd s 1) := ⟨_, rfl⟩
  obtain ⟨c, hc⟩ : ∃ a, a = u64 (wd t 0) := ⟨_, rfl⟩
  obtain ⟨d, hd⟩ : ∃ b, b = u64 (wd t 1) := ⟨_, rfl⟩
  rw [← ha, ← hb, ← hc, ← hd]
  clear ha hb hc hd
  go_enter Try.func80, Try.ntmps80
  go_wp2_with fail
  exact bodyPost_ret (v := .agg #[.int .u64 (bits .andNot .u64 a c), .int .u64 (bits .andNot .u64 b d)]) (by simp [results, Try.results80, go_sem]) rfl ⟨rfl, (((Below.refl _ _).alloc (Nat.le_refl _) _).alloc (by simp) _).alloc (by simp; omega) _⟩

set_option maxHeartbeats 1000000 in
theorem has_any (s : S) (n : Int) (b : Bool) (hb : (decide (0 ≤ n ∧ n < 128) && mem s n.toNat) = b) (w : World) : Calls Try.prog 79 #[sv s, .int .i64 n] w fun e w' => e = .returned (.bool b) ∧ Below w.heap.size w w' := by
  by_cases h0 : 0 ≤ n
  · by_cases h1 : n < 128
    · obtain ⟨m, rfl⟩ : ∃ m : Nat, n = m := ⟨n.toNat, by omega⟩
      rw [decide_eq_true (p := 0 ≤ (m : Int) ∧ (m : Int) < 128) ⟨h0, h1⟩, Bool.true_and, Int.toNat_natCast] at hb
      have hm : m < 128 := by omega
      have d0 : decide (0 ≤ (m : Int)) = true := by simp
      have d1 : decide ((m : Int) < 128) = true := by simpa using h1
      have d2 : decide (m < 128) = true := by simpa using hm
      have HB : bits .and .u64 (u64 (wd s (m / 64)) / 2 ^ (m % 64)) 1 = if b then 1 else 0 := by
        rw [← u64_shr, bit_walk, wd_bit, decide_eq_true (Nat.mod_lt _ (by omega)), Bool.true_and, show 64 * (m / 64) + m % 64 = m by omega, hb]
      clear hb
      by_cases h : m < 64
      · have e1 : m / 64 = 0 := by omega
        rw [e1] at HB
        unfold sv
        generalize u64 (wd s 0) = p at HB ⊢
        generalize u64 (wd s 1) = q
        cases b with
        | true =>
          rw [if_pos rfl] at HB
          go_enter Try.func79, Try.ntmps79
          go_wp2_with fail
          go_ret
          exact ⟨rfl, (Below.refl _ _).alloc (Nat.le_refl _) _⟩
        | false =>
          rw [if_neg (by simp)] at HB
          go_enter Try.func79, Try.ntmps79
          go_wp2_with fail
          go_ret
          exact ⟨rfl, (Below.refl _ _).alloc (Nat.le_refl _) _⟩
      · have e1 : m / 64 = 1 := by omega
        rw [e1] at HB
        unfold sv
        generalize u64 (wd s 1) = q at HB ⊢
        generalize u64 (wd s 0) = p
        cases b with
        | true =>
          rw [if_pos rfl] at HB
          go_enter Try.func79, Try.ntmps79
          go_wp2_with fail
          go_ret
          exact ⟨rfl, (Below.refl _ _).alloc (Nat.le_refl _) _⟩
        | false =>
          rw [if_neg (by simp)] at HB
          go_enter Try.func79, Try.ntmps79
          go_wp2_with fail
          go_ret
          exact ⟨rfl, (Below.refl _ _).alloc (Nat.le_refl _) _⟩
    · have d0 : decide (0 ≤ n) = true := by simpa using h0
      have d1 : decide (n < 128) = false := by simpa using h1
      obtain rfl : b = false := by rw [← hb, decide_eq_false (fun h => h1 h.2)]; rfl
      clear hb
      unfold sv
      go_enter Try.func79, Try.ntmps79
      go_wp2_with fail
      go_ret
      exact ⟨rfl, (Below.refl _ _).alloc (Nat.le_refl _) _⟩
  · have d0 : decide (0 ≤ n) = false := by simpa using h0
    obtain rfl : b = false := by rw [← hb, decide_eq_false (fun h => h0 h.1)]; rfl
    clear hb
    unfold sv
    go_enter Try.func79, Try.ntmps79
    go_wp2_with fail
    go_ret
    exact ⟨rfl, (Below.refl _ _).alloc (Nat.le_refl _) _⟩

theorem ones_w (c : BitVec 64) (w : World) : Calls Try.prog 103 #[.int .u64 (u64 c)] w fun e w' => e = .returned (.int .i64 (Lib.onesCount c.toNat : Nat)) ∧ w' = w :=
  (ones_any c.toNat c.isLt w).mono fun _ _ h => ⟨h.1, h.2.symm⟩
set_option maxHeartbeats 1000000 in
theorem count_any (s : S) (w : World) : Calls Try.prog 82 #[sv s] w fun e w' => e = .returned (.int .i64 (cnt s : Nat)) ∧ Below w.heap.size w w' := by
  have HC := cnt_eq s
  have hl := cnt_le s
  have HW : IntKind.i64.wrap ((Lib.onesCount (wd s 0).toNat : Int) + Lib.onesCount (wd s 1).toNat) = (cnt s : Nat) := by
    rw [← HC]; exact wrap64_small _ (by omega) (by omega)
  obtain ⟨p, hp⟩ : ∃ p, p = wd s 0 := ⟨_, rfl⟩
  obtain ⟨q, hq⟩ : ∃ q, q = wd s 1 := ⟨_, rfl⟩
  unfold sv
  rw [← hp, ← hq] at HW ⊢
  clear hp hq HC hl
  go_enter Try.func82, Try.ntmps82
  go_wp2_with fail
  go_quiet ((go_at_call 103; exact Calls.quiet_of_same (ones_w _ _)))
  go_wp2_with fail
  go_ret
  exact ⟨rfl, below_drewN ((Below.refl _ _).alloc (Nat.le_refl _) _) _⟩

theorem nat_int_lt {m n : Nat} (h : m < n) : decide ((m : Int) < n) = true := by simpa using h
set_option maxRecDepth 100000 in
set_option maxHeartbeats 1000000 in
theorem slist_any (s : S) (w : World) : Calls Try.prog 84 #[sv s] w fun e w' => ∃ v, e = .returned v ∧ Own eInt 1 w.heap.size 3 w' v (Dag.filtN (mem s) 128) ∧ Below w.heap.size w w' := by
  obtain ⟨p, hp⟩ : ∃ p, p = u64 (wd s 0) := ⟨_, rfl⟩
  obtain ⟨q, hq⟩ : ∃ p, p = u64 (wd s 1) := ⟨_, rfl⟩
  have HA := fun (n : Int) (b : Bool) h w => has_any s n b h w
  unfold sv at HA ⊢
  rw [← hp, ← hq] at HA ⊢
  have HH := Lib.hid HA
  clear HA hp hq
  go_enter Try.func84, Try.ntmps84
  go_wp2_with fail
  go_loopw [3, 5] (fun v i wr => ∃ (k : Nat), i = .int .i64 k ∧ k ≤ 128 ∧ Hid (Own eInt 1 (w.heap.size + 1) 3 wr v (Dag.filtN (mem s) k)) ∧ Hid (Below (w.heap.size + 1) (w.alloc (.cells #[.int .u64 p, .int .u64 q] 80)) wr)) (fun _ i _ => 128 - (intOf i).toNat)
  case atStart => exact ⟨0, rfl, by omega, Lib.hid (Own.nil _ _ _ _ _), Lib.hid (Below.refl _ _)⟩
  case round =>
    obtain ⟨k, rfl, hk, HO, HW⟩ := hrel
    have hblk : wr.heap[w.heap.size]? = some (.cells #[.int .u64 p, .int .u64 q] 80 (0, 0)) := (HW.out.block _ (by omega)).trans (heap_alloc_new _ _)
    obtain ⟨c0, c1, c2, -, -⟩ := two_cells hblk
    have hsz := HW.out.size
    simp at hsz
    by_cases hlt : k < 128
    · have HT := Lib.hid (trues_snoc (mem s) k)
      have hfl := Dag.filtN_len (p := mem s) k
      have d0 : decide ((k : Int) < 128) = true := by simp; omega
      cases hm : mem s k with
      | false =>
        rw [hm] at HT
        have HC := Lib.hid (HH.out (k : Int) false (by rw [Int.toNat_natCast, hm]; simp) wr)
        clear hm hblk
        go_wp2_with (go_at_call 79; go_must (refine HC.out.mono ?_; rintro e w2 ⟨rfl, hb⟩; have HB := Lib.hid hb; clear hb))
        go_roundw
        case rel => exact ⟨k + 1, by go_num, by omega, Lib.hid (by rw [HT.out]; simpa using HO.out.ext HB.out), Lib.hid (HW.out.trans (HB.out.mono (by omega)))⟩
        case measure => simp [intOf]; omega
      | true =>
        rw [hm] at HT
        have HC := Lib.hid (HH.out (k : Int) true (by rw [Int.toNat_natCast, hm]; simp; omega) wr)
        clear hm hblk
        go_wp2_with (first
          | (go_at_call 79; go_must (refine HC.out.mono ?_; rintro e w2 ⟨rfl, hb⟩; have HO1 := Lib.hid (HO.out.ext hb); have HW1 : Hid (Below (w.heap.size + 1) (w.alloc (.cells #[.int .u64 p, .int .u64 q] 80)) w2) := Lib.hid (HW.out.trans (hb.mono (by omega))); clear hb; have hsz1 := HW1.out.size; simp at hsz1))
          | (at_builtin; go_must (refine wpList_append1 rfl (en := eInt) (s := 1) (base := w.heap.size + 1) (e := 3) _ _ 23 rfl (.int .i64 0) 8 Try.underlying23 info3 rfl (by decide) len_eInt one_eInt u3 _ _ k rfl (HO1.out.alloc _) rfl (Sl.fresh len_eInt rfl rfl rfl (by simp [maxLen])) (by simp only [maxLen]; omega) (by omega) (by simp; omega) ?_; intro ov' w6 hown hgr hbel hblk; have HO2 := Lib.hid hown; have HW2 := Lib.hid ((HW1.out.alloc hsz1 _).trans hbel); clear hown hgr hbel hblk)))
        go_roundw
        case rel => exact ⟨k + 1, by go_num, by omega, Lib.hid (by rw [HT.out]; simpa using HO2.out), HW2⟩
        case measure => simp [intOf]; omega
    · obtain rfl : k = 128 := by omega
      have d0 : decide (((128 : Nat) : Int) < 128) = false := rfl
      clear hblk
      go_wp2_with fail
      go_ret
      exact ⟨_, rfl, HO.out.mono (by omega), ((Below.refl _ _).alloc (Nat.le_refl _) _).trans (HW.out.mono (by omega))⟩
end Go.Proofs.Ytcpmnocknpalfaa
