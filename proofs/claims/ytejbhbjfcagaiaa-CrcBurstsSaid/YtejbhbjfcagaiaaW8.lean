/-
  Walks of CRC-32: Burst, the program's and the reference's. No condition.
-/
import Derived.Test.YtejbhbjfcagaiaaW7
import Derived.Test.YtejbhbjfcagaiaaBu
import Derived.Laws.OwnMore
namespace Go.Proofs.Ytejbhbjfcagaiaa
open Go.RowKit Go.Sl Go.Bv

/-- an own slice's element: its place, what lies there, and what a store there makes -/
theorem own_elem {base : Nat} {w : World} {v : Value} {l : List UInt8} (h : Own eByte 1 base 5 w v l) {q : Nat} (hq : q < l.length) :
    ∃ a : Addr, (∀ (ik : IntKind) (u : World), (Instr.indexAt 24 v (.int ik (q : Int))).run Try.prog u = .ok (.pointer (some a)) u) ∧
      w.cell? a = some (.int .u8 ((l[q].toNat : Nat) : Int)) ∧ w.frozen? a = false ∧
      ∀ b : UInt8, Own eByte 1 base 5 (w.setCell a (.int .u8 ((b.toNat : Nat) : Int))) v (l.set q b) ∧ (Below base w (w.setCell a (.int .u8 ((b.toNat : Nat) : Int)))) := by
  have hix := (h.sl len_eByte).run_index (P := Try.prog) Try.underlying24 cells5 some5 hq
  obtain ⟨b0, off, hA, hlt, hob, hc⟩ := At_eq (h.sl len_eByte) hq
  obtain ⟨g, cap, hv⟩ : ∃ g cap, v = .slice (some ⟨g, 0, none⟩) l.length cap := by
    rcases h.2 with ⟨_, h2⟩ | ⟨g, cap, cur, hv, _⟩
    · have : l.length = 0 := h2
      omega
    · exact ⟨g, cap, hv⟩
  subst hv
  have hA' : At (.slice (some ⟨g, 0, none⟩) l.length cap) 1 q = ⟨g, q, none⟩ := by simp [At, Addr.add]; try omega
  rw [hA'] at hix
  refine ⟨⟨g, q, none⟩, hix, ?_, World.ownsRow.frozenAt h q, fun b => ?_⟩
  · have := (h.sl len_eByte).cell (by omega) hq
    rw [hA'] at this
    rw [this]; rfl
  · have hs := World.ownsRow.stored h q (.int .u8 ((b.toNat : Nat) : Int))
    have hfl : ∀ (l : List UInt8) (q : Nat) (b : UInt8), (l.set q b).flatMap eByte = (l.flatMap eByte).set q (.int .u8 ((b.toNat : Nat) : Int)) := by
      intro l
      induction l with
      | nil => intro q b; simp
      | cons x l ih => intro q b; cases q with
        | zero => simp [eByte]
        | succ q => simp only [List.set_cons_succ, List.flatMap_cons]; rw [ih]; simp [eByte]
    refine ⟨?_, ?_⟩
    · unfold Own
      rw [hfl, List.length_set]; exact hs.1
    · have hlt2 := h.lt g rfl
      exact (Below.refl base w).grown hs.2 (by omega) (fun k hk => by cases hk; exact hlt2.1)

theorem u8_xor (a b : UInt8) : bits .xor .u8 ((a.toNat : Nat) : Int) ((b.toNat : Nat) : Int) = (((a ^^^ b).toNat : Nat) : Int) := by
  have ha := a.toNat_lt
  have hb := b.toNat_lt
  have hx := (a ^^^ b).toNat_lt
  rw [UInt8.toNat_xor] at hx
  have h8 : IntKind.u8.bits = 8 := rfl
  unfold bits
  simp only [UInt8.toNat_xor, BitVec.ofInt_natCast, BitVec.toNat_xor, BitVec.toNat_ofNat, h8]
  rw [Nat.mod_eq_of_lt ha, Nat.mod_eq_of_lt hb]
  show ((a.toNat ^^^ b.toNat : Nat) : Int) % 256 = _
  omega

theorem and_bit (turn : BitVec 32) (k : Nat) : bits .and .u32 (u32 turn / 2 ^ k) 1 = if turn.getLsbD k then 1 else 0 := by
  rw [shr_lit, and1, and_one]
  simp only [BitVec.getLsbD_ushiftRight, Nat.add_zero]
  split <;> rfl

theorem turn_bit (l : List UInt8) (a : Nat) (turn : BitVec 32) (k : Nat) {p s : Nat} (hp : p = (a + k) / 8) (hs : s = (a + k) % 8) (h : p < (turned l a turn k).length) :
    ∃ b : UInt8, bits .xor .u8 (((turned l a turn k)[p].toNat : Nat) : Int) (bits .and .u32 (u32 turn / 2 ^ k) 1 * 2 ^ s % 256) = ((b.toNat : Nat) : Int) ∧ (turned l a turn k).set p b = turned l a turn (k + 1) := by
  have hs8 : s < 8 := by omega
  refine ⟨(turned l a turn k)[p] ^^^ (if turn.getLsbD k then 1 <<< UInt8.ofNat s else 0), ?_, ?_⟩
  · rw [← u8_xor, and_bit]
    congr 1
    split
    · have : ∀ r : Fin 8, (1 * 2 ^ r.val % 256 : Int) = (((1 <<< UInt8.ofNat r.val : UInt8).toNat : Nat) : Int) := by decide
      exact this ⟨s, hs8⟩
    · simp
  · rw [turned]
    split
    · rw [Go.Bv.flip, ← hp, ← hs]; simp [h]
    · simp

set_option maxHeartbeats 1000000 in
theorem burst_no (v : Value) (l : List UInt8) (n : Int) (turn : BitVec 32) (w : World) (hv : Sl eByte 1 w v l) (hno : n < 0 ∨ 8 * (l.length : Int) < n + 32) (hn : n ≤ 9223372036854775807) :
    Calls Try.prog 12 #[v, .int .i64 n, .int .u32 (u32 turn)] w fun e w' => e = .returned (.tuple #[.slice none 0 0, .int .i64 2]) ∧ w = w' := by
  have hlen := hv.run_len (P := Try.prog) Try.underlying24
  have hmax := hv.len_le
  by_cases h0 : n < 0
  · clear hno
    go_enter Try.func12, Try.ntmps12
    go_wp2_with fail
    go_ret2
    exact ⟨rfl, rfl⟩
  · obtain ⟨a, rfl⟩ := Int.eq_ofNat_of_zero_le (show 0 ≤ n by omega)
    obtain ⟨q, HQ⟩ : ∃ q : Nat, Hid (q = a / 8) := ⟨_, Lib.hid rfl⟩
    obtain ⟨r, HR⟩ : ∃ r : Nat, Hid (r = a % 8) := ⟨_, Lib.hid rfl⟩
    have hq : (a : Int).tdiv 8 = q := by rw [HQ.out]; rfl
    have hr : (a : Int).tmod 8 = r := by rw [HR.out]; rfl
    have hb : q * 8 + r = a := by rw [HQ.out, HR.out]; omega
    have hr8 : r < 8 := by rw [HR.out]; omega
    have hq5 : q ≤ 1152921504606846975 := by rw [HQ.out]; omega
    clear hn hmax
    by_cases h1 : (l.length : Int) ≤ q
    · clear hno
      go_enter Try.func12, Try.ntmps12
      go_wp2_with fail
      all_goals try (exfalso; omega)
      go_ret2
      exact ⟨rfl, rfl⟩
    · have h2 : 8 * ((l.length : Int) - q) - r < 32 := by omega
      clear hno
      go_enter Try.func12, Try.ntmps12
      go_wp2_with fail
      all_goals try (exfalso; omega)
      go_ret2
      exact ⟨rfl, rfl⟩

set_option maxHeartbeats 1000000 in
theorem burst_yes (v : Value) (l : List UInt8) (a : Nat) (turn : BitVec 32) (w : World) (hv : Sl eByte 1 w v l) (hyes : a + 32 ≤ 8 * l.length) (hmx : l.length ≤ 2000) :
    Calls Try.prog 12 #[v, .int .i64 a, .int .u32 (u32 turn)] w fun e w' => ∃ r, e = .returned (.tuple #[r, .int .i64 0]) ∧ Own eByte 1 w.heap.size 5 w' r (turned l a turn 32) ∧ Below w.heap.size w w' := by
  have hlen := hv.run_len (P := Try.prog) Try.underlying24
  have hmax := hv.len_le
  obtain ⟨q, HQ⟩ : ∃ q : Nat, Hid (q = a / 8) := ⟨_, Lib.hid rfl⟩
  obtain ⟨r, HR⟩ : ∃ r : Nat, Hid (r = a % 8) := ⟨_, Lib.hid rfl⟩
  have hq : (a : Int).tdiv 8 = q := by rw [HQ.out]; rfl
  have hr : (a : Int).tmod 8 = r := by rw [HR.out]; rfl
  have hb : q * 8 + r = a := by rw [HQ.out, HR.out]; omega
  have hr8 : r < 8 := by rw [HR.out]; omega
  go_enter Try.func12, Try.ntmps12
  go_wp2_with (at_builtin; go_must (refine wpList_append rfl _ _ _ rfl (.int .u8 0) 1 Try.underlying24 info5 rfl (by omega) len_eByte one_eByte _ _ _ _ rfl (Own.nil eByte 1 w.heap.size 5 _) rfl hv (by simp only [maxLen, List.length_nil]; omega) (by simp only [List.length_nil]; omega) (Nat.le_refl _) ?_; intro v' w1 hown1 _ hb1))
  all_goals try (exfalso; omega)
  rw [List.nil_append] at hown1
  go_loopw [34] (fun i wr => ∃ (k : Nat), k ≤ 32 ∧ i = .int .i64 k ∧ Own eByte 1 w.heap.size 5 wr v' (turned l a turn k) ∧ Below w.heap.size w wr) (fun i _ => 32 - (intOf i).toNat)
  case atStart => exact ⟨0, by omega, rfl, hown1, hb1⟩
  case round =>
    obtain ⟨k, hk, rfl, hown, hbel⟩ := hrel
    clear hq hr hb hr8
    by_cases hlt : k < 32
    · obtain ⟨p, HP⟩ : ∃ p : Nat, Hid (p = (a + k) / 8) := ⟨_, Lib.hid rfl⟩
      obtain ⟨s, HS⟩ : ∃ s : Nat, Hid (s = (a + k) % 8) := ⟨_, Lib.hid rfl⟩
      have hp : ((a : Int) + k).tdiv 8 = p := by rw [HP.out]; rfl
      have hs : ((a : Int) + k).tmod 8 = s := by rw [HS.out]; rfl
      have hpl : p < (turned l a turn k).length := by rw [turned_len, HP.out]; omega
      have hpb : p < 2000 := by rw [HP.out]; omega
      have hsb : s < 8 := by rw [HS.out]; omega
      obtain ⟨ad, hix, hcell, hfro, hset⟩ := own_elem hown hpl
      go_wp2_with fail
      go_roundw
      case rel =>
        obtain ⟨b, hb1, hb2⟩ := turn_bit l a turn k HP.out HS.out hpl
        rw [hb1]
        refine ⟨k + 1, by omega, by go_num, ?_, hbel.trans (hset b).2⟩
        rw [← hb2]; exact (hset b).1
      case measure => simp [intOf]; omega
    · obtain rfl : k = 32 := by omega
      go_wp2_with fail
      go_ret2
      exact ⟨v', rfl, hown, hbel⟩
end Go.Proofs.Ytejbhbjfcagaiaa
