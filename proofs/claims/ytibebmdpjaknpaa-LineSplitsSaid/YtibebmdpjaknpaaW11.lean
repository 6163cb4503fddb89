/-
  Layer 20: Join; is a text none: the program's word and the document's. No condition besides what the arguments are.
-/
import Derived.Test.YtibebmdpjaknpaaW6
import Derived.Lib.ConvBytes
namespace Go.Proofs.Ytibebmdpjaknpaa
open Go.RowKit Go.Sl
set_option linter.unusedVariables false

theorem below_bytes (w : World) (e : TypeId) (s : ByteArray) : Below w.heap.size w (Lib.bytesWorld w e s) :=
  ⟨by simp [Lib.bytesWorld, World.freeze]; rfl, by simp [Lib.bytesWorld, World.freeze], by simp [Lib.bytesWorld, World.freeze]; rfl, by rw [Lib.bytesWorld_size]; omega, fun k hk => Lib.bytesWorld_at_old w e s k hk⟩
theorem sl_bytes (w : World) (l : List UInt8) (hl : l.length ≤ maxLen) : Sl eByte 1 (Lib.bytesWorld w 5 (bstr l)) (.slice (some ⟨w.heap.size, 0, none⟩) (bstr l).size (grownCap w (bstr l).size 0 5)) l := by
  have hsz : (bstr l).size = l.length := bstr_size l
  have h1 := grownCap_ge w (bstr l).size 0 5
  have h2 := grownCap_le_maxLen w (bstr l).size 0 5 (by rw [hsz]; exact hl)
  refine ⟨_, _, by rw [hsz], by rw [← hsz]; exact h1, h2, fun h => (by cases h), .inr ⟨w.heap.size, 0, rfl, by rw [Lib.bytesWorld_size]; omega, fun k hk j hj => ?_⟩⟩
  obtain rfl : j = 0 := by omega
  have h3 := Lib.bytesWorld_cell w 5 (bstr l) k (by rw [hsz]; exact hk)
  rw [show 0 + k * 1 + 0 = k by omega, h3]
  have h4 : (bstr l).data.toList = l := by simp [bstr]
  rw [h4, List.getD_eq_getElem?_getD, List.getElem?_eq_getElem hk]
  rfl

theorem below_then' {w w1 w2 : World} (h : Below w.heap.size w w1) (h2 : Below w1.heap.size w1 w2) : Below w.heap.size w w2 := h.trans (h2.mono h.size)
theorem join_flat (l : List (List UInt8)) : Lib.join l [] = l.flatten := by
  cases l with
  | nil => rfl
  | cons x r =>
    rw [Lib.join_cons]
    simp [Lib.joinTail]

theorem join22_any (v : Value) (l : List (List UInt8)) (w : World) (h : Sl eL 1 w v l) (h1 : l.length ≤ 100000) (h2 : l.flatten.length ≤ 100000) :
    Calls Try.prog 22 #[v, .string ⟨#[]⟩] w fun e w' => e = .returned (.string (bstr l.flatten)) ∧ Below w.heap.size w w' := by
  obtain ⟨ao, cap, rfl, hlc, hm, hn0, hc⟩ := h.shp
  rcases hc with rfl | ⟨b, off, rfl, hb, hcell⟩
  · refine (Try.strings_Join_none ao cap _ w).mono ?_
    rintro e w' ⟨rfl, rfl⟩
    exact ⟨rfl, Below.refl _ _⟩
  · have hmap : (l.map bstr).map (fun s => s.data.toList) = l := by
      rw [List.map_map]
      conv => rhs; rw [← List.map_id l]
      exact List.map_congr_left fun x _ => by simp [bstr]
    have := Try.strings_Join b off cap (l.map bstr) ⟨#[]⟩ w (by
      intro j x hx
      rw [List.getElem?_map] at hx
      obtain ⟨y, hy, rfl⟩ := Option.map_eq_some_iff.1 hx
      obtain ⟨hj, rfl⟩ := List.getElem?_eq_some_iff.1 hy
      have := hcell j hj 0 (by omega)
      rw [show off + j * 1 + 0 = off + j by omega] at this
      rw [this]; rfl) hb (by simp; omega) (by simpa using hlc) (by
        rw [hmap]
        have : ((⟨#[]⟩ : ByteArray).data.toList) = [] := rfl
        rw [this, join_flat]; omega)
    rw [List.length_map, hmap] at this
    have e0 : ((⟨#[]⟩ : ByteArray).data.toList) = [] := rfl
    rw [e0, join_flat] at this
    exact this

set_option maxHeartbeats 400000 in
theorem join_any (v : Value) (l : List (List UInt8)) (w : World) (h : Sl eL 1 w v l) (h1 : l.length ≤ 100000) (h2 : l.flatten.length ≤ 100000) :
    Calls Try.prog 16 #[v] w fun e w' => ∃ ov, e = .returned ov ∧ Sl eByte 1 w' ov l.flatten ∧ Below w.heap.size w w' := by
  have kcv := fun (u : World) (s : ByteArray) => Lib.run_convert_string_bytes (P := Try.prog) u 9 31 5 s Try.underlying9 Try.underlying31 Try.underlying5
  have hC := join22_any v l w h h1 h2
  obtain ⟨F, HF⟩ : ∃ F, Hid (l.flatten = F) := ⟨_, Lib.hid rfl⟩
  rw [HF.out] at hC h2
  have HC := Lib.hid hC
  have HL : Hid (F.length ≤ maxLen) := Lib.hid (by simp only [maxLen]; omega)
  clear h2 hC
  go_enter Try.func16, Try.ntmps16
  go_wp2_with (go_at_call 22; go_must (refine HC.out.mono ?_; rintro e w2 ⟨rfl, hb⟩; have HB := Lib.hid hb; clear hb))
  go_ret
  exact ⟨_, rfl, by rw [HF.out]; have := sl_bytes w2 F HL.out; rw [bstr_size] at this; exact this, below_then' HB.out (below_bytes w2 5 _)⟩

/-- is a text none? -/
def bin (l : List UInt8) : Bool := decide ((0 : UInt8) ∈ l.take 1000)

set_option maxHeartbeats 400000 in
theorem binary_any (v : Value) (l : List UInt8) (w : World) (h : Sl eByte 1 w v l) :
    Calls Try.prog 17 #[v] w fun e w' => e = .returned (.bool (bin l)) ∧ w = w' := by
  have hlen := h.run_len (P := Try.prog) Try.underlying31
  have hmax := h.len_le
  have fin : ∀ (I : Int), I = Lib.indexByte (l.take 1000) 0 → decide (0 ≤ I) = bin l := fun I hI => by
    unfold bin
    rw [hI, Bool.eq_iff_iff, decide_eq_true_iff, decide_eq_true_iff]
    exact Line.index_ge _ _
  obtain ⟨v1, hx1, ⟨a1, n1, k1, rfl⟩, hs1⟩ := h.upto (P := Try.prog) Try.underlying31 (by kernel_rfl) cells5 some5 (hi' := min 1000 l.length) (Nat.min_le_right _ _)
  have ht : l.take (min 1000 l.length) = l.take 1000 := by
    by_cases hl : 1000 ≤ l.length
    · rw [Nat.min_eq_left hl]
    · rw [Nat.min_eq_right (by omega), List.take_of_length_le (Nat.le_refl _), List.take_of_length_le (by omega)]
  rw [ht] at hs1
  have hc := index_any _ _ w hs1 0
  have HF := Lib.hid (fin _ rfl)
  obtain ⟨I, HI⟩ : ∃ I, Hid (Lib.indexByte (l.take 1000) 0 = I) := ⟨_, Lib.hid rfl⟩
  have e0 : ((0 : Nat).toUInt8) = 0 := rfl
  rw [e0, HI.out] at hc
  rw [HI.out] at HF
  have HC := Lib.hid hc
  have hm : ((min 1000 l.length : Nat) : Int) = min 1000 (l.length : Int) := by omega
  rw [hm] at hx1
  clear hc fin hs1 hm ht
  go_enter Try.func17, Try.ntmps17
  go_wp2_with (go_at_call 23; go_must (refine HC.out.mono ?_; rintro e w2 ⟨rfl, rfl⟩))
  go_ret
  exact ⟨ret_bool HF.out, rfl⟩

set_option maxRecDepth 100000 in
set_option maxHeartbeats 400000 in
theorem rbinary_any (v : Value) (l : List UInt8) (w : World) (h : Sl eByte 1 w v l) :
    Calls Try.prog 18 #[v] w fun e w' => e = .returned (.bool (bin l)) ∧ w = w' := by
  have hlen := h.run_len (P := Try.prog) Try.underlying31
  have hmax := h.len_le
  go_enter Try.func18, Try.ntmps18
  go_wp2_with fail
  go_loop [3] (fun i => ∃ (k : Nat), k ≤ l.length ∧ k ≤ 1000 ∧ i = .int .i64 k ∧ Hid (¬ (0 : UInt8) ∈ l.take k)) (fun i => l.length - (intOf i).toNat)
  case atStart => exact ⟨0, by omega, by omega, rfl, Lib.hid (by simp)⟩
  case round =>
    obtain ⟨k, hk, hk2, rfl, HN⟩ := hrel
    by_cases hlt : k < l.length
    · by_cases h1000 : k < 1000
      · obtain ⟨b1, o1, hb1, hix1, hc1⟩ := h.at (P := Try.prog) Try.underlying31 cells5 some5 hlt
        have e1 := hc1 0 (by omega)
        simp only [eByte, List.getElem?_cons_zero, Nat.add_zero] at e1
        obtain ⟨x, HX⟩ : ∃ x, Hid (l[k] = x) := ⟨_, Lib.hid rfl⟩
        rw [HX.out] at e1
        clear hc1
        by_cases hx : x = 0
        · subst hx
          have HZ : Hid (true = bin l) := Lib.hid (by
            unfold bin
            refine (decide_eq_true ?_).symm
            rw [List.mem_take_iff_getElem]
            exact ⟨k, by omega, HX.out⟩)
          go_wp2_with fail
          go_ret
          exact ⟨ret_bool HZ.out, rfl⟩
        · have hxI : ((x.toNat : Int) == 0) = false := by
            rw [Bool.eq_false_iff]; intro h
            have := eq_of_beq h
            exact hx (UInt8.toNat_inj.1 (by show x.toNat = 0; omega))
          have hxI2 : ¬ ((x.toNat : Int) = 0) := fun h => hx (UInt8.toNat_inj.1 (by show x.toNat = 0; omega))
          have hxI3 : ¬ (x = 0) := hx
          have hxI4 : (x == 0) = false := by simpa using hx
          have HN2 : Hid (¬ (0 : UInt8) ∈ l.take (k + 1)) := Lib.hid (by
            rw [take_snoc' l k hlt, List.mem_append, HX.out]
            rintro (h1 | h1)
            · exact HN.out h1
            · simp at h1; exact hx h1.symm)
          clear hx
          go_wp2_with fail
          go_round
          case rel => exact ⟨k + 1, by omega, by omega, by go_num, HN2⟩
          case measure => simp [intOf]; omega
      · have HZ : Hid (false = bin l) := Lib.hid (by
          unfold bin
          refine (decide_eq_false ?_).symm
          have := HN.out
          rwa [show k = 1000 by omega] at this)
        go_wp2_with fail
        go_ret
        exact ⟨ret_bool HZ.out, rfl⟩
    · have HZ : Hid (false = bin l) := Lib.hid (by
        unfold bin
        refine (decide_eq_false ?_).symm
        have := HN.out
        rw [List.take_of_length_le (by omega)] at this
        exact fun h => this (List.mem_of_mem_take h))
      go_wp2_with fail
      go_ret
      exact ⟨ret_bool HZ.out, rfl⟩
end Go.Proofs.Ytibebmdpjaknpaa
