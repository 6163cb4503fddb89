/-
  Layer 28: may a word of letters be? The document's letters. No condition.
  Layer 28: may a commit be? The document's rev. No condition besides what lies where and that its words are short.
  Layer 28: a count's digits, the document's walk. No condition but that the count is below 10000.
  Layer 28: a commit as text, the document's walk (Text). Conditions: its steps may be, and it is not too long.
  Layer 28: may a question be? The document's Check. No condition besides what lies where and that its words are short.
-/
import Derived.Test.YtolahnnkdpbdfaaGD
import Derived.Test.YtolahnnkdpbdfaaGK
import Derived.Test.YtolahnnkdpbdfaaGL
namespace Go.Lex
theorem kind_brace1 (c : UInt8) : kind [123, c, 125] = if letter c = true then 7 else 0 := by
  rw [kind_cons _ _ (by simp) (by simp) (by simp) (by simp), gap_no (by decide), flag_no (by decide), word_no (by decide)]
  have : rbrace [123, c, 125] = letter c := by unfold rbrace; cases h : letter c <;> simp [h]
  rw [this]; simp
end Go.Lex
namespace Go.Proofs.Ytolahnnkdpbdfaa
open Go.Proofs Go.RowKit Go.Shelf Go.Sl Go.Prs
set_option maxRecDepth 100000 in
set_option maxHeartbeats 4000000 in
theorem rletters28_any (l : List UInt8) (t : Bool) (ht : l.all Lex.letter = t) (w : World) (hl : l.length ≤ 9000) : Calls Try.prog 80 #[.string (bstr l)] w fun e w' => e = .returned (.bool t) ∧ Below w.heap.size w w' := by
  have HT := Lib.hid ht
  clear ht
  go_enter Try.func80, Try.ntmps80
  go_wp2_with fail
  go_loopw [3] (fun i wr => ∃ k : Nat, k ≤ l.length ∧ i = .int .i64 k ∧ Hid ((l.take k).all Lex.letter = true) ∧ Hid (Below w.heap.size w wr)) (fun i _ => l.length - (intOf i).toNat)
  case atStart => exact ⟨0, by omega, rfl, Lib.hid rfl, Lib.hid (Below.refl _ _)⟩
  case round =>
    obtain ⟨k, hk, rfl, HQ, HB⟩ := hrel
    by_cases hlt : k < l.length
    · have hd : decide ((k : Int) < (l.length : Int)) = true := decide_eq_true (by omega)
      have hk1 : wrap64 ((k : Int) + 1) = (k : Int) + 1 := by unfold wrap64; omega
      obtain ⟨m, hm⟩ : ∃ m, Hid (Lex.kind [123, l[k], 125] = m) := ⟨_, Lib.hid rfl⟩
      have HK := Lib.hid (fun u => rkind_any [123, l[k], 125] m hm.out u (by simp) (by simp))
      go_wp2_with fail
      rw [show ((⟨#[123]⟩ : ByteArray) ++ bstr ((l.drop k).take 1) ++ ⟨#[125]⟩) = bstr [123, l[k], 125] by
        rw [List.drop_eq_getElem_cons hlt]; show bstr [123] ++ bstr [l[k]] ++ bstr [125] = _; rw [bstr_append, bstr_append]; rfl]
      refine (HK.out _).mono ?_
      rintro e w1 ⟨rfl, rfl⟩
      by_cases hq : Lex.letter l[k] = true
      · obtain rfl : m = 7 := by rw [← hm.out, Lex.kind_brace1, if_pos hq]
        have HT2 : Hid ((l.take (k + 1)).all Lex.letter = true) := Lib.hid (by rw [List.take_succ_eq_append_getElem hlt, List.all_append, HQ.out]; simp [hq])
        clear hq
        go_wp2_with fail
        go_roundw
        case rel => exact ⟨k + 1, by omega, by go_num, HT2, HB⟩
        case measure => simp [intOf]; omega
      · obtain rfl : m = 0 := by rw [← hm.out, Lex.kind_brace1, if_neg hq]
        have HZ : Hid (t = false) := Lib.hid (by
          rw [← HT.out, Bool.eq_false_iff]; intro h
          exact hq (List.all_eq_true.1 h _ (List.getElem_mem hlt)))
        clear hq
        go_wp2_with fail
        go_ret
        exact ⟨ret_bool HZ.out.symm, HB.out⟩
    · have hd : decide ((k : Int) < (l.length : Int)) = false := decide_eq_false (by omega)
      obtain rfl : k = l.length := by omega
      have HA := Lib.hid (show t = true by rw [← HT.out, ← List.take_length (l := l)]; exact HQ.out)
      go_wp2_with fail
      go_ret
      exact ⟨ret_bool HA.out.symm, HB.out⟩
end Go.Proofs.Ytolahnnkdpbdfaa

namespace Go.Proofs.Ytolahnnkdpbdfaa
open Go.Proofs Go.RowKit Go.Shelf Go.Sl Go.Prs
set_option maxRecDepth 100000 in
set_option maxHeartbeats 8000000 in
theorem drv_any (r : Rv) (v : Value) (t : Bool) (ht : okRv r = t) (w : World) (h : Sl eSt 3 w v r.st) (hs : Sm r) :
    Calls Try.prog 56 #[.agg #[.string (bstr r.b), v]] w fun e w' => e = .returned (.bool t) ∧ Below w.heap.size w w' := by
  obtain ⟨b, l⟩ := r
  simp only at h hs ⊢
  unfold okRv at ht
  simp only at ht
  have HS := Lib.hid h
  have HW := Lib.hid hs
  have hm1 := h.len_le
  obtain ⟨ao, cap, rfl, -⟩ := h.shp
  have HB := fun u => rbase_any b _ rfl u (by have := hs.1; simp only at this; omega)
  obtain ⟨x, hx⟩ : ∃ x, base b = x := ⟨_, rfl⟩
  rw [hx] at HB ht
  have HBs := Lib.hid HB
  have HA := Lib.hid ((Below.refl w.heap.size w).alloc (Nat.le_refl _) (.cells #[.string (bstr b), .slice ao l.length cap] 96))
  have HK := Lib.hid (heap_alloc_new w (.cells #[.string (bstr b), .slice ao l.length cap] 96))
  have hsz : w.heap.size < (w.alloc (.cells #[.string (bstr b), .slice ao l.length cap] 96)).heap.size := by simp
  clear h hs HB hx
  cases x
  · subst ht
    go_enter Try.func56, Try.ntmps56
    go_wp2_with fail
    refine (HBs.out _).mono ?_
    rintro e w1 ⟨rfl, rfl⟩
    go_wp2_with fail
    go_ret
    exact ⟨rfl, HA.out⟩
  · rw [Bool.true_and] at ht
    have HT := Lib.hid ht
    clear ht
    go_enter Try.func56, Try.ntmps56
    go_wp2_with fail
    generalize w.alloc (.cells #[.string (bstr b), .slice ao l.length cap] 96) = W at HA HK hsz ⊢
    have HKu := Lib.hid (fun u (hu : Below W.heap.size W u) => (hu.block _ hsz).trans HK.out)
    clear hsz
    refine (HBs.out _).mono ?_
    rintro e w1 ⟨rfl, rfl⟩
    clear HBs HK
    go_wp2_with fail
    go_loopw [3] (fun i wr => ∃ k : Nat, k ≤ l.length ∧ i = .int .i64 k ∧ Hid ((l.take k).all okSt = true) ∧ Hid (Below W.heap.size W wr)) (fun i _ => l.length - (intOf i).toNat)
    case atStart => exact ⟨0, by omega, rfl, Lib.hid rfl, Lib.hid (Below.refl _ _)⟩
    case round =>
      obtain ⟨k, hk, rfl, HQ, HB⟩ := hrel
      obtain ⟨_, k0, k1, _, _⟩ := two_cells (HKu.out _ HB.out)
      have HBw := Lib.hid (HA.out.trans (HB.out.mono HA.out.size))
      by_cases hlt : k < l.length
      · obtain ⟨b5, o5, h5, hix, hc⟩ := (HS.out.ext HBw.out).at (P := Try.prog) Try.underlying94 (by kernel_rfl) (by kernel_rfl) hlt
        have c0 := hc 0 (by omega)
        have c1 := hc 1 (by omega)
        have c2 := hc 2 (by omega)
        have HWk := Lib.hid (HW.out.2.2 _ (List.getElem_mem hlt))
        obtain ⟨⟨kk, n, s⟩, hx⟩ : ∃ x, Hid (l[k] = x) := ⟨_, Lib.hid rfl⟩
        rw [hx.out] at c0 c1 c2 HWk
        simp only [eSt, List.getElem?_cons_zero, List.getElem?_cons_succ, Nat.add_zero] at c0 c1 c2 HWk
        have hL := Lib.hid (fun u => rletters28_any s _ rfl u HWk.out)
        have hd : decide ((k : Int) < (l.length : Int)) = true := decide_eq_true (by omega)
        have HBo := Lib.hid (fun o => HBw.out.alloc HBw.out.size o)
        have HBo2 := Lib.hid (fun o => HB.out.alloc HB.out.size o)
        have hL0 := Lib.hid (fun u => rletters28_any [] true rfl u (by simp))
        have HNo : Hid (okSt ⟨kk, n, s⟩ = false → t = false) := Lib.hid (fun h => by
          rw [← HT.out, Bool.eq_false_iff]; intro h2
          have := List.all_eq_true.1 h2 _ (List.getElem_mem hlt)
          rw [hx.out, h] at this; cases this)
        have HYes : Hid (okSt ⟨kk, n, s⟩ = true → (l.take (k + 1)).all okSt = true) := Lib.hid (fun h => by
          rw [List.take_succ_eq_append_getElem hlt, List.all_append, HQ.out, hx.out]; simp [h])
        clear hc
        go_wp2_with fail
        all_goals first
          | (go_ret
             refine ⟨ret_bool (HNo.out ?_).symm, HBo.out _⟩
             show (decide (1 ≤ kk ∧ kk ≤ 3 ∧ 0 ≤ n ∧ n ≤ 9999 ∧ (kk = 3 → n = 0) ∧ (kk < 3 → s = [])) && s.all Lex.letter) = false
             rw [decide_eq_false]
             · rfl
             · rintro ⟨q1, q2, q3, q4, q5, q6⟩
               first
                 | omega
                 | exact absurd (q6 (by assumption)) (by assumption)
                 | exact absurd (q5 (by assumption)) (by assumption))
          | ((have _hs0 : s = [] := by assumption)
             refine (hL0.out _).mono ?_
             rintro e w2 ⟨rfl, hb⟩
             have HBn := Lib.hid ((HBo2.out _).trans (hb.mono (HBo2.out _).size))
             clear hb
             have HTk := HYes.out (by
               show (decide (1 ≤ kk ∧ kk ≤ 3 ∧ 0 ≤ n ∧ n ≤ 9999 ∧ (kk = 3 → n = 0) ∧ (kk < 3 → s = [])) && s.all Lex.letter) = true
               have hs0 : s = [] := by assumption
               rw [decide_eq_true]
               · rw [hs0]; rfl
               · refine ⟨by assumption, by assumption, by assumption, by assumption, fun h => absurd h (by assumption), fun _ => hs0⟩)
             have HT2 := Lib.hid HTk
             clear HTk
             go_wp2_with fail
             go_roundw
             case rel => exact ⟨k + 1, by omega, by go_num, HT2, HBn⟩
             case measure => simp [intOf]; omega)
          | (refine (hL.out _).mono ?_
             rintro e w2 ⟨rfl, hb⟩
             have HBn := Lib.hid ((HBo2.out _).trans (hb.mono (HBo2.out _).size))
             clear hb
             have hk3 : kk = 3 := by assumption
             have hn0 : n = 0 := by assumption
             by_cases hq : s.all Lex.letter = true
             · have HT2 := Lib.hid (HYes.out (by
                 show (decide (1 ≤ kk ∧ kk ≤ 3 ∧ 0 ≤ n ∧ n ≤ 9999 ∧ (kk = 3 → n = 0) ∧ (kk < 3 → s = [])) && s.all Lex.letter) = true
                 rw [hq, decide_eq_true]
                 · rfl
                 · refine ⟨by omega, by omega, by omega, by omega, fun h => hn0, fun h => by omega⟩))
               rw [hq]
               clear hq
               go_wp2_with fail
               go_roundw
               case rel => exact ⟨k + 1, by omega, by go_num, HT2, HBn⟩
               case measure => simp [intOf]; omega
             · have HZ := Lib.hid (HNo.out (by
                 show (decide (1 ≤ kk ∧ kk ≤ 3 ∧ 0 ≤ n ∧ n ≤ 9999 ∧ (kk = 3 → n = 0) ∧ (kk < 3 → s = [])) && s.all Lex.letter) = false
                 rw [Bool.eq_false_iff.2 hq, Bool.and_false]))
               have HBz := Lib.hid (HA.out.trans (HBn.out.mono HA.out.size))
               rw [Bool.eq_false_iff.2 hq]
               clear hq
               go_wp2_with fail
               go_ret
               exact ⟨ret_bool HZ.out.symm, HBz.out⟩)
      · have hd : decide ((k : Int) < (l.length : Int)) = false := decide_eq_false (by omega)
        obtain rfl : k = l.length := by omega
        have HZ : Hid (t = true) := Lib.hid (by rw [← HT.out, ← List.take_length (l := l)]; exact HQ.out)
        go_wp2_with fail
        go_ret
        exact ⟨ret_bool HZ.out.symm, HBw.out⟩
end Go.Proofs.Ytolahnnkdpbdfaa

namespace Go.Prs
/-- the digits that are still to come ahead of those that are there -/
def rest (a : Nat) (t : List UInt8) : List UInt8 := if a = 0 ∧ t ≠ [] then t else dgN a ++ t
theorem rest_step {a : Nat} {t : List UInt8} (ha : a ≤ 9999) (h : 0 < a ∨ t = []) : rest (a / 10) (ud (a % 10) :: t) = rest a t := by
  unfold rest
  rw [if_neg (show ¬ (a = 0 ∧ t ≠ []) by rintro ⟨h1, h2⟩; rcases h with h | h; omega; exact h2 h)]
  by_cases h1 : a < 10
  · rw [if_pos ⟨by omega, by simp⟩, dgN_lt h1, show a % 10 = a by omega]; rfl
  · rw [if_neg (by omega), dgN_step h1 ha, dgN_lt (show a % 10 < 10 by omega)]; simp
theorem rest_end {t : List UInt8} (h : t ≠ []) : rest 0 t = t := by unfold rest; rw [if_pos ⟨rfl, h⟩]
end Go.Prs
namespace Go.Proofs.Ytolahnnkdpbdfaa
open Go.Proofs Go.RowKit Go.Shelf Go.Sl Go.Prs
def lenz (v : Value) : Nat := match v with | .string x => if x.size = 0 then 1 else 0 | _ => 0
theorem lenz_bstr (t : List UInt8) : lenz (.string (bstr t)) = if t = [] then 1 else 0 := by
  unfold lenz; simp only [bstr_size]
  cases t <;> simp
theorem digit_slice (w : World) (d : Nat) (hd : d < 10) (x : Int) (hx : x = 48 + (d : Int)) : Sl eByte 1 (w.alloc (.cells #[.int .u8 x] 5)) (.slice (some ⟨w.heap.size, 0, none⟩) 1 1) [ud d] := Sl.fresh len_eByte rfl (by
  have : x = ((ud d).toNat : Int) := by
    unfold ud
    rw [UInt8.toNat_ofNat']
    omega
  rw [this]; rfl) rfl (by simp [maxLen])
set_option maxRecDepth 100000 in
set_option maxHeartbeats 4000000 in
theorem digits53 (m : Nat) (hm : m ≤ 9999) (w : World) : Calls Try.prog 53 #[.int .i64 (m : Nat)] w fun e w' => e = .returned (.string (bstr (dgN m))) ∧ Below w.heap.size w w' := by
  have h0 : decide ((m : Int) < 0) = false := decide_eq_false (by omega)
  go_enter Try.func53, Try.ntmps53
  go_wp2_with fail
  clear h0
  go_loopw [0, 3] (fun n s wr => ∃ (a : Nat) (t : List UInt8), n = .int .i64 a ∧ s = .string (bstr t) ∧ a ≤ 9999 ∧ t.length + a ≤ 20000 ∧ Hid (rest a t = dgN m) ∧ Hid (Below w.heap.size w wr)) (fun n s _ => (intOf n).toNat + lenz s)
  case atStart => exact ⟨m, [], rfl, rfl, hm, by simp; omega, Lib.hid (by simp [rest]), Lib.hid (Below.refl _ _)⟩
  case round =>
    obtain ⟨a, t, rfl, rfl, ha, hta, HR, HB⟩ := hrel
    by_cases h1 : 0 < a
    · have hd : decide ((0 : Int) < (a : Int)) = true := decide_eq_true (by omega)
      have hconv := (digit_slice wr (a % 10) (by omega) (48 + (a : Int) % 10) (by omega)).run_string (P := Try.prog) Try.underlying70 Try.underlying5 Try.underlying9
      have HR2 := Lib.hid ((rest_step ha (.inl h1)).trans HR.out)
      have HBo := Lib.hid (HB.out.alloc HB.out.size (.cells #[.int .u8 (48 + (a : Int) % 10)] 5))
      go_wp2_with fail
      refine ⟨⟨a / 10, ud (a % 10) :: t, by congr 1, ?_, by omega, by simp; omega, HR2, HBo⟩, ?_⟩
      · show Value.string (bstr [ud (a % 10)] ++ bstr t) = _
        rw [bstr_append]; rfl
      · rw [lenz_bstr, lenz_bstr, if_neg (by simp)]
        simp only [intOf]
        omega
    · obtain rfl : a = 0 := by omega
      by_cases h2 : t = []
      · subst h2
        have hconv := (digit_slice wr 0 (by omega) 48 (by omega)).run_string (P := Try.prog) Try.underlying70 Try.underlying5 Try.underlying9
        have HR2 := Lib.hid ((rest_step (a := 0) (by omega) (.inr rfl)).trans HR.out)
        have HBo := Lib.hid (HB.out.alloc HB.out.size (.cells #[.int .u8 48] 5))
        go_wp2_with fail
        refine ⟨⟨0, [ud 0], rfl, ?_, by omega, by simp, HR2, HBo⟩, ?_⟩
        · show Value.string (bstr [ud 0] ++ bstr []) = _
          rw [bstr_append]; rfl
        · rw [lenz_bstr, lenz_bstr, if_neg (by simp), if_pos rfl]
          simp only [intOf]
          omega
      · have HE := Lib.hid (show t = dgN m by rw [← HR.out, rest_end h2])
        have h3 : (t == []) = false := by simpa using h2
        go_wp2_with fail
        go_ret
        exact ⟨ret_str HE.out, HB.out⟩
end Go.Proofs.Ytolahnnkdpbdfaa

namespace Go.Proofs.Ytolahnnkdpbdfaa
open Go.Proofs Go.RowKit Go.Shelf Go.Sl Go.Prs
set_option maxRecDepth 100000 in
set_option maxHeartbeats 8000000 in
theorem dText_any (r : Rv) (v : Value) (w : World) (h : Sl eSt 3 w v r.st) (ho : r.st.all okSt = true) (hw : ∀ s ∈ r.st, s.w.length ≤ 9000) (hl : (rvT r).length ≤ 90000) :
    Calls Try.prog 54 #[.agg #[.string (bstr r.b), v]] w fun e w' => e = .returned (.string (bstr (rvT r))) ∧ Below w.heap.size w w' := by
  have HS := Lib.hid h
  have HO := Lib.hid ho
  have HW := Lib.hid hw
  have HL := Lib.hid hl
  have hm1 := h.len_le
  obtain ⟨ao, cap, rfl, -⟩ := h.shp
  have HA := Lib.hid ((Below.refl w.heap.size w).alloc (Nat.le_refl _) (.cells #[.string (bstr r.b), .slice ao r.st.length cap] 96))
  have HK := Lib.hid (heap_alloc_new w (.cells #[.string (bstr r.b), .slice ao r.st.length cap] 96))
  have hsz : w.heap.size < (w.alloc (.cells #[.string (bstr r.b), .slice ao r.st.length cap] 96)).heap.size := by simp
  clear h ho hw hl
  go_enter Try.func54, Try.ntmps54
  go_wp2_with fail
  generalize w.alloc (.cells #[.string (bstr r.b), .slice ao r.st.length cap] 96) = W at HA HK hsz ⊢
  have HKu := Lib.hid (fun u (hu : Below W.heap.size W u) => (hu.block _ hsz).trans HK.out)
  have HP0 := Lib.hid (show rvP r 0 = r.b by unfold rvP; simp)
  clear hsz HK
  go_loopw [3, 4] (fun s i wr => ∃ k : Nat, k ≤ r.st.length ∧ i = .int .i64 k ∧ s = .string (bstr (rvP r k)) ∧ Hid (Below W.heap.size W wr)) (fun _ i _ => r.st.length - (intOf i).toNat)
  case atStart => exact ⟨0, by omega, rfl, by rw [HP0.out], Lib.hid (Below.refl _ _)⟩
  case round =>
    obtain ⟨k, hk, rfl, rfl, HB⟩ := hrel
    obtain ⟨_, k0, k1, _, _⟩ := two_cells (HKu.out _ HB.out)
    have HBw := Lib.hid (HA.out.trans (HB.out.mono HA.out.size))
    by_cases hlt : k < r.st.length
    · obtain ⟨b5, o5, h5, hix, hc⟩ := (HS.out.ext HBw.out).at (P := Try.prog) Try.underlying94 (by kernel_rfl) (by kernel_rfl) hlt
      have c0 := hc 0 (by omega)
      have c1 := hc 1 (by omega)
      have c2 := hc 2 (by omega)
      have HSt := Lib.hid (okSt_n (List.all_eq_true.1 HO.out _ (List.getElem_mem hlt)))
      have HP := Lib.hid (rvP_step hlt)
      have HWk := HW.out _ (List.getElem_mem hlt)
      have HPl : (rvP r (k + 1)).length ≤ 90000 := Nat.le_trans (rvP_le r (k + 1)) HL.out
      obtain ⟨⟨kk, n, l⟩, hx⟩ : ∃ x, Hid (r.st[k] = x) := ⟨_, Lib.hid rfl⟩
      rw [hx.out] at c0 c1 c2 HSt HP HWk
      simp only [eSt, List.getElem?_cons_zero, List.getElem?_cons_succ, Nat.add_zero] at c0 c1 c2 HSt HWk
      obtain ⟨m, hm⟩ : ∃ m, n.toNat = m := ⟨_, rfl⟩
      rw [hm] at HSt
      obtain rfl : n = (m : Int) := HSt.out.2.2.2
      rw [HP.out] at HPl
      have hT := Lib.hid (fun u => digits53 m HSt.out.2.2.1 u)
      have hd : decide ((k : Int) < (r.st.length : Int)) = true := decide_eq_true (by omega)
      have hlen := dgN_len m
      have hPk : (rvP r k).length ≤ 90000 := Nat.le_trans (rvP_le r k) HL.out
      have hk3 : kk = 1 ∨ kk = 2 ∨ kk = 3 := by have := HSt.out; omega
      obtain ⟨P, hP⟩ : ∃ P, Hid (rvP r k = P) := ⟨_, Lib.hid rfl⟩
      rw [hP.out] at hPk HP HPl ⊢
      clear hc hm
      have hS1 : m = 1 → num ((m : Nat) : Int) = [] := fun h => by unfold num; rw [if_pos (by omega)]
      have hS2 : ¬ m = 1 → num ((m : Nat) : Int) = dgN m := fun h => by unfold num dg; rw [if_neg (by omega), Int.toNat_natCast]
      have HS1 := Lib.hid hS1
      have HS2 := Lib.hid hS2
      clear hS1 hS2
      by_cases h1 : m = 1
      · subst h1
        rcases hk3 with rfl | rfl | rfl
        · have hS := Lib.hid (show stT ⟨1, ((1 : Nat) : Int), l⟩ = [94] by show 94 :: num _ = _; rw [HS1.out rfl])
          go_wp2_with fail
          refine ⟨⟨k + 1, by omega, rfl, ?_, HB⟩, by simp only [intOf]; omega⟩
          show Value.string (bstr P ++ bstr [94] ++ bstr []) = _
          rw [HP.out, hS.out]
          simp [bstr_append]
        · have hS := Lib.hid (show stT ⟨2, ((1 : Nat) : Int), l⟩ = [126] by show 126 :: num _ = _; rw [HS1.out rfl])
          go_wp2_with fail
          refine ⟨⟨k + 1, by omega, rfl, ?_, HB⟩, by simp only [intOf]; omega⟩
          show Value.string (bstr P ++ bstr [126] ++ bstr []) = _
          rw [HP.out, hS.out]
          simp [bstr_append]
        · have hS := Lib.hid (show stT ⟨3, ((1 : Nat) : Int), l⟩ = [94, 123] ++ l ++ [125] from rfl)
          go_wp2_with fail
          refine ⟨⟨k + 1, by omega, rfl, ?_, HB⟩, by simp only [intOf]; omega⟩
          show Value.string (bstr P ++ bstr [94, 123] ++ bstr l ++ bstr [125]) = _
          rw [HP.out, hS.out]
          simp [bstr_append]
      · have hq : ((m : Int) != 1) = true := by rw [bne_iff_ne]; omega
        rcases hk3 with rfl | rfl | rfl
        · have hS := Lib.hid (show stT ⟨1, ((m : Nat) : Int), l⟩ = 94 :: dgN m by show 94 :: num _ = _; rw [HS2.out h1])
          go_wp2_with fail
          refine (hT.out _).mono ?_
          rintro e w2 ⟨rfl, hb⟩
          have HB2 := Lib.hid (HB.out.trans (hb.mono HB.out.size))
          obtain ⟨_, j0, j1, _, _⟩ := two_cells (HKu.out _ HB2.out)
          have d0 := (hb.cell (p := ⟨b5, o5, none⟩) h5).trans c0
          have d1 := (hb.cell (p := ⟨b5, o5 + 1, none⟩) h5).trans c1
          have d2 := (hb.cell (p := ⟨b5, o5 + 2, none⟩) h5).trans c2
          clear hb c0 c1 c2 k0 k1
          go_wp2_with fail
          refine ⟨⟨k + 1, by omega, rfl, ?_, HB2⟩, by simp only [intOf]; omega⟩
          show Value.string (bstr P ++ bstr [94] ++ bstr (dgN m)) = _
          rw [HP.out, hS.out]
          simp [bstr_append]
        · have hS := Lib.hid (show stT ⟨2, ((m : Nat) : Int), l⟩ = 126 :: dgN m by show 126 :: num _ = _; rw [HS2.out h1])
          go_wp2_with fail
          refine (hT.out _).mono ?_
          rintro e w2 ⟨rfl, hb⟩
          have HB2 := Lib.hid (HB.out.trans (hb.mono HB.out.size))
          obtain ⟨_, j0, j1, _, _⟩ := two_cells (HKu.out _ HB2.out)
          have d0 := (hb.cell (p := ⟨b5, o5, none⟩) h5).trans c0
          have d1 := (hb.cell (p := ⟨b5, o5 + 1, none⟩) h5).trans c1
          have d2 := (hb.cell (p := ⟨b5, o5 + 2, none⟩) h5).trans c2
          clear hb c0 c1 c2 k0 k1
          go_wp2_with fail
          refine ⟨⟨k + 1, by omega, rfl, ?_, HB2⟩, by simp only [intOf]; omega⟩
          show Value.string (bstr P ++ bstr [126] ++ bstr (dgN m)) = _
          rw [HP.out, hS.out]
          simp [bstr_append]
        · have hS := Lib.hid (show stT ⟨3, ((m : Nat) : Int), l⟩ = [94, 123] ++ l ++ [125] from rfl)
          go_wp2_with fail
          refine (hT.out _).mono ?_
          rintro e w2 ⟨rfl, hb⟩
          have HB2 := Lib.hid (HB.out.trans (hb.mono HB.out.size))
          obtain ⟨_, j0, j1, _, _⟩ := two_cells (HKu.out _ HB2.out)
          have d0 := (hb.cell (p := ⟨b5, o5, none⟩) h5).trans c0
          have d1 := (hb.cell (p := ⟨b5, o5 + 1, none⟩) h5).trans c1
          have d2 := (hb.cell (p := ⟨b5, o5 + 2, none⟩) h5).trans c2
          clear hb c0 c1 c2 k0 k1
          go_wp2_with fail
          refine ⟨⟨k + 1, by omega, rfl, ?_, HB2⟩, by simp only [intOf]; omega⟩
          show Value.string (bstr P ++ bstr [94, 123] ++ bstr l ++ bstr [125]) = _
          rw [HP.out, hS.out]
          simp [bstr_append]
    · have hd : decide ((k : Int) < (r.st.length : Int)) = false := decide_eq_false (by omega)
      obtain rfl : k = r.st.length := by omega
      have HE := Lib.hid (rvP_all r)
      go_wp2_with fail
      go_ret
      exact ⟨ret_str HE.out, HBw.out⟩
end Go.Proofs.Ytolahnnkdpbdfaa

namespace Go.Proofs.Ytolahnnkdpbdfaa
open Go.Proofs Go.RowKit Go.Shelf Go.Sl Go.Prs
theorem zrv_is {r : Rv} (h1 : r.b = []) (h2 : r.st.length = 0) : r = zRv := by
  obtain ⟨b, l⟩ := r
  simp only at h1 h2
  subst h1
  rw [List.length_eq_zero_iff] at h2
  subst h2; rfl
set_option maxRecDepth 100000 in
set_option maxHeartbeats 8000000 in
theorem dcheck_any (iv : Value) (q : Qy) (w : World) (h : IS w iv q.its) (hs : Sms q.its) :
    Calls Try.prog 31 #[qv iv q] w fun e w' => e = .returned (.int .i64 (ckN q)) ∧ Below w.heap.size w w' := by
  obtain ⟨rs, hsl, hra⟩ := h
  have HS := Lib.hid hsl
  have hm1 := hsl.len_le
  have Hlen := Lib.hid (show rs.length = q.its.length from hra.len)
  obtain ⟨ao, cap, rfl, -⟩ := hsl.shp
  have HItA : Hid (∀ (k : Nat) (hk : k < rs.length) (hk2 : k < q.its.length) (u : World), Below w.heap.size w u → Calls Try.prog 56 #[.agg #[.string (bstr rs[k].ab), sv rs[k].av]] u fun e w' => e = .returned (.bool (okRv q.its[k].a)) ∧ Below u.heap.size u w') := Lib.hid (by
    intro k hk hk2 u hu
    have hr := hra.get k hk hk2
    have hm := hs.2 _ (List.getElem_mem hk2)
    have := drv_any q.its[k].a (sv rs[k].av) _ rfl u (hr.av.ext hu) hm.1
    rw [hr.ab]
    exact this)
  have HItB : Hid (∀ (k : Nat) (hk : k < rs.length) (hk2 : k < q.its.length) (u : World), Below w.heap.size w u → Calls Try.prog 56 #[.agg #[.string (bstr rs[k].bb), sv rs[k].bv]] u fun e w' => e = .returned (.bool (okRv q.its[k].b)) ∧ Below u.heap.size u w') := Lib.hid (by
    intro k hk hk2 u hu
    have hr := hra.get k hk hk2
    have hm := hs.2 _ (List.getElem_mem hk2)
    have := drv_any q.its[k].b (sv rs[k].bv) _ rfl u (hr.bv.ext hu) hm.2
    rw [hr.bb]
    exact this)
  have HIt : Hid (∀ (k : Nat) (hk : k < rs.length) (hk2 : k < q.its.length), rs[k].k = q.its[k].k ∧ rs[k].bb = q.its[k].b.b ∧ rs[k].bv.2.1 = q.its[k].b.st.length) := Lib.hid (by
    intro k hk hk2
    have hr := hra.get k hk hk2
    refine ⟨hr.k, hr.bb, ?_⟩
    obtain ⟨a, c, he, -⟩ := hr.bv.shp
    unfold sv at he
    injection he)
  have HA := Lib.hid ((Below.refl w.heap.size w).alloc (Nat.le_refl _) (.cells #[.slice ao rs.length cap, .int .i64 q.mx, .int .i64 q.sk, .int .i64 q.od, .bool q.fi, .bool q.rv] 52))
  have HK := Lib.hid (heap_alloc_new w (.cells #[.slice ao rs.length cap, .int .i64 q.mx, .int .i64 q.sk, .int .i64 q.od, .bool q.fi, .bool q.rv] 52))
  have hsz : w.heap.size < (w.alloc (.cells #[.slice ao rs.length cap, .int .i64 q.mx, .int .i64 q.sk, .int .i64 q.od, .bool q.fi, .bool q.rv] 52)).heap.size := by simp
  clear hsl hra hs
  unfold qv
  go_enter Try.func31, Try.ntmps31
  go_wp2_with fail
  generalize w.alloc (.cells #[.slice ao rs.length cap, .int .i64 q.mx, .int .i64 q.sk, .int .i64 q.od, .bool q.fi, .bool q.rv] 52) = W at HA HK hsz ⊢
  have HKu := Lib.hid (fun u (hu : Below W.heap.size W u) => (hu.block _ hsz).trans HK.out)
  clear hsz HK
  go_loopw [3] (fun i wr => ∃ k : Nat, k ≤ rs.length ∧ i = .int .i64 k ∧ Hid ((q.its.take k).all okIt = true) ∧ Hid (Below W.heap.size W wr)) (fun i _ => rs.length - (intOf i).toNat)
  case atStart => exact ⟨0, by omega, rfl, Lib.hid rfl, Lib.hid (Below.refl _ _)⟩
  case round =>
    obtain ⟨k, hk, rfl, HQ, HB⟩ := hrel
    obtain ⟨_, k0, k1, k2, k3, k4, k5⟩ := six_cells (HKu.out _ HB.out)
    have kf := bk_frozen ⟨_, HKu.out _ HB.out⟩
    have HBw := Lib.hid (HA.out.trans (HB.out.mono HA.out.size))
    by_cases hlt : k < rs.length
    · have hlt2 : k < q.its.length := by rw [← Hlen.out]; exact hlt
      obtain ⟨b5, o5, h5, hix, hc⟩ := (HS.out.ext HBw.out).at (P := Try.prog) Try.underlying50 cells98 some98 hlt
      have c0 := hc 0 (by omega)
      have c1 := hc 1 (by omega)
      have c2 := hc 2 (by omega)
      have c3 := hc 3 (by omega)
      have c4 := hc 4 (by omega)
      have c5 := hc 5 (by omega)
      simp only [eRi, List.getElem?_cons_zero, List.getElem?_cons_succ, Nat.add_zero] at c0 c1 c2 c3 c4 c5
      have hN := Lib.hid (HItA.out k hlt hlt2)
      have hM := Lib.hid (HItB.out k hlt hlt2)
      have hI := Lib.hid (HIt.out k hlt hlt2)
      have hd : decide ((k : Int) < (rs.length : Int)) = true := decide_eq_true (by omega)
      obtain ⟨⟨xk, xab, ⟨A1, A2, A3⟩, xbb, ⟨B1, B2, B3⟩, xnt⟩, hx⟩ : ∃ x, Hid (rs[k] = x) := ⟨_, Lib.hid rfl⟩
      rw [hx.out] at c0 c1 c2 c3 c4 c5 hN hM hI
      unfold sv at c2 c4 hN hM
      simp only at c0 c1 c2 c3 c4 c5 hN hM hI
      have HNo : Hid (okIt q.its[k] = false → ckN q = 2) := Lib.hid (fun h => by
        unfold ckN
        rw [if_neg]; intro h2
        rw [okQy_eq, Bool.and_eq_true] at h2
        have := List.all_eq_true.1 h2.1 _ (List.getElem_mem hlt2)
        rw [h] at this; cases this)
      have HYes : Hid (okIt q.its[k] = true → (q.its.take (k + 1)).all okIt = true) := Lib.hid (fun h => by
        rw [List.take_succ_eq_append_getElem hlt2, List.all_append, HQ.out]; simp [h])
      obtain ⟨y, hy⟩ : ∃ y, q.its[k] = y := ⟨_, rfl⟩
      rw [hy] at hN hM hI HNo HYes
      obtain ⟨pa, hpa⟩ : ∃ p, Hid (okRv y.a = p) := ⟨_, Lib.hid rfl⟩
      obtain ⟨pb, hpb⟩ : ∃ p, Hid (okRv y.b = p) := ⟨_, Lib.hid rfl⟩
      rw [hpa.out] at hN
      rw [hpb.out] at hM
      have HOk : Hid (okIt y = (decide (1 ≤ xk ∧ xk ≤ 3) && pa && (if xk = 1 then decide (y.b = zRv) else pb))) := Lib.hid (by unfold okIt; rw [hpa.out, hpb.out, hI.out.1])
      have HBo := Lib.hid (fun o => HB.out.alloc HB.out.size o)
      have HBwo := Lib.hid (fun o => HBw.out.alloc HBw.out.size o)
      have HX0 := Lib.hid (heap_alloc_new wr (.cells #[.int .i64 xk, .string (bstr xab), .slice A1 A2 A3, .string (bstr xbb), .slice B1 B2 B3, .bool xnt] 98))
      clear hc hy
      go_wp2_with fail
      all_goals first
        | (go_ret
           refine ⟨ret_int28 (HNo.out ?_).symm, HBwo.out _⟩
           rw [HOk.out, decide_eq_false (by omega)]; rfl)
        | (refine (hN.out _ (HBwo.out _)).mono ?_
           rintro e w2 ⟨rfl, hb⟩
           have HBn := Lib.hid ((HBo.out _).trans (hb.mono (HBo.out _).size))
           have HBnw := Lib.hid (HA.out.trans (HBn.out.mono HA.out.size))
           have HX2 := Lib.hid ((hb.block _ (by simp)).trans HX0.out)
           obtain ⟨-, s0, s1, s2, s3, s4, s5⟩ := six_cells HX2.out
           clear hb
           have hk3 : xk = 1 ∨ xk = 2 ∨ xk = 3 := by omega
           cases pa
           · go_wp2_with fail
             go_ret
             refine ⟨ret_int28 (HNo.out ?_).symm, HBnw.out⟩
             rw [HOk.out]; simp
           · rcases hk3 with rfl | rfl | rfl
             · go_wp2_with fail
               · refine ⟨⟨k + 1, by omega, rfl, Lib.hid (HYes.out ?_), HBn⟩, by simp only [intOf]; omega⟩
                 have e1 : xbb = [] := by assumption
                 have e2 : B2 = 0 := by assumption
                 rw [HOk.out, decide_eq_true (zrv_is (by rw [← hI.out.2.1]; exact e1) (by rw [← hI.out.2.2]; exact e2))]; simp
               · have e2 : ¬ B2 = 0 := by assumption
                 go_ret
                 refine ⟨ret_int28 (HNo.out ?_).symm, HBnw.out⟩
                 rw [HOk.out, decide_eq_false (p := y.b = zRv) (fun h => e2 (by rw [hI.out.2.2, h]; rfl))]; simp
               · have e1 : ¬ xbb = [] := by assumption
                 go_ret
                 refine ⟨ret_int28 (HNo.out ?_).symm, HBnw.out⟩
                 rw [HOk.out, decide_eq_false (p := y.b = zRv) (fun h => e1 (by rw [hI.out.2.1, h]; rfl))]; simp
             · go_wp2_with fail
               refine (hM.out _ HBnw.out).mono ?_
               rintro e w3 ⟨rfl, hb⟩
               have HB3 := Lib.hid (HBn.out.trans (hb.mono HBn.out.size))
               have HB3w := Lib.hid (HBnw.out.trans (hb.mono HBnw.out.size))
               clear hb
               cases pb
               · go_wp2_with fail
                 go_ret
                 refine ⟨ret_int28 (HNo.out ?_).symm, HB3w.out⟩
                 rw [HOk.out]; simp
               · go_wp2_with fail
                 refine ⟨⟨k + 1, by omega, rfl, Lib.hid (HYes.out ?_), HB3⟩, by simp only [intOf]; omega⟩
                 rw [HOk.out]; simp
             · go_wp2_with fail
               refine (hM.out _ HBnw.out).mono ?_
               rintro e w3 ⟨rfl, hb⟩
               have HB3 := Lib.hid (HBn.out.trans (hb.mono HBn.out.size))
               have HB3w := Lib.hid (HBnw.out.trans (hb.mono HBnw.out.size))
               clear hb
               cases pb
               · go_wp2_with fail
                 go_ret
                 refine ⟨ret_int28 (HNo.out ?_).symm, HB3w.out⟩
                 rw [HOk.out]; simp
               · go_wp2_with fail
                 refine ⟨⟨k + 1, by omega, rfl, Lib.hid (HYes.out ?_), HB3⟩, by simp only [intOf]; omega⟩
                 rw [HOk.out]; simp)
    · have hd : decide ((k : Int) < (rs.length : Int)) = false := decide_eq_false (by omega)
      obtain rfl : k = rs.length := by omega
      have HAll := Lib.hid (show q.its.all okIt = true by rw [← List.take_length (l := q.its), ← Hlen.out]; exact HQ.out)
      by_cases hn : okNm q = true
      · have hn2 : -1 ≤ q.mx ∧ q.mx ≤ 9999 ∧ 0 ≤ q.sk ∧ q.sk ≤ 9999 ∧ 0 ≤ q.od ∧ q.od ≤ 2 := of_decide_eq_true hn
        obtain ⟨i1, i2, i3, i4, i5, i6⟩ := hn2
        have HZ : Hid (ckN q = 0) := Lib.hid (by
          unfold ckN
          rw [if_pos]
          rw [okQy_eq, hn, Bool.and_true]; exact HAll.out)
        have d1 : decide (q.mx < -1) = false := decide_eq_false (by omega)
        have d2 : decide ((9999 : Int) < q.mx) = false := decide_eq_false (by omega)
        have d3 : decide (q.sk < 0) = false := decide_eq_false (by omega)
        have d4 : decide ((9999 : Int) < q.sk) = false := decide_eq_false (by omega)
        have d5 : decide (q.od < 0) = false := decide_eq_false (by omega)
        have d6 : decide ((2 : Int) < q.od) = false := decide_eq_false (by omega)
        clear i1 i2 i3 i4 i5 i6 hn
        go_wp2_with fail
        go_ret
        exact ⟨ret_int28 HZ.out.symm, HBw.out⟩
      · have HZ : Hid (ckN q = 2) := Lib.hid (by unfold ckN; rw [okQy_eq, Bool.eq_false_iff.2 hn, Bool.and_false]; rfl)
        have HN := Lib.hid (Bool.eq_false_iff.2 hn)
        clear hn
        go_wp2_with fail
        all_goals first
          | (go_ret
             exact ⟨ret_int28 HZ.out.symm, HBw.out⟩)
          | (exfalso
             have h1 := HN.out
             unfold okNm at h1
             have h2 := of_decide_eq_false h1
             omega)
end Go.Proofs.Ytolahnnkdpbdfaa
