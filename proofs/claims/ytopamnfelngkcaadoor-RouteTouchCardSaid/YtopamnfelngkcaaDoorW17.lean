/-
  Layer 5: the document's Fits. No condition besides what the arguments are.
-/
import Derived.Test.YtopamnfelngkcaaDoorW16
import Derived.Test.YtopamnfelngkcaaDoorW10
namespace Go.Proofs.YtopamnfelngkcaaDoor
open Go.RowKit Go.Sl Go.Route
set_option linter.unusedVariables false

theorem fitsP_yes {P l : List Wd} {k : Nat} (h1 : 1 ≤ k) (h2 : k ≤ l.length) (h : stands P (l.take k) = true) : fitsP P l = true := by
  unfold fitsP
  exact List.any_eq_true.2 ⟨k - 1, List.mem_range.2 (by omega), by rw [show k - 1 + 1 = k by omega]; exact h⟩
theorem fitsP_no {P l : List Wd} (h : ∀ n, 1 ≤ n → n ≤ l.length → stands P (l.take n) = false) : fitsP P l = false := by
  unfold fitsP
  rw [List.any_eq_false]
  intro n hn
  rw [h (n + 1) (by omega) (by have := List.mem_range.1 hn; omega)]; simp

set_option maxRecDepth 100000 in
set_option maxHeartbeats 2000000 in
theorem rfits_any (p s : Wd) (w : World) (hp : p.length ≤ 300) (hs : s.length ≤ 300) :
    Calls Tryd.prog 31 #[.string (bstr p), .string (bstr s)] w fun e w' => e = .returned (.bool (fits p s)) ∧ Below w.heap.size w w' := by
  have HF : Hid (fits p s = (pat p && rgt s && fitsP (parts p) (parts s))) := Lib.hid rfl
  go_enter Tryd.func31, Tryd.ntmps31
  go_wp2_with fail
  refine (rpat_any p w (by omega)).mono ?_
  rintro e w1 ⟨rfl, hb⟩
  have HW1 := Lib.hid hb
  clear hb
  cases h1 : pat p with
  | false =>
    have HZ : Hid (false = fits p s) := Lib.hid (by rw [HF.out, h1]; rfl)
    clear h1
    go_wp2_with fail
    go_ret
    exact ⟨ret_bool HZ.out, HW1.out⟩
  | true =>
    have HP1 := Lib.hid h1
    clear h1
    go_wp2_with fail
    refine (rright_any s w1 (by omega)).mono ?_
    rintro e w2 ⟨rfl, hb⟩
    have HW2 := Lib.hid (below_then HW1.out hb)
    clear hb
    cases h2 : rgt s with
    | false =>
      have HZ : Hid (false = fits p s) := Lib.hid (by rw [HF.out, h2, HP1.out]; rfl)
      clear h2
      go_wp2_with fail
      go_ret
      exact ⟨ret_bool HZ.out, HW2.out⟩
    | true =>
      have HZ : Hid (fitsP (parts p) (parts s) = fits p s) := Lib.hid (by rw [HF.out, h2, HP1.out]; rfl)
      clear h2
      have hpl := parts_len_le s
      have HLs : Hid (∀ q ∈ parts s, q.length ≤ 1000) := Lib.hid (fun q hq => by have := parts_mem_len hq; omega)
      have HLp : Hid (∀ q ∈ parts p, q.length ≤ 1000) := Lib.hid (fun q hq => by have := parts_mem_len hq; omega)
      go_wp2_with fail
      refine (rparts_any s w2 (by omega)).mono ?_
      rintro e w3 ⟨sv, rfl, hs3, hb⟩
      have hlen := hs3.run_len (P := Tryd.prog) Tryd.underlying22
      have HS3 := Lib.hid hs3
      have HW3 := Lib.hid (below_then HW2.out hb)
      clear hs3 hb
      obtain ⟨l, HL⟩ : ∃ l, Hid (parts s = l) := ⟨_, Lib.hid rfl⟩
      rw [HL.out] at hlen hpl HS3 HZ HLs
      go_wp2_with fail
      go_loopw [6] (fun i wr => ∃ (k : Nat), i = .int .i64 k ∧ 1 ≤ k ∧ k ≤ l.length + 1 ∧ Hid (∀ n, 1 ≤ n → n < k → stands (parts p) (l.take n) = false) ∧ Hid (Below w.heap.size w wr) ∧ Hid (Sl eL 1 wr sv l)) (fun i _ => l.length + 1 - (intOf i).toNat)
      case atStart => exact ⟨1, rfl, by omega, by omega, Lib.hid (fun n h1 h2 => by omega), HW3, HS3⟩
      case round =>
        obtain ⟨k, rfl, hk1, hk, HT, HW, HS⟩ := hrel
        by_cases hlt : k ≤ l.length
        · obtain ⟨lv, hxl, ⟨a3, n3, k3, rfl⟩, hsl⟩ := HS.out.upto (P := Tryd.prog) Tryd.underlying22 (by kernel_rfl) cells9 some9 (hi' := k) hlt
          have HB0 : Hid (Below wr.heap.size wr wr) := Lib.hid (Below.refl _ _)
          have HC16 : Hid (∀ u, Below wr.heap.size wr u → Calls Tryd.prog 16 #[.string (bstr p)] u fun e w' => ∃ v, e = .returned v ∧ Sl eL 1 w' v (parts p) ∧ Below wr.heap.size wr w') :=
            Lib.hid (fun u hu => (rparts_any p u (by omega)).mono fun e w' ⟨v, h1, h2, h3⟩ => ⟨v, h1, h2, below_then hu h3⟩)
          obtain ⟨b, hb⟩ : ∃ b, stands (parts p) (l.take k) = b := ⟨_, rfl⟩
          have HC71 : Hid (∀ u v, Below wr.heap.size wr u → Sl eL 1 u v (parts p) → Calls Tryd.prog 71 #[v, .slice a3 n3 k3] u fun e w' => e = .returned (.bool b) ∧ Below wr.heap.size wr w') :=
            Lib.hid (fun u v hu hv => (rstands_any _ v _ (parts p) (l.take k) u (Nat.le_refl _) hv (hsl.ext hu) HLp.out (fun q hq => HLs.out q (List.mem_of_mem_take hq))).mono fun e w' ⟨h1, h2⟩ => ⟨by rw [h1, hb], below_then hu h2⟩)
          clear hsl
          cases b with
          | true =>
            have HZ2 : Hid (true = fits p s) := Lib.hid (by rw [← HZ.out, fitsP_yes hk1 hlt hb])
            clear hb
            go_wp2_with fail
            go_region_held3 (fun u => True)
              (first | exact trivial)
              (first | (go_at_call 16; go_must (refine (HC16.out _ ?_).mono ?_; (first | exact HB0.out | exact below_drewN HB0.out _ | exact Below.drew HB0.out); rintro e w4 ⟨v4, rfl, h4, hb⟩; have HB4 := Lib.hid hb; have HS4 := Lib.hid h4; clear hb h4)) | (go_at_call 71; go_must (refine (HC71.out _ _ ?_ ?_).mono ?_; exact HB4.out; exact HS4.out; rintro e w5 ⟨rfl, hb⟩; have HB5 := Lib.hid (below_then HW.out hb); clear hb)))
            all_goals
              go_wp2_with fail
              go_ret
              exact ⟨ret_bool HZ2.out, HB5.out⟩
          | false =>
            have HT2 : Hid (∀ n, 1 ≤ n → n < k + 1 → stands (parts p) (l.take n) = false) := Lib.hid (fun n h1 h2 => by
              rcases Nat.lt_or_ge n k with h | h
              · exact HT.out n h1 h
              · rw [show n = k by omega]; exact hb)
            clear hb
            go_wp2_with fail
            go_region_held3 (fun u => True)
              (first | exact trivial)
              (first | (go_at_call 16; go_must (refine (HC16.out _ ?_).mono ?_; (first | exact HB0.out | exact below_drewN HB0.out _ | exact Below.drew HB0.out); rintro e w4 ⟨v4, rfl, h4, hb⟩; have HB4 := Lib.hid hb; have HS4 := Lib.hid h4; clear hb h4)) | (go_at_call 71; go_must (refine (HC71.out _ _ ?_ ?_).mono ?_; exact HB4.out; exact HS4.out; rintro e w5 ⟨rfl, hb⟩; have HB5 := Lib.hid (below_then HW.out hb); have HS5 := Lib.hid (HS.out.ext hb); clear hb)))
            all_goals
              go_wp2_with fail
              go_roundw
              case rel => exact ⟨k + 1, by go_num, by omega, by omega, HT2, HB5, HS5⟩
              case measure => simp [intOf]; omega
        · have HZ2 : Hid (false = fits p s) := Lib.hid (by rw [← HZ.out, fitsP_no (fun n h1 h2 => HT.out n h1 (by omega))])
          go_wp2_with fail
          go_ret
          exact ⟨ret_bool HZ2.out, HW.out⟩
end Go.Proofs.YtopamnfelngkcaaDoor
