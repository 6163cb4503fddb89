/-
  Layer 5: the document's touches and Touch; the law RouteTouch. No condition besides what the arguments are.
-/
import Derived.Test.YtopamnfelngkcaaDoorW18
namespace Go.Proofs.YtopamnfelngkcaaDoor
open Go.RowKit Go.Sl Go.Route
set_option linter.unusedVariables false

def anyA (P l : List Wd) : Bool := (List.range (l.length + 1)).any (fun n => stands P (l.take n))
def anyP (P l : List Wd) : Bool := (List.range (P.length + 1)).any (fun n => stands (P.take n) l)
theorem range_yes {f : Nat → Bool} {n k : Nat} (h : k < n) (hf : f k = true) : (List.range n).any f = true := List.any_eq_true.2 ⟨k, List.mem_range.2 h, hf⟩
theorem range_no {f : Nat → Bool} {n : Nat} (h : ∀ k, k < n → f k = false) : (List.range n).any f = false := by
  rw [List.any_eq_false]; intro k hk; rw [h k (List.mem_range.1 hk)]; simp
theorem touchP_yesA {P l : List Wd} {k : Nat} (h : k ≤ l.length) (hf : stands P (l.take k) = true) : touchP P l = true := by
  unfold touchP; rw [range_yes (f := fun n => stands P (l.take n)) (show k < l.length + 1 by omega) hf]; rfl
theorem touchP_yesP {P l : List Wd} {k : Nat} (h : k ≤ P.length) (hf : stands (P.take k) l = true) : touchP P l = true := by
  unfold touchP; rw [range_yes (f := fun n => stands (P.take n) l) (show k < P.length + 1 by omega) hf, Bool.or_true]
theorem touchP_no {P l : List Wd} (ha : ∀ k, k < l.length + 1 → stands P (l.take k) = false) (hp : ∀ k, k < P.length + 1 → stands (P.take k) l = false) : touchP P l = false := by
  unfold touchP; rw [range_no ha, range_no hp]; rfl

set_option maxRecDepth 100000 in
set_option maxHeartbeats 2000000 in
theorem rtouches_any (p d : Wd) (w : World) (hp : p.length ≤ 300) (hd : d.length ≤ 300) :
    Calls Tryd.prog 66 #[.string (bstr p), .string (bstr d)] w fun e w' => e = .returned (.bool (tch p d)) ∧ Below w.heap.size w w' := by
  have HF : Hid (tch p d = (pat p && touchP (parts p) (parts d))) := Lib.hid rfl
  go_enter Tryd.func66, Tryd.ntmps66
  go_wp2_with fail
  refine (rpat_any p w (by omega)).mono ?_
  rintro e w1 ⟨rfl, hb⟩
  have HW1 := Lib.hid hb
  clear hb
  cases h1 : pat p with
  | false =>
    have HZ : Hid (false = tch p d) := Lib.hid (by rw [HF.out, h1]; rfl)
    clear h1
    go_wp2_with fail
    go_ret
    exact ⟨ret_bool HZ.out, HW1.out⟩
  | true =>
    have HZ : Hid (touchP (parts p) (parts d) = tch p d) := Lib.hid (by rw [HF.out, h1]; rfl)
    clear h1
    have hpl := parts_len_le d
    have hpl2 := parts_len_le p
    have HLd : Hid (∀ q ∈ parts d, q.length ≤ 1000) := Lib.hid (fun q hq => by have := parts_mem_len hq; omega)
    have HLp : Hid (∀ q ∈ parts p, q.length ≤ 1000) := Lib.hid (fun q hq => by have := parts_mem_len hq; omega)
    go_wp2_with fail
    refine (rparts_any p w1 (by omega)).mono ?_
    rintro e w2 ⟨pv, rfl, hs2, hb⟩
    have hlen2 := hs2.run_len (P := Tryd.prog) Tryd.underlying22
    have HS2 := Lib.hid hs2
    have HW2 := Lib.hid (below_then HW1.out hb)
    clear hs2 hb
    go_wp2_with fail
    refine (rparts_any d w2 (by omega)).mono ?_
    rintro e w3 ⟨dv, rfl, hs3, hb⟩
    have hlen3 := hs3.run_len (P := Tryd.prog) Tryd.underlying22
    have HS3 := Lib.hid hs3
    have HP3 := Lib.hid (HS2.out.ext hb)
    have HW3 := Lib.hid (below_then HW2.out hb)
    clear hs3 hb HS2
    obtain ⟨l, HL⟩ : ∃ l, Hid (parts d = l) := ⟨_, Lib.hid rfl⟩
    obtain ⟨P, HP⟩ : ∃ l, Hid (parts p = l) := ⟨_, Lib.hid rfl⟩
    rw [HL.out] at hlen3 hpl HS3 HZ HLd
    rw [HP.out] at hlen2 hpl2 HP3 HZ HLp
    go_wp2_with fail
    go_loopw [7] (fun i wr => ∃ (k : Nat), i = .int .i64 k ∧ k ≤ l.length + 1 ∧ Hid (∀ n, n < k → stands P (l.take n) = false) ∧ Hid (Below w.heap.size w wr) ∧ Hid (Sl eL 1 wr dv l) ∧ Hid (Sl eL 1 wr pv P)) (fun i _ => l.length + 1 - (intOf i).toNat)
    case atStart => exact ⟨0, rfl, by omega, Lib.hid (fun n h1 => by omega), HW3, HS3, HP3⟩
    case round =>
      clear HS3 HP3 HW3
      obtain ⟨k, rfl, hk, HT, HW, HSd, HSp⟩ := hrel
      by_cases hlt : k ≤ l.length
      · obtain ⟨lv, hxl, ⟨a3, n3, k3, rfl⟩, hsl⟩ := HSd.out.upto (P := Tryd.prog) Tryd.underlying22 (by kernel_rfl) cells9 some9 (hi' := k) hlt
        have hC := rstands_any _ pv _ P (l.take k) wr (Nat.le_refl _) HSp.out hsl HLp.out (fun q hq => HLd.out q (List.mem_of_mem_take hq))
        clear hsl
        cases hb : stands P (l.take k) with
        | true =>
          rw [hb] at hC
          have HZ2 : Hid (true = tch p d) := Lib.hid (by rw [← HZ.out, touchP_yesA hlt hb])
          clear hb
          go_wp2_with fail
          refine hC.mono ?_
          rintro e w4 ⟨rfl, hb⟩
          have HB4 := Lib.hid (below_then HW.out hb)
          clear hb
          go_wp2_with fail
          go_ret
          exact ⟨ret_bool HZ2.out, HB4.out⟩
        | false =>
          rw [hb] at hC
          have HT2 : Hid (∀ n, n < k + 1 → stands P (l.take n) = false) := Lib.hid (fun n h2 => by
            rcases Nat.lt_or_ge n k with h | h
            · exact HT.out n h
            · rw [show n = k by omega]; exact hb)
          clear hb
          go_wp2_with fail
          refine hC.mono ?_
          rintro e w4 ⟨rfl, hb⟩
          have HB4 := Lib.hid (below_then HW.out hb)
          have HS4 := Lib.hid (HSd.out.ext hb)
          have HP4 := Lib.hid (HSp.out.ext hb)
          clear hb
          go_wp2_with fail
          go_roundw
          case rel => exact ⟨k + 1, by go_num, by omega, HT2, HB4, HS4, HP4⟩
          case measure => simp [intOf]; omega
      · have HTA : Hid (∀ n, n < l.length + 1 → stands P (l.take n) = false) := Lib.hid (fun n h => HT.out n (by omega))
        obtain ⟨wo, rfl⟩ : ∃ x, x = wr := ⟨_, rfl⟩
        clear HT
        go_wp2_with fail
        go_loopw [8] (fun i wr => ∃ (k : Nat), i = .int .i64 k ∧ k ≤ P.length + 1 ∧ Hid (∀ n, n < k → stands (P.take n) l = false) ∧ Hid (Below w.heap.size w wr) ∧ Hid (Sl eL 1 wr dv l) ∧ Hid (Sl eL 1 wr pv P)) (fun i _ => P.length + 1 - (intOf i).toNat)
        case atStart => exact ⟨0, rfl, by omega, Lib.hid (fun n h1 => by omega), HW, HSd, HSp⟩
        case round =>
          clear HSd HSp HW hk hlt
          obtain ⟨k, rfl, hk, HT, HW, HSd, HSp⟩ := hrel
          by_cases hlt : k ≤ P.length
          · obtain ⟨lv, hxl, ⟨a3, n3, k3, rfl⟩, hsl⟩ := HSp.out.upto (P := Tryd.prog) Tryd.underlying22 (by kernel_rfl) cells9 some9 (hi' := k) hlt
            have hC := rstands_any _ _ dv (P.take k) l wr (Nat.le_refl _) hsl HSd.out (fun q hq => HLp.out q (List.mem_of_mem_take hq)) HLd.out
            clear hsl
            cases hb : stands (P.take k) l with
            | true =>
              rw [hb] at hC
              have HZ2 : Hid (true = tch p d) := Lib.hid (by rw [← HZ.out, touchP_yesP hlt hb])
              clear hb
              go_wp2_with fail
              refine hC.mono ?_
              rintro e w4 ⟨rfl, hb⟩
              have HB4 := Lib.hid (below_then HW.out hb)
              clear hb
              go_wp2_with fail
              go_ret
              exact ⟨ret_bool HZ2.out, HB4.out⟩
            | false =>
              rw [hb] at hC
              have HT2 : Hid (∀ n, n < k + 1 → stands (P.take n) l = false) := Lib.hid (fun n h2 => by
                rcases Nat.lt_or_ge n k with h | h
                · exact HT.out n h
                · rw [show n = k by omega]; exact hb)
              clear hb
              go_wp2_with fail
              refine hC.mono ?_
              rintro e w4 ⟨rfl, hb⟩
              have HB4 := Lib.hid (below_then HW.out hb)
              have HS4 := Lib.hid (HSd.out.ext hb)
              have HP4 := Lib.hid (HSp.out.ext hb)
              clear hb
              go_wp2_with fail
              go_roundw
              case rel => exact ⟨k + 1, by go_num, by omega, HT2, HB4, HS4, HP4⟩
              case measure => simp [intOf]; omega
          · have HZ2 : Hid (false = tch p d) := Lib.hid (by rw [← HZ.out, touchP_no HTA.out (fun n h => HT.out n (by omega))])
            go_wp2_with fail
            go_ret
            exact ⟨ret_bool HZ2.out, HW.out⟩
end Go.Proofs.YtopamnfelngkcaaDoor
