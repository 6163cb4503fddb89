/-
  Layer 20, the document's: Split. No condition besides what the argument is.
-/
import Derived.Test.YtibebmdpjaknpaaW4
namespace Go.Proofs.Ytibebmdpjaknpaa
open Go.RowKit Go.Sl
set_option linter.unusedVariables false

set_option maxRecDepth 100000 in
set_option maxHeartbeats 1000000 in
theorem rsplit_any (v : Value) (L : List UInt8) (w : World) (hv : Sl eByte 1 w v L) (hL : L.length ≤ 100000) :
    Calls Try.prog 12 #[v] w fun e w' => ∃ ov, e = .returned ov ∧ Sl.Own eL 1 w.heap.size 9 w' ov (Line.lines L) ∧ Below w.heap.size w w' := by
  have hlen := hv.run_len (P := Try.prog) Try.underlying31
  have HLL := Lib.hid (Line.len_lines L)
  go_enter Try.func12, Try.ntmps12
  go_wp2_with fail
  go_loopw [3, 4, 5] (fun o s i wr => ∃ (k : Nat) (now : List UInt8) (out : List (List UInt8)), i = .int .i64 k ∧ s = .string (bstr now) ∧ k ≤ L.length ∧ now.length ≤ k ∧ Hid (out ++ Line.spl now (L.drop k) = Line.lines L) ∧ Hid (Sl.Own eL 1 w.heap.size 9 wr o out) ∧ Hid (Below w.heap.size w wr)) (fun _ _ i _ => L.length - (intOf i).toNat)
  case atStart => exact ⟨0, [], [], rfl, rfl, by omega, by simp, Lib.hid rfl, Lib.hid (Sl.Own.nil _ _ _ _ _), Lib.hid (Below.refl _ _)⟩
  case round =>
    obtain ⟨k, now, out, rfl, rfl, hk, hn, HS, HO, HW⟩ := hrel
    by_cases hlt : k < L.length
    · obtain ⟨v', hx, ⟨a1, n1, c1, rfl⟩, hsl⟩ := hv.sub (P := Try.prog) Try.underlying31 (by kernel_rfl) cells5 some5 (lo := k) (hi' := k + 1) (x := (k : Int)) (y := (k : Int) + 1) rfl (by omega) (by omega) (by omega)
      obtain ⟨b2, o2, hb2, hix2, hc2⟩ := hv.atB HW.out (P := Try.prog) Try.underlying31 cells5 some5 hlt
      have e1 := hc2 0 (by omega)
      simp only [eByte, List.getElem?_cons_zero, Nat.add_zero] at e1
      obtain ⟨c, HC⟩ : ∃ c, Hid (L[k] = c) := ⟨_, Lib.hid rfl⟩
      rw [HC.out] at e1
      have hd := List.drop_eq_getElem_cons hlt
      rw [HC.out] at hd
      have hone : (L.drop k).take (k + 1 - k) = [c] := by rw [hd]; simp
      rw [hone] at hsl
      have hconv := (hsl.ext HW.out).run_string (P := Try.prog) Try.underlying31 Try.underlying5 Try.underlying9
      have HS2 : Hid (out ++ (if c = 10 then (now ++ [c]) :: Line.spl [] (L.drop (k + 1)) else Line.spl (now ++ [c]) (L.drop (k + 1))) = Line.lines L) := Lib.hid (by rw [← HS.out, hd, Line.spl])
      have hol : out.length < 100000 := by
        have h1 := HLL.out
        have h2 := congrArg List.length HS2.out
        rw [List.length_append] at h2
        split at h2
        · rw [List.length_cons] at h2; omega
        · have h3 : ∀ (m : List UInt8) (nw : List UInt8), nw ≠ [] → Line.spl nw m ≠ [] := by
            intro m
            induction m with
            | nil => intro nw h; simp [Line.spl, h]
            | cons d m ih => intro nw h; unfold Line.spl; split <;> simp [ih]
          have h4 := List.length_pos_iff.2 (h3 (L.drop (k + 1)) (now ++ [c]) (by simp))
          omega
      clear hc2 hd hone hsl HS
      by_cases h10 : c = 10
      · subst h10
        have HS3 : Hid ((out ++ [now ++ [10]]) ++ Line.spl [] (L.drop (k + 1)) = Line.lines L) := Lib.hid (by have := HS2.out; rw [if_pos rfl] at this; simpa using this)
        clear HS2
        go_wp2_with (at_builtin; go_must (refine wpList_append1 rfl (en := eL) (s := 1) (base := w.heap.size) (e := 9) _ _ 22 rfl (.string .empty) 16 Try.underlying22 info9 rfl (by decide) len_eL one_eL _ _ out (now ++ [10]) rfl (HO.out.alloc _) rfl (Sl.fresh len_eL rfl rfl rfl (by simp [maxLen])) (by simp only [maxLen]; omega) (by omega) (by have := HW.out.size; simp; omega) ?_; intro ov' w6 hown hgr hbel hblk; have HO2 := Lib.hid hown; have HW2 := Lib.hid ((HW.out.alloc HW.out.size _).trans hbel); clear hown hgr hbel hblk))
        go_roundw
        case rel => exact ⟨k + 1, [], _, by go_num, rfl, by omega, by simp, HS3, HO2, HW2⟩
        case measure => simp [intOf]; omega
      · have hc10 : (c == 10) = false := by simpa using h10
        have hcI : ((c.toNat : Int) == 10) = false := by
          rw [Bool.eq_false_iff]; intro h
          have := eq_of_beq h
          exact h10 (UInt8.toNat_inj.1 (by show c.toNat = 10; omega))
        have hcI2 : decide ((c.toNat : Int) = 10) = false := by
          rw [decide_eq_false_iff_not]; intro h
          exact h10 (UInt8.toNat_inj.1 (by show c.toNat = 10; omega))
        have HS3 : Hid (out ++ Line.spl (now ++ [c]) (L.drop (k + 1)) = Line.lines L) := Lib.hid (by have := HS2.out; rwa [if_neg h10] at this)
        clear HS2 h10
        go_wp2_with fail
        go_roundw
        case rel => exact ⟨k + 1, now ++ [c], out, by go_num, rfl, by omega, by simp; omega, HS3, HO, HW⟩
        case measure => simp [intOf]; omega
    · have hd : L.drop k = [] := List.drop_eq_nil_of_le (by omega)
      rw [hd] at HS
      clear hd
      by_cases hnow : now = []
      · subst hnow
        have HX : Hid (out = Line.lines L) := Lib.hid (by have := HS.out; simpa [Line.spl] using this)
        clear HS
        go_wp2_with fail
        go_ret
        exact ⟨_, rfl, by rw [← HX.out]; exact HO.out, HW.out⟩
      · have h0 : (now == []) = false := by simpa using hnow
        have h1 : now.isEmpty = false := by simpa using hnow
        have HX : Hid (out ++ [now] = Line.lines L) := Lib.hid (by have := HS.out; simpa [Line.spl, hnow] using this)
        have hol : out.length < 100000 := by
          have h1 := HLL.out
          have h2 := congrArg List.length HX.out
          simp at h2
          omega
        clear HS
        go_wp2_with (at_builtin; go_must (refine wpList_append1 rfl (en := eL) (s := 1) (base := w.heap.size) (e := 9) _ _ 22 rfl (.string .empty) 16 Try.underlying22 info9 rfl (by decide) len_eL one_eL _ _ out now rfl (HO.out.alloc _) rfl (Sl.fresh len_eL rfl rfl rfl (by simp [maxLen])) (by simp only [maxLen]; omega) (by omega) (by have := HW.out.size; simp; omega) ?_; intro ov' w6 hown hgr hbel hblk; have HO2 := Lib.hid hown; have HW2 := Lib.hid ((HW.out.alloc HW.out.size _).trans hbel); clear hown hgr hbel hblk))
        go_ret
        exact ⟨_, rfl, by rw [← HX.out]; exact HO2.out, HW2.out⟩
end Go.Proofs.Ytibebmdpjaknpaa
