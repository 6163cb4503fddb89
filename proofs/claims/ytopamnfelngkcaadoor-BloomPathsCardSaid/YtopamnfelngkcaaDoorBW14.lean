/-
  BloomKeeps: every text of a filter may be in it. No condition besides what the arguments are.
-/
import Derived.Test.YtopamnfelngkcaaDoorBW12
namespace Go.Proofs.YtopamnfelngkcaaDoor.Bm
open Go.Proofs Go.RowKit Go.Shelf Go.Sl Go.Bl
set_option linter.unusedVariables false

/-- is a list of texts large? -/
def largeF (L : List Str) : Bool := decide (260 < L.length) || L.any (fun x => decide (200 < x.length))
theorem largeF_no {L : List Str} (h : largeF L = false) : L.length ≤ 260 ∧ ∀ x ∈ L, x.length ≤ 200 := by
  unfold largeF at h
  rw [Bool.or_eq_false_iff, decide_eq_false_iff_not, List.any_eq_false] at h
  exact ⟨by omega, fun x hx => by have := h.2 x hx; simpa using this⟩

set_option maxRecDepth 100000 in
set_option maxHeartbeats 1000000 in
theorem large_any (v : Value) (L : List Str) (w : World) (hv : Sl eL 1 w v L) (hl : ∀ x ∈ L, x.length ≤ 9223372036854775807) :
    Calls Tryd.prog 40 #[v] w fun e w' => e = .returned (.bool (largeF L)) ∧ w = w' := by
  have hlen := hv.run_len (P := Tryd.prog) Tryd.underlying22
  have hfm := hv.len_le
  by_cases h : 260 < L.length
  · have d1 : decide ((260 : Int) < L.length) = true := decide_eq_true (by omega)
    have HE : Hid (largeF L = true) := Lib.hid (by unfold largeF; rw [decide_eq_true h]; rfl)
    go_enter Tryd.func40, Tryd.ntmps40
    go_wp2_with fail
    go_ret
    exact ⟨by rw [HE.out]; rfl, rfl⟩
  · have d1 : decide ((260 : Int) < L.length) = false := decide_eq_false (by omega)
    have HE : Hid (largeF L = L.any (fun x => decide (200 < x.length))) := Lib.hid (by unfold largeF; rw [decide_eq_false h]; rfl)
    go_enter Tryd.func40, Tryd.ntmps40
    go_wp2_with fail
    go_loopw [3] (fun i wr => ∃ (k : Nat), i = .int .i64 k ∧ k ≤ L.length ∧ Hid (∀ i (hi : i < L.length), i < k → L[i].length ≤ 200) ∧ Hid (wr = w)) (fun i _ => L.length - (intOf i).toNat)
    case atStart => exact ⟨0, rfl, by omega, Lib.hid (fun i _ h => by omega), Lib.hid rfl⟩
    case round =>
      obtain ⟨k, rfl, hk, HA, HW⟩ := hrel
      obtain rfl := HW.out
      by_cases hlt : k < L.length
      · have d3 : decide ((k : Int) < (L.length : Int)) = true := decide_eq_true (by omega)
        obtain ⟨b5, o5, hb5, hix, hcell⟩ := hv.at (P := Tryd.prog) Tryd.underlying22 cells9 some9 hlt
        have e1 := hcell 0 (by omega)
        obtain ⟨x, hx⟩ : ∃ x, Hid (L[k] = x) := ⟨_, Lib.hid rfl⟩
        simp only [eL, List.getElem?_cons_zero, Nat.add_zero] at e1
        rw [hx.out] at e1
        have hxl : x.length ≤ 9223372036854775807 := hl _ (by rw [← hx.out]; exact List.getElem_mem hlt)
        clear hcell
        by_cases h2 : 200 < x.length
        · have d2 : decide ((200 : Int) < x.length) = true := decide_eq_true (by omega)
          have HT : Hid (largeF L = true) := Lib.hid (by
            rw [HE.out, List.any_eq_true]
            exact ⟨x, by rw [← hx.out]; exact List.getElem_mem hlt, decide_eq_true h2⟩)
          go_wp2_with fail
          go_ret
          exact ⟨by rw [HT.out]; rfl, rfl⟩
        · have d2 : decide ((200 : Int) < x.length) = false := decide_eq_false (by omega)
          have HA2 : Hid (∀ i (hi : i < L.length), i < k + 1 → L[i].length ≤ 200) := Lib.hid (fun i hi h => by
            by_cases e : i = k
            · subst e; rw [hx.out]; omega
            · exact HA.out i hi (by omega))
          go_wp2_with fail
          go_roundw
          case rel => exact ⟨k + 1, by go_num, by omega, HA2, by first | exact Lib.hid rfl | exact Lib.hid trivial⟩
          case measure => simp [intOf]; omega
      · obtain rfl : k = L.length := by omega
        have d3 : decide ((L.length : Int) < (L.length : Int)) = false := decide_eq_false (by omega)
        have HT : Hid (largeF L = false) := Lib.hid (by
          rw [HE.out, List.any_eq_false]
          intro x hx
          obtain ⟨i, hi, rfl⟩ := List.getElem_of_mem hx
          have := HA.out i hi hi
          simpa using this)
        go_wp2_with fail
        go_ret
        exact ⟨by rw [HT.out]; rfl, rfl⟩

end Go.Proofs.YtopamnfelngkcaaDoor.Bm
