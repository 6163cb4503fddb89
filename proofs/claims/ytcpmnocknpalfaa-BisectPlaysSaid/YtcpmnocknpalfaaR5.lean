/-
  Layer 14, the document's: Nodes. No condition besides what the arguments are.
-/
import Derived.Test.YtcpmnocknpalfaaR4
namespace Go.Proofs.Ytcpmnocknpalfaa
open Go.RowKit Go.Sl
set_option linter.unusedVariables false

set_option maxRecDepth 100000 in
set_option maxHeartbeats 1000000 in
theorem rnodes_any (gv v : Value) (w : World) (es : List (SlV × Int)) (g : List Nd) (l : List Int) (c : Nat) (hc : Dag.nodes g l = c) (hG : Gr w gv es g) (h : Sl eInt 1 w v l) :
    Calls Try.prog 17 #[gv, v] w fun e w' => e = .returned (.int .i64 (c : Nat)) ∧ Below w.heap.size w w' := by
  have hix0 := hG.run_len
  have hlen := h.run_len (P := Try.prog) Try.underlying23
  have hmax := h.len_le
  have hgm := hG.len_le
  have HCk := Lib.hid (rcheck_any gv es g w hG)
  by_cases hg : Dag.okG g
  · have HG := Lib.hid hg
    rw [Dag.chk_ok hg] at HCk
    have HC := Lib.hid hc
    clear hg hc
    go_enter Try.func17, Try.ntmps17
    go_wp2_with (go_at_call 21; go_must (refine HCk.out.mono ?_; rintro e w1 ⟨rfl, hb⟩; have HB := Lib.hid hb; clear hb))
    go_loop [6] (fun i => ∃ (k : Nat), k ≤ l.length ∧ i = .int .i64 k ∧ Hid (Dag.inN g.length (l.take k))) (fun i => l.length - (intOf i).toNat)
    case atStart => exact ⟨0, by omega, rfl, Lib.hid (fun x hx => by simp at hx)⟩
    case round =>
      obtain ⟨k, hk, rfl, HT⟩ := hrel
      by_cases hlt : k < l.length
      · obtain ⟨b2, o2, hb2, hix2, hc2⟩ := h.atB HB.out (P := Try.prog) Try.underlying23 cells3 some3 hlt
        have e1 := hc2 0 (by omega)
        simp only [eInt, List.getElem?_cons_zero, Nat.add_zero] at e1
        obtain ⟨x, HY⟩ : ∃ x, Hid (l[k] = x) := ⟨_, Lib.hid rfl⟩
        rw [HY.out] at e1
        clear hc2
        have HBad : Hid (¬ (0 ≤ x ∧ x < g.length) → c = 2) := Lib.hid (fun hn => by rw [← HC.out]; exact Dag.nodes_arg HG.out (fun hl => hn (HY.out ▸ hl l[k] (List.getElem_mem hlt))))
        by_cases h0 : x < 0
        · have d0 := decide_eq_true h0
          have HZ := Lib.hid (HBad.out (by omega))
          go_wp2_with fail
          go_ret
          exact ⟨ret_int (by rw [HZ.out]; rfl), HB.out⟩
        · have d0 := decide_eq_false h0
          by_cases h1 : (g.length : Int) ≤ x
          · have d1 := decide_eq_true h1
            have HZ := Lib.hid (HBad.out (by omega))
            go_wp2_with fail
            go_ret
            exact ⟨ret_int (by rw [HZ.out]; rfl), HB.out⟩
          · have d1 := decide_eq_false h1
            have HN := Lib.hid (inN_snoc hlt HT.out (by rw [HY.out]; omega) (by rw [HY.out]; omega))
            go_wp2_with fail
            go_round
            case rel => exact ⟨k + 1, by omega, by go_num, HN⟩
            case measure => simp [intOf]; omega
      · have HZ : Hid (c = 0) := Lib.hid (by rw [← HC.out]; exact Dag.nodes_ok HG.out (by have := HT.out; rwa [List.take_of_length_le (by omega)] at this))
        go_wp2_with fail
        go_ret
        exact ⟨ret_int (by rw [HZ.out]; rfl), HB.out⟩
  · have HZ : Hid (c = 12) := Lib.hid (by rw [← hc]; exact Dag.nodes_form hg)
    rw [Dag.chk_bad hg] at HCk
    clear hg hc
    go_enter Try.func17, Try.ntmps17
    go_wp2_with (go_at_call 21; go_must (refine HCk.out.mono ?_; rintro e w1 ⟨rfl, hb⟩; have HB := Lib.hid hb; clear hb))
    go_ret
    exact ⟨ret_int (by rw [HZ.out]; rfl), HB.out⟩

end Go.Proofs.Ytcpmnocknpalfaa
