/-
  Layer 15: are the arguments right; times; an empty queue; the pile. No condition besides what the arguments are.
-/
import Derived.Test.YtcpmnocknpalfaaQ2
import Derived.Test.YtcpmnocknpalfaaH8
namespace Go.Proofs.Ytcpmnocknpalfaa
open Go.RowKit Go.Sl
set_option linter.unusedVariables false

set_option maxRecDepth 100000 in
set_option maxHeartbeats 1000000 in
theorem ocheck_any (gv v : Value) (w : World) (es : List (SlV × Int)) (g : List Nd) (l : List Int) (c : Nat) (hc : Dag.nodes g l = c) (hG : Gr w gv es g) (h : Sl eInt 1 w v l) :
    Calls Try.prog 88 #[gv, v] w fun e w' => e = .returned (.int .i64 (c : Nat)) ∧ Below w.heap.size w w' := by
  have hix0 := hG.run_len
  have hlen := h.run_len (P := Try.prog) Try.underlying23
  have hmax := h.len_le
  have hgm := hG.len_le
  have HCk := Lib.hid (check_any gv es g w hG)
  by_cases hg : Dag.okG g
  · have HG := Lib.hid hg
    rw [Dag.chk_ok hg] at HCk
    have HC := Lib.hid hc
    clear hg hc
    go_enter Try.func88, Try.ntmps88
    go_wp2_with (go_at_call 24; go_must (refine HCk.out.mono ?_; rintro e w1 ⟨rfl, hb⟩; have HB := Lib.hid hb; clear hb))
    go_loop [15] (fun i => ∃ (k : Nat), k ≤ l.length ∧ i = .int .i64 k ∧ Hid (Dag.inN g.length (l.take k))) (fun i => l.length - (intOf i).toNat)
    case atStart => exact ⟨0, by omega, rfl, Lib.hid (fun x hx => by simp at hx)⟩
    case round =>
      obtain ⟨k, hk, rfl, HT⟩ := hrel
      by_cases hlt : k < l.length
      · obtain ⟨b2, o2, hb2, hix2, hc2⟩ := h.atB HB.out (P := Try.prog) Try.underlying23 cells3 some3 hlt
        have e1 := hc2 0 (by omega)
        simp only [eInt, List.getElem?_cons_zero, Nat.add_zero] at e1
        obtain ⟨x, HY⟩ : ∃ x, Hid (l[k] = x) := ⟨_, Lib.hid rfl⟩
        rw [HY.out] at e1
        clear hc2
        have HBad : Hid (¬ (0 ≤ x ∧ x < g.length) → c = 2) := Lib.hid (fun hn => by rw [← HC.out]; exact Dag.nodes_arg HG.out (fun hl => hn (HY.out ▸ hl l[k] (List.getElem_mem hlt))))
        by_cases h0 : x < 0
        · have d0 := decide_eq_true h0
          have HZ := Lib.hid (HBad.out (by omega))
          go_wp2_with fail
          go_ret
          exact ⟨ret_int (by rw [HZ.out]; rfl), HB.out⟩
        · have d0 := decide_eq_false h0
          by_cases h1 : (g.length : Int) ≤ x
          · have d1 := decide_eq_true h1
            have HZ := Lib.hid (HBad.out (by omega))
            go_wp2_with fail
            go_ret
            exact ⟨ret_int (by rw [HZ.out]; rfl), HB.out⟩
          · have d1 := decide_eq_false h1
            have HN := Lib.hid (inN_snoc hlt HT.out (by rw [HY.out]; omega) (by rw [HY.out]; omega))
            go_wp2_with fail
            go_round
            case rel => exact ⟨k + 1, by omega, by go_num, HN⟩
            case measure => simp [intOf]; omega
      · have HZ : Hid (c = 0) := Lib.hid (by rw [← HC.out]; exact Dag.nodes_ok HG.out (by have := HT.out; rwa [List.take_of_length_le (by omega)] at this))
        go_wp2_with fail
        go_ret
        exact ⟨ret_int (by rw [HZ.out]; rfl), HB.out⟩
  · have HZ : Hid (c = 12) := Lib.hid (by rw [← hc]; exact Dag.nodes_form hg)
    rw [Dag.chk_bad hg] at HCk
    clear hg hc
    go_enter Try.func88, Try.ntmps88
    go_wp2_with (go_at_call 24; go_must (refine HCk.out.mono ?_; rintro e w1 ⟨rfl, hb⟩; have HB := Lib.hid hb; clear hb))
    go_ret
    exact ⟨ret_int (by rw [HZ.out]; rfl), HB.out⟩


set_option maxRecDepth 100000 in
theorem times90 (gv : Value) (w : World) (hgv : ∃ a n c, gv = .slice a n c) : Calls Try.prog 90 #[gv] w fun e w' => e = .returned (keyV 104 w.heap.size) ∧ w' = w.alloc (.cells #[gv] 22) := by
  obtain ⟨ga, gn, gc, rfl⟩ := hgv
  have hmf : ∀ (fn : Fn) (first cap : Array Value) (w : World), (Instr.makeFunc fn first cap).run Try.prog w = .ok (.func fn first cap) w := fun _ _ _ _ => rfl
  go_enter Try.func90, Try.ntmps90
  go_wp2_with fail
  go_ret
  exact ⟨rfl, rfl⟩

set_option maxRecDepth 100000 in
theorem empty98 (w : World) (pb base : Nat) (qv fv : Value) (q : List Int) (hp : w.heap[pb]? = some (.cells #[qv, fv] 117 (0, 0))) (ho : Own eInt 1 base 3 w qv q) :
    Calls Try.prog 98 #[.pointer (some ⟨pb, 0, none⟩)] w fun e w' => e = .returned (.bool (decide (q = []))) ∧ w' = w := by
  obtain ⟨h1, c1, _, f1, _⟩ := two_cells hp
  have hl := (ho.sl len_eInt).run_len (P := Try.prog) Try.underlying23
  cases q with
  | nil =>
    simp only [List.length_nil] at hl
    clear hp ho
    go_enter Try.func98, Try.ntmps98
    go_wp2_with fail
    go_ret
    exact ⟨rfl, rfl⟩
  | cons y r =>
    simp only [List.length_cons] at hl
    have hd : (((r.length + 1 : Nat) : Int) == 0) = false := by simp; omega
    have hd2 : ((r.length : Int) + 1 == 0) = false := by simp; omega
    clear hp ho
    go_enter Try.func98, Try.ntmps98
    go_wp2_with fail
    go_ret
    exact ⟨by simp, rfl⟩
end Go.Proofs.Ytcpmnocknpalfaa
