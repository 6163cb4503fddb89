/-
  Layer 14: are numbers nodes of a graph; Above, Range. No condition besides what the arguments are.
-/
import Derived.Test.YtcpmnocknpalfaaH7
namespace Go.Dag
open Classical in
theorem nodes_ok {g : List Nd} {l : List Int} (hg : okG g) (hl : inN g.length l) : nodes g l = 0 := by unfold nodes; rw [if_pos hg, if_pos hl]
open Classical in
theorem nodes_arg {g : List Nd} {l : List Int} (hg : okG g) (hl : ¬ inN g.length l) : nodes g l = 2 := by unfold nodes; rw [if_pos hg, if_neg hl]
open Classical in
theorem nodes_form {g : List Nd} {l : List Int} (hg : ¬ okG g) : nodes g l = 12 := by unfold nodes; rw [if_neg hg]
theorem nodes_cases (g : List Nd) (l : List Int) : (okG g ∧ inN g.length l ∧ nodes g l = 0) ∨ (okG g ∧ ¬ inN g.length l ∧ nodes g l = 2) ∨ (¬ okG g ∧ nodes g l = 12) := by
  by_cases hg : okG g
  · by_cases hl : inN g.length l
    · exact .inl ⟨hg, hl, nodes_ok hg hl⟩
    · exact .inr (.inl ⟨hg, hl, nodes_arg hg hl⟩)
  · exact .inr (.inr ⟨hg, nodes_form hg⟩)
theorem nodes_zero {g : List Nd} {l : List Int} (h : nodes g l = 0) : okG g ∧ inN g.length l := by
  rcases nodes_cases g l with ⟨a, b, _⟩ | ⟨_, _, c⟩ | ⟨_, c⟩
  · exact ⟨a, b⟩
  · omega
  · omega
end Go.Dag
namespace Go.Proofs.Ytcpmnocknpalfaa
open Go.RowKit Go.Sl

theorem inN_snoc {N : Nat} {l : List Int} {k : Nat} (hk : k < l.length) (h : Dag.inN N (l.take k)) (h0 : 0 ≤ l[k]) (h1 : l[k] < N) : Dag.inN N (l.take (k + 1)) := by
  intro x hx
  rw [List.take_succ_eq_append_getElem hk, List.mem_append, List.mem_singleton] at hx
  rcases hx with hx | rfl
  · exact h x hx
  · exact ⟨h0, h1⟩

set_option maxRecDepth 100000 in
set_option maxHeartbeats 1000000 in
theorem nodes_any (gv v : Value) (w : World) (es : List (SlV × Int)) (g : List Nd) (l : List Int) (c : Nat) (hc : Dag.nodes g l = c) (hG : Gr w gv es g) (h : Sl eInt 1 w v l) :
    Calls Try.prog 68 #[gv, v] w fun e w' => e = .returned (.int .i64 (c : Nat)) ∧ Below w.heap.size w w' := by
  have hix0 := hG.run_len
  have hlen := h.run_len (P := Try.prog) Try.underlying23
  have hmax := h.len_le
  have hgm := hG.len_le
  have HCk := Lib.hid (check_any gv es g w hG)
  by_cases hg : Dag.okG g
  · have HG := Lib.hid hg
    rw [Dag.chk_ok hg] at HCk
    have HC := Lib.hid hc
    clear hg hc
    go_enter Try.func68, Try.ntmps68
    go_wp2_with (go_at_call 24; go_must (refine HCk.out.mono ?_; rintro e w1 ⟨rfl, hb⟩; have HB := Lib.hid hb; clear hb))
    go_loop [15] (fun i => ∃ (k : Nat), k ≤ l.length ∧ i = .int .i64 k ∧ Hid (Dag.inN g.length (l.take k))) (fun i => l.length - (intOf i).toNat)
    case atStart => exact ⟨0, by omega, rfl, Lib.hid (fun x hx => by simp at hx)⟩
    case round =>
      obtain ⟨k, hk, rfl, HT⟩ := hrel
      by_cases hlt : k < l.length
      · obtain ⟨b2, o2, hb2, hix2, hc2⟩ := h.atB HB.out (P := Try.prog) Try.underlying23 cells3 some3 hlt
        have e1 := hc2 0 (by omega)
        simp only [eInt, List.getElem?_cons_zero, Nat.add_zero] at e1
        obtain ⟨x, HY⟩ : ∃ x, Hid (l[k] = x) := ⟨_, Lib.hid rfl⟩
        rw [HY.out] at e1
        clear hc2
        have HBad : Hid (¬ (0 ≤ x ∧ x < g.length) → c = 2) := Lib.hid (fun hn => by rw [← HC.out]; exact Dag.nodes_arg HG.out (fun hl => hn (HY.out ▸ hl l[k] (List.getElem_mem hlt))))
        by_cases h0 : x < 0
        · have d0 := decide_eq_true h0
          have HZ := Lib.hid (HBad.out (by omega))
          go_wp2_with fail
          go_ret
          exact ⟨ret_int (by rw [HZ.out]; rfl), HB.out⟩
        · have d0 := decide_eq_false h0
          by_cases h1 : (g.length : Int) ≤ x
          · have d1 := decide_eq_true h1
            have HZ := Lib.hid (HBad.out (by omega))
            go_wp2_with fail
            go_ret
            exact ⟨ret_int (by rw [HZ.out]; rfl), HB.out⟩
          · have d1 := decide_eq_false h1
            have HN := Lib.hid (inN_snoc hlt HT.out (by rw [HY.out]; omega) (by rw [HY.out]; omega))
            go_wp2_with fail
            go_round
            case rel => exact ⟨k + 1, by omega, by go_num, HN⟩
            case measure => simp [intOf]; omega
      · have HZ : Hid (c = 0) := Lib.hid (by rw [← HC.out]; exact Dag.nodes_ok HG.out (by have := HT.out; rwa [List.take_of_length_le (by omega)] at this))
        go_wp2_with fail
        go_ret
        exact ⟨ret_int (by rw [HZ.out]; rfl), HB.out⟩
  · have HZ : Hid (c = 12) := Lib.hid (by rw [← hc]; exact Dag.nodes_form hg)
    rw [Dag.chk_bad hg] at HCk
    clear hg hc
    go_enter Try.func68, Try.ntmps68
    go_wp2_with (go_at_call 24; go_must (refine HCk.out.mono ?_; rintro e w1 ⟨rfl, hb⟩; have HB := Lib.hid hb; clear hb))
    go_ret
    exact ⟨ret_int (by rw [HZ.out]; rfl), HB.out⟩

theorem Sl.extB {α : Type} {en : α → List Value} {s : Nat} {w w' : World} {v : Value} {l : List α} (h : Sl en s w v l) (hb : Hid (Below w.heap.size w w')) : Sl en s w' v l := h.ext hb.out

set_option maxRecDepth 100000 in
set_option maxHeartbeats 1000000 in
theorem above_bad (gv v : Value) (w : World) (es : List (SlV × Int)) (g : List Nd) (l : List Int) (c : Nat) (hc : Dag.nodes g l = c) (h0 : c ≠ 0) (hG : Gr w gv es g) (h : Sl eInt 1 w v l) :
    Calls Try.prog 33 #[gv, v] w fun e w' => e = .returned (.tuple #[.slice none 0 0, .int .i64 (c : Nat)]) ∧ Below w.heap.size w w' := by
  have HC := Lib.hid (nodes_any gv v w es g l c hc hG h)
  have d1 : ((c : Int) != 0) = true := by simp; omega
  have d2 : (c != 0) = true := by simp; omega
  clear hc h0
  go_enter Try.func33, Try.ntmps33
  go_wp2_with (go_at_call 68; go_must (refine HC.out.mono ?_; rintro e w1 ⟨rfl, hb⟩; have HB := Lib.hid hb; clear hb))
  go_ret2
  exact ⟨rfl, HB.out⟩
/-- a list, and no error -/
def ListOk (base : Nat) (l : List Int) (w : World) (e : Ending) (w' : World) : Prop := ∃ v, e = .returned (.tuple #[v, .int .i64 0]) ∧ Own eInt 1 base 3 w' v l ∧ Below w.heap.size w w'
set_option maxRecDepth 100000 in
set_option maxHeartbeats 1000000 in
theorem above_ok (gv v : Value) (w : World) (es : List (SlV × Int)) (g : List Nd) (l : List Int) (hg : Dag.okG g) (hl : Dag.inN g.length l) (hG : Gr w gv es g) (h : Sl eInt 1 w v l) :
    Calls Try.prog 33 #[gv, v] w (ListOk w.heap.size (Dag.rangeL g (Dag.nn l) []) w) := by
  have HC := Lib.hid (nodes_any gv v w es g l 0 (Dag.nodes_ok hg hl) hG h)
  have HG := Lib.hid hg
  have HL := Lib.hid hl
  clear hg hl
  go_enter Try.func33, Try.ntmps33
  go_wp2_with (first
    | (go_at_call 68; go_must (refine HC.out.mono ?_; rintro e w1 ⟨rfl, hb⟩; have HB := Lib.hid hb; clear hb))
    | (go_at_call 76; go_must (refine (between_any gv v (.slice none 0 0) w1 es g l [] (hG.ext HB.out) HG.out (Sl.extB h HB) (Sl.nil _ _ _) HL.out (fun x hx => by simp at hx)).mono ?_; rintro e w2 ⟨v2, rfl, ho, hb⟩; have HO := Lib.hid ho; have HB2 := Lib.hid hb; clear ho hb)))
  go_ret2
  exact ⟨_, rfl, HO.out.mono HB.out.size, HB.out.trans (HB2.out.mono HB.out.size)⟩

set_option maxRecDepth 100000 in
set_option maxHeartbeats 1000000 in
theorem range_bad1 (gv v1 v2 : Value) (w : World) (es : List (SlV × Int)) (g : List Nd) (l : List Int) (c : Nat) (hc : Dag.nodes g l = c) (h0 : c ≠ 0) (hG : Gr w gv es g) (h : Sl eInt 1 w v1 l) :
    Calls Try.prog 29 #[gv, v1, v2] w fun e w' => e = .returned (.tuple #[.slice none 0 0, .int .i64 (c : Nat)]) ∧ Below w.heap.size w w' := by
  have HC := Lib.hid (nodes_any gv v1 w es g l c hc hG h)
  have d1 : ((c : Int) != 0) = true := by simp; omega
  have d2 : (c != 0) = true := by simp; omega
  clear hc h0
  go_enter Try.func29, Try.ntmps29
  go_wp2_with (go_at_call 68; go_must (refine HC.out.mono ?_; rintro e w1 ⟨rfl, hb⟩; have HB := Lib.hid hb; clear hb))
  go_ret2
  exact ⟨rfl, HB.out⟩
set_option maxRecDepth 100000 in
set_option maxHeartbeats 1000000 in
theorem range_bad2 (gv v1 v2 : Value) (w : World) (es : List (SlV × Int)) (g : List Nd) (l m : List Int) (c : Nat) (hc1 : Dag.nodes g l = 0) (hc : Dag.nodes g m = c) (h0 : c ≠ 0) (hG : Gr w gv es g) (h1 : Sl eInt 1 w v1 l) (h2 : Sl eInt 1 w v2 m) :
    Calls Try.prog 29 #[gv, v1, v2] w fun e w' => e = .returned (.tuple #[.slice none 0 0, .int .i64 (c : Nat)]) ∧ Below w.heap.size w w' := by
  have HC := Lib.hid (nodes_any gv v1 w es g l 0 hc1 hG h1)
  have HD := Lib.hid hc
  have d1 : ((c : Int) != 0) = true := by simp; omega
  have d2 : (c != 0) = true := by simp; omega
  clear hc h0 hc1
  go_enter Try.func29, Try.ntmps29
  go_wp2_with fail
  refine HC.out.mono ?_
  rintro e w1 ⟨rfl, hb⟩
  have HB := Lib.hid hb
  clear hb
  go_wp2_with fail
  refine (nodes_any gv v2 w1 es g m c HD.out (hG.ext HB.out) (Sl.extB h2 HB)).mono ?_
  rintro e w2 ⟨rfl, hb⟩
  have HB2 := Lib.hid hb
  clear hb
  go_wp2_with fail
  go_ret2
  exact ⟨rfl, HB.out.trans (HB2.out.mono HB.out.size)⟩
set_option maxRecDepth 100000 in
set_option maxHeartbeats 1000000 in
theorem range_ok (gv v1 v2 : Value) (w : World) (es : List (SlV × Int)) (g : List Nd) (l m : List Int) (hg : Dag.okG g) (hl : Dag.inN g.length l) (hm : Dag.inN g.length m) (hG : Gr w gv es g) (h1 : Sl eInt 1 w v1 l) (h2 : Sl eInt 1 w v2 m) :
    Calls Try.prog 29 #[gv, v1, v2] w (ListOk w.heap.size (Dag.rangeL g (Dag.nn l) (Dag.nn m)) w) := by
  have HC := Lib.hid (nodes_any gv v1 w es g l 0 (Dag.nodes_ok hg hl) hG h1)
  have HG := Lib.hid hg
  have HL := Lib.hid hl
  have HM := Lib.hid hm
  clear hg hl hm
  go_enter Try.func29, Try.ntmps29
  go_wp2_with fail
  refine HC.out.mono ?_
  rintro e w1 ⟨rfl, hb⟩
  have HB := Lib.hid hb
  clear hb
  go_wp2_with fail
  refine (nodes_any gv v2 w1 es g m 0 (Dag.nodes_ok HG.out HM.out) (hG.ext HB.out) (Sl.extB h2 HB)).mono ?_
  rintro e w2 ⟨rfl, hb⟩
  have HB2 := Lib.hid (HB.out.trans (hb.mono HB.out.size))
  clear hb
  go_wp2_with fail
  refine (between_any gv v1 v2 w2 es g l m (hG.ext HB2.out) HG.out (Sl.extB h1 HB2) (Sl.extB h2 HB2) HL.out HM.out).mono ?_
  rintro e w3 ⟨v, rfl, ho, hb⟩
  have HO := Lib.hid ho
  have HB3 := Lib.hid hb
  clear ho hb
  go_wp2_with fail
  go_ret2
  exact ⟨_, rfl, HO.out.mono HB2.out.size, HB2.out.trans (HB3.out.mono HB2.out.size)⟩
end Go.Proofs.Ytcpmnocknpalfaa
