/-
  DagBases: what the program answers, the document's. No condition.
-/
import Derived.Test.YtcpmnocknpalfaaW1
namespace Go.Dag
theorem nodes_swap (g : List Nd) (a b : Int) : nodes g [b, a] = nodes g [a, b] := by
  have : inN g.length [b, a] ↔ inN g.length [a, b] := by unfold inN; simp [and_comm]
  unfold nodes
  rw [propext this]
theorem base_swap (g : List Nd) (a b : Nat) : baseL g b a = baseL g a b := by
  unfold baseL
  refine filtN_congr fun x _ => tt_congr ?_
  unfold baseP
  have e : ∀ y, (Anc (par g) b y ∧ Anc (par g) a y) ↔ (Anc (par g) a y ∧ Anc (par g) b y) := fun y => And.comm
  simp only [e]
end Go.Dag
namespace Go.Proofs.Ytcpmnocknpalfaa
open Go.RowKit Go.Sl
set_option linter.unusedVariables false

theorem len_nil_run (w : World) : ∀ (ty : TypeId) (u : World), (Builtin.len_ #[23] ty #[.slice none 0 0]).run Try.prog u = .ok (.int .i64 0) u := (Sl.nil eInt 1 w).run_len Try.underlying23
/-- two integers laid for a call -/
theorem rnodes2_any (gv : Value) (w : World) (es : List (SlV × Int)) (g : List Nd) (a b : Int) (c : Nat) (hc : Dag.nodes g [a, b] = c) (hG : Gr w gv es g) :
    Calls Try.prog 17 #[gv, .slice (some ⟨w.heap.size, 0, none⟩) 2 2] (w.alloc (.cells #[.int .i64 a, .int .i64 b] 3)) fun e w' => e = .returned (.int .i64 (c : Nat)) ∧ Below w.heap.size w w' := by
  have hb0 : Below w.heap.size w (w.alloc (.cells #[.int .i64 a, .int .i64 b] 3)) := (Below.refl _ _).alloc (Nat.le_refl _) _
  have hs : Sl eInt 1 (w.alloc (.cells #[.int .i64 a, .int .i64 b] 3)) (.slice (some ⟨w.heap.size, 0, none⟩) 2 2) [a, b] := Sl.fresh len_eInt rfl rfl rfl (by simp [maxLen])
  refine (rnodes_any gv _ _ es g [a, b] c hc (hG.ext hb0) hs).mono ?_
  rintro e w3 ⟨rfl, hb⟩
  exact ⟨rfl, hb0.trans (hb.mono (by simp))⟩

set_option maxRecDepth 100000 in
set_option maxHeartbeats 1000000 in
theorem dagBases_any (gv : Value) (a b : Int) (w : World) (es : List (SlV × Int)) (g : List Nd) (hG : Gr w gv es g) :
    Calls Try.prog 3 #[gv, .int .i64 a, .int .i64 b] w fun e w' => e = .returned (.bool true) ∧ Below w.heap.size w w' := by
  have HG := Lib.hid hG
  by_cases hc : Dag.nodes g [a, b] = 0
  · obtain ⟨hg, hin⟩ := Dag.nodes_zero hc
    have ha := hin a (by simp)
    have hb := hin b (by simp)
    obtain ⟨x, rfl⟩ : ∃ x : Nat, a = x := ⟨a.toNat, by omega⟩
    obtain ⟨y, rfl⟩ : ∃ y : Nat, b = y := ⟨b.toNat, by omega⟩
    have hx : x < g.length := by omega
    have hy : y < g.length := by omega
    have HOk := Lib.hid hg
    have HC := Lib.hid hc
    have HSw := Lib.hid (Dag.base_swap g x y)
    clear hg hin hc ha hb
    go_enter Try.func3, Try.ntmps3
    go_wp2_with fail
    refine (bases_ok gv _ _ x y rfl rfl w es g HOk.out hx hy HG.out).mono ?_
    rintro e w1 ⟨v1, rfl, ho, hb⟩
    have HO1 := Lib.hid ho
    have HB1 := Lib.hid hb
    clear ho hb
    go_wp2_with fail
    refine (bases_ok gv _ _ y x rfl rfl w1 es g HOk.out hy hx (HG.out.ext HB1.out)).mono ?_
    rintro e w2 ⟨v2, rfl, ho, hb⟩
    rw [HSw.out] at ho
    have HO2 := Lib.hid ho
    have HB2 := Lib.hid (HB1.out.trans (hb.mono HB1.out.size))
    have HL1 := Lib.hid ((HO1.out.sl len_eInt).ext hb)
    have HL2 := Lib.hid (HO2.out.sl len_eInt)
    clear ho hb
    go_wp2_with fail
    refine (rnodes2_any gv w2 es g _ _ 0 HC.out (HG.out.ext HB2.out)).mono ?_
    rintro e w3 ⟨rfl, hb⟩
    have HB3 := Lib.hid hb
    clear hb
    go_wp2_with fail
    refine (same_b v1 v2 _ _ true (by simp) w3 (HL1.out.ext HB3.out) (HL2.out.ext HB3.out)).mono ?_
    rintro e w4 ⟨rfl, hb⟩
    have HB4 := Lib.hid (HB3.out.trans (hb.mono HB3.out.size))
    clear hb
    go_wp2_with fail
    refine (rbases_any gv _ _ x y rfl rfl w4 es g HOk.out hx hy (HG.out.ext (HB2.out.trans (HB4.out.mono HB2.out.size)))).mono ?_
    rintro e w5 ⟨v5, rfl, ho, hb⟩
    have HO5 := Lib.hid ho
    have HB5 := Lib.hid (HB4.out.trans (hb.mono HB4.out.size))
    clear ho hb
    go_wp2_with fail
    refine (same_b v1 v5 _ _ true (by simp) w5 (HL1.out.ext HB5.out) (HO5.out.sl len_eInt)).mono ?_
    rintro e w6 ⟨rfl, hb⟩
    have HB6 := Lib.hid (HB5.out.trans (hb.mono HB5.out.size))
    clear hb
    go_wp2_with fail
    refine (works_any w6).mono ?_
    rintro e w7 ⟨rfl, hb⟩
    have HB7 := Lib.hid (HB6.out.trans (hb.mono HB6.out.size))
    clear hb
    go_wp2_with fail
    go_ret
    exact ⟨rfl, HB2.out.trans (HB7.out.mono HB2.out.size)⟩
  · obtain ⟨c, hc2⟩ : ∃ c, Dag.nodes g [a, b] = c := ⟨_, rfl⟩
    have h0 : c ≠ 0 := by rw [← hc2]; exact hc
    have hc3 : Dag.nodes g [b, a] = c := by rw [Dag.nodes_swap, hc2]
    have HC := Lib.hid hc2
    have HC3 := Lib.hid hc3
    have H0 := Lib.hid h0
    have d1 : ((c : Int) != 0) = true := by simp; omega
    have d2 : (c != 0) = true := by simp; omega
    have hnil := len_nil_run w
    clear hc hc2 hc3 h0
    go_enter Try.func3, Try.ntmps3
    go_wp2_with fail
    refine (bases_bad gv a b w es g c HC.out H0.out HG.out).mono ?_
    rintro e w1 ⟨rfl, hb⟩
    have HB1 := Lib.hid hb
    clear hb
    go_wp2_with fail
    refine (bases_bad gv b a w1 es g c HC3.out H0.out (HG.out.ext HB1.out)).mono ?_
    rintro e w2 ⟨rfl, hb⟩
    have HB2 := Lib.hid (HB1.out.trans (hb.mono HB1.out.size))
    clear hb
    go_wp2_with fail
    refine (rnodes2_any gv w2 es g _ _ c HC.out (HG.out.ext HB2.out)).mono ?_
    rintro e w3 ⟨rfl, hb⟩
    have HB3 := Lib.hid (HB2.out.trans (hb.mono HB2.out.size))
    clear hb
    go_wp2_with fail
    refine (same_b (.slice none 0 0) (.slice none 0 0) [] [] true rfl w3 (Sl.nil _ _ _) (Sl.nil _ _ _)).mono ?_
    rintro e w4 ⟨rfl, hb⟩
    have HB4 := Lib.hid (HB3.out.trans (hb.mono HB3.out.size))
    clear hb
    go_wp2_with fail
    refine (works_any w4).mono ?_
    rintro e w5 ⟨rfl, hb⟩
    have HB5 := Lib.hid (HB4.out.trans (hb.mono HB4.out.size))
    clear hb
    go_wp2_with fail
    go_ret
    exact ⟨rfl, HB5.out⟩
end Go.Proofs.Ytcpmnocknpalfaa
