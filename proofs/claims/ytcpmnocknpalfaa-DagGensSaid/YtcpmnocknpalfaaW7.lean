/-
  DagGens: what the program answers, the document's. No condition.
-/
import Derived.Test.YtcpmnocknpalfaaH14
import Derived.Test.YtcpmnocknpalfaaW4
import Derived.Deep.RegionHeld3
namespace Go.Proofs.Ytcpmnocknpalfaa
open Go.RowKit Go.Sl
set_option linter.unusedVariables false

theorem len_nil_rows (w : World) : ∀ (ty : TypeId) (u : World), (Builtin.len_ #[34] ty #[.slice none 0 0]).run Try.prog u = .ok (.int .i64 0) u := (Sl.nil eVal 1 w).run_len Try.underlying34

set_option maxRecDepth 100000 in
set_option maxHeartbeats 1000000 in
theorem dagGens_any (gv : Value) (w : World) (es : List (SlV × Int)) (g : List Nd) (hG : Gr w gv es g) :
    Calls Try.prog 4 #[gv] w fun e w' => e = .returned (.bool true) ∧ Below w.heap.size w w' := by
  have HG := Lib.hid hG
  have hix0 := hG.run_len
  have hnil := len_nil_run w
  have hnilr := len_nil_rows w
  clear hG
  by_cases hg : Dag.okG g
  · have HOk := Lib.hid hg
    have HCk : Hid (Dag.chk g = 0) := Lib.hid (Dag.chk_ok hg)
    have hgl := hg.1
    clear hg
    go_enter Try.func4, Try.ntmps4
    go_wp2_with fail
    refine (rcheck_any gv es g w HG.out).mono ?_
    rintro e w1 ⟨rfl, hb⟩
    rw [HCk.out]
    have HW1 := Lib.hid hb
    clear hb
    go_wp2_with fail
    refine (gens_ok _ _ es g HOk.out (HG.out.ext HW1.out)).mono ?_
    rintro e w2 ⟨v2, rfl, ho, hb⟩
    have HO2 := Lib.hid (ho.sl len_eInt)
    have HW2 := Lib.hid (below_then HW1.out hb)
    clear ho hb
    go_wp2_with fail
    refine (children_ok _ _ es g HOk.out (HG.out.ext HW2.out)).mono ?_
    rintro e w3 ⟨rb, vs, rfl, hf, hb⟩
    have HF3 := Lib.hid hf
    have HO3 := Lib.hid (HO2.out.ext hb)
    have HW3 := Lib.hid (below_then HW2.out hb)
    clear hf hb
    go_wp2_with fail
    refine (check_any gv es g w3 (HG.out.ext HW3.out)).mono ?_
    rintro e w4 ⟨rfl, hb⟩
    rw [HCk.out]
    have HF4 := Lib.hid (HF3.out.ext hb)
    have HO4 := Lib.hid (HO3.out.ext hb)
    have HW4 := Lib.hid (below_then HW3.out hb)
    clear hb
    go_wp2_with fail
    refine (rgens_any gv w4 es g HOk.out (HG.out.ext HW4.out)).mono ?_
    rintro e w5 ⟨v5, rfl, ho, hb⟩
    have HO5 := Lib.hid (ho.sl len_eInt)
    have HF5 := Lib.hid (HF4.out.ext hb)
    have HOg := Lib.hid (HO4.out.ext hb)
    have HW5 := Lib.hid (below_then HW4.out hb)
    clear ho hb
    go_wp2_with fail
    refine (same_b v2 v5 _ _ true (by simp) w5 HOg.out HO5.out).mono ?_
    rintro e w6 ⟨rfl, hb⟩
    have HF6 := Lib.hid (HF5.out.ext hb)
    have HW6 := Lib.hid (below_then HW5.out hb)
    clear hb HF3 HO3 HF4 HO4 HO5 HOg HF5
    go_wp2_with fail
    go_loopw [8] (fun i wr => ∃ (n : Nat), i = .int .i64 n ∧ n ≤ g.length ∧ Hid (Below w6.heap.size w6 wr)) (fun i _ => g.length - (intOf i).toNat)
    case atStart => exact ⟨0, rfl, by omega, Lib.hid (Below.refl _ _)⟩
    case round =>
      obtain ⟨n, rfl, hn, HB⟩ := hrel
      by_cases hlt : n < g.length
      · have HFr := Lib.hid (HF6.out.ext HB.out)
        obtain ⟨c1, -, c3⟩ := HFr.out.cell hlt
        obtain ⟨v, hv⟩ : ∃ v, vs n = v := ⟨_, rfl⟩
        have HO : Hid (Sl eInt 1 wr v (Dag.chL g n)) := Lib.hid (by rw [← hv]; exact (HFr.out.own n hlt).sl len_eInt)
        rw [hv] at c1
        have HKc : Hid (∀ u, Below wr.heap.size wr u → u.cell? ⟨rb, n, none⟩ = some v ∧ Below wr.heap.size wr u) := Lib.hid (fun u hu => ⟨(hu.cell (p := ⟨rb, n, none⟩) c3).trans c1, hu⟩)
        have HWr := Lib.hid (below_then HW6.out HB.out)
        clear hv HFr
        go_wp2_with fail
        go_region_held3 (fun u => u.cell? ⟨rb, n, none⟩ = some v ∧ Below wr.heap.size wr u)
          (first
            | exact HKc.out _ (below_drewN (Below.refl _ _) 1)
            | exact HKc.out _ HU8.out
            | exact HKc.out _ HU7.out)
          (first
            | (go_at_call 18; (with_reducible refine (same_b v v7 _ _ true (by simp) u7 (HO.out.ext HU7.out) HO7.out).mono ?_); rintro e u8 ⟨rfl, hb⟩; have HU8 := Lib.hid (below_then HU7.out hb); clear hb)
            | (go_at_call 26; (refine (rchildren_any gv _ n rfl wr.drew es g HOk.out (HG.out.ext (below_drewN HWr.out 1))).mono ?_); rintro e u7 ⟨v7, rfl, ho, hb⟩; have HU7 : Hid (Below wr.heap.size wr u7) := Lib.hid (below_then (below_drewN (Below.refl _ _) 1) hb); have HO7 := Lib.hid (ho.sl len_eInt); clear ho hb))
        go_wp2_with fail
        go_roundw
        case rel => exact ⟨n + 1, by go_num, by omega, Lib.hid (below_then HB.out HU8.out)⟩
        case measure => simp [intOf]; omega
      · go_wp2_with fail
        refine (works_any _).mono ?_
        rintro e u9 ⟨rfl, hb⟩
        have HU9 := Lib.hid (below_then (below_then HW6.out HB.out) hb)
        clear hb
        go_wp2_with fail
        go_ret
        exact ⟨rfl, HU9.out⟩
  · have HNo := Lib.hid hg
    have HCk : Hid (Dag.chk g = 12) := Lib.hid (Dag.chk_bad hg)
    clear hg
    go_enter Try.func4, Try.ntmps4
    go_wp2_with fail
    refine (rcheck_any gv es g w HG.out).mono ?_
    rintro e w1 ⟨rfl, hb⟩
    rw [HCk.out]
    have HW1 := Lib.hid hb
    clear hb
    go_wp2_with fail
    refine (gens_bad _ _ es g HNo.out (HG.out.ext HW1.out)).mono ?_
    rintro e w2 ⟨rfl, hb⟩
    have HW2 := Lib.hid (below_then HW1.out hb)
    clear hb
    go_wp2_with fail
    refine (children_bad _ _ es g HNo.out (HG.out.ext HW2.out)).mono ?_
    rintro e w3 ⟨rfl, hb⟩
    have HW3 := Lib.hid (below_then HW2.out hb)
    clear hb
    go_wp2_with fail
    refine (check_any gv es g w3 (HG.out.ext HW3.out)).mono ?_
    rintro e w4 ⟨rfl, hb⟩
    rw [HCk.out]
    have HW4 := Lib.hid (below_then HW3.out hb)
    clear hb
    go_wp2_with fail
    refine (works_any _).mono ?_
    rintro e u9 ⟨rfl, hb⟩
    have HU9 := Lib.hid (below_then HW4.out hb)
    clear hb
    go_wp2_with fail
    go_ret
    exact ⟨rfl, HU9.out⟩
end Go.Proofs.Ytcpmnocknpalfaa
