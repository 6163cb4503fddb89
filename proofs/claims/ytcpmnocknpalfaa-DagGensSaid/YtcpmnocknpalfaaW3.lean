/-
  DagRanges: what the program answers, the document's. No condition.
-/
import Derived.Test.YtcpmnocknpalfaaW2
namespace Go.Dag
theorem nodes_append (g : List Nd) (l m : List Int) : nodes g (l ++ m) = if nodes g l = 0 then nodes g m else nodes g l := by
  have e : inN g.length (l ++ m) ↔ inN g.length l ∧ inN g.length m := by
    unfold inN
    constructor
    · exact fun h => ⟨fun x hx => h x (by simp [hx]), fun x hx => h x (by simp [hx])⟩
    · rintro ⟨h1, h2⟩ x hx
      rcases List.mem_append.1 hx with h | h
      · exact h1 x h
      · exact h2 x h
  by_cases hg : okG g
  · by_cases hl : inN g.length l
    · rw [nodes_ok hg hl, if_pos rfl]
      by_cases hm : inN g.length m
      · rw [nodes_ok hg hm, nodes_ok hg (e.2 ⟨hl, hm⟩)]
      · rw [nodes_arg hg hm, nodes_arg hg (fun h => hm (e.1 h).2)]
    · rw [nodes_arg hg hl, if_neg (by omega), nodes_arg hg (fun h => hl (e.1 h).1)]
  · rw [nodes_form hg, nodes_form hg, nodes_form hg]; simp
end Go.Dag
namespace Go.Proofs.Ytcpmnocknpalfaa
open Go.RowKit Go.Sl
set_option linter.unusedVariables false

theorem cells23 : Try.prog.cellsOf 23 = 1 := by kernel_rfl
theorem some23 : (Try.prog.info? 23).isSome = true := by kernel_rfl

set_option maxRecDepth 100000 in
set_option maxHeartbeats 1000000 in
theorem big_any (v : Value) (vs : List Value) (ls : List (List Int)) (t : Bool) (ht : decide (∃ l ∈ ls, 100 < l.length) = t) (w : World) (h : Sls eInt 1 w v vs ls) :
    Calls Try.prog 28 #[v] w fun e w' => e = .returned (.bool t) ∧ w = w' := by
  have hlen := h.outer.run_len (P := Try.prog) Try.underlying34
  have hmax := h.outer.len_le
  have HT := Lib.hid ht
  have HLn := Lib.hid h.len
  clear ht
  go_enter Try.func28, Try.ntmps28
  go_wp2_with fail
  go_loop [3] (fun i => ∃ (k : Nat), k ≤ vs.length ∧ i = .int .i64 k ∧ Hid (∀ j (hj : j < ls.length), j < k → ls[j].length ≤ 100)) (fun i => vs.length - (intOf i).toNat)
  case atStart => exact ⟨0, by omega, rfl, Lib.hid (fun j hj h => by omega)⟩
  case round =>
    obtain ⟨k, hk, rfl, HS⟩ := hrel
    by_cases hlt : k < vs.length
    · have hkl : k < ls.length := by rw [← HLn.out]; exact hlt
      obtain ⟨b1, o1, hb1, hix1, hc1⟩ := h.outer.at (P := Try.prog) Try.underlying34 cells23 some23 hlt
      have e1 := hc1 0 (by omega)
      simp only [eVal, List.getElem?_cons_zero, Nat.add_zero] at e1
      have hin := h.inner k hlt hkl
      obtain ⟨x, hx⟩ : ∃ x, vs[k] = x := ⟨_, rfl⟩
      obtain ⟨L, hL⟩ : ∃ L, ls[k] = L := ⟨_, rfl⟩
      rw [hx] at e1 hin
      rw [hL] at hin
      have hls := hin.run_len (P := Try.prog) Try.underlying23
      have hm2 := hin.len_le
      have HL := Lib.hid hL
      clear hc1 hx hL hin
      by_cases hbig : 100 < L.length
      · have d1 : decide ((100 : Int) < L.length) = true := decide_eq_true (by omega)
        have HZ : Hid (t = true) := Lib.hid (by rw [← HT.out]; exact decide_eq_true ⟨L, by rw [← HL.out]; exact List.getElem_mem hkl, hbig⟩)
        go_wp2_with fail
        go_ret
        exact ⟨ret_bool HZ.out.symm, rfl⟩
      · have d1 : decide ((100 : Int) < L.length) = false := decide_eq_false (by omega)
        have HS2 : Hid (∀ j (hj : j < ls.length), j < k + 1 → ls[j].length ≤ 100) := Lib.hid (fun j hj h1 => by
          by_cases e : j = k
          · subst e; rw [HL.out]; omega
          · exact HS.out j hj (by omega))
        go_wp2_with fail
        go_round
        case rel => exact ⟨k + 1, by omega, by go_num, HS2⟩
        case measure => simp [intOf]; omega
    · have HZ : Hid (t = false) := Lib.hid (by
        rw [← HT.out]
        refine decide_eq_false ?_
        rintro ⟨l, hl, h1⟩
        obtain ⟨j, hj, rfl⟩ := List.mem_iff_getElem.1 hl
        have := HS.out j hj (by have := HLn.out; omega)
        omega)
      go_wp2_with fail
      go_ret
      exact ⟨ret_bool HZ.out.symm, rfl⟩

set_option maxRecDepth 100000 in
set_option maxHeartbeats 1000000 in
theorem rrange_any (gv v1 v2 : Value) (w : World) (es : List (SlV × Int)) (g : List Nd) (l m : List Int) (hg : Dag.okG g) (hl : Dag.inN g.length l) (hm : Dag.inN g.length m) (hG : Gr w gv es g) (h1 : Sl eInt 1 w v1 l) (h2 : Sl eInt 1 w v2 m) :
    Calls Try.prog 31 #[gv, v1, v2] w fun e w' => ∃ v, e = .returned v ∧ Own eInt 1 w.heap.size 3 w' v (Dag.rangeL g (Dag.nn l) (Dag.nn m)) ∧ Below w.heap.size w w' := by
  have hix0 := hG.run_len
  have hgl := hg.1
  have HG := Lib.hid hg
  have HM := Lib.hid hm
  have HU := Lib.hid (up_any gv v1 w es g l hg hl hG h1)
  clear hg hl hm
  go_enter Try.func31, Try.ntmps31
  go_wp2_with fail
  refine HU.out.mono ?_
  rintro e w1 ⟨rfl, hx, hb1⟩
  have HX := Lib.hid hx
  have HB1 := Lib.hid hb1
  clear hx hb1
  go_wp2_with fail
  refine (up_any gv v2 w1 es g m HG.out HM.out (hG.ext HB1.out) (h2.ext HB1.out)).mono ?_
  rintro e w2 ⟨rfl, hy, hb2⟩
  have HX2 := Lib.hid (HX.out.ext hb2)
  obtain ⟨yb, hyb⟩ : ∃ yb, yb = w1.heap.size := ⟨_, rfl⟩
  have hne : yb ≠ w.heap.size := by have := HX.out.cell (k := 0); have := (Array.getElem?_eq_some_iff.1 HX.out.blk).1; omega
  rw [← hyb] at hy ⊢
  have HY := Lib.hid hy
  have HB2 := Lib.hid (HB1.out.trans (hb2.mono HB1.out.size))
  clear hy hb2 HX HB1 hyb
  go_wp2_with fail
  go_loopw [9] (fun i wr => ∃ (k : Nat) (f : Nat → Bool), i = .int .i64 k ∧ k ≤ g.length ∧ Hid (∀ x, x < g.length → f x = if x < k then (Dag.upB g (Dag.nn l) x && !Dag.upB g (Dag.nn m) x) else Dag.upB g (Dag.nn l) x) ∧ Hid (Bl w.heap.size w.heap.size g.length f wr) ∧ Hid (Bl yb yb g.length (Dag.upB g (Dag.nn m)) wr) ∧ Hid (Below w.heap.size w wr)) (fun i _ => g.length - (intOf i).toNat)
  case atStart => exact ⟨0, _, rfl, by omega, Lib.hid (fun x hx => by simp), HX2, HY, HB2⟩
  case round =>
    obtain ⟨k, f, rfl, hk, HF, HX, HY, HW⟩ := hrel
    by_cases hlt : k < g.length
    · obtain ⟨c1, c2, c3⟩ := HX.out.cell hlt
      obtain ⟨d1, d2, d3⟩ := HY.out.cell hlt
      have HS : Hid (∀ t : Bool, t = (f k && !Dag.upB g (Dag.nn m) k) → ∀ x, x < g.length → Dag.upd f k t x = if x < k + 1 then (Dag.upB g (Dag.nn l) x && !Dag.upB g (Dag.nn m) x) else Dag.upB g (Dag.nn l) x) := Lib.hid (fun t ht x hx => by
        by_cases e : x = k
        · subst e
          rw [Dag.upd_same, ht, HF.out x hx, if_neg (by omega), if_pos (by omega)]
        · rw [Dag.upd_ne _ _ e, HF.out x hx]
          by_cases e2 : x < k
          · rw [if_pos e2, if_pos (by omega)]
          · rw [if_neg e2, if_neg (by omega)])
      have HXs := Lib.hid (fun t => HX.out.set k t)
      have HYs := Lib.hid (fun t => HY.out.other hne (k := k) (.bool t))
      have HWs : Hid (∀ t, Below w.heap.size w (wr.setCell ⟨w.heap.size, k, none⟩ (.bool t))) := Lib.hid (fun t => HW.out.setCell (p := ⟨w.heap.size, k, none⟩) (Nat.le_refl _) _)
      cases hfk : f k with
      | false =>
        have HS2 := Lib.hid (HS.out false (by rw [hfk]; rfl))
        rw [hfk] at c1
        clear hfk HS HF HX HY HW
        go_wp2_with fail
        go_roundw
        case rel => exact ⟨k + 1, _, by go_num, by omega, HS2, Lib.hid (HXs.out false), Lib.hid (HYs.out false), Lib.hid (HWs.out false)⟩
        case measure => simp [intOf]; omega
      | true =>
        rw [hfk] at c1
        cases hmk : Dag.upB g (Dag.nn m) k with
        | false =>
          have HS2 := Lib.hid (HS.out true (by rw [hfk, hmk]; rfl))
          rw [hmk] at d1
          clear hfk hmk HS HF HX HY HW
          go_wp2_with fail
          go_roundw
          case rel => exact ⟨k + 1, _, by go_num, by omega, HS2, Lib.hid (HXs.out true), Lib.hid (HYs.out true), Lib.hid (HWs.out true)⟩
          case measure => simp [intOf]; omega
        | true =>
          have HS2 := Lib.hid (HS.out false (by rw [hfk, hmk]; rfl))
          rw [hmk] at d1
          clear hfk hmk HS HF HX HY HW
          go_wp2_with fail
          go_roundw
          case rel => exact ⟨k + 1, _, by go_num, by omega, HS2, Lib.hid (HXs.out false), Lib.hid (HYs.out false), Lib.hid (HWs.out false)⟩
          case measure => simp [intOf]; omega
    · have HF2 : Hid (Dag.filtN f g.length = Dag.rangeL g (Dag.nn l) (Dag.nn m)) := Lib.hid (by
        unfold Dag.rangeL
        refine Dag.filtN_congr fun x hx => ?_
        rw [HF.out x hx, if_pos (by omega), Bool.eq_iff_iff, Dag.tt_iff]
        simp only [Bool.and_eq_true, Bool.not_eq_true', Dag.upB_iff]
        rw [← Bool.not_eq_true, Dag.upB_iff])
      go_wp2_with fail
      refine (list_any _ _ g.length f wr HX.out (by omega)).mono ?_
      rintro e w5 ⟨v5, rfl, ho, hb⟩
      rw [HF2.out] at ho
      have HO5 := Lib.hid ho
      have HB5 := Lib.hid hb
      clear ho hb
      go_wp2_with fail
      go_ret
      exact ⟨_, rfl, HO5.out.mono HW.out.size, HW.out.trans (HB5.out.mono HW.out.size)⟩
end Go.Proofs.Ytcpmnocknpalfaa
