/-
  Layer 34: all nodes' ancestors. No condition besides what the arguments are.
-/
import Derived.Test.YtcpmnocknpalfaaD3
import Derived.Test.YtcpmnocknpalfaaT6
namespace Go.Proofs.Ytcpmnocknpalfaa
open Go.RowKit Go.Sl Go.B64 Go.Bis
set_option linter.unusedVariables false

noncomputable def ancF (g : List Nd) (n : Nat) : Nat → S := fun k => if k < n then anc g k else 0
noncomputable def ancP (g : List Nd) (n j : Nat) : Nat → S := upS (ancF g n) n (ors (anc g) n ((Dag.par g n).take j))
theorem ancP_zero (g : List Nd) (n : Nat) (x : Nat) : upS (ancF g n) n (one n) x = ancP g n 0 x := by simp [ancP, ors]
theorem ancP_snoc {g : List Nd} {n j p : Nat} (hj : (Dag.par g n)[j]? = some p) (x : Nat) : upS (ancP g n j) n (ors (anc g) n ((Dag.par g n).take j) ||| anc g p) x = ancP g n (j + 1) x := by
  obtain ⟨h1, h2⟩ := List.getElem?_eq_some_iff.1 hj
  have e : (Dag.par g n).take (j + 1) = (Dag.par g n).take j ++ [p] := by rw [← h2, List.take_succ_eq_append_getElem h1]
  simp only [ancP, upS]
  split
  · rw [e, ors_snoc]
  · simp
theorem ancP_end {g : List Nd} (hg : Dag.okG g) {n j : Nat} (hn : n < g.length) (hj : (Dag.par g n).length ≤ j) (x : Nat) : ancP g n j x = ancF g (n + 1) x := by
  simp only [ancP, upS, ancF]
  rw [List.take_of_length_le hj, anc_ors hg hn]
  split
  · rename_i h; subst h; simp
  · rename_i h
    by_cases hx : x < n
    · rw [if_pos hx, if_pos (by omega)]
    · rw [if_neg hx, if_neg (by omega)]
theorem par_node {g : List Nd} (hg : Dag.okG g) {n : Nat} (hn : n < g.length) {Q : List Int} {T : Int} (hX : g[n] = (Q, T)) {j : Nat} (hj : j < Q.length) : ∃ p : Nat, Q[j] = (p : Int) ∧ p < n ∧ (Dag.par g n)[j]? = some p := by
  have hk := (hg.2 n hn).2.2.2
  rw [hX] at hk
  obtain ⟨h1, h2, _⟩ := hk j hj
  simp only at h1 h2
  refine ⟨Q[j].toNat, by omega, by omega, ?_⟩
  rw [Dag.par_eq hn, hX]
  simp [hj]
set_option maxRecDepth 100000 in
set_option maxHeartbeats 1000000 in
theorem ancs_any (v : Value) (es : List (SlV × Int)) (g : List Nd) (w : World) (h : Gr w v es g) (hg : Dag.okG g) :
    Calls Try.prog 77 #[v] w fun e w' => e = .returned (upV w.heap.size g.length) ∧ Bs w.heap.size w.heap.size g.length (anc g) w' ∧ Below w.heap.size w w' := by
  have HG := Lib.hid h
  have HK := Lib.hid hg
  have hlen := h.run_len
  have hgl := hg.1
  have hmk := make_sets g.length (by omega)
  have HB0 : Hid (Bs w.heap.size w.heap.size g.length (fun _ => 0) (w.alloc (.cells (scells (fun _ => 0) g.length) 80))) := Lib.hid ⟨Nat.le_refl _, heap_new_at rfl⟩
  have HW0 := Lib.hid ((Below.refl w.heap.size w).alloc (Nat.le_refl _) (.cells (scells (fun _ => 0) g.length) 80))
  clear h hg
  go_enter Try.func77, Try.ntmps77
  go_wp2_with fail
  obtain ⟨B, hB⟩ : ∃ B, B = w.heap.size := ⟨_, rfl⟩
  rw [← hB] at HB0 HW0 ⊢
  have HBw : Hid (B = w.heap.size) := Lib.hid hB
  clear hB
  go_loopw [13] (fun i wr => ∃ (k : Nat), i = .int .i64 k ∧ k ≤ g.length ∧ Hid (Bs B B g.length (ancF g k) wr) ∧ Hid (Below B w wr)) (fun i _ => g.length - (intOf i).toNat)
  case atStart => exact ⟨0, rfl, by omega, Lib.hid (HB0.out.congr fun x _ => by simp [ancF]), HW0⟩
  case round =>
    obtain ⟨wo, rfl⟩ : ∃ u : World, u = wr := ⟨_, rfl⟩
    obtain ⟨k, rfl, hk, HB, HW⟩ := hrel
    by_cases hlt : k < g.length
    · obtain ⟨b, o, hb0, hix, Q, T, a1, n1, c1, HX, HL, q0, q1, hs1, hm1⟩ := HG.out.at (HBw.out ▸ HW.out) hlt
      have HS1 := Lib.hid hs1
      have hls := hs1.run_len (P := Try.prog) Try.underlying23
      rw [HL.out] at hls
      have hk8 : k < 128 := by omega
      have HW4 : Hid (Below B w (wo.alloc (.cells #[.slice a1 n1 c1, .int .i64 T] 90))) := Lib.hid (HW.out.alloc (Nat.le_of_lt HB.out.lt) _)
      have HB4 : Hid (Bs B B g.length (ancF g k) (wo.alloc (.cells #[.slice a1 n1 c1, .int .i64 T] 90))) := Lib.hid (HB.out.ext (balloc _ _))
      have HX4 : Hid ((wo.alloc (.cells #[.slice a1 n1 c1, .int .i64 T] 90)).heap[wo.heap.size]? = some (.cells #[.slice a1 n1 c1, .int .i64 T] 90 (0, 0))) := Lib.hid (heap_new_at rfl)
      have HNE : Hid (wo.heap.size ≠ B) := Lib.hid (by have := HB.out.lt; omega)
      have hkN : (k : Int) < (g.length : Int) := by omega
      have hk0 : (0 : Int) ≤ (k : Int) := by omega
      clear hs1 hb0
      go_wp2_with fail
      refine (with_zero k hk8 _).mono ?_
      rintro e u5 ⟨rfl, hb5⟩
      have HB5 := Lib.hid (HB4.out.ext hb5)
      have HW5 : Hid (Below B w u5) := Lib.hid (HW4.out.trans (hb5.mono (by have := HB4.out.lt; omega)))
      have HX5 : Hid (u5.heap[wo.heap.size]? = some (.cells #[.slice a1 n1 c1, .int .i64 T] 90 (0, 0))) := Lib.hid ((hb5.block _ (Array.getElem?_eq_some_iff.1 HX4.out).1).trans HX4.out)
      obtain ⟨z0, z1⟩ := HB5.out.cell hlt
      have zf0 := HB5.out.fz (k * 2)
      have zf1 := HB5.out.fz (k * 2 + 1)
      clear hb5 q0 q1 hix hmk hlen
      go_upto_region 6 with fail
      obtain ⟨w6, hw6⟩ : ∃ u, Hid (u = (u5.setCell ⟨B, k * 2, none⟩ (.int .u64 (u64 (wd (one k) 0)))).setCell ⟨B, k * 2 + 1, none⟩ (.int .u64 (u64 (wd (one k) 1)))) := ⟨_, Lib.hid rfl⟩
      rw [← hw6.out]
      have HB6 : Hid (Bs B B g.length (ancP g k 0) w6) := Lib.hid (by rw [hw6.out]; exact (HB5.out.set hlt (one k)).congr fun x _ => ancP_zero g k x)
      have HW6 : Hid (Below B w w6) := Lib.hid (by rw [hw6.out]; exact (HW5.out.setCell (Nat.le_refl _) _).setCell (Nat.le_refl _) _)
      have HX6 : Hid (w6.heap[wo.heap.size]? = some (.cells #[.slice a1 n1 c1, .int .i64 T] 90 (0, 0))) := Lib.hid (by rw [hw6.out]; exact heap_set_keep (heap_set_keep HX5.out HNE.out) HNE.out)
      obtain ⟨x0, x1⟩ := two_cells90 HX6.out
      clear z0 z1 zf0 zf1 hw6 HB5 HW5 HX5 HB4 HW4 HX4
      go_wp2_with fail
      clear x0 x1 hls
      go_loopw [27] (fun i wr => ∃ (j : Nat), i = .int .i64 j ∧ j ≤ n1 ∧ Hid (Bs B B g.length (ancP g k j) wr) ∧ Hid (Below B w wr)) (fun i _ => n1 - (intOf i).toNat)
      case atStart => exact ⟨0, rfl, by omega, HB6, HW6⟩
      case round =>
        obtain ⟨j, rfl, hj, HBj, HWj⟩ := hrel
        by_cases hlt2 : j < n1
        · have hjQ : j < Q.length := by rw [HL.out]; exact hlt2
          obtain ⟨b2, o2, hb2, hix2, hc2⟩ := HS1.out.atB (HBw.out ▸ HWj.out) (P := Try.prog) Try.underlying23 cells3 some3 hjQ
          have e1 := hc2 0 (by omega)
          simp only [eInt, List.getElem?_cons_zero, Nat.add_zero] at e1
          obtain ⟨p, hp1, hp2, hp3⟩ := par_node HK.out hlt HX.out hjQ
          rw [hp1] at e1
          have HP3 := Lib.hid hp3
          have hpN : (p : Int) < (g.length : Int) := by omega
          have hp0 : (0 : Int) ≤ (p : Int) := by omega
          have hpl : p < g.length := by omega
          obtain ⟨s, hs⟩ : ∃ s, Hid (ors (anc g) k ((Dag.par g k).take j) = s) := ⟨_, Lib.hid rfl⟩
          obtain ⟨t, ht⟩ : ∃ t, Hid (anc g p = t) := ⟨_, Lib.hid rfl⟩
          have es : ancP g k j k = s := by rw [← hs.out]; simp [ancP, upS]
          have et : ancP g k j p = t := by rw [← ht.out]; simp [ancP, upS, ancF, hp2, show p ≠ k by omega]
          obtain ⟨k1, k2⟩ := HBj.out.cell hlt
          obtain ⟨k3, k4⟩ := HBj.out.cell hpl
          rw [es] at k1 k2
          rw [et] at k3 k4
          clear es et hc2 hp1 hp2 hp3 hjQ hpl hb2
          go_upto_region 9 with fail
          clear e1 hix2
          go_region_with (go_at_call 78; (refine (or_any s t _).mono ?_); rintro e u9 ⟨rfl, hb⟩; have HW9 : Hid (Below wr.heap.size wr u9) := Lib.hid ((below_drewN (Below.refl _ _) 1).trans hb); have HB9 := Lib.hid (HBj.out.ext HW9.out); have q1 := HB9.out.fz (k * 2); have q2 := HB9.out.fz (k * 2 + 1); have v1 := (HB9.out.cell hlt).1; have v2 := (HB9.out.cell hlt).2; clear hb)
          all_goals
            have HBn : Hid (Bs B B g.length (ancP g k (j + 1)) ((u9.setCell ⟨B, k * 2, none⟩ (.int .u64 (u64 (wd (s ||| t) 0)))).setCell ⟨B, k * 2 + 1, none⟩ (.int .u64 (u64 (wd (s ||| t) 1))))) := Lib.hid ((HB9.out.set hlt (s ||| t)).congr fun x _ => by rw [← hs.out, ← ht.out]; exact ancP_snoc HP3.out x)
            have HWn : Hid (Below B w ((u9.setCell ⟨B, k * 2, none⟩ (.int .u64 (u64 (wd (s ||| t) 0)))).setCell ⟨B, k * 2 + 1, none⟩ (.int .u64 (u64 (wd (s ||| t) 1))))) := Lib.hid (((HWj.out.trans (HW9.out.mono (Nat.le_of_lt HBj.out.lt))).setCell (Nat.le_refl _) _).setCell (Nat.le_refl _) _)
            clear k1 k2 k3 k4 q1 q2 v1 v2
            go_wp2_with fail
            go_roundw
            case rel => exact ⟨j + 1, by go_num, by omega, HBn, HWn⟩
            case measure => simp [intOf]; omega
        · have HBn : Hid (Bs B B g.length (ancF g (k + 1)) wr) := Lib.hid (HBj.out.congr fun x _ => ancP_end HK.out hlt (by rw [Dag.par_eq hlt, HX.out]; simp [HL.out]; omega) x)
          go_wp2_with fail
          go_roundw
          case rel => exact ⟨k + 1, by go_num, by omega, HBn, HWj⟩
          case measure => simp [intOf]; omega
    · have HBn : Hid (Bs B B g.length (anc g) wo) := Lib.hid (HB.out.congr fun x hx => by simp [ancF]; omega)
      clear hmk
      go_wp2_with fail
      go_ret
      exact ⟨by rw [← HBw.out]; rfl, by rw [← HBw.out]; exact HBn.out, by rw [← HBw.out]; exact HW.out⟩
end Go.Proofs.Ytcpmnocknpalfaa
