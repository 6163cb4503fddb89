/-
  Layer 15: the law Holds, walked. No condition besides what the arguments are.
-/
import Derived.Deep.RegionHeld3
import Derived.Test.YtcpmnocknpalfaaUA
import Derived.Test.YtcpmnocknpalfaaKB
namespace Go.Proofs.Ytcpmnocknpalfaa
open Go.RowKit Go.Sl
set_option linter.unusedVariables false

theorem three_zero : (((0 : Nat) : Int) + ((0 : Nat) : Int) + ((0 : Nat) : Int) == 0) = true := rfl
set_option maxRecDepth 100000 in
set_option maxHeartbeats 1000000 in
theorem holds_bad (gv v : Value) (w : World) (es : List (SlV × Int)) (g : List Nd) (l : List Int) (c : Nat) (hc : Dag.nodes g l = c) (h0 : c ≠ 0) (hl2 : l.length ≤ 200) (hG : Gr w gv es g) (h : Sl eInt 1 w v l) :
    Calls Try.prog 15 #[gv, v] w fun e w' => e = .returned (.bool true) ∧ Below w.heap.size w w' := by
  have hlen := h.run_len (P := Try.prog) Try.underlying23
  have HW := Lib.hid oworks_any
  have d0 : decide ((200 : Int) < (l.length : Int)) = false := by simp; omega
  have HZ := Lib.hid hc
  have HN := Lib.hid h0
  have hn := nat_ne h0
  have hn2 : (c != 0) = true := by simp [h0]
  clear h0 hc
  go_enter Try.func15, Try.ntmps15
  go_wp2_with fail
  refine (plain_bad gv v w es g l c HZ.out HN.out hG h).mono ?_
  rintro e w1 ⟨rfl, hb1⟩
  have HB1 := Lib.hid hb1
  clear hb1
  go_wp2_with fail
  refine (date_bad gv v w1 es g l c HZ.out HN.out (hG.ext HB1.out) (h.ext HB1.out)).mono ?_
  rintro e w2 ⟨rfl, hb2⟩
  have HB2 := Lib.hid (bel_then HB1.out hb2)
  clear hb2
  go_wp2_with fail
  refine (topo_bad gv v w2 es g l c HZ.out HN.out (hG.ext HB2.out) (h.ext HB2.out)).mono ?_
  rintro e w3 ⟨rfl, hb3⟩
  have HB3 := Lib.hid (bel_then HB2.out hb3)
  clear hb3
  go_wp2_with fail
  refine (HW.out w3).mono ?_
  rintro e w4 ⟨rfl, hb4⟩
  have HB4 := Lib.hid (bel_then HB3.out hb4)
  clear hb4
  go_wp2_with fail
  go_ret
  exact ⟨rfl, HB4.out⟩

/-- one of three orders -/
structure Or3 (AB : Nat) (g : List Nd) (inl : Nat → Bool) (w5 : World) : Prop where
  at_ : ∀ k, k < 3 → ∃ (vk : Value) (lk : List Int) (Lk : List Nat), w5.cell? ⟨AB, k, none⟩ = some vk ∧ Sl eInt 1 w5 vk lk ∧ Ord.Told g inl (decide ((0 : Int) < (k : Int))) lk Lk
  lt : AB < w5.heap.size

set_option maxRecDepth 100000 in
set_option maxHeartbeats 4000000 in
theorem holds_ok (gv v : Value) (w : World) (es : List (SlV × Int)) (g : List Nd) (l : List Int) (hg : Dag.okG g) (hl : Dag.inN g.length l) (hl2 : l.length ≤ 200) (hG : Gr w gv es g) (h : Sl eInt 1 w v l) :
    Calls Try.prog 15 #[gv, v] w fun e w' => e = .returned (.bool true) ∧ Below w.heap.size w w' := by
  have hlen := h.run_len (P := Try.prog) Try.underlying23
  have hix0 := hG.run_len
  have hgl := hg.1
  have hmk := make_bools g.length (by omega)
  rw [made_bcells] at hmk
  have HW := Lib.hid oworks_any
  have d0 : decide ((200 : Int) < (l.length : Int)) = false := by simp; omega
  have HG := Lib.hid hg
  have HL := Lib.hid hl
  clear hg hl
  go_enter Try.func15, Try.ntmps15
  go_wp2_with fail
  refine (plain_ok gv v w es g l HG.out HL.out (by omega) hG h).mono ?_
  rintro e w1 ⟨v1, rfl, ho, hb1⟩
  have HO1 := Lib.hid (ho.sl len_eInt)
  have HB1 := Lib.hid hb1
  clear ho hb1
  go_wp2_with fail
  refine (date_ok gv v w1 es g l HG.out HL.out (hG.ext HB1.out) (h.ext HB1.out)).mono ?_
  rintro e w2 ⟨v2, rfl, ho, hb2⟩
  have HO2 := Lib.hid (ho.sl len_eInt)
  have HO12 := Lib.hid (HO1.out.ext hb2)
  have HB2 := Lib.hid (bel_then HB1.out hb2)
  clear ho hb2
  go_wp2_with fail
  refine (topo_ok gv v w2 es g l HG.out HL.out (hG.ext HB2.out) (h.ext HB2.out)).mono ?_
  rintro e w3 ⟨v3, rfl, ho, hb3⟩
  have HO3 := Lib.hid (ho.sl len_eInt)
  have HO23 := Lib.hid (HO2.out.ext hb3)
  have HO13 := Lib.hid (HO12.out.ext hb3)
  have HB3 := Lib.hid (bel_then HB2.out hb3)
  clear ho hb3
  have hba := bel_alloc w3 (.cells #[v1, v2, v3] 23)
  have HIn := Lib.hid (in_any gv v _ es g l hgl HL.out (hG.ext (bel_then HB3.out hba)) (h.ext (bel_then HB3.out hba)))
  obtain ⟨a1, n1, c1, rfl⟩ := HO13.out.isSlice
  obtain ⟨a2, n2, c2, rfl⟩ := HO23.out.isSlice
  obtain ⟨a3, n3, c3, rfl⟩ := HO3.out.isSlice
  have HBa := Lib.hid hba
  clear hba
  go_wp2_with fail
  refine HIn.out.mono ?_
  rintro e w5 ⟨rfl, hu, hb5⟩
  have HB35 : Hid (Below w3.heap.size w3 w5) := Lib.hid (bel_then HBa.out hb5)
  have HB5 := Lib.hid (bel_then HB3.out HB35.out)
  have hblk : w5.heap[w3.heap.size]? = some (.cells #[.slice a1 n1 c1, .slice a2 n2 c2, .slice a3 n3 c3] 23 (0, 0)) := (hb5.block _ (by simp)).trans (heap_alloc_new _ _)
  have HU := Lib.hid hu
  have HOr : Hid (Or3 w3.heap.size g (Ord.inB l) w5) := Lib.hid (by
    obtain ⟨q0, q1, q2, q3, -⟩ := three hblk
    refine ⟨fun k hk => ?_, q0⟩
    obtain rfl | rfl | rfl : k = 0 ∨ k = 1 ∨ k = 2 := by omega
    · obtain ⟨L, hL⟩ := Ord.told_plain g (Ord.key (g.map (·.2))) (Ord.inB l)
      exact ⟨_, _, L, q1, HO13.out.ext HB35.out, hL⟩
    · obtain ⟨L, hL⟩ := Ord.told_date HG.out (Ord.key (g.map (·.2))) (Ord.inB l)
      exact ⟨_, _, L, q2, HO23.out.ext HB35.out, hL⟩
    · obtain ⟨L, hL⟩ := Ord.told_topo HG.out (Ord.key (g.map (·.2))) (Ord.inB l)
      exact ⟨_, _, L, q3, HO3.out.ext HB35.out, hL⟩)
  have hu0 : (w3.alloc (.cells #[.slice a1 n1 c1, .slice a2 n2 c2, .slice a3 n3 c3] 23)).heap.size = w3.heap.size + 1 := by simp
  rw [hu0] at HU
  clear hu hb5 hblk HIn HO1 HO2 HO12 HO3 HO23 HO13 HBa HB1 HB2 HB3 HB35 hu0
  go_wp2_with fail
  go_loopw [13] (fun i wr => ∃ (k : Nat), i = .int .i64 k ∧ k ≤ 3 ∧ Hid (Below w5.heap.size w5 wr)) (fun i _ => 3 - (intOf i).toNat)
  case atStart => exact ⟨0, rfl, by omega, Lib.hid (Below.refl _ _)⟩
  case round =>
    obtain ⟨k, rfl, hk, HX⟩ := hrel
    obtain ⟨wo, hwo⟩ : ∃ wo : World, wo = wr := ⟨_, rfl⟩
    subst hwo
    by_cases hk3 : k < 3
    · obtain ⟨vk, lk, Lk, hc, hs, hT⟩ := HOr.out.at_ k hk3
      have dk : decide ((k : Int) < 3) = true := by simp; omega
      have hcell : wo.cell? ⟨w3.heap.size, k, none⟩ = some vk := (HX.out.cell (p := ⟨w3.heap.size, k, none⟩) HOr.out.lt).trans hc
      obtain ⟨kb, hkb⟩ : ∃ kb, decide ((0 : Int) < (k : Int)) = kb := ⟨_, rfl⟩
      rw [hkb] at hT
      have HT := Lib.hid hT
      have HS := Lib.hid (hs.ext HX.out)
      have hlk := hs.run_len (P := Try.prog) Try.underlying23
      have hlm : lk.length ≤ 128 := by
        rw [hT.eq, Ord.cs_len, hT.len]
        have := Dag.filtN_len (p := Ord.inB l) g.length
        omega
      have HT0 : Hid (Bl wo.heap.size wo.heap.size g.length (fun _ => false) (wo.alloc (.cells (bcells (fun _ => false) g.length) 4))) := Lib.hid ⟨Nat.le_refl _, heap_new_at rfl⟩
      have HY0 := Lib.hid (bel_alloc wo (.cells (bcells (fun _ => false) g.length) 4))
      have hab : w3.heap.size < wo.heap.size := by have := HX.out.size; have := HOr.out.lt; omega
      clear hT hs hc
      go_wp2_with fail
      go_loopw [15] (fun i wr => ∃ (j : Nat) (f : Nat → Bool), i = .int .i64 j ∧ j ≤ lk.length ∧ Hid (∀ x, x < g.length → f x = decide (x ∈ Lk.take j)) ∧ Hid (Bl wo.heap.size wo.heap.size g.length f wr) ∧ Hid (Below wo.heap.size wo wr)) (fun i _ => lk.length - (intOf i).toNat)
      case atStart => exact ⟨0, _, rfl, by omega, Lib.hid (fun x hx => by simp), HT0, HY0⟩
      case round =>
        obtain ⟨j, f, rfl, hj, HF, HT1, HY⟩ := hrel
        have hcell2 : wr.cell? ⟨w3.heap.size, k, none⟩ = some vk := (HY.out.cell (p := ⟨w3.heap.size, k, none⟩) hab).trans hcell
        have HB5r : Hid (Below w5.heap.size w5 wr) := Lib.hid (bel_then HX.out HY.out)
        have hkb2 : decide (0 < k) = kb := by rw [← hkb]; simp
        by_cases hlt : j < lk.length
        · have hjL : j < Lk.length := by have := hlt; rw [HT.out.eq, Ord.cs_len] at this; exact this
          obtain ⟨b2, o2, hb2, hix2, hc2⟩ := HS.out.atB HY.out (P := Try.prog) Try.underlying23 cells3 some3 hlt
          have e1 := hc2 0 (by omega)
          simp only [eInt, List.getElem?_cons_zero, Nat.add_zero] at e1
          obtain ⟨y, hy⟩ : ∃ y, Hid (Lk[j] = y) := ⟨_, Lib.hid rfl⟩
          have hxy : lk[j] = (y : Int) := by
            have : lk[j] = ((Lk[j] : Nat) : Int) := by
              have e2 := HT.out.eq
              subst e2
              simp [Ord.cs]
            rw [this, hy.out]
          rw [hxy] at e1
          have hym := HT.out.mem _ (List.getElem_mem hjL)
          rw [hy.out] at hym
          obtain ⟨hyN, hyi⟩ := hym
          obtain ⟨u1, -, -⟩ := (HU.out.ext HB5r.out).cell hyN
          rw [hyi] at u1
          obtain ⟨t1, t2, t3⟩ := HT1.out.cell hyN
          have hfy : f y = false := by
            rw [HF.out y hyN]
            exact decide_eq_false (by
              rw [← hy.out]
              intro hm
              obtain ⟨i, hi, e⟩ := List.mem_iff_getElem.1 hm
              rw [List.length_take] at hi
              rw [List.getElem_take] at e
              exact absurd ((List.getElem_inj HT.out.nd).1 e) (by omega))
          rw [hfy] at t1
          have HF2 : Hid (∀ x, x < g.length → Dag.upd f y true x = decide (x ∈ Lk.take (j + 1))) := Lib.hid (fun x hx => by
            rw [List.take_succ_eq_append_getElem hjL, hy.out]
            by_cases e : x = y
            · subst e; rw [Dag.upd_same]; simp
            · rw [Dag.upd_ne _ _ e, HF.out x hx]; simp [e])
          have HT2 := Lib.hid (HT1.out.set y true)
          have HY2 : Hid (Below wo.heap.size wo (wr.setCell ⟨wo.heap.size, y, none⟩ (.bool true))) := Lib.hid (HY.out.setCell (p := ⟨wo.heap.size, y, none⟩) (Nat.le_refl _) _)
          obtain ⟨P, hP⟩ : ∃ P, g[y].1 = P := ⟨_, rfl⟩
          have HP := Lib.hid hP
          have HPar : Hid (∀ (m : Nat) (hm : m < P.length), ∃ q : Nat, P[m] = q ∧ q < g.length ∧ q ∈ Dag.par g y) := Lib.hid (fun m hm => by
            have ho := (HG.out.2 y hyN).2.2.2 m (by rw [hP]; exact hm)
            have e3 : g[y].1[m]'(by rw [hP]; exact hm) = P[m] := by congr 1
            rw [e3] at ho
            have h4 : 0 ≤ P[m] := ho.1
            have h5 : P[m] < (y : Int) := ho.2.1
            refine ⟨P[m].toNat, by omega, by omega, ?_⟩
            rw [Dag.par_eq hyN, hP]
            exact List.mem_map.2 ⟨_, List.getElem_mem hm, rfl⟩)
          have HPn : Hid (kb = true → ∀ q, q ∈ Dag.par g y → q ∉ Lk.take (j + 1)) := Lib.hid (fun hk q hq => by
            have h6 := HT.out
            rw [hk] at h6
            have h7 := h6.par HG.out hjL (p := q) (by rw [hy.out]; exact hq)
            exact h7)
          have hy0 : decide ((y : Int) < 0) = false := by simp
          have hy1 : decide ((g.length : Int) ≤ (y : Int)) = false := by simp; omega
          have hy2 : decide (g.length ≤ y) = false := by simp; omega
          clear hc2 hxy hfy HF HT1 HY hP hyi
          go_wp2_with fail
          go_loopw [17] (fun i wr => ∃ (m : Nat), i = .int .i64 m ∧ m ≤ P.length ∧ Hid (Bl wo.heap.size wo.heap.size g.length (Dag.upd f y true) wr) ∧ Hid (Below wo.heap.size wo wr)) (fun i _ => P.length - (intOf i).toNat)
          case atStart => exact ⟨0, rfl, by omega, HT2, HY2⟩
          case round =>
            clear hcell2 HB5r u1 t1 t2 t3 HT2 HY2 e1
            obtain ⟨m, rfl, hm, HT2, HY2⟩ := hrel
            have HBw : Hid (Below w.heap.size w wr) := Lib.hid (bel_then (bel_then HB5.out HX.out) HY2.out)
            obtain ⟨b, o, hb1, hix, Q, T, a, nn, kk, HXq, HLn, q0, q1, hs1, hm1⟩ := hG.at HBw.out hyN
            have HQP : Hid (Q = P) := Lib.hid (by rw [← HP.out, HXq.out])
            have hls := hs1.run_len (P := Try.prog) Try.underlying23
            have hn1 : nn = P.length := by rw [← HLn.out, HQP.out]
            subst hn1
            rw [HLn.out] at hls
            by_cases hmn : m < P.length
            · cases kb with
              | false =>
                go_wp2_with fail
                go_roundw
                case rel => exact ⟨j + 1, _, by go_num, by omega, HF2, HT2, HY2⟩
                case measure => simp [intOf]; omega
              | true =>
                obtain ⟨q, hq, hqN, hqp⟩ := HPar.out m hmn
                have hmQ : m < Q.length := by rw [HQP.out]; exact hmn
                obtain ⟨b3, o3, hb3, hix3, hc3⟩ := hs1.atB HBw.out (P := Try.prog) Try.underlying23 cells3 some3 hmQ
                have e3 := hc3 0 (by omega)
                simp only [eInt, List.getElem?_cons_zero, Nat.add_zero] at e3
                have hQq : Q[m] = (q : Int) := by rw [← hq]; congr 1
                rw [hQq] at e3
                obtain ⟨t1, t2, t3⟩ := HT2.out.cell hqN
                have hfq : Dag.upd f y true q = false := by rw [HF2.out q hqN]; exact decide_eq_false (HPn.out rfl q hqp)
                rw [hfq] at t1
                clear hc3 hq hQq hfq hqp
                go_wp2_with fail
                go_roundw
                case rel => exact ⟨m + 1, by go_num, by omega, HT2, HY2⟩
                case measure => simp [intOf]; omega
            · go_wp2_with fail
              go_roundw
              case rel => exact ⟨j + 1, _, by go_num, by omega, HF2, HT2, HY2⟩
              case measure => simp [intOf]; omega
        · have hll : lk.length = (Dag.filtN (Ord.inB l) g.length).length := by
            have e2 := HT.out.eq
            rw [e2, Ord.cs_len, HT.out.len]
          have hne : ((lk.length : Int) != ((Dag.filtN (Ord.inB l) g.length).length : Int)) = false := by simp [hll]
          have hne2 : (lk.length != (Dag.filtN (Ord.inB l) g.length).length) = false := by simp [hll]
          have HUr := Lib.hid (HU.out.ext HB5r.out)
          have habr : w3.heap.size < wr.heap.size := by have := HY.out.size; omega
          have HKc : Hid (∀ u, Below wr.heap.size wr u → u.cell? ⟨w3.heap.size, k, none⟩ = some vk ∧ Below wr.heap.size wr u) := Lib.hid (fun u hu => ⟨(hu.cell (p := ⟨w3.heap.size, k, none⟩) habr).trans hcell2, hu⟩)
          have hk0 : (0 : Int) ≤ (k : Int) := by omega
          have hk1 : (k : Int) < 3 := by omega
          clear hll HF HT1
          go_wp2_with fail
          go_region_held3 (fun u => u.cell? ⟨w3.heap.size, k, none⟩ = some vk ∧ Below wr.heap.size wr u)
            (first
              | exact HKc.out _ (below_drewN (Below.refl _ _) 1)
              | exact HKc.out _ HU7.out)
            ((go_at_call 34; (refine (list_any (w3.heap.size + 1) (w3.heap.size + 1) g.length (Ord.inB l) wr.drew ⟨HUr.out.hb, HUr.out.blk⟩ (by omega)).mono ?_); rintro e u7 ⟨v7, rfl, ho, hb⟩; have HU7 : Hid (Below wr.heap.size wr u7) := Lib.hid (bel_then (below_drewN (Below.refl _ _) 1) hb); have hl7 := (Sl.Own.sl ho len_eInt).run_len (P := Try.prog) Try.underlying23; clear ho hb))
          go_wp2_with fail
          go_roundw
          case rel => exact ⟨k + 1, by go_num, by omega, Lib.hid (bel_then (bel_then HX.out HY.out) HU7.out)⟩
          case measure => simp [intOf]; omega
    · have dk : decide ((k : Int) < 3) = false := by simp; omega
      go_wp2_with fail
      refine (HW.out _).mono ?_
      rintro e w8 ⟨rfl, hb8⟩
      have HB8 := Lib.hid (bel_then (bel_then HB5.out HX.out) hb8)
      clear hb8
      go_wp2_with fail
      go_ret
      exact ⟨rfl, HB8.out⟩

set_option maxRecDepth 100000 in
theorem orderHolds_any (gv v : Value) (w : World) (es : List (SlV × Int)) (g : List Nd) (l : List Int) (hG : Gr w gv es g) (h : Sl eInt 1 w v l) :
    Calls Try.prog 15 #[gv, v] w fun e w' => e = .returned (.bool true) ∧ Below w.heap.size w w' := by
  by_cases hbig : 200 < l.length
  · have hlen := h.run_len (P := Try.prog) Try.underlying23
    have HW := Lib.hid oworks_any
    have d0 : decide ((200 : Int) < (l.length : Int)) = true := by simp; omega
    clear hbig
    go_enter Try.func15, Try.ntmps15
    go_wp2_with fail
    refine (HW.out w).mono ?_
    rintro e w1 ⟨rfl, hb1⟩
    have HB1 := Lib.hid hb1
    clear hb1
    go_wp2_with fail
    go_ret
    exact ⟨rfl, HB1.out⟩
  · by_cases h0 : Dag.nodes g l = 0
    · obtain ⟨hg, hl⟩ := nodes_zero h0
      exact holds_ok gv v w es g l hg hl (by omega) hG h
    · exact holds_bad gv v w es g l _ rfl h0 (by omega) hG h
end Go.Proofs.Ytcpmnocknpalfaa
