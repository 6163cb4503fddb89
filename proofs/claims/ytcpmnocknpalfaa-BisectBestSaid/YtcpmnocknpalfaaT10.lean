/-
  Layer 34: BisectBest. No condition besides what the arguments are.
-/
import Derived.Test.YtcpmnocknpalfaaT9
namespace Go.Proofs.Ytcpmnocknpalfaa
open Go.RowKit Go.Sl Go.B64 Go.Bis
set_option linter.unusedVariables false

def eSay (x : Int × Int × Bool) : List Value := [.int .i64 x.1, .int .i64 x.2.1, .bool x.2.2]
theorem len_eSay (x : Int × Int × Bool) : (eSay x).length = 3 := rfl
theorem cells63 : Try.prog.cellsOf 63 = 3 := by kernel_rfl
theorem some63 : (Try.prog.info? 63).isSome = true := by kernel_rfl
/-- what the call has been given -/
structure Asked (w : World) (gv lv : Value) (es : List (SlV × Int)) (g : List Nd) (l : List Int) : Prop where
  gr : Gr w gv es g
  sl : Sl eInt 1 w lv l
theorem newE_cases (g : List Nd) (bad : Int) (l : List Int) : newE g bad l = 12 ∨ newE g bad l = 2 ∨ newE g bad l = 50 ∨ newE g bad l = 0 := by
  unfold newE
  split
  · split
    · split
      · exact .inr (.inr (.inl rfl))
      · exact .inr (.inr (.inr rfl))
    · exact .inr (.inl rfl)
  · exact .inl rfl
theorem newE_zero {g : List Nd} {bad : Int} {l : List Int} (h : newE g bad l = 0) : Dag.okG g ∧ Ok g (newS g bad l) ∧ ∃ bn : Nat, bad = (bn : Int) ∧ bn < g.length := by
  unfold newE at h
  split at h
  · rename_i hg
    split at h
    · rename_i hi
      split at h
      · cases h
      · rename_i hf
        have hb := hi bad (by simp)
        refine ⟨hg, Ok.first hg (by omega) (by simpa using hf), bad.toNat, by omega, by omega⟩
    · cases h
  · cases h
/-- another that may be asked is no better -/
theorem best_no {g : List Nd} {st : St} (hg : Dag.okG g) (hok : Ok g st) {b v : Nat} (ha : acc (anc g) st g.length = some (b, v)) {m : Nat} (hm : opn st m = true) :
    0 < wt (anc g) st.cand b ∧ wt (anc g) st.cand b < cnt st.cand ∧ wt (anc g) st.cand m ≤ cnt st.cand ∧ opn st b = true ∧
    ∃ vm, vl (anc g) st.cand m = vm ∧ vl (anc g) st.cand b = v ∧ vm ≤ v ∧ (vm = v → b ≤ m) := by
  have hmN : m < g.length := hok.lt hg (by unfold opn at hm; simp only [Bool.and_eq_true] at hm; exact hm.1.1)
  rcases acc_best (anc g) st g.length with ⟨h1, -⟩ | ⟨b', h1, h2, h3, h4⟩
  · rw [h1] at ha; cases ha
  · rw [h1] at ha
    simp only [Option.some.injEq, Prod.mk.injEq] at ha
    obtain ⟨rfl, rfl⟩ := ha
    obtain ⟨q1, q2⟩ := wt_bd hg hok h3
    obtain ⟨q3, q4⟩ := h4 m hmN hm
    exact ⟨q1, q2, wt_le _ _ _, h3, _, rfl, rfl, q3, q4⟩
theorem filtN_mem {s : S} (N : Nat) {x : Int} (h : x ∈ Dag.filtN (mem s) N) : ∃ y : Nat, x = (y : Int) ∧ mem s y = true := by
  rw [filtN_range] at h
  obtain ⟨y, h2, h3⟩ := List.mem_map.1 h
  exact ⟨y, h3.symm, (List.mem_filter.1 h2).2⟩
theorem mem_filtN {s : S} (N : Nat) (hN : N = 128) (y : Nat) : (y : Int) ∈ Dag.filtN (mem s) N ↔ mem s y = true := by
  refine ⟨fun h => ?_, fun h => ?_⟩
  · obtain ⟨z, h1, h2⟩ := filtN_mem N h
    have : y = z := by omega
    rw [this]; exact h2
  · rw [filtN_range]
    refine List.mem_map.2 ⟨y, List.mem_filter.2 ⟨List.mem_range.2 ?_, h⟩, rfl⟩
    refine Classical.byContradiction fun hc => ?_
    rw [mem_ge _ (by omega)] at h; cases h
theorem wtE_of {U : Nat → S} {st : St} {y : Nat} (h : mem st.cand y = true) : wtE U st (y : Int) = wt U st.cand y := by
  have hy : y < 128 := by
    refine Classical.byContradiction fun hc => ?_
    rw [mem_ge _ (by omega)] at h; cases h
  have h2 : hasB st.cand (y : Int) = true := by
    unfold hasB
    rw [show ((y : Int)).toNat = y by omega, h, decide_eq_true (by omega)]; rfl
  unfold wtE
  rw [if_pos h2]; rfl
theorem mem_dec {s : S} {LB : List Int} (h : ∀ y : Nat, (y : Int) ∈ LB ↔ mem s y = true) {y : Nat} {c : Bool} (hc : mem s y = c) : decide ((y : Int) ∈ LB) = c := by
  subst hc
  cases hm : mem s y with
  | true => exact decide_eq_true ((h y).2 hm)
  | false => exact decide_eq_false (fun h2 => by rw [(h y).1 h2] at hm; cases hm)
theorem fin_facts {a al v vm y nn : Nat} (p1 : 0 < a) (p2 : a < al) (p7 : vm ≤ v) (p8 : vm = v → nn ≤ y) : (¬ (a : Int) < 1) ∧ (¬ (al : Int) ≤ (a : Int)) ∧ (¬ (v : Int) < (vm : Int)) ∧ (vm = v → ¬ (y : Int) < (nn : Int)) ∧ (¬ vm = v → ¬ (vm : Int) = (v : Int)) :=
  ⟨by omega, by omega, by omega, fun h => by have := p8 h; omega, fun h => by omega⟩
theorem min_if (x al : Nat) (h : x ≤ al) : (if (al : Int) - (x : Int) < (x : Int) then (al : Int) - (x : Int) else (x : Int)) = ((min x (al - x) : Nat) : Int) := by
  split <;> omega
theorem best_all {g : List Nd} {st : St} (hg : Dag.okG g) (hok : Ok g st) {b v m a c2 al : Nat} (ha : acc (anc g) st g.length = some (b, v)) (hm : opn st m = true) (h1 : wt (anc g) st.cand b = a) (h2 : wt (anc g) st.cand m = c2) (h3 : cnt st.cand = al) :
    mem st.cand b = true ∧ a ≤ al ∧ c2 ≤ al ∧ ∃ vm : Nat, (if (al : Int) - (a : Int) < (a : Int) then (al : Int) - (a : Int) else (a : Int)) = (v : Int) ∧ (if (al : Int) - (c2 : Int) < (c2 : Int) then (al : Int) - (c2 : Int) else (c2 : Int)) = (vm : Int) ∧
      ((¬ (a : Int) < 1) ∧ (¬ (al : Int) ≤ (a : Int)) ∧ (¬ (v : Int) < (vm : Int)) ∧ (vm = v → ¬ (m : Int) < (b : Int)) ∧ (¬ vm = v → ¬ (vm : Int) = (v : Int))) := by
  obtain ⟨p1, p2, p3, p4, vm, p5, p6, p7, p8⟩ := best_no hg hok ha hm
  have hcn : mem st.cand b = true := by unfold opn at p4; simp only [Bool.and_eq_true] at p4; exact p4.1.1
  rw [h1] at p1
  rw [h1, h3] at p2
  rw [h2, h3] at p3
  unfold vl at p5 p6
  rw [h2, h3] at p5
  rw [h1, h3] at p6
  exact ⟨hcn, Nat.le_of_lt p2, p3, vm, by rw [min_if a al (Nat.le_of_lt p2), p6], by rw [min_if c2 al p3, p5], fin_facts p1 p2 p7 p8⟩

set_option maxRecDepth 100000 in
set_option maxHeartbeats 2000000 in
theorem bisectBest_any (gv lv sv : Value) (es : List (SlV × Int)) (g : List Nd) (bad : Int) (l : List Int) (says : List (Int × Int × Bool)) (w : World) (hA : Asked w gv lv es g l) (hS : Sl eSay 3 w sv says) :
    Calls Try.prog 8 #[.agg #[gv, .int .i64 bad, lv], sv] w fun e w' => e = .returned (.bool true) ∧ Below w.heap.size w w' := by
  have HA := Lib.hid hA
  have HS := Lib.hid hS
  have hb1 := balloc w (.cells #[gv, .int .i64 bad, lv] 55)
  obtain ⟨w1, hw1⟩ : ∃ u, Hid (u = w.alloc (.cells #[gv, .int .i64 bad, lv] 55)) := ⟨_, Lib.hid rfl⟩
  have HB1 : Hid (Below w.heap.size w w1) := Lib.hid (by rw [hw1.out]; exact hb1)
  have hlen := hA.sl.run_len (P := Try.prog) Try.underlying23
  have hlen2 := hS.run_len (P := Try.prog) Try.underlying56
  have hmax := hA.sl.len_le
  have hmax2 := hS.len_le
  clear hA hS hb1
  by_cases hbig : 100 < l.length
  · have d0 : decide ((100 : Int) < l.length) = true := decide_eq_true (by omega)
    have HW := Lib.hid (bworks_any w1)
    go_enter Try.func8, Try.ntmps8
    go_wp2_with fail
    rw [← hw1.out]
    refine HW.out.mono ?_
    rintro e w2 ⟨rfl, hb⟩
    have HB2 := Lib.hid (bthen HB1.out hb)
    clear hb
    go_wp2_with fail
    go_ret
    exact ⟨rfl, HB2.out⟩
  · have d0 : decide ((100 : Int) < l.length) = false := decide_eq_false (by omega)
    have HN := Lib.hid (bnew_any gv lv es g bad l (by omega) w1 (HA.out.gr.ext HB1.out) (HA.out.sl.ext HB1.out))
    by_cases he : newE g bad l = 0
    · obtain ⟨hg, hok, bn, rfl, hbn⟩ := newE_zero he
      have HG := Lib.hid hg
      have HO := Lib.hid hok
      have HZ := Lib.hid he
      have hgl := hg.1
      clear hg hok he hbn
      go_enter Try.func8, Try.ntmps8
      go_wp2_with fail
      rw [← hw1.out]
      refine HN.out.mono ?_
      rintro e w2 ⟨-, h0⟩
      obtain ⟨sb, ub, rfl, hse, hb2⟩ := h0 HZ.out
      have HSe := Lib.hid (hse.low HB1.out.size)
      have HB2 := Lib.hid (bthen HB1.out hb2)
      clear hse hb2 h0 HN hlen hmax hbig d0
      go_wp2_with fail
      go_loopw [7] (fun i wr => ∃ (k : Nat) (st : St), i = .int .i64 k ∧ k ≤ says.length ∧ k ≤ 40 ∧ st.ans ≤ k ∧ Hid (Se w.heap.size sb ub g.length (anc g) (newS g (bn : Int) l) st wr) ∧ Hid (Ok g st) ∧ Hid (Below w.heap.size w wr)) (fun i _ => says.length - (intOf i).toNat)
      case atStart => exact ⟨0, _, rfl, by omega, by omega, Nat.le_refl _, HSe, HO, HB2⟩
      case round =>
        obtain ⟨wo, rfl⟩ : ∃ u : World, u = wr := ⟨_, rfl⟩
        obtain ⟨k, st, rfl, hk, hk4, han, HT, HOk, HW⟩ := hrel
        have hlt := fun x (hx : mem st.cand x = true) => HOk.out.lt HG.out hx
        have HX := Lib.hid (bnext_any HT.out hgl hlt HOk.out.wlt)
        obtain ⟨nb, hnb⟩ : ∃ b, Hid (nxB (acc (anc g) st g.length) = b) := ⟨_, Lib.hid rfl⟩
        obtain ⟨nn, hnn⟩ : ∃ b, Hid (nxN (acc (anc g) st g.length) = b) := ⟨_, Lib.hid rfl⟩
        rw [hnb.out, hnn.out] at HX
        clear hlt
        by_cases hc : k < says.length ∧ k < 40
        · obtain ⟨hc1, hc2⟩ := hc
          have d40 : decide ((k : Int) < 40) = true := decide_eq_true (by omega)
          obtain ⟨b2, o2, hb2, hix2, hcell⟩ := HS.out.atB HW.out (P := Try.prog) Try.underlying56 cells63 some63 hc1
          obtain ⟨⟨x, y, t⟩, hx⟩ : ∃ x, says[k] = x := ⟨_, rfl⟩
          have e0 := hcell 0 (by omega)
          have e1 := hcell 1 (by omega)
          have e2 := hcell 2 (by omega)
          rw [hx] at e0 e1 e2
          simp only [eSay, List.getElem?_cons_zero, List.getElem?_cons_succ, Nat.add_zero] at e0 e1 e2
          have hb2o : b2 < wo.heap.size := Nat.lt_of_lt_of_le hb2 HW.out.size
          clear hcell hx hb2
          go_wp2_with fail
          refine HX.out.mono ?_
          rintro e w3 ⟨rfl, hb3⟩
          have f0 := (hb3.cell (p := ⟨b2, o2, none⟩) hb2o).trans e0
          have f1 := (hb3.cell (p := ⟨b2, o2 + 1, none⟩) hb2o).trans e1
          have f2 := (hb3.cell (p := ⟨b2, o2 + 2, none⟩) hb2o).trans e2
          have HB3 := Lib.hid hb3
          clear hb3 HX e0 e1 e2
          have HT3 := Lib.hid (HT.out.ext HB3.out)
          have HWH := fun u => Lib.hid (bwhat_any x y t u)
          have HSay := fun (z : Int) u (hu : Below w3.heap.size w3 u) => Lib.hid (bsay_any (HT3.out.ext hu) hgl (fun x hx => HOk.out.lt HG.out hx) HOk.out.wlt (by omega) (whatN x) (whatN_lt x) z)
          have HOn := fun (z : Int) => Lib.hid (HOk.out.sayS HG.out (whatN x) z)
          have HAn := fun (z : Int) => Lib.hid (sayS_ans (U := anc g) (N := g.length) (st := st) (what := whatN x) (n := z))
          have HR := Lib.hid (fun (z : Int) u u' (hu : Below w3.heap.size w3 u) (hg : u.grownBy u' (some sb)) => (below_grown hg (Nat.le_trans (bthen HW.out HB3.out).size hu.size) (fun k e => by cases e; exact HT.out.hb) : Below w.heap.size u u'))
          have hb3s := (bthen HW.out HB3.out).size
          have HX' : Hid (Below w.heap.size w w3) := Lib.hid (bthen HW.out HB3.out)
          clear hb2o hb3s
          cases t with
          | true =>
            go_wp2_with fail
            refine (HWH _).out.mono ?_
            rintro e w4 ⟨rfl, hb4⟩
            have HB4 := Lib.hid hb4
            clear hb4
            go_wp2_with fail
            refine (HSay _ _ HB4.out).out.mono ?_
            rintro e w5 ⟨rfl, hg5, hs5⟩
            have HS5 := Lib.hid hs5
            have HW5 : Hid (Below w.heap.size w w5) := Lib.hid ((bthen HX'.out HB4.out).trans (HR.out nn _ _ HB4.out hg5))
            have HO5 := HOn (nn : Int)
            have ha5 := (HAn (nn : Int)).out
            clear hg5 hs5 HSay HOn HAn HR HWH
            go_wp2_with fail
            go_roundw
            case rel => exact ⟨k + 1, _, by go_num, by omega, by omega, by omega, HS5, HO5, HW5⟩
            case measure => simp [intOf]; omega
          | false =>
            go_wp2_with fail
            refine (HWH _).out.mono ?_
            rintro e w4 ⟨rfl, hb4⟩
            have HB4 := Lib.hid hb4
            clear hb4
            go_wp2_with fail
            refine (HSay _ _ HB4.out).out.mono ?_
            rintro e w5 ⟨rfl, hg5, hs5⟩
            have HS5 := Lib.hid hs5
            have HW5 : Hid (Below w.heap.size w w5) := Lib.hid ((bthen HX'.out HB4.out).trans (HR.out y _ _ HB4.out hg5))
            have HO5 := HOn y
            have ha5 := (HAn y).out
            clear hg5 hs5 HSay HOn HAn HR HWH
            go_wp2_with fail
            go_roundw
            case rel => exact ⟨k + 1, _, by go_num, by omega, by omega, by omega, HS5, HO5, HW5⟩
            case measure => simp [intOf]; omega
        · skip
          have hWW := fun u => Lib.hid (bworks_any u)
          have HIn : Hid (∀ x, mem st.cand x = true → x < g.length) := Lib.hid (fun x hx => HOk.out.lt HG.out hx)
          have HCt : Hid ((Dag.filtN (mem st.cand) 128).length = cnt st.cand) := Lib.hid (cnt_filtN (fun x hx => by have := HIn.out x hx; omega) (Nat.le_refl _))
          obtain ⟨al, hal⟩ : ∃ al, Hid (cnt st.cand = al) := ⟨_, Lib.hid rfl⟩
          have HP := Lib.hid (fun (b v m a c2 : Nat) (ha : acc (anc g) st g.length = some (b, v)) (hm : opn st m = true) (h1 : wt (anc g) st.cand b = a) (h2 : wt (anc g) st.cand m = c2) => best_all HG.out HOk.out ha hm h1 h2 hal.out)
          have Hal2 : Hid (al ≤ 128) := Lib.hid (by rw [← hal.out]; exact cnt_le _)
          rw [hal.out] at HCt
          obtain ⟨LA, hLA⟩ : ∃ LA, Hid (Dag.filtN (mem st.cand) 128 = LA) := ⟨_, Lib.hid rfl⟩
          obtain ⟨LB, hLB⟩ : ∃ LB, Hid (Dag.filtN (mem st.skip) 128 = LB) := ⟨_, Lib.hid rfl⟩
          have HMA : Hid (∀ x ∈ LA, ∃ y : Nat, x = (y : Int) ∧ mem st.cand y = true) := Lib.hid (fun x hx => filtN_mem 128 (by rw [hLA.out]; exact hx))
          have HMB : Hid (∀ y : Nat, (y : Int) ∈ LB ↔ mem st.skip y = true) := Lib.hid (fun y => by rw [← hLB.out]; exact mem_filtN 128 rfl y)
          rw [hLA.out] at HCt
          clear han hk hk4
          rcases (by omega : (says.length ≤ k) ∨ (k < says.length ∧ 40 ≤ k)) with h1 | ⟨h1, h2⟩
          · have h1' : ¬ k < says.length := by omega
            clear h1 hc
            go_wp2_with fail
            refine HX.out.mono ?_
            rintro e w3 ⟨rfl, hb3⟩
            have HB3 := Lib.hid (bthen HW.out hb3)
            have HS3 := Lib.hid (HT.out.ext hb3)
            have HCa := Lib.hid (bcand_any HS3.out)
            rw [hLA.out] at HCa
            clear hb3 HX HT
            go_wp2_with fail
            refine HCa.out.mono ?_
            rintro e w4 ⟨v4, rfl, ho4, hb4⟩
            have HB4 := Lib.hid (bthen HB3.out hb4)
            have HS4 := Lib.hid (HS3.out.ext hb4)
            have HO4 := Lib.hid (ho4.sl len_eInt)
            have HSk := Lib.hid (bskip_any HS4.out)
            rw [hLB.out] at HSk
            clear hb4 ho4 HCa HS3
            go_wp2_with fail
            refine HSk.out.mono ?_
            rintro e w5 ⟨v5, rfl, ho5, hb5⟩
            have HB5 := Lib.hid (bthen HB4.out hb5)
            have HS5 := Lib.hid (HS4.out.ext hb5)
            have HO5 := Lib.hid (ho5.sl len_eInt)
            have HOA := Lib.hid (HO4.out.ext hb5)
            have hlenA := HOA.out.run_len (P := Try.prog) Try.underlying23
            rw [HCt.out] at hlenA
            clear hb5 ho5 HSk HS4 HO4 hlen2 hmax2
            go_wp2_with fail
            go_loopw [14] (fun i wr => ∃ (q : Nat), i = .int .i64 q ∧ q ≤ al ∧ Hid (Below w5.heap.size w5 wr)) (fun i _ => al - (intOf i).toNat)
            case atStart => exact ⟨0, rfl, by omega, Lib.hid (Below.refl _ _)⟩
            case round =>
              obtain ⟨wp, rfl⟩ : ∃ u : World, u = wr := ⟨_, rfl⟩
              obtain ⟨q, rfl, hq, HWq⟩ := hrel
              by_cases hlt : q < al
              · cases nb with
                | false =>
                  go_wp2_with fail
                  refine (hWW _).out.mono ?_
                  rintro e w6 ⟨rfl, hb6⟩
                  have HB6 := Lib.hid (bthen (bthen HB5.out HWq.out) hb6)
                  clear hb6
                  go_wp2_with fail
                  go_ret
                  exact ⟨rfl, HB6.out⟩
                | true =>
                  obtain ⟨v, hac⟩ : ∃ v, Hid (acc (anc g) st g.length = some (nn, v)) := by
                    have h1 := hnb.out
                    have h2 := hnn.out
                    cases hA : acc (anc g) st g.length with
                    | none => rw [hA] at h1; cases h1
                    | some p => rw [hA] at h2; exact ⟨p.2, Lib.hid (by show some p = _; rw [← h2]; rfl)⟩
                  obtain ⟨b2, o2, hb2, hix2, hc2⟩ := HOA.out.atB HWq.out (P := Try.prog) Try.underlying23 cells3 some3 (by rw [HCt.out]; exact hlt)
                  have e1 := hc2 0 (by omega)
                  simp only [eInt, List.getElem?_cons_zero, Nat.add_zero] at e1
                  obtain ⟨y, hy, hym⟩ := HMA.out _ (List.getElem_mem (l := LA) (by rw [HCt.out]; exact hlt : q < LA.length))
                  rw [hy] at e1
                  have HYm := Lib.hid hym
                  have HSq := Lib.hid (HS5.out.ext HWq.out)
                  have HWo := Lib.hid (bworst_any HSq.out)
                  obtain ⟨ws, hws⟩ : ∃ ws, Hid (st.worst = ws) := ⟨_, Lib.hid rfl⟩
                  rw [hws.out] at HWo
                  clear hc2 hym hb2
                  go_wp2_with fail
                  refine HWo.out.mono ?_
                  rintro e w6 ⟨rfl, rfl⟩
                  clear e1 hix2 HWo
                  have hal2 := Hal2.out
                  by_cases hyw : y = ws
                  · subst hyw
                    go_wp2_with fail
                    go_roundw
                    case rel => exact ⟨q + 1, by go_num, by omega, HWq⟩
                    case measure => simp [intOf]; omega
                  · obtain ⟨c, hcs⟩ : ∃ c, Hid (mem st.skip y = c) := ⟨_, Lib.hid rfl⟩
                    have HD0 : Hid (decide ((y : Int) ∈ LB) = c) := Lib.hid (mem_dec HMB.out hcs.out)
                    have HH := Lib.hid (lhas_any v5 LB (y : Int) c HD0.out wp (HO5.out.ext HWq.out))
                    have HYw := Lib.hid hyw
                    have dyw : ((y : Int) == (ws : Int)) = false := by rw [beq_eq_false_iff_ne]; omega
                    clear hyw hal2
                    go_wp2_with fail
                    refine HH.out.mono ?_
                    rintro e w7 ⟨rfl, rfl⟩
                    clear HH dyw
                    have hal2 := Hal2.out
                    cases c with
                    | true =>
                      go_wp2_with fail
                      go_roundw
                      case rel => exact ⟨q + 1, by go_num, by omega, HWq⟩
                      case measure => simp [intOf]; omega
                    | false =>
                      have hop : opn st y = true := by
                        unfold opn
                        rw [HYm.out, hcs.out, hws.out, decide_eq_false HYw.out]; rfl
                      obtain ⟨a, ha⟩ : ∃ a, Hid (wt (anc g) st.cand nn = a) := ⟨_, Lib.hid rfl⟩
                      obtain ⟨c2, hc2⟩ : ∃ c2, Hid (wt (anc g) st.cand y = c2) := ⟨_, Lib.hid rfl⟩
                      obtain ⟨hcn, hal4, p3, vm, hm1, hm2, hqq⟩ := HP.out nn v y a c2 hac.out hop ha.out hc2.out
                      have HM1 := Lib.hid hm1
                      have HM2 := Lib.hid hm2
                      have QQ := Lib.hid hqq
                      have HWa := Lib.hid (bweight_any HSq.out hgl HIn.out (nn : Int))
                      rw [wtE_of hcn, ha.out] at HWa
                      have HWb := fun u (hu : Below wp.heap.size wp u) => Lib.hid (bweight_any (HSq.out.ext hu) hgl HIn.out (y : Int))
                      rw [wtE_of HYm.out, hc2.out] at HWb
                      clear hop hcn hm1 hm2 hqq
                      go_wp2_with fail
                      refine HWa.out.mono ?_
                      rintro e w8 ⟨rfl, hb8⟩
                      have HB8 := Lib.hid hb8
                      clear hb8 HWa
                      go_wp2_with fail
                      refine (HWb w8 HB8.out).out.mono ?_
                      rintro e w9 ⟨rfl, hb9⟩
                      have HB9 := Lib.hid (bthen HB8.out hb9)
                      clear hb9 HWb
                      go_upto_region 23 with fail
                      rw [HM1.out, HM2.out]
                      have HB10 := Lib.hid (bthen HWq.out HB9.out)
                      obtain ⟨q1, q2, q3, Q4, Q5⟩ := QQ.out
                      clear p3 hal4
                      by_cases hv : vm = v
                      · have q4 := Q4 hv
                        obtain ⟨A1, hA1⟩ : ∃ x : Int, (a : Int) = x := ⟨_, rfl⟩
                        obtain ⟨AL, hAL⟩ : ∃ x : Int, (al : Int) = x := ⟨_, rfl⟩
                        obtain ⟨V, hV⟩ : ∃ x : Int, (v : Int) = x := ⟨_, rfl⟩
                        obtain ⟨V2, hV2⟩ : ∃ x : Int, (vm : Int) = x := ⟨_, rfl⟩
                        obtain ⟨Y, hY⟩ : ∃ x : Int, (y : Int) = x := ⟨_, rfl⟩
                        obtain ⟨M, hM⟩ : ∃ x : Int, (nn : Int) = x := ⟨_, rfl⟩
                        have d1 : decide (A1 < 1) = false := decide_eq_false (by omega)
                        have d2 : decide (A1 ≥ AL) = false := decide_eq_false (by omega)
                        have d3 : decide (V2 > V) = false := decide_eq_false (by omega)
                        have d4 : (V2 == V) = true := by rw [← hV2, ← hV, hv]; simp
                        have d5 : decide (Y < M) = false := decide_eq_false (by omega)
                        rw [hA1, hAL, hV, hV2, hY, hM]
                        rw [hAL] at hlenA
                        have E1 := Lib.hid hA1
                        have E2 := Lib.hid hAL
                        have E3 := Lib.hid hV
                        have E4 := Lib.hid hV2
                        have E5 := Lib.hid hY
                        have E6 := Lib.hid hM
                        clear Q4 Q5 q1 q2 q3 q4 hA1 hAL hV hV2 hY hM HM1 HM2 QQ HP hv
                        go_wp2_with fail
                        obtain rfl := E1.out
                        obtain rfl := E2.out
                        obtain rfl := E3.out
                        obtain rfl := E4.out
                        obtain rfl := E5.out
                        obtain rfl := E6.out
                        go_roundw
                        case rel => exact ⟨q + 1, by go_num, by omega, HB10⟩
                        case measure => simp [intOf]; omega
                      · obtain ⟨A1, hA1⟩ : ∃ x : Int, (a : Int) = x := ⟨_, rfl⟩
                        obtain ⟨AL, hAL⟩ : ∃ x : Int, (al : Int) = x := ⟨_, rfl⟩
                        obtain ⟨V, hV⟩ : ∃ x : Int, (v : Int) = x := ⟨_, rfl⟩
                        obtain ⟨V2, hV2⟩ : ∃ x : Int, (vm : Int) = x := ⟨_, rfl⟩
                        obtain ⟨Y, hY⟩ : ∃ x : Int, (y : Int) = x := ⟨_, rfl⟩
                        obtain ⟨M, hM⟩ : ∃ x : Int, (nn : Int) = x := ⟨_, rfl⟩
                        have d1 : decide (A1 < 1) = false := decide_eq_false (by omega)
                        have d2 : decide (A1 ≥ AL) = false := decide_eq_false (by omega)
                        have d3 : decide (V2 > V) = false := decide_eq_false (by omega)
                        have d4 : (V2 == V) = false := by rw [beq_eq_false_iff_ne, ← hV2, ← hV]; exact Q5 hv
                        rw [hA1, hAL, hV, hV2, hY, hM]
                        rw [hAL] at hlenA
                        have E1 := Lib.hid hA1
                        have E2 := Lib.hid hAL
                        have E3 := Lib.hid hV
                        have E4 := Lib.hid hV2
                        have E5 := Lib.hid hY
                        have E6 := Lib.hid hM
                        clear Q4 Q5 q1 q2 q3 hA1 hAL hV hV2 hY hM HM1 HM2 QQ HP hv
                        go_wp2_with fail
                        obtain rfl := E1.out
                        obtain rfl := E2.out
                        obtain rfl := E3.out
                        obtain rfl := E4.out
                        obtain rfl := E5.out
                        obtain rfl := E6.out
                        go_roundw
                        case rel => exact ⟨q + 1, by go_num, by omega, HB10⟩
                        case measure => simp [intOf]; omega
              · clear hnn hnb
                go_wp2_with fail
                refine (hWW _).out.mono ?_
                rintro e w6 ⟨rfl, hb6⟩
                have HB6 := Lib.hid (bthen (bthen HB5.out HWq.out) hb6)
                clear hb6
                go_wp2_with fail
                go_ret
                exact ⟨rfl, HB6.out⟩
          · have d40 : decide ((k : Int) < 40) = false := decide_eq_false (by omega)
            clear hc h2
            go_wp2_with fail
            refine HX.out.mono ?_
            rintro e w3 ⟨rfl, hb3⟩
            have HB3 := Lib.hid (bthen HW.out hb3)
            have HS3 := Lib.hid (HT.out.ext hb3)
            have HCa := Lib.hid (bcand_any HS3.out)
            rw [hLA.out] at HCa
            clear hb3 HX HT
            go_wp2_with fail
            refine HCa.out.mono ?_
            rintro e w4 ⟨v4, rfl, ho4, hb4⟩
            have HB4 := Lib.hid (bthen HB3.out hb4)
            have HS4 := Lib.hid (HS3.out.ext hb4)
            have HO4 := Lib.hid (ho4.sl len_eInt)
            have HSk := Lib.hid (bskip_any HS4.out)
            rw [hLB.out] at HSk
            clear hb4 ho4 HCa HS3
            go_wp2_with fail
            refine HSk.out.mono ?_
            rintro e w5 ⟨v5, rfl, ho5, hb5⟩
            have HB5 := Lib.hid (bthen HB4.out hb5)
            have HS5 := Lib.hid (HS4.out.ext hb5)
            have HO5 := Lib.hid (ho5.sl len_eInt)
            have HOA := Lib.hid (HO4.out.ext hb5)
            have hlenA := HOA.out.run_len (P := Try.prog) Try.underlying23
            rw [HCt.out] at hlenA
            clear hb5 ho5 HSk HS4 HO4 hlen2 hmax2
            go_wp2_with fail
            go_loopw [14] (fun i wr => ∃ (q : Nat), i = .int .i64 q ∧ q ≤ al ∧ Hid (Below w5.heap.size w5 wr)) (fun i _ => al - (intOf i).toNat)
            case atStart => exact ⟨0, rfl, by omega, Lib.hid (Below.refl _ _)⟩
            case round =>
              obtain ⟨wp, rfl⟩ : ∃ u : World, u = wr := ⟨_, rfl⟩
              obtain ⟨q, rfl, hq, HWq⟩ := hrel
              by_cases hlt : q < al
              · cases nb with
                | false =>
                  go_wp2_with fail
                  refine (hWW _).out.mono ?_
                  rintro e w6 ⟨rfl, hb6⟩
                  have HB6 := Lib.hid (bthen (bthen HB5.out HWq.out) hb6)
                  clear hb6
                  go_wp2_with fail
                  go_ret
                  exact ⟨rfl, HB6.out⟩
                | true =>
                  obtain ⟨v, hac⟩ : ∃ v, Hid (acc (anc g) st g.length = some (nn, v)) := by
                    have h1 := hnb.out
                    have h2 := hnn.out
                    cases hA : acc (anc g) st g.length with
                    | none => rw [hA] at h1; cases h1
                    | some p => rw [hA] at h2; exact ⟨p.2, Lib.hid (by show some p = _; rw [← h2]; rfl)⟩
                  obtain ⟨b2, o2, hb2, hix2, hc2⟩ := HOA.out.atB HWq.out (P := Try.prog) Try.underlying23 cells3 some3 (by rw [HCt.out]; exact hlt)
                  have e1 := hc2 0 (by omega)
                  simp only [eInt, List.getElem?_cons_zero, Nat.add_zero] at e1
                  obtain ⟨y, hy, hym⟩ := HMA.out _ (List.getElem_mem (l := LA) (by rw [HCt.out]; exact hlt : q < LA.length))
                  rw [hy] at e1
                  have HYm := Lib.hid hym
                  have HSq := Lib.hid (HS5.out.ext HWq.out)
                  have HWo := Lib.hid (bworst_any HSq.out)
                  obtain ⟨ws, hws⟩ : ∃ ws, Hid (st.worst = ws) := ⟨_, Lib.hid rfl⟩
                  rw [hws.out] at HWo
                  clear hc2 hym hb2
                  go_wp2_with fail
                  refine HWo.out.mono ?_
                  rintro e w6 ⟨rfl, rfl⟩
                  clear e1 hix2 HWo
                  have hal2 := Hal2.out
                  by_cases hyw : y = ws
                  · subst hyw
                    go_wp2_with fail
                    go_roundw
                    case rel => exact ⟨q + 1, by go_num, by omega, HWq⟩
                    case measure => simp [intOf]; omega
                  · obtain ⟨c, hcs⟩ : ∃ c, Hid (mem st.skip y = c) := ⟨_, Lib.hid rfl⟩
                    have HD0 : Hid (decide ((y : Int) ∈ LB) = c) := Lib.hid (mem_dec HMB.out hcs.out)
                    have HH := Lib.hid (lhas_any v5 LB (y : Int) c HD0.out wp (HO5.out.ext HWq.out))
                    have HYw := Lib.hid hyw
                    have dyw : ((y : Int) == (ws : Int)) = false := by rw [beq_eq_false_iff_ne]; omega
                    clear hyw hal2
                    go_wp2_with fail
                    refine HH.out.mono ?_
                    rintro e w7 ⟨rfl, rfl⟩
                    clear HH dyw
                    have hal2 := Hal2.out
                    cases c with
                    | true =>
                      go_wp2_with fail
                      go_roundw
                      case rel => exact ⟨q + 1, by go_num, by omega, HWq⟩
                      case measure => simp [intOf]; omega
                    | false =>
                      have hop : opn st y = true := by
                        unfold opn
                        rw [HYm.out, hcs.out, hws.out, decide_eq_false HYw.out]; rfl
                      obtain ⟨a, ha⟩ : ∃ a, Hid (wt (anc g) st.cand nn = a) := ⟨_, Lib.hid rfl⟩
                      obtain ⟨c2, hc2⟩ : ∃ c2, Hid (wt (anc g) st.cand y = c2) := ⟨_, Lib.hid rfl⟩
                      obtain ⟨hcn, hal4, p3, vm, hm1, hm2, hqq⟩ := HP.out nn v y a c2 hac.out hop ha.out hc2.out
                      have HM1 := Lib.hid hm1
                      have HM2 := Lib.hid hm2
                      have QQ := Lib.hid hqq
                      have HWa := Lib.hid (bweight_any HSq.out hgl HIn.out (nn : Int))
                      rw [wtE_of hcn, ha.out] at HWa
                      have HWb := fun u (hu : Below wp.heap.size wp u) => Lib.hid (bweight_any (HSq.out.ext hu) hgl HIn.out (y : Int))
                      rw [wtE_of HYm.out, hc2.out] at HWb
                      clear hop hcn hm1 hm2 hqq
                      go_wp2_with fail
                      refine HWa.out.mono ?_
                      rintro e w8 ⟨rfl, hb8⟩
                      have HB8 := Lib.hid hb8
                      clear hb8 HWa
                      go_wp2_with fail
                      refine (HWb w8 HB8.out).out.mono ?_
                      rintro e w9 ⟨rfl, hb9⟩
                      have HB9 := Lib.hid (bthen HB8.out hb9)
                      clear hb9 HWb
                      go_upto_region 23 with fail
                      rw [HM1.out, HM2.out]
                      have HB10 := Lib.hid (bthen HWq.out HB9.out)
                      obtain ⟨q1, q2, q3, Q4, Q5⟩ := QQ.out
                      clear p3 hal4
                      by_cases hv : vm = v
                      · have q4 := Q4 hv
                        obtain ⟨A1, hA1⟩ : ∃ x : Int, (a : Int) = x := ⟨_, rfl⟩
                        obtain ⟨AL, hAL⟩ : ∃ x : Int, (al : Int) = x := ⟨_, rfl⟩
                        obtain ⟨V, hV⟩ : ∃ x : Int, (v : Int) = x := ⟨_, rfl⟩
                        obtain ⟨V2, hV2⟩ : ∃ x : Int, (vm : Int) = x := ⟨_, rfl⟩
                        obtain ⟨Y, hY⟩ : ∃ x : Int, (y : Int) = x := ⟨_, rfl⟩
                        obtain ⟨M, hM⟩ : ∃ x : Int, (nn : Int) = x := ⟨_, rfl⟩
                        have d1 : decide (A1 < 1) = false := decide_eq_false (by omega)
                        have d2 : decide (A1 ≥ AL) = false := decide_eq_false (by omega)
                        have d3 : decide (V2 > V) = false := decide_eq_false (by omega)
                        have d4 : (V2 == V) = true := by rw [← hV2, ← hV, hv]; simp
                        have d5 : decide (Y < M) = false := decide_eq_false (by omega)
                        rw [hA1, hAL, hV, hV2, hY, hM]
                        rw [hAL] at hlenA
                        have E1 := Lib.hid hA1
                        have E2 := Lib.hid hAL
                        have E3 := Lib.hid hV
                        have E4 := Lib.hid hV2
                        have E5 := Lib.hid hY
                        have E6 := Lib.hid hM
                        clear Q4 Q5 q1 q2 q3 q4 hA1 hAL hV hV2 hY hM HM1 HM2 QQ HP hv
                        go_wp2_with fail
                        obtain rfl := E1.out
                        obtain rfl := E2.out
                        obtain rfl := E3.out
                        obtain rfl := E4.out
                        obtain rfl := E5.out
                        obtain rfl := E6.out
                        go_roundw
                        case rel => exact ⟨q + 1, by go_num, by omega, HB10⟩
                        case measure => simp [intOf]; omega
                      · obtain ⟨A1, hA1⟩ : ∃ x : Int, (a : Int) = x := ⟨_, rfl⟩
                        obtain ⟨AL, hAL⟩ : ∃ x : Int, (al : Int) = x := ⟨_, rfl⟩
                        obtain ⟨V, hV⟩ : ∃ x : Int, (v : Int) = x := ⟨_, rfl⟩
                        obtain ⟨V2, hV2⟩ : ∃ x : Int, (vm : Int) = x := ⟨_, rfl⟩
                        obtain ⟨Y, hY⟩ : ∃ x : Int, (y : Int) = x := ⟨_, rfl⟩
                        obtain ⟨M, hM⟩ : ∃ x : Int, (nn : Int) = x := ⟨_, rfl⟩
                        have d1 : decide (A1 < 1) = false := decide_eq_false (by omega)
                        have d2 : decide (A1 ≥ AL) = false := decide_eq_false (by omega)
                        have d3 : decide (V2 > V) = false := decide_eq_false (by omega)
                        have d4 : (V2 == V) = false := by rw [beq_eq_false_iff_ne, ← hV2, ← hV]; exact Q5 hv
                        rw [hA1, hAL, hV, hV2, hY, hM]
                        rw [hAL] at hlenA
                        have E1 := Lib.hid hA1
                        have E2 := Lib.hid hAL
                        have E3 := Lib.hid hV
                        have E4 := Lib.hid hV2
                        have E5 := Lib.hid hY
                        have E6 := Lib.hid hM
                        clear Q4 Q5 q1 q2 q3 hA1 hAL hV hV2 hY hM HM1 HM2 QQ HP hv
                        go_wp2_with fail
                        obtain rfl := E1.out
                        obtain rfl := E2.out
                        obtain rfl := E3.out
                        obtain rfl := E4.out
                        obtain rfl := E5.out
                        obtain rfl := E6.out
                        go_roundw
                        case rel => exact ⟨q + 1, by go_num, by omega, HB10⟩
                        case measure => simp [intOf]; omega
              · clear hnn hnb
                go_wp2_with fail
                refine (hWW _).out.mono ?_
                rintro e w6 ⟨rfl, hb6⟩
                have HB6 := Lib.hid (bthen (bthen HB5.out HWq.out) hb6)
                clear hb6
                go_wp2_with fail
                go_ret
                exact ⟨rfl, HB6.out⟩
    · have HW := fun u => Lib.hid (bworks_any u)
      have HZ : Hid (newE g bad l = 12 ∨ newE g bad l = 2 ∨ newE g bad l = 50) := Lib.hid (by
        rcases newE_cases g bad l with h | h | h | h
        · exact .inl h
        · exact .inr (.inl h)
        · exact .inr (.inr h)
        · exact absurd h he)
      have Hne := Lib.hid he
      clear he
      go_enter Try.func8, Try.ntmps8
      go_wp2_with fail
      rw [← hw1.out]
      refine HN.out.mono ?_
      rintro e w2 ⟨h0, -⟩
      obtain ⟨rfl, hb2⟩ := h0 Hne.out
      have HB2 := Lib.hid (bthen HB1.out hb2)
      obtain ⟨e0, he0⟩ : ∃ e0, Hid (newE g bad l = e0) := ⟨_, Lib.hid rfl⟩
      rw [he0.out] at HZ ⊢
      clear h0 hb2 HN Hne he0
      rcases HZ.out with rfl | rfl | rfl
      all_goals
        go_wp2_with fail
        refine (HW _).out.mono ?_
        rintro e w3 ⟨rfl, hb⟩
        have HB3 := Lib.hid (bthen HB2.out hb)
        clear hb
        go_wp2_with fail
        go_ret
        exact ⟨rfl, HB3.out⟩
end Go.Proofs.Ytcpmnocknpalfaa
