/-
  DagMeets: what the program answers, the document's. No condition.
-/
import Derived.Test.YtcpmnocknpalfaaW4
import Derived.Test.YtcpmnocknpalfaaH12
import Derived.Test.YtcpmnocknpalfaaG8
namespace Go.Proofs.Ytcpmnocknpalfaa
open Go.RowKit Go.Sl
set_option linter.unusedVariables false

theorem below_drew_of {w u : World} {B : Nat} (h : Below B w u) (k : Nat) : Below B w (u.drewN k) := below_drewN h k

set_option maxRecDepth 100000 in
set_option maxHeartbeats 4000000 in
theorem dagMeets_any (gv : Value) (a b : Int) (w : World) (es : List (SlV × Int)) (g : List Nd) (hG : Gr w gv es g) :
    Calls Try.prog 5 #[gv, .int .i64 a, .int .i64 b] w fun e w' => e = .returned (.bool true) ∧ Below w.heap.size w w' := by
  have HG := Lib.hid hG
  have hix0 := hG.run_len
  have hnil := len_nil_run w
  clear hG
  obtain ⟨c, hcc⟩ : ∃ c, Dag.nodes g [a, b] = c := ⟨_, rfl⟩
  have HC := Lib.hid hcc
  by_cases hc : c = 0
  · subst hc
    obtain ⟨hg, hin⟩ := Dag.nodes_zero hcc
    have ha := hin a (by simp)
    have hb := hin b (by simp)
    obtain ⟨x, rfl⟩ : ∃ x : Nat, a = x := ⟨a.toNat, by omega⟩
    obtain ⟨y, rfl⟩ : ∃ y : Nat, b = y := ⟨b.toNat, by omega⟩
    have hx : x < g.length := by omega
    have hy : y < g.length := by omega
    have HOk := Lib.hid hg
    have hgl := hg.1
    obtain ⟨L, hL⟩ : ∃ L, Dag.baseL g x y = L := ⟨_, rfl⟩
    have HL := Lib.hid hL
    have hLl : L.length ≤ g.length := by rw [← hL]; exact Dag.filtN_len _
    have HIn : Hid (∀ z ∈ L, ∃ n : Nat, n < g.length ∧ z = n) := Lib.hid (fun z hz => by
      rw [← hL] at hz
      obtain ⟨n, h1, _, h3⟩ := Dag.mem_base.1 hz
      exact ⟨n, h1, h3⟩)
    have HNl : Hid ((Dag.gensL g).length = g.length) := Lib.hid (Dag.gensTo_len g _)
    obtain ⟨t0, ht0⟩ : ∃ t, Dag.tt (Dag.Anc (Dag.par g) y x) = t := ⟨_, rfl⟩
    have HT0 := Lib.hid ht0
    have HLs : Hid (t0 = true → L = [(x : Int)]) := Lib.hid (fun h => by rw [← hL]; exact Dag.base_is hg hx (Dag.tt_iff.1 (ht0.trans h)))
    clear hin hg hcc ha hb hL ht0
    go_enter Try.func5, Try.ntmps5
    go_wp2_with fail
    refine (bases_ok _ _ _ x y rfl rfl w es g HOk.out hx hy HG.out).mono ?_
    rintro e w1 ⟨v1, rfl, ho, hb⟩
    rw [HL.out] at ho
    have HO1 := Lib.hid (ho.sl len_eInt)
    have HW1 := Lib.hid hb
    clear ho hb
    go_wp2_with fail
    refine (gens_ok _ _ es g HOk.out (HG.out.ext HW1.out)).mono ?_
    rintro e w2 ⟨nv, rfl, ho, hb⟩
    have HO2 := Lib.hid ho
    have HLs2 := Lib.hid (HO1.out.ext hb)
    have HW2 := Lib.hid (below_then HW1.out hb)
    clear ho hb
    go_wp2_with fail
    refine (is_ok _ _ _ x y rfl rfl _ es g HOk.out hx hy (HG.out.ext HW2.out) t0 HT0.out).mono ?_
    rintro e w3 ⟨rfl, hb⟩
    have HO3 := Lib.hid (HO2.out.ext hb)
    have HL3 := Lib.hid (HLs2.out.ext hb)
    have HW3 := Lib.hid (below_then HW2.out hb)
    clear hb HO1 HLs2 HO2
    obtain ⟨gg, cap, hnv⟩ := own_len HO3.out (by rw [HNl.out]; omega)
    rw [HNl.out] at hnv
    subst hnv
    have hlv := HL3.out.run_len (P := Try.prog) Try.underlying23
    go_upto_region 6 with fail
    go_cut [72] (fun s wx => s = .bool false ∧ Hid (Below w3.heap.size w3 wx))
    case first =>
      cases t0 with
      | false =>
        go_wp2_with fail
        go_meet
        exact ⟨rfl, Lib.hid (Below.refl _ _)⟩
      | true =>
        have HE := Lib.hid (HLs.out rfl)
        go_wp2_with fail
        refine (same1_any v1 L x true (by rw [HE.out]; simp) w3 HL3.out).mono ?_
        rintro e w4 ⟨rfl, hb⟩
        have HB4 := Lib.hid hb
        clear hb
        go_wp2_with fail
        go_meet
        exact ⟨rfl, HB4⟩
    case rest =>
      obtain ⟨w4, rfl⟩ : ∃ w4 : World, w4 = wc := ⟨_, rfl⟩
      obtain ⟨rfl, HB4⟩ := hcut
      have HW4 := Lib.hid (below_then HW3.out HB4.out)
      have HO4 := Lib.hid (HO3.out.ext HB4.out)
      have HL4 := Lib.hid (HL3.out.ext HB4.out)
      obtain ⟨w4', rfl⟩ : ∃ w4' : World, w4' = w4 := ⟨_, rfl⟩
      clear HO3 HL3 HB4 HLs HT0
      go_wp2_with fail
      go_loopw [13] (fun i wr => ∃ (n : Nat), i = .int .i64 n ∧ n ≤ g.length ∧ Hid (Below w4'.heap.size w4' wr)) (fun i _ => g.length - (intOf i).toNat)
      case atStart => exact ⟨0, rfl, by omega, Lib.hid (Below.refl _ _)⟩
      case round =>
        obtain ⟨n, rfl, hn, HB⟩ := hrel
        by_cases hlt : n < g.length
        · obtain ⟨p, hp⟩ : ∃ t, Dag.tt (Dag.Anc (Dag.par g) x n) = t := ⟨_, rfl⟩
          obtain ⟨q, hq⟩ : ∃ t, Dag.tt (Dag.Anc (Dag.par g) y n) = t := ⟨_, rfl⟩
          have HP := Lib.hid hp
          have HQ := Lib.hid hq
          clear hp hq
          have HWr := Lib.hid (below_then HW4.out HB.out)
          go_wp2_with fail
          refine (is_ok _ _ _ n x rfl rfl _ es g HOk.out hlt hx (HG.out.ext HWr.out) p HP.out).mono ?_
          rintro e u1 ⟨rfl, hb⟩
          have HU1 := Lib.hid (below_then HB.out hb)
          clear hb HWr
          have HWr := Lib.hid (below_then HW4.out HU1.out)
          go_wp2_with fail
          refine (is_ok _ _ _ n y rfl rfl _ es g HOk.out hlt hy (HG.out.ext HWr.out) q HQ.out).mono ?_
          rintro e u2 ⟨rfl, hb⟩
          have HU2 := Lib.hid (below_then HU1.out hb)
          clear hb HWr
          obtain ⟨gn, HGn⟩ : ∃ gn, Hid (Hp.ge (Dag.gensL g) n = gn) := ⟨_, Lib.hid rfl⟩
          obtain ⟨gx, HGx⟩ : ∃ gx, Hid (Hp.ge (Dag.gensL g) x = gx) := ⟨_, Lib.hid rfl⟩
          have hgx : p = true → x ≠ n → gn < gx := fun h1 h2 => by
            have h3 := Dag.gen_anc HOk.out hx (Dag.tt_iff.1 (HP.out.trans h1))
            have e1 : Dag.gen g n = gn := HGn.out
            have e2 : Dag.gen g x = gx := HGx.out
            rw [e1, e2] at h3
            exact h3.resolve_left h2
          have HGg := Lib.hid hgx
          clear hgx
          have HOu := Lib.hid (HO4.out.ext HU2.out)
          obtain ⟨hg1, -, -, hcell⟩ := own_cells HOu.out
          obtain ⟨cn, -⟩ := hcell n (by rw [HNl.out]; exact hlt)
          obtain ⟨cx, -⟩ := hcell x (by rw [HNl.out]; exact hx)
          rw [HGn.out] at cn
          rw [HGx.out] at cx
          clear hcell
          go_upto_region 13 with fail
          go_cut [117] (fun s wx => s = .bool false ∧ Hid (Below w4'.heap.size w4' wx))
          case first =>
            cases p with
            | false =>
              go_wp2_with fail
              go_quiet (fail)
              go_wp2_with fail
              go_meet
              exact ⟨rfl, Lib.hid (below_drewN HU2.out _)⟩
            | true =>
              by_cases hnx : n = x
              · have d1 : ((n : Int) != x) = false := by simp [hnx]
                have d2 : (n != x) = false := by simp [hnx]
                clear hnx
                go_wp2_with fail
                go_quiet (fail)
                go_wp2_with fail
                go_meet
                exact ⟨rfl, Lib.hid (below_drewN HU2.out _)⟩
              · have d1 : ((n : Int) != x) = true := by simp; omega
                have d2 : (n != x) = true := by simp; omega
                have hlt2 : gn < gx := HGg.out rfl (fun e => hnx e.symm)
                have d3 : decide (gx ≤ gn) = false := decide_eq_false (by omega)
                clear hnx
                go_wp2_with fail
                go_quiet (fail)
                go_wp2_with fail
                go_meet
                exact ⟨rfl, Lib.hid (below_drewN HU2.out _)⟩
          case rest =>
            obtain ⟨u3, rfl⟩ : ∃ u3 : World, u3 = wc := ⟨_, rfl⟩
            obtain ⟨rfl, HU3⟩ := hcut
            clear HU2 HU1 HB HOu cn cx hg1 HGn HGx HGg
            go_wp2_with fail
            go_loopw [18, 19, 20] (fun uv ov i wr => ∃ (k : Nat) (un on : Bool), uv = .bool un ∧ ov = .bool on ∧ i = .int .i64 k ∧ k ≤ L.length ∧ Hid (un = true ↔ ∃ j, ∃ h : j < L.length, j < k ∧ Dag.Anc (Dag.par g) L[j].toNat n) ∧ Hid (on = true ↔ ∃ j, ∃ h : j < L.length, j < k ∧ L[j] = n) ∧ Hid (Below w4'.heap.size w4' wr)) (fun _ _ i _ => L.length - (intOf i).toNat)
            case atStart => exact ⟨0, false, false, rfl, rfl, rfl, by omega, Lib.hid (by simp), Lib.hid (by simp), HU3⟩
            case round =>
              obtain ⟨k, un, on, rfl, rfl, rfl, hk, HUn, HOn, HB⟩ := hrel
              by_cases hlk : k < L.length
              · obtain ⟨b2, o2, hb2, hix2, hc2⟩ := HL4.out.atB HB.out (P := Try.prog) Try.underlying23 cells3 some3 hlk
                obtain ⟨m, hmN, hm⟩ := HIn.out L[k] (List.getElem_mem hlk)
                have HMk := Lib.hid hm
                have hcl : ∀ u, Below w4'.heap.size w4' u → u.cell? ⟨b2, o2, none⟩ = some (.int .i64 m) := fun u hu => by
                  obtain ⟨b3, o3, hb3, hix3, hc3⟩ := HL4.out.atB hu (P := Try.prog) Try.underlying23 cells3 some3 hlk
                  have e0 : b3 = b2 ∧ o3 = o2 := by
                    have h3 := hix2 .i64 w
                    rw [hix3 .i64 w] at h3
                    simpa using h3
                  obtain ⟨rfl, rfl⟩ := e0
                  have e1 := hc3 0 (by omega)
                  simp only [eInt, List.getElem?_cons_zero, Nat.add_zero] at e1
                  rw [e1, hm]
                have HCl := Lib.hid hcl
                have e1 := hcl _ HB.out
                obtain ⟨t, ht⟩ : ∃ t, Dag.tt (Dag.Anc (Dag.par g) m n) = t := ⟨_, rfl⟩
                have HT := Lib.hid ht
                have HUn2 : Hid ((un || t) = true ↔ ∃ j, ∃ h : j < L.length, j < k + 1 ∧ Dag.Anc (Dag.par g) L[j].toNat n) := Lib.hid (by
                  rw [Bool.or_eq_true, HUn.out, ← ht, Dag.tt_iff]
                  constructor
                  · rintro (⟨j, h1, h2, h3⟩ | h1)
                    · exact ⟨j, h1, by omega, h3⟩
                    · exact ⟨k, hlk, by omega, by rw [hm]; simpa using h1⟩
                  · rintro ⟨j, h1, h2, h3⟩
                    by_cases e : j = k
                    · subst e; rw [hm] at h3; exact .inr (by simpa using h3)
                    · exact .inl ⟨j, h1, by omega, h3⟩)
                have HOn2 : Hid ((on || decide (m = n)) = true ↔ ∃ j, ∃ h : j < L.length, j < k + 1 ∧ L[j] = n) := Lib.hid (by
                  rw [Bool.or_eq_true, HOn.out, decide_eq_true_iff]
                  constructor
                  · rintro (⟨j, h1, h2, h3⟩ | h1)
                    · exact ⟨j, h1, by omega, h3⟩
                    · exact ⟨k, hlk, by omega, by rw [hm, h1]⟩
                  · rintro ⟨j, h1, h2, h3⟩
                    by_cases e : j = k
                    · subst e; rw [hm] at h3; exact .inr (by omega)
                    · exact .inl ⟨j, h1, by omega, h3⟩)
                have HAnti : Hid (m ≠ n → on = true → t = false) := Lib.hid (fun h1 h2 => by
                  obtain ⟨j, h3, _, h5⟩ := HOn.out.1 h2
                  rw [← ht, Dag.tt_no]
                  refine Dag.base_anti (a := x) (b := y) ?_ ?_ h1
                  · rw [HL.out, ← h5]; exact List.getElem_mem h3
                  · rw [HL.out, ← hm]; exact List.getElem_mem hlk)
                have HRe : Hid (m = n → t = true) := Lib.hid (fun h => by rw [← ht, h, Dag.tt_iff]; exact .refl _)
                have HWr := Lib.hid (below_then HW4.out HB.out)
                clear hm hcl ht hc2 HUn HOn
                go_wp2_with fail
                refine (is_ok _ _ _ n m rfl rfl _ es g HOk.out hlt hmN (HG.out.ext HWr.out) t HT.out).mono ?_
                rintro e u5 ⟨rfl, hb⟩
                have HB5 := Lib.hid (below_then HB.out hb)
                have e5 := HCl.out _ HB5.out
                clear hb e1
                by_cases hmn : m = n
                · have htt := HRe.out hmn
                  subst htt
                  have d1 : ((m : Int) != n) = false := by simp [hmn]
                  have d2 : (m != n) = false := by simp [hmn]
                  have d3 : ((m : Int) == n) = true := by simp [hmn]
                  have d4 : (m == n) = true := by simp [hmn]
                  have HOn3 : Hid (true = true ↔ ∃ j, ∃ h : j < L.length, j < k + 1 ∧ L[j] = n) := Lib.hid (by have := HOn2.out; simpa [hmn] using this)
                  have HUn3 : Hid (true = true ↔ ∃ j, ∃ h : j < L.length, j < k + 1 ∧ Dag.Anc (Dag.par g) L[j].toNat n) := Lib.hid (by have := HUn2.out; simpa using this)
                  clear hmn HUn2 HOn2
                  cases un <;> cases on
                  all_goals
                    go_wp2_with fail
                    go_roundw
                    case rel => exact ⟨k + 1, true, true, rfl, rfl, by go_num, by omega, Lib.hid (by simpa using HUn3.out), Lib.hid (by simpa using HOn3.out), HB5⟩
                    case measure => simp [intOf]; omega
                · have d1 : ((m : Int) != n) = true := by simp; omega
                  have d2 : (m != n) = true := by simp; omega
                  have d3 : ((m : Int) == n) = false := by simp; omega
                  have d4 : (m == n) = false := by simp; omega
                  have HOn3 : Hid (on = true ↔ ∃ j, ∃ h : j < L.length, j < k + 1 ∧ L[j] = n) := Lib.hid (by have := HOn2.out; simpa [hmn] using this)
                  have HAn := Lib.hid (HAnti.out hmn)
                  clear hmn HOn2
                  cases t with
                  | false =>
                    have HUn3 : Hid (un = true ↔ ∃ j, ∃ h : j < L.length, j < k + 1 ∧ Dag.Anc (Dag.par g) L[j].toNat n) := Lib.hid (by have := HUn2.out; simpa using this)
                    clear HUn2
                    cases un <;> cases on
                    all_goals
                      go_wp2_with fail
                      go_roundw
                      case rel => exact ⟨k + 1, _, _, rfl, rfl, by go_num, by omega, Lib.hid (by simpa using HUn3.out), Lib.hid (by simpa using HOn3.out), HB5⟩
                      case measure => simp [intOf]; omega
                  | true =>
                    have hof : on = false := by
                      cases on
                      · rfl
                      · have := HAn.out rfl; cases this
                    subst hof
                    have HUn3 : Hid (true = true ↔ ∃ j, ∃ h : j < L.length, j < k + 1 ∧ Dag.Anc (Dag.par g) L[j].toNat n) := Lib.hid (by have := HUn2.out; simpa using this)
                    clear HUn2
                    cases un
                    all_goals
                      go_wp2_with fail
                      go_roundw
                      case rel => exact ⟨k + 1, true, false, rfl, rfl, by go_num, by omega, Lib.hid (by simpa using HUn3.out), Lib.hid (by simpa using HOn3.out), HB5⟩
                      case measure => simp [intOf]; omega
              · have hune : un = (p && q) := by
                  have h1 := Dag.base_cover HOk.out (a := x) (b := y) (n := n) hx
                  rw [Bool.eq_iff_iff, HUn.out, Bool.and_eq_true, ← HP.out, ← HQ.out, Dag.tt_iff, Dag.tt_iff, ← h1, HL.out]
                  constructor
                  · rintro ⟨j, h2, _, h3⟩
                    obtain ⟨m, _, hm⟩ := HIn.out L[j] (List.getElem_mem h2)
                    exact ⟨m, by rw [← hm]; exact List.getElem_mem h2, by rw [hm] at h3; simpa using h3⟩
                  · rintro ⟨m, h2, h3⟩
                    obtain ⟨j, hj, h4⟩ := List.mem_iff_getElem.1 h2
                    exact ⟨j, hj, by omega, by rw [h4]; simpa using h3⟩
                subst hune
                clear HUn HOn HP HQ
                cases p <;> cases q
                all_goals
                  go_wp2_with fail
                  go_roundw
                  case rel => exact ⟨n + 1, by go_num, by omega, HB⟩
                  case measure => simp [intOf]; omega
        · go_wp2_with fail
          refine (works_any _).mono ?_
          rintro e u9 ⟨rfl, hb⟩
          have HU9 := Lib.hid (below_then (below_then HW4.out HB.out) hb)
          clear hb
          go_wp2_with fail
          go_ret
          exact ⟨rfl, HU9.out⟩
  · have H0 := Lib.hid hc
    have d1 : ((c : Int) != 0) = true := by simp; omega
    have d2 : (c != 0) = true := by simp; omega
    clear hcc hc
    go_enter Try.func5, Try.ntmps5
    go_wp2_with fail
    refine (bases_bad _ _ _ w es g c HC.out H0.out HG.out).mono ?_
    rintro e w1 ⟨rfl, hb⟩
    have HW1 := Lib.hid hb
    clear hb
    go_wp2_with fail
    refine (works_any _).mono ?_
    rintro e w2 ⟨rfl, hb⟩
    have HW2 := Lib.hid (below_then HW1.out hb)
    clear hb
    go_wp2_with fail
    go_ret
    exact ⟨rfl, HW2.out⟩
end Go.Proofs.Ytcpmnocknpalfaa
