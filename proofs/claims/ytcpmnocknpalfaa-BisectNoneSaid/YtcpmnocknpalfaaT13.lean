/-
  Layer 34: BisectNone. No condition besides what the arguments are.
-/
import Derived.Test.YtcpmnocknpalfaaO3
import Derived.Test.YtcpmnocknpalfaaT11
namespace Go.Proofs.Ytcpmnocknpalfaa
open Go.RowKit Go.Sl Go.B64 Go.Bis
set_option linter.unusedVariables false

theorem same_self {v1 v2 : Value} {l : List Int} {u : World} (h1 : Sl eInt 1 u v1 l) (h2 : Sl eInt 1 u v2 l) : Calls Try.prog 18 #[v1, v2] u fun e w' => e = .returned (.bool true) ∧ Below u.heap.size u w' := by
  refine (same_any v1 v2 l l u h1 h2).mono ?_
  rintro e w' ⟨rfl, n, rfl⟩
  exact ⟨by rw [decide_eq_true rfl], below_drewN (Below.refl _ _) n⟩
theorem bworst_eq {base sb ub N : Nat} {U : Nat → S} {f n : St} {w : World} (h : Se base sb ub N U f n w) (b : Nat) (hb : n.worst = b) : Calls Try.prog 43 #[.pointer (some ⟨sb, 0, none⟩)] w fun e w' => e = .returned (.int .i64 (b : Int)) ∧ w = w' := by
  subst hb; exact bworst_any h
theorem bans_eq {base sb ub N : Nat} {U : Nat → S} {f n : St} {w : World} (h : Se base sb ub N U f n w) (b : Nat) (hb : n.ans = b) : Calls Try.prog 56 #[.pointer (some ⟨sb, 0, none⟩)] w fun e w' => e = .returned (.int .i64 (b : Int)) ∧ w = w' := by
  subst hb; exact bans_any h
abbrev noneW (w : World) (gv lv : Value) (bad : Int) : World := ((w.alloc (.cells #[gv, .int .i64 bad, lv] 55)).alloc (.cells #[.slice none 0 0, .int .u64 0, .int .u64 0, .int .u64 0, .int .u64 0, .int .i64 0, .int .i64 0, .int .u64 0, .int .u64 0, .int .u64 0, .int .u64 0, .int .i64 0, .int .i64 0] 84)).alloc (.cells #[.pointer none, .pointer (some ⟨w.heap.size + 1, 0, none⟩)] 57)
theorem noneW_facts (w : World) (gv lv : Value) (bad : Int) : Below w.heap.size w (noneW w gv lv bad) ∧ w.heap.size < (noneW w gv lv bad).heap.size ∧ (noneW w gv lv bad).cell? ⟨w.heap.size, 0, none⟩ = some gv ∧ (noneW w gv lv bad).cell? ⟨w.heap.size, 1, none⟩ = some (.int .i64 bad) ∧ (noneW w gv lv bad).cell? ⟨w.heap.size, 2, none⟩ = some lv ∧
    ∀ k, k < 2 → ∃ p, (noneW w gv lv bad).cell? ⟨w.heap.size + 1 + 1, k, none⟩ = some p ∧ Dd (noneW w gv lv bad) p := by
  have h0 := heap3_0 w (.cells #[gv, .int .i64 bad, lv] 55) (.cells #[.slice none 0 0, .int .u64 0, .int .u64 0, .int .u64 0, .int .u64 0, .int .i64 0, .int .i64 0, .int .u64 0, .int .u64 0, .int .u64 0, .int .u64 0, .int .i64 0, .int .i64 0] 84) (.cells #[.pointer none, .pointer (some ⟨w.heap.size + 1, 0, none⟩)] 57)
  have h1 := heap3_1 w (.cells #[gv, .int .i64 bad, lv] 55) (.cells #[.slice none 0 0, .int .u64 0, .int .u64 0, .int .u64 0, .int .u64 0, .int .i64 0, .int .i64 0, .int .u64 0, .int .u64 0, .int .u64 0, .int .u64 0, .int .i64 0, .int .i64 0] 84) (.cells #[.pointer none, .pointer (some ⟨w.heap.size + 1, 0, none⟩)] 57)
  have h2 := heap3_2 w (.cells #[gv, .int .i64 bad, lv] 55) (.cells #[.slice none 0 0, .int .u64 0, .int .u64 0, .int .u64 0, .int .u64 0, .int .i64 0, .int .i64 0, .int .u64 0, .int .u64 0, .int .u64 0, .int .u64 0, .int .i64 0, .int .i64 0] 84) (.cells #[.pointer none, .pointer (some ⟨w.heap.size + 1, 0, none⟩)] 57)
  refine ⟨(((Below.refl w.heap.size w).alloc (Nat.le_refl _) _).alloc (by simp) _).alloc (by simp; omega) _, by simp [noneW]; omega, by simp [World.cell?, h0], by simp [World.cell?, h0], by simp [World.cell?, h0], fun k hk => ?_⟩
  rcases (by omega : k = 0 ∨ k = 1) with rfl | rfl
  · exact ⟨_, by simp only [World.cell?, show w.heap.size + 1 + 1 = w.heap.size + 2 from rfl, h2]; rfl, .inl rfl⟩
  · exact ⟨_, by simp only [World.cell?, show w.heap.size + 1 + 1 = w.heap.size + 2 from rfl, h2]; rfl, .inr ⟨_, rfl, (Array.getElem?_eq_some_iff.1 h1).1, by simp only [World.cell?, h1]; rfl⟩⟩

set_option maxRecDepth 100000 in
set_option maxHeartbeats 2000000 in
theorem bisectNone_any (gv lv sv : Value) (es : List (SlV × Int)) (g : List Nd) (bad : Int) (l : List Int) (says : List (Int × Int × Bool)) (x : Int) (w : World) (hA : Asked w gv lv es g l) (hS : Sl eSay 3 w sv says) :
    Calls Try.prog 10 #[.agg #[gv, .int .i64 bad, lv], sv, .int .i64 x] w fun e w' => e = .returned (.bool true) ∧ Below w.heap.size w w' := by
  obtain ⟨hb3, hlt3, hc0, hc1, hc2, hall⟩ := noneW_facts w gv lv bad
  obtain ⟨w3, hw3⟩ : ∃ u, Hid (u = noneW w gv lv bad) := ⟨_, Lib.hid rfl⟩
  rw [← hw3.out] at hb3 hlt3 hc0 hc1 hc2 hall
  have HWW : Hid (((w.alloc (.cells #[gv, .int .i64 bad, lv] 55)).alloc (.cells #[.slice none 0 0, .int .u64 0, .int .u64 0, .int .u64 0, .int .u64 0, .int .i64 0, .int .i64 0, .int .u64 0, .int .u64 0, .int .u64 0, .int .u64 0, .int .i64 0, .int .i64 0] 84)).alloc (.cells #[.pointer none, .pointer (some ⟨w.heap.size + 1, 0, none⟩)] 57) = w3) := Lib.hid hw3.out.symm
  have HB3 := Lib.hid hb3
  have HLT := Lib.hid hlt3
  have HC0 := Lib.hid hc0
  have HC1 := Lib.hid hc1
  have HC2 := Lib.hid hc2
  have HAll := Lib.hid hall
  have HA := Lib.hid (⟨hA.gr.ext hb3, hA.sl.ext hb3⟩ : Asked w3 gv lv es g l)
  have HS := Lib.hid hS
  have hlen := hA.sl.run_len (P := Try.prog) Try.underlying23
  have hlen2 := hS.run_len (P := Try.prog) Try.underlying56
  have hmax := hA.sl.len_le
  have hmax2 := hS.len_le
  clear hA hS hb3 hlt3 hc0 hc1 hc2 hall
  go_enter Try.func10, Try.ntmps10
  go_wp2_with fail
  rw [HWW.out]
  go_loopw [9] (fun i wr => ∃ (k : Nat), i = .int .i64 k ∧ k ≤ 2 ∧ Hid (wr = w3)) (fun i _ => 2 - (intOf i).toNat)
  case atStart => exact ⟨0, rfl, by omega, Lib.hid rfl⟩
  case round =>
    obtain ⟨k, rfl, hk, HW⟩ := hrel
    obtain rfl := HW.out
    by_cases hlt : k < 2
    · obtain ⟨p, hp, hd⟩ := HAll.out k hlt
      have HD := Lib.hid hd
      clear hd hmax hmax2 hlen hlen2
      go_wp2_with fail
      refine (next_dd HD.out).mono ?_
      rintro e u ⟨rfl, rfl⟩
      go_wp2_with fail
      refine (good_dd HD.out x).mono ?_
      rintro e u ⟨rfl, rfl⟩
      go_wp2_with fail
      refine (bad_dd HD.out x).mono ?_
      rintro e u ⟨rfl, rfl⟩
      go_wp2_with fail
      refine (skip_dd HD.out x).mono ?_
      rintro e u ⟨rfl, rfl⟩
      go_wp2_with fail
      refine (reset_dd HD.out).mono ?_
      rintro e u ⟨rfl, rfl⟩
      go_wp2_with fail
      refine (worst_dd HD.out).mono ?_
      rintro e u ⟨rfl, rfl⟩
      go_wp2_with fail
      refine (weight_dd HD.out x).mono ?_
      rintro e u ⟨rfl, rfl⟩
      go_wp2_with fail
      refine (ans_dd HD.out).mono ?_
      rintro e u ⟨rfl, rfl⟩
      go_wp2_with fail
      refine (cand_dd HD.out).mono ?_
      rintro e u ⟨rfl, rfl⟩
      go_wp2_with fail
      refine (skipped_dd HD.out).mono ?_
      rintro e u ⟨rfl, rfl⟩
      go_wp2_with fail
      go_roundw
      case rel => exact ⟨k + 1, by go_num, by omega, by first | exact Lib.hid rfl | exact Lib.hid trivial⟩
      case measure => simp [intOf]; omega
    · obtain rfl : k = 2 := by omega
      obtain ⟨wa, rfl⟩ : ∃ u : World, u = wr := ⟨_, rfl⟩
      have c2 := HC2.out
      clear hw3 HAll HW hk hlt HWW
      by_cases hbig : 100 < l.length
      · have d0 : decide ((100 : Int) < l.length) = true := decide_eq_true (by omega)
        have HW := Lib.hid (bworks_any wa)
        go_wp2_with fail
        refine HW.out.mono ?_
        rintro e w2 ⟨rfl, hb⟩
        have HB2 := Lib.hid (bthen HB3.out hb)
        clear hb
        go_wp2_with fail
        go_ret
        exact ⟨rfl, HB2.out⟩
      · have d0 : decide ((100 : Int) < l.length) = false := decide_eq_false (by omega)
        have c0 := HC0.out
        have c1 := HC1.out
        have HN := Lib.hid (bnew_any gv lv es g bad l (by omega) wa HA.out.gr HA.out.sl)
        have HWk := fun u => Lib.hid (bworks_any u)
        by_cases he : newE g bad l = 0
        · obtain ⟨hg, hok, bn, rfl, hbn⟩ := newE_zero he
          have HG := Lib.hid hg
          have HO := Lib.hid hok
          have HZ := Lib.hid he
          have hgl := hg.1
          clear hg hok he hbn
          go_wp2_with fail
          refine HN.out.mono ?_
          rintro e w2 ⟨-, h0⟩
          obtain ⟨sb, ub, rfl, hse, hb2⟩ := h0 HZ.out
          have HSe := Lib.hid hse
          have HB2 := Lib.hid hb2
          have HCa := Lib.hid (bcand_any hse)
          clear hse hb2 h0 HN hlen hmax hbig d0 c0 c1 c2
          go_wp2_with fail
          refine HCa.out.mono ?_
          rintro e w4 ⟨v4, rfl, ho4, hb4⟩
          have HO4 := Lib.hid (ho4.mono HB2.out.size)
          have HSe4 := Lib.hid (HSe.out.ext hb4)
          have HB4 := Lib.hid (bthen HB2.out hb4)
          obtain ⟨n0, hn0⟩ : ∃ n0, Hid (newS g (bn : Int) l = n0) := ⟨_, Lib.hid rfl⟩
          have Hn0 : Hid (n0.skip = 0 ∧ n0.worst = bn ∧ n0.ans = 0) := Lib.hid (by rw [← hn0.out]; exact ⟨rfl, by show ((bn : Int)).toNat = bn; omega, rfl⟩)
          rw [hn0.out] at HO4 HSe4 HO
          clear ho4 hb4 HCa HSe hn0
          go_wp2_with fail
          go_loopw [16] (fun i wr => ∃ (k : Nat) (st : St), i = .int .i64 k ∧ k ≤ says.length ∧ k ≤ 40 ∧ st.ans ≤ k ∧ Hid (Se wa.heap.size sb ub g.length (anc g) n0 st wr) ∧ Hid (Ok g st) ∧ Hid (Below wa.heap.size wa wr) ∧ Hid (Own eInt 1 wa.heap.size 3 wr v4 (Dag.filtN (mem n0.cand) 128))) (fun i _ => says.length - (intOf i).toNat)
          case atStart => exact ⟨0, _, rfl, by omega, by omega, by rw [Hn0.out.2.2]; exact Nat.le_refl _, HSe4, HO, HB4, HO4⟩
          case round =>
            obtain ⟨wo, rfl⟩ : ∃ u : World, u = wr := ⟨_, rfl⟩
            obtain ⟨k, st, rfl, hk, hk4, han, HT, HOk, HW, HVo⟩ := hrel
            by_cases hc : k < says.length ∧ k < 40
            · obtain ⟨hk1, hk2⟩ := hc
              have d40 : decide ((k : Int) < 40) = true := decide_eq_true (by omega)
              obtain ⟨b2, o2, hb2, hix2, hcell⟩ := (HS.out.ext HB3.out).at (P := Try.prog) Try.underlying56 cells63 some63 hk1
              obtain ⟨⟨xa, ya, ta⟩, hx⟩ : ∃ z, says[k] = z := ⟨_, rfl⟩
              have e0 := hcell 0 (by omega)
              have e1 := hcell 1 (by omega)
              have e2 := hcell 2 (by omega)
              rw [hx] at e0 e1 e2
              simp only [eSay, List.getElem?_cons_zero, List.getElem?_cons_succ, Nat.add_zero] at e0 e1 e2
              have HK : Hid (∀ u, Below wa.heap.size wa u → u.cell? ⟨b2, o2, none⟩ = some (.int .i64 xa) ∧ u.cell? ⟨b2, o2 + 1, none⟩ = some (.int .i64 ya) ∧ u.cell? ⟨b2, o2 + 2, none⟩ = some (.bool ta)) := Lib.hid (fun u hu =>
                ⟨(hu.cell (p := ⟨b2, o2, none⟩) hb2).trans e0, (hu.cell (p := ⟨b2, o2 + 1, none⟩) hb2).trans e1, (hu.cell (p := ⟨b2, o2 + 2, none⟩) hb2).trans e2⟩)
              have HSay := fun u (hu : Below wo.heap.size wo u) => Lib.hid (bsay_any (HT.out.ext hu) hgl (fun x hx => HOk.out.lt HG.out hx) HOk.out.wlt (by omega) (whatN xa) (whatN_lt xa) ya)
              have HOn := Lib.hid (HOk.out.sayS HG.out (whatN xa) ya)
              have HAn := Lib.hid (sayS_ans (U := anc g) (N := g.length) (st := st) (what := whatN xa) (n := ya))
              have b0 : Below wo.heap.size wo wo.drew := (Below.refl _ _).drew
              have HW0 : Hid (Below wa.heap.size wa wo.drew) := Lib.hid (bthen HW.out b0)
              have HR := Lib.hid (fun u u' (hu : Below wo.heap.size wo u) (hg : u.grownBy u' (some sb)) => ((bthen HW.out hu).trans (below_grown hg (Nat.le_trans HW.out.size hu.size) (fun k e => by cases e; exact HT.out.hb)) : Below wa.heap.size wa u'))
              have HRv := Lib.hid (fun u u' (hu : Below wo.heap.size wo u) (hg : u.grownBy u' (some sb)) => (((HVo.out.ext hu).kept hg (.inr ((HVo.out.ext hu).ne_elem (HT.out.ext hu).blk (by decide)))) : Own eInt 1 wa.heap.size 3 u' v4 (Dag.filtN (mem n0.cand) 128)))
              clear hcell hx hb2 e0 e1 e2
              go_wp2_with fail
              go_region_held3 (fun u => u.cell? ⟨b2, o2, none⟩ = some (.int .i64 xa) ∧ u.cell? ⟨b2, o2 + 1, none⟩ = some (.int .i64 ya) ∧ u.cell? ⟨b2, o2 + 2, none⟩ = some (.bool ta))
                (first
                  | exact HK.out _ HU8.out
                  | exact HK.out _ HU7.out
                  | exact HK.out _ HW0.out)
                (first
                  | (go_at_call 39; have _g := HU7.out; (refine (HSay _ HU6.out).out.mono ?_); rintro e u8 ⟨rfl, hg8, hs8⟩; have HS8 := Lib.hid hs8; have HU8 : Hid (Below wa.heap.size wa u8) := Lib.hid (HR.out _ _ HU6.out hg8); have HV8 := Lib.hid (HRv.out _ _ HU6.out hg8); clear hg8 hs8)
                  | (go_at_call 40; (refine (bwhat_any xa ya ta _).mono ?_); rintro e u7 ⟨rfl, hb7⟩; have HU6 : Hid (Below wo.heap.size wo u7) := Lib.hid (bthen b0 hb7); have HU7 : Hid (Below wa.heap.size wa u7) := Lib.hid (bthen HW.out HU6.out); clear hb7))
              have ha5 := HAn.out
              clear HSay HAn HR HRv HW0 b0 HK
              go_wp2_with fail
              go_roundw
              case rel => exact ⟨k + 1, _, by go_num, by omega, by omega, by omega, HS8, HOn, HU8, HV8⟩
              case measure => simp [intOf]; omega
            · have HC : Hid (∀ u, Below wa.heap.size wa u → u.cell? ⟨w.heap.size, 1, none⟩ = some (.int .i64 (bn : Int))) := Lib.hid (fun u hu => (hu.cell (p := ⟨w.heap.size, 1, none⟩) HLT.out).trans HC1.out)
              have HSk : Hid ((Dag.filtN (mem n0.skip) 128).length = 0) := Lib.hid (by rw [Hn0.out.1]; decide +kernel)
              have b0 : Below wo.heap.size wo wo.drew := (Below.refl _ _).drew
              have HW0 : Hid (Below wa.heap.size wa wo.drew) := Lib.hid (bthen HW.out b0)
              have HRv : Hid (∀ u', wo.drew.grownBy u' (some sb) → Own eInt 1 wa.heap.size 3 u' v4 (Dag.filtN (mem n0.cand) 128)) := Lib.hid (fun u' hg => (HVo.out.ext b0).kept hg (.inr ((HVo.out.ext b0).ne_elem (HT.out.ext b0).blk (by decide))))
              have HR : Hid (∀ u', wo.drew.grownBy u' (some sb) → Below wa.heap.size wa u') := Lib.hid (fun u' hg => HW0.out.trans (below_grown hg HW0.out.size (fun k e => by cases e; exact HT.out.hb)))
              have HQ := Lib.hid (bthen HB3.out HW0.out)
              have hd : (¬ k < says.length) ∨ (k < says.length ∧ decide ((k : Int) < 40) = false) := by
                by_cases h1 : k < says.length
                · exact .inr ⟨h1, decide_eq_false (by omega)⟩
                · exact .inl h1
              clear hc hk hk4 han
              rcases hd with h1 | ⟨h1, d40⟩
              all_goals
                go_wp2_with fail
                go_region_held3 (fun u => u.cell? ⟨w.heap.size, 1, none⟩ = some (.int .i64 (bn : Int)))
                  (first
                    | exact HC.out _ HU7.out
                    | exact HC.out _ HU5.out
                    | exact HC.out _ HU4.out
                    | exact HC.out _ HU2.out
                    | exact HC.out _ HU1.out
                    | exact HC.out _ HW0.out)
                  (first
                    | (go_at_call 36; have _g := HU5.out; (refine (HWk _).out.mono ?_); rintro e u7 ⟨rfl, hb7⟩; have HU7 : Hid (Below wa.heap.size wa u7) := Lib.hid (bthen HU5.out hb7); clear hb7)
                    | (go_at_call 56; (refine (bans_eq HE5.out 0 Hn0.out.2.2).mono ?_); rintro e u6 ⟨rfl, rfl⟩)
                    | (go_at_call 43; (refine (bworst_eq HE5.out bn Hn0.out.2.1).mono ?_); rintro e u6 ⟨rfl, rfl⟩)
                    | (go_at_call 42; (refine (bskip_any HE4.out).mono ?_); rintro e u5 ⟨v5, rfl, ho5, hb5⟩; have HE5 := Lib.hid (HE4.out.ext hb5); have HU5 : Hid (Below wa.heap.size wa u5) := Lib.hid (bthen HU4.out hb5); have hl5 := (ho5.sl len_eInt).run_len (P := Try.prog) Try.underlying23; rw [HSk.out] at hl5; clear ho5 hb5)
                    | (go_at_call 18; (refine (same_self HV2.out HF2.out).mono ?_); rintro e u4 ⟨rfl, hb4⟩; have HE4 := Lib.hid (HE2.out.ext hb4); have HU4 : Hid (Below wa.heap.size wa u4) := Lib.hid (bthen HU2.out hb4); clear hb4)
                    | (go_at_call 41; (refine (bcand_any HE1.out).mono ?_); rintro e u2 ⟨v2, rfl, ho2, hb2⟩; have HE2 := Lib.hid (HE1.out.ext hb2); have HU2 : Hid (Below wa.heap.size wa u2) := Lib.hid (bthen HU1.out hb2); have HV2 := Lib.hid (ho2.sl len_eInt); have HF2 := Lib.hid ((HV1.out.ext hb2).sl len_eInt); clear ho2 hb2)
                    | (go_at_call 48; (refine (breset_any (HT.out.ext b0)).mono ?_); rintro e u1 ⟨rfl, hg1, hs1⟩; have HE1 := Lib.hid hs1; have HU1 : Hid (Below wa.heap.size wa u1) := Lib.hid (HR.out _ hg1); have HV1 := Lib.hid (HRv.out _ hg1); clear hg1 hs1))
                go_wp2_with fail
                go_ret
                exact ⟨rfl, bthen HB3.out HU7.out⟩
        · have HZ : Hid (newE g bad l = 12 ∨ newE g bad l = 2 ∨ newE g bad l = 50) := Lib.hid (by
            rcases newE_cases g bad l with h | h | h | h
            · exact .inl h
            · exact .inr (.inl h)
            · exact .inr (.inr h)
            · exact absurd h he)
          have Hne := Lib.hid he
          clear he
          go_wp2_with fail
          refine HN.out.mono ?_
          rintro e w2 ⟨h0, -⟩
          obtain ⟨rfl, hb2⟩ := h0 Hne.out
          have HB2 := Lib.hid (bthen HB3.out hb2)
          obtain ⟨e0, he0⟩ : ∃ e0, Hid (newE g bad l = e0) := ⟨_, Lib.hid rfl⟩
          rw [he0.out] at HZ ⊢
          clear h0 hb2 HN Hne he0
          rcases HZ.out with rfl | rfl | rfl
          all_goals
            go_wp2_with fail
            refine (HWk _).out.mono ?_
            rintro e w5 ⟨rfl, hb⟩
            have HB5 := Lib.hid (bthen HB2.out hb)
            clear hb
            go_wp2_with fail
            go_ret
            exact ⟨rfl, HB5.out⟩
end Go.Proofs.Ytcpmnocknpalfaa
