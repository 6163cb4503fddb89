/-
  Layer 28: a question as text, the document's walk (Print). Conditions: what lies where, and that it is not too long.
  Layer 28: is a question too large for the statements? The law's walk. No condition besides what lies where.
  Layer 28: ParsePrints, the law's walk. No condition besides what lies where and MaxLen.
-/
import Derived.Test.YtolahnnkdpbdfaaGN
import Derived.Test.YtolahnnkdpbdfaaGM
import Derived.Deep.DeepCutAuto
import Derived.Deep.QuietTactic
import Derived.Test.YtolahnnkdpbdfaaGI
namespace Go.Proofs.Ytolahnnkdpbdfaa
open Go.Proofs Go.RowKit Go.Shelf Go.Sl Go.Prs
set_option maxRecDepth 100000 in
set_option maxHeartbeats 8000000 in
theorem dprint_ok (iv : Value) (q : Qy) (w : World) (h : IS w iv q.its) (hl : Lg q) (hok : okQy q = true) :
    Calls Try.prog 29 #[qv iv q] w fun e w' => e = .returned (.tuple #[.string (bstr (Prs.print q).1), .int .i64 ((Prs.print q).2 : Nat)]) ∧ Below w.heap.size w w' := by
  have HC := Lib.hid (fun u (hu : Below w.heap.size w u) => dcheck_any iv q u (h.ext hu) (lg_sms hl))
  obtain ⟨rs, hsl, hra⟩ := h
  have HSl := Lib.hid hsl
  have Hlen := Lib.hid (show rs.length = q.its.length from hra.len)
  have hm1 := hsl.len_le
  have HBl := Lib.hid (pts_bl hl)
  have HTa : Hid (∀ (k : Nat) (hk : k < rs.length) (hk2 : k < q.its.length) (u : World), Below w.heap.size w u → Calls Try.prog 54 #[.agg #[.string (bstr rs[k].ab), sv rs[k].av]] u fun e w' => e = .returned (.string (bstr (rvT q.its[k].a))) ∧ Below u.heap.size u w') := Lib.hid (by
    intro k hk hk2 u hu
    have hr := hra.get k hk hk2
    have hm := lg_tx (hl.2 _ (List.getElem_mem hk2)).1
    have hq : okIt q.its[k] = true := by
      rw [okQy_eq, Bool.and_eq_true] at hok
      exact List.all_eq_true.1 hok.1 _ (List.getElem_mem hk2)
    have ha : okRv q.its[k].a = true := by
      unfold okIt at hq; rw [Bool.and_eq_true, Bool.and_eq_true] at hq; exact hq.1.2
    have := dText_any q.its[k].a (sv rs[k].av) u (hr.av.ext hu) (okRv_st ha) hm.1 hm.2
    rw [hr.ab]
    exact this)
  have HTb : Hid (∀ (k : Nat) (hk : k < rs.length) (hk2 : k < q.its.length) (u : World), Below w.heap.size w u → rs[k].k ≠ 1 → Calls Try.prog 54 #[.agg #[.string (bstr rs[k].bb), sv rs[k].bv]] u fun e w' => e = .returned (.string (bstr (rvT q.its[k].b))) ∧ Below u.heap.size u w') := Lib.hid (by
    intro k hk hk2 u hu hne
    have hr := hra.get k hk hk2
    have hm := lg_tx (hl.2 _ (List.getElem_mem hk2)).2
    have hq : okIt q.its[k] = true := by
      rw [okQy_eq, Bool.and_eq_true] at hok
      exact List.all_eq_true.1 hok.1 _ (List.getElem_mem hk2)
    have hb : okRv q.its[k].b = true := by
      rw [hr.k] at hne
      unfold okIt at hq; rw [Bool.and_eq_true, if_neg hne] at hq; exact hq.2
    have := dText_any q.its[k].b (sv rs[k].bv) u (hr.bv.ext hu) (okRv_st hb) hm.1 hm.2
    rw [hr.bb]
    exact this)
  have HKn : Hid (∀ (k : Nat) (hk : k < rs.length) (hk2 : k < q.its.length), (rs[k].k = 1 ∨ rs[k].k = 2 ∨ rs[k].k = 3) ∧ rs[k].k = q.its[k].k ∧ rs[k].nt = q.its[k].nt ∧ (rvT q.its[k].a).length ≤ 30000 ∧ (rvT q.its[k].b).length ≤ 30000) := Lib.hid (by
    intro k hk hk2
    have hr := hra.get k hk hk2
    have hm := hl.2 _ (List.getElem_mem hk2)
    have hq : okIt q.its[k] = true := by
      rw [okQy_eq, Bool.and_eq_true] at hok
      exact List.all_eq_true.1 hok.1 _ (List.getElem_mem hk2)
    have hkk : q.its[k].k = 1 ∨ q.its[k].k = 2 ∨ q.its[k].k = 3 := by
      unfold okIt at hq; rw [Bool.and_eq_true, Bool.and_eq_true, decide_eq_true_iff] at hq; omega
    rw [hr.k]
    exact ⟨hkk, rfl, hr.nt, rvT_len hm.1, rvT_len hm.2⟩)
  obtain ⟨ao, cap, rfl, -⟩ := hsl.shp
  have hz : ckN q = 0 := by unfold ckN; rw [if_pos hok]
  rw [hz] at HC
  unfold qv at HC ⊢
  have HA := Lib.hid ((Below.refl w.heap.size w).alloc (Nat.le_refl _) (.cells #[.slice ao rs.length cap, .int .i64 q.mx, .int .i64 q.sk, .int .i64 q.od, .bool q.fi, .bool q.rv] 52))
  have HK := Lib.hid (heap_alloc_new w (.cells #[.slice ao rs.length cap, .int .i64 q.mx, .int .i64 q.sk, .int .i64 q.od, .bool q.fi, .bool q.rv] 52))
  have hsz : w.heap.size < (w.alloc (.cells #[.slice ao rs.length cap, .int .i64 q.mx, .int .i64 q.sk, .int .i64 q.od, .bool q.fi, .bool q.rv] 52)).heap.size := by simp
  clear hz hra hsl
  go_enter Try.func29, Try.ntmps29
  go_wp2_with fail
  generalize w.alloc (.cells #[.slice ao rs.length cap, .int .i64 q.mx, .int .i64 q.sk, .int .i64 q.od, .bool q.fi, .bool q.rv] 52) = W at HA HK hsz ⊢
  have HKu := Lib.hid (fun u (hu : Below W.heap.size W u) => (hu.block _ hsz).trans HK.out)
  refine (HC.out _ HA.out).mono ?_
  rintro e w1 ⟨rfl, hb⟩
  have HB1 := Lib.hid hb
  clear hb HK hsz HC
  generalize (Value.agg #[.slice ao rs.length cap, .int .i64 q.mx, .int .i64 q.sk, .int .i64 q.od, .bool q.fi, .bool q.rv]) = qa
  obtain ⟨_, k0, k1, k2, k3, k4, k5⟩ := six_cells (HKu.out _ HB1.out)
  go_upto_if 16 with fail
  go_cut [5] (fun s wx => ∃ A : List UInt8, s = .string (bstr A) ∧ A.length ≤ 10 ∧ Hid (A = bl (add (q.od == 1) bTopo [])) ∧ Hid (Below W.heap.size W wx))
  case first =>
    cases hbo : (q.od == 1)
    · go_wp2_with fail
      go_meet
      exact ⟨[], rfl, by simp, Lib.hid (by rw [bl_add, hbo, show bl [] = [] from rfl]; simp), HB1⟩
    · go_wp2_with fail
      go_meet
      exact ⟨[] ++ 32 :: bTopo, by show Value.string (bstr [] ++ bstr (32 :: bTopo)) = _; rw [bstr_append], by simp [bTopo]; try omega, Lib.hid (by rw [bl_add, hbo, show bl [] = [] from rfl]; simp), HB1⟩
  case rest =>
    clear k0 k1 k2 k3 k4 k5 HB1
    obtain ⟨A1, rfl, hA1, HA1, HB1'⟩ := hcut
    obtain ⟨_, k0, k1, k2, k3, k4, k5⟩ := six_cells (HKu.out _ HB1'.out)
    go_upto_if 21 with fail
    go_cut [5] (fun s wx => ∃ A : List UInt8, s = .string (bstr A) ∧ A.length ≤ 20 ∧ Hid (A = bl (add (q.od == 2) bTime (add (q.od == 1) bTopo []))) ∧ Hid (Below W.heap.size W wx))
    case first =>
      cases hbo : (q.od == 2)
      · go_wp2_with fail
        go_meet
        exact ⟨A1, rfl, by omega, Lib.hid (by rw [bl_add, hbo, ← HA1.out]; simp), HB1'⟩
      · go_wp2_with fail
        go_meet
        exact ⟨A1 ++ 32 :: bTime, by show Value.string (bstr A1 ++ bstr (32 :: bTime)) = _; rw [bstr_append], by simp [bTime]; try omega, Lib.hid (by rw [bl_add, hbo, ← HA1.out]; simp), HB1'⟩
    case rest =>
      clear k0 k1 k2 k3 k4 k5
      obtain ⟨A2, rfl, hA2, HA2, HB2⟩ := hcut
      obtain ⟨_, k0, k1, k2, k3, k4, k5⟩ := six_cells (HKu.out _ HB2.out)
      go_upto_if 26 with fail
      go_cut [5] (fun s wx => ∃ A : List UInt8, s = .string (bstr A) ∧ A.length ≤ 40 ∧ Hid (A = bl (add (decide (0 ≤ q.mx)) (bMax ++ dg (max q.mx 0)) (add (q.od == 2) bTime (add (q.od == 1) bTopo [])))) ∧ Hid (Below W.heap.size W wx))
      case first =>
        by_cases hbo : 0 ≤ q.mx
        · have hd : decide (0 ≤ q.mx) = true := decide_eq_true hbo
          obtain ⟨D, hD⟩ : ∃ D, Hid (dg q.mx = D) := ⟨_, Lib.hid rfl⟩
          have HDm : Hid (∀ u, Calls Try.prog 53 #[.int .i64 q.mx] u fun e w' => e = .returned (.string (bstr D)) ∧ Below u.heap.size u w') := Lib.hid (fun u => by
            have h9 : q.mx ≤ 9999 := by
              rw [okQy_eq, Bool.and_eq_true] at hok
              have := of_decide_eq_true hok.2
              omega
            have := digits53 (q.mx).toNat (by omega) u
            rw [show (((q.mx).toNat : Nat) : Int) = q.mx by omega] at this
            rw [← hD.out]; exact this)
          have hDl : D.length ≤ 4 := by rw [← hD.out]; exact dgN_len _
          have HZ := Lib.hid (show bl (add (decide (0 ≤ q.mx)) (bMax ++ dg (max q.mx 0)) (add (q.od == 2) bTime (add (q.od == 1) bTopo []))) = A2 ++ (32 :: (bMax ++ D)) by rw [bl_add, HA2.out, decide_eq_true hbo, if_pos rfl, max0 hbo, hD.out])
          clear hbo
          go_wp2_with fail
          all_goals first
            | (exfalso; have := of_decide_eq_true hd; omega)
            | (refine (HDm.out _).mono ?_
               rintro e wd ⟨rfl, hbd⟩
               have HBd := Lib.hid (HB2.out.trans (hbd.mono HB2.out.size))
               clear hbd
               go_wp2_with fail
               go_meet
               exact ⟨A2 ++ (32 :: (bMax ++ D)), by show Value.string (bstr A2 ++ bstr (32 :: bMax) ++ bstr D) = _; rw [bstr_append, bstr_append, List.append_assoc]; rfl, by simp [bMax]; omega, Lib.hid HZ.out.symm, HBd⟩)
        · have hd : decide (0 ≤ q.mx) = false := decide_eq_false hbo
          have HZ := Lib.hid (show A2 = bl (add (decide (0 ≤ q.mx)) (bMax ++ dg (max q.mx 0)) (add (q.od == 2) bTime (add (q.od == 1) bTopo []))) by rw [bl_add, decide_eq_false hbo, HA2.out]; simp)
          clear hbo
          go_wp2_with fail
          all_goals first
            | (exfalso; have := of_decide_eq_false hd; omega)
            | (go_meet
               exact ⟨A2, rfl, by omega, HZ, HB2⟩)
      case rest =>
        clear k0 k1 k2 k3 k4 k5
        obtain ⟨A3, rfl, hA3, HA3, HB3⟩ := hcut
        obtain ⟨_, k0, k1, k2, k3, k4, k5⟩ := six_cells (HKu.out _ HB3.out)
        go_upto_if 35 with fail
        go_cut [5] (fun s wx => ∃ A : List UInt8, s = .string (bstr A) ∧ A.length ≤ 60 ∧ Hid (A = bl (add (decide (0 < q.sk)) (bSkip ++ dg q.sk) (add (decide (0 ≤ q.mx)) (bMax ++ dg (max q.mx 0)) (add (q.od == 2) bTime (add (q.od == 1) bTopo []))))) ∧ Hid (Below W.heap.size W wx))
        case first =>
          by_cases hbo : 0 < q.sk
          · have hd : decide (0 < q.sk) = true := decide_eq_true hbo
            obtain ⟨D, hD⟩ : ∃ D, Hid (dg q.sk = D) := ⟨_, Lib.hid rfl⟩
            have HDm : Hid (∀ u, Calls Try.prog 53 #[.int .i64 q.sk] u fun e w' => e = .returned (.string (bstr D)) ∧ Below u.heap.size u w') := Lib.hid (fun u => by
              have h9 : q.sk ≤ 9999 := by
                rw [okQy_eq, Bool.and_eq_true] at hok
                have := of_decide_eq_true hok.2
                omega
              have := digits53 (q.sk).toNat (by omega) u
              rw [show (((q.sk).toNat : Nat) : Int) = q.sk by omega] at this
              rw [← hD.out]; exact this)
            have hDl : D.length ≤ 4 := by rw [← hD.out]; exact dgN_len _
            have HZ := Lib.hid (show bl (add (decide (0 < q.sk)) (bSkip ++ dg q.sk) (add (decide (0 ≤ q.mx)) (bMax ++ dg (max q.mx 0)) (add (q.od == 2) bTime (add (q.od == 1) bTopo [])))) = A3 ++ (32 :: (bSkip ++ D)) by rw [bl_add, HA3.out, decide_eq_true hbo, if_pos rfl, hD.out])
            clear hbo
            go_wp2_with fail
            all_goals first
              | (exfalso; have := of_decide_eq_true hd; omega)
              | (refine (HDm.out _).mono ?_
                 rintro e wd ⟨rfl, hbd⟩
                 have HBd := Lib.hid (HB3.out.trans (hbd.mono HB3.out.size))
                 clear hbd
                 go_wp2_with fail
                 go_meet
                 exact ⟨A3 ++ (32 :: (bSkip ++ D)), by show Value.string (bstr A3 ++ bstr (32 :: bSkip) ++ bstr D) = _; rw [bstr_append, bstr_append, List.append_assoc]; rfl, by simp [bSkip]; omega, Lib.hid HZ.out.symm, HBd⟩)
          · have hd : decide (0 < q.sk) = false := decide_eq_false hbo
            have HZ := Lib.hid (show A3 = bl (add (decide (0 < q.sk)) (bSkip ++ dg q.sk) (add (decide (0 ≤ q.mx)) (bMax ++ dg (max q.mx 0)) (add (q.od == 2) bTime (add (q.od == 1) bTopo [])))) by rw [bl_add, decide_eq_false hbo, HA3.out]; simp)
            clear hbo
            go_wp2_with fail
            all_goals first
              | (exfalso; have := of_decide_eq_false hd; omega)
              | (go_meet
                 exact ⟨A3, rfl, by omega, HZ, HB3⟩)
        case rest =>
          clear k0 k1 k2 k3 k4 k5
          obtain ⟨A4, rfl, hA4, HA4, HB4⟩ := hcut
          obtain ⟨_, k0, k1, k2, k3, k4, k5⟩ := six_cells (HKu.out _ HB4.out)
          go_upto_if 43 with fail
          go_cut [5] (fun s wx => ∃ A : List UInt8, s = .string (bstr A) ∧ A.length ≤ 80 ∧ Hid (A = bl (add q.fi bFirst (add (decide (0 < q.sk)) (bSkip ++ dg q.sk) (add (decide (0 ≤ q.mx)) (bMax ++ dg (max q.mx 0)) (add (q.od == 2) bTime (add (q.od == 1) bTopo [])))))) ∧ Hid (Below W.heap.size W wx))
          case first =>
            cases hbo : q.fi
            · go_wp2_with fail
              go_meet
              exact ⟨A4, rfl, by omega, Lib.hid (by rw [bl_add, hbo, ← HA4.out]; simp), HB4⟩
            · go_wp2_with fail
              go_meet
              exact ⟨A4 ++ 32 :: bFirst, by show Value.string (bstr A4 ++ bstr (32 :: bFirst)) = _; rw [bstr_append], by simp [bFirst]; try omega, Lib.hid (by rw [bl_add, hbo, ← HA4.out]; simp), HB4⟩
          case rest =>
            clear k0 k1 k2 k3 k4 k5
            obtain ⟨A5, rfl, hA5, HA5, HB5⟩ := hcut
            obtain ⟨_, k0, k1, k2, k3, k4, k5⟩ := six_cells (HKu.out _ HB5.out)
            go_upto_if 47 with fail
            go_cut [5] (fun s wx => ∃ A : List UInt8, s = .string (bstr A) ∧ A.length ≤ 100 ∧ Hid (A = bl (add q.rv bRev (add q.fi bFirst (add (decide (0 < q.sk)) (bSkip ++ dg q.sk) (add (decide (0 ≤ q.mx)) (bMax ++ dg (max q.mx 0)) (add (q.od == 2) bTime (add (q.od == 1) bTopo []))))))) ∧ Hid (Below W.heap.size W wx))
            case first =>
              cases hbo : q.rv
              · go_wp2_with fail
                go_meet
                exact ⟨A5, rfl, by omega, Lib.hid (by rw [bl_add, hbo, ← HA5.out]; simp), HB5⟩
              · go_wp2_with fail
                go_meet
                exact ⟨A5 ++ 32 :: bRev, by show Value.string (bstr A5 ++ bstr (32 :: bRev)) = _; rw [bstr_append], by simp [bRev]; try omega, Lib.hid (by rw [bl_add, hbo, ← HA5.out]; simp), HB5⟩
            case rest =>
              clear k0 k1 k2 k3 k4 k5
              obtain ⟨A6, rfl, hA6, HA6, HB6⟩ := hcut
              obtain ⟨_, k0, k1, k2, k3, k4, k5⟩ := six_cells (HKu.out _ HB6.out)
              have HF := Lib.hid (show A6 = bl (pts q 0) by rw [HA6.out]; unfold pts; simp [fl])
              clear HA1 HA2 HA3 HA4 HA5 HA6 hA1 hA2 hA3 hA4 hA5 HB1' HB2 HB3 HB4 HB5 k0 k1 k2 k3 k4 k5
              go_wp2_with fail
              go_loopw [5, 6] (fun s i wr => ∃ (k : Nat) (A : List UInt8), k ≤ rs.length ∧ i = .int .i64 k ∧ s = .string (bstr A) ∧ Hid (A = bl (pts q k)) ∧ Hid (Below W.heap.size W wr)) (fun _ i _ => rs.length - (intOf i).toNat)
              case atStart => exact ⟨0, A6, by omega, rfl, rfl, HF, HB6⟩
              case round =>
                clear HF HB6 hA6
                obtain ⟨k, A, hk, rfl, rfl, HAk, HB⟩ := hrel
                obtain ⟨_, k0, k1, k2, k3, k4, k5⟩ := six_cells (HKu.out _ HB.out)
                have HBw := Lib.hid (HA.out.trans (HB.out.mono HA.out.size))
                have hAl : A.length ≤ 10000000 := by rw [HAk.out]; exact Nat.le_trans (bl_pts_le q (by rw [← Hlen.out]; exact hk)) HBl.out
                by_cases hlt : k < rs.length
                · have hlt2 : k < q.its.length := by rw [← Hlen.out]; exact hlt
                  obtain ⟨b5, o5, h5, hix, hc⟩ := (HSl.out.ext HBw.out).at (P := Try.prog) Try.underlying50 cells98 some98 hlt
                  have c0 := hc 0 (by omega)
                  have c1 := hc 1 (by omega)
                  have c2 := hc 2 (by omega)
                  have c3 := hc 3 (by omega)
                  have c4 := hc 4 (by omega)
                  have c5 := hc 5 (by omega)
                  simp only [eRi, List.getElem?_cons_zero, List.getElem?_cons_succ, Nat.add_zero] at c0 c1 c2 c3 c4 c5
                  have hN := Lib.hid (HTa.out k hlt hlt2)
                  have hM := Lib.hid (HTb.out k hlt hlt2)
                  have hI := Lib.hid (HKn.out k hlt hlt2)
                  have hd : decide ((k : Int) < (rs.length : Int)) = true := decide_eq_true (by omega)
                  obtain ⟨⟨xk, xab, ⟨X1, X2, X3⟩, xbb, ⟨Y1, Y2, Y3⟩, xnt⟩, hx⟩ : ∃ x, Hid (rs[k] = x) := ⟨_, Lib.hid rfl⟩
                  rw [hx.out] at c0 c1 c2 c3 c4 c5 hN hM hI
                  unfold sv at c2 c4 hN hM
                  simp only at c0 c1 c2 c3 c4 c5 hN hM hI
                  have HSt := Lib.hid (pts_step hlt2)
                  obtain ⟨y, hy⟩ : ∃ y, q.its[k] = y := ⟨_, rfl⟩
                  rw [hy] at hN hM hI HSt
                  obtain ⟨ta, hta⟩ : ∃ t, Hid (rvT y.a = t) := ⟨_, Lib.hid rfl⟩
                  obtain ⟨tb, htb⟩ : ∃ t, Hid (rvT y.b = t) := ⟨_, Lib.hid rfl⟩
                  rw [hta.out] at hN hI
                  rw [htb.out] at hM hI
                  have HIt : Hid (itP y = if xk = 1 then (if xnt = true then [94 :: ta] else [ta]) else if xnt = true then [bNot, ta ++ ((if xk = 3 then [46, 46, 46] else [46, 46]) ++ tb), bNot] else [ta ++ ((if xk = 3 then [46, 46, 46] else [46, 46]) ++ tb)]) := Lib.hid (by unfold itP itS; rw [hta.out, htb.out, hI.out.2.1, hI.out.2.2.1])
                  have l1 := hI.out.2.2.2.1
                  have l2 := hI.out.2.2.2.2
                  have hk3 := hI.out.1
                  have HBo := Lib.hid (fun o => HB.out.alloc HB.out.size o)
                  have HBwo := Lib.hid (fun o => HBw.out.alloc HBw.out.size o)
                  have HX0 := Lib.hid (heap_alloc_new wr (.cells #[.int .i64 xk, .string (bstr xab), .slice X1 X2 X3, .string (bstr xbb), .slice Y1 Y2 Y3, .bool xnt] 98))
                  clear hc hy
                  go_wp2_with fail
                  refine (hN.out _ (HBwo.out _)).mono ?_
                  rintro e w2 ⟨rfl, hb⟩
                  have HBn := Lib.hid ((HBo.out _).trans (hb.mono (HBo.out _).size))
                  have HBnw := Lib.hid (HA.out.trans (HBn.out.mono HA.out.size))
                  have HX2 := Lib.hid ((hb.block _ (by simp)).trans HX0.out)
                  obtain ⟨-, s0, s1, s2, s3, s4, s5⟩ := six_cells HX2.out
                  clear hb
                  rcases hk3 with rfl | rfl | rfl
                  · cases xnt
                    · have hZ := Lib.hid (show bl (itP y) = 32 :: ta by rw [HIt.out]; simp [bl])
                      go_wp2_with fail
                      refine ⟨⟨k + 1, A ++ bl (itP y), by omega, rfl, ?_, Lib.hid (by rw [HSt.out, bl_app, HAk.out]), HBn⟩, by simp only [intOf]; omega⟩
                      show Value.string (bstr A ++ bstr [32] ++ bstr ta) = _
                      rw [hZ.out]
                      simp [bstr_append]
                    · have hZ := Lib.hid (show bl (itP y) = 32 :: 94 :: ta by rw [HIt.out]; simp [bl])
                      go_wp2_with fail
                      refine ⟨⟨k + 1, A ++ bl (itP y), by omega, rfl, ?_, Lib.hid (by rw [HSt.out, bl_app, HAk.out]), HBn⟩, by simp only [intOf]; omega⟩
                      show Value.string (bstr A ++ bstr [32] ++ (bstr [94] ++ bstr ta)) = _
                      rw [hZ.out]
                      simp [bstr_append]
                  · cases xnt
                    · have hZ := Lib.hid (show bl (itP y) = 32 :: (ta ++ ([46, 46] ++ tb)) by rw [HIt.out]; simp [bl])
                      go_wp2_with fail
                      refine (hM.out _ HBnw.out (by decide)).mono ?_
                      rintro e w3 ⟨rfl, hb⟩
                      have HB3 := Lib.hid (HBn.out.trans (hb.mono HBn.out.size))
                      have hX3 := (hb.block _ (Array.getElem?_eq_some_iff.1 HX2.out).1).trans HX2.out
                      clear s0 s1 s2 s3 s4 s5
                      obtain ⟨-, s0, s1, s2, s3, s4, s5⟩ := six_cells hX3
                      clear hb hX3
                      go_wp2_with fail
                      refine ⟨⟨k + 1, A ++ bl (itP y), by omega, rfl, ?_, Lib.hid (by rw [HSt.out, bl_app, HAk.out]), HB3⟩, by simp only [intOf]; omega⟩
                      show Value.string (bstr A ++ bstr [32] ++ (bstr ta ++ bstr [46, 46] ++ bstr tb)) = _
                      rw [hZ.out]
                      simp [bstr_append]
                    · have hZ := Lib.hid (show bl (itP y) = (32 :: bNot) ++ (32 :: (ta ++ ([46, 46] ++ tb))) ++ (32 :: bNot) by rw [HIt.out]; simp [bl])
                      go_wp2_with fail
                      refine (hM.out _ HBnw.out (by decide)).mono ?_
                      rintro e w3 ⟨rfl, hb⟩
                      have HB3 := Lib.hid (HBn.out.trans (hb.mono HBn.out.size))
                      have hX3 := (hb.block _ (Array.getElem?_eq_some_iff.1 HX2.out).1).trans HX2.out
                      clear s0 s1 s2 s3 s4 s5
                      obtain ⟨-, s0, s1, s2, s3, s4, s5⟩ := six_cells hX3
                      clear hb hX3
                      go_wp2_with fail
                      refine ⟨⟨k + 1, A ++ bl (itP y), by omega, rfl, ?_, Lib.hid (by rw [HSt.out, bl_app, HAk.out]), HB3⟩, by simp only [intOf]; omega⟩
                      show Value.string (bstr A ++ bstr [32] ++ (bstr [45, 45, 110, 111, 116, 32] ++ (bstr ta ++ bstr [46, 46] ++ bstr tb) ++ bstr [32, 45, 45, 110, 111, 116])) = _
                      rw [hZ.out]
                      simp [bstr_append, bNot]
                  · cases xnt
                    · have hZ := Lib.hid (show bl (itP y) = 32 :: (ta ++ ([46, 46, 46] ++ tb)) by rw [HIt.out]; simp [bl])
                      go_wp2_with fail
                      refine (hM.out _ HBnw.out (by decide)).mono ?_
                      rintro e w3 ⟨rfl, hb⟩
                      have HB3 := Lib.hid (HBn.out.trans (hb.mono HBn.out.size))
                      have hX3 := (hb.block _ (Array.getElem?_eq_some_iff.1 HX2.out).1).trans HX2.out
                      clear s0 s1 s2 s3 s4 s5
                      obtain ⟨-, s0, s1, s2, s3, s4, s5⟩ := six_cells hX3
                      clear hb hX3
                      go_wp2_with fail
                      refine ⟨⟨k + 1, A ++ bl (itP y), by omega, rfl, ?_, Lib.hid (by rw [HSt.out, bl_app, HAk.out]), HB3⟩, by simp only [intOf]; omega⟩
                      show Value.string (bstr A ++ bstr [32] ++ (bstr ta ++ bstr [46, 46, 46] ++ bstr tb)) = _
                      rw [hZ.out]
                      simp [bstr_append]
                    · have hZ := Lib.hid (show bl (itP y) = (32 :: bNot) ++ (32 :: (ta ++ ([46, 46, 46] ++ tb))) ++ (32 :: bNot) by rw [HIt.out]; simp [bl])
                      go_wp2_with fail
                      refine (hM.out _ HBnw.out (by decide)).mono ?_
                      rintro e w3 ⟨rfl, hb⟩
                      have HB3 := Lib.hid (HBn.out.trans (hb.mono HBn.out.size))
                      have hX3 := (hb.block _ (Array.getElem?_eq_some_iff.1 HX2.out).1).trans HX2.out
                      clear s0 s1 s2 s3 s4 s5
                      obtain ⟨-, s0, s1, s2, s3, s4, s5⟩ := six_cells hX3
                      clear hb hX3
                      go_wp2_with fail
                      refine ⟨⟨k + 1, A ++ bl (itP y), by omega, rfl, ?_, Lib.hid (by rw [HSt.out, bl_app, HAk.out]), HB3⟩, by simp only [intOf]; omega⟩
                      show Value.string (bstr A ++ bstr [32] ++ (bstr [45, 45, 110, 111, 116, 32] ++ (bstr ta ++ bstr [46, 46, 46] ++ bstr tb) ++ bstr [32, 45, 45, 110, 111, 116])) = _
                      rw [hZ.out]
                      simp [bstr_append, bNot]
                · have hd : decide ((k : Int) < (rs.length : Int)) = false := decide_eq_false (by omega)
                  obtain rfl : k = rs.length := by omega
                  have HY := Lib.hid (show qyT q = A by rw [qyT_bl hok, HAk.out, Hlen.out])
                  have Hok := Lib.hid hok
                  by_cases hA0 : A = []
                  · have HPr : Hid (Prs.print q = ([], 0)) := Lib.hid (by unfold Prs.print; rw [if_pos Hok.out, HY.out, hA0]; rfl)
                    subst hA0
                    go_wp2_with fail
                    refine bodyPost_ret (v := .tuple #[.string ⟨#[]⟩, .int .i64 0]) ?_ rfl ?_
                    · simp [results, Try.results29, go_sem]
                    · exact ⟨ret_pr HPr.out rfl rfl, HBw.out⟩
                  · have he : (A == []) = false := by simpa using hA0
                    by_cases hlong : 201 < A.length
                    · have hl : decide ((201 : Int) < (A.length : Int)) = true := decide_eq_true (by omega)
                      have HPr : Hid (Prs.print q = ([], 3)) := Lib.hid (by unfold Prs.print; rw [if_pos Hok.out, HY.out, if_pos hlong])
                      clear hlong hA0
                      go_wp2_with fail
                      refine bodyPost_ret (v := .tuple #[.string ⟨#[]⟩, .int .i64 3]) ?_ rfl ?_
                      · simp [results, Try.results29, go_sem]
                      · exact ⟨ret_pr HPr.out rfl rfl, HBw.out⟩
                    · have hl : decide ((201 : Int) < (A.length : Int)) = false := decide_eq_false (by omega)
                      have HPr : Hid (Prs.print q = (A.tail, 0)) := Lib.hid (by unfold Prs.print; rw [if_pos Hok.out, HY.out, if_neg hlong])
                      have hp : 1 ≤ A.length := List.length_pos_iff.2 hA0
                      clear hlong hA0
                      go_wp2_with fail
                      refine bodyPost_ret (v := .tuple #[.string (bstr A.tail), .int .i64 0]) ?_ rfl ?_
                      · simp [results, Try.results29, go_sem]
                      · exact ⟨ret_pr HPr.out rfl rfl, HBw.out⟩
set_option maxRecDepth 100000 in
set_option maxHeartbeats 8000000 in
theorem dprint_no (iv : Value) (q : Qy) (w : World) (h : IS w iv q.its) (hs : Sms q.its) (hok : okQy q = false) :
    Calls Try.prog 29 #[qv iv q] w fun e w' => e = .returned (.tuple #[.string (bstr (Prs.print q).1), .int .i64 ((Prs.print q).2 : Nat)]) ∧ Below w.heap.size w w' := by
  have HC := Lib.hid (fun u (hu : Below w.heap.size w u) => dcheck_any iv q u (h.ext hu) hs)
  obtain ⟨ao, an, cap, rfl⟩ := h.isSlice
  have HS := Lib.hid ((Below.refl w.heap.size w).alloc (Nat.le_refl _) (.cells #[.slice ao an cap, .int .i64 q.mx, .int .i64 q.sk, .int .i64 q.od, .bool q.fi, .bool q.rv] 52))
  have HPr : Hid (Prs.print q = ([], 2)) := Lib.hid (by unfold Prs.print; rw [if_neg (by simp [hok])])
  have hz : ckN q = 2 := by unfold ckN; rw [if_neg (by simp [hok])]
  rw [hz] at HC
  unfold qv at HC ⊢
  clear hz h hs hok
  go_enter Try.func29, Try.ntmps29
  go_wp2_with fail
  refine (HC.out _ HS.out).mono ?_
  rintro e w1 ⟨rfl, hb⟩
  have HB1 := Lib.hid (HS.out.trans (hb.mono HS.out.size))
  clear hb
  go_wp2_with fail
  refine bodyPost_ret (v := .tuple #[.string ⟨#[]⟩, .int .i64 2]) ?_ rfl ?_
  · simp [results, Try.results29, go_sem]
  · exact ⟨ret_pr HPr.out rfl rfl, HB1.out⟩
theorem dprint_any (iv : Value) (q : Qy) (w : World) (h : IS w iv q.its) (hl : Lg q) :
    Calls Try.prog 29 #[qv iv q] w fun e w' => e = .returned (.tuple #[.string (bstr (Prs.print q).1), .int .i64 ((Prs.print q).2 : Nat)]) ∧ Below w.heap.size w w' := by
  cases hok : okQy q
  · exact dprint_no iv q w h (lg_sms hl) hok
  · exact dprint_ok iv q w h hl hok
end Go.Proofs.Ytolahnnkdpbdfaa

namespace Go.Prs
def bigS (s : St) : Bool := decide (300 < s.w.length)
def bigX (x : It) : Bool := decide (60 < x.a.st.length ∨ 60 < x.b.st.length ∨ 300 < x.a.b.length ∨ 300 < x.b.b.length) || (x.a.st.any bigS || x.b.st.any bigS)
def bigQ (q : Qy) : Bool := decide (60 < q.its.length) || q.its.any bigX
theorem small_lg {q : Qy} (h : bigQ q = false) : Lg q := by
  unfold bigQ at h
  rw [Bool.or_eq_false_iff, decide_eq_false_iff_not] at h
  refine ⟨by omega, fun x hx => ?_⟩
  have h1 := List.any_eq_false.1 h.2 x hx
  have h1 : bigX x = false := by simpa using h1
  unfold bigX at h1
  rw [Bool.or_eq_false_iff, Bool.or_eq_false_iff, decide_eq_false_iff_not] at h1
  obtain ⟨h2, h3, h4⟩ := h1
  refine ⟨⟨by omega, by omega, fun s hs => ?_⟩, ⟨by omega, by omega, fun s hs => ?_⟩⟩
  · have := List.any_eq_false.1 h3 s hs
    unfold bigS at this
    rw [decide_eq_true_iff] at this; omega
  · have := List.any_eq_false.1 h4 s hs
    unfold bigS at this
    rw [decide_eq_true_iff] at this; omega
end Go.Prs
namespace Go.Proofs.Ytolahnnkdpbdfaa
open Go.Proofs Go.RowKit Go.Shelf Go.Sl Go.Prs
set_option maxRecDepth 100000 in
set_option maxHeartbeats 8000000 in
theorem large_any (iv : Value) (q : Qy) (w : World) (h : IS w iv q.its) :
    Calls Try.prog 27 #[qv iv q] w fun e w' => e = .returned (.bool (bigQ q)) ∧ Below w.heap.size w w' := by
  obtain ⟨rs, hsl, hra⟩ := h
  have HSl := Lib.hid hsl
  have hlen : rs.length = q.its.length := hra.len
  have Hlen := Lib.hid hlen
  have hm1 := hsl.len_le
  obtain ⟨ao, cap, rfl, -⟩ := hsl.shp
  unfold qv
  have HA := Lib.hid ((Below.refl w.heap.size w).alloc (Nat.le_refl _) (.cells #[.slice ao rs.length cap, .int .i64 q.mx, .int .i64 q.sk, .int .i64 q.od, .bool q.fi, .bool q.rv] 47))
  have HK := Lib.hid (heap_alloc_new w (.cells #[.slice ao rs.length cap, .int .i64 q.mx, .int .i64 q.sk, .int .i64 q.od, .bool q.fi, .bool q.rv] 47))
  have hsz : w.heap.size < (w.alloc (.cells #[.slice ao rs.length cap, .int .i64 q.mx, .int .i64 q.sk, .int .i64 q.od, .bool q.fi, .bool q.rv] 47)).heap.size := by simp
  have HR := Lib.hid hra
  clear hra hsl
  by_cases hbig : 60 < rs.length
  · have hd : decide ((60 : Int) < (rs.length : Int)) = true := decide_eq_true (by omega)
    have HZ := Lib.hid (show bigQ q = true by unfold bigQ; rw [decide_eq_true (by omega)]; rfl)
    clear hlen
    go_enter Try.func27, Try.ntmps27
    go_wp2_with fail
    go_ret
    exact ⟨ret_bool HZ.out.symm, HA.out⟩
  · have hd : decide ((60 : Int) < (rs.length : Int)) = false := decide_eq_false (by omega)
    have HZ0 := Lib.hid (show bigQ q = q.its.any bigX by unfold bigQ; rw [decide_eq_false (by omega)]; rfl)
    clear hlen
    go_enter Try.func27, Try.ntmps27
    go_wp2_with fail
    generalize w.alloc (.cells #[.slice ao rs.length cap, .int .i64 q.mx, .int .i64 q.sk, .int .i64 q.od, .bool q.fi, .bool q.rv] 47) = W at HA HK hsz ⊢
    have HKu := Lib.hid (fun u (hu : Below W.heap.size W u) => (hu.block _ hsz).trans HK.out)
    clear hsz HK hd
    go_loopw [3] (fun i wr => ∃ k : Nat, k ≤ rs.length ∧ i = .int .i64 k ∧ Hid ((q.its.take k).any bigX = false) ∧ Hid (Below W.heap.size W wr)) (fun i _ => rs.length - (intOf i).toNat)
    case atStart => exact ⟨0, by omega, rfl, Lib.hid rfl, Lib.hid (Below.refl _ _)⟩
    case round =>
      obtain ⟨k, hk, rfl, HQ, HB⟩ := hrel
      obtain ⟨_, k0, k1, k2, k3, k4, k5⟩ := six_cells (HKu.out _ HB.out)
      have HBw := Lib.hid (HA.out.trans (HB.out.mono HA.out.size))
      by_cases hlt : k < rs.length
      · have hlt2 : k < q.its.length := by rw [← Hlen.out]; exact hlt
        obtain ⟨b5, o5, h5, hix, hc⟩ := (HSl.out.ext HBw.out).at (P := Try.prog) Try.underlying45 cells83 some83 hlt
        have c0 := hc 0 (by omega)
        have c1 := hc 1 (by omega)
        have c2 := hc 2 (by omega)
        have c3 := hc 3 (by omega)
        have c4 := hc 4 (by omega)
        have c5 := hc 5 (by omega)
        simp only [eRi, List.getElem?_cons_zero, List.getElem?_cons_succ, Nat.add_zero] at c0 c1 c2 c3 c4 c5
        have hI := Lib.hid (HR.out.get k hlt hlt2)
        have hd : decide ((k : Int) < (rs.length : Int)) = true := decide_eq_true (by omega)
        obtain ⟨⟨xk, xab, ⟨X1, X2, X3⟩, xbb, ⟨Y1, Y2, Y3⟩, xnt⟩, hx⟩ : ∃ x, Hid (rs[k] = x) := ⟨_, Lib.hid rfl⟩
        rw [hx.out] at c0 c1 c2 c3 c4 c5 hI
        have HYes : Hid (bigX q.its[k] = true → bigQ q = true) := Lib.hid (fun h => by
          rw [HZ0.out]; exact List.any_eq_true.2 ⟨_, List.getElem_mem hlt2, h⟩)
        have HNo : Hid (bigX q.its[k] = false → (q.its.take (k + 1)).any bigX = false) := Lib.hid (fun h => by
          rw [List.take_succ_eq_append_getElem hlt2, List.any_append, HQ.out]; simp [h])
        obtain ⟨y, hy⟩ : ∃ y, q.its[k] = y := ⟨_, rfl⟩
        rw [hy] at hI HYes HNo
        have HVa := Lib.hid (hI.out.av)
        have HVb := Lib.hid (hI.out.bv)
        have hab : xab.length = y.a.b.length := by rw [← hI.out.ab]
        have hbb : xbb.length = y.b.b.length := by rw [← hI.out.bb]
        obtain ⟨_, _, he, -⟩ := hI.out.av.shp
        unfold sv at he c2 c4 HVa HVb
        simp only at he c0 c1 c2 c3 c4 c5 HVa HVb
        obtain rfl : X2 = y.a.st.length := by injection he
        clear he
        obtain ⟨_, _, he, -⟩ := hI.out.bv.shp
        unfold sv at he
        simp only at he
        obtain rfl : Y2 = y.b.st.length := by injection he
        clear he hc hy
        have HBwo := Lib.hid (fun o => HBw.out.alloc HBw.out.size o)
        have HBo := Lib.hid (fun o => HB.out.alloc HB.out.size o)
        go_wp2_with fail
        all_goals first
          | (go_ret
             refine ⟨ret_bool (HYes.out ?_).symm, HBwo.out _⟩
             unfold bigX
             rw [decide_eq_true (by omega)]; rfl)
          | skip
        have Hs := Lib.hid (show ¬ (60 < y.a.st.length ∨ 60 < y.b.st.length ∨ 300 < y.a.b.length ∨ 300 < y.b.b.length) by omega)
        have HX0 := heap_alloc_new wr (.cells #[.int .i64 xk, .string (bstr xab), .slice X1 y.a.st.length X3, .string (bstr xbb), .slice Y1 y.b.st.length Y3, .bool xnt] 83)
        have hszr : wr.heap.size < (wr.alloc (.cells #[.int .i64 xk, .string (bstr xab), .slice X1 y.a.st.length X3, .string (bstr xbb), .slice Y1 y.b.st.length Y3, .bool xnt] 83)).heap.size := by simp
        have hW := HBwo.out (.cells #[.int .i64 xk, .string (bstr xab), .slice X1 y.a.st.length X3, .string (bstr xbb), .slice Y1 y.b.st.length Y3, .bool xnt] 83)
        have hWW := HBo.out (.cells #[.int .i64 xk, .string (bstr xab), .slice X1 y.a.st.length X3, .string (bstr xbb), .slice Y1 y.b.st.length Y3, .bool xnt] 83)
        generalize wr.alloc (.cells #[.int .i64 xk, .string (bstr xab), .slice X1 y.a.st.length X3, .string (bstr xbb), .slice Y1 y.b.st.length Y3, .bool xnt] 83) = Wr at HX0 hszr hW hWW ⊢
        have HXu := Lib.hid (fun u (hu : Below Wr.heap.size Wr u) => (hu.block _ hszr).trans HX0)
        have HW := Lib.hid hW
        have HWW := Lib.hid hWW
        obtain ⟨-, s0, s1, s2, s3, s4, s5⟩ := six_cells HX0
        clear HX0 hszr hW hWW c0 c1 c2 c3 c4 c5 k0 k1 k2 k3 k4 k5 hd hix h5
        have hma := HVa.out.len_le
        have hmb := HVb.out.len_le
        go_loopw [5] (fun i wx => ∃ j : Nat, j ≤ y.a.st.length ∧ i = .int .i64 j ∧ Hid ((y.a.st.take j).any bigS = false) ∧ Hid (Below Wr.heap.size Wr wx)) (fun i _ => y.a.st.length - (intOf i).toNat)
        case atStart => exact ⟨0, by omega, rfl, Lib.hid rfl, Lib.hid (Below.refl _ _)⟩
        case round =>
          clear s0 s1 s2 s3 s4 s5
          obtain ⟨j, hj, rfl, HQj, HJ⟩ := hrel
          obtain ⟨-, s0, s1, s2, s3, s4, s5⟩ := six_cells (HXu.out _ HJ.out)
          have HJw := Lib.hid (HW.out.trans (HJ.out.mono HW.out.size))
          by_cases hjt : j < y.a.st.length
          · obtain ⟨b6, o6, h6, hix6, hc6⟩ := (HVa.out.ext HJw.out).at (P := Try.prog) Try.underlying79 cells103' (by kernel_rfl) hjt
            have d2 := hc6 2 (by omega)
            have HYj : Hid (bigS y.a.st[j] = true → bigX y = true) := Lib.hid (fun h => by
              unfold bigX
              rw [show y.a.st.any bigS = true from List.any_eq_true.2 ⟨_, List.getElem_mem hjt, h⟩]; simp)
            have HNj : Hid (bigS y.a.st[j] = false → (y.a.st.take (j + 1)).any bigS = false) := Lib.hid (fun h => by
              rw [List.take_succ_eq_append_getElem hjt, List.any_append, HQj.out]; simp [h])
            obtain ⟨⟨jk, jn, jw⟩, hz⟩ : ∃ z, Hid (y.a.st[j] = z) := ⟨_, Lib.hid rfl⟩
            rw [hz.out] at d2 HYj HNj
            simp only [eSt, List.getElem?_cons_zero, List.getElem?_cons_succ] at d2
            have hdj : decide ((j : Int) < (y.a.st.length : Int)) = true := decide_eq_true (by omega)
            clear hc6
            by_cases hw : 300 < jw.length
            · have hdw : decide ((300 : Int) < (jw.length : Int)) = true := decide_eq_true (by omega)
              have HZ := Lib.hid (HYes.out (HYj.out (decide_eq_true hw)))
              clear hw
              go_wp2_with fail
              go_ret
              exact ⟨ret_bool HZ.out.symm, HJw.out⟩
            · have hdw : decide ((300 : Int) < (jw.length : Int)) = false := decide_eq_false (by omega)
              have HZ := Lib.hid (HNj.out (decide_eq_false hw))
              clear hw
              go_wp2_with fail
              go_roundw
              case rel => exact ⟨j + 1, by omega, by go_num, HZ, HJ⟩
              case measure => simp [intOf]; omega
          · have hdj : decide ((j : Int) < (y.a.st.length : Int)) = false := decide_eq_false (by omega)
            obtain rfl : j = y.a.st.length := by omega
            have HQa := Lib.hid (show y.a.st.any bigS = false by rw [← List.take_length (l := y.a.st)]; exact HQj.out)
            clear hjt hj HQj
            go_wp2_with fail
            clear hdj
            go_loopw [6] (fun i wx => ∃ j : Nat, j ≤ y.b.st.length ∧ i = .int .i64 j ∧ Hid ((y.b.st.take j).any bigS = false) ∧ Hid (Below Wr.heap.size Wr wx)) (fun i _ => y.b.st.length - (intOf i).toNat)
            case atStart => exact ⟨0, by omega, rfl, Lib.hid rfl, HJ⟩
            case round =>
              clear s0 s1 s2 s3 s4 s5
              obtain ⟨j, hj, rfl, HQj, HJ2⟩ := hrel
              obtain ⟨-, s0, s1, s2, s3, s4, s5⟩ := six_cells (HXu.out _ HJ2.out)
              have HJw := Lib.hid (HW.out.trans (HJ2.out.mono HW.out.size))
              by_cases hjt : j < y.b.st.length
              · obtain ⟨b6, o6, h6, hix6, hc6⟩ := (HVb.out.ext HJw.out).at (P := Try.prog) Try.underlying79 cells103' (by kernel_rfl) hjt
                have d2 := hc6 2 (by omega)
                have HYj : Hid (bigS y.b.st[j] = true → bigX y = true) := Lib.hid (fun h => by
                  unfold bigX
                  rw [show y.b.st.any bigS = true from List.any_eq_true.2 ⟨_, List.getElem_mem hjt, h⟩]; simp)
                have HNj : Hid (bigS y.b.st[j] = false → (y.b.st.take (j + 1)).any bigS = false) := Lib.hid (fun h => by
                  rw [List.take_succ_eq_append_getElem hjt, List.any_append, HQj.out]; simp [h])
                obtain ⟨⟨jk, jn, jw⟩, hz⟩ : ∃ z, Hid (y.b.st[j] = z) := ⟨_, Lib.hid rfl⟩
                rw [hz.out] at d2 HYj HNj
                simp only [eSt, List.getElem?_cons_zero, List.getElem?_cons_succ] at d2
                have hdj : decide ((j : Int) < (y.b.st.length : Int)) = true := decide_eq_true (by omega)
                clear hc6
                by_cases hw : 300 < jw.length
                · have hdw : decide ((300 : Int) < (jw.length : Int)) = true := decide_eq_true (by omega)
                  have HZ := Lib.hid (HYes.out (HYj.out (decide_eq_true hw)))
                  clear hw
                  go_wp2_with fail
                  go_ret
                  exact ⟨ret_bool HZ.out.symm, HJw.out⟩
                · have hdw : decide ((300 : Int) < (jw.length : Int)) = false := decide_eq_false (by omega)
                  have HZ := Lib.hid (HNj.out (decide_eq_false hw))
                  clear hw
                  go_wp2_with fail
                  go_roundw
                  case rel => exact ⟨j + 1, by omega, by go_num, HZ, HJ2⟩
                  case measure => simp [intOf]; omega
              · have hdj : decide ((j : Int) < (y.b.st.length : Int)) = false := decide_eq_false (by omega)
                obtain rfl : j = y.b.st.length := by omega
                have HQb := Lib.hid (show y.b.st.any bigS = false by rw [← List.take_length (l := y.b.st)]; exact HQj.out)
                clear hjt hj HQj
                go_wp2_with fail
                clear hdj
                have HZ := Lib.hid (HNo.out (by unfold bigX; rw [HQa.out, HQb.out, decide_eq_false Hs.out]; rfl))
                go_roundw
                case rel => exact ⟨k + 1, by omega, by go_num, HZ, Lib.hid (HWW.out.trans (HJ2.out.mono HWW.out.size))⟩
                case measure => simp [intOf]; omega
      · have hd : decide ((k : Int) < (rs.length : Int)) = false := decide_eq_false (by omega)
        obtain rfl : k = rs.length := by omega
        have HZ := Lib.hid (show bigQ q = false by rw [HZ0.out, ← List.take_length (l := q.its), ← Hlen.out]; exact HQ.out)
        go_wp2_with fail
        go_ret
        exact ⟨ret_bool HZ.out.symm, HBw.out⟩
end Go.Proofs.Ytolahnnkdpbdfaa

namespace Go.Proofs.Ytolahnnkdpbdfaa
open Go.Proofs Go.RowKit Go.Shelf Go.Sl Go.Prs
theorem lg_few {q : Qy} (h : Lg q) : Few q.its := ⟨by have := h.1; omega, fun x hx => ⟨by have := (h.2 x hx).1.2.1; omega, by have := (h.2 x hx).2.2.1; omega⟩⟩
set_option maxRecDepth 100000 in
set_option maxHeartbeats 8000000 in
theorem parsePrints_any (iv : Value) (q : Qy) (w : World) (h : IS w iv q.its) (hm : Ml w) : Calls Try.prog 9 #[qv iv q] w fun e w' => e = .returned (.bool true) ∧ Below w.heap.size w w' := by
  have HM := Lib.hid hm
  have HI := Lib.hid h
  have HW := Lib.hid (fun u (hu : Below w.heap.size w u) => works28_any u (HM.out.ext hu))
  have HLa := Lib.hid (fun u (hu : Below w.heap.size w u) => large_any iv q u (h.ext hu))
  obtain ⟨a0, n0, c0, rfl⟩ := h.isSlice
  have HA := Lib.hid ((Below.refl w.heap.size w).alloc (Nat.le_refl _) (.cells #[.slice a0 n0 c0, .int .i64 q.mx, .int .i64 q.sk, .int .i64 q.od, .bool q.fi, .bool q.rv] 47))
  have HK := Lib.hid (heap_alloc_new w (.cells #[.slice a0 n0 c0, .int .i64 q.mx, .int .i64 q.sk, .int .i64 q.od, .bool q.fi, .bool q.rv] 47))
  have hsz : w.heap.size < (w.alloc (.cells #[.slice a0 n0 c0, .int .i64 q.mx, .int .i64 q.sk, .int .i64 q.od, .bool q.fi, .bool q.rv] 47)).heap.size := by simp
  clear hm
  cases hb : bigQ q
  · have hlg := small_lg hb
    rw [hb] at HLa
    have HPr := Lib.hid (fun u (hu : Below w.heap.size w u) => print_any (.slice a0 n0 c0) q u (h.ext hu) hlg)
    have HCk := Lib.hid (fun u (hu : Below w.heap.size w u) => check_any (.slice a0 n0 c0) q u (h.ext hu) (lg_sms hlg))
    have HPl := Lib.hid (fun u (hu : Below w.heap.size w u) => plain_any (.slice a0 n0 c0) q u (h.ext hu) (lg_few hlg))
    have HDp := Lib.hid (fun iv2 u (hu : IS u iv2 q.its) => dprint_any iv2 q u hu hlg)
    have HDc := Lib.hid (fun iv2 u (hu : IS u iv2 q.its) => dcheck_any iv2 q u hu (lg_sms hlg))
    obtain ⟨⟨s, f⟩, ho⟩ : ∃ o, Hid (Prs.print q = o) := ⟨_, Lib.hid rfl⟩
    rw [ho.out] at HPr HDp
    unfold qv at *
    clear h hb hlg ho
    go_enter Try.func9, Try.ntmps9
    go_wp2_with fail
    generalize w.alloc (.cells #[.slice a0 n0 c0, .int .i64 q.mx, .int .i64 q.sk, .int .i64 q.od, .bool q.fi, .bool q.rv] 47) = W at HA HK hsz ⊢
    have HKu := Lib.hid (fun u (hu : Below W.heap.size W u) => (hu.block _ hsz).trans HK.out)
    clear hsz HK
    refine (HLa.out _ HA.out).mono ?_
    rintro e w1 ⟨rfl, hb1⟩
    have HB1 := Lib.hid (HA.out.trans (hb1.mono HA.out.size))
    have HC1 := Lib.hid hb1
    obtain ⟨_, k0, k1, k2, k3, k4, k5⟩ := six_cells (HKu.out _ HC1.out)
    clear hb1
    go_wp2_with fail
    refine (HPr.out _ HB1.out).mono ?_
    rintro e w2 ⟨rfl, hb2⟩
    have HB2 := Lib.hid (HB1.out.trans (hb2.mono HB1.out.size))
    have HC2 := Lib.hid (HC1.out.trans (hb2.mono HC1.out.size))
    clear hb2 k0 k1 k2 k3 k4 k5
    obtain ⟨_, k0, k1, k2, k3, k4, k5⟩ := six_cells (HKu.out _ HC2.out)
    go_wp2_with fail
    refine (HPl.out _ HB2.out).mono ?_
    rintro e w3 ⟨iv3, rfl, hq3, hb3⟩
    obtain ⟨a3, n3, c3, rfl⟩ := hq3.isSlice
    have HQ3 := Lib.hid hq3.is
    have HB3 := Lib.hid (HB2.out.trans (hb3.mono HB2.out.size))
    have HC3 := Lib.hid (HC2.out.trans (hb3.mono HC2.out.size))
    clear hq3 hb3 k0 k1 k2 k3 k4 k5
    go_wp2_with fail
    refine (HDp.out _ _ HQ3.out).mono ?_
    rintro e w4 ⟨rfl, hb4⟩
    have HB4 := Lib.hid (HB3.out.trans (hb4.mono HB3.out.size))
    have HC4 := Lib.hid (HC3.out.trans (hb4.mono HC3.out.size))
    clear hb4 HQ3
    obtain ⟨_, k0, k1, k2, k3, k4, k5⟩ := six_cells (HKu.out _ HC4.out)
    have hs0 : (s == s) = true := by simp
    have hf0 : ((f : Int) == (f : Int)) = true := by simp
    obtain ⟨c, hc⟩ : ∃ c, ckN q = c := ⟨_, rfl⟩
    rw [hc] at HCk HDc
    have hc0 : (c == c) = true := by simp
    clear hc
    go_wp2_with fail
    go_region_law (first
      | (go_simp; go_at_call 30; refine (HCk.out _ HB4.out.drew).mono ?_; rintro e w5 ⟨rfl, hb⟩; have HB5 := Lib.hid (HB4.out.trans ((below_undrew hb).mono HB4.out.size)); have HC5 := Lib.hid (HC4.out.trans ((below_undrew hb).mono HC4.out.size)); clear hb; obtain ⟨-, p0, p1, p2, p3, p4, p5⟩ := six_cells (HKu.out _ HC5.out); dsimp only)
      | (go_simp; go_at_call 26; refine (HPl.out _ HB5.out).mono ?_; rintro e w6 ⟨iv6, rfl, hq6, hb⟩; obtain ⟨a6, n6, c6, rfl⟩ := hq6.isSlice; have HQ6 := Lib.hid hq6.is; have HB6 := Lib.hid (HB5.out.trans (hb.mono HB5.out.size)); have HC6 := Lib.hid (HC5.out.trans (hb.mono HC5.out.size)); clear hb hq6; obtain ⟨-, o0, o1, o2, o3, o4, o5⟩ := six_cells (HKu.out _ HC6.out); dsimp only)
      | (go_simp; go_at_call 31; refine (HDc.out _ _ HQ6.out).mono ?_; rintro e w7 ⟨rfl, hb⟩; have HB7 := Lib.hid (HB6.out.trans (hb.mono HB6.out.size)); have HC7 := Lib.hid (HC6.out.trans (hb.mono HC6.out.size)); clear hb; obtain ⟨-, r0, r1, r2, r3, r4, r5⟩ := six_cells (HKu.out _ HC7.out); dsimp only)
      | (go_simp; go_at_call 22; refine (HW.out _ HB7.out).mono ?_; rintro e w8 ⟨rfl, hb⟩; have HB8 := Lib.hid (HB7.out.trans (hb.mono HB7.out.size)); clear hb; dsimp only))
    all_goals
      go_wp2_with fail
      go_ret
      exact ⟨rfl, HB8.out⟩
  · rw [hb] at HLa
    unfold qv at *
    go_enter Try.func9, Try.ntmps9
    go_wp2_with fail
    generalize w.alloc (.cells #[.slice a0 n0 c0, .int .i64 q.mx, .int .i64 q.sk, .int .i64 q.od, .bool q.fi, .bool q.rv] 47) = W at HA HK hsz ⊢
    have HKu := Lib.hid (fun u (hu : Below W.heap.size W u) => (hu.block _ hsz).trans HK.out)
    clear hsz HK
    refine (HLa.out _ HA.out).mono ?_
    rintro e w1 ⟨rfl, hb1⟩
    have HB1 := Lib.hid (HA.out.trans (hb1.mono HA.out.size))
    have HC1 := Lib.hid hb1
    obtain ⟨_, k0, k1, k2, k3, k4, k5⟩ := six_cells (HKu.out _ HC1.out)
    clear hb1
    go_wp2_with fail
    refine (HW.out _ HB1.out).mono ?_
    rintro e w2 ⟨rfl, hb2⟩
    have HB2 := Lib.hid (HB1.out.trans (hb2.mono HB1.out.size))
    clear hb2
    go_wp2_with fail
    go_ret
    exact ⟨rfl, HB2.out⟩
end Go.Proofs.Ytolahnnkdpbdfaa
