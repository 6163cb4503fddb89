/-
  Layer 14: Children; the document's Gens and Children. No condition besides what the arguments are.
-/
import Derived.Test.YtcpmnocknpalfaaH12
import Derived.Test.YtcpmnocknpalfaaW3
import Derived.Test.YtcpmnocknpalfaaG9
namespace Go.Proofs.Ytcpmnocknpalfaa
open Go.RowKit Go.Sl
set_option linter.unusedVariables false

set_option maxRecDepth 100000 in
set_option maxHeartbeats 1000000 in
theorem rchildren_any (gv : Value) (av : Int) (a : Nat) (hav : av = a) (w : World) (es : List (SlV × Int)) (g : List Nd) (hg : Dag.okG g) (hG : Gr w gv es g) :
    Calls Try.prog 26 #[gv, .int .i64 av] w fun e w' => ∃ v, e = .returned v ∧ Own eInt 1 w.heap.size 3 w' v (Dag.chL g a) ∧ Below w.heap.size w w' := by
  subst hav
  have hgl := hg.1
  have hix0 := hG.run_len
  have HG := Lib.hid hg
  clear hg
  go_enter Try.func26, Try.ntmps26
  go_wp2_with fail
  go_loopw [5, 6] (fun v i wr => ∃ (n : Nat), i = .int .i64 n ∧ n ≤ g.length ∧ Hid (Own eInt 1 w.heap.size 3 wr v (Dag.chTo g a n)) ∧ Hid (Below w.heap.size w wr)) (fun _ i _ => g.length - (intOf i).toNat)
  case atStart => exact ⟨0, rfl, by omega, Lib.hid (Own.nil _ _ _ _ _), Lib.hid (Below.refl _ _)⟩
  case round =>
    obtain ⟨n, rfl, hn, HO, HW⟩ := hrel
    by_cases hlt : n < g.length
    · obtain ⟨P, hP⟩ : ∃ P, g[n].1 = P := ⟨_, rfl⟩
      have HP := Lib.hid hP
      have hP6 : P.length ≤ 6 := by rw [← hP]; exact (HG.out.2 n hlt).1
      clear hP
      go_wp2_with fail
      go_loopw [5, 7] (fun v i wr => ∃ (k : Nat), i = .int .i64 k ∧ k ≤ P.length ∧ Hid (Own eInt 1 w.heap.size 3 wr v (Dag.chK g n P k a)) ∧ Hid (Below w.heap.size w wr)) (fun _ i _ => P.length - (intOf i).toNat)
      case atStart => exact ⟨0, rfl, by omega, Lib.hid (by rw [Dag.chK_zero]; exact HO.out), HW⟩
      case round =>
        obtain ⟨k, rfl, hk, HO, HW⟩ := hrel
        obtain ⟨b, o, hb1, hix, Q, T, a1, n1, k1, HX, HLn, q0, q1, hs1, hm1⟩ := hG.at HW.out hlt
        have HQP : Hid (Q = P) := Lib.hid (by rw [← HP.out, HX.out])
        have hls := hs1.run_len (P := Try.prog) Try.underlying23
        have hn1 : n1 = P.length := by rw [← HLn.out, HQP.out]
        subst hn1
        rw [HLn.out] at hls
        by_cases hkn : k < P.length
        · have hkQ : k < Q.length := by rw [HQP.out]; exact hkn
          obtain ⟨b2, o2, hb2, hix2, hc2⟩ := hs1.atB HW.out (P := Try.prog) Try.underlying23 cells3 some3 hkQ
          have e1 := hc2 0 (by omega)
          simp only [eInt, List.getElem?_cons_zero, Nat.add_zero] at e1
          obtain ⟨x, HY⟩ : ∃ x, Hid (P[k] = x) := ⟨_, Lib.hid rfl⟩
          have HYQ : Q[k] = x := by rw [← HY.out]; congr 1
          rw [HYQ] at e1
          have hlen := Dag.chK_len HG.out (n := n) (k := k) (P := P) hP6 (by omega) a
          have hsz := HW.out.size
          clear hc2 HYQ
          by_cases hxa : x = (a : Int)
          · have hb : (x == (a : Int)) = true := by simp [hxa]
            have HT := Lib.hid (Dag.chK_hit (g := g) (n := n) (a := a) hkn (by rw [HY.out]; exact hxa))
            clear hxa
            go_wp2_with (at_builtin; go_must (refine wpList_append1 rfl (en := eInt) (s := 1) (base := w.heap.size) (e := 3) _ _ 23 rfl (.int .i64 0) 8 Try.underlying23 info3 rfl (by decide) len_eInt one_eInt u5 _ _ n rfl (HO.out.alloc _) rfl (Sl.fresh len_eInt rfl rfl rfl (by simp [maxLen])) (by simp only [maxLen]; omega) (by omega) (by simp; omega) ?_; intro ov' w6 hown hgr hbel hblk; have HO2 := Lib.hid hown; have HW2 := Lib.hid ((HW.out.alloc HW.out.size _).trans hbel); clear hown hgr hbel hblk))
            go_roundw
            case rel => exact ⟨k + 1, by go_num, by omega, Lib.hid (by rw [HT.out]; exact HO2.out), HW2⟩
            case measure => simp [intOf]; omega
          · have hb : (x == (a : Int)) = false := by simp [hxa]
            have HT := Lib.hid (Dag.chK_miss (g := g) (n := n) (a := a) hkn (by rw [HY.out]; exact hxa))
            clear hxa
            go_wp2_with fail
            go_roundw
            case rel => exact ⟨k + 1, by go_num, by omega, Lib.hid (by rw [HT.out]; exact HO.out), HW⟩
            case measure => simp [intOf]; omega
        · have HD : Hid (Own eInt 1 w.heap.size 3 wr u5 (Dag.chTo g a (n + 1))) := Lib.hid (by
            have := HO.out
            rw [show k = P.length by omega] at this
            rwa [Dag.chK_done hlt HP.out] at this)
          go_wp2_with fail
          go_roundw
          case rel => exact ⟨n + 1, by go_num, by omega, HD, HW⟩
          case measure => simp [intOf]; omega
    · have HE : Hid (Own eInt 1 w.heap.size 3 wr u5 (Dag.chL g a)) := Lib.hid (by have := HO.out; rwa [show n = g.length by omega] at this)
      go_wp2_with fail
      go_ret
      exact ⟨_, rfl, HE.out, HW.out⟩

set_option maxRecDepth 100000 in
set_option maxHeartbeats 1000000 in
theorem rgens_any (gv : Value) (w : World) (es : List (SlV × Int)) (g : List Nd) (hg : Dag.okG g) (hG : Gr w gv es g) :
    Calls Try.prog 25 #[gv] w fun e w' => ∃ v, e = .returned v ∧ Own eInt 1 w.heap.size 3 w' v (Dag.gensL g) ∧ Below w.heap.size w w' := by
  have hgl := hg.1
  have hix0 := hG.run_len
  have HG := Lib.hid hg
  clear hg
  go_enter Try.func25, Try.ntmps25
  go_wp2_with fail
  go_loopw [3, 4] (fun v i wr => ∃ (n : Nat), i = .int .i64 n ∧ n ≤ g.length ∧ Hid (Own eInt 1 w.heap.size 3 wr v (Dag.gensTo g n)) ∧ Hid (Below w.heap.size w wr)) (fun _ i _ => g.length - (intOf i).toNat)
  case atStart => exact ⟨0, rfl, by omega, Lib.hid (Own.nil _ _ _ _ _), Lib.hid (Below.refl _ _)⟩
  case round =>
    obtain ⟨n, rfl, hn, HO, HW⟩ := hrel
    by_cases hlt : n < g.length
    · obtain ⟨b, o, hb1, hix, P, T, a1, n1, k1, HX, HLn, q0, q1, hs1, hm1⟩ := hG.at HW.out hlt
      have HP : Hid (g[n].1 = P) := Lib.hid (by rw [HX.out])
      have hls := hs1.run_len (P := Try.prog) Try.underlying23
      rw [HLn.out] at hls
      have HOk : Hid (∀ i (h : i < P.length), Dag.parOk n P i P[i]) := Lib.hid (by have := (HG.out.2 n hlt).2.2.2; rw [HX.out] at this; exact this)
      have HGl : Hid ((Dag.gensTo g n).length = n) := Lib.hid (Dag.gensTo_len g n)
      have HBd := Lib.hid (Dag.gensTo_bd HG.out n (by omega))
      have hmb : ∀ k, 1 ≤ Dag.mxk (Dag.gensTo g n) P k ∧ Dag.mxk (Dag.gensTo g n) P k ≤ 129 := fun k => Dag.mxk_bd _ _ _ (by omega) (fun p hp => by
        obtain ⟨i, hi, rfl⟩ := List.mem_iff_getElem.1 hp
        have h3 := HOk.out i hi
        have := h3.1; have := h3.2.1
        have := (HBd.out P[i].toNat (by omega)).2
        omega) k
      have HMb := Lib.hid hmb
      have hsz := HW.out.size
      clear hmb
      go_wp2_with fail
      go_loop [5, 6] (fun mv i => ∃ (k : Nat), i = .int .i64 k ∧ k ≤ n1 ∧ mv = .int .i64 (Dag.mxk (Dag.gensTo g n) P k - 1)) (fun _ i => n1 - (intOf i).toNat)
      case atStart => exact ⟨0, rfl, by omega, by rw [Dag.mxk_zero]; rfl⟩
      case round =>
        obtain ⟨k, rfl, hk, rfl⟩ := hrel
        by_cases hkn : k < n1
        · have hkP : k < P.length := by rw [HLn.out]; exact hkn
          obtain ⟨b2, o2, hb2, hix2, hc2⟩ := hs1.atB HW.out (P := Try.prog) Try.underlying23 cells3 some3 hkP
          have e1 := hc2 0 (by omega)
          simp only [eInt, List.getElem?_cons_zero, Nat.add_zero] at e1
          obtain ⟨x, HY⟩ : ∃ x, Hid (P[k] = x) := ⟨_, Lib.hid rfl⟩
          rw [HY.out] at e1
          have hok := HOk.out k hkP
          rw [HY.out] at hok
          obtain ⟨y, rfl⟩ : ∃ y : Nat, x = y := ⟨x.toNat, by have := hok.1; omega⟩
          have hyn : y < n := by have := hok.2.1; omega
          have hyl : y < (Dag.gensTo g n).length := by rw [HGl.out]; exact hyn
          obtain ⟨b3, o3, hb3, hix3, hc3⟩ := (HO.out.sl len_eInt).at (P := Try.prog) Try.underlying23 cells3 some3 hyl
          have e3 := hc3 0 (by omega)
          simp only [eInt, List.getElem?_cons_zero, Nat.add_zero] at e3
          obtain ⟨r, HR⟩ : ∃ r, Hid ((Dag.gensTo g n)[y] = r) := ⟨_, Lib.hid rfl⟩
          rw [HR.out] at e3
          have HRd : Hid ((Dag.gensTo g n).getD y 0 = r) := Lib.hid (by rw [← HR.out]; simp [List.getD_eq_getElem?_getD, hyl])
          obtain ⟨p, HPm⟩ : ∃ p, Hid (Dag.mxk (Dag.gensTo g n) P k = p) := ⟨_, Lib.hid rfl⟩
          have HS : Hid (Dag.mxk (Dag.gensTo g n) P (k + 1) = max p (r + 1)) := Lib.hid (by rw [Dag.mxk_succ _ hkP, HPm.out, HY.out]; show max p ((Dag.gensTo g n).getD y 0 + 1) = _; rw [HRd.out])
          obtain ⟨hp1, hp2⟩ := HMb.out k
          rw [HPm.out] at hp1 hp2 ⊢
          have hr := HBd.out y hyn
          rw [HRd.out] at hr
          obtain ⟨hr1, hr2⟩ := hr
          clear hc2 hc3 hok
          by_cases hgt : p - 1 < r
          · have d1 := decide_eq_true hgt
            go_wp2_with fail
            go_round
            case rel => exact ⟨k + 1, by go_num, by omega, by rw [HS.out]; congr 1; omega⟩
            case measure => simp [intOf]; omega
          · have d1 := decide_eq_false hgt
            go_wp2_with fail
            go_round
            case rel => exact ⟨k + 1, by go_num, by omega, by rw [HS.out]; congr 1; omega⟩
            case measure => simp [intOf]; omega
        · have HT : Hid (Dag.gensTo g (n + 1) = Dag.gensTo g n ++ [Dag.mxk (Dag.gensTo g n) P k]) := Lib.hid (by
            show Dag.gensTo g n ++ [_] = _
            rw [show k = P.length by rw [HLn.out]; omega, Dag.mxk_all]
            simp [hlt, HP.out])
          obtain ⟨p, HPm⟩ : ∃ p, Hid (Dag.mxk (Dag.gensTo g n) P k = p) := ⟨_, Lib.hid rfl⟩
          obtain ⟨hp1, hp2⟩ := HMb.out k
          rw [HPm.out] at hp1 hp2 HT ⊢
          go_wp2_with (at_builtin; go_must (refine wpList_append1 rfl (en := eInt) (s := 1) (base := w.heap.size) (e := 3) _ _ 23 rfl (.int .i64 0) 8 Try.underlying23 info3 rfl (by decide) len_eInt one_eInt u3 _ _ p rfl (HO.out.alloc _) rfl (Sl.fresh len_eInt rfl (by simp [eInt]) rfl (by simp [maxLen])) (by rw [HGl.out]; simp only [maxLen]; omega) (by rw [HGl.out]; omega) (by simp; omega) ?_; intro ov' w6 hown hgr hbel hblk; have HO2 := Lib.hid hown; have HW2 := Lib.hid ((HW.out.alloc HW.out.size _).trans hbel); clear hown hgr hbel hblk))
          go_roundw
          case rel => exact ⟨n + 1, by go_num, by omega, Lib.hid (by rw [HT.out]; exact HO2.out), HW2⟩
          case measure => simp [intOf]; omega
    · have HE : Hid (Own eInt 1 w.heap.size 3 wr u3 (Dag.gensL g)) := Lib.hid (by have := HO.out; rwa [show n = g.length by omega] at this)
      go_wp2_with fail
      go_ret
      exact ⟨_, rfl, HE.out, HW.out⟩
end Go.Proofs.Ytcpmnocknpalfaa
