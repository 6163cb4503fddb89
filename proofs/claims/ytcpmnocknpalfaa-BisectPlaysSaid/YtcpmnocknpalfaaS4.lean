/-
  Layer 15, the document's: Topo. No condition besides what the arguments are.
-/
import Derived.Test.YtcpmnocknpalfaaS3
import Derived.Test.YtcpmnocknpalfaaK2
import Derived.Test.YtcpmnocknpalfaaH2
namespace Go.Proofs.Ytcpmnocknpalfaa
open Go.RowKit Go.Sl
set_option linter.unusedVariables false

theorem own_fresh1 (w : World) (x : Int) : Own eInt 1 w.heap.size 3 (w.alloc (.cells #[.int .i64 x] 3)) (.slice (some ⟨w.heap.size, 0, none⟩) 1 1) [x] :=
  ⟨by simp [eInt], .inr ⟨_, 1, #[.int .i64 x], rfl, Nat.le_refl _, heap_alloc_new _ _, Nat.le_refl _, by simp [maxLen], by simp, by simp [eInt]⟩⟩
theorem bel_alloc (w : World) (o : Obj) : Below w.heap.size w (w.alloc o) := (Below.refl _ _).alloc (Nat.le_refl _) _
theorem bel_then {w w1 w2 : World} (h : Below w.heap.size w w1) (h2 : Below w1.heap.size w1 w2) : Below w.heap.size w w2 := h.trans (h2.mono h.size)
theorem par_take' {P : List Int} {k : Nat} (h : k < P.length) : (P.map Int.toNat).take (k + 1) = (P.map Int.toNat).take k ++ [P[k].toNat] := by
  rw [← List.map_take, par_take h, List.map_take]
theorem apart_symm {v q : Value} (h : Apart v q) : Apart q v := by
  unfold Apart at h ⊢
  rcases h with h | h
  · cases hq : q.ownBlock with
    | none => exact .inl rfl
    | some k => rw [h]; exact .inr (by simp)
  · exact .inr (fun e => h e.symm)

set_option maxRecDepth 100000 in
set_option maxHeartbeats 1000000 in
theorem rtopo_any (gv v : Value) (w : World) (es : List (SlV × Int)) (g : List Nd) (l : List Int) (hg : Dag.okG g) (hl : Dag.inN g.length l) (hG : Gr w gv es g) (h : Sl eInt 1 w v l) :
    Calls Try.prog 63 #[gv, v] w fun e w' => ∃ v, e = .returned v ∧ Own eInt 1 w.heap.size 3 w' v (Ord.topoL g g.length (Ord.inB l) (Dag.nn (Ord.first g (Ord.key (g.map (·.2))) (Ord.inB l)))) ∧ Below w.heap.size w w' := by
  have hgl := hg.1
  have HG := Lib.hid hg
  have hix0 := hG.run_len
  have HIn := in_any gv v w es g l hgl hl hG h
  have hmk := make_bools g.length (by omega)
  rw [made_bcells] at hmk
  obtain ⟨D, hD⟩ : ∃ D, D = Ord.topoL g g.length (Ord.inB l) (Dag.nn (Ord.first g (Ord.key (g.map (·.2))) (Ord.inB l))) := ⟨_, rfl⟩
  rw [← hD]
  clear hg hl h
  go_enter Try.func63, Try.ntmps63
  go_wp2_with fail
  refine HIn.mono ?_
  rintro e w1 ⟨rfl, hu, hb1⟩
  have HU := Lib.hid hu
  have HW1 := Lib.hid hb1
  clear hu hb1 HIn
  go_wp2_with fail
  refine (times_any gv w1 es g hgl (hG.ext HW1.out)).mono ?_
  rintro e w2 ⟨bv, rfl, hr, hb2⟩
  obtain ⟨tb, HT⟩ : ∃ tb, Hid (Own eInt 1 tb 3 w2 bv (g.map (·.2))) := ⟨_, Lib.hid hr⟩
  have HU2 := Lib.hid (HU.out.ext hb2)
  have HW2 := Lib.hid (HW1.out.trans (hb2.mono HW1.out.size))
  clear hr hb2 HU HW1
  go_wp2_with fail
  refine (ready_any gv w2 es g HG.out _ _ (Ord.inB l) (hG.ext HW2.out) HU2.out).mono ?_
  rintro e w3 ⟨rfl, hr, hb2⟩
  have HR := Lib.hid hr
  have HU3 := Lib.hid (HU2.out.ext hb2)
  have HT3 := Lib.hid (HT.out.ext hb2)
  have HW3 := Lib.hid (HW2.out.trans (hb2.mono HW2.out.size))
  have hw13 : w.heap.size < w3.heap.size := (Array.getElem?_eq_some_iff.1 HU3.out.blk).1
  have hrlt : w2.heap.size < w3.heap.size := (Array.getElem?_eq_some_iff.1 HR.out.blk).1
  clear hr hb2 HU2 HW2 HT
  have HB0 : Hid (Bl w3.heap.size w3.heap.size g.length (fun _ => false) (w3.alloc (.cells (bcells (fun _ => false) g.length) 4))) := Lib.hid ⟨Nat.le_refl _, heap_new_at rfl⟩
  have HX0 := Lib.hid ((Below.refl w3.heap.size w3).alloc (Nat.le_refl _) (.cells (bcells (fun _ => false) g.length) 4))
  go_wp2_with fail
  go_loopw [10] (fun i wr => ∃ (k : Nat) (f : Nat → Bool), i = .int .i64 k ∧ k ≤ g.length ∧ Hid (∀ x, x < k → f x = Ord.rdy g (Ord.inB l) x) ∧ Hid (Bl w3.heap.size w3.heap.size g.length f wr) ∧ Hid (Below w3.heap.size w3 wr)) (fun i _ => g.length - (intOf i).toNat)
  case atStart => exact ⟨0, _, rfl, by omega, Lib.hid (fun x hx => by omega), HB0, HX0⟩
  case round =>
    obtain ⟨k, f, rfl, hk, HF, HB, HX⟩ := hrel
    by_cases hlt : k < g.length
    · obtain ⟨c1, c2, c3⟩ := HB.out.cell hlt
      obtain ⟨d1, -, -⟩ := HR.out.cell hlt
      have d2 := (HX.out.cell (p := ⟨w2.heap.size, k, none⟩) hrlt).trans d1
      have HB2 := Lib.hid (HB.out.set k (Ord.rdy g (Ord.inB l) k))
      have HX2 : Hid (Below w3.heap.size w3 (wr.setCell ⟨w3.heap.size, k, none⟩ (.bool (Ord.rdy g (Ord.inB l) k)))) := Lib.hid (HX.out.setCell (p := ⟨w3.heap.size, k, none⟩) (Nat.le_refl _) _)
      have HF2 : Hid (∀ x, x < k + 1 → Dag.upd f k (Ord.rdy g (Ord.inB l) k) x = Ord.rdy g (Ord.inB l) x) := Lib.hid (fun x hx => by
        by_cases e : x = k
        · subst e; exact Dag.upd_same _ _ _
        · rw [Dag.upd_ne _ _ e]; exact HF.out x (by omega))
      clear HF HB
      go_wp2_with fail
      go_roundw
      case rel => exact ⟨k + 1, _, by go_num, by omega, HF2, HB2, HX2⟩
      case measure => simp [intOf]; omega
    · have HB1 : Hid (Bl w3.heap.size w3.heap.size g.length (Ord.rdy g (Ord.inB l)) wr) := Lib.hid (HB.out.congr (fun x hx => HF.out x (by omega)))
      clear HF HB
      go_wp2_with fail
      refine (youngest_any _ _ g.length _ bv _ wr (by omega) (by simp) HB1.out ((HT3.out.sl len_eInt).ext HX.out)).mono ?_
      rintro e w4 ⟨rfl, nd, rfl⟩
      have HB4 : Hid (Bl w3.heap.size w3.heap.size g.length (Ord.rdy g (Ord.inB l)) (wr.drewN nd)) := Lib.hid ⟨HB1.out.hb, HB1.out.blk⟩
      have HX4 := Lib.hid (below_drewN HX.out nd)
      have HC : Hid (Ord.cnt (Ord.rdy g (Ord.inB l)) g.length ≤ g.length) := Lib.hid (Ord.cnt_le _ _)
      obtain ⟨F, hF⟩ : ∃ F, Hid (F = Ord.first g (Ord.key (g.map (·.2))) (Ord.inB l)) := ⟨_, Lib.hid rfl⟩
      have HD : Hid ((Ord.seqL id (Ord.key (g.map (·.2))) g.length g.length (Ord.rdy g (Ord.inB l))).reverse ++ [] = F) := Lib.hid (by rw [hF.out, List.append_nil]; rfl)
      clear HB1 HX
      go_wp2_with fail
      go_loopg [8, 11] (g.length) (fun B pv yv wr => ∃ (left : Nat → Bool) (pile : List Int), yv = .int .i64 (Ord.yng (id left) (Ord.key (g.map (·.2))) g.length) ∧ pile.length + B ≤ g.length ∧ Hid (Ord.cnt left g.length ≤ B) ∧ Hid ((Ord.seqL id (Ord.key (g.map (·.2))) g.length B left).reverse ++ pile = F) ∧
        Hid (Bl w3.heap.size w3.heap.size g.length left wr) ∧ Hid (Own eInt 1 w3.heap.size 3 wr pv pile) ∧ Hid (Below w3.heap.size w3 wr))
      case atStart => exact ⟨_, [], rfl, by simp, HC, HD, HB4, Lib.hid (Own.nil _ _ _ _ _), HX4⟩
      case round =>
        obtain ⟨left, pile, rfl, hol, HC, HD, HB, HO, HX⟩ := hrel
        have hsz := HX.out.size
        rcases Ord.yng_spec (id left) (Ord.key (g.map (·.2))) g.length with ⟨h1, _⟩ | ⟨y, h1, h2, h3, _⟩
        · have HE : Hid (pile = F) := Lib.hid (by have := HD.out; rwa [Ord.seqL_end h1, List.reverse_nil, List.nil_append] at this)
          rw [h1]
          have hU := HU3.out.ext HX.out
          have HUc : Hid (Bl w.heap.size w.heap.size g.length (Ord.inB l) wr) := Lib.hid hU
          have HWc := Lib.hid (HW3.out.trans (HX.out.mono (Nat.le_of_lt hw13)))
          have HPc : Hid (Own eInt 1 w.heap.size 3 wr u8 (Ord.cs (Dag.nn F))) := Lib.hid (by
            have := HO.out.mono (Nat.le_of_lt hw13)
            rw [Ord.cs_nn (fun x hx => (hF.out ▸ Ord.first_in g _ _) x hx |>.1), ← HE.out]; exact this)
          have HOk : Hid (Ord.PileOk g (Ord.inB l) (Dag.nn F)) := Lib.hid (by rw [hF.out]; exact Ord.first_ok _ _ _)
          have HC2 : Hid (Ord.cnt (Ord.inB l) g.length ≤ g.length) := Lib.hid (Ord.cnt_le _ _)
          have HD2 : Hid ([] ++ Ord.topoL g g.length (Ord.inB l) (Dag.nn F) = D) := Lib.hid (by rw [hF.out]; exact hD.symm)
          clear HD h1 hU hD HX HB HO HE HU3 HT3 HW3 HR HC
          go_wp2_with fail
          go_loopg [8, 12] (g.length) (fun B pv ov wr => ∃ (left : Nat → Bool) (ps : List Nat) (out : List Int), out.length + B ≤ g.length ∧ Hid (Ord.cnt left g.length ≤ B) ∧ Hid (out ++ Ord.topoL g B left ps = D) ∧ Hid (Ord.PileOk g left ps) ∧
            Hid (Bl w.heap.size w.heap.size g.length left wr) ∧ Hid (Own eInt 1 w.heap.size 3 wr pv (Ord.cs ps)) ∧ Hid (Own eInt 1 w.heap.size 3 wr ov out) ∧ Hid (Apart ov pv) ∧ Hid (Below w.heap.size w wr))
          case atStart => exact ⟨_, _, [], by simp, HC2, HD2, HOk, HUc, HPc, Lib.hid (Own.nil _ _ _ _ _), Lib.hid (.inl rfl), HWc⟩
          case round =>
            obtain ⟨left, ps, out, hol, HC, HD, HOk, HB, HP, HO, HA, HW⟩ := hrel
            have hsz := HW.out.size
            rcases List.eq_nil_or_concat ps with rfl | ⟨p, n, hps⟩
            · have HE : Hid (out = D) := Lib.hid (by have := HD.out; rwa [Ord.topoL_nil, List.append_nil] at this)
              have hlp := (HP.out.sl len_eInt).run_len (P := Try.prog) Try.underlying23
              simp only [Ord.cs, List.map_nil, List.length_nil] at hlp
              go_wp2_with fail
              go_ret
              exact ⟨_, rfl, by rw [← HE.out]; exact HO.out, HW.out⟩
            · rw [List.concat_eq_append] at hps
              subst hps
              obtain ⟨f', rfl, hc', ht'⟩ := Ord.topo_go HG.out HOk.out HC.out
              have hnN := (HOk.out.2 n (by simp)).1
              have HOk2 := Lib.hid (HOk.out.step HG.out)
              have hpl := HOk.out.len
              rw [List.length_append, List.length_singleton] at hpl
              have HC2 := Lib.hid hc'
              have HD2 : Hid ((out ++ [(n : Int)]) ++ Ord.topoL g f' (Dag.upd left n false) (p ++ (Dag.par g n).reverse.filter (Ord.rdy g (Dag.upd left n false))) = D) := Lib.hid (by have := HD.out; rw [ht'] at this; simpa using this)
              obtain ⟨pb, cap, cur, hv, hpb1, hpb2, hpb3, -⟩ := HP.out.block (by simp [Ord.cs])
              rw [Ord.cs_len, List.length_append, List.length_singleton] at hv hpb3
              subst hv
              obtain ⟨hg1, hg2, -, hcell⟩ := own_cells HP.out
              obtain ⟨ck, fk⟩ := hcell p.length (by simp [Ord.cs])
              have hge : Hp.ge (Ord.cs (p ++ [n])) p.length = n := by simp [Hp.ge, Ord.cs, List.getD_eq_getElem?_getD]
              rw [hge] at ck
              have HP1 : Hid (Own eInt 1 w.heap.size 3 wr (.slice (some ⟨pb, 0, none⟩) p.length cap) (Ord.cs p)) := Lib.hid (by
                have := own_take HP.out (m := p.length) (by simp [Ord.cs])
                rwa [show (Ord.cs (p ++ [n])).take p.length = Ord.cs p by simp [Ord.cs]] at this)
              have HA1 : Hid (Apart u12 (.slice (some ⟨pb, 0, none⟩) p.length cap)) := Lib.hid HA.out
              obtain ⟨c1, c2, c3⟩ := HB.out.cell hnN
              clear hc' ht' hge hcell hpb2 HC HD HOk HP HA
              go_wp2_with (at_builtin; go_must (refine wpList_append1 rfl (en := eInt) (s := 1) (base := w.heap.size) (e := 3) _ _ 23 rfl (.int .i64 0) 8 Try.underlying23 info3 rfl (by decide) len_eInt one_eInt u12 _ _ (n : Int) rfl (HO.out.alloc _) rfl (Sl.fresh len_eInt rfl rfl rfl (by simp [maxLen])) (by simp only [maxLen]; omega) (by omega) (by simp; omega) ?_; intro ov' w6 hown hgr hbel hblk; have HO2 := Lib.hid hown; have HW2 := Lib.hid ((HW.out.alloc HW.out.size (.cells #[.int .i64 (n : Int)] 3)).trans hbel); have hB2 := grown_heap hgr (heap_keep (p := .cells #[.int .i64 (n : Int)] 3) HB.out.blk) (HO.out.ne_elem HB.out.blk (by decide)); have HB2 : Hid (Bl w.heap.size w.heap.size g.length left w6) := Lib.hid ⟨HB.out.hb, hB2⟩; have hmv := (Mv.below (en := eInt) (s := 1) (base := w.heap.size) (e := 3) (q := u12) (bel_alloc wr (.cells #[.int .i64 (n : Int)] 3))).trans (Mv.append hgr (by simpa using hblk)); have HP2 := Lib.hid (hmv _ _ HP1.out (apart_symm HA1.out)).1; have HA2 := Lib.hid (hmv _ _ HP1.out (apart_symm HA1.out)).2; clear hown hgr hbel hblk hB2 hmv c1 c2 c3 hg1 ck fk; obtain ⟨c1, c2, c3⟩ := HB2.out.cell hnN))
              have HB3 := Lib.hid (HB2.out.set n false)
              have HO3 := Lib.hid (Own.bl HO2.out HB2.out n (.bool false))
              have HP3 := Lib.hid (Own.bl HP2.out HB2.out n (.bool false))
              have HW3 : Hid (Below w.heap.size w (w6.setCell ⟨w.heap.size, n, none⟩ (.bool false))) := Lib.hid (HW2.out.setCell (p := ⟨w.heap.size, n, none⟩) (Nat.le_refl _) _)
              obtain ⟨w7, hw7⟩ : ∃ w7, w7 = w6.setCell ⟨w.heap.size, n, none⟩ (.bool false) := ⟨_, rfl⟩
              rw [← hw7] at HB3 HO3 HP3 HW3 ⊢
              obtain ⟨left', HL'⟩ : ∃ left', Hid (left' = Dag.upd left n false) := ⟨_, Lib.hid rfl⟩
              rw [← HL'.out] at HB3 HOk2 HC2 HD2
              clear hw7 HB2 HO2 HW2 HB HO HW HP1 HP2 HA1
              have hsz7 := HW3.out.size
              refine (ready_any gv w7 es g HG.out _ _ _ (hG.ext HW3.out) HB3.out).mono ?_
              rintro e w8 ⟨rfl, hr, hb2⟩
              have HR := Lib.hid hr
              have HB4 := Lib.hid (HB3.out.ext hb2)
              have HO4 := Lib.hid (HO3.out.ext hb2)
              have HP4 := Lib.hid (HP3.out.ext hb2)
              have HW4 := Lib.hid (HW3.out.trans (hb2.mono hsz7))
              obtain ⟨b, o, hb1, hix, P, T, a1, n1, k1, HX, HLn, q0, q1, hs1, hm1⟩ := hG.at (Below.refl _ _) hnN
              have HPar : Hid (Dag.par g n = P.map Int.toNat) := Lib.hid (by rw [Dag.par_eq hnN, HX.out])
              have hls := hs1.run_len (P := Try.prog) Try.underlying23
              rw [HLn.out] at hls
              have hn16 : n1 ≤ 6 := by rw [← HLn.out]; have := (HG.out.2 n hnN).1; rwa [HX.out] at this
              obtain ⟨D4, hD4⟩ : ∃ D4, Hid (D4 = p ++ (Dag.par g n).reverse.filter (Ord.rdy g left')) := ⟨_, Lib.hid rfl⟩
              rw [← hD4.out] at HD2 HOk2
              have HI : Hid (p ++ ((Dag.par g n).take n1).reverse.filter (Ord.rdy g left') = D4) := Lib.hid (by rw [hD4.out, List.take_of_length_le (by rw [HPar.out, List.length_map, HLn.out]; omega)])
              clear hr hb2 HB3 HO3 HW3 HP3
              have q2 := (HW4.out.cell (p := ⟨b, o, none⟩) hb1).trans q0
              go_wp2_with fail
              go_loopw [8, 15] (fun pv iv wr => ∃ (k : Nat) (ps : List Nat), Sl.Down k iv ∧ k ≤ n1 ∧ ps.length + k ≤ p.length + n1 ∧ Hid (ps ++ ((Dag.par g n).take k).reverse.filter (Ord.rdy g left') = D4) ∧
                Hid (Bl w.heap.size w.heap.size g.length left' wr) ∧ Hid (Bl w7.heap.size w7.heap.size g.length (Ord.rdy g left') wr) ∧ Hid (Own eInt 1 w.heap.size 3 wr pv (Ord.cs ps)) ∧ Hid (Own eInt 1 w.heap.size 3 wr ov' (out ++ [(n : Int)])) ∧ Hid (Apart pv ov') ∧ Hid (Below w.heap.size w wr)) (fun _ iv _ => (intOf iv + 1).toNat)
              case atStart => exact ⟨n1, p, Sl.Down.of n1, Nat.le_refl _, Nat.le_refl _, HI, HB4, HR, HP4, HO4, HA2, HW4⟩
              case round =>
                obtain ⟨k, ps, hd, hk, hpl2, HI, HB, HR, HP, HO, HA, HW⟩ := hrel
                rcases hd with ⟨q, rfl, rfl⟩ | ⟨rfl, rfl⟩
                · have hq : q < n1 := by omega
                  have hkP : q < P.length := by rw [HLn.out]; exact hq
                  have q3 := (HW.out.cell (p := ⟨b, o, none⟩) hb1).trans q0
                  obtain ⟨b2, o2, hb2, hix2, hc2⟩ := hs1.atB HW.out (P := Try.prog) Try.underlying23 cells3 some3 hkP
                  have e1 := hc2 0 (by omega)
                  simp only [eInt, List.getElem?_cons_zero, Nat.add_zero] at e1
                  obtain ⟨x, HY⟩ : ∃ x, Hid (P[q] = x) := ⟨_, Lib.hid rfl⟩
                  rw [HY.out] at e1
                  have hok : 0 ≤ x ∧ x < n := by
                    have h3 := (HG.out.2 n hnN).2.2.2 q (by rw [HX.out]; exact hkP)
                    have h4 : g[n].1[q]'(by rw [HX.out]; exact hkP) = x := by rw [← HY.out]; congr 1; rw [HX.out]
                    rw [h4] at h3
                    exact ⟨h3.1, h3.2.1⟩
                  obtain ⟨y, rfl⟩ : ∃ y : Nat, x = y := ⟨x.toNat, by omega⟩
                  have hyn : y < g.length := by omega
                  have HTk : Hid (((Dag.par g n).take (q + 1)).reverse = y :: ((Dag.par g n).take q).reverse) := Lib.hid (by
                    rw [HPar.out, par_take' hkP, List.reverse_append, HY.out]; rfl)
                  have hsz := HW.out.size
                  obtain ⟨c1, c2, c3⟩ := HR.out.cell hyn
                  clear hc2 hok
                  cases hfy : Ord.rdy g left' y with
                  | false =>
                    rw [hfy] at c1
                    have HI2 : Hid (ps ++ ((Dag.par g n).take q).reverse.filter (Ord.rdy g left') = D4) := Lib.hid (by have := HI.out; rw [HTk.out, List.filter_cons, hfy] at this; exact this)
                    clear HI hfy
                    go_wp2_with fail
                    go_roundw
                    case rel => exact ⟨q, ps, Sl.Down.of q, by omega, by omega, HI2, HB, HR, HP, HO, HA, HW⟩
                    case measure => simp [intOf]
                  | true =>
                    rw [hfy] at c1
                    have HI2 : Hid ((ps ++ [y]) ++ ((Dag.par g n).take q).reverse.filter (Ord.rdy g left') = D4) := Lib.hid (by have := HI.out; rw [HTk.out, List.filter_cons, hfy] at this; simpa using this)
                    have hlcs : Hid ((Ord.cs ps).length = ps.length) := Lib.hid (Ord.cs_len ps)
                    clear HI hfy
                    go_wp2_with (at_builtin; go_must (refine wpList_append1 rfl (en := eInt) (s := 1) (base := w.heap.size) (e := 3) _ _ 23 rfl (.int .i64 0) 8 Try.underlying23 info3 rfl (by decide) len_eInt one_eInt u8 _ _ (y : Int) rfl (HP.out.alloc _) rfl (Sl.fresh len_eInt rfl rfl rfl (by simp [maxLen])) (by rw [hlcs.out]; simp only [maxLen]; omega) (by rw [hlcs.out]; omega) (by simp; omega) ?_; intro pv' w9 hown hgr hbel hblk))
                    have hcs : Ord.cs ps ++ [(y : Int)] = Ord.cs (ps ++ [y]) := by simp [Ord.cs]
                    rw [hcs] at hown
                    have HP2 := Lib.hid hown
                    have HW2 := Lib.hid ((HW.out.alloc HW.out.size (.cells #[.int .i64 (y : Int)] 3)).trans hbel)
                    have HB2 : Hid (Bl w.heap.size w.heap.size g.length left' w9) := Lib.hid ⟨HB.out.hb, grown_heap hgr (heap_keep (p := .cells #[.int .i64 (y : Int)] 3) HB.out.blk) (HP.out.ne_elem HB.out.blk (by decide))⟩
                    have HR2 : Hid (Bl w7.heap.size w7.heap.size g.length (Ord.rdy g left') w9) := Lib.hid ⟨HR.out.hb, grown_heap hgr (heap_keep (p := .cells #[.int .i64 (y : Int)] 3) HR.out.blk) (HP.out.ne_elem HR.out.blk (by decide))⟩
                    have hmv := (Mv.below (en := eInt) (s := 1) (base := w.heap.size) (e := 3) (q := u8) (bel_alloc wr (.cells #[.int .i64 (y : Int)] 3))).trans (Mv.append hgr (by simpa using hblk))
                    have HO2 := Lib.hid (hmv _ _ HO.out (apart_symm HA.out)).1
                    have HA2 := Lib.hid (apart_symm (hmv _ _ HO.out (apart_symm HA.out)).2)
                    clear hown hgr hbel hblk hmv HP HB HR HO HA HW
                    go_wp2_with fail
                    go_roundw
                    case rel => exact ⟨q, ps ++ [y], Sl.Down.of q, by omega, by simp; omega, HI2, HB2, HR2, HP2, HO2, HA2, HW2⟩
                    case measure => simp [intOf]
                · have HE : Hid (ps = D4) := Lib.hid (by have := HI.out; simpa using this)
                  clear HI
                  go_wp2_with fail
                  go_roundg f'
                  case rel => exact ⟨left', ps, out ++ [(n : Int)], by simp; omega, HC2, by rw [HE.out]; exact HD2, by rw [HE.out]; exact HOk2, HB, HP, HO, Lib.hid (apart_symm HA.out), HW⟩
                  case measure => omega
        · obtain ⟨B', rfl, h4, h5⟩ := Ord.seqL_go h1 HC.out h2 h3
          have HC2 := Lib.hid h4
          have HD2 : Hid ((Ord.seqL id (Ord.key (g.map (·.2))) g.length B' (Dag.upd left y false)).reverse ++ ((y : Int) :: pile) = F) := Lib.hid (by have := HD.out; rw [h5] at this; simpa using this)
          rw [h1]
          obtain ⟨c1, c2, c3⟩ := HB.out.cell h2
          clear h1 h3 h4 h5 HD
          have HPs := Lib.hid (((HO.out.sl len_eInt).ext (bel_alloc wr (.cells #[.int .i64 (y : Int)] 3))))
          go_wp2_with (at_builtin; go_must (refine wpList_append rfl (en := eInt) (s := 1) (base := wr.heap.size) (e := 3) _ _ 23 rfl (.int .i64 0) 8 Try.underlying23 info3 rfl (by decide) len_eInt one_eInt _ _ [(y : Int)] pile rfl (own_fresh1 wr y) rfl HPs.out (by simp only [maxLen, List.length_singleton]; omega) (by simp only [List.length_singleton]; omega) (by simp) ?_; intro v6 w6 hown hgr hbel; have HO2 := Lib.hid hown; have HY := Lib.hid ((bel_alloc wr (.cells #[.int .i64 (y : Int)] 3)).trans hbel); clear hown hgr hbel; have HB2 := Lib.hid (HB.out.ext HY.out); clear c1 c2 c3; obtain ⟨c1, c2, c3⟩ := HB2.out.cell h2))
          have HB3 := Lib.hid (HB2.out.set y false)
          have HO3 := Lib.hid (Own.bl HO2.out HB2.out y (.bool false))
          have HX3 : Hid (Below w3.heap.size w3 (w6.setCell ⟨w3.heap.size, y, none⟩ (.bool false))) := Lib.hid ((HX.out.trans (HY.out.mono hsz)).setCell (p := ⟨w3.heap.size, y, none⟩) (Nat.le_refl _) _)
          clear HB2 HO2 HB HO HX HY HPs
          refine (youngest_any _ _ g.length _ bv _ _ (by omega) (by simp) HB3.out ((HT3.out.sl len_eInt).ext HX3.out)).mono ?_
          rintro e w9 ⟨rfl, nd, rfl⟩
          go_wp2_with fail
          go_roundg B'
          case rel => exact ⟨_, _, rfl, by simp; omega, HC2, HD2, Lib.hid ⟨HB3.out.hb, HB3.out.blk⟩, Lib.hid (HO3.out.mono hsz), Lib.hid (below_drewN HX3.out nd)⟩
          case measure => omega
end Go.Proofs.Ytcpmnocknpalfaa
