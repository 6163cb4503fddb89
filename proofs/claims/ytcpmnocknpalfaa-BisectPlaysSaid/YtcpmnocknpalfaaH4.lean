/-
  Layer 14: the painter: the next node taken, its parents marked. No condition besides what the painter is.
-/
import Derived.Test.YtcpmnocknpalfaaH3
import Derived.Test.YtcpmnocknpalfaaD3
namespace Go.Proofs.Ytcpmnocknpalfaa
open Go.RowKit Go.Sl

theorem Pt.top {base pb mb B : Nat} {gv qv : Value} {q : List Int} {ms : List Nat} {w : World} (h : Pt base pb mb gv qv q B ms w) (hq : q ≠ []) :
    ∃ n : Nat, Hp.ge q 0 = n ∧ n < B ∧ n < ms.length ∧ Dag.bit ms n 3 = true ∧ ∀ m, n < m → m < B → Dag.bit ms m 3 = false := by
  have hl : 0 < q.length := List.length_pos_iff.2 hq
  have h0 : Hp.ge q 0 ∈ q := by simp [Hp.ge, List.getD_eq_getElem?_getD, hl]
  obtain ⟨n, h1, h2, h3, h4⟩ := (h.mem _).1 h0
  refine ⟨n, h4, h1, h2, h3, fun m hm1 hm2 => ?_⟩
  cases e : Dag.bit ms m 3
  · rfl
  · have hml : m < ms.length := by
      apply Classical.byContradiction
      intro hc
      unfold Dag.bit at e
      simp [List.getD_eq_getElem?_getD, Nat.le_of_not_lt hc] at e
    have hmq : (m : Int) ∈ q := (h.mem _).2 ⟨m, hm2, hml, e, rfl⟩
    obtain ⟨j, hj, e2⟩ := List.mem_iff_getElem.1 hmq
    have := Hp.hp_max le_tr (fun a => Int.le_refl a) h.heap j hj
    rw [h4] at this
    simp only [Hp.ge, List.getD_eq_getElem?_getD, List.getElem?_eq_getElem hj, Option.getD_some, e2] at this
    omega

theorem Pt.popped {base pb mb B n : Nat} {gv qv : Value} {q : List Int} {ms : List Nat} {w w1 : World} (h : Pt base pb mb gv qv q B ms w) (hq : q ≠ []) (hn : Hp.ge q 0 = n)
    (hQ : Queue base pb gv (.slice (some ⟨mb, 0, none⟩) ms.length ms.length) qv (Hp.cut q) w w1) : PtN base pb mb gv qv n ms w w1 := by
  obtain ⟨n', hn', h1, h2, h3, h4⟩ := h.top hq
  obtain rfl : n = n' := by omega
  obtain ⟨v, q', k1, k2, k3⟩ := hQ
  have hp := Hp.cut_perm hq
  rw [hn] at hp
  have hnd : ((n : Int) :: Hp.cut q).Nodup := (hp.nodup_iff).2 h.nodup
  obtain ⟨hnc, hnd2⟩ := List.nodup_cons.1 hnd
  refine ⟨v, q', ⟨h.hpb, h.hmb, k1.blk, k1.kt _ _ _ (by decide) (by decide) h.mks, k1.own, k2, (k3.nodup_iff).2 hnd2, fun x => ?_, h.small, h.len⟩, k1.mv, k1.bel⟩
  rw [k3.mem_iff]
  constructor
  · intro hx
    have hxq : x ∈ q := hp.mem_iff.1 (List.mem_cons_of_mem _ hx)
    obtain ⟨m, m1, m2, m3, m4⟩ := (h.mem x).1 hxq
    refine ⟨m, ?_, m2, m3, m4⟩
    have hne : m ≠ n := by rintro rfl; subst m4; exact hnc hx
    apply Classical.byContradiction
    intro hc
    rw [h4 m (by omega) m1] at m3; cases m3
  · rintro ⟨m, m1, m2, m3, rfl⟩
    have hxq : (m : Int) ∈ q := (h.mem _).2 ⟨m, by omega, m2, m3, rfl⟩
    rcases List.mem_cons.1 (hp.mem_iff.2 hxq) with e | e
    · omega
    · exact e

theorem empty_any (base pb mb B : Nat) (gv qv : Value) (q : List Int) (ms : List Nat) (t : Bool) (ht : decide (q = []) = t) (w : World) (h : Pt base pb mb gv qv q B ms w) :
    Calls Try.prog 71 #[.pointer (some ⟨pb, 2, none⟩)] w fun e w' => e = .returned (.bool t) ∧ w = w' := by
  have hlen := (h.own.sl len_eInt).run_len (P := Try.prog) Try.underlying23
  obtain ⟨c0, c1, c2, c3, f1, f2, f3⟩ := three100 h.blk
  have e1 : ((q.length : Int) == 0) = t := by
    rw [← ht]
    by_cases e : q = []
    · simp [e]
    · have := List.length_pos_iff.2 e
      simp [e]
  have e2 : (q.length == 0) = t := by
    rw [← ht]
    by_cases e : q = []
    · simp [e]
    · have := List.length_pos_iff.2 e
      simp [e]
  have e3 : q.isEmpty = t := by
    rw [← ht]
    cases q <;> simp
  clear h ht
  go_enter Try.func71, Try.ntmps71
  go_wp2_with fail
  go_ret
  exact ⟨rfl, rfl⟩

set_option maxRecDepth 100000 in
set_option maxHeartbeats 1000000 in
theorem next_any (base pb mb B n : Nat) (gv qv : Value) (q : List Int) (ms : List Nat) (w : World) (h : Pt base pb mb gv qv q B ms w) (hq : q ≠ []) (hn : Hp.ge q 0 = n) :
    Calls Try.prog 72 #[.pointer (some ⟨pb, 0, none⟩)] w fun e w' => e = .returned (.tuple #[.int .i64 n, .int .u8 ((Dag.fl ms n : Nat) : Int)]) ∧ PtN base pb mb gv qv n ms w w' := by
  obtain ⟨n', hn', h1, hnl, h3, h4⟩ := h.top hq
  obtain rfl : n = n' := by omega
  have hlen := h.len
  obtain ⟨k, hk⟩ : ∃ k, ms.getD n 0 = k := ⟨_, rfl⟩
  have hsm := getD_lt16 h.small n
  rw [hk] at hsm
  have e1 : bits .andNot .u8 (k : Int) 8 = ((k &&& 7 : Nat) : Int) := bnot8 k hsm
  have HE : Hid (Dag.fl ms n = k &&& 7) := Lib.hid (by unfold Dag.fl; rw [hk])
  have HC := Lib.hid (pop_any base pb gv _ qv q w h.hpb h.blk h.own h.heap (by have := h.qlen; omega) hq)
  rw [hn] at HC
  have HP := Lib.hid (fun w1 => h.popped (w1 := w1) hq hn)
  have HH := Lib.hid h
  have HK := Lib.hid hk
  obtain ⟨c0, c1, c2, c3, f1, f2, f3⟩ := three100 h.blk
  clear hk h hn hn' hq h3 h4
  go_enter Try.func72, Try.ntmps72
  go_wp2_with (go_at_call 101; go_must (refine HC.out.mono ?_; rintro e w1 ⟨rfl, hq⟩; have HF := Lib.hid (HP.out w1 hq); obtain ⟨v, q', g1, -, -⟩ := hq; obtain ⟨c0, c1, c2, c3, f1, f2, f3⟩ := three100 g1.blk; obtain ⟨m4, m5, m6⟩ := mcell_kt HH.out hnl g1.kt; rw [HK.out] at m4; clear g1))
  go_quiet (fail)
  go_wp2_with fail
  go_ret2
  refine ⟨by rw [HE.out]; rfl, ?_⟩
  obtain ⟨v2, q2, k1, k2, k3⟩ := HF.out
  exact ⟨v2, q2, k1.drewN _, fun v l a b => k2 v l a b, below_drewN k3 _⟩

theorem PtN.trans {base pb mb B : Nat} {gv qv qv' : Value} {ms'' : List Nat} {w w1 w2 : World} (hm : Mv eInt 1 base 3 qv qv' w w1) (hb : Below base w w1) (h2 : PtN base pb mb gv qv' B ms'' w1 w2) : PtN base pb mb gv qv B ms'' w w2 := by
  obtain ⟨v, q, k1, k2, k3⟩ := h2
  exact ⟨v, q, k1, hm.trans k2, hb.trans k3⟩
theorem mks_snoc (ms : List Nat) (l : List Nat) (x f : Nat) : Dag.mks ms (l ++ [x]) f = Dag.mk (Dag.mks ms l f) x f := by
  simp [Dag.mks, List.foldl_append]
theorem par_take {P : List Int} {k : Nat} (h : k < P.length) : (P.take (k + 1)).map Int.toNat = (P.take k).map Int.toNat ++ [P[k].toNat] := by
  rw [List.take_succ_eq_append_getElem h, List.map_append]; rfl

set_option maxRecDepth 100000 in
set_option maxHeartbeats 1000000 in
theorem hand_any (base pb mb n f : Nat) (nv fv : Int) (hnv : nv = n) (hfv : fv = f) (gv qv : Value) (q : List Int) (ms : List Nat) (w0 w : World) (es : List (SlV × Int)) (g : List Nd) (hG : Gr w0 gv es g) (hg : Dag.okG g) (hw0 : Below w0.heap.size w0 w) (hb0 : w0.heap.size ≤ base)
    (h : Pt base pb mb gv qv q n ms w) (hn : n < g.length) (hl : ms.length = g.length) (hf : f < 8) :
    Calls Try.prog 73 #[.pointer (some ⟨pb, 0, none⟩), .int .i64 nv, .int .u8 fv] w fun e w' => e = .returned (.tuple #[]) ∧ PtN base pb mb gv qv n (Dag.mks ms (Dag.par g n) f) w w' := by
  subst hnv hfv
  have hgl := hg.1
  have hix0 := hG.run_len
  obtain ⟨b, o, hb1, hix, P, T, a1, n1, k1, HX, HL, q0, q1, hs1, hm1⟩ := hG.at hw0 hn
  have HPar : Hid (Dag.par g n = P.map Int.toNat) := Lib.hid (by rw [Dag.par_eq hn, HX.out])
  have HOk : Hid (∀ i (h : i < P.length), Dag.parOk n P i P[i]) := Lib.hid (by have := (hg.2 n hn).2.2.2; rw [HX.out] at this; exact this)
  have hls := hs1.run_len (P := Try.prog) Try.underlying23
  rw [HL.out] at hls
  obtain ⟨c0, c1, c2, c3, f1, f2, f3⟩ := three100 h.blk
  have HH := Lib.hid h
  have HLn := Lib.hid hl
  have hsub : Below w0.heap.size w0 w → ∀ wr, Below base w wr → Below w0.heap.size w0 wr := fun h1 wr h2 => h1.trans (h2.mono hb0)
  have HW := Lib.hid (hsub hw0)
  clear hsub hw0 h hl hgl
  go_enter Try.func73, Try.ntmps73
  go_wp2_with fail
  go_loopw [17] (fun i wr => ∃ (k : Nat), i = .int .i64 k ∧ k ≤ n1 ∧ Hid (PtN base pb mb gv qv n (Dag.mks ms ((P.take k).map Int.toNat) f) w wr)) (fun i _ => n1 - (intOf i).toNat)
  case atStart => exact ⟨0, rfl, by omega, Lib.hid ⟨qv, q, HH.out, Mv.refl _ _, Below.refl _ _⟩⟩
  case round =>
    obtain ⟨k, rfl, hk, HP⟩ := hrel
    by_cases hlt : k < n1
    · obtain ⟨qv', q', p1, p2, p3⟩ := HP.out
      have hkP : k < P.length := by rw [HL.out]; exact hlt
      obtain ⟨b2, o2, hb2, hix2, hc2⟩ := hs1.atB (HW.out wr p3) (P := Try.prog) Try.underlying23 cells3 some3 hkP
      have e1 := hc2 0 (by omega)
      simp only [eInt, List.getElem?_cons_zero, Nat.add_zero] at e1
      obtain ⟨x, HY⟩ : ∃ x, Hid (P[k] = x) := ⟨_, Lib.hid rfl⟩
      rw [HY.out] at e1
      have hok := HOk.out k hkP
      rw [HY.out] at hok
      obtain ⟨y, rfl⟩ : ∃ y : Nat, x = y := ⟨x.toNat, by have := hok.1; omega⟩
      have hyn : y < n := by have := hok.2.1; omega
      have HT : Hid ((P.take (k + 1)).map Int.toNat = (P.take k).map Int.toNat ++ [y]) := Lib.hid (by rw [par_take hkP, HY.out]; rfl)
      have HC := Lib.hid (mark_any base pb mb n gv qv' q' _ y f y f rfl rfl wr p1 (by rw [Dag.mks_len, HLn.out]; omega) hyn hf)
      have HN := Lib.hid (fun w2 => PtN.trans (w2 := w2) (ms'' := Dag.mk (Dag.mks ms ((P.take k).map Int.toNat) f) y f) (pb := pb) (mb := mb) (gv := gv) (B := n) p2 p3)
      clear hc2 hok p1 p2 p3 HP
      go_wp2_with (go_at_call 70; go_must (refine HC.out.mono ?_; rintro e w2 ⟨rfl, hq⟩; have HF := Lib.hid (HN.out w2 hq); clear hq))
      go_roundw
      case rel => exact ⟨k + 1, by go_num, by omega, Lib.hid (by rw [HT.out, mks_snoc]; exact HF.out)⟩
      case measure => simp [intOf]; omega
    · have HE : Hid ((P.take k).map Int.toNat = Dag.par g n) := Lib.hid (by rw [HPar.out, List.take_of_length_le (by rw [HL.out]; omega)])
      go_wp2_with fail
      go_end0
      exact ⟨rfl, by have := HP.out; rwa [HE.out] at this⟩
end Go.Proofs.Ytcpmnocknpalfaa
