/-
  Layer 15: those that are ready at first, the oldest first. No condition besides what the arguments are.
-/
import Derived.Test.YtcpmnocknpalfaaQ3
import Derived.Test.YtcpmnocknpalfaaQ5
import Derived.Test.YtcpmnocknpalfaaK5
import Derived.Test.YtcpmnocknpalfaaH5
namespace Go.Proofs.Ytcpmnocknpalfaa
open Go.RowKit Go.Sl
set_option linter.unusedVariables false

theorem rdy_op {g : List Nd} {inl : Nat → Bool} {x : Nat} : Ord.rdy g inl x = (inl x && decide (Ord.opn g inl x = 0)) := by
  rw [Bool.eq_iff_iff, Ord.rdy_opn]; simp
/-- below n alone -/
def bel (n : Nat) (f : Nat → Bool) (x : Nat) : Bool := decide (x < n) && f x
theorem bel_succ {n : Nat} {f : Nat → Bool} (x : Nat) : bel (n + 1) f x = Dag.upd (bel n f) n (f n) x := by
  unfold bel Dag.upd
  by_cases e : x = n
  · subst e; simp
  · rw [if_neg e]
    congr 1
    simp only [decide_eq_decide]
    omega

/-- a queue at block pb that holds those of f -/
structure QS (base pb : Nat) (fv : Value) (K : Int → Int) (N : Nat) (f : Nat → Bool) (v : Value) (q : List Int) (wr : World) : Prop where
  hb : base ≤ pb
  blk : wr.heap[pb]? = some (.cells #[v, fv] 117 (0, 0))
  own : Own eInt 1 base 3 wr v q
  ok : Ord.QOk K N f q
theorem QS.put {base pb N n : Nat} {fv v : Value} {K : Int → Int} {f : Nat → Bool} {q : List Int} {wr w' : World} (h : QS base pb fv K N f v q wr) (hn : n < N) (hf : f n = false) (hQ : QueueX base pb fv v K ((n : Int) :: q) wr w') :
    ∃ v' q', QS base pb fv K N (Dag.upd f n true) v' q' w' ∧ Mv eInt 1 base 3 v v' wr w' ∧ Kt 3 117 wr w' ∧ Below base wr w' := by
  obtain ⟨v', q', h1, h2, h3⟩ := hQ
  exact ⟨v', q', ⟨h.hb, h1.blk, h1.own, h.ok.put hn hf h2 h3⟩, h1.mv, h1.kt, h1.bel⟩
theorem QS.cut {base pb N n : Nat} {fv v : Value} {K : Int → Int} {f : Nat → Bool} {q : List Int} {wr w' : World} (h : QS base pb fv K N f v q wr) (hq : q ≠ []) (hn : Hp.ge q 0 = n) (hQ : QueueX base pb fv v K (Hp.cut q) wr w') :
    ∃ v' q', QS base pb fv K N (Dag.upd f n false) v' q' w' ∧ Mv eInt 1 base 3 v v' wr w' ∧ Kt 3 117 wr w' ∧ Below base wr w' := by
  obtain ⟨v', q', h1, h2, h3⟩ := hQ
  exact ⟨v', q', ⟨h.hb, h1.blk, h1.own, h.ok.cut hq hn h2 h3⟩, h1.mv, h1.kt, h1.bel⟩
theorem QS.congr {base pb N : Nat} {fv v : Value} {K : Int → Int} {f f' : Nat → Bool} {q : List Int} {wr : World} (h : QS base pb fv K N f v q wr) (he : ∀ x, x < N → f x = f' x) : QS base pb fv K N f' v q wr := ⟨h.hb, h.blk, h.own, h.ok.congr he⟩

set_option maxRecDepth 100000 in
set_option maxHeartbeats 1000000 in
theorem ready92 (fk cb wb ib ob b0 : Nat) (gv : Value) (g : List Nd) (inl : Nat → Bool) (bl : List Int) (w : World) (hgl : g.length ≤ 128) (hgv : ∀ (ty : TypeId) (u : World), (Builtin.len_ #[22] ty #[gv]).run Try.prog u = .ok (.int .i64 g.length) u)
    (bx : Value) (eb : TypeId) (he : eb ≠ 3 ∧ eb ≠ 117) (hC0 : w.heap[cb]? = some (.cells #[bx] eb (0, 0))) (hold : OldV w cb bx eb (keyV fk cb) (Ord.keyI bl) g.length) (hk : WK b0 wb ib ob gv g.length inl (fun x => (Ord.opn g inl x : Nat)) w) :
    Calls Try.prog 92 #[.pointer (some ⟨wb, 0, none⟩), keyV fk cb] w fun e w' => ∃ v, e = .returned v ∧ Own eInt 1 w.heap.size 3 w' v (Ord.first g (Ord.key bl) inl) ∧ Below w.heap.size w w' := by
  obtain ⟨hwbl, d0, d1, d2, -, -, -⟩ := three hk.blk
  have HK := Lib.hid hk
  have HC0 : Hid (∀ wr, Below w.heap.size w wr → wr.heap[cb]? = some (.cells #[bx] eb (0, 0))) := Lib.hid (fun wr h => (h.block _ (Array.getElem?_eq_some_iff.1 hC0).1).trans hC0)
  have HE0 := Lib.hid he
  clear hC0 he
  have HB0 := Lib.hid (bel_alloc w (.cells #[.slice none 0 0, keyV fk cb] 117))
  have HQ0 : Hid (QS w.heap.size w.heap.size (keyV fk cb) (Ord.keyI bl) g.length (bel 0 (Ord.rdy g inl)) (.slice none 0 0) [] (w.alloc (.cells #[.slice none 0 0, keyV fk cb] 117))) := Lib.hid
    ⟨Nat.le_refl _, heap_alloc_new _ _, Own.nil _ _ _ _ _, (Ord.QOk.nil _ _).congr (fun x _ => by simp [bel])⟩
  obtain ⟨D, hD⟩ : ∃ D, D = Ord.seqL id (Ord.key bl) g.length g.length (Ord.rdy g inl) := ⟨_, rfl⟩
  have hF : Ord.first g (Ord.key bl) inl = D.reverse := by rw [hD]; rfl
  rw [hF]
  obtain ⟨fv, hfv⟩ : ∃ fv, Hid (keyV fk cb = fv) := ⟨_, Lib.hid rfl⟩
  clear hk
  go_enter Try.func92, Try.ntmps92
  unfold keyV at *
  go_wp2_with fail
  rw [hfv.out] at hold HQ0 HB0 ⊢
  go_loopw [16] (fun i wr => ∃ (n : Nat) (v : Value) (q : List Int), i = .int .i64 n ∧ n ≤ g.length ∧ Hid (QS w.heap.size w.heap.size fv (Ord.keyI bl) g.length (bel n (Ord.rdy g inl)) v q wr) ∧ Hid (Below w.heap.size w wr)) (fun i _ => g.length - (intOf i).toNat)
  case atStart => exact ⟨0, _, [], rfl, by omega, HQ0, HB0⟩
  case round =>
    obtain ⟨n, v, q, rfl, hn, HQ, HW⟩ := hrel
    have hszw := HW.out.size
    by_cases hlt : n < g.length
    · have hib : ib < w.heap.size := (HK.out.inB.cell hlt).2.2
      obtain ⟨o1, -, hob, -⟩ := oi_cell HK.out.opn hlt
      have e0 := (HW.out.cell (p := ⟨wb, 0, none⟩) hwbl).trans d0
      have e1 := (HW.out.cell (p := ⟨wb, 1, none⟩) hwbl).trans d1
      have e2 := (HW.out.cell (p := ⟨wb, 2, none⟩) hwbl).trans d2
      have c1 := (HW.out.cell (p := ⟨ib, n, none⟩) hib).trans (HK.out.inB.cell hlt).1
      have c2 := (HW.out.cell (p := ⟨ob, n, none⟩) hob).trans o1
      cases hr : Ord.rdy g inl n with
      | false =>
        have HQ2 : Hid (QS w.heap.size w.heap.size fv (Ord.keyI bl) g.length (bel (n + 1) (Ord.rdy g inl)) v q wr) := Lib.hid (HQ.out.congr (fun x _ => by
          rw [bel_succ, hr]
          by_cases e : x = n
          · subst e; rw [Dag.upd_same]; simp [bel]
          · rw [Dag.upd_ne _ _ e]))
        clear HQ
        cases hin : inl n with
        | false =>
          rw [hin] at c1
          clear hin hr
          go_wp2_with fail
          go_roundw
          case rel => exact ⟨n + 1, v, q, by go_num, by omega, HQ2, HW⟩
          case measure => simp [intOf]; omega
        | true =>
          rw [hin] at c1
          rw [rdy_op, hin] at hr
          obtain ⟨z, hz⟩ : ∃ z, z = Ord.opn g inl n := ⟨_, rfl⟩
          rw [← hz] at hr c2
          have hz0 : ((z : Int) == 0) = false := by simp at hr ⊢; exact hr
          have hz1 : ¬ z = 0 := by simpa using hr
          clear hin hr hz
          go_wp2_with fail
          go_roundw
          case rel => exact ⟨n + 1, v, q, by go_num, by omega, HQ2, HW⟩
          case measure => simp [intOf]; omega
      | true =>
        have hin : inl n = true := (Ord.rdy_opn.1 hr).1
        have hop : Ord.opn g inl n = 0 := (Ord.rdy_opn.1 hr).2
        rw [hin] at c1
        rw [hop] at c2
        have hql := HQ.out.ok.len
        have HP := put_any w cb bx eb HE0.out fv (Ord.keyI bl) g.length hold wr (HC0.out _ HW.out) HW.out w.heap.size v q (n : Int) (Nat.le_refl _) HQ.out.blk HQ.out.own HQ.out.ok.hp (by omega) HQ.out.ok.inn ⟨by omega, by omega⟩
        have hf0 : bel n (Ord.rdy g inl) n = false := by simp [bel]
        clear hin hop
        go_wp2_with fail
        refine HP.mono ?_
        rintro e w2 ⟨rfl, hQ⟩
        obtain ⟨v', q', hq2, -, -, hb2⟩ := HQ.out.put hlt hf0 hQ
        have HQ2 : Hid (QS w.heap.size w.heap.size fv (Ord.keyI bl) g.length (bel (n + 1) (Ord.rdy g inl)) v' q' w2) := Lib.hid (hq2.congr (fun x _ => by rw [bel_succ, hr]))
        have HW2 := Lib.hid (HW.out.trans hb2)
        clear hq2 hb2 hQ HP HQ HW hf0 hr
        go_wp2_with fail
        go_roundw
        case rel => exact ⟨n + 1, v', q', by go_num, by omega, HQ2, HW2⟩
        case measure => simp [intOf]; omega
    · have HQ2 : Hid (QS w.heap.size w.heap.size fv (Ord.keyI bl) g.length (Ord.rdy g inl) v q wr) := Lib.hid (HQ.out.congr (fun x hx => by simp [bel]; omega))
      have HC : Hid (Ord.cnt (Ord.rdy g inl) g.length ≤ g.length) := Lib.hid (Ord.cnt_le _ _)
      have HD : Hid ([] ++ Ord.seqL id (Ord.key bl) g.length g.length (Ord.rdy g inl) = D) := Lib.hid hD.symm
      clear HQ hD
      go_wp2_with fail
      go_loopg [7] (g.length) (fun B ov wr => ∃ (f : Nat → Bool) (v : Value) (q out : List Int), out.length + B ≤ g.length ∧ Hid (Ord.cnt f g.length ≤ B) ∧ Hid (out ++ Ord.seqL id (Ord.key bl) g.length B f = D) ∧
        Hid (QS w.heap.size w.heap.size fv (Ord.keyI bl) g.length f v q wr) ∧ Hid (Own eInt 1 w.heap.size 3 wr ov out) ∧ Hid (Apart ov v) ∧ Hid (Below w.heap.size w wr))
      case atStart => exact ⟨_, v, q, [], by simp, HC, HD, HQ2, Lib.hid (Own.nil _ _ _ _ _), Lib.hid (.inl rfl), HW⟩
      case round =>
        clear HW HQ2 HC HD hszw
        obtain ⟨f, v, q, out, hol, HC, HD, HQ, HO, HA, HW⟩ := hrel
        have hszw := HW.out.size
        have HE := empty98 wr w.heap.size w.heap.size v fv q HQ.out.blk HQ.out.own
        by_cases hq : q = []
        · have HX : Hid (out = D) := Lib.hid (by have := HD.out; subst hq; rwa [Ord.seqL_none HQ.out.ok.none, List.append_nil] at this)
          rw [decide_eq_true hq] at HE
          have HR := reverse_any w.heap.size u7 out wr HO.out (by omega)
          rw [HX.out] at HR
          clear HD hq
          go_wp2_with fail
          refine HE.mono ?_
          rintro e w2 ⟨rfl, rfl⟩
          go_wp2_with fail
          refine HR.mono ?_
          rintro e w3 ⟨rfl, hr⟩
          have HR3 := Lib.hid hr.1
          have HW3 := Lib.hid (HW.out.trans hr.2)
          clear hr HR HE
          go_wp2_with fail
          go_ret
          exact ⟨_, rfl, HR3.out, HW3.out⟩
        · obtain ⟨n, ht1, ht2, ht3, ht4⟩ := HQ.out.ok.top hq
          obtain ⟨B', rfl, hc', hs'⟩ := Ord.seq_go Ord.id_rd ht2 ht3 ht4 HC.out
          have HC2 := Lib.hid hc'
          have HD2 : Hid ((out ++ [(n : Int)]) ++ Ord.seqL id (Ord.key bl) g.length B' (Dag.upd f n false) = D) := Lib.hid (by have := HD.out; rw [hs'] at this; simpa using this)
          have hql := HQ.out.ok.len
          have HT := take_any w cb bx eb HE0.out fv (Ord.keyI bl) g.length hold wr (HC0.out _ HW.out) HW.out w.heap.size v q (Nat.le_refl _) HQ.out.blk HQ.out.own HQ.out.ok.hp (by omega) HQ.out.ok.inn hq
          rw [ht1] at HT
          rw [decide_eq_false hq] at HE
          clear hc' hs' HD HC ht3 ht4
          go_wp2_with fail
          refine HE.mono ?_
          rintro e w2 ⟨rfl, rfl⟩
          go_wp2_with fail
          refine HT.mono ?_
          rintro e w2 ⟨rfl, hQ⟩
          obtain ⟨v', q', hq2, hmv, -, hb2⟩ := HQ.out.cut hq ht1 hQ
          have HQ2 := Lib.hid hq2
          have HO2 := Lib.hid (hmv _ _ HO.out HA.out).1
          have HA2 : Hid (Apart u7 v') := Lib.hid (hmv _ _ HO.out HA.out).2
          have HW2 := Lib.hid (HW.out.trans hb2)
          have hsz2 := HW2.out.size
          clear hq2 hmv hb2 hQ HT HE HQ HO HA HW hq ht1
          go_wp2_with (at_builtin; go_must (refine wpList_append1 rfl (en := eInt) (s := 1) (base := w.heap.size) (e := 3) _ _ 23 rfl (.int .i64 0) 8 Try.underlying23 info3 rfl (by decide) len_eInt one_eInt u7 _ _ (n : Int) rfl (HO2.out.alloc _) rfl (Sl.fresh len_eInt rfl rfl rfl (by simp [maxLen])) (by simp only [maxLen]; omega) (by omega) (by simp; omega) ?_; intro ov' w3 hown hgr hbel hblk))
          have HO3 := Lib.hid hown
          have HW3 := Lib.hid ((HW2.out.alloc hsz2 (.cells #[.int .i64 (n : Int)] 3)).trans hbel)
          have hmv := (Mv.below (en := eInt) (s := 1) (base := w.heap.size) (e := 3) (q := u7) (bel_alloc w2 (.cells #[.int .i64 (n : Int)] 3))).trans (Mv.append hgr (by simpa using hblk))
          have hv3 := hmv _ _ HQ2.out.own (apart_symm HA2.out)
          have HQ3 : Hid (QS w.heap.size w.heap.size fv (Ord.keyI bl) g.length (Dag.upd f n false) v' q' w3) := Lib.hid ⟨HQ2.out.hb, grown_heap hgr (heap_keep (p := .cells #[.int .i64 (n : Int)] 3) HQ2.out.blk) (HO2.out.ne_elem HQ2.out.blk (by decide)), hv3.1, HQ2.out.ok⟩
          have HA3 := Lib.hid (apart_symm hv3.2)
          clear hown hgr hbel hblk hmv hv3 HQ2 HO2 HA2 HW2
          go_wp2_with fail
          go_roundg B'
          case rel => exact ⟨_, v', q', _, by simp; omega, HC2, HD2, HQ3, HO3, HA3, HW3⟩
          case measure => omega
end Go.Proofs.Ytcpmnocknpalfaa
