/-
  Layer 15: a walk run with a queue. No condition besides what the arguments are.
-/
import Derived.Test.YtcpmnocknpalfaaQ9
import Derived.Test.YtcpmnocknpalfaaKB
import Derived.Test.YtcpmnocknpalfaaQA
namespace Go.Proofs.Ytcpmnocknpalfaa
open Go.Proofs Go.RowKit Go.Shelf Go.Sl
set_option linter.unusedVariables false

attribute [local go_sem] Oper.semAt_some

theorem method_put (a : Addr) (w : World) : (method 274 115 (.pointer (some a)) "sleuth/order.put").run Try.prog w = .ok (97, .pointer (some a)) w := by kernel_rfl
theorem method_take (a : Addr) (w : World) : (method 274 115 (.pointer (some a)) "sleuth/order.take").run Try.prog w = .ok (99, .pointer (some a)) w := by kernel_rfl
theorem method_empty (a : Addr) (w : World) : (method 274 115 (.pointer (some a)) "sleuth/order.empty").run Try.prog w = .ok (98, .pointer (some a)) w := by kernel_rfl

theorem upd_mem {l : List Int} {y z : Nat} : Dag.upd (fun x => decide ((x : Int) ∈ l)) y true z = decide ((z : Int) ∈ l ++ [(y : Int)]) := by
  unfold Dag.upd
  by_cases e : z = y
  · subst e; simp
  · rw [if_neg e]; simp; omega

set_option maxRecDepth 100000 in
set_option maxHeartbeats 2000000 in
theorem runq_any (cb wb ib ob qb : Nat) (gv fv bx : Value) (eb : TypeId) (he : eb ≠ 3 ∧ eb ≠ 117) (es : List (SlV × Int)) (g : List Nd) (inl : Nat → Bool) (bl : List Int) (fsv : Value) (w0 w : World) (hg : Dag.okG g) (hG : Gr w0 gv es g)
    (hold : OldV w0 cb bx eb fv (Ord.keyI bl) g.length) (hk : WK w0.heap.size wb ib ob gv g.length inl (fun x => (Ord.opn g inl x : Nat)) w) (hqb : w0.heap.size ≤ qb) (hq : w.heap[qb]? = some (.cells #[.slice none 0 0, fv] 117 (0, 0)))
    (hbc : w.heap[cb]? = some (.cells #[bx] eb (0, 0))) (hbel : Below w0.heap.size w0 w) (hfs : Sl.Own eInt 1 w0.heap.size 3 w fsv (Ord.first g (Ord.key bl) inl)) :
    Calls Try.prog 91 #[.pointer (some ⟨wb, 0, none⟩), .iface 115 (.pointer (some ⟨qb, 0, none⟩)), fsv] w fun e w' => ∃ v, e = .returned v ∧ Sl.Own eInt 1 w0.heap.size 3 w' v (Ord.seqL (Ord.rdy g) (Ord.key bl) g.length g.length inl) ∧ Below w0.heap.size w w' := by
  have hgl := hg.1
  have hix0 := hG.run_len
  have hlen := (hfs.sl len_eInt).run_len (P := Try.prog) Try.underlying23
  have hfl := Ord.first_len g (Ord.key bl) inl
  obtain ⟨F, hF⟩ : ∃ F, Hid (F = Ord.first g (Ord.key bl) inl) := ⟨_, Lib.hid rfl⟩
  rw [← hF.out] at hfs hlen hfl
  have hb2 := (bel_alloc w (.cells #[.pointer (some ⟨wb, 0, none⟩)] 111)).trans ((bel_alloc (w.alloc (.cells #[.pointer (some ⟨wb, 0, none⟩)] 111)) (.cells #[.iface 115 (.pointer (some ⟨qb, 0, none⟩))] 133)).mono (by simp))
  have HR0 : Hid (RQ w0 wb ib ob gv g.length inl (fun x => (Ord.opn g inl x : Nat)) qb fv cb bx eb w.heap.size (w.heap.size + 1) (.slice none 0 0) [] ((w.alloc (.cells #[.pointer (some ⟨wb, 0, none⟩)] 111)).alloc (.cells #[.iface 115 (.pointer (some ⟨qb, 0, none⟩))] 133))) := Lib.hid
    ⟨hk.ext hb2, hqb, heap_keep (heap_keep hq), Sl.Own.nil _ _ _ _ _, .inr (by simp [Value.ownBlock]), heap_keep (heap_alloc_new _ _), heap_new_at (by simp), heap_keep (heap_keep hbc), hbel.trans (hb2.mono hbel.size)⟩
  have HFs := Lib.hid (hfs.ext hb2)
  have HW := Lib.hid (hb2.mono hbel.size)
  clear hk hq hbc hfs hb2
  refine (callsIn_wide (n := 6)).1 ?_
  refine callsIn_of_wp_marks Try.func91 rfl trivial ?_ rfl
  simp only [Try.ntmps91, List.size_toArray, List.length_cons, List.length_nil, Nat.reduceAdd, Nat.reduceSub, Array.replicate_succ, Array.replicate_zero, List.push_toArray, List.append_toArray, List.nil_append, List.cons_append]
  gi_wp2
  gi_loopw [15] (fun i wr => ∃ (k : Nat) (v : Value) (q : List Int), i = .int .i64 k ∧ k ≤ F.length ∧ Hid (RQ w0 wb ib ob gv g.length inl (fun x => (Ord.opn g inl x : Nat)) qb fv cb bx eb w.heap.size (w.heap.size + 1) v q wr) ∧
    Hid (Ord.QOk (Ord.keyI bl) g.length (fun x => decide ((x : Int) ∈ F.take k)) q) ∧ Hid (Sl.Own eInt 1 w0.heap.size 3 wr fsv F) ∧ Hid (Apart fsv v) ∧ Hid (Below w0.heap.size w wr)) (fun i _ => F.length - (intOf i).toNat)
  case atStart => exact ⟨0, _, [], rfl, by omega, HR0, Lib.hid ((Ord.QOk.nil _ _).congr (fun x _ => by simp)), HFs, Lib.hid (apart_symm (.inl rfl)), HW⟩
  case round =>
    obtain ⟨k, v, q, rfl, hk, HR, HOk, HFs, HA, HW⟩ := hrel
    by_cases hlt : k < F.length
    · obtain ⟨b2, o2, hb2, hix2, hc2⟩ := (HFs.out.sl len_eInt).at (P := Try.prog) Try.underlying23 cells3 some3 hlt
      have e1 := hc2 0 (by omega)
      simp only [eInt, List.getElem?_cons_zero, Nat.add_zero] at e1
      obtain ⟨x, HY⟩ : ∃ x, Hid (F[k] = x) := ⟨_, Lib.hid rfl⟩
      rw [HY.out] at e1
      obtain ⟨_, c4, _⟩ := one_cells HR.out.b4
      have hx1 : 0 ≤ x ∧ x < g.length := by rw [← HY.out]; exact (hF.out ▸ Ord.first_in g _ _) _ (List.getElem_mem hlt)
      obtain ⟨y, rfl⟩ : ∃ y : Nat, x = y := ⟨x.toNat, by omega⟩
      have hqn := HOk.out.len
      have hmp := method_put
      have HP := put_any w0 cb bx eb he fv (Ord.keyI bl) g.length hold wr HR.out.bc HR.out.bel qb v q (y : Int) hqb HR.out.blk HR.out.own HOk.out.hp (by omega) HOk.out.inn hx1
      have HNd : Hid (F.Nodup) := Lib.hid (by rw [hF.out]; exact Ord.first_nodup _ _ _)
      have hfy : decide ((y : Int) ∈ F.take k) = false := decide_eq_false (by rw [← HY.out]; exact Ord.take_nd HNd.out hlt)
      clear hc2
      gi_wp2
      refine ⟨trivial, ?_⟩
      gi_wp2_with (gi_at_call 97; refine (callsIn_wide.2 HP).mono ?_; rintro e w2 ⟨rfl, hQ⟩)
      obtain ⟨v', q', hr2, hp2, hpm, hmv, -, hb2, -⟩ := HR.out.queue he hQ
      have hfs2 := hmv _ _ HFs.out HA.out
      go_roundw
      case rel => exact ⟨k + 1, v', q', by go_num, by omega, Lib.hid hr2, Lib.hid ((HOk.out.put (by omega) hfy hp2 hpm).congr (fun z _ => by
        rw [upd_mem, List.take_succ_eq_append_getElem hlt, HY.out])), Lib.hid hfs2.1, Lib.hid hfs2.2, Lib.hid (HW.out.trans hb2)⟩
      case measure => simp [intOf]; omega
    · have HOk2 : Hid (Ord.QOk (Ord.keyI bl) g.length (Ord.rdy g inl) q) := Lib.hid (HOk.out.congr (fun x hx => by
        rw [List.take_of_length_le (by omega), Bool.eq_iff_iff, decide_eq_true_iff, hF.out, Ord.first_all hx]))
      clear HOk HFs HA
      gi_wp2
      obtain ⟨D, hD⟩ : ∃ D, Hid (D = Ord.seqL (Ord.rdy g) (Ord.key bl) g.length g.length inl) := ⟨_, Lib.hid rfl⟩
      refine wpIn_loop (fun a' wr => ∃ (Ds : List Nat) (u9 u10 u23 u24 u25 u26 u27 u28 u29 u30 u31 u32 u33 u34 u35 u36 u37 u38 u39 u40 : Value), (∃ (left : Nat → Bool) (v : Value) (q out : List Int) (B : Nat), out.length + B ≤ g.length ∧ Hid (Ord.cnt left g.length ≤ B) ∧ Hid (out ++ Ord.seqL (Ord.rdy g) (Ord.key bl) g.length B left = D) ∧ Hid (Ord.Tld g inl left) ∧
      Hid (RQ w0 wb ib ob gv g.length inl (fun x => (Ord.opn g left x : Nat)) qb fv cb bx eb w.heap.size (w.heap.size + 1) v q wr) ∧ Hid (Ord.QOk (Ord.keyI bl) g.length (Ord.rdy g left) q) ∧ Hid (Sl.Own eInt 1 w0.heap.size 3 wr u9 out) ∧ Hid (Apart u9 v) ∧ Hid (Apart u9 (.slice (some ⟨ob, 0, none⟩) g.length g.length)) ∧
      Hid (Ds.Nodup ∧ ∀ D ∈ Ds, w0.heap.size ≤ D ∧ wr.heap[D]? = some (.deferred (some [])))) ∧ a' = { tmps := #[.pointer (some ⟨wb, 0, none⟩), .iface 115 (.pointer (some ⟨qb, 0, none⟩)), fsv, .pointer (some ⟨w.heap.size, 0, none⟩), .pointer (some ⟨w.heap.size + 1, 0, none⟩), undef, .slice none 0 0, undef, u8, u9, u10, undef, undef, fsv, .int .i64 F.length, .int .i64 k, .bool false, u17, u18, u19, u20, u21, u22, u23, u24, u25, u26, u27, u28, u29, u30, u31, u32, u33, u34, u35, u36, u37, u38, u39, u40, undef, undef, undef, undef, undef, undef, undef, undef, undef, undef, undef, undef, undef, undef, undef, undef, undef, undef, undef, undef, undef, undef, undef, undef, undef, undef, undef, undef, undef, undef, undef, undef], defers := marks Ds }) (fun a' _ => g.length - lenOf (a'.tmps.getD 9 undef)) ?_ ?_
      · refine ⟨[], .slice none 0 0, undef, undef, undef, undef, undef, undef, undef, undef, undef, undef, undef, undef, undef, undef, undef, undef, undef, undef, undef, ⟨inl, v, q, [], g.length, by simp, Lib.hid (Ord.cnt_le _ _), Lib.hid hD.out.symm, Lib.hid (Ord.Tld.start _ _), HR, HOk2, Lib.hid (Sl.Own.nil _ _ _ _ _), Lib.hid (.inl rfl), Lib.hid (.inl rfl), Lib.hid ⟨List.nodup_nil, fun D h => by simp at h⟩⟩, rfl⟩
      · rintro _ wr ⟨Ds, u9, u10, u23, u24, u25, u26, u27, u28, u29, u30, u31, u32, u33, u34, u35, u36, u37, u38, u39, u40, ⟨left, v, q, out, B, hol, HC, HD, HT, HR, HOk, HO, HA, HA2, HDs⟩, rfl⟩
        have hme := method_empty
        obtain ⟨_, c4, _⟩ := one_cells HR.out.b4
        have HE := empty98 wr qb w0.heap.size v fv q HR.out.blk HR.out.own
        by_cases hq : q = []
        · have HX : Hid (out = D) := Lib.hid (by have := HD.out; rwa [Ord.seqL_none (by subst hq; exact HOk.out.none), List.append_nil] at this)
          have HBw : Hid (Below w0.heap.size w wr) := Lib.hid (below_from hbel HR.out.bel (Nat.le_of_lt (Array.getElem?_eq_some_iff.1 HR.out.b3).1))
          rw [decide_eq_true hq] at HE
          clear HD hq
          gi_wp2
          refine ⟨trivial, ?_⟩
          gi_wp2_with (gi_at_call 98; refine (callsIn_wide.2 HE).mono ?_; rintro e w2 ⟨rfl, rfl⟩)
          refine leaves_marks Ds _ (fun D h => (HDs.out.2 D h).2) HDs.out.1 ?_
          refine ⟨_, results_tmp rfl _ _ _, _, rfl, ?_, ?_⟩
          · have := putAll_own Ds _ (fun D h => (HDs.out.2 D h).2) HDs.out.1 HO.out
            rw [HX.out, hD.out] at this
            exact this
          · exact putAll_below Ds _ (fun D h => (HDs.out.2 D h).1) (fun D h => (Array.getElem?_eq_some_iff.1 (HDs.out.2 D h).2).1) HBw.out
        · obtain ⟨n, ht1, ht2, ht3, ht4⟩ := HOk.out.top hq
          obtain ⟨B', rfl, hc', hs'⟩ := Ord.seq_go (Ord.rdy_rd g) ht2 ht3 ht4 HC.out
          have HC2 := Lib.hid hc'
          have HD2 : Hid ((out ++ [(n : Int)]) ++ Ord.seqL (Ord.rdy g) (Ord.key bl) g.length B' (Dag.upd left n false) = D) := Lib.hid (by have := HD.out; rw [hs'] at this; simpa using this)
          have HT2 := Lib.hid (HT.out.step ht3)
          have HPU := Lib.hid (HT.out.puts hg ht2 ht3)
          have HOC := Lib.hid (fun x => Ord.opn_count hg ht2 (Ord.rdy_iff.1 ht3).1 x)
          have HTOP : Hid (q ≠ [] ∧ Hp.ge q 0 = n ∧ n < g.length ∧ Ord.rdy g left n = true) := Lib.hid ⟨hq, ht1, ht2, ht3⟩
          have hmt := method_take
          have hqn := HOk.out.len
          have HTk := take_any w0 cb bx eb he fv (Ord.keyI bl) g.length hold wr HR.out.bc HR.out.bel qb v q hqb HR.out.blk HR.out.own HOk.out.hp (by omega) HOk.out.inn hq
          rw [ht1] at HTk
          rw [decide_eq_false hq] at HE
          clear hc' hs' HD HC ht4 HT hq ht1 ht3
          gi_wp2
          refine ⟨trivial, ?_⟩
          gi_wp2_with (gi_at_call 98; refine (callsIn_wide.2 HE).mono ?_; rintro e w2 ⟨rfl, rfl⟩)
          refine ⟨trivial, ?_⟩
          gi_wp2_with (first
            | (gi_at_call 99; refine (callsIn_wide.2 HTk).mono ?_; rintro e w2 ⟨rfl, hQ⟩; obtain ⟨v', q', hr2, hp2, hpm, hmv, hkt, hb2, hko⟩ := HR.out.queue he hQ; have HR2 := Lib.hid hr2; have HP2 := Lib.hid hp2; have HPm := Lib.hid hpm; have HO2 := Lib.hid (hmv _ _ HO.out HA.out); have HDs2 : Hid (∀ D ∈ Ds, w0.heap.size ≤ D ∧ w2.heap[D]? = some (.deferred (some []))) := Lib.hid (fun D hD => ⟨(HDs.out.2 D hD).1, hko D _ (fun c e fr e1 => by cases e1) (HDs.out.2 D hD).2⟩); have hbs2 := HR2.out.bel.size; clear hQ hr2 hp2 hpm hmv hkt hb2 hko)
            | (gi_at_builtin; go_must (refine wpListIn_append1 rfl (en := eInt) (s := 1) (base := w0.heap.size) (e := 3) _ _ 23 rfl (.int .i64 0) 8 Try.underlying23 info3 rfl (by decide) len_eInt one_eInt u9 _ out (n : Int) rfl (HO2.out.1.alloc _) rfl (Sl.fresh len_eInt rfl rfl rfl (by simp [maxLen])) (by simp only [maxLen]; omega) (by omega) (by simp; omega) ?_; intro ov w3 hown hgr hbel3 hblk; obtain ⟨hR3, hA3, hA4, hD3⟩ := HR2.out.told he.1 HO2.out.1 HO2.out.2 HA2.out HDs2.out hgr hblk; have HO3 := Lib.hid hown; have HR3 := Lib.hid hR3; have HA3 := Lib.hid hA3; have HA4 := Lib.hid hA4; have HD3 := Lib.hid hD3; obtain ⟨_, c31, _⟩ := one_cells hR3.b3; obtain ⟨_, c32, _, _⟩ := three hR3.wk.blk; obtain ⟨pb, po, hpb, hpix, P, T, a1, n1, k1, HX, HLn, q0, q1, hs1, hm1⟩ := hG.at hR3.bel ht2; have HS1 := Lib.hid hs1; clear hown hgr hbel3 hblk hR3 hA3 hA4 hD3 hs1))
            )
          refine ⟨trivial, (back105 Fence.wide 5 trivial rfl a1 n1 k1 _).mono ?_⟩
          rintro e w4 ⟨rfl, hw4⟩
          have hBs4 : w4.heap[w3.heap.size]? = some (.cells #[.slice a1 n1 k1] 23 (0, 0)) := by rw [hw4]; exact heap_alloc_new _ _
          have hb34 : Below w3.heap.size w3 w4 := by rw [hw4]; exact bel_alloc _ _
          obtain ⟨hP6, PN, hPN, hPar⟩ := nod_par hg ht2 HX.out
          have hn6 : n1 ≤ 6 := by rw [← HLn.out]; exact hP6
          have HPN := Lib.hid hPN
          have HPar := Lib.hid hPar
          have HPl : Hid (PN.length = n1) := Lib.hid (by rw [← HLn.out, hPN, List.length_map])
          have hR4 := HR3.out.ext hb34
          have HR4 := Lib.hid hR4
          have HO4 := Lib.hid (HO3.out.ext hb34)
          have hs34 := hb34.size
          have HI0 : Hid ((IR w0 wb ib ob gv g.length inl (Ord.opn g left) qb fv cb bx eb w.heap.size (w.heap.size + 1) (Ord.keyI bl) q' w3.heap.size w4.heap.size (.slice a1 n1 k1) Ds ov (out ++ [(n : Int)])) [] w4) := Lib.hid
            ⟨v', q', hR4.congr (fun z _ => by simp [nds]), HP2.out, by simp [nds, Ord.puts, Ord.pts, Ord.cs], ⟨HO4.out, HA3.out, HA4.out, hBs4, fun D hD => ⟨(HD3.out D hD).1, Nat.lt_of_lt_of_le (Array.getElem?_eq_some_iff.1 (HD3.out D hD).2).1 hs34, (hb34.block _ (Array.getElem?_eq_some_iff.1 (HD3.out D hD).2).1).trans (HD3.out D hD).2⟩⟩⟩
          have hseq := back_stops Fence.wide 5 trivial rfl (by omega) g.length w3.heap.size w0.heap.size n1 k1 a1 PN w0 (Nat.le_refl _) (by rw [← HPN.out]; exact HS1.out) HPl.out hn6 w4 hR4.bel hBs4
          have hsz4 := hR4.bel.size
          have hb3lt : w.heap.size < w4.heap.size := (Array.getElem?_eq_some_iff.1 hR4.b3).1
          have HDl : Hid (∀ D ∈ Ds, D < w4.heap.size) := Lib.hid (fun D hD => Nat.lt_of_lt_of_le (Array.getElem?_eq_some_iff.1 (HD3.out D hD).2).1 hs34)
          clear hw4 c4 hBs4 hb34 hPN hPar hP6 hR4 c31 c32 q0 q1 hpix HE HTk hmt hme hm1
          gi_wp2
          refine wpIn_rangeFunc_ownF (encs := encP) rfl (by omega) (gf := 110) (lb := #[.pointer (some ⟨w3.heap.size, 0, none⟩)]) rfl trivial (enters_of Try.func110 (by kernel_rfl) rfl) hseq (fun h k => kpB_t h k) (kpB_b hsz4) (Below.refl _ _) (fun _ => rfl)
            (IR w0 wb ib ob gv g.length inl (Ord.opn g left) qb fv cb bx eb w.heap.size (w.heap.size + 1) (Ord.keyI bl) q' w3.heap.size w4.heap.size (.slice a1 n1 k1) Ds ov (out ++ [(n : Int)])) (fun _ _ _ => False) (IR.from he.1 hsz4) (fun _ _ _ _ _ hs _ _ => hs) HI0.out
            (fun x => { tmps := #[.pointer (some ⟨wb, 0, none⟩), .iface 115 (.pointer (some ⟨qb, 0, none⟩)), fsv, .pointer (some ⟨w.heap.size, 0, none⟩), .pointer (some ⟨w.heap.size + 1, 0, none⟩), undef, .slice none 0 0, undef, u8, ov, .int .i64 n, undef, .int .i64 (x.2.1 : Int), fsv, .int .i64 F.length, .int .i64 k, .bool false, u17, u18, u19, u20, u21, u22, .iface 115 (.pointer (some ⟨qb, 0, none⟩)), .bool false, .bool true, .iface 115 (.pointer (some ⟨qb, 0, none⟩)), .int .i64 n, u9, .int .i64 n, .slice (some ⟨w2.heap.size, 0, none⟩) 1 1, ov, .pointer (some ⟨wb, 0, none⟩), .pointer (some ⟨wb, 0, none⟩), .pointer (some ⟨wb, 0, none⟩), gv, .int .i64 n, .pointer (some ⟨pb, po, none⟩), .pointer (some ⟨pb, po, none⟩), .slice a1 n1 k1, .func (.func 110) #[] #[.pointer (some ⟨w3.heap.size, 0, none⟩)], .int .i64 x.1, .int .i64 (x.2.1 : Int), undef, undef, undef, undef, undef, undef, undef, undef, undef, undef, undef, undef, undef, undef, undef, undef, undef, undef, undef, undef, undef, undef, undef, undef, undef, undef, undef, undef, undef, undef], defers := [] }) ?assign ?body ?done ?stop
          case assign =>
            intro l x W K hK
            simp only [encP]
            gi_wp2
            exact hK
          case body =>
            rintro l pre ⟨xi, y, hy⟩ W ⟨v5, q5, hr5, hh5, hp5, hs5⟩ hlt
            obtain ⟨m, hm⟩ : ∃ m : Int, Hid ((Ord.opn g left y : Int) - ((nds pre).count y : Nat) = m) := ⟨_, Lib.hid rfl⟩
            have hmb : -1000 ≤ m ∧ m ≤ 1000 := by
              have h1 := Ord.opn_le g left y
              have h2 : (nds pre).count y ≤ (nds pre).length := List.count_le_length
              rw [nds_len] at h2
              rw [← hm.out]; omega
            obtain ⟨hm1, hm2⟩ := hmb
            obtain ⟨c56, c57, c58, c59⟩ := oi_cell hr5.wk.opn hy
            have c56m : W.cell? ⟨ob, y, none⟩ = some (.int .i64 m) := by rw [← hm.out]; exact c56
            clear c56
            have hne3 := Sl.Own.ne_elem hr5.wk.opn hr5.b3 (by decide)
            have hne4 := Sl.Own.ne_elem hr5.wk.opn hr5.b4 (by decide)
            have hnew := Sl.Own.ne_elem hr5.wk.opn hr5.wk.blk (by decide)
            have hnei := Sl.Own.ne_elem hr5.wk.opn hr5.wk.inB.blk (by decide)
            have hnes := Sl.Own.ne_elem hr5.wk.opn hs5.bs (by decide)
            simp only [Value.ownBlock, Option.some.injEq, ne_eq] at hne3 hne4 hnew hnei hnes
            have HKp : Hid (KpB w0.heap.size w3.heap.size W (W.setCell ⟨ob, y, none⟩ (.int .i64 (m - 1)))) := Lib.hid ⟨(Below.refl _ _).setCell (p := ⟨ob, y, none⟩) c59 _, fun c hc => heap_set_keep (a := ⟨ob, y, none⟩) hc (fun e => hnes e.symm)⟩
            have HKo : Hid (Ko W (W.setCell ⟨ob, y, none⟩ (.int .i64 (m - 1)))) := Lib.hid (by
              obtain ⟨cur, hcur⟩ := own_heap hr5.wk.opn
              exact Ko.set (a := ⟨ob, y, none⟩) hcur)
            have HR6 : Hid (RQ w0 wb ib ob gv g.length inl (fun z => (Ord.opn g left z : Int) - ((nds (pre ++ [(xi, (⟨y, hy⟩ : Nod g.length))])).count z : Nat)) qb fv cb bx eb w.heap.size (w.heap.size + 1) v5 q5 (W.setCell ⟨ob, y, none⟩ (.int .i64 (m - 1)))) := Lib.hid (by
              have := (hr5.setOp he.1 hy (m - 1)).congr (op' := fun z => (Ord.opn g left z : Int) - ((nds (pre ++ [(xi, (⟨y, hy⟩ : Nod g.length))])).count z : Nat)) (fun z _ => by
                rw [← hm.out]; exact op_step (o := Ord.opn g left) (pre := pre) (x := (xi, (⟨y, hy⟩ : Nod g.length))) z)
              exact this)
            have HS6 := Lib.hid (hs5.setOp hr5.wk.opn y (m - 1))
            obtain ⟨_, c51, _⟩ := one_cells hr5.b3
            obtain ⟨_, c52, _⟩ := one_cells hr5.b4
            obtain ⟨_, c53, c54, c55, _, _, _⟩ := three hr5.wk.blk
            obtain ⟨c60, c61, c62⟩ := hr5.wk.inB.cell hy
            have hn3' : ¬ w.heap.size = ob := fun e => hne3 e.symm
            have hn4' : ¬ w.heap.size + 1 = ob := fun e => hne4 e.symm
            have hnw' : ¬ wb = ob := fun e => hnew e.symm
            have hni' : ¬ ib = ob := fun e => hnei e.symm
            have hmp := method_put
            have HP5 := Lib.hid hp5
            have HH5 := Lib.hid hh5
            have hq0 : Dag.inN g.length q' := fun x hx => HOk.out.cut HTOP.out.1 HTOP.out.2.1 HP2.out HPm.out |>.inn x hx
            have HQ5 := Lib.hid (perm_in hp5 hq0)
            have hql : q5.length < 1000 := by
              have h1 := perm_len hp5
              have h2 := (HOk.out.cut HTOP.out.1 HTOP.out.2.1 HP2.out HPm.out).len
              omega
            have HP := put_any w0 cb bx eb he fv (Ord.keyI bl) g.length hold _ HR6.out.bc HR6.out.bel qb v5 q5 (y : Int) hqb HR6.out.blk HR6.out.own HH5.out hql HQ5.out ⟨by omega, by omega⟩
            have hwp : (fun z => z) m - 1 = m - 1 := rfl
            clear hr5 hh5 hp5 hs5 hq0 hnes hwp
            cases hin : inl y with
            | false =>
              rw [hin] at c60
              have HF : Hid (q5.Perm (Ord.cs (Ord.puts inl (Ord.opn g left) (nds (pre ++ [(xi, (⟨y, hy⟩ : Nod g.length))]))) ++ q')) := Lib.hid (perm_not HP5.out (by simp [hin]))
              clear HP hin
              gi_wp2
              exact ⟨ko_others HKo.out (by simp), HKp.out, v5, q5, HR6.out, HH5.out, HF.out, HS6.out⟩
            | true =>
              rw [hin] at c60
              by_cases hm0 : m = 1
              · have hb0 : (m - 1 == 0) = true := by simp [hm0]
                have HIn := Lib.hid hin
                have HM0 := Lib.hid hm0
                clear hin hm0
                gi_wp2
                refine ⟨trivial, ?_⟩
                gi_wp2_with (gi_at_call 97; refine ((callsIn_wide.2 HP).inRound l).mono ?_; rintro e w7 ⟨rfl, hQ⟩)
                obtain ⟨v7, q7, hr7, hp7, hpm7, hmv7, hkt7, hb7, hko7⟩ := HR6.out.queue he hQ
                have HF : q7.Perm (Ord.cs (Ord.puts inl (Ord.opn g left) (nds (pre ++ [(xi, (⟨y, hy⟩ : Nod g.length))]))) ++ q') := perm_put HP5.out HIn.out (by have h1 := hm.out; have h2 := HM0.out; show Ord.opn g left y = (nds pre).count y + 1; omega) hpm7
                have hs7 := HS6.out.moved (by decide) hmv7 hkt7 hko7
                exact ⟨ko_others (Ko.trans HKo.out hko7) (by have := hb7.size; simpa using this), kpB_t HKp.out ⟨hb7, fun c hc => hkt7 _ _ _ (by decide) (by decide) hc⟩, v7, q7, hr7, hp7, HF, hs7⟩
              · have hb0 : (m - 1 == 0) = false := by simp; omega
                have HF : Hid (q5.Perm (Ord.cs (Ord.puts inl (Ord.opn g left) (nds (pre ++ [(xi, (⟨y, hy⟩ : Nod g.length))]))) ++ q')) := Lib.hid (perm_not HP5.out (fun h => by
                  have h1 := hm.out
                  have h2 : Ord.opn g left y = (nds pre).count y + 1 := h.2
                  omega))
                clear HP hin hm0
                gi_wp2
                exact ⟨ko_others HKo.out (by simp), HKp.out, v5, q5, HR6.out, HH5.out, HF.out, HS6.out⟩
          case done =>
            rintro D ys W hD hys ⟨v5, q5, hr5, hh5, hp5, hs5⟩ hK
            subst hys
            have HD5 : Hid (D ∉ Ds) := Lib.hid (fun h => by have := HDl.out D h; omega)
            have HKd := Lib.hid hK
            have HR5 : Hid (RQ w0 wb ib ob gv g.length inl (fun x => (Ord.opn g (Dag.upd left n false) x : Nat)) qb fv cb bx eb w.heap.size (w.heap.size + 1) v5 q5 W) := Lib.hid (hr5.congr (fun z _ => by
              have := HOC.out z
              rw [← HPar.out] at this
              unfold nds
              rw [bk_all PN HPl.out]; exact this))
            have HOk5 : Hid (Ord.QOk (Ord.keyI bl) g.length (Ord.rdy g (Dag.upd left n false)) q5) := Lib.hid (Ord.QOk.after hg HOk.out HTOP.out.1 HTOP.out.2.1 ht2 HTOP.out.2.2.2 HP2.out HPm.out hh5 (by
              have e : nds (bk PN n1) = (Dag.par g n).reverse := by unfold nds; rw [bk_all PN HPl.out, HPar.out]
              rw [e, HPU.out] at hp5
              exact hp5))
            have HS5 := Lib.hid hs5
            clear hK hr5 hh5 hp5 hs5
            gi_wp2
            refine ⟨⟨D :: Ds, ov, _, _, _, _, _, _, _, _, _, _, _, _, _, _, _, _, _, _, _, ⟨Dag.upd left n false, v5, q5, out ++ [(n : Int)], B', by rw [List.length_append]; simp only [List.length_cons, List.length_nil]; omega, HC2, HD2, HT2, HR5, HOk5, Lib.hid HS5.out.own, Lib.hid HS5.out.ap, Lib.hid HS5.out.ap2, Lib.hid ⟨List.nodup_cons.2 ⟨HD5.out, HDs.out.1⟩, fun D' hD' => ?_⟩⟩, rfl⟩, ?_⟩
            · rcases List.mem_cons.1 hD' with rfl | hD'
              · exact ⟨by omega, HKd.out⟩
              · exact ⟨(HS5.out.ds D' hD').1, (HS5.out.ds D' hD').2.2⟩
            · have h1 := own_lenOf HS5.out.own
              have h2 := own_lenOf HO.out
              rw [List.length_append] at h1
              simp only [List.length_cons, List.length_nil] at h1
              show g.length - lenOf ov < g.length - lenOf u9
              omega
          case stop =>
            rintro D c pre W _ _ h _
            exact h.elim
end Go.Proofs.Ytcpmnocknpalfaa
