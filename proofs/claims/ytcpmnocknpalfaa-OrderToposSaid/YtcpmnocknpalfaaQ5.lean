/-
  Layer 15: a walk's start. No condition besides what the arguments are.
-/
import Derived.Test.YtcpmnocknpalfaaQ4
import Derived.Test.YtcpmnocknpalfaaH11
import Derived.BigRegion
import Derived.Test.YtcpmnocknpalfaaK4
import Derived.Test.YtcpmnocknpalfaaS4
namespace Go.Proofs.Ytcpmnocknpalfaa
open Go.RowKit Go.Sl
set_option linter.unusedVariables false

/-- a row of N integers of the call's own -/
def Oi (base ob N : Nat) (f : Nat → Int) (w : World) : Prop := Own eInt 1 base 3 w (.slice (some ⟨ob, 0, none⟩) N N) ((List.range N).map f)
def updI (f : Nat → Int) (k : Nat) (v : Int) : Nat → Int := fun x => if x = k then v else f x
theorem oi_cell {base ob N : Nat} {f : Nat → Int} {w : World} (h : Oi base ob N f w) {k : Nat} (hk : k < N) : w.cell? ⟨ob, k, none⟩ = some (.int .i64 (f k)) ∧ w.frozen? ⟨ob, k, none⟩ = false ∧ ob < w.heap.size ∧ base ≤ ob := by
  obtain ⟨h1, h2, -, h3⟩ := own_cells h
  obtain ⟨h4, h5⟩ := h3 k (by simpa using hk)
  refine ⟨?_, h5, h1, h2⟩
  rw [h4]
  simp [Hp.ge, List.getD_eq_getElem?_getD, hk]
theorem oi_set {base ob N : Nat} {f : Nat → Int} {w : World} (h : Oi base ob N f w) {k : Nat} (hk : k < N) (v : Int) : Oi base ob N (updI f k v) (w.setCell ⟨ob, k, none⟩ (.int .i64 v)) := by
  have := own_set h (k := k) (by simpa using hk) v
  unfold Oi
  have e : ((List.range N).map f).set k v = (List.range N).map (updI f k v) := by
    apply List.ext_getElem (by simp)
    intro n h1 h2
    simp only [List.getElem_set, List.getElem_map, List.getElem_range, updI]
    by_cases e : k = n
    · simp [e]
    · simp [e, Ne.symm e]
  rwa [e] at this
theorem oi_congr {base ob N : Nat} {f f' : Nat → Int} {w : World} (h : Oi base ob N f w) (he : ∀ x, x < N → f x = f' x) : Oi base ob N f' w := by
  unfold Oi at h ⊢
  have : (List.range N).map f' = (List.range N).map f := List.map_congr_left fun x hx => (he x (List.mem_range.1 hx)).symm
  rwa [this]
theorem oi_made (w : World) (n : Nat) (hn : n ≤ 800) : Oi w.heap.size w.heap.size n (fun _ => 0) (w.alloc (.cells (madeCells #[.int .i64 0] n) 3)) := by
  have := own_made w n hn
  unfold Oi
  have e : (List.range n).map (fun _ => (0 : Int)) = List.replicate n 0 := by simp [List.map_const']
  rwa [e]

/-- a walk at block wb -/
structure WK (base wb ib ob : Nat) (gv : Value) (N : Nat) (inl : Nat → Bool) (op : Nat → Int) (w : World) : Prop where
  hwb : base ≤ wb
  blk : w.heap[wb]? = some (.cells #[gv, .slice (some ⟨ib, 0, none⟩) N N, .slice (some ⟨ob, 0, none⟩) N N] 131 (0, 0))
  inB : Bl base ib N inl w
  opn : Oi base ob N op w
theorem three {w : World} {g : Nat} {a b c : Value} {e : TypeId} (h : w.heap[g]? = some (.cells #[a, b, c] e (0, 0))) :
    g < w.heap.size ∧ w.cell? ⟨g, 0, none⟩ = some a ∧ w.cell? ⟨g, 1, none⟩ = some b ∧ w.cell? ⟨g, 2, none⟩ = some c ∧ w.frozen? ⟨g, 0, none⟩ = false ∧ w.frozen? ⟨g, 1, none⟩ = false ∧ w.frozen? ⟨g, 2, none⟩ = false :=
  ⟨(Array.getElem?_eq_some_iff.1 h).1, by simp [World.cell?, h], by simp [World.cell?, h], by simp [World.cell?, h], by simp [World.frozen?, h], by simp [World.frozen?, h], by simp [World.frozen?, h]⟩

theorem WK.ext {base wb ib ob N : Nat} {gv : Value} {inl : Nat → Bool} {op : Nat → Int} {w w' : World} (h : WK base wb ib ob gv N inl op w) (hb : Below w.heap.size w w') : WK base wb ib ob gv N inl op w' :=
  ⟨h.hwb, (hb.block _ (Array.getElem?_eq_some_iff.1 h.blk).1).trans h.blk, h.inB.ext hb, Own.ext h.opn hb⟩
theorem WK.setIn {base wb ib ob N : Nat} {gv : Value} {inl : Nat → Bool} {op : Nat → Int} {w : World} (h : WK base wb ib ob gv N inl op w) (k : Nat) (b : Bool) : WK base wb ib ob gv N (Dag.upd inl k b) op (w.setCell ⟨ib, k, none⟩ (.bool b)) := by
  have hne : wb ≠ ib := fun e => by
    have h1 := h.blk; have h2 := h.inB.blk
    rw [e, h2] at h1
    simp only [Option.some.injEq, Obj.cells.injEq] at h1
    exact absurd h1.2.1 (by decide)
  exact ⟨h.hwb, heap_set_keep (a := ⟨ib, k, none⟩) h.blk hne, h.inB.set k b, Own.set_other h.opn (a := ⟨ib, k, none⟩) (Own.ne_elem h.opn h.inB.blk (by decide)) _⟩
theorem WK.setOp {base wb ib ob N : Nat} {gv : Value} {inl : Nat → Bool} {op : Nat → Int} {w : World} (h : WK base wb ib ob gv N inl op w) {k : Nat} (hk : k < N) (x : Int) : WK base wb ib ob gv N inl (updI op k x) (w.setCell ⟨ob, k, none⟩ (.int .i64 x)) := by
  have n1 : wb ≠ ob := fun e => Own.ne_elem h.opn h.blk (by decide) (by simp [Value.ownBlock, e])
  have n2 : ib ≠ ob := fun e => Own.ne_elem h.opn h.inB.blk (by decide) (by simp [Value.ownBlock, e])
  exact ⟨h.hwb, heap_set_keep (a := ⟨ob, k, none⟩) h.blk n1, ⟨h.inB.hb, heap_set_keep (a := ⟨ob, k, none⟩) h.inB.blk n2⟩, oi_set h.opn hk x⟩
theorem WK.congr {base wb ib ob N : Nat} {gv : Value} {inl inl' : Nat → Bool} {op op' : Nat → Int} {w : World} (h : WK base wb ib ob gv N inl op w) (h1 : ∀ x, x < N → inl x = inl' x) (h2 : ∀ x, x < N → op x = op' x) : WK base wb ib ob gv N inl' op' w :=
  ⟨h.hwb, h.blk, h.inB.congr h1, oi_congr h.opn h2⟩

theorem wk_made1 (w : World) (gv : Value) (n : Nat) (hn : n ≤ 800) : WK w.heap.size (w.heap.size + 1 + 1) (w.heap.size + 1) w.heap.size gv n (fun _ => false) (fun _ => 0)
    (((w.alloc (.cells (madeCells #[.int .i64 0] n) 3)).alloc (.cells (bcells (fun _ => false) n) 4)).alloc (.cells #[gv, .slice (some ⟨w.heap.size + 1, 0, none⟩) n n, .slice (some ⟨w.heap.size, 0, none⟩) n n] 131)).drew := by
  refine ⟨by omega, ?_, ⟨by omega, ?_⟩, ?_⟩
  · exact heap_new_at (w := (w.alloc _).alloc _) (by simp)
  · exact heap3_1 _ _ _ _
  · exact ((Own.alloc (Own.alloc (oi_made w n hn) _) _)).drew
theorem wk_made2 (w : World) (gv : Value) (n : Nat) (hn : n ≤ 800) : WK w.heap.size (w.heap.size + 1 + 1) w.heap.size (w.heap.size + 1) gv n (fun _ => false) (fun _ => 0)
    (((w.alloc (.cells (bcells (fun _ => false) n) 4)).alloc (.cells (madeCells #[.int .i64 0] n) 3)).alloc (.cells #[gv, .slice (some ⟨w.heap.size, 0, none⟩) n n, .slice (some ⟨w.heap.size + 1, 0, none⟩) n n] 131)).drew := by
  refine ⟨by omega, ?_, ⟨by omega, ?_⟩, ?_⟩
  · exact heap_new_at (w := (w.alloc _).alloc _) (by simp)
  · exact heap3_0 _ _ _ _
  · have := oi_made (w.alloc (.cells (bcells (fun _ => false) n) 4)) n hn
    rw [World.size_alloc] at this
    exact (Own.alloc (Own.mono this (by omega)) _).drew
theorem bel3 (w : World) (a b c : Obj) : Below w.heap.size w (((w.alloc a).alloc b).alloc c).drew := ((((Below.refl _ _).alloc (Nat.le_refl _) _).alloc (by simp) _).alloc (by simp; omega) _).drew

set_option maxRecDepth 100000 in
set_option maxHeartbeats 1000000 in
theorem start89 (gv v : Value) (w : World) (es : List (SlV × Int)) (g : List Nd) (l : List Int) (hg : Dag.okG g) (hl : Dag.inN g.length l) (hG : Gr w gv es g) (h : Sl eInt 1 w v l) :
    Calls Try.prog 89 #[gv, v] w fun e w' => ∃ wb ib ob, e = .returned (.pointer (some ⟨wb, 0, none⟩)) ∧ WK w.heap.size wb ib ob gv g.length (Ord.inB l) (fun x => (Ord.opn g (Ord.inB l) x : Nat)) w' ∧ Below w.heap.size w w' := by
  have hix0 := hG.run_len
  have hlen := h.run_len (P := Try.prog) Try.underlying23
  have hmax := h.len_le
  have hgl := hg.1
  have hmk := make_bools g.length (by omega)
  rw [made_bcells] at hmk
  have hmi := make_ints g.length (by omega)
  have HL := Lib.hid hl
  have HG := Lib.hid hg
  clear hl hg
  obtain ⟨ga, gn, gc, rfl⟩ := hG.outer.isSlice
  go_enter Try.func89, Try.ntmps89
  go_wp2_with fail
  go_cut [5] (fun s wx => ∃ wb ib ob, s = .pointer (some ⟨wb, 0, none⟩) ∧ Hid (WK w.heap.size wb ib ob (.slice ga gn gc) g.length (fun _ => false) (fun _ => 0) wx) ∧ Hid (Below w.heap.size w wx))
  case first =>
    go_region
    · go_wp2_with fail
      go_meet
      exact ⟨_, _, _, rfl, Lib.hid (wk_made2 w _ g.length (by omega)), Lib.hid (bel3 _ _ _ _)⟩
    · go_wp2_with fail
      go_meet
      exact ⟨_, _, _, rfl, Lib.hid (wk_made1 w _ g.length (by omega)), Lib.hid (bel3 _ _ _ _)⟩
  case rest =>
    obtain ⟨w1, rfl⟩ : ∃ w1 : World, w1 = wc := ⟨_, rfl⟩
    obtain ⟨wb, ib, ob, rfl, HK, HB⟩ := hcut
    go_wp2_with fail
    go_loopw [23] (fun i wr => ∃ (k : Nat) (f : Nat → Bool), i = .int .i64 k ∧ k ≤ l.length ∧ Hid (∀ x, x < g.length → (f x = true ↔ x ∈ Dag.nn (l.take k))) ∧ Hid (WK w.heap.size wb ib ob (.slice ga gn gc) g.length f (fun _ => 0) wr) ∧ Hid (Below w.heap.size w wr)) (fun i _ => l.length - (intOf i).toNat)
    case atStart => exact ⟨0, _, rfl, by omega, Lib.hid (fun x hx => by simp), HK, HB⟩
    case round =>
      obtain ⟨k, f, rfl, hk, HF, HK, HW⟩ := hrel
      obtain ⟨hwbl, d0, d1, d2, -, -, -⟩ := three HK.out.blk
      by_cases hlt : k < l.length
      · obtain ⟨b2, o2, hb2, hix2, hc2⟩ := h.atB HW.out (P := Try.prog) Try.underlying23 cells3 some3 hlt
        have e1 := hc2 0 (by omega)
        simp only [eInt, List.getElem?_cons_zero, Nat.add_zero] at e1
        obtain ⟨x, HY⟩ : ∃ x, Hid (l[k] = x) := ⟨_, Lib.hid rfl⟩
        rw [HY.out] at e1
        have hok := HL.out l[k] (List.getElem_mem hlt)
        rw [HY.out] at hok
        obtain ⟨y, rfl⟩ : ∃ y : Nat, x = y := ⟨x.toNat, by have := hok.1; omega⟩
        have hyn : y < g.length := by have := hok.2; omega
        have HT : Hid (Dag.nn (l.take (k + 1)) = Dag.nn (l.take k) ++ [y]) := Lib.hid (by show List.map _ _ = _; rw [par_take hlt, HY.out]; rfl)
        obtain ⟨c1, c2, c3⟩ := HK.out.inB.cell hyn
        have hib := HK.out.inB.hb
        have HK2 := Lib.hid (HK.out.setIn y true)
        have HW2 : Hid (Below w.heap.size w (wr.setCell ⟨ib, y, none⟩ (.bool true))) := Lib.hid (HW.out.setCell (p := ⟨ib, y, none⟩) hib _)
        have HF2 : Hid (∀ x, x < g.length → (Dag.upd f y true x = true ↔ x ∈ Dag.nn (l.take (k + 1)))) := Lib.hid (fun x hx => by
          rw [Dag.upd_true, HT.out, HF.out x hx, List.mem_append, List.mem_singleton]; exact Or.comm)
        clear hc2 hok HT HF HK hib
        go_wp2_with fail
        go_roundw
        case rel => exact ⟨k + 1, _, by go_num, by omega, HF2, HK2, HW2⟩
        case measure => simp [intOf]; omega
      · have HX : Hid (WK w.heap.size wb ib ob (.slice ga gn gc) g.length (Ord.inB l) (fun x => (Ord.cntP g (Ord.inB l) 0 x : Nat)) wr) := Lib.hid (HK.out.congr (fun x hx => by
          have := HF.out x hx
          rw [List.take_of_length_le (by omega)] at this
          rw [Bool.eq_iff_iff, this, Ord.inB_iff]) (fun x hx => by rw [Ord.cntP_zero]; rfl))
        clear HF HK d0 d1 d2
        go_wp2_with fail
        go_loopw [36] (fun i wr => ∃ (n : Nat), i = .int .i64 n ∧ n ≤ g.length ∧ Hid (WK w.heap.size wb ib ob (.slice ga gn gc) g.length (Ord.inB l) (fun x => (Ord.cntP g (Ord.inB l) n x : Nat)) wr) ∧ Hid (Below w.heap.size w wr)) (fun i _ => g.length - (intOf i).toNat)
        case atStart => exact ⟨0, rfl, by omega, HX, HW⟩
        case round =>
          obtain ⟨n, rfl, hn, HK, HW⟩ := hrel
          by_cases hltn : n < g.length
          · obtain ⟨hwbl, d0, d1, d2, -, -, -⟩ := three HK.out.blk
            obtain ⟨b, o, hb1, hix, P, T, a1, n1, k1, HX, HLn, q0, q1, hs1, hm1⟩ := hG.at HW.out hltn
            obtain ⟨c1, c2, c3⟩ := HK.out.inB.cell hltn
            have hls := hs1.run_len (P := Try.prog) Try.underlying23
            rw [HLn.out] at hls
            have hszw := HW.out.size
            cases hin : Ord.inB l n with
            | false =>
              rw [hin] at c1
              have HK2 : Hid (WK w.heap.size wb ib ob (.slice ga gn gc) g.length (Ord.inB l) (fun x => (Ord.cntP g (Ord.inB l) (n + 1) x : Nat)) wr) := Lib.hid (HK.out.congr (fun _ _ => rfl) (fun x _ => by rw [Ord.cntP_succ, if_neg (by simp [hin])]; simp))
              clear hin HK
              go_wp2_with fail
              go_roundw
              case rel => exact ⟨n + 1, by go_num, by omega, Lib.hid (HK2.out.ext (bel_alloc _ _)), Lib.hid (HW.out.alloc hszw _)⟩
              case measure => simp [intOf]; omega
            | true =>
              rw [hin] at c1
              have HPar : Hid (Dag.par g n = P.map Int.toNat) := Lib.hid (by rw [Dag.par_eq hltn, HX.out])
              have HPl : Hid ((Dag.par g n).length = n1) := Lib.hid (by rw [HPar.out, List.length_map, HLn.out])
              have HK2 : Hid (WK w.heap.size wb ib ob (.slice ga gn gc) g.length (Ord.inB l) (fun x => ((Ord.cntP g (Ord.inB l) n x + Ord.tk g n 0 x : Nat) : Int)) wr) := Lib.hid (HK.out.congr (fun _ _ => rfl) (fun x _ => by rw [Ord.tk_zero]; rfl))
              clear HK
              go_wp2_with fail
              go_loopw [52] (fun i wr => ∃ (k : Nat) (f : Nat → Int), i = .int .i64 k ∧ k ≤ n1 ∧ Hid (∀ x, x < g.length → f x = ((Ord.cntP g (Ord.inB l) n x + Ord.tk g n k x : Nat) : Int)) ∧ Hid (WK w.heap.size wb ib ob (.slice ga gn gc) g.length (Ord.inB l) f wr) ∧ Hid (Below w.heap.size w wr)) (fun i _ => n1 - (intOf i).toNat)
              case atStart => exact ⟨0, _, rfl, by omega, Lib.hid (fun _ _ => rfl), Lib.hid (HK2.out.ext (bel_alloc _ _)), Lib.hid (HW.out.alloc hszw _)⟩
              case round =>
                clear HW d0 d1 d2 c1 c2 c3 hwbl HK2 q0 q1 hszw
                obtain ⟨k, f, rfl, hk, HF, HK, HW⟩ := hrel
                by_cases hkn : k < n1
                · obtain ⟨hwbl, d0, d1, d2, -, -, -⟩ := three HK.out.blk
                  have hkP : k < P.length := by rw [HLn.out]; exact hkn
                  obtain ⟨b2, o2, hb2, hix2, hc2⟩ := hs1.atB HW.out (P := Try.prog) Try.underlying23 cells3 some3 hkP
                  have e1 := hc2 0 (by omega)
                  simp only [eInt, List.getElem?_cons_zero, Nat.add_zero] at e1
                  obtain ⟨x, HY⟩ : ∃ x, Hid (P[k] = x) := ⟨_, Lib.hid rfl⟩
                  rw [HY.out] at e1
                  have hok : 0 ≤ x ∧ x < n := by
                    have h3 := (HG.out.2 n hltn).2.2.2 k (by rw [HX.out]; exact hkP)
                    have h4 : g[n].1[k]'(by rw [HX.out]; exact hkP) = x := by rw [← HY.out]; congr 1; rw [HX.out]
                    rw [h4] at h3
                    exact ⟨h3.1, h3.2.1⟩
                  obtain ⟨y, rfl⟩ : ∃ y : Nat, x = y := ⟨x.toNat, by omega⟩
                  have hyn : y < g.length := by omega
                  have hkl : k < (Dag.par g n).length := by rw [HPl.out]; exact hkn
                  have HPk : Hid ((Dag.par g n)[k] = y) := Lib.hid (by
                    have : (P.map Int.toNat)[k]'(by simpa using hkP) = y := by rw [List.getElem_map, HY.out]; rfl
                    rw [← this]; congr 1)
                  obtain ⟨c4, c5, c6, c7⟩ := oi_cell HK.out.opn hyn
                  have hfy := HF.out y hyn
                  have hty := Ord.tk_same HG.out hkl
                  rw [HPk.out] at hty
                  rw [hty, Nat.add_zero] at hfy
                  have hz := Ord.cntP_le g (Ord.inB l) n y
                  obtain ⟨z, hzz⟩ : ∃ z, z = Ord.cntP g (Ord.inB l) n y := ⟨_, rfl⟩
                  rw [← hzz] at hfy hz
                  rw [hfy] at c4
                  have HK2 := Lib.hid (HK.out.setOp hyn ((z : Int) + 1))
                  have HF2 : Hid (∀ x, x < g.length → updI f y ((z : Int) + 1) x = ((Ord.cntP g (Ord.inB l) n x + Ord.tk g n (k + 1) x : Nat) : Int)) := Lib.hid (fun x hx => by
                    rw [Ord.tk_succ HG.out hkl, HPk.out]
                    unfold updI
                    by_cases e : x = y
                    · rw [if_pos e, if_pos e, e, ← hzz]; rfl
                    · rw [if_neg e, if_neg e]; exact HF.out x hx)
                  have HW2 : Hid (Below w.heap.size w (wr.setCell ⟨ob, y, none⟩ (.int .i64 ((z : Int) + 1)))) := Lib.hid (HW.out.setCell (p := ⟨ob, y, none⟩) c7 _)
                  clear hc2 hok HF HK hfy hty hzz c7
                  go_wp2_with fail
                  go_roundw
                  case rel => exact ⟨k + 1, _, by go_num, by omega, HF2, HK2, HW2⟩
                  case measure => simp [intOf]; omega
                · have HK2 : Hid (WK w.heap.size wb ib ob (.slice ga gn gc) g.length (Ord.inB l) (fun x => (Ord.cntP g (Ord.inB l) (n + 1) x : Nat)) wr) := Lib.hid (HK.out.congr (fun _ _ => rfl) (fun x hx => by
                    rw [HF.out x hx, Ord.tk_all (by rw [HPl.out]; omega), Ord.cntP_succ]
                    simp [hin]))
                  clear HF HK
                  go_wp2_with fail
                  go_roundw
                  case rel => exact ⟨n + 1, by go_num, by omega, HK2, HW⟩
                  case measure => simp [intOf]; omega
          · go_wp2_with fail
            go_ret
            refine ⟨wb, ib, ob, rfl, ?_, HW.out⟩
            obtain rfl : n = g.length := by omega
            exact HK.out
end Go.Proofs.Ytcpmnocknpalfaa
