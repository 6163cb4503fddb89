/-
  Layer 12: the document's Resolve. No condition besides what the arguments are.
-/
import Derived.Test.YtopamnfelngkcaaDoorR8
namespace Go.Proofs.YtopamnfelngkcaaDoor.Rf
open Go.Proofs Go.RowKit Go.Shelf Go.Sl Go.Route Go.Refs
set_option linter.unusedVariables false

theorem wp_st43 {o : Oper} {a : Act} {w : World} {K : Act → World → Prop} {Q : Exit → Act → World → Prop} (hd : o.dst = none) (x y : Operand) (ho : o.op = .store 43 x y) (g : Nat) (hx : a.eval x = .pointer (some ⟨g, 0, none⟩)) (r q : Go.Sl.Rf) (hy : a.eval y = vRf r) (hb : w.heap[g]? = some (.cells (eRf q).toArray 43 (0, 0)))
    (h : K a (w.setRow g (eRf r).toArray)) : Oper.wp Tryd.prog o a w K Q := by
  have hst := run_storeVar_row (P := Tryd.prog) w g 43 43 (eRf q).toArray (eRf r).toArray hb (by rw [size43, size_eRf]) (by rw [size_eRf, size_eRf]) (all_oneCell_toArray (one_eRf r))
  unfold Oper.wp execOp
  simp only [ho, hx, hy, Instr.storeAt, Instr.sureAddr, Sem.run_bind, Sem.run_pure, Result.andThen_ok, hst]
  rw [Oper.upon_skip, hd]
  exact h
theorem idx_block {P : Program} {t e : TypeId} (ht : P.underlying t = some (.slice e)) (hi : (P.info? e).isSome = true) {g n c k b o : Nat} (hk : k < n) (w : World) (h : ∀ (ik : IntKind) (u : World), (Instr.indexAt t (.slice (some ⟨g, 0, none⟩) n c) (.int ik (k : Int))).run P u = .ok (.pointer (some ⟨b, o, none⟩)) u) : b = g := by
  obtain ⟨i, hi'⟩ := Option.isSome_iff_exists.1 hi
  have := h .i64 w
  have hk2 : (k : Int) < n := by omega
  simp [Instr.indexAt, run_underlying ht, asIntOf, sizeOf, typeInfo, hi', hk] at this
  rw [Addr.add_lit] at this
  simp at this
  exact this.1.symm
theorem exec_bd43 {o : Oper} {a : Act} {x y : Operand} (ho : o.op = .build 43 #[(0, x), (1, y)]) {n : List UInt8} {i : Idb} (hx : a.eval x = .string (bstr n)) (hy : a.eval y = vId i) (w : World) : (execOp a.eval o).run Tryd.prog w = .ok (.value (vRf ⟨n, i⟩)) w := by
  unfold execOp
  simp only [ho, Sem.run_bind, List.map_toArray, List.map_cons, List.map_nil, hx, hy, build43s n i w, Result.andThen_ok, Sem.run_pure]

set_option maxRecDepth 100000 in
set_option maxHeartbeats 1000000 in
theorem rresolve_any (v : Value) (l : List Go.Sl.Rf) (s : List UInt8) (w : World) (hv : Sl eRf 33 w v l) (hl : ∀ r ∈ l, r.nm.length ≤ 9223372036854775807) (hs : s.length ≤ 9223372036854775000) :
    Calls Tryd.prog 50 #[v, .string (bstr s)] w fun e w' => e = .returned (.tuple #[vRf (resF l s).1, .int .i64 (resF l s).2]) ∧ Below w.heap.size w w' := by
  have HV := Lib.hid hv
  have HL := Lib.hid hl
  clear hv hl
  go_enter Tryd.func50, Tryd.ntmps50
  go_wp2_with (first | refine al43 rfl rfl ?_)
  obtain ⟨w1, hw1⟩ : ∃ u, Hid (u = w.alloc (.cells (eRf zRf).toArray 43)) := ⟨_, Lib.hid rfl⟩
  have hs1 : w1.heap.size = w.heap.size + 1 := by rw [hw1.out]; simp
  have HG : Hid (w1.heap[w.heap.size]? = some (.cells (eRf zRf).toArray 43 (0, 0))) := Lib.hid (by rw [hw1.out]; exact heap_alloc_new _ _)
  have HB1 : Hid (Below w.heap.size w w1) := Lib.hid (by rw [hw1.out]; exact (Below.refl _ _).alloc (Nat.le_refl _) _)
  rw [← hw1.out]
  clear hw1
  refine (rcheck_any v l w1 (HV.out.ext HB1.out) HL.out).mono ?_
  rintro e w2 ⟨rfl, hb⟩
  have HW2 := Lib.hid hb
  have HG2 : Hid (w2.heap[w.heap.size]? = some (.cells (eRf zRf).toArray 43 (0, 0))) := Lib.hid ((hb.block _ (by omega)).trans HG.out)
  have HW2w := Lib.hid (bthen HB1.out hb)
  have hs2 : w.heap.size < w2.heap.size := by have := hb.size; omega
  clear hb
  obtain ⟨c, hc⟩ : ∃ c, Hid (chk l = c) := ⟨_, Lib.hid rfl⟩
  rw [hc.out]
  by_cases h0 : c = 0
  · subst h0
    have HF := Lib.hid (resF_ok (s := s) hc.out)
    have c1 := c_heads
    have c2 := c_tags
    have n1 := len_heads
    have n2 := len_tags
    obtain ⟨ns, hns⟩ : ∃ ns, Hid (ns = [s, heads ++ s, tags ++ s]) := ⟨_, Lib.hid rfl⟩
    have hnl : ns.length = 3 := by rw [hns.out]; rfl
    have HNs : Hid (Sl eL 1 (w2.alloc (.cells #[.string (bstr s), .string (bstr (heads ++ s)), .string (bstr (tags ++ s))] 9)) (.slice (some ⟨w2.heap.size, 0, none⟩) 3 3) ns) := Lib.hid (by rw [hns.out]; exact Sl.fresh len_eL rfl rfl rfl (by simp [maxLen]))
    have HF2 : Hid (resF l s = if (firstF l ns).2 then ((firstF l ns).1, 0) else (zRf, 35)) := Lib.hid (by rw [HF.out, hns.out])
    have HWa : Hid (Below w.heap.size w (w2.alloc (.cells #[.string (bstr s), .string (bstr (heads ++ s)), .string (bstr (tags ++ s))] 9))) := Lib.hid (HW2w.out.alloc HW2w.out.size _)
    have HGa : Hid ((w2.alloc (.cells #[.string (bstr s), .string (bstr (heads ++ s)), .string (bstr (tags ++ s))] 9)).heap[w.heap.size]? = some (.cells (eRf zRf).toArray 43 (0, 0))) := Lib.hid (heap_keep HG2.out)
    clear HF hns
    go_wp2_with fail
    obtain ⟨w3, hw3⟩ : ∃ u, Hid (u = w2.alloc (.cells #[.string (bstr s), .string (bstr (heads ++ s)), .string (bstr (tags ++ s))] 9)) := ⟨_, Lib.hid rfl⟩
    have hs3 : w3.heap.size = w2.heap.size + 1 := by rw [hw3.out]; simp
    rw [← hw3.out] at HNs HWa HGa ⊢
    clear hw3 c1 c2 n1 n2
    go_loopw [8] (fun i wr => ∃ k : Nat, i = .int .i64 k ∧ k ≤ 3 ∧ Hid (firstF l ns = firstF l (ns.drop k)) ∧ Hid (Below w3.heap.size w3 wr)) (fun i _ => 3 - (intOf i).toNat)
    case atStart => exact ⟨0, rfl, by omega, Lib.hid rfl, Lib.hid (Below.refl _ _)⟩
    case round =>
      obtain ⟨wo, rfl⟩ : ∃ u : World, u = wr := ⟨_, rfl⟩
      obtain ⟨k, rfl, hk, HK, HW⟩ := hrel
      have HWw := Lib.hid (bthen HWa.out HW.out)
      by_cases hlt : k < 3
      · have d2 : decide ((k : Int) < 3) = true := decide_eq_true (by omega)
        obtain ⟨b5, o5, hb5, hix, hcell⟩ := HNs.out.atB HW.out (P := Tryd.prog) Tryd.underlying22 cells9 some9 (show k < ns.length by omega)
        have e1 := hcell 0 (by omega)
        obtain ⟨x, hx⟩ : ∃ x, Hid (ns[k]'(by omega) = x) := ⟨_, Lib.hid rfl⟩
        simp only [eL, List.getElem?_cons_zero, Nat.add_zero] at e1
        rw [hx.out] at e1
        obtain ⟨i, hi⟩ : ∃ i, Hid ((findF l x).1 = i) := ⟨_, Lib.hid rfl⟩
        obtain ⟨t, ht⟩ : ∃ t, Hid ((findF l x).2 = t) := ⟨_, Lib.hid rfl⟩
        have HK2 : Hid (firstF l ns = if t then (⟨x, i⟩, true) else firstF l (ns.drop (k + 1))) := Lib.hid (by rw [HK.out, firstF_drop l ns (by omega), hx.out, hi.out, ht.out])
        have HC := Lib.hid (rfind_any v l x wo (HV.out.ext HWw.out))
        rw [hi.out, ht.out] at HC
        clear hcell HK
        go_wp2_with fail
        refine HC.out.mono ?_
        rintro e w4 ⟨rfl, hb⟩
        have HW4 := Lib.hid (bthen HW.out hb)
        have HW4w := Lib.hid (bthen HWa.out HW4.out)
        have hs4 : w3.heap.size ≤ w4.heap.size := HW4.out.size
        have e4 : w4.cell? ⟨b5, o5, none⟩ = some (.string (bstr x)) := (hb.cell (p := ⟨b5, o5, none⟩) (by have := HW.out.size; show b5 < _; omega)).trans e1
        have HG4 : Hid (w4.heap[w.heap.size]? = some (.cells (eRf zRf).toArray 43 (0, 0))) := Lib.hid ((HW4.out.block _ (by omega)).trans HGa.out)
        obtain ⟨w5, hw5⟩ : ∃ u, Hid (u = w4.alloc (.cells (eId i).toArray 39)) := ⟨_, Lib.hid rfl⟩
        have HN : Hid (w5.heap[w4.heap.size]? = some (.cells (eId i).toArray 39 (0, 0))) := Lib.hid (by rw [hw5.out]; exact heap_alloc_new _ _)
        have HI : Hid (w5.rangeAt w4.heap.size 0 (eId i)) := Lib.hid (range_of_heap (cs := (eId i).toArray) HN.out)
        have HG5 : Hid (w5.heap[w.heap.size]? = some (.cells (eRf zRf).toArray 43 (0, 0))) := Lib.hid (by rw [hw5.out]; exact heap_keep HG4.out)
        have HW5 : Hid (Below w3.heap.size w3 w5) := Lib.hid (by rw [hw5.out]; exact HW4.out.alloc HW4.out.size _)
        have e5 : w5.cell? ⟨b5, o5, none⟩ = some (.string (bstr x)) := by rw [hw5.out]; exact Lib.cell?_alloc_some _ e4
        clear hb e1 e4 HC
        cases t with
        | true =>
          have HZ : Hid (resF l s = (⟨x, i⟩, 0)) := Lib.hid (by rw [HF2.out, HK2.out]; simp)
          have HS : Hid (w5.drew.cell? ⟨b5, o5, none⟩ = some (.string (bstr x)) ∧ w5.drew.rangeAt w4.heap.size 0 (eId i) ∧ Below w.heap.size w w5.drew) := Lib.hid ⟨e5, HI.out, (bthen HWa.out HW5.out).drew⟩
          clear e5
          go_wp2_with (first
            | (refine new39 rfl rfl rfl _ _ rfl rfl i rfl rfl ?_; rw [← hw5.out]))
          have hbb : b5 ≠ w.heap.size := by have := idx_block Tryd.underlying22 some9 hlt w hix; omega
          refine wp_region_held_drew (S := fun u => u.cell? ⟨b5, o5, none⟩ = some (.string (bstr x)) ∧ u.rangeAt w4.heap.size 0 (eId i) ∧ Below w.heap.size w u) (by kernel_rfl) HS.out (fun hHeld => ?_)
          refine wpAnyH_take (i := 0) (oi := { dst := some 37, op := Op.move (Operand.tmp 7), type := 22, pos := "ref.go:152", after := #[], guard := none }) (v := ?_) rfl (by kernel_rfl) (by kernel_rfl) (by kernel_rfl) (fun _ _ _ h => h) (Or.inl ⟨by rfl, ?_⟩) (by assumption) ?_
          rotate_left
          · intro u hSu; (try dsimp only at hSu); (go_simp <;> with_reducible rfl)
          try simp only [Act.put, List.setIfInBounds_toArray, List.set_cons_zero, List.set_cons_succ]
          refine wpAnyH_take (i := 1) (oi := { dst := some 38, op := Op.move (Operand.tmp 8), type := 3, pos := "ref.go:152", after := #[], guard := none }) (v := ?_) rfl (by kernel_rfl) (by kernel_rfl) (by kernel_rfl) (fun _ _ _ h => h) (Or.inl ⟨by rfl, ?_⟩) (by assumption) ?_
          rotate_left
          · intro u hSu; (try dsimp only at hSu); (go_simp <;> with_reducible rfl)
          try simp only [Act.put, List.setIfInBounds_toArray, List.set_cons_zero, List.set_cons_succ]
          refine wpAnyH_take (i := 2) (oi := { dst := some 39, op := Op.indexAddr 22 (Operand.tmp 37) (Operand.tmp 38), type := 0, pos := "ref.go:152", after := #[{ on := 0, ground := Ground.data }, { on := 1, ground := Ground.data }], guard := none }) (v := ?_) rfl (by kernel_rfl) (by kernel_rfl) (by kernel_rfl) (fun _ _ _ h => h) (Or.inl ⟨by rfl, ?_⟩) (by assumption) ?_
          rotate_left
          · intro u hSu; (try dsimp only at hSu); (go_simp <;> with_reducible rfl)
          try simp only [Act.put, List.setIfInBounds_toArray, List.set_cons_zero, List.set_cons_succ]
          refine wpAnyH_take (i := 3) (oi := { dst := some 40, op := Op.load 9 (Operand.tmp 39), type := 9, pos := "ref.go:152", after := #[{ on := 2, ground := Ground.data }], guard := none }) (v := ?_) rfl (by kernel_rfl) (by kernel_rfl) (by kernel_rfl) (fun _ _ _ h => h) (Or.inl ⟨by rfl, ?_⟩) (by assumption) ?_
          rotate_left
          · intro u hSu; (try dsimp only at hSu); (go_simp <;> with_reducible rfl)
          try simp only [Act.put, List.setIfInBounds_toArray, List.set_cons_zero, List.set_cons_succ]
          refine wpAnyH_take (i := 4) (oi := { dst := some 41, op := Op.load 39 (Operand.tmp 9), type := 39, pos := "ref.go:152", after := #[], guard := none }) (v := .agg (eId i).toArray) rfl (by kernel_rfl) (by kernel_rfl) (by kernel_rfl) (fun _ _ _ h => h) (yieldsIf_load_mid (by rfl) 39 _ rfl w4.heap.size 0 (by rfl) (eId i) _ (fun u hSu => hSu.2.1) Tryd.underlying39 rfl (by rw [size39, len_eId])) (by assumption) ?_
          try simp only [Act.put, List.setIfInBounds_toArray, List.set_cons_zero, List.set_cons_succ]
          refine wpAnyH_take (i := 5) (oi := { dst := some 42, op := Op.build 43 #[(0, Operand.tmp 40), (1, Operand.tmp 41)], type := 43, pos := "ref.go:152", after := #[{ on := 3, ground := Ground.data }, { on := 4, ground := Ground.data }], guard := none }) (v := vRf ⟨x, i⟩) rfl (by kernel_rfl) (by kernel_rfl) (by kernel_rfl) (fun _ _ _ h => h) (Or.inl ⟨by rfl, fun u hSu => exec_bd43 rfl rfl rfl u⟩) (by assumption) ?_
          try simp only [Act.put, List.setIfInBounds_toArray, List.set_cons_zero, List.set_cons_succ]
          refine wpAnyH_ready (rs := [6]) (by kernel_rfl) (by simp) ?_
          refine AllReadyH.cons (o := { dst := none, op := Op.store 43 (Operand.tmp 4) (Operand.tmp 42), type := 0, pos := "ref.go:152", after := #[{ on := 5, ground := Ground.data }, { on := 0, ground := Ground.phase }, { on := 1, ground := Ground.phase }, { on := 2, ground := Ground.phase }, { on := 3, ground := Ground.phase }, { on := 4, ground := Ground.phase }, { on := 5, ground := Ground.phase }], guard := none }) rfl (fun K hK => ?_) AllReadyH.nil
          rw [if_pos (by rfl)]
          refine wp_st43 rfl _ _ rfl w.heap.size rfl ⟨x, i⟩ zRf rfl HG5.out ?_
          refine hK.out _ _ ⟨?_, ?_, ?_⟩ (fun hHeld => ?_)
          · rw [cell_setRow_other _ _ _ _ (by show b5 ≠ _; omega)]; exact HS.out.1
          · intro j u hu; rw [cell_setRow_other _ _ _ _ (by show w4.heap.size ≠ _; omega)]; exact HS.out.2.1 j u hu
          · exact below_setRow HS.out.2.2 (Nat.le_refl _) _
          clear hK K
          try simp only [Act.put, List.setIfInBounds_toArray, List.set_cons_zero, List.set_cons_succ]
          refine wpAnyH_take (i := 7) (oi := { dst := some 5, op := Op.assign (Operand.const (Value.int IntKind.i64 0)), type := 3, pos := "ref.go:152", after := #[{ on := 6, ground := Ground.chain }, { on := 0, ground := Ground.phase }, { on := 1, ground := Ground.phase }, { on := 2, ground := Ground.phase }, { on := 3, ground := Ground.phase }, { on := 4, ground := Ground.phase }, { on := 5, ground := Ground.phase }, { on := 6, ground := Ground.phase }], guard := none }) (v := ?_) rfl (by kernel_rfl) (by kernel_rfl) (by kernel_rfl) (fun _ _ _ h => h) (Or.inl ⟨by rfl, ?_⟩) (by assumption) ?_
          rotate_left
          · intro u hSu; (try dsimp only at hSu); (go_simp <;> with_reducible rfl)
          try simp only [Act.put, List.setIfInBounds_toArray, List.set_cons_zero, List.set_cons_succ]
          refine wpAnyH_done (by kernel_rfl) ?_ _
          have HB9 := Lib.hid hHeld.2.2
          clear hHeld hix HS
          go_wp2_with fail
          refine bodyPost_ret (results_row_tmp rfl _ w.heap.size 43 _ (0, 0) _ rfl (setRow_heap _ _ _ _ _ _ HG5.out) Tryd.underlying43 rfl (by rw [size43, size_eRf])) rfl ?_
          rw [HZ.out]
          exact ⟨rfl, HB9.out⟩
        | false =>
          have HK3 : Hid (firstF l ns = firstF l (ns.drop (k + 1))) := Lib.hid (by rw [HK2.out]; rfl)
          clear e5
          go_wp2_with (first
            | (refine new39 rfl rfl rfl _ _ rfl rfl i rfl rfl ?_; rw [← hw5.out]))
          go_roundw
          case rel => exact ⟨k + 1, by go_num, by omega, HK3, HW5⟩
          case measure => simp [intOf]; omega
      · obtain rfl : k = 3 := by omega
        have d2 : decide (((3 : Nat) : Int) < 3) = false := by decide
        have HZ : Hid (resF l s = (zRf, 35)) := Lib.hid (by rw [HF2.out, HK.out, ← hnl, List.drop_length]; rfl)
        have HG5 : Hid (wo.heap[w.heap.size]? = some (.cells (eRf zRf).toArray 43 (0, 0))) := Lib.hid ((HW.out.block _ (by omega)).trans HGa.out)
        go_wp2_with (first
          | refine bd43z rfl rfl ?_
          | refine st43 rfl rfl _ _ rfl w.heap.size rfl zRf zRf rfl HG5.out ?_)
        refine bodyPost_ret (results_row_tmp rfl _ w.heap.size 43 _ (0, 0) _ rfl (setRow_heap _ _ _ _ _ _ HG5.out) Tryd.underlying43 rfl (by rw [size43, size_eRf])) rfl ?_
        rw [HZ.out]
        exact ⟨rfl, below_setRow HWw.out (Nat.le_refl _) _⟩
  · have hne : (c == 0) = false := by rw [beq_eq_false_iff_ne]; exact h0
    have HZ : Hid (resF l s = (zRf, c)) := Lib.hid (by rw [resF_bad (by rw [hc.out]; exact h0), hc.out])
    go_wp2_with (first
      | refine bd43z rfl rfl ?_
      | refine st43 rfl rfl _ _ rfl w.heap.size rfl zRf zRf rfl HG2.out ?_)
    refine bodyPost_ret (results_row_tmp rfl _ w.heap.size 43 _ (0, 0) _ rfl (setRow_heap _ _ _ _ _ _ HG2.out) Tryd.underlying43 rfl (by rw [size43, size_eRf])) rfl ?_
    rw [HZ.out]
    exact ⟨rfl, below_setRow HW2w.out (Nat.le_refl _) _⟩
end Go.Proofs.YtopamnfelngkcaaDoor.Rf
