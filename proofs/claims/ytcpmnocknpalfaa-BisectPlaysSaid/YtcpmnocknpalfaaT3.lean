/-
  Layer 34: Next. No condition besides what the arguments are.
-/
import Derived.ChangeKeysEq
import Derived.Test.YtcpmnocknpalfaaT2
namespace Go.Proofs.Ytcpmnocknpalfaa
open Go.RowKit Go.Sl Go.B64 Go.Bis
set_option linter.unusedVariables false

theorem bcell {W w1 : World} (hb : Below W.heap.size W w1) : (∀ b o, b < W.heap.size → w1.cell? ⟨b, o, none⟩ = W.cell? ⟨b, o, none⟩) ∧ (∀ b o, b < W.heap.size → w1.frozen? ⟨b, o, none⟩ = W.frozen? ⟨b, o, none⟩) :=
  ⟨fun b o h => hb.cell (p := ⟨b, o, none⟩) h, fun b o h => hb.frozen (p := ⟨b, o, none⟩) h⟩
theorem balloc (w : World) (o : Obj) : Below w.heap.size w (w.alloc o) := (Below.refl _ _).alloc (Nat.le_refl _) _
theorem bthen {w w1 w2 : World} (h : Below w.heap.size w w1) (h2 : Below w1.heap.size w1 w2) : Below w.heap.size w w2 := h.trans (h2.mono h.size)
def Z2 (w : World) (b : Nat) : Prop := w.heap[b]? = some (.cells #[.int .u64 0, .int .u64 0] 80 (0, 0))
theorem Z2.ext {w w' : World} {b : Nat} (h : Z2 w b) (hb : Below w.heap.size w w') : Z2 w' b := (hb.block _ (Array.getElem?_eq_some_iff.1 h).1).trans h
theorem z2_new (w : World) : Z2 (w.alloc (.cells #[.int .u64 0, .int .u64 0] 80)) w.heap.size := heap_alloc_new _ _
theorem z2_newd (w : World) : Z2 (w.alloc (.cells #[.int .u64 0, .int .u64 0] 80)).drew w.heap.size := heap_alloc_new _ _
theorem z2_cells {w : World} {b : Nat} (h : Z2 w b) : b < w.heap.size ∧ w.cell? ⟨b, 0, none⟩ = some (.int .u64 0) ∧ w.cell? ⟨b, 1, none⟩ = some (.int .u64 0) ∧ w.frozen? ⟨b, 0, none⟩ = false ∧ w.frozen? ⟨b, 1, none⟩ = false := two_cells h
theorem wp_storeRow {P : Program} {o : Oper} {a : Act} {w : World} {K : Act → World → Prop} {Q : Exit → Act → World → Prop} (hd : o.dst = none) (t : TypeId) (x y : Operand)
    (ho : o.op = .store t x y) (g : Nat) (hx : a.eval x = .pointer (some ⟨g, 0, none⟩)) (cs : Array Value) (hy : a.eval y = .agg cs) (e : TypeId) (cur : Array Value) (hb : w.heap[g]? = some (.cells cur e (0, 0)))
    (hsz : cur.size = cs.size) (hi : (P.info? t).map (·.size) = some cs.size) (h1 : ∀ u ∈ cs.toList, u.oneCell' = true)
    (h : K a (w.setRow g cs)) : o.wp P a w K Q := by
  obtain ⟨i, hi1, hi2⟩ := Option.map_eq_some_iff.1 hi
  have hst := run_storeCells_at P g 0 e cs.toList 0 cur w hb (by simp [hsz]) h1
  have hst' : (storeCells ⟨g, 0, none⟩ cs.toList).run P w = .ok () (w.setRow g cs) := by
    have hdr : cur.toList.drop cur.size = [] := by simp
    rw [hst]
    congr 2
    simp [← hsz, hdr]
  unfold Oper.wp
  simp [execOp, ho, hx, hy, Instr.storeAt, Instr.sureAddr, storeVar, Value.cells, sizeOf, typeInfo, hi1, hi2, hst', Result.andThen]
  rw [Oper.upon_skip, hd]
  exact h
theorem step_storeRow {P : Program} {ops : Array Oper} {o : Oper} {a : Act} {w : World} {K : Act → World → Prop} {E : Prop} {Q : Exit → Act → World → Prop} (hg : o.guard = none) (hd : o.dst = none) (t : TypeId) (x y : Operand)
    (ho : o.op = .store t x y) (g : Nat) (hx : a.eval x = .pointer (some ⟨g, 0, none⟩)) (cs : Array Value) (hy : a.eval y = .agg cs) (e : TypeId) (cur : Array Value) (hb : w.heap[g]? = some (.cells cur e (0, 0)))
    (hsz : cur.size = cs.size) (hi : (P.info? t).map (·.size) = some cs.size) (h1 : ∀ u ∈ cs.toList, u.oneCell' = true)
    (h : K a (w.setRow g cs)) : if Region.wanted o (yielded ops a.tmps) = true then Oper.wp P o a w K Q else E := by
  rw [if_pos (by simp [Region.wanted, hg])]
  exact wp_storeRow hd t x y ho g hx cs hy e cur hb hsz hi h1 h
theorem below_swap {B : Nat} {w u : World} {o o' : Obj} (h : Below B w (u.alloc o)) (hB : B ≤ u.heap.size) : Below B w (u.alloc o') :=
  ⟨h.os, h.tape, h.output, by have := h.size; simpa using this, fun k hk => (Below.heap_alloc _ _ _ (by omega)).trans ((Below.heap_alloc _ _ _ (by omega)).symm.trans (h.block k hk))⟩
theorem eql78 (d : Nat) (a b : Int) (w : World) : (Op.equalIn (d + 1) 78 (.int .u64 a) (.int .u64 b)).run Try.prog w = .ok (a == b) w := by
  simp [Op.equalIn, run_underlying Try.underlying78]
theorem eql80 (a b c d : Int) (w : World) : (binOp .eql 80 (.agg #[.int .u64 a, .int .u64 b]) (.agg #[.int .u64 c, .int .u64 d])).run Try.prog w = .ok (.bool (a == c && b == d)) w := by
  have k78 : Try.prog.cellsOf 78 = 1 := by kernel_rfl
  have hs : (Try.prog.info? 78).map (·.size) = some 1 := by kernel_rfl
  obtain ⟨i, hi, hi2⟩ := Option.map_eq_some_iff.1 hs
  have h : (Op.equalIn 10000 80 (.agg #[.int .u64 a, .int .u64 b]) (.agg #[.int .u64 c, .int .u64 d])).run Try.prog w = .ok (a == c && b == d) w := by
    rw [run_equalIn_array w 9999 _ _ Try.underlying80 hi, k78]
    simp only [show List.range 2 = [0, 1] from rfl, Op.eqItems, Sem.run_bind]
    simp [part, isAgg, run_underlying Try.underlying78, eql78 9998]
    by_cases h1 : a = c <;> by_cases h2 : b = d <;> simp [h1, h2]
  have h' : (Op.equal 80 (.agg #[.int .u64 a, .int .u64 b]) (.agg #[.int .u64 c, .int .u64 d])).run Try.prog w = .ok (a == c && b == d) w := h
  simp [binOp, h']

/-- the state of the search -/
def bN (a : Acc) : Int := match a with | none => 0 | some (b, _) => b
def wN (a : Acc) : Int := match a with | none => -1 | some (_, x) => x
theorem filt_opens {n : St} (hw : n.worst < 128) (S0 : S) (hS : ∀ x, mem S0 x = opn n x) : Dag.filtN (mem S0) 128 = (opens n 128).map (fun k : Nat => (k : Int)) := by
  rw [filtN_range]; unfold opens
  congr 1
  exact List.filter_congr fun x _ => hS x
theorem acc_none {U : Nat → S} {n : St} {N : Nat} (h : ∀ x, opn n x = false) : acc U n N = none := by
  rcases acc_best U n N with ⟨h1, -⟩ | ⟨b, -, -, h2, -⟩
  · exact h1
  · rw [h b] at h2; cases h2
theorem acc_some {U : Nat → S} {n : St} {N x : Nat} (h : opn n x = true) (hx : x < N) : ∃ b v, acc U n N = some (b, v) := by
  rcases acc_best U n N with ⟨-, h1⟩ | ⟨b, h1, -⟩
  · rw [h1 x hx] at h; cases h
  · exact ⟨_, _, h1⟩
theorem wt_le (U : Nat → S) (c : S) (x : Nat) : wt U c x ≤ cnt c := by
  unfold wt cnt
  have : ∀ l : List Nat, (l.filter (mem (U x &&& c))).length ≤ (l.filter (mem c)).length := fun l => by
    induction l with
    | nil => exact Nat.le_refl _
    | cons y l ih =>
      rw [List.filter_cons, List.filter_cons, mem_and]
      cases mem (U x) y <;> cases mem c y <;> simp <;> omega
  exact this _
theorem fold_take {v : Nat → Nat} {L : List Nat} {k : Nat} (h : k < L.length) : fold v (L.take (k + 1)) = up1 v (fold v (L.take k)) L[k] := by
  rw [List.take_succ_eq_append_getElem h, fold_snoc]
theorem sv_zero : sv 0 = .agg #[.int .u64 0, .int .u64 0] := by
  unfold sv; rw [wd_zero, wd_zero]; rfl
theorem with_zero (n : Nat) (hn : n < 128) (w : World) : Calls Try.prog 83 #[.agg #[.int .u64 0, .int .u64 0], .int .i64 (n : Int)] w fun e w' => e = .returned (sv (one n)) ∧ Below w.heap.size w w' := by
  have := with_any 0 n hn w
  rw [sv_zero] at this
  refine this.mono ?_
  rintro e w' ⟨rfl, hb⟩
  exact ⟨by rw [show (0 : S) ||| one n = one n from B64.ext fun x _ => by rw [mem_or, mem_zero, Bool.false_or]], hb⟩
/-- those that may be asked -/
def opS (n : St) : S := (n.cand &&& ~~~ n.skip) &&& ~~~ one n.worst
theorem mem_opS {n : St} (hw : n.worst < 128) (x : Nat) : mem (opS n) x = opn n x := by
  unfold opS opn; rw [mem_less, mem_less, mem_one hw]

theorem info80 : (Try.prog.info? 80).map (·.size) = some (#[Value.int .u64 0, .int .u64 0] : Array Value).size := by kernel_rfl
set_option maxRecDepth 100000 in
set_option maxHeartbeats 1000000 in
theorem bnext_any {base sb ub N : Nat} {U : Nat → S} {f n : St} {w : World} (h : Se base sb ub N U f n w) (hN : N ≤ 128) (hlt : ∀ x, mem n.cand x = true → x < N) (hw : n.worst < N) :
    Calls Try.prog 38 #[.pointer (some ⟨sb, 0, none⟩)] w fun e w' => e = .returned (.tuple #[.int .i64 (nxN (acc U n N) : Nat), .bool (nxB (acc U n N))]) ∧ Below w.heap.size w w' := by
  have HS := Lib.hid h
  have HD := Lib.hid (dead_no h)
  obtain ⟨c7, c8, c9, c10, c11, -, c0⟩ := h.now
  clear h
  go_enter Try.func38, Try.ntmps38
  go_wp2_with fail
  refine HD.out.mono ?_
  rintro e w1 ⟨rfl, rfl⟩
  go_wp2_with fail
  refine (count_any _ _).mono ?_
  rintro e w2 ⟨rfl, hb2⟩
  go_wp2_with fail
  have HS2 := Lib.hid (HS.out.ext hb2)
  have HB2 := Lib.hid hb2
  have hw8 : n.worst < 128 := by omega
  have hsb := HS2.out.lt
  obtain ⟨c7, c8, c9, c10, c11, -, c0⟩ := HS2.out.now
  have HK : Hid (∀ u, Below w2.heap.size w2 u → u.cell? ⟨sb, 7, none⟩ = some (.int .u64 (u64 (wd n.cand 0))) ∧ u.cell? ⟨sb, 8, none⟩ = some (.int .u64 (u64 (wd n.cand 1))) ∧ u.cell? ⟨sb, 9, none⟩ = some (.int .u64 (u64 (wd n.skip 0))) ∧ u.cell? ⟨sb, 10, none⟩ = some (.int .u64 (u64 (wd n.skip 1))) ∧
      u.cell? ⟨sb, 11, none⟩ = some (.int .i64 (n.worst : Int)) ∧ Below w2.heap.size w2 u) := Lib.hid (fun u hu =>
    ⟨(hu.cell (p := ⟨sb, 7, none⟩) hsb).trans c7, (hu.cell (p := ⟨sb, 8, none⟩) hsb).trans c8, (hu.cell (p := ⟨sb, 9, none⟩) hsb).trans c9, (hu.cell (p := ⟨sb, 10, none⟩) hsb).trans c10, (hu.cell (p := ⟨sb, 11, none⟩) hsb).trans c11, hu⟩)
  have b0 : Below w2.heap.size w2 w2.drew := (Below.refl _ _).drew
  have b0a : ∀ o, Below w2.heap.size w2 (w2.alloc o).drew := fun o => ((Below.refl _ _).alloc (Nat.le_refl _) o).drew
  clear hb2 c7 c8 c9 c10 c11 c0
  go_cut [5] (fun s wx => ∃ blk, s = .pointer (some ⟨blk, 0, none⟩) ∧ Hid (wx.heap[blk]? = some (.cells #[.int .u64 (u64 (wd (opS n) 0)), .int .u64 (u64 (wd (opS n) 1))] 80 (0, 0))) ∧ Hid (w2.heap.size ≤ blk) ∧ Hid (Below w2.heap.size w2 wx))
  case first =>
    go_region_held3 (fun u => u.cell? ⟨sb, 7, none⟩ = some (.int .u64 (u64 (wd n.cand 0))) ∧ u.cell? ⟨sb, 8, none⟩ = some (.int .u64 (u64 (wd n.cand 1))) ∧ u.cell? ⟨sb, 9, none⟩ = some (.int .u64 (u64 (wd n.skip 0))) ∧ u.cell? ⟨sb, 10, none⟩ = some (.int .u64 (u64 (wd n.skip 1))) ∧
      u.cell? ⟨sb, 11, none⟩ = some (.int .i64 (n.worst : Int)) ∧ Below w2.heap.size w2 u)
      (first
        | exact HK.out _ b0
        | exact HK.out _ HBC
        | exact HK.out _ HBB
        | exact HK.out _ HBA
        | exact HK.out _ (bthen HBC (balloc _ _))
        | exact HK.out _ (bthen HBB (balloc _ _))
        | exact HK.out _ (bthen HBA (balloc _ _))
        | exact HK.out _ (b0a _)
        | (refine HK.out _ ((HBC.setCell ?_ _).setCell ?_ _) <;> (dsimp only; have := HBA.size; have := HBB.size; omega)))
      (first
        | (go_at_call 80; have _g := HBB.size; (refine (less_any _ _ _).mono ?_); rintro e u9 ⟨rfl, hbC⟩; have HBC : Below w2.heap.size w2 u9 := (by first | exact bthen HBB hbC | exact bthen (bthen HBB (balloc _ _)) hbC); (first | (have HZC : Z2 u9 u8.heap.size := (z2_new u8).ext hbC; obtain ⟨zl, z0, z1, zf0, zf1⟩ := z2_cells HZC) | (have HZC : Z2 u9 u7.heap.size := HZB.ext hbC; obtain ⟨zl, z0, z1, zf0, zf1⟩ := z2_cells HZC) | (have HZC : Z2 u9 w2.heap.size := HZB.ext hbC; obtain ⟨zl, z0, z1, zf0, zf1⟩ := z2_cells HZC) | skip))
        | (go_at_call 83; (refine (with_zero _ hw8 _).mono ?_); rintro e u8 ⟨rfl, hbB⟩; have HBB : Below w2.heap.size w2 u8 := (by first | exact bthen HBA hbB | exact bthen (bthen HBA (balloc _ _)) hbB); (first | (have HZB : Z2 u8 u7.heap.size := (z2_new u7).ext hbB) | (have HZB : Z2 u8 w2.heap.size := HZA.ext hbB) | skip))
        | (go_at_call 80; (refine (less_any _ _ _).mono ?_); rintro e u7 ⟨rfl, hbA⟩; have HBA : Below w2.heap.size w2 u7 := (by first | exact bthen b0 hbA | exact bthen (b0a _) hbA); (first | (have HZA : Z2 u7 w2.heap.size := (z2_newd w2).ext hbA) | skip)))
    all_goals
      have hsA := HBA.size
      have hsB := HBB.size
      have hsC := HBC.size
      go_wp2_with fail
      go_meet
      first
        | exact ⟨_, rfl, Lib.hid (heap_alloc_new _ _), Lib.hid (by omega), Lib.hid (bthen HBC (balloc _ _))⟩
        | exact ⟨_, rfl, Lib.hid (two_set HZC), Lib.hid (by omega), Lib.hid ((HBC.setCell (by dsimp only; omega) _).setCell (by dsimp only; omega) _)⟩
  case rest =>
    obtain ⟨w3, rfl⟩ : ∃ w3 : World, w3 = wc := ⟨_, rfl⟩
    obtain ⟨blk, rfl, HO, HL, HB3⟩ := hcut
    obtain ⟨o0, o1, o2, -, -⟩ := two_cells HO.out
    have HS3 := Lib.hid (HS2.out.ext HB3.out)
    clear b0 b0a HK
    have heq := eql80
    by_cases hz : opS n = 0
    · have z0 : u64 (wd (opS n) 0) = 0 := by rw [hz, wd_zero]; rfl
      have z1 : u64 (wd (opS n) 1) = 0 := by rw [hz, wd_zero]; rfl
      have HA : Hid (acc U n N = none) := Lib.hid (acc_none (fun x => by rw [← mem_opS hw8, hz, mem_zero]))
      clear hz
      go_wp2_with fail
      go_ret2
      exact ⟨by rw [HA.out]; rfl, bthen HB2.out HB3.out⟩
    · have hzz : (u64 (wd (opS n) 0) == 0 && u64 (wd (opS n) 1) == 0) = false := by
        cases h1 : u64 (wd (opS n) 0) == 0 with
        | false => rfl
        | true =>
          cases h2 : u64 (wd (opS n) 1) == 0 with
          | false => rfl
          | true =>
            exfalso; apply hz
            rw [eq_zero]
            exact ⟨u64_inj ((by simpa using h1 : u64 (wd (opS n) 0) = 0).trans rfl), u64_inj ((by simpa using h2 : u64 (wd (opS n) 1) = 0).trans rfl)⟩
      obtain ⟨x0, hx0⟩ : ∃ x, mem (opS n) x = true := by
        refine Classical.byContradiction fun hc => hz (B64.ext fun x _ => ?_)
        rw [mem_zero]
        cases hm : mem (opS n) x
        · rfl
        · exact absurd ⟨x, hm⟩ hc
      rw [mem_opS hw8] at hx0
      have hcl : ∀ x, opn n x = true → x < N := fun x hx => hlt x (by unfold opn at hx; simp only [Bool.and_eq_true] at hx; exact hx.1.1)
      obtain ⟨bb, bv, hab⟩ := acc_some (U := U) hx0 (hcl _ hx0)
      obtain ⟨L, hL⟩ : ∃ L, Hid (L = opens n 128) := ⟨_, Lib.hid rfl⟩
      have HAc : Hid (fold (vl U n.cand) L = some (bb, bv)) := Lib.hid (by rw [hL.out, ← hab]; exact acc_ge hlt 128 hN)
      have HNx : Hid (nxN (acc U n N) = bb ∧ nxB (acc U n N) = true) := Lib.hid (by rw [hab]; exact ⟨rfl, rfl⟩)
      have HLm : Hid (∀ x ∈ L, x < N) := Lib.hid (fun x hx => by rw [hL.out] at hx; exact hcl x (List.mem_filter.1 hx).2)
      have hLl : L.length ≤ 128 := by
        rw [hL.out]; unfold opens
        have := List.length_filter_le (opn n) (List.range 128)
        simpa using this
      have HLs := Lib.hid (slist_any (opS n) w3)
      have HF : Hid (Dag.filtN (mem (opS n)) 128 = L.map (fun k : Nat => (k : Int))) := Lib.hid (by rw [hL.out]; exact filt_opens hw8 _ (mem_opS hw8))
      rw [HF.out] at HLs
      obtain ⟨al, hal⟩ : ∃ al, Hid (cnt n.cand = al) := ⟨_, Lib.hid rfl⟩
      have hal2 : al ≤ 128 := by rw [← hal.out]; exact cnt_le _
      clear hz hx0 hab hcl hlt c7 c8 c9 c10 c11 c0
      rw [hal.out]
      go_wp2_with fail
      refine HLs.out.mono ?_
      rintro e w4 ⟨lv, rfl, ho, hb4⟩
      have HOl := Lib.hid (ho.sl len_eInt)
      have HB4 : Hid (Below w2.heap.size w2 w4) := Lib.hid (bthen HB3.out hb4)
      have HS4 := Lib.hid (HS3.out.ext hb4)
      have hlen := (ho.sl len_eInt).run_len (P := Try.prog) Try.underlying23
      rw [List.length_map] at hlen
      clear ho hb4 HLs o0 o1 o2 hzz heq HO HL HB3 HS3
      go_wp2_with fail
      go_loopw [6, 7, 45] (fun b6 b7 i wr => ∃ (k : Nat), i = .int .i64 k ∧ k ≤ L.length ∧ b6 = .int .i64 (bN (fold (vl U n.cand) (L.take k))) ∧ b7 = .int .i64 (wN (fold (vl U n.cand) (L.take k))) ∧ Hid (Below w4.heap.size w4 wr)) (fun _ _ i _ => L.length - (intOf i).toNat)
      case atStart => exact ⟨0, rfl, by omega, rfl, rfl, Lib.hid (Below.refl _ _)⟩
      case round =>
        obtain ⟨k, rfl, hk, rfl, rfl, HW⟩ := hrel
        by_cases hlt2 : k < L.length
        · have hkm : k < (L.map (fun k : Nat => (k : Int))).length := by rw [List.length_map]; exact hlt2
          obtain ⟨b2, o2, hb2, hix2, hc2⟩ := HOl.out.atB HW.out (P := Try.prog) Try.underlying23 cells3 some3 hkm
          have e1 := hc2 0 (by omega)
          simp only [eInt, List.getElem?_cons_zero, Nat.add_zero, List.getElem_map] at e1
          obtain ⟨y, hy⟩ : ∃ y, Hid (L[k] = y) := ⟨_, Lib.hid rfl⟩
          rw [hy.out] at e1
          have hyN : y < N := by rw [← hy.out]; exact HLm.out _ (List.getElem_mem hlt2)
          have HWt := Lib.hid (weight_any (HS4.out.ext HW.out) y hyN hN)
          obtain ⟨x, hx⟩ : ∃ x, Hid (wt U n.cand y = x) := ⟨_, Lib.hid rfl⟩
          rw [hx.out] at HWt
          have hxl : x ≤ al := by rw [← hx.out, ← hal.out]; exact wt_le _ _ _
          have HF1 : Hid (fold (vl U n.cand) (L.take (k + 1)) = up1 (vl U n.cand) (fold (vl U n.cand) (L.take k)) y) := Lib.hid (by rw [fold_take hlt2, hy.out])
          have HV : Hid (vl U n.cand y = min x (al - x)) := Lib.hid (by unfold vl; rw [hx.out, hal.out])
          obtain ⟨a, ha⟩ : ∃ a, Hid (fold (vl U n.cand) (L.take k) = a) := ⟨_, Lib.hid rfl⟩
          rw [ha.out] at HF1 ⊢
          clear hc2
          go_wp2_with fail
          refine HWt.out.mono ?_
          rintro e w5 ⟨rfl, hb5⟩
          have HW5 : Hid (Below w4.heap.size w4 w5) := Lib.hid (bthen HW.out hb5)
          clear hb5
          obtain ⟨vn, hvn⟩ : ∃ vn, Hid (vl U n.cand y = vn) := ⟨_, Lib.hid rfl⟩
          have HM : Hid ((if (al : Int) - (x : Int) < (x : Int) then (al : Int) - (x : Int) else (x : Int)) = (vn : Int)) := Lib.hid (by
            have h1 := HV.out
            rw [hvn.out] at h1
            split <;> omega)
          obtain ⟨m1, hm1⟩ : ∃ m1, Hid (wN a = m1) := ⟨_, Lib.hid rfl⟩
          obtain ⟨q1, hq1⟩ : ∃ q1, Hid (bN a = q1) := ⟨_, Lib.hid rfl⟩
          rw [hm1.out, hq1.out]
          clear hix2 hlen e1 hyN
          go_upto_region 13 with fail
          rw [HM.out]
          clear hxl hal2
          by_cases hdd : m1 < (vn : Int)
          · have HU : Hid (up1 (vl U n.cand) a y = some (y, vn)) := Lib.hid (by
              cases a with
              | none => simp [up1, hvn.out]
              | some p =>
                have h1 : (p.2 : Int) = m1 := hm1.out
                simp [up1, hvn.out]; omega)
            go_wp2_with fail
            go_roundw
            case rel => exact ⟨k + 1, by go_num, by omega, by rw [HF1.out, HU.out]; rfl, by rw [HF1.out, HU.out]; rfl, HW5⟩
            case measure => simp [intOf]; omega
          · have HU : Hid (up1 (vl U n.cand) a y = a) := Lib.hid (by
              cases a with
              | none =>
                have h1 : (-1 : Int) = m1 := hm1.out
                omega
              | some p =>
                have h1 : (p.2 : Int) = m1 := hm1.out
                simp [up1, hvn.out]; omega)
            go_wp2_with fail
            go_roundw
            case rel => exact ⟨k + 1, by go_num, by omega, by rw [HF1.out, HU.out, hq1.out], by rw [HF1.out, HU.out, hm1.out], HW5⟩
            case measure => simp [intOf]; omega
        · have HX : Hid (fold (vl U n.cand) (L.take k) = some (bb, bv)) := Lib.hid (by rw [List.take_of_length_le (by omega)]; exact HAc.out)
          rw [HX.out]
          go_wp2_with fail
          go_ret2
          exact ⟨by rw [HNx.out.1, HNx.out.2]; rfl, bthen HB2.out (bthen HB4.out HW.out)⟩
end Go.Proofs.Ytcpmnocknpalfaa
