/-
  Layer 15: the pile; what stands while a walk runs. No condition besides what the arguments are.
-/
import Derived.Test.YtcpmnocknpalfaaQ2
import Derived.Test.YtcpmnocknpalfaaS4
import Derived.Test.YtcpmnocknpalfaaQ9
import Derived.Test.YtcpmnocknpalfaaKB
import Derived.Test.YtcpmnocknpalfaaApIn
import Derived.RangeFuncFrom
namespace Go.Proofs.Ytcpmnocknpalfaa
open Go.RowKit Go.Sl
set_option linter.unusedVariables false

/-- a pile at block pb -/
structure PS (base pb : Nat) (v : Value) (l : List Int) (wr : World) : Prop where
  hb : base ≤ pb
  blk : wr.heap[pb]? = some (.cells #[v] 123 (0, 0))
  own : Sl.Own eInt 1 base 3 wr v l
/-- the pile behind a call -/
def PileX (base pb : Nat) (qv : Value) (l : List Int) (w w' : World) : Prop := ∃ v, PS base pb v l w' ∧ Mv eInt 1 base 3 qv v w w' ∧ Kt 3 123 w w' ∧ Below base w w' ∧ Ko w w'

set_option maxRecDepth 100000 in
theorem empty147 (w : World) (pb base : Nat) (qv : Value) (q : List Int) (hp : w.heap[pb]? = some (.cells #[qv] 123 (0, 0))) (ho : Sl.Own eInt 1 base 3 w qv q) :
    Calls Try.prog 147 #[.pointer (some ⟨pb, 0, none⟩)] w fun e w' => e = .returned (.bool (decide (q = []))) ∧ w' = w := by
  obtain ⟨h1, c1, f1⟩ := one_cells hp
  have hl := (ho.sl len_eInt).run_len (P := Try.prog) Try.underlying23
  cases q with
  | nil =>
    simp only [List.length_nil] at hl
    clear hp ho
    go_enter Try.func147, Try.ntmps147
    go_wp2_with fail
    go_ret
    exact ⟨rfl, rfl⟩
  | cons y r =>
    simp only [List.length_cons] at hl
    have hd : (((r.length + 1 : Nat) : Int) == 0) = false := by simp; omega
    have hd2 : ((r.length : Int) + 1 == 0) = false := by simp; omega
    clear hp ho
    go_enter Try.func147, Try.ntmps147
    go_wp2_with fail
    go_ret
    exact ⟨by simp, rfl⟩

set_option maxRecDepth 100000 in
set_option maxHeartbeats 1000000 in
theorem put148 (base : Nat) (w : World) (pb : Nat) (qv : Value) (q : List Int) (x : Int) (hp : PS base pb qv q w) (hn : q.length < 1000) :
    Calls Try.prog 148 #[.pointer (some ⟨pb, 0, none⟩), .int .i64 x] w fun e w' => e = .returned (.tuple #[]) ∧ PileX base pb qv (q ++ [x]) w w' := by
  obtain ⟨hbp, hblk, ho⟩ := hp
  obtain ⟨hpl, c0, f0⟩ := one_cells hblk
  have HP := Lib.hid hblk
  have HO := Lib.hid ho
  have hsz : base ≤ w.heap.size := by omega
  clear hblk ho
  go_enter Try.func148, Try.ntmps148
  go_wp2_with (at_builtin; refine wpList_append1 rfl (en := eInt) (s := 1) (base := base) (e := 3) _ _ 23 rfl (.int .i64 0) 8 Try.underlying23 info3 rfl (by decide) len_eInt one_eInt qv _ q x rfl (HO.out.alloc _) rfl (Sl.fresh len_eInt rfl rfl rfl (by simp [maxLen])) (by simp only [maxLen]; omega) (by omega) (by simp; omega) ?_)
  intro v w1 hown hgr hbel hblk
  have hkt := (Kt.below (e1 := 3) (e2 := 123) ((Below.refl _ _).alloc (Nat.le_refl _) (.cells #[.int .i64 x] 3))).trans (Kt.append (HO.out.alloc (.cells #[.int .i64 x] 3)) hgr)
  have hmv := (Mv.below (en := eInt) (s := 1) (base := base) (e := 3) (q := qv) ((Below.refl _ _).alloc (Nat.le_refl _) (.cells #[.int .i64 x] 3))).trans (Mv.append hgr (by simpa using hblk))
  have hko := (Ko.below (bel0 w (.cells #[.int .i64 x] 3))).trans (Ko.append (HO.out.alloc (.cells #[.int .i64 x] 3)) hgr)
  have hp1 := grown_heap hgr (heap_keep (p := .cells #[.int .i64 x] 3) HP.out) (HO.out.ne_elem HP.out (by decide))
  have hb1 := ((Below.refl base w).alloc hsz (.cells #[.int .i64 x] 3)).trans hbel
  obtain ⟨_, d0, g0⟩ := one_cells hp1
  obtain ⟨g, cap, cur, hv, _⟩ := hown.block (by simp)
  rw [show (q ++ [x]).length = q.length + 1 by simp] at hv
  subst hv
  have HX : Hid (PileX base pb qv (q ++ [x]) w (w1.setCell ⟨pb, 0, none⟩ (.slice (some ⟨g, 0, none⟩) (q.length + 1) cap))) := Lib.hid ⟨_,
    ⟨hbp, heap_setCell_same _ _ _ _ _ _ hp1, hown.set_other (hown.ne_elem hp1 (by decide)) (a := ⟨pb, 0, none⟩) _⟩, hmv.trans (Mv.set_elem (a := ⟨pb, 0, none⟩) hp1 (by decide)),
      hkt.trans (Kt.set (a := ⟨pb, 0, none⟩) hp1 (.inr rfl)), hb1.setCell hbp _, hko.trans (Ko.set (a := ⟨pb, 0, none⟩) hp1)⟩
  clear hown hgr hbel hblk hkt hmv hp1 hb1 hko
  go_wp2_with fail
  go_end0
  exact ⟨rfl, HX.out⟩

set_option maxRecDepth 100000 in
set_option maxHeartbeats 1000000 in
theorem take149 (base : Nat) (w : World) (pb : Nat) (qv : Value) (q : List Int) (x : Int) (hp : PS base pb qv (q ++ [x]) w) (hn : q.length < 1000) :
    Calls Try.prog 149 #[.pointer (some ⟨pb, 0, none⟩)] w fun e w' => e = .returned (.int .i64 x) ∧ PileX base pb qv q w w' := by
  obtain ⟨hbp, hblk, ho⟩ := hp
  obtain ⟨g, cap, cur, hv, _, _, hcap, _⟩ := ho.block (by simp)
  rw [List.length_append, List.length_singleton] at hv hcap
  subst hv
  obtain ⟨hpl, c0, f0⟩ := one_cells hblk
  obtain ⟨hg1, hg2, -, hcell⟩ := own_cells ho
  obtain ⟨ck, fk⟩ := hcell q.length (by simp)
  have hge : Hp.ge (q ++ [x]) q.length = x := by simp [Hp.ge, List.getD_eq_getElem?_getD]
  rw [hge] at ck
  have ho2 : Sl.Own eInt 1 base 3 w (.slice (some ⟨g, 0, none⟩) q.length cap) q := by
    have := own_take ho (m := q.length) (by simp)
    rwa [show (q ++ [x]).take q.length = q by simp] at this
  have m1 : Mv eInt 1 base 3 (.slice (some ⟨g, 0, none⟩) (q.length + 1) cap) (.slice (some ⟨g, 0, none⟩) q.length cap) w w := fun v l h1 h2 => ⟨h1, h2⟩
  have HX : Hid (PileX base pb (.slice (some ⟨g, 0, none⟩) (q.length + 1) cap) q w (w.setCell ⟨pb, 0, none⟩ (.slice (some ⟨g, 0, none⟩) q.length cap))) := Lib.hid ⟨_,
    ⟨hbp, heap_setCell_same _ _ _ _ _ _ hblk, ho2.set_other (ho2.ne_elem hblk (by decide)) (a := ⟨pb, 0, none⟩) _⟩, m1.trans (Mv.set_elem (a := ⟨pb, 0, none⟩) hblk (by decide)),
      Kt.set (a := ⟨pb, 0, none⟩) hblk (.inr rfl), (Below.refl _ _).setCell hbp _, Ko.set (a := ⟨pb, 0, none⟩) hblk⟩
  clear hblk ho hcell hge ho2 m1
  go_enter Try.func149, Try.ntmps149
  go_wp2_with fail
  go_ret
  exact ⟨rfl, HX.out⟩
end Go.Proofs.Ytcpmnocknpalfaa
namespace Go.Proofs.Ytcpmnocknpalfaa
open Go.Proofs Go.RowKit Go.Shelf Go.Sl
set_option linter.unusedVariables false

/-- an own row stays when a block that is no cells is turned -/
theorem own_nc {base : Nat} {v : Value} {l : List Int} {W W' : World} {row : Option Nat} (h : Sl.Own eInt 1 base 3 W v l) (hg : W.grownBy W' row) (hr : ∀ r, row = some r → ∃ o : Obj, W.heap[r]? = some o ∧ o.isCells = false) : Sl.Own eInt 1 base 3 W' v l := by
  refine Sl.Own.kept h hg ?_
  rcases h.2 with ⟨rfl, _⟩ | ⟨g', cap, cur, rfl, _, hg', _⟩
  · exact .inl rfl
  · right; intro e
    obtain ⟨o, ho, hc⟩ := hr g' e.symm
    rw [hg'] at ho
    obtain rfl := Option.some.inj ho
    simp [Obj.isCells] at hc
theorem ko_others {W W' : World} (h : Ko W W') (hs : W.heap.size ≤ W'.heap.size) : KeepsOthers W W' := ⟨hs, fun k o hk ho => h k o (fun c e fr e1 => by subst e1; simp [Obj.isCells] at ho) hk⟩

section
variable {w0 : World} {wb ib ob : Nat} {gv : Value} {N : Nat} {inl : Nat → Bool} {op op' : Nat → Int} {qb : Nat} {fv : Value} {cb : Nat} {bx : Value} {eb : TypeId} {B3 B4 : Nat} {v : Value} {q : List Int} {W W' : World}
theorem RQ.congr (h : RQ w0 wb ib ob gv N inl op qb fv cb bx eb B3 B4 v q W) (he : ∀ x, x < N → op x = op' x) : RQ w0 wb ib ob gv N inl op' qb fv cb bx eb B3 B4 v q W :=
  ⟨h.wk.congr (fun _ _ => rfl) he, h.hqb, h.blk, h.own, h.ap, h.b3, h.b4, h.bc, h.bel⟩
theorem RQ.setOp (h : RQ w0 wb ib ob gv N inl op qb fv cb bx eb B3 B4 v q W) (heb : eb ≠ 3) {k : Nat} (hk : k < N) (x : Int) : RQ w0 wb ib ob gv N inl (updI op k x) qb fv cb bx eb B3 B4 v q (W.setCell ⟨ob, k, none⟩ (.int .i64 x)) := by
  have n : ∀ {b : Nat} {c : Array Value} {e : TypeId}, e ≠ 3 → W.heap[b]? = some (.cells c e (0, 0)) → (W.setCell ⟨ob, k, none⟩ (.int .i64 x)).heap[b]? = some (.cells c e (0, 0)) := fun {b c e} he hb =>
    heap_set_keep (a := ⟨ob, k, none⟩) hb (fun e1 => Sl.Own.ne_elem h.wk.opn hb he (by simp [Value.ownBlock, e1]))
  obtain ⟨-, -, -, hob⟩ := oi_cell h.wk.opn hk
  refine ⟨h.wk.setOp hk x, h.hqb, n (by decide) h.blk, Sl.Own.set_other h.own (a := ⟨ob, k, none⟩) ?_ _, h.ap, n (by decide) h.b3, n (by decide) h.b4, n heb h.bc, h.bel.setCell (p := ⟨ob, k, none⟩) hob _⟩
  rcases h.ap with e | e
  · cases e
  · exact fun e1 => e (by rw [e1]; rfl)
theorem RQ.nc (h : RQ w0 wb ib ob gv N inl op qb fv cb bx eb B3 B4 v q W) (heb : eb ≠ 3) {row : Option Nat} (hg : W.grownBy W' row) (hr : ∀ r, row = some r → w0.heap.size ≤ r ∧ ∃ o : Obj, W.heap[r]? = some o ∧ o.isCells = false) : RQ w0 wb ib ob gv N inl op qb fv cb bx eb B3 B4 v q W' :=
  h.grown heb hg fun r e => by
    obtain ⟨h1, o, ho, hc⟩ := hr r e
    refine ⟨h1, (Array.getElem?_eq_some_iff.1 ho).1, fun c e fr h3 => ?_⟩
    rw [h3] at ho
    obtain rfl := Option.some.inj ho
    simp [Obj.isCells] at hc
end

/-- what else stands while a round goes over the parents: what is told, the box of those that come, the marks -/
structure RS (base ob N Bs B : Nat) (sl : Value) (Ds : List Nat) (ov : Value) (out : List Int) (v : Value) (W : World) : Prop where
  own : Sl.Own eInt 1 base 3 W ov out
  ap : Apart ov v
  ap2 : Apart ov (.slice (some ⟨ob, 0, none⟩) N N)
  bs : W.heap[Bs]? = some (.cells #[sl] 23 (0, 0))
  ds : ∀ D ∈ Ds, base ≤ D ∧ D < B ∧ W.heap[D]? = some (.deferred (some []))
section
variable {base ob N Bs B : Nat} {sl : Value} {Ds : List Nat} {ov : Value} {out : List Int} {v v' : Value} {W W' : World}
theorem RS.nc (h : RS base ob N Bs B sl Ds ov out v W) {row : Option Nat} (hg : W.grownBy W' row) (hr : ∀ r, row = some r → B ≤ r ∧ ∃ o : Obj, W.heap[r]? = some o ∧ o.isCells = false) : RS base ob N Bs B sl Ds ov out v W' :=
  ⟨own_nc h.own hg (fun r e => (hr r e).2), h.ap, h.ap2, grown_heap hg h.bs (fun e => by
    obtain ⟨-, o, ho, hc⟩ := hr _ e
    rw [h.bs] at ho
    obtain rfl := Option.some.inj ho
    simp [Obj.isCells] at hc), fun D hD => ⟨(h.ds D hD).1, (h.ds D hD).2.1, grown_heap hg (h.ds D hD).2.2 (fun e => by
      have := (hr _ e).1
      have := (h.ds D hD).2.1
      omega)⟩⟩
theorem RS.setOp (h : RS base ob N Bs B sl Ds ov out v W) {f : Nat → Int} (ho : Oi base ob N f W) (k : Nat) (x : Int) : RS base ob N Bs B sl Ds ov out v (W.setCell ⟨ob, k, none⟩ (.int .i64 x)) := by
  obtain ⟨cur, hcur⟩ := own_heap ho
  refine ⟨Sl.Own.set_other h.own (a := ⟨ob, k, none⟩) ?_ _, h.ap, h.ap2, heap_set_keep (a := ⟨ob, k, none⟩) h.bs (fun e => Sl.Own.ne_elem ho h.bs (by decide) (by simp [Value.ownBlock, e])), fun D hD => ⟨(h.ds D hD).1, (h.ds D hD).2.1, ?_⟩⟩
  · rcases h.ap2 with e | e
    · rw [e]; simp
    · exact e
  · refine heap_set_keep (a := ⟨ob, k, none⟩) (h.ds D hD).2.2 ?_
    rintro rfl
    have := (h.ds _ hD).2.2
    rw [hcur] at this
    cases this
theorem RS.moved (h : RS base ob N Bs B sl Ds ov out v W) {e2 : TypeId} (he : (23 : TypeId) ≠ e2) (hm : Mv eInt 1 base 3 v v' W W') (hk : Kt 3 e2 W W') (ho : Ko W W') : RS base ob N Bs B sl Ds ov out v' W' :=
  ⟨(hm _ _ h.own h.ap).1, (hm _ _ h.own h.ap).2, h.ap2, hk _ _ _ (by decide) he h.bs, fun D hD => ⟨(h.ds D hD).1, (h.ds D hD).2.1, ho D _ (fun c e fr e1 => by cases e1) (h.ds D hD).2.2⟩⟩
end
theorem puts_mem {inl : Nat → Bool} {o : Nat → Nat} {l : List Nat} : ∀ {y : Nat}, y ∈ Ord.puts inl o l → y ∈ l := by
  have : ∀ (r : List Nat) (y : Nat), y ∈ Ord.pts inl o r → y ∈ r := by
    intro r
    induction r with
    | nil => intro y h; simp [Ord.pts] at h
    | cons a r ih =>
      intro y h
      have h2 : y ∈ Ord.pts inl o r ++ (if inl a && decide (o a = (a :: r).count a) then [a] else []) := h
      rcases List.mem_append.1 h2 with h2 | h2
      · exact List.mem_cons_of_mem _ (ih y h2)
      · split at h2
        · rw [List.mem_singleton] at h2; subst h2; exact List.mem_cons_self
        · simp at h2
  intro y h
  exact List.mem_reverse.1 (this _ _ h)
/-- the nodes of what has come -/
def nds {N : Nat} (pre : List (Int × Nod N)) : List Nat := pre.map (fun x => x.2.1)
theorem nds_snoc {N : Nat} (pre : List (Int × Nod N)) (x : Int × Nod N) : nds (pre ++ [x]) = nds pre ++ [x.2.1] := by simp [nds]
theorem nds_len {N : Nat} (pre : List (Int × Nod N)) : (nds pre).length = pre.length := by simp [nds]
theorem nds_lt {N : Nat} {pre : List (Int × Nod N)} : ∀ y ∈ nds pre, y < N := fun y h => by
  obtain ⟨x, _, rfl⟩ := List.mem_map.1 h
  exact x.2.2
/-- the numbers that wait in a round -/
theorem perm_in {N : Nat} {inl : Nat → Bool} {o : Nat → Nat} {pre : List (Int × Nod N)} {q q0 : List Int} (hp : q.Perm (Ord.cs (Ord.puts inl o (nds pre)) ++ q0)) (h0 : Dag.inN N q0) : Dag.inN N q := fun x hx => by
  rcases List.mem_append.1 (hp.mem_iff.1 hx) with h | h
  · obtain ⟨y, hy, rfl⟩ := List.mem_map.1 h
    have := nds_lt y (puts_mem hy)
    omega
  · exact h0 x h
theorem perm_len {N : Nat} {inl : Nat → Bool} {o : Nat → Nat} {pre : List (Int × Nod N)} {q q0 : List Int} (hp : q.Perm (Ord.cs (Ord.puts inl o (nds pre)) ++ q0)) : q.length ≤ pre.length + q0.length := by
  have h1 := Ord.puts_len inl o (nds pre)
  rw [nds_len] at h1
  rw [hp.length_eq, List.length_append, Ord.cs_len]
  omega
theorem perm_put {N : Nat} {inl : Nat → Bool} {o : Nat → Nat} {pre : List (Int × Nod N)} {x : Int × Nod N} {q q' q0 : List Int} (hp : q.Perm (Ord.cs (Ord.puts inl o (nds pre)) ++ q0)) (hi : inl x.2.1 = true) (ho : o x.2.1 = (nds pre).count x.2.1 + 1)
    (h : q'.Perm ((x.2.1 : Int) :: q)) : q'.Perm (Ord.cs (Ord.puts inl o (nds (pre ++ [x]))) ++ q0) := by
  rw [nds_snoc, Ord.puts_snoc, if_pos (by simp [hi, ho]), Ord.cs_append]
  refine h.trans ((hp.cons _).trans ?_)
  have : Ord.cs [x.2.1] = [(x.2.1 : Int)] := rfl
  rw [this, List.append_assoc]
  exact List.perm_middle.symm
theorem perm_not {N : Nat} {inl : Nat → Bool} {o : Nat → Nat} {pre : List (Int × Nod N)} {x : Int × Nod N} {q q0 : List Int} (hp : q.Perm (Ord.cs (Ord.puts inl o (nds pre)) ++ q0)) (hi : ¬ (inl x.2.1 = true ∧ o x.2.1 = (nds pre).count x.2.1 + 1)) :
    q.Perm (Ord.cs (Ord.puts inl o (nds (pre ++ [x]))) ++ q0) := by
  rw [nds_snoc, Ord.puts_snoc, if_neg (by simpa using hi), List.append_nil]
  exact hp
theorem op_step {N : Nat} {o : Nat → Nat} {pre : List (Int × Nod N)} {x : Int × Nod N} (z : Nat) : updI (fun z => (o z : Int) - ((nds pre).count z : Nat)) x.2.1 ((o x.2.1 : Int) - ((nds pre).count x.2.1 : Nat) - 1) z = (o z : Int) - ((nds (pre ++ [x])).count z : Nat) := by
  unfold updI
  rw [nds_snoc, List.count_append]
  by_cases e : z = x.2.1
  · subst e; rw [if_pos rfl]; simp; omega
  · rw [if_neg e]
    have : [x.2.1].count z = 0 := List.count_eq_zero.2 (by simpa using e)
    rw [this]; simp

/-- the parents as nodes -/
theorem nod_of {N : Nat} : ∀ {P : List Int}, (∀ x ∈ P, 0 ≤ x ∧ x < N) → ∃ PN : List (Nod N), P = PN.map fun y => (y.1 : Int)
  | [], _ => ⟨[], rfl⟩
  | x :: P, h => by
    obtain ⟨PN, hP⟩ := nod_of (N := N) (P := P) (fun y hy => h y (by simp [hy]))
    have h1 := h x (by simp)
    refine ⟨⟨x.toNat, by omega⟩ :: PN, ?_⟩
    rw [List.map_cons, ← hP]
    congr 1
    show x = ((x.toNat : Nat) : Int)
    omega
theorem nod_par {g : List Nd} (hg : Dag.okG g) {n : Nat} (hn : n < g.length) {P : List Int} {T : Int} (h : g[n] = (P, T)) : P.length ≤ 6 ∧ ∃ PN : List (Nod g.length), P = PN.map (fun y => (y.1 : Int)) ∧ PN.map (fun y => y.1) = Dag.par g n := by
  have hp := Dag.par_eq hn
  have ho := hg.2 n hn
  rw [h] at hp ho
  have hin : ∀ x ∈ P, 0 ≤ x ∧ x < g.length := fun x hx => by
    obtain ⟨i, hi, rfl⟩ := List.mem_iff_getElem.1 hx
    have h3 := ho.2.2.2 i hi
    have h4 : 0 ≤ P[i] := h3.1
    have h5 : P[i] < (n : Int) := h3.2.1
    omega
  obtain ⟨PN, hP⟩ := nod_of hin
  refine ⟨ho.1, PN, hP, ?_⟩
  rw [hp, hP, List.map_map]
  exact List.map_congr_left fun y _ => by simp
def lenOf : Value → Nat
  | .slice _ n _ => n
  | _ => 0
theorem own_lenOf {base : Nat} {v : Value} {l : List Int} {w : World} (h : Sl.Own eInt 1 base 3 w v l) : lenOf v = l.length := by
  rcases h.2 with ⟨rfl, h0⟩ | ⟨_, _, _, rfl, _⟩
  · simpa [lenOf] using h0.symm
  · rfl
theorem below_from {B : Nat} {w0 w w' : World} (h1 : Below B w0 w) (h2 : Below B w0 w') (hs : w.heap.size ≤ w'.heap.size) : Below B w w' :=
  ⟨h2.os.trans h1.os.symm, h2.tape.trans h1.tape.symm, h2.output.trans h1.output.symm, hs, fun k hk => (h2.block k hk).trans (h1.block k hk).symm⟩
section
variable {w0 : World} {wb ib ob : Nat} {gv : Value} {N : Nat} {inl : Nat → Bool} {op op' : Nat → Int} {qb : Nat} {fv : Value} {cb : Nat} {bx : Value} {eb : TypeId} {B3 B4 : Nat} {v : Value} {q : List Int} {W W' : World}
/-- a node has been told -/
theorem RQ.told (h : RQ w0 wb ib ob gv N inl op qb fv cb bx eb B3 B4 v q W) (heb : eb ≠ 3) {ov ov' : Value} {out : List Int} (ho : Sl.Own eInt 1 w0.heap.size 3 W ov out) (ha : Apart ov v) (ha2 : Apart ov (.slice (some ⟨ob, 0, none⟩) N N)) {Ds : List Nat}
    (hds : ∀ D ∈ Ds, w0.heap.size ≤ D ∧ W.heap[D]? = some (.deferred (some []))) {x : Int} (hg : (W.alloc (.cells #[.int .i64 x] 3)).grownBy W' ov.ownBlock) (hb : ov'.ownBlock = ov.ownBlock ∨ ov'.ownBlock = some (W.alloc (.cells #[.int .i64 x] 3)).heap.size) :
    RQ w0 wb ib ob gv N inl op qb fv cb bx eb B3 B4 v q W' ∧ Apart ov' v ∧ Apart ov' (.slice (some ⟨ob, 0, none⟩) N N) ∧ ∀ D ∈ Ds, w0.heap.size ≤ D ∧ W'.heap[D]? = some (.deferred (some [])) := by
  have ho1 := ho.alloc (.cells #[.int .i64 x] 3)
  have hR1 := h.ext (bel_alloc W (.cells #[.int .i64 x] 3))
  have hmv : Mv eInt 1 w0.heap.size 3 ov ov' (W.alloc (.cells #[.int .i64 x] 3)) W' := Mv.append hg hb
  refine ⟨hR1.grown heb hg fun r e => ⟨(ho1.lt r e).1, (ho1.lt r e).2, fun c e2 fr hc => ⟨?_, ?_, ?_⟩⟩, apart_symm (hmv _ _ hR1.own (apart_symm ha)).2, apart_symm (hmv _ _ hR1.wk.opn (apart_symm ha2)).2, fun D hD => ⟨(hds D hD).1, ?_⟩⟩
  · rcases ho1.2 with ⟨e1, _⟩ | ⟨g', cap, cur, e1, _, hg', _⟩
    · rw [e1] at e; cases e
    · obtain rfl : g' = r := by rw [e1] at e; simpa [Value.ownBlock] using e
      rw [hg'] at hc
      simp only [Option.some.injEq, Obj.cells.injEq] at hc
      exact hc.2.1.symm
  · rcases ha with e3 | e3
    · rw [e3] at e; cases e
    · exact fun e4 => e3 (e.trans e4.symm)
  · rintro rfl
    rcases ha2 with e3 | e3
    · rw [e3] at e; cases e
    · exact e3 e
  · exact (Ko.append ho1 hg) D _ (fun c e fr e1 => by cases e1) (heap_keep (hds D hD).2)
end
/-- what stands while a round goes over the parents -/
def IR (w0 : World) (wb ib ob : Nat) (gv : Value) (N : Nat) (inl : Nat → Bool) (o : Nat → Nat) (qb : Nat) (fv : Value) (cb : Nat) (bx : Value) (eb : TypeId) (B3 B4 : Nat) (K : Int → Int) (q0 : List Int) (Bs B : Nat) (sl : Value) (Ds : List Nat) (ov : Value) (out : List Int) (pre : List (Int × Nod N)) (W : World) : Prop :=
  ∃ v q, RQ w0 wb ib ob gv N inl (fun z => (o z : Int) - ((nds pre).count z : Nat)) qb fv cb bx eb B3 B4 v q W ∧ Hp.hp (Ord.leI K) q ∧ q.Perm (Ord.cs (Ord.puts inl o (nds pre)) ++ q0) ∧ RS w0.heap.size ob N Bs B sl Ds ov out v W
theorem IR.from {w0 : World} {wb ib ob : Nat} {gv : Value} {N : Nat} {inl : Nat → Bool} {o : Nat → Nat} {qb : Nat} {fv : Value} {cb : Nat} {bx : Value} {eb : TypeId} {B3 B4 : Nat} {K : Int → Int} {q0 : List Int} {Bs B : Nat} {sl : Value} {Ds : List Nat} {ov : Value} {out : List Int}
    (heb : eb ≠ 3) (hB : w0.heap.size ≤ B) : OwnFrom B (IR w0 wb ib ob gv N inl o qb fv cb bx eb B3 B4 K q0 Bs B sl Ds ov out) := by
  rintro pre W W' row ⟨v, q, h1, h2, h3, h4⟩ hg hr
  exact ⟨v, q, h1.nc heb hg (fun r e => ⟨Nat.le_trans hB (hr r e).1, (hr r e).2⟩), h2, h3, h4.nc hg hr⟩
end Go.Proofs.Ytcpmnocknpalfaa
namespace Go.Proofs.Ytcpmnocknpalfaa
open Go.Proofs Go.RowKit Go.Shelf Go.Sl
set_option linter.unusedVariables false

/-- what stands while a walk runs with a queue -/
structure RP (w0 : World) (wb ib ob : Nat) (gv : Value) (N : Nat) (inl : Nat → Bool) (op : Nat → Int) (qb B3 B4 : Nat) (v : Value) (q : List Int) (W : World) : Prop where
  wk : WK w0.heap.size wb ib ob gv N inl op W
  hqb : w0.heap.size ≤ qb
  blk : W.heap[qb]? = some (.cells #[v] 123 (0, 0))
  own : Sl.Own eInt 1 w0.heap.size 3 W v q
  ap : Apart (.slice (some ⟨ob, 0, none⟩) N N) v
  b3 : W.heap[B3]? = some (.cells #[.pointer (some ⟨wb, 0, none⟩)] 111 (0, 0))
  b4 : W.heap[B4]? = some (.cells #[.iface 121 (.pointer (some ⟨qb, 0, none⟩))] 133 (0, 0))
  bel : Below w0.heap.size w0 W
section
variable {w0 : World} {wb ib ob : Nat} {gv : Value} {N : Nat} {inl : Nat → Bool} {op : Nat → Int} {qb B3 B4 : Nat} {v : Value} {q : List Int} {W W' : World}
/-- the pile has been at work -/
theorem RP.pile (h : RP w0 wb ib ob gv N inl op qb B3 B4 v q W) {l : List Int} (hQ : PileX w0.heap.size qb v l W W') :
    ∃ v', RP w0 wb ib ob gv N inl op qb B3 B4 v' l W' ∧ Mv eInt 1 w0.heap.size 3 v v' W W' ∧ Kt 3 123 W W' ∧ Below w0.heap.size W W' ∧ Ko W W' := by
  obtain ⟨v', ⟨h1, h2, h3⟩, hmv, hkt, hbel, hko⟩ := hQ
  obtain ⟨m1, m2⟩ := hmv _ _ h.wk.opn h.ap
  exact ⟨v', ⟨⟨h.wk.hwb, hkt _ _ _ (by decide) (by decide) h.wk.blk, ⟨h.wk.inB.hb, hkt _ _ _ (by decide) (by decide) h.wk.inB.blk⟩, m1⟩, h.hqb, h2, h3, m2,
    hkt _ _ _ (by decide) (by decide) h.b3, hkt _ _ _ (by decide) (by decide) h.b4, h.bel.trans hbel⟩, hmv, hkt, hbel, hko⟩
/-- new blocks -/
theorem RP.ext (h : RP w0 wb ib ob gv N inl op qb B3 B4 v q W) (hb : Below W.heap.size W W') : RP w0 wb ib ob gv N inl op qb B3 B4 v q W' :=
  have k : ∀ {k : Nat} {o : Obj}, W.heap[k]? = some o → W'.heap[k]? = some o := fun {_ _} h => (hb.block _ (Array.getElem?_eq_some_iff.1 h).1).trans h
  ⟨h.wk.ext hb, h.hqb, k h.blk, h.own.ext hb, h.ap, k h.b3, k h.b4, h.bel.trans (hb.mono h.bel.size)⟩
/-- a block that is no cells turned, or an own row of integers apart from the queue's and the walk's grown -/
theorem RP.grown (h : RP w0 wb ib ob gv N inl op qb B3 B4 v q W) {row : Option Nat} (hg : W.grownBy W' row) (hr : ∀ r, row = some r → w0.heap.size ≤ r ∧ r < W.heap.size ∧ (∀ c e fr, W.heap[r]? = some (.cells c e fr) → e = 3 ∧ v.ownBlock ≠ some r ∧ r ≠ ob)) :
    RP w0 wb ib ob gv N inl op qb B3 B4 v q W' := by
  have k : ∀ {k : Nat} {c : Array Value} {e : TypeId} {fr : Nat × Nat}, e ≠ 3 → W.heap[k]? = some (.cells c e fr) → W'.heap[k]? = some (.cells c e fr) := fun {k c e fr} he hk => grown_heap hg hk (fun e1 => he ((hr k e1).2.2 c e fr hk).1)
  have hv : v.ownBlock = none ∨ v.ownBlock ≠ row := by
    rcases h.own.2 with ⟨e1, _⟩ | ⟨g', cap, cur, e1, _, hg', _⟩
    · left; rw [e1]; rfl
    · right; intro e2
      have e3 : v.ownBlock = some g' := by rw [e1]; rfl
      exact ((hr g' (e2.symm.trans e3)).2.2 _ _ _ hg').2.1 e3
  have hob : ob < W.heap.size := by
    rcases h.wk.opn.2 with ⟨e1, _⟩ | ⟨g', cap, cur, e1, _, hg', _⟩
    · cases e1
    · have := (Array.getElem?_eq_some_iff.1 hg').1
      simp only [Value.slice.injEq, Option.some.injEq, Addr.mk.injEq, and_true] at e1
      omega
  have ho : (Value.slice (some ⟨ob, 0, none⟩) N N).ownBlock = none ∨ (Value.slice (some ⟨ob, 0, none⟩) N N).ownBlock ≠ row := by
    right; intro e2
    rcases h.wk.opn.2 with ⟨e1, _⟩ | ⟨g', cap, cur, e1, _, hg', _⟩
    · cases e1
    · simp only [Value.slice.injEq, Option.some.injEq, Addr.mk.injEq, and_true] at e1
      obtain ⟨rfl, _, _⟩ := e1
      exact ((hr ob e2.symm).2.2 _ _ _ hg').2.2 rfl
  exact ⟨⟨h.wk.hwb, k (by decide) h.wk.blk, ⟨h.wk.inB.hb, k (by decide) h.wk.inB.blk⟩, Sl.Own.kept h.wk.opn hg ho⟩, h.hqb, k (by decide) h.blk, h.own.kept hg hv, h.ap, k (by decide) h.b3, k (by decide) h.b4,
    h.bel.grown hg h.bel.size (fun r e => (hr r e).1)⟩
end
section
variable {w0 : World} {wb ib ob : Nat} {gv : Value} {N : Nat} {inl : Nat → Bool} {op op' : Nat → Int} {qb B3 B4 : Nat} {v : Value} {q : List Int} {W W' : World}
theorem RP.congr (h : RP w0 wb ib ob gv N inl op qb B3 B4 v q W) (he : ∀ x, x < N → op x = op' x) : RP w0 wb ib ob gv N inl op' qb B3 B4 v q W :=
  ⟨h.wk.congr (fun _ _ => rfl) he, h.hqb, h.blk, h.own, h.ap, h.b3, h.b4, h.bel⟩
theorem RP.setOp (h : RP w0 wb ib ob gv N inl op qb B3 B4 v q W) {k : Nat} (hk : k < N) (x : Int) : RP w0 wb ib ob gv N inl (updI op k x) qb B3 B4 v q (W.setCell ⟨ob, k, none⟩ (.int .i64 x)) := by
  have n : ∀ {b : Nat} {c : Array Value} {e : TypeId}, e ≠ 3 → W.heap[b]? = some (.cells c e (0, 0)) → (W.setCell ⟨ob, k, none⟩ (.int .i64 x)).heap[b]? = some (.cells c e (0, 0)) := fun {b c e} he hb =>
    heap_set_keep (a := ⟨ob, k, none⟩) hb (fun e1 => Sl.Own.ne_elem h.wk.opn hb he (by simp [Value.ownBlock, e1]))
  obtain ⟨-, -, -, hob⟩ := oi_cell h.wk.opn hk
  refine ⟨h.wk.setOp hk x, h.hqb, n (by decide) h.blk, Sl.Own.set_other h.own (a := ⟨ob, k, none⟩) ?_ _, h.ap, n (by decide) h.b3, n (by decide) h.b4, h.bel.setCell (p := ⟨ob, k, none⟩) hob _⟩
  rcases h.ap with e | e
  · cases e
  · exact fun e1 => e (by rw [e1]; rfl)
theorem RP.nc (h : RP w0 wb ib ob gv N inl op qb B3 B4 v q W) {row : Option Nat} (hg : W.grownBy W' row) (hr : ∀ r, row = some r → w0.heap.size ≤ r ∧ ∃ o : Obj, W.heap[r]? = some o ∧ o.isCells = false) : RP w0 wb ib ob gv N inl op qb B3 B4 v q W' :=
  h.grown hg fun r e => by
    obtain ⟨h1, o, ho, hc⟩ := hr r e
    refine ⟨h1, (Array.getElem?_eq_some_iff.1 ho).1, fun c e fr h3 => ?_⟩
    rw [h3] at ho
    obtain rfl := Option.some.inj ho
    simp [Obj.isCells] at hc
end

section
variable {w0 : World} {wb ib ob : Nat} {gv : Value} {N : Nat} {inl : Nat → Bool} {op op' : Nat → Int} {qb B3 B4 : Nat} {v : Value} {q : List Int} {W W' : World}
/-- a node has been told -/
theorem RP.told (h : RP w0 wb ib ob gv N inl op qb B3 B4 v q W) {ov ov' : Value} {out : List Int} (ho : Sl.Own eInt 1 w0.heap.size 3 W ov out) (ha : Apart ov v) (ha2 : Apart ov (.slice (some ⟨ob, 0, none⟩) N N)) {Ds : List Nat}
    (hds : ∀ D ∈ Ds, w0.heap.size ≤ D ∧ W.heap[D]? = some (.deferred (some []))) {x : Int} (hg : (W.alloc (.cells #[.int .i64 x] 3)).grownBy W' ov.ownBlock) (hb : ov'.ownBlock = ov.ownBlock ∨ ov'.ownBlock = some (W.alloc (.cells #[.int .i64 x] 3)).heap.size) :
    RP w0 wb ib ob gv N inl op qb B3 B4 v q W' ∧ Apart ov' v ∧ Apart ov' (.slice (some ⟨ob, 0, none⟩) N N) ∧ ∀ D ∈ Ds, w0.heap.size ≤ D ∧ W'.heap[D]? = some (.deferred (some [])) := by
  have ho1 := ho.alloc (.cells #[.int .i64 x] 3)
  have hR1 := h.ext (bel_alloc W (.cells #[.int .i64 x] 3))
  have hmv : Mv eInt 1 w0.heap.size 3 ov ov' (W.alloc (.cells #[.int .i64 x] 3)) W' := Mv.append hg hb
  refine ⟨hR1.grown hg fun r e => ⟨(ho1.lt r e).1, (ho1.lt r e).2, fun c e2 fr hc => ⟨?_, ?_, ?_⟩⟩, apart_symm (hmv _ _ hR1.own (apart_symm ha)).2, apart_symm (hmv _ _ hR1.wk.opn (apart_symm ha2)).2, fun D hD => ⟨(hds D hD).1, ?_⟩⟩
  · rcases ho1.2 with ⟨e1, _⟩ | ⟨g', cap, cur, e1, _, hg', _⟩
    · rw [e1] at e; cases e
    · obtain rfl : g' = r := by rw [e1] at e; simpa [Value.ownBlock] using e
      rw [hg'] at hc
      simp only [Option.some.injEq, Obj.cells.injEq] at hc
      exact hc.2.1.symm
  · rcases ha with e3 | e3
    · rw [e3] at e; cases e
    · exact fun e4 => e3 (e.trans e4.symm)
  · rintro rfl
    rcases ha2 with e3 | e3
    · rw [e3] at e; cases e
    · exact e3 e
  · exact (Ko.append ho1 hg) D _ (fun c e fr e1 => by cases e1) (heap_keep (hds D hD).2)
end
/-- what stands while a round goes over the parents -/
def IP (w0 : World) (wb ib ob : Nat) (gv : Value) (N : Nat) (inl : Nat → Bool) (o : Nat → Nat) (qb B3 B4 : Nat) (q0 : List Int) (Bs B : Nat) (sl : Value) (Ds : List Nat) (ov : Value) (out : List Int) (pre : List (Int × Nod N)) (W : World) : Prop :=
  ∃ v, RP w0 wb ib ob gv N inl (fun z => (o z : Int) - ((nds pre).count z : Nat)) qb B3 B4 v (q0 ++ Ord.cs (Ord.puts inl o (nds pre))) W ∧ RS w0.heap.size ob N Bs B sl Ds ov out v W
theorem IP.from {w0 : World} {wb ib ob : Nat} {gv : Value} {N : Nat} {inl : Nat → Bool} {o : Nat → Nat} {qb B3 B4 : Nat} {q0 : List Int} {Bs B : Nat} {sl : Value} {Ds : List Nat} {ov : Value} {out : List Int}
    (hB : w0.heap.size ≤ B) : OwnFrom B (IP w0 wb ib ob gv N inl o qb B3 B4 q0 Bs B sl Ds ov out) := by
  rintro pre W W' row ⟨v, h1, h4⟩ hg hr
  exact ⟨v, h1.nc hg (fun r e => ⟨Nat.le_trans hB (hr r e).1, (hr r e).2⟩), h4.nc hg hr⟩
theorem pile_put {N : Nat} {inl : Nat → Bool} {o : Nat → Nat} {pre : List (Int × Nod N)} {x : Int × Nod N} {q0 : List Int} (hi : inl x.2.1 = true) (ho : o x.2.1 = (nds pre).count x.2.1 + 1) :
    q0 ++ Ord.cs (Ord.puts inl o (nds pre)) ++ [(x.2.1 : Int)] = q0 ++ Ord.cs (Ord.puts inl o (nds (pre ++ [x]))) := by
  rw [nds_snoc, Ord.puts_snoc, if_pos (by simp [hi, ho]), Ord.cs_append, List.append_assoc]
  rfl
theorem pile_not {N : Nat} {inl : Nat → Bool} {o : Nat → Nat} {pre : List (Int × Nod N)} {x : Int × Nod N} {q0 : List Int} (hi : ¬ (inl x.2.1 = true ∧ o x.2.1 = (nds pre).count x.2.1 + 1)) :
    q0 ++ Ord.cs (Ord.puts inl o (nds pre)) = q0 ++ Ord.cs (Ord.puts inl o (nds (pre ++ [x]))) := by
  rw [nds_snoc, Ord.puts_snoc, if_neg (by simpa using hi), List.append_nil]
end Go.Proofs.Ytcpmnocknpalfaa
