/-
  Layer 15: slices.Backward over integers: its contract for whatever body. No condition besides what the slice is.
-/
import Derived.RangeFuncNested
import Derived.RangeFuncBound
import Derived.RangeFuncCalls
import Derived.RangeFuncLeaves
import Derived.Shelf.Abstract
import Derived.Shelf.RegionOpen
import Derived.WalkKit
import Derived.OwnWalkIn
import Derived.TacticsInMore
import Derived.LoopNIn
import Derived.LoopIn
import Derived.Test.YtcpmnocknpalfaaD1
namespace Go.Proofs.Ytcpmnocknpalfaa
open Go.Proofs Go.RowKit Go.Shelf Go.Sl
set_option linter.unusedVariables false

attribute [local go_sem] Oper.semAt_some

/-- a node of N -/
abbrev Nod (N : Nat) := { y : Nat // y < N }
def encP {N : Nat} (x : Int × Nod N) : Array Value := #[Value.int .i64 x.1, .int .i64 (x.2.1 : Int)]
/-- what has come of a list, from its end, when j rounds are over -/
def bk {N : Nat} (P : List (Nod N)) : Nat → List (Int × Nod N)
  | 0 => []
  | j + 1 => bk P j ++ (match P[P.length - 1 - j]? with | some y => [(((P.length - 1 - j : Nat) : Int), y)] | none => [])
theorem bk_succ {N : Nat} {P : List (Nod N)} {j : Nat} (h : j < P.length) : bk P (j + 1) = bk P j ++ [(((P.length - 1 - j : Nat) : Int), P[P.length - 1 - j])] := by
  show _ ++ _ = _
  rw [List.getElem?_eq_getElem (by omega)]
theorem bk_len {N : Nat} {P : List (Nod N)} : ∀ {j : Nat}, j ≤ P.length → (bk P j).length = j
  | 0, _ => rfl
  | j + 1, h => by rw [bk_succ (by omega), List.length_append, bk_len (by omega)]; rfl

/-- what a round keeps: what lies below base, and the box -/
def KpB (base Bs : Nat) (W W' : World) : Prop := Below base W W' ∧ (∀ c, W.heap[Bs]? = some (.cells c 23 (0, 0)) → W'.heap[Bs]? = some (.cells c 23 (0, 0)))

set_option maxRecDepth 100000 in
set_option maxHeartbeats 2000000 in
theorem back1_in (F : Fence) (n : Nat) (h110 : F.fn 110) (hro : F.round = none) (hn : 1 ≤ n) (N l Bs base n1 k1 : Nat) (a1 : Option Addr) (P : List (Nod N)) (w0 : World) (hw0 : w0.heap.size ≤ base) (hs : Sl eInt 1 w0 (.slice a1 n1 k1) (P.map fun y => (y.1 : Int))) (hP : P.length = n1) (hP6 : n1 ≤ 6)
    (J Jx : List (Int × Nod N) → World → Prop)
    (hY : ∀ pre x W, J pre W → pre.length < n1 → YieldAt F (n - 1) Try.prog l (encP x) W fun e W' =>
      (e = .returned (.bool true) ∧ J (pre ++ [x]) W' ∧ KpB base Bs W W') ∨ (e = .returned (.bool false) ∧ Jx (pre ++ [x]) W'))
    (W : World) (hW0 : Below w0.heap.size w0 W) (hBs : W.heap[Bs]? = some (.cells #[.slice a1 n1 k1] 23 (0, 0))) (h0 : J [] W) :
    CallsIn F n Try.prog 110 #[.func (.yield l) #[] #[], .pointer (some ⟨Bs, 0, none⟩)] W fun e W' => (∃ v, e = .returned v) ∧
      ((∃ ys, ys = bk P n1 ∧ J ys W') ∨ (∃ pre, (∃ k, pre = bk P k) ∧ Jx pre W')) := by
  have hlen := hs.run_len (P := Try.prog) Try.underlying23
  rw [List.length_map, hP] at hlen
  refine callsIn_of_wp Try.func110 rfl h110 ?_ hro
  simp only [Try.ntmps110, List.size_toArray, List.length_cons, List.length_nil, Nat.reduceAdd, Nat.reduceSub, Array.replicate_succ, Array.replicate_zero, List.push_toArray, List.append_toArray, List.nil_append, List.cons_append]
  obtain ⟨hb1, c1, f1⟩ := one_cells hBs
  gi_wp2
  gi_loopw [3] (fun i wr => ∃ k : Nat, k ≤ n1 ∧ i = .int .i64 ((n1 : Int) - 1 - k) ∧ J (bk P k) wr ∧ wr.heap[Bs]? = some (.cells #[.slice a1 n1 k1] 23 (0, 0)) ∧ Below w0.heap.size w0 wr)
    (fun i _ => (intOf i + 1).toNat)
  case atStart => exact ⟨0, Nat.zero_le _, by simp, h0, hBs, hW0⟩
  case round =>
    obtain ⟨k, hk, rfl, hJs, hBw, hbw⟩ := hrel
    obtain ⟨_, d1, _⟩ := one_cells hBw
    by_cases hlt : k < n1
    · obtain ⟨m, hm⟩ : ∃ m : Nat, m = n1 - 1 - k := ⟨_, rfl⟩
      have hmI : ((n1 : Int) - 1 - k) = m := by omega
      have hmP : m < P.length := by omega
      have hmp : m < (P.map fun y => (y.1 : Int)).length := by rw [List.length_map]; exact hmP
      obtain ⟨b2, o2, hb2, hix2, hc2⟩ := hs.atB hbw (P := Try.prog) Try.underlying23 cells3 some3 hmp
      have e1 := hc2 0 (by omega)
      simp only [eInt, List.getElem?_cons_zero, Nat.add_zero, List.getElem_map] at e1
      obtain ⟨y, hyP⟩ : ∃ y, Hid (P[m] = y) := ⟨_, Lib.hid rfl⟩
      rw [hyP.out] at e1
      obtain ⟨fn, tmps, assign, body, hy, hR⟩ := hY _ ((m : Int), y) wr hJs (by rw [bk_len (by omega)]; exact hlt)
      dsimp only [encP] at hy hR
      have hbk : bk P (k + 1) = bk P k ++ [((m : Int), y)] := by
        rw [bk_succ (by omega)]
        have : P.length - 1 - k = m := by omega
        simp only [this, hyP.out]
      rw [hmI]
      have HmI := Lib.hid hmI
      have Hbk := Lib.hid hbk
      clear hc2 hm hmI hbk
      gi_wp2
      refine hR.mono ?_
      rintro e W3 (⟨rfl, hJ3, hk3⟩ | ⟨rfl, hJx3⟩)
      · have hB3 := hk3.2 _ hBw
        have hb3 := hbw.trans (hk3.1.mono hw0)
        gi_wp2
        go_roundw
        case rel => exact ⟨k + 1, by omega, by have := HmI.out; congr 1; omega, by rw [Hbk.out]; exact hJ3, hB3, hb3⟩
        case measure => simp [intOf]
      · gi_wp2
        refine bodyPost_ret (results_none rfl _ _ _) rfl ?_
        exact ⟨⟨_, rfl⟩, .inr ⟨_, ⟨k + 1, Hbk.out.symm⟩, hJx3⟩⟩
    · obtain rfl : k = n1 := by omega
      have hneg : ((k : Int) - 1 - k) = -1 := by omega
      rw [hneg]
      gi_wp2
      go_end0
      exact ⟨⟨_, rfl⟩, .inl ⟨_, rfl, hJs⟩⟩

set_option maxHeartbeats 1000000 in
theorem back105 (F : Fence) (n : Nat) (h : F.fn 105) (hro : F.round = none) (a : Option Addr) (len cap : Nat) (w : World) :
    CallsIn F n Try.prog 105 #[.slice a len cap] w fun e w' => e = .returned (.func (.func 110) #[] #[.pointer (some ⟨w.heap.size, 0, none⟩)]) ∧ w' = w.alloc (.cells #[.slice a len cap] 23) := by
  refine callsIn_of_wp Try.func105 rfl h ?_ hro
  simp only [Try.ntmps105, List.size_toArray, List.length_cons, List.length_nil, Nat.reduceAdd, Nat.reduceSub, Array.replicate_succ, Array.replicate_zero, List.push_toArray, List.append_toArray, List.nil_append, List.cons_append]
  gi_wp2
  go_ret
  exact ⟨rfl, rfl⟩

theorem back_stops (F : Fence) (n : Nat) (h110 : F.fn 110) (hro : F.round = none) (hn : 1 ≤ n) (N Bs base n1 k1 : Nat) (a1 : Option Addr) (P : List (Nod N)) (w0 : World) (hw0 : w0.heap.size ≤ base) (hs : Sl eInt 1 w0 (.slice a1 n1 k1) (P.map fun y => (y.1 : Int))) (hP : P.length = n1) (hP6 : n1 ≤ 6)
    (w : World) (hb : Below w0.heap.size w0 w) (hBs : w.heap[Bs]? = some (.cells #[.slice a1 n1 k1] 23 (0, 0))) :
    SeqStopsK F n Try.prog 110 #[.pointer (some ⟨Bs, 0, none⟩)] encP (KpB base Bs) (fun ys => ys = bk P n1) (fun pre => ∃ k, pre = bk P k) n1 w := fun l J Jx W hW _ _ hY h0 =>
  back1_in F n h110 hro hn N l Bs base n1 k1 a1 P w0 hw0 hs hP hP6 J Jx hY W (hb.trans (hW.mono hb.size)) ((hW.block _ (Array.getElem?_eq_some_iff.1 hBs).1).trans hBs) h0
theorem kpB_t {base Bs : Nat} {A B C : World} (h : KpB base Bs A B) (k : KpB base Bs B C) : KpB base Bs A C := ⟨h.1.trans k.1, fun c hc => k.2 c (h.2 c hc)⟩
theorem kpB_b {base Bs : Nat} {w : World} (hn : base ≤ w.heap.size) (W : World) (l : Nat) (o o' : Obj) (hl : w.heap.size ≤ l) (h : W.heap[l]? = some o) (hc : o.isCells = false) (hw : o.isWalk = false) : KpB base Bs W (W.putObj l o') :=
  ⟨belowK_b hn W l o o' hl h hc hw, fun c hB => by
    by_cases e : Bs = l
    · subst e
      rw [hB] at h
      obtain rfl := Option.some.inj h
      simp [Obj.isCells] at hc
    · exact (World.putObj_heap_other e).trans hB⟩
end Go.Proofs.Ytcpmnocknpalfaa
