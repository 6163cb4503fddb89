/-
  Layer 20: the place of a byte; the lines of a text, one by one: the iterator's contract. No condition besides what the arguments are.
-/
import Derived.RangeFuncBound
import Derived.RangeFuncCalls
import Derived.RangeFuncLeaves
import Derived.Shelf.Abstract
import Derived.Shelf.RegionOpen
import Derived.WalkKit
import Derived.OwnWalkIn
import Derived.TacticsInMore
import Derived.LoopNIn
import Derived.LoopIn
import Derived.Test.YtibebmdpjaknpaaDoorRangeT
import Derived.Test.YtibebmdpjaknpaaDoorShelf
import Derived.Test.YtibebmdpjaknpaaDoorP1
import Derived.Test.YtibebmdpjaknpaaDoorBs
import Derived.Test.YtibebmdpjaknpaaDoorSub
import Derived.Test.YtibebmdpjaknpaaDoorRow
import Derived.Test.YtibebmdpjaknpaaDoorAp
namespace Go.Proofs.YtibebmdpjaknpaaDoor
open Go.Proofs Go.RowKit Go.Shelf Go.Sl
set_option linter.unusedVariables false

attribute [local go_sem] Oper.semAt_some

theorem cells5 : Tryd.prog.cellsOf 5 = 1 := by kernel_rfl
theorem some5 : (Tryd.prog.info? 5).isSome = true := by kernel_rfl

theorem bytesOf_nums (l : List UInt8) : Lib.bytesOf (l.map fun b => ((b.toNat : Nat) : Int)) = l := by
  unfold Lib.bytesOf
  rw [List.map_map]
  conv => rhs; rw [← List.map_id l]
  refine List.map_congr_left fun x _ => ?_
  simp

theorem index_any (v : Value) (l : List UInt8) (w : World) (h : Sl eByte 1 w v l) (c : Nat) :
    Calls Tryd.prog 17 #[v, .int .u8 c] w fun e w' => e = .returned (.int .i64 (Lib.indexByte l c.toUInt8)) ∧ w = w' := by
  obtain ⟨ao, cap, rfl, h1, h2, h0, h3⟩ := h.shp
  cases ao with
  | none =>
    have hl : l = [] := by
      rcases h3 with h3 | ⟨b, off, hb, _⟩
      · exact h3
      · cases hb
    obtain rfl := h0 rfl
    subst hl
    refine (Tryd.bytes_IndexByte_nil c w).mono ?_
    rintro e w' ⟨rfl, rfl⟩
    exact ⟨rfl, rfl⟩
  | some a =>
    have := Tryd.bytes_IndexByte_at a l.length cap (l.map fun b => ((b.toNat : Nat) : Int)) c w (by simp) (by
      intro i hi
      rcases h3 with rfl | ⟨b, off, hb, hb1, hb2⟩
      · simp at hi
      · obtain rfl := Option.some.inj hb
        have h5 := hb2 i hi 0 (by omega)
        rw [Addr.add_lit]
        rw [show off + i * 1 + 0 = off + i by omega] at h5
        rw [h5]
        simp [eByte, hi])
    refine this.mono ?_
    rintro e w' ⟨rfl, rfl⟩
    rw [bytesOf_nums]
    exact ⟨rfl, rfl⟩

def lenOf : Value → Nat
  | .slice _ n _ => n
  | _ => 0
theorem sl_lenOf {α : Type} {en : α → List Value} {s : Nat} {w : World} {v : Value} {l : List α} (h : Sl en s w v l) : lenOf v = l.length := by
  obtain ⟨ao, cap, rfl, -⟩ := h.shp
  rfl

/-- what a round keeps: what lies below base, and the box -/
def KpL (base Bs : Nat) (W W' : World) : Prop := Below base W W' ∧ (∀ c, W.heap[Bs]? = some (.cells c 30 (0, 0)) → W'.heap[Bs]? = some (.cells c 30 (0, 0)))
/-- the iterator's own step: the box is turned -/
def TL (Bs : Nat) (A B : World) : Prop := ∃ v c, A.heap[Bs]? = some (.cells #[c] 30 (0, 0)) ∧ B = A.setCell ⟨Bs, 0, none⟩ v
def encL (x : List UInt8) : Array Value := #[.string (bstr x)]

theorem boxed_len {wr : World} {Bs : Nat} {u : Value} (h : wr.heap[Bs]? = some (.cells #[u] 30 (0, 0))) : lenOf (cellNow wr ⟨Bs, 0, none⟩) = lenOf u := by
  have := (one_cells h).2.1
  unfold cellNow
  rw [this]; rfl

set_option maxRecDepth 100000 in
set_option maxHeartbeats 2000000 in
theorem lines1_in (n : Nat) (hn : 1 ≤ n) (l Bs base : Nat) (L : List UInt8) (w0 : World) (hw0 : w0.heap.size ≤ base) (hBs0 : base ≤ Bs)
    (J Jx : List (List UInt8) → World → Prop) (hT : ∀ pre A B, J pre A → TL Bs A B → J pre B)
    (hY : ∀ pre x W, J pre W → pre.length < (Line.lines L).length → YieldAt Fence.wide (n - 1) Tryd.prog l (encL x) W fun e W' =>
      (e = .returned (.bool true) ∧ J (pre ++ [x]) W' ∧ KpL base Bs W W') ∨ (e = .returned (.bool false) ∧ Jx (pre ++ [x]) W'))
    (W : World) (v : Value) (hv : Sl eByte 1 w0 v L) (hW0 : Below w0.heap.size w0 W) (hBs : W.heap[Bs]? = some (.cells #[v] 30 (0, 0))) (h0 : J [] W) :
    CallsIn Fence.wide n Tryd.prog 16 #[.func (.yield l) #[] #[], .pointer (some ⟨Bs, 0, none⟩)] W fun e W' => (∃ v, e = .returned v) ∧
      ((∃ ys, ys = Line.lines L ∧ J ys W') ∨ (∃ pre, (pre <+: Line.lines L) ∧ Jx pre W')) := by
  have hL6 := hv.len_le
  have hTL := Lib.hid hT
  refine callsIn_of_wp Tryd.func16 rfl trivial ?_ rfl
  simp only [Tryd.ntmps16, List.size_toArray, List.length_cons, List.length_nil, Nat.reduceAdd, Nat.reduceSub, Array.replicate_succ, Array.replicate_zero, List.push_toArray, List.append_toArray, List.nil_append, List.cons_append]
  clear hT
  gi_wp2
  gi_loopw [3] (fun i wr => ∃ (u : Value) (R : List UInt8) (pre : List (List UInt8)), Hid (pre ++ Line.lines R = Line.lines L) ∧ R.length ≤ L.length ∧ Hid (Sl eByte 1 w0 u R) ∧ Hid (wr.heap[Bs]? = some (.cells #[u] 30 (0, 0))) ∧ Hid (J pre wr) ∧ Hid (Below w0.heap.size w0 wr))
    (fun i wr => lenOf (cellNow wr ⟨Bs, 0, none⟩))
  case atStart => exact ⟨v, L, [], Lib.hid rfl, Nat.le_refl _, Lib.hid hv, Lib.hid hBs, Lib.hid h0, Lib.hid hW0⟩
  case round =>
    obtain ⟨u, R, pre, HP, hRL, HU, HB, HJ, HW⟩ := hrel
    obtain ⟨b1, c1, f1⟩ := one_cells HB.out
    have hlen := HU.out.run_len (P := Tryd.prog) Tryd.underlying30
    by_cases hR : R = []
    · subst hR
      have HX : Hid (pre = Line.lines L) := Lib.hid (by have := HP.out; rwa [Line.lines_nil, List.append_nil] at this)
      clear HP
      gi_wp2
      go_end0
      exact ⟨⟨_, rfl⟩, .inl ⟨_, HX.out, HJ.out⟩⟩
    · have hR0 : 0 < R.length := List.length_pos_iff.2 hR
      have hi0 := index_any u R wr (HU.out.ext HW.out) 10
      have hE1 := Line.en_le R
      have hE0 := Line.en_pos hR
      obtain ⟨E, HE⟩ : ∃ E, Hid (Line.en R = E) := ⟨_, Lib.hid rfl⟩
      have hidx := Line.index_en R
      rw [HE.out] at hE1 hE0 hidx
      obtain ⟨I, HI⟩ : ∃ I, Hid (Lib.indexByte R 10 = I) := ⟨_, Lib.hid rfl⟩
      have hc10 : ((10 : Nat).toUInt8) = 10 := rfl
      rw [hc10, HI.out] at hi0
      rw [HI.out] at hidx
      have HC := Lib.hid hi0
      have HP2 : Hid ((pre ++ [R.take E]) ++ Line.lines (R.drop E) = Line.lines L) := Lib.hid (by
        rw [← HP.out, Line.lines_cut hR, HE.out]; simp)
      have hlt : pre.length < (Line.lines L).length := by
        have := congrArg List.length HP2.out
        simp only [List.length_append, List.length_singleton] at this
        omega
      obtain ⟨v1, hx1, ⟨a1, n1, k1, rfl⟩, hs1⟩ := HU.out.upto (P := Tryd.prog) Tryd.underlying30 (by kernel_rfl) cells5 some5 (hi' := E) hE1
      obtain ⟨v2, hx2, ⟨a2, n2, k2, rfl⟩, hs2⟩ := HU.out.from (P := Tryd.prog) Tryd.underlying30 (by kernel_rfl) cells5 some5 (lo := E) hE1
      have hconv := (hs1.ext HW.out).run_string (P := Tryd.prog) Tryd.underlying30 Tryd.underlying5 Tryd.underlying9
      obtain ⟨fn, tmps, assign, body, hy, hRd⟩ := hY pre (R.take E) wr HJ.out hlt
      dsimp only [encL] at hy hRd
      have HS2 := Lib.hid hs2
      have hdl : (R.drop E).length = R.length - E := List.length_drop
      have HL1 := Lib.hid (sl_lenOf HU.out)
      have HL2 := Lib.hid (sl_lenOf hs2)
      have hback : ∀ W3, J (pre ++ [R.take E]) W3 → KpL base Bs wr W3 → Hid (W3.heap[Bs]? = some (.cells #[u] 30 (0, 0)) ∧ J (pre ++ [R.take E]) (W3.setCell ⟨Bs, 0, none⟩ (.slice a2 n2 k2)) ∧ (W3.setCell ⟨Bs, 0, none⟩ (.slice a2 n2 k2)).heap[Bs]? = some (.cells #[.slice a2 n2 k2] 30 (0, 0)) ∧ Below w0.heap.size w0 (W3.setCell ⟨Bs, 0, none⟩ (.slice a2 n2 k2))) := fun W3 h1 h2 => Lib.hid (by
        have h3 := h2.2 _ HB.out
        exact ⟨h3, hTL.out _ _ _ h1 ⟨_, _, h3, rfl⟩, one_set h3, (HW.out.trans (h2.1.mono hw0)).setCell (p := ⟨Bs, 0, none⟩) (by show w0.heap.size ≤ Bs; omega) _⟩)
      have HBk := Lib.hid hback
      have HLT : Hid ((R.drop E).length < R.length) := Lib.hid (by omega)
      clear hi0 hR HP hlt hs1 hs2 hY hback
      rcases hidx with ⟨h1, h2⟩ | ⟨h1, h2⟩
      · subst h1
        have HEn := Lib.hid h2
        clear h2
        rw [← HEn.out] at hlen
        gi_wp2_with (refine ⟨trivial, ?_⟩; gi_at_call 17; refine (callsIn_wide.2 HC.out).mono ?_; rintro e w2 ⟨rfl, rfl⟩)
        refine hRd.mono ?_
        rintro e W3 (⟨rfl, hJ3, hk3⟩ | ⟨rfl, hJx3⟩)
        · have HK3 := HBk.out W3 hJ3 hk3
          obtain ⟨b3, c3, f3⟩ := one_cells HK3.out.1
          clear hJ3 hk3
          gi_wp2
          go_roundw
          case rel => exact ⟨.slice a2 n2 k2, R.drop E, pre ++ [R.take E], HP2, by omega, HS2, Lib.hid HK3.out.2.2.1, Lib.hid HK3.out.2.1, Lib.hid HK3.out.2.2.2⟩
          case measure =>
            rw [boxed_len HK3.out.2.2.1, boxed_len HB.out, HL1.out, HL2.out]
            exact HLT.out
        · gi_wp2
          refine bodyPost_ret (results_none rfl _ _ _) rfl ?_
          exact ⟨⟨_, rfl⟩, .inr ⟨_, ⟨_, HP2.out⟩, hJx3⟩⟩
      · have hn0 : (I + 1 == 0) = false := by
          rw [Bool.eq_false_iff]; intro h; have := eq_of_beq h; omega
        obtain rfl : I = (E : Int) - 1 := by omega
        have hcast : (E : Int) - 1 + 1 = E := by omega
        have hn1 : ((E : Int) == 0) = false := by rw [Bool.eq_false_iff]; intro h; have := eq_of_beq h; omega
        have hn2 : ¬ (E : Int) = 0 := by omega
        clear hn0 h1 h2
        gi_wp2_with (refine ⟨trivial, ?_⟩; gi_at_call 17; refine (callsIn_wide.2 HC.out).mono ?_; rintro e w2 ⟨rfl, rfl⟩)
        refine hRd.mono ?_
        rintro e W3 (⟨rfl, hJ3, hk3⟩ | ⟨rfl, hJx3⟩)
        · have HK3 := HBk.out W3 hJ3 hk3
          obtain ⟨b3, c3, f3⟩ := one_cells HK3.out.1
          clear hJ3 hk3
          gi_wp2
          go_roundw
          case rel => exact ⟨.slice a2 n2 k2, R.drop E, pre ++ [R.take E], HP2, by omega, HS2, Lib.hid HK3.out.2.2.1, Lib.hid HK3.out.2.1, Lib.hid HK3.out.2.2.2⟩
          case measure =>
            rw [boxed_len HK3.out.2.2.1, boxed_len HB.out, HL1.out, HL2.out]
            exact HLT.out
        · gi_wp2
          refine bodyPost_ret (results_none rfl _ _ _) rfl ?_
          exact ⟨⟨_, rfl⟩, .inr ⟨_, ⟨_, HP2.out⟩, hJx3⟩⟩

/-- the lines of a text, one by one -/
theorem lines_seq (n : Nat) (hn : 1 ≤ n) (Bs base : Nat) (L : List UInt8) (w0 w : World) (hw0 : w0.heap.size ≤ base) (hBs0 : base ≤ Bs) (v : Value) (hv : Sl eByte 1 w0 v L) (hb : Below w0.heap.size w0 w) (hBs : w.heap[Bs]? = some (.cells #[v] 30 (0, 0))) :
    SeqT Fence.wide n Tryd.prog 16 #[.pointer (some ⟨Bs, 0, none⟩)] encL (TL Bs) (KpL base Bs) (fun ys => ys = Line.lines L) (fun pre => pre <+: Line.lines L) (Line.lines L).length w := fun l J Jx W hW hJ _ hY h0 =>
  lines1_in n hn l Bs base L w0 hw0 hBs0 J Jx hJ hY W v hv (hb.trans (hW.mono hb.size)) ((hW.block _ (Array.getElem?_eq_some_iff.1 hBs).1).trans hBs) h0

theorem kpL_t {base Bs : Nat} {A B C : World} (h : KpL base Bs A B) (k : KpL base Bs B C) : KpL base Bs A C := ⟨h.1.trans k.1, fun c hc => k.2 c (h.2 c hc)⟩
theorem kpL_b {base Bs : Nat} {w : World} (hn : base ≤ w.heap.size) (W : World) (l : Nat) (o o' : Obj) (hl : w.heap.size ≤ l) (h : W.heap[l]? = some o) (hc : o.isCells = false) (hw : o.isWalk = false) : KpL base Bs W (W.putObj l o') :=
  ⟨belowK_b hn W l o o' hl h hc hw, fun c hB => by
    by_cases e : Bs = l
    · subst e
      rw [hB] at h
      obtain rfl := Option.some.inj h
      simp [Obj.isCells] at hc
    · exact (World.putObj_heap_other e).trans hB⟩
theorem tL_keeps {Bs B : Nat} (A C : World) (h : TL Bs A C) : KeepsFrom B A C := by
  obtain ⟨v, c, _, rfl⟩ := h
  exact (KeepsOthers.setCell _ _ _).from _

theorem lines21 (n : Nat) (a : Option Addr) (len cap : Nat) (w : World) :
    CallsIn Fence.wide n Tryd.prog 11 #[.slice a len cap] w fun e w' => e = .returned (.func (.func 16) #[] #[.pointer (some ⟨w.heap.size, 0, none⟩)]) ∧ w' = w.alloc (.cells #[.slice a len cap] 30) := by
  refine callsIn_of_wp Tryd.func11 rfl trivial ?_ rfl
  simp only [Tryd.ntmps11, List.size_toArray, List.length_cons, List.length_nil, Nat.reduceAdd, Nat.reduceSub, Array.replicate_succ, Array.replicate_zero, List.push_toArray, List.append_toArray, List.nil_append, List.cons_append]
  gi_wp2
  go_ret
  exact ⟨rfl, rfl⟩
end Go.Proofs.YtibebmdpjaknpaaDoor
