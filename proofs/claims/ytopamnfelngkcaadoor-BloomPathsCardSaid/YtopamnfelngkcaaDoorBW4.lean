/-
  Layer 16: the places of a key, one by one: the iterator's contract. No condition besides what the arguments are.
-/
import Derived.RangeFuncBound
import Derived.RangeFuncCalls
import Derived.RangeFuncLeaves
import Derived.Shelf.Abstract
import Derived.Shelf.RegionOpen
import Derived.OwnWalkIn
import Derived.TacticsInMore
import Derived.LoopNIn
import Derived.LoopIn
import Derived.Sort.QuietIn
import Derived.Sort.QuietTacIn
import Derived.Test.YtopamnfelngkcaaDoorRangeT
import Derived.Test.YtopamnfelngkcaaDoorBW2
namespace Go.Proofs.YtopamnfelngkcaaDoor.Bm
open Go.Proofs Go.RowKit Go.Shelf Go.Sl Go.Bl
set_option linter.unusedVariables false

attribute [local go_sem] Oper.semAt_some

def s0 : BitVec 32 := 0x293ae76f#32
def s1 : BitVec 32 := 0x7e646e2c#32
def plc (l : List UInt8) (many i : Nat) : Nat := (hash s0 l + BitVec.ofNat 32 i * hash s1 l).toNat % many
/-- the places of a key -/
abbrev Pl (many : Nat) := { y : Nat // y < many }
def pl (l : List UInt8) (many : Nat) (h : 0 < many) (i : Nat) : Pl many := ⟨plc l many i, Nat.mod_lt _ h⟩
def plcs (l : List UInt8) (many : Nat) (h : 0 < many) : List (Pl many) := (List.range 7).map (pl l many h)
theorem plcs_len (l : List UInt8) (many : Nat) (h : 0 < many) : (plcs l many h).length = 7 := by simp [plcs]
def encN {many : Nat} (x : Pl many) : Array Value := #[.int .i64 (x.1 : Int)]
/-- what a round keeps: what lies below base, and the two boxes -/
def KpP (base kb mb : Nat) (W W' : World) : Prop := Below base W W' ∧ (∀ c, W.heap[kb]? = some (.cells c 9 (0, 0)) → W'.heap[kb]? = some (.cells c 9 (0, 0))) ∧ (∀ c, W.heap[mb]? = some (.cells c 3 (0, 0)) → W'.heap[mb]? = some (.cells c 3 (0, 0)))

theorem at_zero (a b : BitVec 32) : a + BitVec.ofNat 32 0 * b = a := by simp
theorem at_next (a b : BitVec 32) (k : Nat) : a + BitVec.ofNat 32 (k + 1) * b = a + BitVec.ofNat 32 k * b + b := by
  rw [BitVec.ofNat_add, BitVec.add_mul, ← BitVec.add_assoc]; simp
theorem nextI {a b : BitVec 32} {k : Nat} {X H : Int} (h : u32 (a + BitVec.ofNat 32 k * b) = X) (h2 : u32 b = H) : u32 (a + BitVec.ofNat 32 (k + 1) * b) = (X + H) % 4294967296 := by
  rw [at_next, ← addw, h, h2]
theorem plcI {l : List UInt8} {many k : Nat} {X : Int} (hm0 : 0 < many) (hm1 : many < 1000000) (h : u32 (hash s0 l + BitVec.ofNat 32 k * hash s1 l) = X) : wrap64 (X % (many : Int)) = (plc l many k : Int) := by
  have h1 : X % (many : Int) = (plc l many k : Int) := by rw [← h]; unfold plc u32; exact (Int.natCast_emod _ _).symm
  have h2 : plc l many k < many := Nat.mod_lt _ hm0
  rw [h1]
  unfold wrap64; omega
theorem plcs_take {l : List UInt8} {many k : Nat} {hm : 0 < many} (h : k < 7) : (plcs l many hm).take (k + 1) = (plcs l many hm).take k ++ [pl l many hm k] := by
  rw [List.take_succ_eq_append_getElem (by rw [plcs_len]; exact h)]
  congr 2
  simp [plcs]

set_option maxRecDepth 100000 in
set_option maxHeartbeats 2000000 in
theorem places_in (n : Nat) (hn : 1 ≤ n) (lp kb mb base : Nat) (l : List UInt8) (hl : l.length ≤ 100000) (many : Nat) (hm0 : 0 < many) (hm1 : many < 1000000)
    (J Jx : List (Pl many) → World → Prop) (hT : ∀ pre A B, J pre A → Dn A B → J pre B)
    (hY : ∀ pre x W, J pre W → pre.length < 7 → YieldAt Fence.wide (n - 1) Tryd.prog lp (encN x) W fun e W' =>
      (e = .returned (.bool true) ∧ J (pre ++ [x]) W' ∧ KpP base kb mb W W') ∨ (e = .returned (.bool false) ∧ Jx (pre ++ [x]) W'))
    (W : World) (hk : W.heap[kb]? = some (.cells #[.string (bstr l)] 9 (0, 0))) (hm : W.heap[mb]? = some (.cells #[.int .i64 (many : Int)] 3 (0, 0))) (h0 : J [] W) :
    CallsIn Fence.wide n Tryd.prog 102 #[.func (.yield lp) #[] #[], .pointer (some ⟨kb, 0, none⟩), .pointer (some ⟨mb, 0, none⟩)] W fun e W' => (∃ v, e = .returned v) ∧
      ((∃ ys, ys = plcs l many hm0 ∧ J ys W') ∨ (∃ pre, (pre <+: plcs l many hm0) ∧ Jx pre W')) := by
  obtain ⟨H0, hH0⟩ : ∃ X, Hid (u32 (hash s0 l) = X) := ⟨_, Lib.hid rfl⟩
  obtain ⟨H1, hH1⟩ : ∃ X, Hid (u32 (hash s1 l) = X) := ⟨_, Lib.hid rfl⟩
  have HA := Lib.hid (fun u => hash_any (seed := s0) (S0 := 691726191) (by decide) l hl hH0.out u)
  have HB := Lib.hid (fun u => hash_any (seed := s1) (S0 := 2120511020) (by decide) l hl hH1.out u)
  obtain ⟨b1, c1, f1⟩ := one_cells hk
  refine callsIn_of_wp Tryd.func102 rfl trivial ?_ rfl
  simp only [Tryd.ntmps102, List.size_toArray, List.length_cons, List.length_nil, Nat.reduceAdd, Nat.reduceSub, Array.replicate_succ, Array.replicate_zero, List.push_toArray, List.append_toArray, List.nil_append, List.cons_append]
  gi_wp2
  refine wpIn_region_quiet_lit rfl (by kernel_rfl) (by kernel_rfl) ?_
  refine wpQuietIn_step (fun _ _ _ _ => trivial) (fun K hK => ?_)
  go_simp
  refine hK _ ?_
  clear hK K
  refine wpQuietIn_step (fun _ _ _ _ => trivial) (fun K hK => ?_)
  go_simp
  apply Exists.intro
  refine ⟨fun _ => ?_, hK _ ?_⟩
  · gi_at_call 74
    exact CallsIn.quiet_of (callsIn_wide.2 (HA.out _))
  clear hK K
  refine wpQuietIn_step (fun _ _ _ _ => trivial) (fun K hK => ?_)
  go_simp
  refine hK _ ?_
  clear hK K
  refine wpQuietIn_step (fun _ _ _ _ => trivial) (fun K hK => ?_)
  go_simp
  apply Exists.intro
  refine ⟨fun _ => ?_, hK _ ?_⟩
  · gi_at_call 74
    exact CallsIn.quiet_of (callsIn_wide.2 (HB.out _))
  clear hK K
  refine wpQuietIn_step (fun _ _ _ _ => trivial) (fun K hK => ?_)
  go_simp
  refine hK _ ?_
  clear hK K
  refine wpQuietIn_step (fun _ _ _ _ => trivial) (fun K hK => ?_)
  go_simp
  refine hK _ ?_
  clear hK K
  refine wpQuietIn_nil ?_
  intro w2 hw2
  have hJ2 := hT _ _ _ h0 (show Dn W w2 from hw2)
  have hk2 : w2.heap[kb]? = some (.cells #[.string (bstr l)] 9 (0, 0)) := by rw [Dn.heap hw2]; exact hk
  have hm2 : w2.heap[mb]? = some (.cells #[.int .i64 (many : Int)] 3 (0, 0)) := by rw [Dn.heap hw2]; exact hm
  have HY := Lib.hid hY
  clear hw2 hT h0 hk hm b1 c1 f1 HA HB hY
  gi_wp2
  gi_loopw [4, 10] (fun s4 i wr => ∃ (k : Nat) (X : Int), i = .int .i64 k ∧ k ≤ 7 ∧ s4 = .int .u32 X ∧ Hid (Go.Bl.u32 (hash s0 l + BitVec.ofNat 32 k * hash s1 l) = X) ∧ Hid (J ((plcs l many hm0).take k) wr) ∧ Hid (wr.heap[kb]? = some (.cells #[.string (bstr l)] 9 (0, 0))) ∧ Hid (wr.heap[mb]? = some (.cells #[.int .i64 (many : Int)] 3 (0, 0)))) (fun _ i _ => 7 - (intOf i).toNat)
  case atStart => exact ⟨0, _, rfl, by omega, rfl, Lib.hid (by rw [at_zero]; exact hH0.out), Lib.hid hJ2, Lib.hid hk2, Lib.hid hm2⟩
  case round =>
    obtain ⟨k, X, rfl, hk7, rfl, hX, hJ, hK, hM⟩ := hrel
    obtain ⟨b1, c1, f1⟩ := one_cells hM.out
    by_cases hlt : k < 7
    · have hX0 := u32_lt (hash s0 l + BitVec.ofNat 32 k * hash s1 l)
      rw [hX.out] at hX0
      obtain ⟨fn, tmps, assign, body, hy, hRd⟩ := HY.out _ (pl l many hm0 k) wr hJ.out (by rw [List.length_take, plcs_len]; omega)
      unfold encN at hy
      have hp := plcI hm0 hm1 hX.out
      have HN := Lib.hid (nextI hX.out hH1.out)
      have HT := Lib.hid (plcs_take (l := l) (many := many) (hm := hm0) hlt)
      obtain ⟨P, hP⟩ : ∃ P, Hid (pl l many hm0 k = P) := ⟨_, Lib.hid rfl⟩
      rw [show (plc l many k : Int) = (((pl l many hm0 k).1 : Nat) : Int) from rfl] at hp
      rw [hP.out] at hp hy hRd HT
      gi_wp2
      refine hRd.mono ?_
      rintro e W3 (⟨rfl, hJ3, hk3⟩ | ⟨rfl, hJx3⟩)
      · have hK3 := hk3.2.1 _ hK.out
        have hM3 := hk3.2.2 _ hM.out
        have HJ3 := Lib.hid hJ3
        clear hk3 hJ3 hp
        gi_wp2
        go_roundw
        case rel => exact ⟨k + 1, _, by go_num, by omega, rfl, HN, Lib.hid (by rw [HT.out]; exact HJ3.out), Lib.hid hK3, Lib.hid hM3⟩
        case measure => simp [intOf]; omega
      · gi_wp2
        refine bodyPost_ret (results_none rfl _ _ _) rfl ?_
        exact ⟨⟨_, rfl⟩, .inr ⟨_, ⟨_, by rw [← HT.out]; exact List.take_append_drop (k + 1) _⟩, hJx3⟩⟩
    · obtain rfl : k = 7 := by omega
      have HA : Hid (J (plcs l many hm0) wr) := Lib.hid (by have := hJ.out; rwa [List.take_of_length_le (by rw [plcs_len]; omega)] at this)
      clear hJ
      gi_wp2
      go_end0
      exact ⟨⟨_, rfl⟩, .inl ⟨_, rfl, HA.out⟩⟩

theorem places_seq (n : Nat) (hn : 1 ≤ n) (kb mb base : Nat) (l : List UInt8) (hl : l.length ≤ 100000) (many : Nat) (hm0 : 0 < many) (hm1 : many < 1000000) (w : World)
    (hk : w.heap[kb]? = some (.cells #[.string (bstr l)] 9 (0, 0))) (hm : w.heap[mb]? = some (.cells #[.int .i64 (many : Int)] 3 (0, 0))) :
    SeqT Fence.wide n Tryd.prog 102 #[.pointer (some ⟨kb, 0, none⟩), .pointer (some ⟨mb, 0, none⟩)] (encN (many := many)) Dn (KpP base kb mb) (fun ys => ys = plcs l many hm0) (fun pre => pre <+: plcs l many hm0) 7 w := fun lp J Jx W hW hJ _ hY h0 =>
  places_in n hn lp kb mb base l hl many hm0 hm1 J Jx hJ hY W ((hW.block _ (Array.getElem?_eq_some_iff.1 hk).1).trans hk) ((hW.block _ (Array.getElem?_eq_some_iff.1 hm).1).trans hm) h0
theorem kpP_t {base kb mb : Nat} {A B C : World} (h : KpP base kb mb A B) (k : KpP base kb mb B C) : KpP base kb mb A C := ⟨h.1.trans k.1, fun c hc => k.2.1 c (h.2.1 c hc), fun c hc => k.2.2 c (h.2.2 c hc)⟩
theorem put_box {B l : Nat} {e : TypeId} {W : World} {o o' : Obj} (h : W.heap[l]? = some o) (hc : o.isCells = false) : ∀ c, W.heap[B]? = some (.cells c e (0, 0)) → (W.putObj l o').heap[B]? = some (.cells c e (0, 0)) := fun c hB => by
  by_cases e : B = l
  · subst e
    rw [hB] at h
    obtain rfl := Option.some.inj h
    simp [Obj.isCells] at hc
  · exact (World.putObj_heap_other e).trans hB
theorem kpP_b {base kb mb : Nat} {w : World} (hn : base ≤ w.heap.size) (W : World) (l : Nat) (o o' : Obj) (hl : w.heap.size ≤ l) (h : W.heap[l]? = some o) (hc : o.isCells = false) (hw : o.isWalk = false) : KpP base kb mb W (W.putObj l o') :=
  ⟨belowK_b hn W l o o' hl h hc hw, put_box h hc, put_box h hc⟩
theorem dn_keeps {B : Nat} (A C : World) (h : Dn A C) : KeepsFrom B A C := ⟨by rw [Dn.heap h]; exact Nat.le_refl _, fun k o _ hk _ => by rw [Dn.heap h]; exact hk⟩
theorem places25 (n : Nat) (l : List UInt8) (many : Int) (w : World) :
    CallsIn Fence.wide n Tryd.prog 77 #[.string (bstr l), .int .i64 many] w fun e w' => e = .returned (.func (.func 102) #[] #[.pointer (some ⟨w.heap.size, 0, none⟩), .pointer (some ⟨w.heap.size + 1, 0, none⟩)]) ∧ w' = (w.alloc (.cells #[.string (bstr l)] 9)).alloc (.cells #[.int .i64 many] 3) := by
  refine callsIn_of_wp Tryd.func77 rfl trivial ?_ rfl
  simp only [Tryd.ntmps77, List.size_toArray, List.length_cons, List.length_nil, Nat.reduceAdd, Nat.reduceSub, Array.replicate_succ, Array.replicate_zero, List.push_toArray, List.append_toArray, List.nil_append, List.cons_append]
  gi_wp2
  go_ret
  exact ⟨rfl, rfl⟩
theorem cells_nc {W W' : World} {row : Option Nat} {b : Nat} {c : Array Value} {e : TypeId} {fr : Nat × Nat} (h : W.heap[b]? = some (.cells c e fr)) (hg : W.grownBy W' row) (hr : ∀ r, row = some r → ∃ o : Obj, W.heap[r]? = some o ∧ o.isCells = false) : W'.heap[b]? = some (.cells c e fr) := by
  refine grown_heap hg h (fun e => ?_)
  obtain ⟨o, h1, h2⟩ := hr b e
  rw [h] at h1
  obtain rfl := Option.some.inj h1
  simp [Obj.isCells] at h2
end Go.Proofs.YtopamnfelngkcaaDoor.Bm
