/-
  Layer 14: Gens. No condition besides what the argument is.
-/
import Derived.Test.YtcpmnocknpalfaaH10
import Derived.Test.YtcpmnocknpalfaaR4
import Derived.Test.YtcpmnocknpalfaaG6
namespace Go.Proofs.Ytcpmnocknpalfaa
open Go.RowKit Go.Sl
set_option linter.unusedVariables false

theorem make_ints (n : Nat) (hn : n ≤ 800) : ∀ u : World, (Instr.makeSlice 23 (.int .i64 (n : Int)) (.int .i64 (n : Int))).run Try.prog u = .ok (.slice (some ⟨u.heap.size, 0, none⟩) n n) (u.alloc (.cells (madeCells #[.int .i64 0] n) 3)) :=
  run_make_row' (P := Try.prog) 23 3 _ 8 Try.underlying23 info3 rfl .i64 .i64 n (by omega) (by omega)
theorem own_made (w : World) (n : Nat) (hn : n ≤ 800) : Own eInt 1 w.heap.size 3 (w.alloc (.cells (madeCells #[.int .i64 0] n) 3)) (.slice (some ⟨w.heap.size, 0, none⟩) n n) (List.replicate n 0) := by
  refine ⟨by rw [flatMap_len len_eInt], .inr ⟨w.heap.size, n, _, by rw [List.length_replicate], Nat.le_refl _, heap_alloc_new _ _, by rw [List.length_replicate]; exact Nat.le_refl _, by simp [maxLen]; omega, by simp [size_madeCells], ?_⟩⟩
  rw [toList_madeCells_one]
  have : ∀ n, (List.replicate n (0 : Int)).flatMap eInt = List.replicate n (.int .i64 0) := by
    intro n
    induction n with
    | zero => rfl
    | succ n ih => rw [List.replicate_succ, List.flatMap_cons, ih]; rfl
  rw [this, List.length_replicate]
  simp

theorem gens_bad (gv : Value) (w : World) (es : List (SlV × Int)) (g : List Nd) (hg : ¬ Dag.okG g) (hG : Gr w gv es g) :
    Calls Try.prog 22 #[gv] w fun e w' => e = .returned (.tuple #[.slice none 0 0, .int .i64 12]) ∧ Below w.heap.size w w' := by
  have HC := Lib.hid (check_any gv es g w hG)
  rw [Dag.chk_bad hg] at HC
  clear hg
  go_enter Try.func22, Try.ntmps22
  go_wp2_with fail
  refine HC.out.mono ?_
  rintro e w1 ⟨rfl, hb⟩
  have HB := Lib.hid hb
  clear hb
  go_wp2_with fail
  go_ret2
  exact ⟨rfl, HB.out⟩

set_option maxRecDepth 100000 in
set_option maxHeartbeats 1000000 in
theorem gens_ok (gv : Value) (w : World) (es : List (SlV × Int)) (g : List Nd) (hg : Dag.okG g) (hG : Gr w gv es g) :
    Calls Try.prog 22 #[gv] w (ListOk w.heap.size (Dag.gensL g) w) := by
  have HC := Lib.hid (check_any gv es g w hG)
  rw [Dag.chk_ok hg] at HC
  have hgl := hg.1
  have hix0 := hG.run_len
  have hmk := make_ints g.length (by omega)
  have HG := Lib.hid hg
  clear hg
  go_enter Try.func22, Try.ntmps22
  go_wp2_with fail
  refine HC.out.mono ?_
  rintro e w1 ⟨rfl, hb⟩
  have HB1 := Lib.hid hb
  clear hb
  have HO0 := Lib.hid ((own_made w1 g.length (by omega)).mono HB1.out.size)
  have HW0 := Lib.hid (HB1.out.alloc HB1.out.size (.cells (madeCells #[.int .i64 0] g.length) 3))
  go_wp2_with fail
  go_loopw [20] (fun i wr => ∃ (n : Nat) (l : List Int), i = .int .i64 n ∧ n ≤ g.length ∧ Hid (Dag.GnC g l n) ∧ Hid (Own eInt 1 w.heap.size 3 wr (.slice (some ⟨w1.heap.size, 0, none⟩) g.length g.length) l) ∧ Hid (Below w.heap.size w wr)) (fun i _ => g.length - (intOf i).toNat)
  case atStart => exact ⟨0, _, rfl, by omega, Lib.hid (Dag.GnC.start (by simp)), HO0, HW0⟩
  case round =>
    obtain ⟨n, l, rfl, hn, HC, HO, HW⟩ := hrel
    obtain ⟨wo, rfl⟩ : ∃ wo : World, wo = wr := ⟨_, rfl⟩
    by_cases hlt : n < g.length
    · obtain ⟨b, o, hb1, hix, P, T, a1, n1, k1, HX, HL, q0, q1, hs1, hm1⟩ := hG.at HW.out hlt
      have hls := hs1.run_len (P := Try.prog) Try.underlying23
      rw [HL.out] at hls
      have HP : Hid (g[n].1 = P) := Lib.hid (by rw [HX.out])
      have HOk : Hid (∀ i (h : i < P.length), Dag.parOk n P i P[i]) := Lib.hid (by have := (HG.out.2 n hlt).2.2.2; rw [HX.out] at this; exact this)
      have hsz := HW.out.size
      have HOa := Lib.hid (HO.out.alloc (.cells #[.slice a1 n1 k1, .int .i64 T] 90))
      have HWa := Lib.hid (HW.out.alloc hsz (.cells #[.slice a1 n1 k1, .int .i64 T] 90))
      have HLl : Hid (l.length = g.length) := Lib.hid HC.out.1
      obtain ⟨hg1, hg2, -, hcell⟩ := own_cells HOa.out
      obtain ⟨ck, fk⟩ := hcell n (by rw [HLl.out]; exact hlt)
      clear hcell
      have HBx : Hid ((wo.alloc (.cells #[.slice a1 n1 k1, .int .i64 T] 90)).heap[wo.heap.size]? = some (.cells #[.slice a1 n1 k1, .int .i64 T] 90 (0, 0))) := Lib.hid (heap_new_at rfl)
      have hne : wo.heap.size ≠ w1.heap.size := by have := (own_cells HO.out).1; omega
      have HOb := Lib.hid (own_set HOa.out (k := n) (by rw [HLl.out]; exact hlt) 1)
      have HBy : Hid (((wo.alloc (.cells #[.slice a1 n1 k1, .int .i64 T] 90)).setCell ⟨w1.heap.size, n, none⟩ (.int .i64 1)).heap[wo.heap.size]? = some (.cells #[.slice a1 n1 k1, .int .i64 T] 90 (0, 0))) := Lib.hid (heap_set_keep (a := ⟨w1.heap.size, n, none⟩) HBx.out hne)
      have HWb : Hid (Below w.heap.size w ((wo.alloc (.cells #[.slice a1 n1 k1, .int .i64 T] 90)).setCell ⟨w1.heap.size, n, none⟩ (.int .i64 1))) := Lib.hid (HWa.out.setCell (p := ⟨w1.heap.size, n, none⟩) hg2 _)
      have HDb := Lib.hid (HC.out.one hlt P)
      obtain ⟨z1, z2, z3⟩ := two90 HBy.out
      clear HC HO HW HOa HWa HBx
      go_wp2_with fail
      go_loopw [31] (fun i u => ∃ (k : Nat) (l : List Int), i = .int .i64 k ∧ k ≤ n1 ∧ Hid (Dag.GnD g l n P k) ∧ Hid (Own eInt 1 w.heap.size 3 u (.slice (some ⟨w1.heap.size, 0, none⟩) g.length g.length) l) ∧ Hid (Below w.heap.size w u)) (fun i _ => n1 - (intOf i).toNat)
      case atStart => exact ⟨0, _, rfl, by omega, HDb, HOb, HWb⟩
      case round =>
        clear HDb HOb HWb HBy z1 z2 z3 ck fk hg1
        obtain ⟨k, l, rfl, hk, HD, HO, HW⟩ := hrel
        by_cases hlt2 : k < n1
        · have hkP : k < P.length := by rw [HL.out]; exact hlt2
          obtain ⟨b2, o2, hb2, hix2, hc2⟩ := hs1.atB HW.out (P := Try.prog) Try.underlying23 cells3 some3 hkP
          have e1 := hc2 0 (by omega)
          simp only [eInt, List.getElem?_cons_zero, Nat.add_zero] at e1
          obtain ⟨x, HY⟩ : ∃ x, Hid (P[k] = x) := ⟨_, Lib.hid rfl⟩
          rw [HY.out] at e1
          have hok := HOk.out k hkP
          rw [HY.out] at hok
          obtain ⟨y, rfl⟩ : ∃ y : Nat, x = y := ⟨x.toNat, by have := hok.1; omega⟩
          have hyn : y < n := by have := hok.2.1; omega
          have HLl : Hid (l.length = g.length) := Lib.hid HD.out.1
          obtain ⟨hg1, -, -, hcell⟩ := own_cells HO.out
          obtain ⟨ck, fk⟩ := hcell n (by rw [HLl.out]; exact hlt)
          obtain ⟨cy, fy⟩ := hcell y (by rw [HLl.out]; omega)
          clear hcell hc2 hok
          obtain ⟨p, HPv⟩ : ∃ p, Hid (Hp.ge l n = p) := ⟨_, Lib.hid rfl⟩
          obtain ⟨r, HRv⟩ : ∃ r, Hid (Hp.ge l y = r) := ⟨_, Lib.hid rfl⟩
          have hbd := HD.out.bd HG.out hlt HP.out
          have hb1 : 1 ≤ p ∧ p ≤ 128 := by rw [← HPv.out]; exact hbd.1
          have hb2' : 1 ≤ r ∧ r ≤ 128 := by rw [← HRv.out]; exact hbd.2 y hyn
          obtain ⟨hp1, hp2⟩ := hb1
          obtain ⟨hr1, hr2⟩ := hb2'
          rw [HPv.out] at ck
          rw [HRv.out] at cy
          clear hbd
          have HD2 : Hid (Dag.GnD g (l.set n (max p (r + 1))) n P (k + 1)) := Lib.hid (by
            have h3 := HD.out.step hlt hkP (by rw [HY.out]; simpa using hyn)
            have e2 : l.getD n 0 = p := HPv.out
            have e3 : l.getD P[k].toNat 0 = r := by rw [HY.out]; exact HRv.out
            rwa [e2, e3] at h3)
          have HO2 := Lib.hid (own_set HO.out (k := n) (by rw [HLl.out]; exact hlt) (max p (r + 1)))
          have HW2 : Hid (Below w.heap.size w (wr.setCell ⟨w1.heap.size, n, none⟩ (.int .i64 (max p (r + 1))))) := Lib.hid (HW.out.setCell (p := ⟨w1.heap.size, n, none⟩) hg2 _)
          clear HD HO HW
          go_wp2_with fail
          go_region
          go_wp2_with fail
          rw [show (if p < r + 1 then r + 1 else p) = max p (r + 1) by split <;> omega]
          go_roundw
          case rel => exact ⟨k + 1, _, by go_num, by omega, HD2, Lib.hid (HO2.out.drew), Lib.hid (below_drewN HW2.out 1)⟩
          case measure => simp [intOf]; omega
        · have HC2 := Lib.hid (Dag.GnD.done (P := P) (by have := HD.out; rwa [show k = P.length by rw [HL.out]; omega] at this) hlt HP.out)
          go_wp2_with fail
          go_roundw
          case rel => exact ⟨n + 1, l, by go_num, by omega, HC2, HO, HW⟩
          case measure => simp [intOf]; omega
    · have HE := Lib.hid (Dag.GnC.fin (by rwa [show n = g.length by omega] at HC : Hid (Dag.GnC g l g.length)).out)
      rw [HE.out] at HO
      go_wp2_with fail
      go_ret2
      exact ⟨_, rfl, HO.out, HW.out⟩
end Go.Proofs.Ytcpmnocknpalfaa
