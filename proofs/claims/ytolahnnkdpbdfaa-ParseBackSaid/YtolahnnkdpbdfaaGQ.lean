/-
  Layer 28: are two lists of steps one? The program's walk (slices.Equal). No condition besides what lies where.
  Layer 28: are two commits one? The program's walk (Rev.same). No condition besides what lies where.
  Layer 28: are two questions one? The program's walk (slices.EqualFunc, Same). No condition besides what lies where.
  Layer 28: ParseSame, the law's walk. No condition besides MaxLen.
  Layer 28: ParseBack, the law's walk. No condition besides what lies where and MaxLen.
-/
import Derived.Test.YtolahnnkdpbdfaaGK
import Derived.Deep.RegionLaw
import Derived.Test.YtolahnnkdpbdfaaGP
import Derived.Test.YtolahnnkdpbdfaaGI
import Derived.Test.YtolahnnkdpbdfaaGO
import Derived.Deep.DeepCutAuto
namespace Go.Proofs.Ytolahnnkdpbdfaa
open Go.Proofs Go.RowKit Go.Shelf Go.Sl Go.Prs
theorem fields103 : Try.prog.fieldsOf 103 = #[fKd, fNn, fWd] := by kernel_rfl
theorem stood103 : Try.prog.stoodInHeld 103 = false := by kernel_rfl
theorem und103 : Try.prog.underlying 103 = some (.struct (Try.prog.fieldsOf 103)) := by rw [fields103]; exact Try.underlying103
theorem eqIn103 (u : World) (x y : St) : (Op.equalIn 10000 103 (.agg (eSt x).toArray) (.agg (eSt y).toArray)).run Try.prog u = .ok (decide (x = y)) u := by
  have hp0 : ∀ (r : St) (w : World), (part 3 (eSt r).toArray 0).run Try.prog w = .ok (.int .i64 r.k) w := fun r w => by
    simp [part, isAgg, run_underlying Try.underlying3, eSt]
  have hp1 : ∀ (r : St) (w : World), (part 3 (eSt r).toArray 1).run Try.prog w = .ok (.int .i64 r.n) w := fun r w => by
    simp [part, isAgg, run_underlying Try.underlying3, eSt]
  have hp2 : ∀ (r : St) (w : World), (part 9 (eSt r).toArray 2).run Try.prog w = .ok (.string (bstr r.w)) w := fun r w => by
    simp [part, isAgg, run_underlying Try.underlying9, eSt]
  have hi : ∀ (a b : Int) (w : World), (Op.equalIn 9999 3 (.int .i64 a) (.int .i64 b)).run Try.prog w = .ok (decide (a = b)) w := fun a b w => by
    rw [run_equalIn_int w 9998 3 _ _ _ _ Try.underlying3]
    congr 1
  have hs : ∀ (a b : List UInt8) (w : World), (Op.equalIn 9999 9 (.string (bstr a)) (.string (bstr b))).run Try.prog w = .ok (decide (a = b)) w := fun a b w => by
    rw [run_equalIn_string w 9998 9 _ _ Try.underlying9, bstr_toList, bstr_toList]
    congr 1
    rw [Bool.eq_iff_iff]; simp
  rw [run_equalIn_struct u 9999 103 _ _ und103 stood103, fields103, st_eq]
  have n0 : fKd.name ≠ "_" := by decide
  have n1 : fNn.name ≠ "_" := by decide
  have n2 : fWd.name ≠ "_" := by decide
  have t0 : fKd.type = 3 := rfl
  have t1 : fNn.type = 3 := rfl
  have t2 : fWd.type = 9 := rfl
  have o0 : fKd.offset = 0 := rfl
  have o1 : fNn.offset = 1 := rfl
  have o2 : fWd.offset = 2 := rfl
  simp only [Op.eqFields, n0, n1, n2, ne_eq, not_false_eq_true, if_true, t0, t1, t2, o0, o1, o2, Sem.run_bind, hp0, hp1, hp2, Result.andThen_ok, hi, hs, Sem.run_ite, Sem.run_pure]
  cases decide (x.k = y.k) <;> cases decide (x.n = y.n) <;> cases decide (x.w = y.w) <;> rfl
theorem neq103 (u : World) (x y : St) : (binOp .neq 103 (.agg #[.int .i64 x.k, .int .i64 x.n, .string (bstr x.w)]) (.agg #[.int .i64 y.k, .int .i64 y.n, .string (bstr y.w)])).run Try.prog u = .ok (.bool (!decide (x = y))) u := by
  have h := eqIn103 u x y
  have h2 := run_neq_struct (P := Try.prog) u 103 (eSt x).toArray (eSt y).toArray
  rw [h] at h2
  exact h2
theorem guard103 (x y : Operand) (a b : Array Value) (u : World) : (eqGuard .neq 103 x y (.agg a) (.agg b)).run Try.prog u = .ok () u := run_eqGuard_agg u .neq 103 x y a b (by kernel_rfl)
set_option maxRecDepth 100000 in
set_option maxHeartbeats 2000000 in
theorem equal81 (x y : List St) (v1 v2 : Value) (w : World) (h1 : Sl eSt 3 w v1 x) (h2 : Sl eSt 3 w v2 y) :
    Calls Try.prog 81 #[v1, v2] w fun e w' => e = .returned (.bool (decide (x = y))) ∧ Below w.heap.size w w' := by
  have H1 := Lib.hid h1
  have H2 := Lib.hid h2
  have hm1 := h1.len_le
  have hm2 := h2.len_le
  obtain ⟨ao, cap, rfl, -⟩ := h1.shp
  obtain ⟨bo, cap2, rfl, -⟩ := h2.shp
  clear h1 h2
  by_cases hn : x.length = y.length
  · have q3 : ((x.length : Int) != (y.length : Int)) = false := by rw [hn]; exact bne_self_eq_false _
    have Hn := Lib.hid hn
    clear hn
    go_enter Try.func81, Try.ntmps81
    go_wp2_with fail
    go_loopw [13] (fun i wr => ∃ k : Nat, k ≤ x.length ∧ i = .int .i64 k ∧ Hid (x.take k = y.take k) ∧ Hid (Below w.heap.size w wr)) (fun i _ => x.length - (intOf i).toNat)
    case atStart => exact ⟨0, by omega, rfl, Lib.hid rfl, Lib.hid (Below.refl _ _)⟩
    case round =>
      obtain ⟨k, hk, rfl, HT, HW⟩ := hrel
      by_cases hlt : k < x.length
      · have hk2 : k < y.length := by rw [← Hn.out]; exact hlt
        obtain ⟨b5, o5, h5, hix, hc⟩ := (H1.out.ext HW.out).at (P := Try.prog) Try.underlying79 cells103' (by kernel_rfl) hlt
        obtain ⟨b6, o6, h6, hix6, hc6⟩ := (H2.out.ext HW.out).at (P := Try.prog) Try.underlying79 cells103' (by kernel_rfl) hk2
        obtain ⟨s, hs⟩ : ∃ s, Hid (x[k] = s) := ⟨_, Lib.hid rfl⟩
        obtain ⟨t, ht⟩ : ∃ s, Hid (y[k] = s) := ⟨_, Lib.hid rfl⟩
        rw [hs.out] at hc
        rw [ht.out] at hc6
        have e0 : wr.cell? ⟨b5, o5, none⟩ = some (.int .i64 s.k) := hc 0 (by omega)
        have e1 : wr.cell? ⟨b5, o5 + 1, none⟩ = some (.int .i64 s.n) := hc 1 (by omega)
        have e2 : wr.cell? ⟨b5, o5 + 2, none⟩ = some (.string (bstr s.w)) := hc 2 (by omega)
        have g0 : wr.cell? ⟨b6, o6, none⟩ = some (.int .i64 t.k) := hc6 0 (by omega)
        have g1 : wr.cell? ⟨b6, o6 + 1, none⟩ = some (.int .i64 t.n) := hc6 1 (by omega)
        have g2 : wr.cell? ⟨b6, o6 + 2, none⟩ = some (.string (bstr t.w)) := hc6 2 (by omega)
        have hd : decide ((k : Int) < (x.length : Int)) = true := decide_eq_true (by omega)
        clear hc hc6 h5 h6
        by_cases hst : s = t
        · have hq : ∀ u : World, (binOp .neq 103 (.agg #[.int .i64 s.k, .int .i64 s.n, .string (bstr s.w)]) (.agg #[.int .i64 t.k, .int .i64 t.n, .string (bstr t.w)])).run Try.prog u = .ok (.bool false) u := fun u => by rw [neq103, decide_eq_true hst]; rfl
          have hg := fun (u : World) => guard103 (.tmp 19) (.tmp 23) #[.int .i64 s.k, .int .i64 s.n, .string (bstr s.w)] #[.int .i64 t.k, .int .i64 t.n, .string (bstr t.w)] u
          have HT2 : Hid (x.take (k + 1) = y.take (k + 1)) := Lib.hid (by rw [List.take_succ_eq_append_getElem hlt, List.take_succ_eq_append_getElem hk2, HT.out, hs.out, ht.out, hst])
          clear hst
          go_wp2_with fail
          go_quiet (fail)
          go_wp2_with fail
          go_roundw
          case rel => exact ⟨k + 1, by omega, by go_num, HT2, Lib.hid (below_drewN HW.out _)⟩
          case measure => simp [intOf]; omega
        · have hq : ∀ u : World, (binOp .neq 103 (.agg #[.int .i64 s.k, .int .i64 s.n, .string (bstr s.w)]) (.agg #[.int .i64 t.k, .int .i64 t.n, .string (bstr t.w)])).run Try.prog u = .ok (.bool true) u := fun u => by rw [neq103, decide_eq_false hst]; rfl
          have hg := fun (u : World) => guard103 (.tmp 19) (.tmp 23) #[.int .i64 s.k, .int .i64 s.n, .string (bstr s.w)] #[.int .i64 t.k, .int .i64 t.n, .string (bstr t.w)] u
          have HZ : Hid (decide (x = y) = false) := Lib.hid (decide_eq_false (fun e => hst (by rw [← hs.out, ← ht.out]; subst e; rfl)))
          clear hst
          go_wp2_with fail
          go_quiet (fail)
          go_wp2_with fail
          go_ret
          exact ⟨ret_bool HZ.out.symm, below_drewN HW.out _⟩
      · have hd : decide ((k : Int) < (x.length : Int)) = false := decide_eq_false (by omega)
        obtain rfl : k = x.length := by omega
        have HZ : Hid (decide (x = y) = true) := Lib.hid (decide_eq_true (by
          have h3 := HT.out
          rw [List.take_length, Hn.out, List.take_length] at h3
          exact h3))
        go_wp2_with fail
        go_ret
        exact ⟨ret_bool HZ.out.symm, HW.out⟩
  · have q3 : ((x.length : Int) != (y.length : Int)) = true := by rw [bne_iff_ne]; omega
    have HZ : Hid (decide (x = y) = false) := Lib.hid (decide_eq_false (fun e => hn (by rw [e])))
    clear hn
    go_enter Try.func81, Try.ntmps81
    go_wp2_with fail
    go_ret
    exact ⟨ret_bool HZ.out.symm, Below.refl _ _⟩
end Go.Proofs.Ytolahnnkdpbdfaa

namespace Go.Proofs.Ytolahnnkdpbdfaa
open Go.Proofs Go.RowKit Go.Shelf Go.Sl Go.Prs
theorem rv_eq (x y : Rv) : decide (x = y) = (decide (x.b = y.b) && decide (x.st = y.st)) := by
  cases x; cases y; simp
set_option maxRecDepth 100000 in
set_option maxHeartbeats 2000000 in
theorem revSame59 (x y : Rv) (v1 v2 : Value) (w : World) (h1 : Sl eSt 3 w v1 x.st) (h2 : Sl eSt 3 w v2 y.st) :
    Calls Try.prog 59 #[.agg #[.string (bstr x.b), v1], .agg #[.string (bstr y.b), v2]] w fun e w' => e = .returned (.bool (decide (x = y))) ∧ Below w.heap.size w w' := by
  have HE := Lib.hid (fun u (hu : Below w.heap.size w u) => equal81 x.st y.st v1 v2 u (h1.ext hu) (h2.ext hu))
  obtain ⟨a1, n1, c1, rfl⟩ := h1.isSlice
  obtain ⟨a2, n2, c2, rfl⟩ := h2.isSlice
  have HA : Hid (Below w.heap.size w ((w.alloc (.cells #[.string (bstr x.b), .slice a1 n1 c1] 81)).alloc (.cells #[.string (bstr y.b), .slice a2 n2 c2] 81))) := Lib.hid (((Below.refl _ w).alloc (Nat.le_refl _) _).alloc (by simp) _)
  have K1 := Lib.hid (heap_keep (p := .cells #[.string (bstr y.b), .slice a2 n2 c2] 81) (heap_alloc_new w (.cells #[.string (bstr x.b), .slice a1 n1 c1] 81)))
  have K2 : Hid (((w.alloc (.cells #[.string (bstr x.b), .slice a1 n1 c1] 81)).alloc (.cells #[.string (bstr y.b), .slice a2 n2 c2] 81)).heap[w.heap.size + 1]? = some (.cells #[.string (bstr y.b), .slice a2 n2 c2] 81 (0, 0))) := Lib.hid (by
    have := heap_alloc_new (w.alloc (.cells #[.string (bstr x.b), .slice a1 n1 c1] 81)) (.cells #[.string (bstr y.b), .slice a2 n2 c2] 81)
    simpa using this)
  obtain ⟨t, ht⟩ : ∃ t, Hid (decide (x.st = y.st) = t) := ⟨_, Lib.hid rfl⟩
  rw [ht.out] at HE
  clear h1 h2
  by_cases hb : x.b = y.b
  · have q1 : (x.b == y.b) = true := by rw [hb]; exact beq_self_eq_true _
    have HZ : Hid (decide (x = y) = t) := Lib.hid (by rw [rv_eq, decide_eq_true hb, ht.out]; rfl)
    clear hb
    go_enter Try.func59, Try.ntmps59
    go_wp2_with fail
    generalize (w.alloc (.cells #[.string (bstr x.b), .slice a1 n1 c1] 81)).alloc (.cells #[.string (bstr y.b), .slice a2 n2 c2] 81) = W at HA K1 K2 ⊢
    obtain ⟨_, k0, k1, _, _⟩ := two_cells K1.out
    obtain ⟨_, j0, j1, _, _⟩ := two_cells K2.out
    go_wp2_with fail
    refine (HE.out _ HA.out).mono ?_
    rintro e w1 ⟨rfl, hb⟩
    have HB := Lib.hid (HA.out.trans (hb.mono HA.out.size))
    clear hb
    go_wp2_with fail
    go_ret
    exact ⟨ret_bool HZ.out.symm, HB.out⟩
  · have q1 : (x.b == y.b) = false := beq_eq_false_iff_ne.2 hb
    have HZ : Hid (decide (x = y) = false) := Lib.hid (by rw [rv_eq, decide_eq_false hb]; rfl)
    clear hb
    go_enter Try.func59, Try.ntmps59
    go_wp2_with fail
    generalize (w.alloc (.cells #[.string (bstr x.b), .slice a1 n1 c1] 81)).alloc (.cells #[.string (bstr y.b), .slice a2 n2 c2] 81) = W at HA K1 K2 ⊢
    obtain ⟨_, k0, k1, _, _⟩ := two_cells K1.out
    obtain ⟨_, j0, j1, _, _⟩ := two_cells K2.out
    go_wp2_with fail
    go_ret
    exact ⟨ret_bool HZ.out.symm, HA.out⟩
theorem it_eq (x y : It) : decide (x = y) = (decide (x.k = y.k) && (decide (x.nt = y.nt) && (decide (x.a = y.a) && decide (x.b = y.b)))) := by
  cases x; cases y
  rw [Bool.eq_iff_iff]
  simp only [decide_eq_true_eq, Bool.and_eq_true, It.mk.injEq]
  constructor
  · rintro ⟨h1, h2, h3, h4⟩; exact ⟨h1, h4, h2, h3⟩
  · rintro ⟨h1, h4, h2, h3⟩; exact ⟨h1, h2, h3, h4⟩
set_option maxRecDepth 100000 in
set_option maxHeartbeats 4000000 in
theorem itSame58 (x y : It) (v1 v2 v3 v4 : Value) (w : World) (h1 : Sl eSt 3 w v1 x.a.st) (h2 : Sl eSt 3 w v2 x.b.st) (h3 : Sl eSt 3 w v3 y.a.st) (h4 : Sl eSt 3 w v4 y.b.st) :
    Calls Try.prog 58 #[.agg #[.int .i64 x.k, .string (bstr x.a.b), v1, .string (bstr x.b.b), v2, .bool x.nt], .agg #[.int .i64 y.k, .string (bstr y.a.b), v3, .string (bstr y.b.b), v4, .bool y.nt]] w fun e w' => e = .returned (.bool (decide (x = y))) ∧ Below w.heap.size w w' := by
  have HEa := Lib.hid (fun u (hu : Below w.heap.size w u) => revSame59 x.a y.a v1 v3 u (h1.ext hu) (h3.ext hu))
  have HEb := Lib.hid (fun u (hu : Below w.heap.size w u) => revSame59 x.b y.b v2 v4 u (h2.ext hu) (h4.ext hu))
  obtain ⟨a1, n1, c1, rfl⟩ := h1.isSlice
  obtain ⟨a2, n2, c2, rfl⟩ := h2.isSlice
  obtain ⟨a3, n3, c3, rfl⟩ := h3.isSlice
  obtain ⟨a4, n4, c4, rfl⟩ := h4.isSlice
  have HA : Hid (Below w.heap.size w ((w.alloc (.cells #[.int .i64 x.k, .string (bstr x.a.b), .slice a1 n1 c1, .string (bstr x.b.b), .slice a2 n2 c2, .bool x.nt] 83)).alloc (.cells #[.int .i64 y.k, .string (bstr y.a.b), .slice a3 n3 c3, .string (bstr y.b.b), .slice a4 n4 c4, .bool y.nt] 83))) := Lib.hid (((Below.refl _ w).alloc (Nat.le_refl _) _).alloc (by simp) _)
  have K1 := Lib.hid (heap_keep (p := .cells #[.int .i64 y.k, .string (bstr y.a.b), .slice a3 n3 c3, .string (bstr y.b.b), .slice a4 n4 c4, .bool y.nt] 83) (heap_alloc_new w (.cells #[.int .i64 x.k, .string (bstr x.a.b), .slice a1 n1 c1, .string (bstr x.b.b), .slice a2 n2 c2, .bool x.nt] 83)))
  have K2 : Hid (((w.alloc (.cells #[.int .i64 x.k, .string (bstr x.a.b), .slice a1 n1 c1, .string (bstr x.b.b), .slice a2 n2 c2, .bool x.nt] 83)).alloc (.cells #[.int .i64 y.k, .string (bstr y.a.b), .slice a3 n3 c3, .string (bstr y.b.b), .slice a4 n4 c4, .bool y.nt] 83)).heap[w.heap.size + 1]? = some (.cells #[.int .i64 y.k, .string (bstr y.a.b), .slice a3 n3 c3, .string (bstr y.b.b), .slice a4 n4 c4, .bool y.nt] 83 (0, 0))) := Lib.hid (by
    have := heap_alloc_new (w.alloc (.cells #[.int .i64 x.k, .string (bstr x.a.b), .slice a1 n1 c1, .string (bstr x.b.b), .slice a2 n2 c2, .bool x.nt] 83)) (.cells #[.int .i64 y.k, .string (bstr y.a.b), .slice a3 n3 c3, .string (bstr y.b.b), .slice a4 n4 c4, .bool y.nt] 83)
    simpa using this)
  obtain ⟨ta, hta⟩ : ∃ t, Hid (decide (x.a = y.a) = t) := ⟨_, Lib.hid rfl⟩
  obtain ⟨tb, htb⟩ : ∃ t, Hid (decide (x.b = y.b) = t) := ⟨_, Lib.hid rfl⟩
  rw [hta.out] at HEa
  rw [htb.out] at HEb
  have HZ : Hid (decide (x = y) = (decide (x.k = y.k) && (decide (x.nt = y.nt) && (ta && tb)))) := Lib.hid (by rw [it_eq, hta.out, htb.out])
  clear h1 h2 h3 h4 hta htb
  by_cases hk : x.k = y.k
  · have q1 : (x.k == y.k) = true := by rw [hk]; exact beq_self_eq_true _
    by_cases hn : x.nt = y.nt
    · have q2 : (x.nt == y.nt) = true := by rw [hn]; exact beq_self_eq_true _
      have HZ2 : Hid (decide (x = y) = (ta && tb)) := Lib.hid (by rw [HZ.out, decide_eq_true hk, decide_eq_true hn]; rfl)
      clear hk hn HZ
      go_enter Try.func58, Try.ntmps58
      go_wp2_with fail
      refine (HEa.out _ HA.out).mono ?_
      rintro e w1 ⟨rfl, hb⟩
      have HB := Lib.hid (HA.out.trans (hb.mono HA.out.size))
      obtain ⟨-, k0, k1, k2, k3, k4, k5⟩ := six_cells ((hb.block _ (Array.getElem?_eq_some_iff.1 K1.out).1).trans K1.out)
      obtain ⟨-, j0, j1, j2, j3, j4, j5⟩ := six_cells ((hb.block _ (Array.getElem?_eq_some_iff.1 K2.out).1).trans K2.out)
      clear hb K1 K2
      cases ta
      · go_wp2_with fail
        go_ret
        exact ⟨ret_bool HZ2.out.symm, HB.out⟩
      · go_wp2_with fail
        refine (HEb.out _ HB.out).mono ?_
        rintro e w2 ⟨rfl, hb⟩
        have HB2 := Lib.hid (HB.out.trans (hb.mono HB.out.size))
        clear hb
        go_wp2_with fail
        go_ret
        exact ⟨ret_bool HZ2.out.symm, HB2.out⟩
    · have q2 : (x.nt == y.nt) = false := beq_eq_false_iff_ne.2 hn
      have HZ2 : Hid (decide (x = y) = false) := Lib.hid (by rw [HZ.out, decide_eq_false hn]; simp)
      clear hk hn HZ
      go_enter Try.func58, Try.ntmps58
      go_wp2_with fail
      go_ret
      exact ⟨ret_bool HZ2.out.symm, HA.out⟩
  · have q1 : (x.k == y.k) = false := beq_eq_false_iff_ne.2 hk
    have HZ2 : Hid (decide (x = y) = false) := Lib.hid (by rw [HZ.out, decide_eq_false hk]; rfl)
    clear hk HZ
    go_enter Try.func58, Try.ntmps58
    go_wp2_with fail
    go_ret
    exact ⟨ret_bool HZ2.out.symm, HA.out⟩
end Go.Proofs.Ytolahnnkdpbdfaa

namespace Go.Proofs.Ytolahnnkdpbdfaa
open Go.Proofs Go.RowKit Go.Shelf Go.Sl Go.Prs
set_option maxRecDepth 100000 in
set_option maxHeartbeats 4000000 in
theorem eqf57 (its its2 : List It) (v1 v2 : Value) (w : World) (h1 : IS w v1 its) (h2 : IS w v2 its2) :
    Calls Try.prog 57 #[v1, v2, .func (.func 58) #[] #[]] w fun e w' => e = .returned (.bool (decide (its = its2))) ∧ Below w.heap.size w w' := by
  obtain ⟨rs, hsl, hra⟩ := h1
  obtain ⟨rs2, hsl2, hra2⟩ := h2
  have HS := Lib.hid hsl
  have HS2 := Lib.hid hsl2
  have hm1 := hsl.len_le
  have hm2 := hsl2.len_le
  have Hlen := Lib.hid (show rs.length = its.length from hra.len)
  have Hlen2 := Lib.hid (show rs2.length = its2.length from hra2.len)
  have HIt : Hid (∀ (k : Nat) (g1 : k < rs.length) (g2 : k < its.length) (g3 : k < rs2.length) (g4 : k < its2.length) (u : World), Below w.heap.size w u → Calls Try.prog 58 #[.agg #[.int .i64 rs[k].k, .string (bstr rs[k].ab), sv rs[k].av, .string (bstr rs[k].bb), sv rs[k].bv, .bool rs[k].nt], .agg #[.int .i64 rs2[k].k, .string (bstr rs2[k].ab), sv rs2[k].av, .string (bstr rs2[k].bb), sv rs2[k].bv, .bool rs2[k].nt]] u fun e w' => e = .returned (.bool (decide (its[k] = its2[k]))) ∧ Below u.heap.size u w') := Lib.hid (by
    intro k g1 g2 g3 g4 u hu
    have hr := hra.get k g1 g2
    have hr2 := hra2.get k g3 g4
    have := itSame58 its[k] its2[k] (sv rs[k].av) (sv rs[k].bv) (sv rs2[k].av) (sv rs2[k].bv) u (hr.av.ext hu) (hr.bv.ext hu) (hr2.av.ext hu) (hr2.bv.ext hu)
    rw [hr.k, hr.ab, hr.bb, hr.nt, hr2.k, hr2.ab, hr2.bb, hr2.nt]
    exact this)
  obtain ⟨ao, cap, rfl, -⟩ := hsl.shp
  obtain ⟨bo, cap2, rfl, -⟩ := hsl2.shp
  clear hsl hsl2 hra hra2
  by_cases hn : rs.length = rs2.length
  · have q3 : ((rs.length : Int) != (rs2.length : Int)) = false := by rw [hn]; exact bne_self_eq_false _
    have Hn := Lib.hid hn
    clear hn
    go_enter Try.func57, Try.ntmps57
    go_wp2_with fail
    go_loopw [17] (fun i wr => ∃ k : Nat, k ≤ rs.length ∧ i = .int .i64 k ∧ Hid (its.take k = its2.take k) ∧ Hid (Below w.heap.size w wr)) (fun i _ => rs.length - (intOf i).toNat)
    case atStart => exact ⟨0, by omega, rfl, Lib.hid rfl, Lib.hid (Below.refl _ _)⟩
    case round =>
      obtain ⟨k, hk, rfl, HT, HW⟩ := hrel
      by_cases hlt : k < rs.length
      · have hlt2 : k < rs2.length := by rw [← Hn.out]; exact hlt
        have hl1 : k < its.length := by rw [← Hlen.out]; exact hlt
        have hl2 : k < its2.length := by rw [← Hlen2.out]; exact hlt2
        obtain ⟨b5, o5, h5, hix, hc⟩ := (HS.out.ext HW.out).at (P := Try.prog) Try.underlying45 cells83 some83 hlt
        obtain ⟨b6, o6, h6, hix6, hc6⟩ := (HS2.out.ext HW.out).at (P := Try.prog) Try.underlying45 cells83 some83 hlt2
        have c0 := hc 0 (by omega)
        have c1 := hc 1 (by omega)
        have c2 := hc 2 (by omega)
        have c3 := hc 3 (by omega)
        have c4 := hc 4 (by omega)
        have c5 := hc 5 (by omega)
        have g0 := hc6 0 (by omega)
        have g1 := hc6 1 (by omega)
        have g2 := hc6 2 (by omega)
        have g3 := hc6 3 (by omega)
        have g4 := hc6 4 (by omega)
        have g5 := hc6 5 (by omega)
        simp only [eRi, List.getElem?_cons_zero, List.getElem?_cons_succ, Nat.add_zero] at c0 c1 c2 c3 c4 c5 g0 g1 g2 g3 g4 g5
        have hN := Lib.hid (HIt.out k hlt hl1 hlt2 hl2)
        have hd : decide ((k : Int) < (rs.length : Int)) = true := decide_eq_true (by omega)
        obtain ⟨x, hx⟩ : ∃ x, Hid (rs[k] = x) := ⟨_, Lib.hid rfl⟩
        obtain ⟨y, hy⟩ : ∃ x, Hid (rs2[k] = x) := ⟨_, Lib.hid rfl⟩
        rw [hx.out] at c0 c1 c2 c3 c4 c5 hN
        rw [hy.out] at g0 g1 g2 g3 g4 g5 hN
        unfold sv at c2 c4 g2 g4 hN
        have G0 := fun o : Obj => (World.cell?_alloc_lt wr o ⟨b6, o6, none⟩ h6).trans g0
        have G1 := fun o : Obj => (World.cell?_alloc_lt wr o ⟨b6, o6 + 1, none⟩ h6).trans g1
        have G2 := fun o : Obj => (World.cell?_alloc_lt wr o ⟨b6, o6 + 2, none⟩ h6).trans g2
        have G3 := fun o : Obj => (World.cell?_alloc_lt wr o ⟨b6, o6 + 3, none⟩ h6).trans g3
        have G4 := fun o : Obj => (World.cell?_alloc_lt wr o ⟨b6, o6 + 4, none⟩ h6).trans g4
        have G5 := fun o : Obj => (World.cell?_alloc_lt wr o ⟨b6, o6 + 5, none⟩ h6).trans g5
        have HBo := Lib.hid ((HW.out.alloc HW.out.size (.cells #[.int .i64 x.k, .string (bstr x.ab), .slice x.av.1 x.av.2.1 x.av.2.2, .string (bstr x.bb), .slice x.bv.1 x.bv.2.1 x.bv.2.2, .bool x.nt] 83)).alloc (by have := HW.out.size; simp; omega) (.cells #[.int .i64 y.k, .string (bstr y.ab), .slice y.av.1 y.av.2.1 y.av.2.2, .string (bstr y.bb), .slice y.bv.1 y.bv.2.1 y.bv.2.2, .bool y.nt] 83))
        clear hc hc6
        go_wp2_with fail
        refine (hN.out _ HBo.out).mono ?_
        rintro e w1 ⟨rfl, hb⟩
        have HB2 := Lib.hid (HBo.out.trans (hb.mono HBo.out.size))
        clear hb
        by_cases hq : its[k] = its2[k]
        · have HT2 : Hid (its.take (k + 1) = its2.take (k + 1)) := Lib.hid (by rw [List.take_succ_eq_append_getElem hl1, List.take_succ_eq_append_getElem hl2, HT.out, hq])
          rw [decide_eq_true hq]
          clear hq
          go_wp2_with fail
          go_roundw
          case rel => exact ⟨k + 1, by omega, by go_num, HT2, HB2⟩
          case measure => simp [intOf]; omega
        · have HZ : Hid (decide (its = its2) = false) := Lib.hid (decide_eq_false (fun e => hq (by subst e; rfl)))
          rw [decide_eq_false hq]
          clear hq
          go_wp2_with fail
          go_ret
          exact ⟨ret_bool HZ.out.symm, HB2.out⟩
      · have hd : decide ((k : Int) < (rs.length : Int)) = false := decide_eq_false (by omega)
        obtain rfl : k = rs.length := by omega
        have HZ : Hid (decide (its = its2) = true) := Lib.hid (decide_eq_true (by
          have h3 := HT.out
          rw [Hlen.out, List.take_length] at h3
          rw [← Hlen.out, Hn.out, Hlen2.out, List.take_length] at h3
          exact h3))
        go_wp2_with fail
        go_ret
        exact ⟨ret_bool HZ.out.symm, HW.out⟩
  · have q3 : ((rs.length : Int) != (rs2.length : Int)) = true := by rw [bne_iff_ne]; omega
    have HZ : Hid (decide (its = its2) = false) := Lib.hid (decide_eq_false (fun e => hn (by rw [Hlen.out, Hlen2.out, e])))
    clear hn
    go_enter Try.func57, Try.ntmps57
    go_wp2_with fail
    go_ret
    exact ⟨ret_bool HZ.out.symm, Below.refl _ _⟩
theorem qy_eq (q q2 : Qy) : decide (q = q2) = (decide (q.mx = q2.mx ∧ q.sk = q2.sk ∧ q.od = q2.od ∧ q.fi = q2.fi ∧ q.rv = q2.rv) && decide (q.its = q2.its)) := by
  cases q; cases q2
  rw [Bool.eq_iff_iff]
  simp only [decide_eq_true_eq, Bool.and_eq_true, Qy.mk.injEq]
  constructor
  · rintro ⟨h1, h2, h3, h4, h5, h6⟩; exact ⟨⟨h2, h3, h4, h5, h6⟩, h1⟩
  · rintro ⟨⟨h2, h3, h4, h5, h6⟩, h1⟩; exact ⟨h1, h2, h3, h4, h5, h6⟩
set_option maxRecDepth 100000 in
set_option maxHeartbeats 4000000 in
theorem psame_any (iv iv2 : Value) (q q2 : Qy) (w : World) (h1 : IS w iv q.its) (h2 : IS w iv2 q2.its) :
    Calls Try.prog 32 #[qv iv q, qv iv2 q2] w fun e w' => e = .returned (.bool (decide (q = q2))) ∧ Below w.heap.size w w' := by
  have HE := Lib.hid (fun u (hu : Below w.heap.size w u) => eqf57 q.its q2.its iv iv2 u (h1.ext hu) (h2.ext hu))
  obtain ⟨a1, n1, c1, rfl⟩ := h1.isSlice
  obtain ⟨a2, n2, c2, rfl⟩ := h2.isSlice
  have HA : Hid (Below w.heap.size w ((w.alloc (.cells #[.slice a1 n1 c1, .int .i64 q.mx, .int .i64 q.sk, .int .i64 q.od, .bool q.fi, .bool q.rv] 47)).alloc (.cells #[.slice a2 n2 c2, .int .i64 q2.mx, .int .i64 q2.sk, .int .i64 q2.od, .bool q2.fi, .bool q2.rv] 47))) := Lib.hid (((Below.refl _ w).alloc (Nat.le_refl _) _).alloc (by simp) _)
  obtain ⟨t, ht⟩ : ∃ t, Hid (decide (q.its = q2.its) = t) := ⟨_, Lib.hid rfl⟩
  rw [ht.out] at HE
  have HZ := Lib.hid (qy_eq q q2)
  rw [ht.out] at HZ
  clear h1 h2 ht
  unfold qv
  have HA2 := Lib.hid (fun o1 o2 : Obj => ((Below.refl w.heap.size w).alloc (Nat.le_refl _) o1).alloc (by simp) o2)
  clear HA
  go_enter Try.func32, Try.ntmps32
  go_wp2_with fail
  all_goals first
    | (go_ret
       refine ⟨ret_bool (decide_eq_false (fun e => ?_)).symm, HA2.out _ _⟩
       clear HE HA2 HZ
       subst e
       first
         | contradiction
         | (exfalso; have h := ‹(!q.rv == q.rv) = true›; revert h; cases q.rv <;> simp))
    | (refine (HE.out _ (HA2.out _ _)).mono ?_
       rintro e w1 ⟨rfl, hb⟩
       have HB := Lib.hid ((HA2.out _ _).trans (hb.mono (HA2.out _ _).size))
       clear hb
       have HZ2 : Hid (decide (q = q2) = t) := Lib.hid (by
         have h5 : q.rv = q2.rv := by
           have h := ‹(!q.rv == q2.rv) = false›
           revert h; cases q.rv <;> cases q2.rv <;> simp
         rw [HZ.out, decide_eq_true ⟨by assumption, by assumption, by assumption, by assumption, h5⟩]; rfl)
       go_wp2_with fail
       go_ret
       exact ⟨ret_bool HZ2.out.symm, HB.out⟩)
end Go.Proofs.Ytolahnnkdpbdfaa

namespace Go.Prs
theorem print_two {q : Qy} (h : okQy q = true) : (print q = ([], 3)) ∨ (print q = ((qyT q).tail, 0) ∧ (qyT q).length ≤ 201) := by
  unfold print
  rw [if_pos h]
  by_cases hl : 201 < (qyT q).length
  · rw [if_pos hl]; exact .inl rfl
  · rw [if_neg hl]; exact .inr ⟨rfl, by omega⟩
end Go.Prs
namespace Go.Proofs.Ytolahnnkdpbdfaa
open Go.Proofs Go.RowKit Go.Shelf Go.Sl Go.Prs
set_option maxRecDepth 100000 in
set_option maxHeartbeats 8000000 in
theorem parseSame_any (s : List UInt8) (w : World) (hm : Ml w) : Calls Try.prog 11 #[.string (bstr s)] w fun e w' => e = .returned (.bool true) ∧ Below w.heap.size w w' := by
  have HM := Lib.hid hm
  have HW := Lib.hid (fun u (hu : Below w.heap.size w u) => works28_any u (HM.out.ext hu))
  clear hm
  by_cases hlong : 400 < s.length
  · have hl : decide ((400 : Int) < (s.length : Int)) = true := decide_eq_true (by omega)
    go_enter Try.func11, Try.ntmps11
    go_wp2_with fail
    refine (HW.out _ (Below.refl _ _)).mono ?_
    rintro e w1 ⟨rfl, hb⟩
    go_wp2_with fail
    go_ret
    exact ⟨rfl, hb⟩
  · have hl : decide ((400 : Int) < (s.length : Int)) = false := decide_eq_false (by omega)
    have HP := Lib.hid (parse1_any s w (by omega) HM.out)
    obtain ⟨⟨q, p, c⟩, ho⟩ : ∃ o, Prs.parse s = o := ⟨_, rfl⟩
    have HG : Hid (c = 0 → okQy q = true ∧ Lg q) := Lib.hid (fun h => parse_good (by rw [ho, h]))
    rw [ho] at HP
    clear hlong ho
    go_enter Try.func11, Try.ntmps11
    go_wp2_with fail
    refine HP.out.mono ?_
    rintro e w1 ⟨hb, iv, rfl, hq⟩
    have HQ := Lib.hid hq.is
    have HB := Lib.hid hb
    obtain ⟨a0, n0, c0, rfl⟩ := hq.isSlice
    clear HP hb hq
    by_cases hc : c = 0
    · subst hc
      obtain ⟨hok, hlg⟩ := HG.out rfl
      clear HG
      have HPr := Lib.hid (fun u (hu : Below w1.heap.size w1 u) => print_any (.slice a0 n0 c0) q u (HQ.out.ext hu) hlg)
      have hz : ckN q = 0 := by unfold ckN; rw [if_pos hok]
      have HCk := Lib.hid (fun u (hu : Below w1.heap.size w1 u) => check_any (.slice a0 n0 c0) q u (HQ.out.ext hu) (lg_sms hlg))
      rw [hz] at HCk
      have HWB : Hid (∀ u, Below w1.heap.size w1 u → Below w.heap.size w u) := Lib.hid (fun u hu => HB.out.trans (hu.mono HB.out.size))
      have HA := Lib.hid ((Below.refl w1.heap.size w1).alloc (Nat.le_refl _) (.cells #[.slice a0 n0 c0, .int .i64 q.mx, .int .i64 q.sk, .int .i64 q.od, .bool q.fi, .bool q.rv] 47))
      have HK := Lib.hid (heap_alloc_new w1 (.cells #[.slice a0 n0 c0, .int .i64 q.mx, .int .i64 q.sk, .int .i64 q.od, .bool q.fi, .bool q.rv] 47))
      have hsz : w1.heap.size < (w1.alloc (.cells #[.slice a0 n0 c0, .int .i64 q.mx, .int .i64 q.sk, .int .i64 q.od, .bool q.fi, .bool q.rv] 47)).heap.size := by simp
      clear hz
      rcases print_two hok with h3 | ⟨h0, hl201⟩
      · rw [h3] at HPr
        clear h3
        unfold qv at *
        dsimp only at HPr ⊢
        go_wp2_with fail
        generalize w1.alloc (.cells #[.slice a0 n0 c0, .int .i64 q.mx, .int .i64 q.sk, .int .i64 q.od, .bool q.fi, .bool q.rv] 47) = W at HA HK hsz ⊢
        have HKu := Lib.hid (fun u (hu : Below W.heap.size W u) => (hu.block _ hsz).trans HK.out)
        clear hsz
        refine (HPr.out _ HA.out).mono ?_
        rintro e w2 ⟨rfl, hb2⟩
        have HC2 := Lib.hid hb2
        have HB2 := Lib.hid (HA.out.trans (hb2.mono HA.out.size))
        obtain ⟨_, k0, k1, k2, k3, k4, k5⟩ := six_cells (HKu.out _ HC2.out)
        clear hb2
        go_wp2_with fail
        refine (HCk.out _ HB2.out).mono ?_
        rintro e w3 ⟨rfl, hb⟩
        have HC3 := Lib.hid (HC2.out.trans (hb.mono HC2.out.size))
        have HB3 := Lib.hid (HB2.out.trans (hb.mono HB2.out.size))
        clear hb k0 k1 k2 k3 k4 k5
        obtain ⟨_, k0, k1, k2, k3, k4, k5⟩ := six_cells (HKu.out _ HC3.out)
        go_wp2_with fail
        refine (HCk.out _ HB3.out).mono ?_
        rintro e w4 ⟨rfl, hb⟩
        have HC4 := Lib.hid (HC3.out.trans (hb.mono HC3.out.size))
        have HB4 := Lib.hid (HB3.out.trans (hb.mono HB3.out.size))
        clear hb k0 k1 k2 k3 k4 k5
        obtain ⟨_, k0, k1, k2, k3, k4, k5⟩ := six_cells (HKu.out _ HC4.out)
        go_wp2_with fail
        refine (HW.out _ (HWB.out _ HB4.out)).mono ?_
        rintro e w9 ⟨rfl, hb⟩
        have HB9 := Lib.hid ((HWB.out _ HB4.out).trans (hb.mono (HWB.out _ HB4.out).size))
        clear hb
        go_wp2_with fail
        go_ret
        exact ⟨rfl, HB9.out⟩
      · rw [h0] at HPr
        have HBk := Lib.hid (print_back hok hl201)
        obtain ⟨T, hT⟩ : ∃ T, Hid ((qyT q).tail = T) := ⟨_, Lib.hid rfl⟩
        rw [hT.out] at HPr HBk
        have hTl : T.length ≤ 200 := by rw [← hT.out, List.length_tail]; omega
        have HP2 := Lib.hid (fun u (hu : Below w1.heap.size w1 u) => parse1_any T u (by omega) (HM.out.ext (HWB.out _ hu)))
        clear h0 hl201 hok
        unfold qv at *
        dsimp only at HPr ⊢
        go_wp2_with fail
        generalize w1.alloc (.cells #[.slice a0 n0 c0, .int .i64 q.mx, .int .i64 q.sk, .int .i64 q.od, .bool q.fi, .bool q.rv] 47) = W at HA HK hsz ⊢
        have HKu := Lib.hid (fun u (hu : Below W.heap.size W u) => (hu.block _ hsz).trans HK.out)
        clear hsz
        refine (HPr.out _ HA.out).mono ?_
        rintro e w2 ⟨rfl, hb2⟩
        have HC2 := Lib.hid hb2
        have HB2 := Lib.hid (HA.out.trans (hb2.mono HA.out.size))
        obtain ⟨_, k0, k1, k2, k3, k4, k5⟩ := six_cells (HKu.out _ HC2.out)
        clear hb2
        go_wp2_with fail
        refine (HCk.out _ HB2.out).mono ?_
        rintro e w3 ⟨rfl, hb⟩
        have HC3 := Lib.hid (HC2.out.trans (hb.mono HC2.out.size))
        have HB3 := Lib.hid (HB2.out.trans (hb.mono HB2.out.size))
        clear hb k0 k1 k2 k3 k4 k5
        obtain ⟨_, k0, k1, k2, k3, k4, k5⟩ := six_cells (HKu.out _ HC3.out)
        go_wp2_with fail
        rcases HBk.out with hback | ⟨p2, htk⟩
        · rw [hback] at HP2
          clear hback
          refine (HP2.out _ HB3.out).mono ?_
          rintro e w4 ⟨hb, iv4, rfl, hq4⟩
          have HQ4 := Lib.hid hq4.is
          obtain ⟨a4, n4, c4, rfl⟩ := hq4.isSlice
          have HC4 := Lib.hid (HC3.out.trans (hb.mono HC3.out.size))
          have HB4 := Lib.hid (HB3.out.trans (hb.mono HB3.out.size))
          clear hb hq4 k0 k1 k2 k3 k4 k5
          unfold qv
          dsimp only
          obtain ⟨_, k0, k1, k2, k3, k4, k5⟩ := six_cells (HKu.out _ HC4.out)
          have HBo := Lib.hid (fun o => HB4.out.alloc HB4.out.size o)
          have HCo := Lib.hid (fun o => HC4.out.alloc HC4.out.size o)
          have HR := Lib.hid (heap_alloc_new w4 (.cells #[.slice a4 n4 c4, .int .i64 q.mx, .int .i64 q.sk, .int .i64 q.od, .bool q.fi, .bool q.rv] 47))
          have HSm : Hid (∀ u, IS u (.slice a0 n0 c0) q.its → IS u (.slice a4 n4 c4) q.its → Calls Try.prog 32 #[.agg #[.slice a0 n0 c0, .int .i64 q.mx, .int .i64 q.sk, .int .i64 q.od, .bool q.fi, .bool q.rv], .agg #[.slice a4 n4 c4, .int .i64 q.mx, .int .i64 q.sk, .int .i64 q.od, .bool q.fi, .bool q.rv]] u fun e w' => e = .returned (.bool true) ∧ Below u.heap.size u w') :=
            Lib.hid (fun u h1 h2 => (psame_any (.slice a0 n0 c0) (.slice a4 n4 c4) q q u h1 h2).mono (fun e w' ⟨he, hb⟩ => ⟨by rw [he, decide_eq_true rfl], hb⟩))
          go_wp2_with fail
          refine (HSm.out _ (HQ.out.ext (HBo.out _)) (HQ4.out.ext ((Below.refl _ _).alloc (Nat.le_refl _) _))).mono ?_
          rintro e w5 ⟨rfl, hb⟩
          have HB5 := Lib.hid ((HBo.out _).trans (hb.mono (HBo.out _).size))
          clear hb
          go_wp2_with fail
          refine (HW.out _ (HWB.out _ HB5.out)).mono ?_
          rintro e w9 ⟨rfl, hb⟩
          have HB9 := Lib.hid ((HWB.out _ HB5.out).trans (hb.mono (HWB.out _ HB5.out).size))
          clear hb
          go_wp2_with fail
          go_ret
          exact ⟨rfl, HB9.out⟩
        · have hpt := parse_tok htk
          rw [hpt] at HP2
          have HTk := Lib.hid (fun u => rtokens_any T u (by omega))
          rw [← both_tokens, htk] at HTk
          clear hpt htk
          refine (HP2.out _ HB3.out).mono ?_
          rintro e w4 ⟨hb, iv4, rfl, hq4⟩
          obtain ⟨a4, n4, c4, rfl⟩ := hq4.isSlice
          have HB4 := Lib.hid (HB3.out.trans (hb.mono HB3.out.size))
          clear hb hq4 k0 k1 k2 k3 k4 k5
          unfold qv zQy
          dsimp only
          have HBo := Lib.hid (fun o => HB4.out.alloc HB4.out.size o)
          go_wp2_with fail
          refine (HTk.out _).mono ?_
          rintro e w5 ⟨hb, rfl⟩
          have HB5 := Lib.hid ((HBo.out _).trans (hb.mono (HBo.out _).size))
          clear hb
          go_wp2_with fail
          refine (HW.out _ (HWB.out _ HB5.out)).mono ?_
          rintro e w9 ⟨rfl, hb⟩
          have HB9 := Lib.hid ((HWB.out _ HB5.out).trans (hb.mono (HWB.out _ HB5.out).size))
          clear hb
          go_wp2_with fail
          go_ret
          exact ⟨rfl, HB9.out⟩
    · have hcb : ((c : Int) != 0) = true := by rw [bne_iff_ne]; omega
      clear hc HG
      unfold qv
      dsimp only
      have HBo := Lib.hid (fun o => HB.out.alloc HB.out.size o)
      go_wp2_with fail
      refine (HW.out _ (HBo.out _)).mono ?_
      rintro e w5 ⟨rfl, hb5⟩
      have HB5 := Lib.hid ((HBo.out _).trans (hb5.mono (HBo.out _).size))
      clear hb5
      go_wp2_with fail
      go_ret
      exact ⟨rfl, HB5.out⟩
end Go.Proofs.Ytolahnnkdpbdfaa

namespace Go.Proofs.Ytolahnnkdpbdfaa
open Go.Proofs Go.RowKit Go.Shelf Go.Sl Go.Prs
end Go.Proofs.Ytolahnnkdpbdfaa
namespace Go.Prs
theorem print_all (q : Qy) : (∃ e : Nat, e ≠ 0 ∧ print q = ([], e)) ∨ (okQy q = true ∧ (qyT q).length ≤ 201 ∧ print q = ((qyT q).tail, 0)) := by
  cases h : okQy q
  · left; refine ⟨2, by decide, ?_⟩; unfold print; rw [if_neg (by simp [h])]
  · rcases print_two h with h3 | ⟨h0, hl⟩
    · exact .inl ⟨3, by decide, h3⟩
    · exact .inr ⟨rfl, hl, h0⟩
end Go.Prs
namespace Go.Proofs.Ytolahnnkdpbdfaa
open Go.Proofs Go.RowKit Go.Shelf Go.Sl Go.Prs
set_option maxRecDepth 100000 in
set_option maxHeartbeats 8000000 in
theorem parseBack_any (iv iv2 : Value) (q o : Qy) (w : World) (h1 : IS w iv q.its) (h2 : IS w iv2 o.its) (hm : Ml w) : Calls Try.prog 10 #[qv iv q, qv iv2 o] w fun e w' => e = .returned (.bool true) ∧ Below w.heap.size w w' := by
  have HM := Lib.hid hm
  have HI := Lib.hid h1
  have HJ := Lib.hid h2
  have HW := Lib.hid (fun u (hu : Below w.heap.size w u) => works28_any u (HM.out.ext hu))
  have HLq := Lib.hid (fun u (hu : Below w.heap.size w u) => large_any iv q u (h1.ext hu))
  have HLo := Lib.hid (fun u (hu : Below w.heap.size w u) => large_any iv2 o u (h2.ext hu))
  obtain ⟨a0, n0, c0, rfl⟩ := h1.isSlice
  obtain ⟨a1, n1, c1, rfl⟩ := h2.isSlice
  have HA := Lib.hid (((Below.refl w.heap.size w).alloc (Nat.le_refl _) (.cells #[.slice a0 n0 c0, .int .i64 q.mx, .int .i64 q.sk, .int .i64 q.od, .bool q.fi, .bool q.rv] 47)).alloc (by simp) (.cells #[.slice a1 n1 c1, .int .i64 o.mx, .int .i64 o.sk, .int .i64 o.od, .bool o.fi, .bool o.rv] 47))
  have HK := Lib.hid (heap_keep (p := .cells #[.slice a1 n1 c1, .int .i64 o.mx, .int .i64 o.sk, .int .i64 o.od, .bool o.fi, .bool o.rv] 47) (heap_alloc_new w (.cells #[.slice a0 n0 c0, .int .i64 q.mx, .int .i64 q.sk, .int .i64 q.od, .bool q.fi, .bool q.rv] 47)))
  have HK2 : Hid (((w.alloc (.cells #[.slice a0 n0 c0, .int .i64 q.mx, .int .i64 q.sk, .int .i64 q.od, .bool q.fi, .bool q.rv] 47)).alloc (.cells #[.slice a1 n1 c1, .int .i64 o.mx, .int .i64 o.sk, .int .i64 o.od, .bool o.fi, .bool o.rv] 47)).heap[w.heap.size + 1]? = some (.cells #[.slice a1 n1 c1, .int .i64 o.mx, .int .i64 o.sk, .int .i64 o.od, .bool o.fi, .bool o.rv] 47 (0, 0))) := Lib.hid (by
    have := heap_alloc_new (w.alloc (.cells #[.slice a0 n0 c0, .int .i64 q.mx, .int .i64 q.sk, .int .i64 q.od, .bool q.fi, .bool q.rv] 47)) (.cells #[.slice a1 n1 c1, .int .i64 o.mx, .int .i64 o.sk, .int .i64 o.od, .bool o.fi, .bool o.rv] 47)
    simpa using this)
  clear hm h1 h2
  cases hbq : bigQ q
  · cases hbo : bigQ o
    · have hlq := small_lg hbq
      have hlo := small_lg hbo
      rw [hbq] at HLq
      rw [hbo] at HLo
      have HSp : Hid (∀ u, Below w.heap.size w u → Calls Try.prog 32 #[qv (.slice a0 n0 c0) q, qv (.slice a1 n1 c1) o] u fun e w' => e = .returned (.bool (decide (q = o))) ∧ Below u.heap.size u w') := Lib.hid (fun u hu => psame_any _ _ q o u (HI.out.ext hu) (HJ.out.ext hu))
      have HSq : Hid (∀ u, Below w.heap.size w u → Calls Try.prog 32 #[qv (.slice a0 n0 c0) q, qv (.slice a0 n0 c0) q] u fun e w' => e = .returned (.bool true) ∧ Below u.heap.size u w') := Lib.hid (fun u hu => (psame_any _ _ q q u (HI.out.ext hu) (HI.out.ext hu)).mono (fun e w' ⟨he, hb⟩ => ⟨by rw [he, decide_eq_true rfl], hb⟩))
      have HPq := Lib.hid (fun u (hu : Below w.heap.size w u) => plain_any (.slice a0 n0 c0) q u (HI.out.ext hu) (lg_few hlq))
      have HPo := Lib.hid (fun u (hu : Below w.heap.size w u) => plain_any (.slice a1 n1 c1) o u (HJ.out.ext hu) (lg_few hlo))
      have HSd := Lib.hid (fun u v1 v2 (g1 : IS u v1 q.its) (g2 : IS u v2 o.its) => dsame_any v1 v2 q o u g1 g2)
      have HPr := Lib.hid (fun u (hu : Below w.heap.size w u) => print_any (.slice a0 n0 c0) q u (HI.out.ext hu) hlq)
      obtain ⟨tt, htt⟩ : ∃ t, decide (q = o) = t := ⟨_, rfl⟩
      rw [htt] at HSp HSd
      have hbb : (tt != tt) = false := by cases tt <;> rfl
      clear htt
      unfold qv at *
      go_enter Try.func10, Try.ntmps10
      go_wp2_with fail
      generalize ((w.alloc (.cells #[.slice a0 n0 c0, .int .i64 q.mx, .int .i64 q.sk, .int .i64 q.od, .bool q.fi, .bool q.rv] 47)).alloc (.cells #[.slice a1 n1 c1, .int .i64 o.mx, .int .i64 o.sk, .int .i64 o.od, .bool o.fi, .bool o.rv] 47)) = W at HA HK HK2 ⊢
      have HU1 := Lib.hid (fun u (hu : Below W.heap.size W u) => (hu.block _ (Array.getElem?_eq_some_iff.1 HK.out).1).trans HK.out)
      have HU2 := Lib.hid (fun u (hu : Below W.heap.size W u) => (hu.block _ (Array.getElem?_eq_some_iff.1 HK2.out).1).trans HK2.out)
      clear HK HK2
      refine (HLq.out _ HA.out).mono ?_
      rintro e w1 ⟨rfl, hb⟩
      have HC1 := Lib.hid hb
      have HB1 := Lib.hid (HA.out.trans (HC1.out.mono HA.out.size))
      clear hb
      obtain ⟨-, k0, k1, k2, k3, k4, k5⟩ := six_cells (HU1.out _ HC1.out)
      obtain ⟨-, j0, j1, j2, j3, j4, j5⟩ := six_cells (HU2.out _ HC1.out)
      go_wp2_with fail
      refine (HLo.out _ HB1.out).mono ?_
      rintro e w2 ⟨rfl, hb⟩
      have HC2 := Lib.hid (HC1.out.trans (hb.mono HC1.out.size))
      have HB2 := Lib.hid (HA.out.trans (HC2.out.mono HA.out.size))
      clear hb
      clear k0 k1 k2 k3 k4 k5 j0 j1 j2 j3 j4 j5
      obtain ⟨-, k0, k1, k2, k3, k4, k5⟩ := six_cells (HU1.out _ HC2.out)
      obtain ⟨-, j0, j1, j2, j3, j4, j5⟩ := six_cells (HU2.out _ HC2.out)
      go_upto_region 3 with fail
      go_cut [34] (fun s wx => s = .bool false ∧ Hid (Below W.heap.size W wx))
      case first =>
        refine wp_region_held_drew (S := fun u => Below W.heap.size W u) (by kernel_rfl) HC2.out.drew (fun hHeld => ?_)
        clear k0 k1 k2 k3 k4 k5 j0 j1 j2 j3 j4 j5
        refine wpAnyH_take (i := 0) (oi := { dst := some 20, op := Op.load 47 (Operand.tmp 2), type := 47, pos := "law.go:92", after := #[], guard := none }) (v := ?_) rfl (by kernel_rfl) (by kernel_rfl) (by kernel_rfl) (fun _ _ _ h => h) (Or.inl ⟨by rfl, ?_⟩) (by assumption) ?_
        rotate_left
        · intro u hSu; obtain ⟨-, z0, z1, z2, z3, z4, z5⟩ := six_cells (HU1.out _ hSu); obtain ⟨-, y0, y1, y2, y3, y4, y5⟩ := six_cells (HU2.out _ hSu); (go_simp <;> with_reducible rfl)
        try simp only [Act.put, List.setIfInBounds_toArray, List.set_cons_zero, List.set_cons_succ]
        refine wpAnyH_take (i := 1) (oi := { dst := some 21, op := Op.load 47 (Operand.tmp 3), type := 47, pos := "law.go:92", after := #[], guard := none }) (v := ?_) rfl (by kernel_rfl) (by kernel_rfl) (by kernel_rfl) (fun _ _ _ h => h) (Or.inl ⟨by rfl, ?_⟩) (by assumption) ?_
        rotate_left
        · intro u hSu; obtain ⟨-, z0, z1, z2, z3, z4, z5⟩ := six_cells (HU1.out _ hSu); obtain ⟨-, y0, y1, y2, y3, y4, y5⟩ := six_cells (HU2.out _ hSu); (go_simp <;> with_reducible rfl)
        try simp only [Act.put, List.setIfInBounds_toArray, List.set_cons_zero, List.set_cons_succ]
        refine wpAnyH_take (i := 3) (oi := { dst := some 23, op := Op.load 47 (Operand.tmp 2), type := 47, pos := "law.go:92", after := #[], guard := none }) (v := ?_) rfl (by kernel_rfl) (by kernel_rfl) (by kernel_rfl) (fun _ _ _ h => h) (Or.inl ⟨by rfl, ?_⟩) (by assumption) ?_
        rotate_left
        · intro u hSu; obtain ⟨-, z0, z1, z2, z3, z4, z5⟩ := six_cells (HU1.out _ hSu); obtain ⟨-, y0, y1, y2, y3, y4, y5⟩ := six_cells (HU2.out _ hSu); (go_simp <;> with_reducible rfl)
        try simp only [Act.put, List.setIfInBounds_toArray, List.set_cons_zero, List.set_cons_succ]
        refine wpAnyH_take (i := 5) (oi := { dst := some 25, op := Op.load 47 (Operand.tmp 3), type := 47, pos := "law.go:92", after := #[], guard := none }) (v := ?_) rfl (by kernel_rfl) (by kernel_rfl) (by kernel_rfl) (fun _ _ _ h => h) (Or.inl ⟨by rfl, ?_⟩) (by assumption) ?_
        rotate_left
        · intro u hSu; obtain ⟨-, z0, z1, z2, z3, z4, z5⟩ := six_cells (HU1.out _ hSu); obtain ⟨-, y0, y1, y2, y3, y4, y5⟩ := six_cells (HU2.out _ hSu); (go_simp <;> with_reducible rfl)
        try simp only [Act.put, List.setIfInBounds_toArray, List.set_cons_zero, List.set_cons_succ]
        refine wpAnyH_ready (rs := [2]) (by kernel_rfl) (by simp) ?_
        refine AllReadyH.cons (o := { dst := some 22, op := Op.call { callee := Callee.value (Operand.func 32), args := #[Operand.tmp 20, Operand.tmp 21], argTypes := #[47, 47] }, type := 4, pos := "law.go:92", after := #[{ on := 0, ground := Ground.data }, { on := 1, ground := Ground.data }], guard := none }) rfl (fun K hK => ?_) AllReadyH.nil
        go_simp
        refine (HSp.out _ HB2.out.drew).mono ?_
        rintro e w3 ⟨rfl, hb⟩
        dsimp only
        have HC3 := Lib.hid (HC2.out.trans ((below_undrew hb).mono HC2.out.size))
        have HB3 := Lib.hid (HA.out.trans (HC3.out.mono HA.out.size))
        clear hb
        refine hK.out _ _ HC3.out (fun hHeld => ?_)
        clear hK K
        try simp only [Act.put, List.setIfInBounds_toArray, List.set_cons_zero, List.set_cons_succ]
        refine wpAnyH_ready (rs := [4]) (by kernel_rfl) (by simp) ?_
        refine AllReadyH.cons (o := { dst := some 24, op := Op.call { callee := Callee.value (Operand.func 26), args := #[Operand.tmp 23], argTypes := #[47] }, type := 52, pos := "law.go:92", after := #[{ on := 3, ground := Ground.data }, { on := 2, ground := Ground.chain }], guard := none }) rfl (fun K hK => ?_) AllReadyH.nil
        go_simp
        refine (HPq.out _ HB3.out).mono ?_
        rintro e w4 ⟨iv4, rfl, hq4, hb⟩
        obtain ⟨a4, n4, c4, rfl⟩ := hq4.isSlice
        have HQ4 := Lib.hid hq4.is
        clear hq4
        dsimp only
        have HC4 := Lib.hid (HC3.out.trans (hb.mono HC3.out.size))
        have HB4 := Lib.hid (HA.out.trans (HC4.out.mono HA.out.size))
        clear hb
        refine hK.out _ _ HC4.out (fun hHeld => ?_)
        clear hK K
        try simp only [Act.put, List.setIfInBounds_toArray, List.set_cons_zero, List.set_cons_succ]
        refine wpAnyH_ready (rs := [6]) (by kernel_rfl) (by simp) ?_
        refine AllReadyH.cons (o := { dst := some 26, op := Op.call { callee := Callee.value (Operand.func 26), args := #[Operand.tmp 25], argTypes := #[47] }, type := 52, pos := "law.go:92", after := #[{ on := 5, ground := Ground.data }, { on := 4, ground := Ground.chain }], guard := none }) rfl (fun K hK => ?_) AllReadyH.nil
        go_simp
        refine (HPo.out _ HB4.out).mono ?_
        rintro e w5 ⟨iv5, rfl, hq5, hb⟩
        obtain ⟨a5, n5, c5, rfl⟩ := hq5.isSlice
        have HQ5 := Lib.hid hq5.is
        have HQ4b := Lib.hid (HQ4.out.ext hb)
        clear hq5
        dsimp only
        have HC5 := Lib.hid (HC4.out.trans (hb.mono HC4.out.size))
        have HB5 := Lib.hid (HA.out.trans (HC5.out.mono HA.out.size))
        clear hb
        refine hK.out _ _ HC5.out (fun hHeld => ?_)
        clear hK K
        try simp only [Act.put, List.setIfInBounds_toArray, List.set_cons_zero, List.set_cons_succ]
        refine wpAnyH_ready (rs := [7]) (by kernel_rfl) (by simp) ?_
        refine AllReadyH.cons (o := { dst := some 27, op := Op.call { callee := Callee.value (Operand.func 25), args := #[Operand.tmp 24, Operand.tmp 26], argTypes := #[52, 52] }, type := 4, pos := "law.go:92", after := #[{ on := 4, ground := Ground.data }, { on := 6, ground := Ground.data }, { on := 6, ground := Ground.chain }], guard := none }) rfl (fun K hK => ?_) AllReadyH.nil
        go_simp
        refine (HSd.out _ _ _ HQ4b.out HQ5.out).mono ?_
        rintro e w6 ⟨rfl, hb⟩
        dsimp only
        have HC6 := Lib.hid (HC5.out.trans (hb.mono HC5.out.size))
        have HB6 := Lib.hid (HA.out.trans (HC6.out.mono HA.out.size))
        clear hb
        refine hK.out _ _ HC6.out (fun hHeld => ?_)
        clear hK K
        try simp only [Act.put, List.setIfInBounds_toArray, List.set_cons_zero, List.set_cons_succ]
        refine wpAnyH_take (i := 8) (oi := { dst := some 28, op := Op.binOp BinOp.neq 4 (Operand.tmp 22) (Operand.tmp 27) 4, type := 4, pos := "law.go:92", after := #[{ on := 2, ground := Ground.data }, { on := 7, ground := Ground.data }], guard := none }) (v := ?_) rfl (by kernel_rfl) (by kernel_rfl) (by kernel_rfl) (fun _ _ _ h => h) (Or.inl ⟨by rfl, ?_⟩) (by assumption) ?_
        rotate_left
        · intro u hSu; obtain ⟨-, z0, z1, z2, z3, z4, z5⟩ := six_cells (HU1.out _ hSu); obtain ⟨-, y0, y1, y2, y3, y4, y5⟩ := six_cells (HU2.out _ hSu); (go_simp <;> with_reducible rfl)
        try simp only [Act.put, List.setIfInBounds_toArray, List.set_cons_zero, List.set_cons_succ]
        refine wpAnyH_take (i := 9) (oi := { dst := some 29, op := Op.move (Operand.tmp 28), type := 4, pos := "law.go:92", after := #[{ on := 8, ground := Ground.data }, { on := 7, ground := Ground.chain }], guard := none }) (v := ?_) rfl (by kernel_rfl) (by kernel_rfl) (by kernel_rfl) (fun _ _ _ h => h) (Or.inl ⟨by rfl, ?_⟩) (by assumption) ?_
        rotate_left
        · intro u hSu; obtain ⟨-, z0, z1, z2, z3, z4, z5⟩ := six_cells (HU1.out _ hSu); obtain ⟨-, y0, y1, y2, y3, y4, y5⟩ := six_cells (HU2.out _ hSu); (go_simp <;> with_reducible rfl)
        try simp only [Act.put, List.setIfInBounds_toArray, List.set_cons_zero, List.set_cons_succ]
        refine wpAnyH_take (i := 10) (oi := { dst := some 30, op := Op.load 47 (Operand.tmp 2), type := 47, pos := "law.go:92", after := #[{ on := 9, ground := Ground.guard }], guard := some (9, false) }) (v := ?_) rfl (by kernel_rfl) (by kernel_rfl) (by kernel_rfl) (fun _ _ _ h => h) (Or.inl ⟨by rfl, ?_⟩) (by assumption) ?_
        rotate_left
        · intro u hSu; obtain ⟨-, z0, z1, z2, z3, z4, z5⟩ := six_cells (HU1.out _ hSu); obtain ⟨-, y0, y1, y2, y3, y4, y5⟩ := six_cells (HU2.out _ hSu); (go_simp <;> with_reducible rfl)
        try simp only [Act.put, List.setIfInBounds_toArray, List.set_cons_zero, List.set_cons_succ]
        refine wpAnyH_take (i := 11) (oi := { dst := some 31, op := Op.load 47 (Operand.tmp 2), type := 47, pos := "law.go:92", after := #[{ on := 9, ground := Ground.guard }], guard := some (9, false) }) (v := ?_) rfl (by kernel_rfl) (by kernel_rfl) (by kernel_rfl) (fun _ _ _ h => h) (Or.inl ⟨by rfl, ?_⟩) (by assumption) ?_
        rotate_left
        · intro u hSu; obtain ⟨-, z0, z1, z2, z3, z4, z5⟩ := six_cells (HU1.out _ hSu); obtain ⟨-, y0, y1, y2, y3, y4, y5⟩ := six_cells (HU2.out _ hSu); (go_simp <;> with_reducible rfl)
        try simp only [Act.put, List.setIfInBounds_toArray, List.set_cons_zero, List.set_cons_succ]
        refine wpAnyH_ready (rs := [12]) (by kernel_rfl) (by simp) ?_
        refine AllReadyH.cons (o := { dst := some 32, op := Op.call { callee := Callee.value (Operand.func 32), args := #[Operand.tmp 30, Operand.tmp 31], argTypes := #[47, 47] }, type := 4, pos := "law.go:92", after := #[{ on := 10, ground := Ground.data }, { on := 11, ground := Ground.data }, { on := 9, ground := Ground.chain }, { on := 9, ground := Ground.guard }], guard := some (9, false) }) rfl (fun K hK => ?_) AllReadyH.nil
        go_simp
        refine (HSq.out _ HB6.out).mono ?_
        rintro e w7 ⟨rfl, hb⟩
        dsimp only
        have HC7 := Lib.hid (HC6.out.trans (hb.mono HC6.out.size))
        have HB7 := Lib.hid (HA.out.trans (HC7.out.mono HA.out.size))
        clear hb
        refine hK.out _ _ HC7.out (fun hHeld => ?_)
        clear hK K
        try simp only [Act.put, List.setIfInBounds_toArray, List.set_cons_zero, List.set_cons_succ]
        refine wpAnyH_take (i := 13) (oi := { dst := some 33, op := Op.unOp UnOp.not 4 (Operand.tmp 32), type := 4, pos := "law.go:92", after := #[{ on := 12, ground := Ground.data }, { on := 9, ground := Ground.guard }], guard := some (9, false) }) (v := ?_) rfl (by kernel_rfl) (by kernel_rfl) (by kernel_rfl) (fun _ _ _ h => h) (Or.inl ⟨by rfl, ?_⟩) (by assumption) ?_
        rotate_left
        · intro u hSu; obtain ⟨-, z0, z1, z2, z3, z4, z5⟩ := six_cells (HU1.out _ hSu); obtain ⟨-, y0, y1, y2, y3, y4, y5⟩ := six_cells (HU2.out _ hSu); (go_simp <;> with_reducible rfl)
        try simp only [Act.put, List.setIfInBounds_toArray, List.set_cons_zero, List.set_cons_succ]
        refine wpAnyH_take (i := 14) (oi := { dst := some 34, op := Op.pick (Operand.tmp 29) (Operand.const (Value.bool true)) (Operand.tmp 33), type := 4, pos := "law.go:92", after := #[{ on := 9, ground := Ground.data }, { on := 13, ground := Ground.data }], guard := none }) (v := ?_) rfl (by kernel_rfl) (by kernel_rfl) (by kernel_rfl) (fun _ _ _ h => h) (Or.inl ⟨by rfl, ?_⟩) (by assumption) ?_
        rotate_left
        · intro u hSu; obtain ⟨-, z0, z1, z2, z3, z4, z5⟩ := six_cells (HU1.out _ hSu); obtain ⟨-, y0, y1, y2, y3, y4, y5⟩ := six_cells (HU2.out _ hSu); (go_simp <;> with_reducible rfl)
        try simp only [Act.put, List.setIfInBounds_toArray, List.set_cons_zero, List.set_cons_succ]
        refine wpAnyH_done (by kernel_rfl) ?_ _
        go_wp2_with fail
        go_meet
        exact ⟨rfl, HC7⟩
      case rest =>
        clear k0 k1 k2 k3 k4 k5 j0 j1 j2 j3 j4 j5
        obtain ⟨rfl, HC3⟩ := hcut
        have HB3 := Lib.hid (HA.out.trans (HC3.out.mono HA.out.size))
        obtain ⟨-, k0, k1, k2, k3, k4, k5⟩ := six_cells (HU1.out _ HC3.out)
        go_wp2_with fail
        refine (HPr.out _ HB3.out).mono ?_
        rintro e w4 ⟨rfl, hb⟩
        have HC4 := Lib.hid (HC3.out.trans (hb.mono HC3.out.size))
        have HB4 := Lib.hid (HA.out.trans (HC4.out.mono HA.out.size))
        clear hb k0 k1 k2 k3 k4 k5
        obtain ⟨-, k0, k1, k2, k3, k4, k5⟩ := six_cells (HU1.out _ HC4.out)
        rcases print_all q with ⟨en, he, hpr⟩ | ⟨hok, hl201, hpr⟩
        · rw [hpr]
          dsimp only
          have hne : ((en : Int) != 0) = true := by rw [bne_iff_ne]; omega
          clear he hpr
          go_wp2_with fail
          refine (HW.out _ HB4.out).mono ?_
          rintro e w9 ⟨rfl, hb⟩
          have HB9 := Lib.hid (HB4.out.trans (hb.mono HB4.out.size))
          clear hb
          go_wp2_with fail
          go_ret
          exact ⟨rfl, HB9.out⟩
        · rw [hpr]
          dsimp only
          have HBk := Lib.hid (print_back hok hl201)
          obtain ⟨T, hT⟩ : ∃ T, Hid ((qyT q).tail = T) := ⟨_, Lib.hid rfl⟩
          rw [hT.out] at HBk ⊢
          have hTl : T.length ≤ 200 := by rw [← hT.out, List.length_tail]; omega
          have HP2 := Lib.hid (fun u (hu : Below w.heap.size w u) => parse1_any T u (by omega) (HM.out.ext hu))
          clear hpr hl201 hok
          go_wp2_with fail
          rcases HBk.out with hback | ⟨p2, htk⟩
          · rw [hback] at HP2
            clear hback
            refine (HP2.out _ HB4.out).mono ?_
            rintro e w5 ⟨hb, iv5, rfl, hq5⟩
            have HQ5 := Lib.hid hq5.is
            obtain ⟨a5, n5, c5, rfl⟩ := hq5.isSlice
            have HC5 := Lib.hid (HC4.out.trans (hb.mono HC4.out.size))
            have HB5 := Lib.hid (HA.out.trans (HC5.out.mono HA.out.size))
            clear hb hq5 k0 k1 k2 k3 k4 k5
            unfold qv
            dsimp only
            have HCo := Lib.hid (fun o => HC5.out.alloc HC5.out.size o)
            have HBo := Lib.hid (fun o => HB5.out.alloc HB5.out.size o)
            obtain ⟨-, k0, k1, k2, k3, k4, k5⟩ := six_cells (HU1.out _ HC5.out)
            go_upto_region 12 with fail
            have hX0 := heap_alloc_new w5 (.cells #[.slice a5 n5 c5, .int .i64 q.mx, .int .i64 q.sk, .int .i64 q.od, .bool q.fi, .bool q.rv] 47)
            have hszv : w5.heap.size < (w5.alloc (.cells #[.slice a5 n5 c5, .int .i64 q.mx, .int .i64 q.sk, .int .i64 q.od, .bool q.fi, .bool q.rv] 47)).heap.size := by simp
            have HV0 := HBo.out (.cells #[.slice a5 n5 c5, .int .i64 q.mx, .int .i64 q.sk, .int .i64 q.od, .bool q.fi, .bool q.rv] 47)
            have HCV0 := HCo.out (.cells #[.slice a5 n5 c5, .int .i64 q.mx, .int .i64 q.sk, .int .i64 q.od, .bool q.fi, .bool q.rv] 47)
            have HQV0 := HQ5.out.ext ((Below.refl w5.heap.size w5).alloc (Nat.le_refl _) (.cells #[.slice a5 n5 c5, .int .i64 q.mx, .int .i64 q.sk, .int .i64 q.od, .bool q.fi, .bool q.rv] 47))
            generalize w5.alloc (.cells #[.slice a5 n5 c5, .int .i64 q.mx, .int .i64 q.sk, .int .i64 q.od, .bool q.fi, .bool q.rv] 47) = V at hX0 hszv HV0 HCV0 HQV0 ⊢
            have HUr := Lib.hid (fun u (hu : Below V.heap.size V u) => (hu.block _ hszv).trans hX0)
            have HV := Lib.hid HV0
            have HCV := Lib.hid HCV0
            have HQV := Lib.hid HQV0
            clear hX0 hszv HV0 HCV0 HQV0 k0 k1 k2 k3 k4 k5
            have HPr5 := Lib.hid (fun u (hu : IS u (.slice a5 n5 c5) q.its) => plain_any (.slice a5 n5 c5) q u hu (lg_few hlq))
            have HSd2 : Hid (∀ u v1 v2, IS u v1 q.its → IS u v2 q.its → Calls Try.prog 25 #[.agg #[v1, .int .i64 q.mx, .int .i64 q.sk, .int .i64 q.od, .bool q.fi, .bool q.rv], .agg #[v2, .int .i64 q.mx, .int .i64 q.sk, .int .i64 q.od, .bool q.fi, .bool q.rv]] u fun e w' => e = .returned (.bool true) ∧ Below u.heap.size u w') :=
              Lib.hid (fun u v1 v2 g1 g2 => (dsame_any v1 v2 q q u g1 g2).mono (fun e w' ⟨he, hb⟩ => ⟨by rw [he, decide_eq_true rfl], hb⟩))
            unfold qv at HPr5
            refine wp_region_held_drew (S := fun u => Below V.heap.size V u) (by kernel_rfl) (Below.refl _ _).drew (fun hHeld => ?_)
            refine wpAnyH_take (i := 0) (oi := { dst := some 67, op := Op.move (Operand.tmp 9), type := 24, pos := "law.go:104", after := #[], guard := none }) (v := ?_) rfl (by kernel_rfl) (by kernel_rfl) (by kernel_rfl) (fun _ _ _ h => h) (Or.inl ⟨by rfl, ?_⟩) (by assumption) ?_
            rotate_left
            · intro u hSu; obtain ⟨-, z0, z1, z2, z3, z4, z5⟩ := six_cells (HU1.out _ (HCV.out.trans (hSu.mono HCV.out.size))); obtain ⟨-, y0, y1, y2, y3, y4, y5⟩ := six_cells (HUr.out _ hSu); (go_simp <;> with_reducible rfl)
            try simp only [Act.put, List.setIfInBounds_toArray, List.set_cons_zero, List.set_cons_succ]
            refine wpAnyH_take (i := 1) (oi := { dst := some 68, op := Op.binOp BinOp.eql 24 (Operand.tmp 67) (Operand.const (Value.int IntKind.i64 0)) 24, type := 4, pos := "law.go:104", after := #[{ on := 0, ground := Ground.data }], guard := none }) (v := ?_) rfl (by kernel_rfl) (by kernel_rfl) (by kernel_rfl) (fun _ _ _ h => h) (Or.inl ⟨by rfl, ?_⟩) (by assumption) ?_
            rotate_left
            · intro u hSu; obtain ⟨-, z0, z1, z2, z3, z4, z5⟩ := six_cells (HU1.out _ (HCV.out.trans (hSu.mono HCV.out.size))); obtain ⟨-, y0, y1, y2, y3, y4, y5⟩ := six_cells (HUr.out _ hSu); (go_simp <;> with_reducible rfl)
            try simp only [Act.put, List.setIfInBounds_toArray, List.set_cons_zero, List.set_cons_succ]
            refine wpAnyH_take (i := 2) (oi := { dst := some 69, op := Op.move (Operand.tmp 68), type := 4, pos := "law.go:104", after := #[{ on := 1, ground := Ground.data }], guard := none }) (v := ?_) rfl (by kernel_rfl) (by kernel_rfl) (by kernel_rfl) (fun _ _ _ h => h) (Or.inl ⟨by rfl, ?_⟩) (by assumption) ?_
            rotate_left
            · intro u hSu; obtain ⟨-, z0, z1, z2, z3, z4, z5⟩ := six_cells (HU1.out _ (HCV.out.trans (hSu.mono HCV.out.size))); obtain ⟨-, y0, y1, y2, y3, y4, y5⟩ := six_cells (HUr.out _ hSu); (go_simp <;> with_reducible rfl)
            try simp only [Act.put, List.setIfInBounds_toArray, List.set_cons_zero, List.set_cons_succ]
            refine wpAnyH_take (i := 3) (oi := { dst := some 70, op := Op.load 47 (Operand.tmp 7), type := 47, pos := "law.go:104", after := #[{ on := 2, ground := Ground.guard }], guard := some (2, true) }) (v := ?_) rfl (by kernel_rfl) (by kernel_rfl) (by kernel_rfl) (fun _ _ _ h => h) (Or.inl ⟨by rfl, ?_⟩) (by assumption) ?_
            rotate_left
            · intro u hSu; obtain ⟨-, z0, z1, z2, z3, z4, z5⟩ := six_cells (HU1.out _ (HCV.out.trans (hSu.mono HCV.out.size))); obtain ⟨-, y0, y1, y2, y3, y4, y5⟩ := six_cells (HUr.out _ hSu); (go_simp <;> with_reducible rfl)
            try simp only [Act.put, List.setIfInBounds_toArray, List.set_cons_zero, List.set_cons_succ]
            refine wpAnyH_take (i := 5) (oi := { dst := some 72, op := Op.load 47 (Operand.tmp 2), type := 47, pos := "law.go:104", after := #[{ on := 2, ground := Ground.guard }], guard := some (2, true) }) (v := ?_) rfl (by kernel_rfl) (by kernel_rfl) (by kernel_rfl) (fun _ _ _ h => h) (Or.inl ⟨by rfl, ?_⟩) (by assumption) ?_
            rotate_left
            · intro u hSu; obtain ⟨-, z0, z1, z2, z3, z4, z5⟩ := six_cells (HU1.out _ (HCV.out.trans (hSu.mono HCV.out.size))); obtain ⟨-, y0, y1, y2, y3, y4, y5⟩ := six_cells (HUr.out _ hSu); (go_simp <;> with_reducible rfl)
            try simp only [Act.put, List.setIfInBounds_toArray, List.set_cons_zero, List.set_cons_succ]
            refine wpAnyH_ready (rs := [4]) (by kernel_rfl) (by simp) ?_
            refine AllReadyH.cons (o := { dst := some 71, op := Op.call { callee := Callee.value (Operand.func 26), args := #[Operand.tmp 70], argTypes := #[47] }, type := 52, pos := "law.go:104", after := #[{ on := 3, ground := Ground.data }, { on := 2, ground := Ground.chain }, { on := 2, ground := Ground.guard }], guard := some (2, true) }) rfl (fun K hK => ?_) AllReadyH.nil
            go_simp
            refine (HPr5.out _ (HQV.out.ext (Below.refl _ _).drew)).mono ?_
            rintro e w6 ⟨iv6, rfl, hq6, hb⟩
            obtain ⟨a6, n6, c6, rfl⟩ := hq6.isSlice
            have HQ6 := Lib.hid hq6.is
            clear hq6
            dsimp only
            have HS6 : Hid (Below V.heap.size V w6) := Lib.hid ((below_undrew hb))
            have HB6 := Lib.hid (HV.out.trans (HS6.out.mono HV.out.size))
            clear hb
            refine hK.out _ _ HS6.out (fun hHeld => ?_)
            clear hK K
            try simp only [Act.put, List.setIfInBounds_toArray, List.set_cons_zero, List.set_cons_succ]
            refine wpAnyH_ready (rs := [6]) (by kernel_rfl) (by simp) ?_
            refine AllReadyH.cons (o := { dst := some 73, op := Op.call { callee := Callee.value (Operand.func 26), args := #[Operand.tmp 72], argTypes := #[47] }, type := 52, pos := "law.go:104", after := #[{ on := 5, ground := Ground.data }, { on := 4, ground := Ground.chain }, { on := 2, ground := Ground.guard }], guard := some (2, true) }) rfl (fun K hK => ?_) AllReadyH.nil
            go_simp
            refine (HPq.out _ HB6.out).mono ?_
            rintro e w7 ⟨iv7, rfl, hq7, hb⟩
            obtain ⟨a7, n7, c7, rfl⟩ := hq7.isSlice
            have HQ7 := Lib.hid hq7.is
            have HQ6b := Lib.hid (HQ6.out.ext hb)
            clear hq7
            dsimp only
            have HS7 : Hid (Below V.heap.size V w7) := Lib.hid (HS6.out.trans (hb.mono HS6.out.size))
            have HB7 := Lib.hid (HV.out.trans (HS7.out.mono HV.out.size))
            clear hb
            refine hK.out _ _ HS7.out (fun hHeld => ?_)
            clear hK K
            try simp only [Act.put, List.setIfInBounds_toArray, List.set_cons_zero, List.set_cons_succ]
            refine wpAnyH_ready (rs := [7]) (by kernel_rfl) (by simp) ?_
            refine AllReadyH.cons (o := { dst := some 74, op := Op.call { callee := Callee.value (Operand.func 25), args := #[Operand.tmp 71, Operand.tmp 73], argTypes := #[52, 52] }, type := 4, pos := "law.go:104", after := #[{ on := 4, ground := Ground.data }, { on := 6, ground := Ground.data }, { on := 6, ground := Ground.chain }, { on := 2, ground := Ground.guard }], guard := some (2, true) }) rfl (fun K hK => ?_) AllReadyH.nil
            go_simp
            refine (HSd2.out _ _ _ HQ6b.out HQ7.out).mono ?_
            rintro e w8 ⟨rfl, hb⟩
            dsimp only
            have HS8 : Hid (Below V.heap.size V w8) := Lib.hid (HS7.out.trans (hb.mono HS7.out.size))
            have HB8 := Lib.hid (HV.out.trans (HS8.out.mono HV.out.size))
            clear hb
            refine hK.out _ _ HS8.out (fun hHeld => ?_)
            clear hK K
            try simp only [Act.put, List.setIfInBounds_toArray, List.set_cons_zero, List.set_cons_succ]
            refine wpAnyH_take (i := 8) (oi := { dst := some 75, op := Op.pick (Operand.tmp 69) (Operand.tmp 74) (Operand.const (Value.bool false)), type := 4, pos := "law.go:104", after := #[{ on := 2, ground := Ground.data }, { on := 7, ground := Ground.data }], guard := none }) (v := ?_) rfl (by kernel_rfl) (by kernel_rfl) (by kernel_rfl) (fun _ _ _ h => h) (Or.inl ⟨by rfl, ?_⟩) (by assumption) ?_
            rotate_left
            · intro u hSu; obtain ⟨-, z0, z1, z2, z3, z4, z5⟩ := six_cells (HU1.out _ (HCV.out.trans (hSu.mono HCV.out.size))); obtain ⟨-, y0, y1, y2, y3, y4, y5⟩ := six_cells (HUr.out _ hSu); (go_simp <;> with_reducible rfl)
            try simp only [Act.put, List.setIfInBounds_toArray, List.set_cons_zero, List.set_cons_succ]
            refine wpAnyH_take (i := 9) (oi := { dst := some 76, op := Op.move (Operand.tmp 75), type := 4, pos := "law.go:104", after := #[{ on := 8, ground := Ground.data }, { on := 7, ground := Ground.chain }], guard := none }) (v := ?_) rfl (by kernel_rfl) (by kernel_rfl) (by kernel_rfl) (fun _ _ _ h => h) (Or.inl ⟨by rfl, ?_⟩) (by assumption) ?_
            rotate_left
            · intro u hSu; obtain ⟨-, z0, z1, z2, z3, z4, z5⟩ := six_cells (HU1.out _ (HCV.out.trans (hSu.mono HCV.out.size))); obtain ⟨-, y0, y1, y2, y3, y4, y5⟩ := six_cells (HUr.out _ hSu); (go_simp <;> with_reducible rfl)
            try simp only [Act.put, List.setIfInBounds_toArray, List.set_cons_zero, List.set_cons_succ]
            refine wpAnyH_ready (rs := [10]) (by kernel_rfl) (by simp) ?_
            refine AllReadyH.cons (o := { dst := some 77, op := Op.call { callee := Callee.value (Operand.func 22), args := #[], argTypes := #[] }, type := 4, pos := "law.go:104", after := #[{ on := 9, ground := Ground.chain }, { on := 9, ground := Ground.guard }], guard := some (9, true) }) rfl (fun K hK => ?_) AllReadyH.nil
            go_simp
            refine (HW.out _ HB8.out).mono ?_
            rintro e w9 ⟨rfl, hb⟩
            dsimp only
            have HS9 : Hid (Below V.heap.size V w9) := Lib.hid (HS8.out.trans (hb.mono HS8.out.size))
            have HB9 := Lib.hid (HV.out.trans (HS9.out.mono HV.out.size))
            clear hb
            refine hK.out _ _ HS9.out (fun hHeld => ?_)
            clear hK K
            try simp only [Act.put, List.setIfInBounds_toArray, List.set_cons_zero, List.set_cons_succ]
            refine wpAnyH_take (i := 11) (oi := { dst := some 78, op := Op.pick (Operand.tmp 76) (Operand.tmp 77) (Operand.const (Value.bool false)), type := 4, pos := "law.go:104", after := #[{ on := 9, ground := Ground.data }, { on := 10, ground := Ground.data }], guard := none }) (v := ?_) rfl (by kernel_rfl) (by kernel_rfl) (by kernel_rfl) (fun _ _ _ h => h) (Or.inl ⟨by rfl, ?_⟩) (by assumption) ?_
            rotate_left
            · intro u hSu; obtain ⟨-, z0, z1, z2, z3, z4, z5⟩ := six_cells (HU1.out _ (HCV.out.trans (hSu.mono HCV.out.size))); obtain ⟨-, y0, y1, y2, y3, y4, y5⟩ := six_cells (HUr.out _ hSu); (go_simp <;> with_reducible rfl)
            try simp only [Act.put, List.setIfInBounds_toArray, List.set_cons_zero, List.set_cons_succ]
            refine wpAnyH_ready (rs := [12]) (by kernel_rfl) (by simp) ?_
            refine AllReadyH.cons (o := { dst := some 4, op := Op.assign (Operand.tmp 78), type := 4, pos := "law.go:104", after := #[{ on := 11, ground := Ground.data }, { on := 10, ground := Ground.chain }, { on := 0, ground := Ground.phase }, { on := 1, ground := Ground.phase }, { on := 2, ground := Ground.phase }, { on := 3, ground := Ground.phase }, { on := 4, ground := Ground.phase }, { on := 5, ground := Ground.phase }, { on := 6, ground := Ground.phase }, { on := 7, ground := Ground.phase }, { on := 8, ground := Ground.phase }, { on := 9, ground := Ground.phase }, { on := 10, ground := Ground.phase }, { on := 11, ground := Ground.phase }], guard := none }) rfl (fun K hK => ?_) AllReadyH.nil
            go_simp
            refine hK.out _ _ HS9.out (fun hHeld => ?_)
            clear hK K
            try simp only [Act.put, List.setIfInBounds_toArray, List.set_cons_zero, List.set_cons_succ]
            refine wpAnyH_done (by kernel_rfl) ?_ _
            go_wp2_with fail
            go_ret
            exact ⟨rfl, HB9.out⟩
          · have hpt := parse_tok htk
            rw [hpt] at HP2
            have HTk := Lib.hid (fun u => rtokens_any T u (by omega))
            rw [← both_tokens, htk] at HTk
            clear hpt htk
            refine (HP2.out _ HB4.out).mono ?_
            rintro e w5 ⟨hb, iv5, rfl, hq5⟩
            obtain ⟨a5, n5, c5, rfl⟩ := hq5.isSlice
            have HB5 := Lib.hid (HB4.out.trans (hb.mono HB4.out.size))
            clear hb hq5 k0 k1 k2 k3 k4 k5
            unfold qv zQy
            dsimp only
            have HBo := Lib.hid (fun o => HB5.out.alloc HB5.out.size o)
            go_wp2_with fail
            refine (HTk.out _).mono ?_
            rintro e w6 ⟨hb, rfl⟩
            have HB6 := Lib.hid ((HBo.out _).trans (hb.mono (HBo.out _).size))
            clear hb
            go_wp2_with fail
            refine (HW.out _ HB6.out).mono ?_
            rintro e w9 ⟨rfl, hb⟩
            have HB9 := Lib.hid (HB6.out.trans (hb.mono HB6.out.size))
            clear hb
            go_wp2_with fail
            go_ret
            exact ⟨rfl, HB9.out⟩
    · rw [hbq] at HLq
      rw [hbo] at HLo
      unfold qv at *
      go_enter Try.func10, Try.ntmps10
      go_wp2_with fail
      generalize ((w.alloc (.cells #[.slice a0 n0 c0, .int .i64 q.mx, .int .i64 q.sk, .int .i64 q.od, .bool q.fi, .bool q.rv] 47)).alloc (.cells #[.slice a1 n1 c1, .int .i64 o.mx, .int .i64 o.sk, .int .i64 o.od, .bool o.fi, .bool o.rv] 47)) = W at HA HK HK2 ⊢
      have HU1 := Lib.hid (fun u (hu : Below W.heap.size W u) => (hu.block _ (Array.getElem?_eq_some_iff.1 HK.out).1).trans HK.out)
      have HU2 := Lib.hid (fun u (hu : Below W.heap.size W u) => (hu.block _ (Array.getElem?_eq_some_iff.1 HK2.out).1).trans HK2.out)
      clear HK HK2
      refine (HLq.out _ HA.out).mono ?_
      rintro e w1 ⟨rfl, hb⟩
      have HC1 := Lib.hid hb
      have HB1 := Lib.hid (HA.out.trans (HC1.out.mono HA.out.size))
      clear hb
      obtain ⟨-, k0, k1, k2, k3, k4, k5⟩ := six_cells (HU1.out _ HC1.out)
      obtain ⟨-, j0, j1, j2, j3, j4, j5⟩ := six_cells (HU2.out _ HC1.out)
      go_wp2_with fail
      refine (HLo.out _ HB1.out).mono ?_
      rintro e w2 ⟨rfl, hb⟩
      have HB2 := Lib.hid (HB1.out.trans (hb.mono HB1.out.size))
      clear hb
      go_wp2_with fail
      refine (HW.out _ HB2.out).mono ?_
      rintro e w9 ⟨rfl, hb⟩
      have HB9 := Lib.hid (HB2.out.trans (hb.mono HB2.out.size))
      clear hb
      go_wp2_with fail
      go_ret
      exact ⟨rfl, HB9.out⟩
  · rw [hbq] at HLq
    unfold qv at *
    go_enter Try.func10, Try.ntmps10
    go_wp2_with fail
    generalize ((w.alloc (.cells #[.slice a0 n0 c0, .int .i64 q.mx, .int .i64 q.sk, .int .i64 q.od, .bool q.fi, .bool q.rv] 47)).alloc (.cells #[.slice a1 n1 c1, .int .i64 o.mx, .int .i64 o.sk, .int .i64 o.od, .bool o.fi, .bool o.rv] 47)) = W at HA HK HK2 ⊢
    have HU1 := Lib.hid (fun u (hu : Below W.heap.size W u) => (hu.block _ (Array.getElem?_eq_some_iff.1 HK.out).1).trans HK.out)
    have HU2 := Lib.hid (fun u (hu : Below W.heap.size W u) => (hu.block _ (Array.getElem?_eq_some_iff.1 HK2.out).1).trans HK2.out)
    clear HK HK2
    refine (HLq.out _ HA.out).mono ?_
    rintro e w1 ⟨rfl, hb⟩
    have HC1 := Lib.hid hb
    have HB1 := Lib.hid (HA.out.trans (HC1.out.mono HA.out.size))
    clear hb
    obtain ⟨-, k0, k1, k2, k3, k4, k5⟩ := six_cells (HU1.out _ HC1.out)
    obtain ⟨-, j0, j1, j2, j3, j4, j5⟩ := six_cells (HU2.out _ HC1.out)
    go_wp2_with fail
    refine (HW.out _ HB1.out).mono ?_
    rintro e w9 ⟨rfl, hb⟩
    have HB9 := Lib.hid (HB1.out.trans (hb.mono HB1.out.size))
    clear hb
    go_wp2_with fail
    go_ret
    exact ⟨rfl, HB9.out⟩
end Go.Proofs.Ytolahnnkdpbdfaa
