/-
  Layer 28: are two questions one? The document's walk. No condition besides what lies where.
  Layer 28: the law's own example. No condition besides MaxLen.
  Layer 28: what was parsed has few parts, in plain Lean.
  Layer 28: ParseReads, the law's walk. No condition besides MaxLen.
-/
import Derived.Test.YtolahnnkdpbdfaaGH
import Derived.Deep.DeepCutAuto
import Derived.Test.YtolahnnkdpbdfaaGD
namespace Go.Proofs.Ytolahnnkdpbdfaa
open Go.Proofs Go.RowKit Go.Shelf Go.Sl Go.Prs
theorem cells98 : Try.prog.cellsOf 98 = 6 := by kernel_rfl
theorem some98 : (Try.prog.info? 98).isSome = true := by kernel_rfl
set_option maxRecDepth 100000 in
set_option maxHeartbeats 8000000 in
theorem dsame_aux (iv iv2 : Value) (its its2 : List It) (mx sk od mx2 sk2 od2 : Int) (fi rv fi2 rv2 : Bool) (w : World) (h1 : IS w iv its) (h2 : IS w iv2 its2) :
    Calls Try.prog 25 #[.agg #[iv, .int .i64 mx, .int .i64 sk, .int .i64 od, .bool fi, .bool rv], .agg #[iv2, .int .i64 mx2, .int .i64 sk2, .int .i64 od2, .bool fi2, .bool rv2]] w fun e w' => e = .returned (.bool (decide ((⟨its, mx, sk, od, fi, rv⟩ : Qy) = ⟨its2, mx2, sk2, od2, fi2, rv2⟩))) ∧ Below w.heap.size w w' := by
  obtain ⟨rs, hsl, hra⟩ := h1
  obtain ⟨rs2, hsl2, hra2⟩ := h2
  have HS := Lib.hid hsl
  have HR := Lib.hid hra
  have HS2 := Lib.hid hsl2
  have HR2 := Lib.hid hra2
  have hlen : rs.length = its.length := hra.len
  have hlen2 : rs2.length = its2.length := hra2.len
  have hm1 := hsl.len_le
  have hm2 := hsl2.len_le
  obtain ⟨ao, cap, rfl, -⟩ := hsl.shp
  obtain ⟨bo, cap2, rfl, -⟩ := hsl2.shp
  rw [hlen] at HS hm1 ⊢
  rw [hlen2] at HS2 hm2 ⊢
  have Hlen := Lib.hid hlen
  have Hlen2 := Lib.hid hlen2
  clear hra hlen hsl hra2 hlen2 hsl2
  have HA : Hid (Below w.heap.size w ((w.alloc (.cells #[.slice ao its.length cap, .int .i64 mx, .int .i64 sk, .int .i64 od, .bool fi, .bool rv] 52)).alloc (.cells #[.slice bo its2.length cap2, .int .i64 mx2, .int .i64 sk2, .int .i64 od2, .bool fi2, .bool rv2] 52))) := Lib.hid (((Below.refl _ w).alloc (Nat.le_refl _) _).alloc (by simp) _)
  have K1 := Lib.hid (heap_keep (p := .cells #[.slice bo its2.length cap2, .int .i64 mx2, .int .i64 sk2, .int .i64 od2, .bool fi2, .bool rv2] 52) (heap_alloc_new w (.cells #[.slice ao its.length cap, .int .i64 mx, .int .i64 sk, .int .i64 od, .bool fi, .bool rv] 52)))
  have K2 : Hid (((w.alloc (.cells #[.slice ao its.length cap, .int .i64 mx, .int .i64 sk, .int .i64 od, .bool fi, .bool rv] 52)).alloc (.cells #[.slice bo its2.length cap2, .int .i64 mx2, .int .i64 sk2, .int .i64 od2, .bool fi2, .bool rv2] 52)).heap[w.heap.size + 1]? = some (.cells #[.slice bo its2.length cap2, .int .i64 mx2, .int .i64 sk2, .int .i64 od2, .bool fi2, .bool rv2] 52 (0, 0))) := Lib.hid (by
    have := heap_alloc_new (w.alloc (.cells #[.slice ao its.length cap, .int .i64 mx, .int .i64 sk, .int .i64 od, .bool fi, .bool rv] 52)) (.cells #[.slice bo its2.length cap2, .int .i64 mx2, .int .i64 sk2, .int .i64 od2, .bool fi2, .bool rv2] 52)
    simpa using this)
  by_cases hm : mx = mx2
  · subst hm
    by_cases hs : sk = sk2
    · subst hs
      by_cases ho : od = od2
      · subst ho
        by_cases hf : fi = fi2
        · subst hf
          by_cases hr : rv = rv2
          · subst hr
            by_cases hn : its.length = its2.length
            · have tn : ((its.length : Int) != (its2.length : Int)) = false := by rw [hn]; exact bne_self_eq_false _
              have Hn := Lib.hid hn
              clear hn
              go_enter Try.func25, Try.ntmps25
              go_wp2_with fail
              generalize (w.alloc (.cells #[.slice ao its.length cap, .int .i64 mx, .int .i64 sk, .int .i64 od, .bool fi, .bool rv] 52)).alloc (.cells #[.slice bo its2.length cap2, .int .i64 mx, .int .i64 sk, .int .i64 od, .bool fi, .bool rv] 52) = W at HA K1 K2 ⊢
              go_loopw [5] (fun i wr => ∃ k : Nat, k ≤ its.length ∧ i = .int .i64 k ∧ Hid (its.take k = its2.take k) ∧ Hid (Below W.heap.size W wr)) (fun i _ => its.length - (intOf i).toNat)
              case atStart => exact ⟨0, by omega, rfl, Lib.hid rfl, Lib.hid (Below.refl _ _)⟩
              case round =>
                obtain ⟨wo, rfl⟩ : ∃ u : World, u = wr := ⟨_, rfl⟩
                obtain ⟨k, hk, rfl, HT, HW⟩ := hrel
                have L1 := Lib.hid ((HW.out.block _ (Array.getElem?_eq_some_iff.1 K1.out).1).trans K1.out)
                have L2 := Lib.hid ((HW.out.block _ (Array.getElem?_eq_some_iff.1 K2.out).1).trans K2.out)
                obtain ⟨hz0, a0, a1, -⟩ := six_cells L1.out
                obtain ⟨hz1, c0, c1, -⟩ := six_cells L2.out
                have HWw := Lib.hid (HA.out.trans (HW.out.mono HA.out.size))
                by_cases hlt : k < its.length
                · have hk1 : k < rs.length := by rw [Hlen.out]; exact hlt
                  have hlt2 : k < its2.length := by rw [← Hn.out]; exact hlt
                  have hk2 : k < rs2.length := by rw [Hlen2.out]; exact hlt2
                  obtain ⟨b5, o5, h5, hix, hc⟩ := HS.out.at (P := Try.prog) Try.underlying50 cells98 some98 hk1
                  obtain ⟨b6, o6, h6, hix6, hc6⟩ := HS2.out.at (P := Try.prog) Try.underlying50 cells98 some98 hk2
                  have HRa := Lib.hid (HR.out.get k hk1 hlt)
                  have HRb := Lib.hid (HR2.out.get k hk2 hlt2)
                  obtain ⟨x, hx⟩ : ∃ x, Hid (its[k] = x) := ⟨_, Lib.hid rfl⟩
                  obtain ⟨y, hy⟩ : ∃ x, Hid (its2[k] = x) := ⟨_, Lib.hid rfl⟩
                  rw [hx.out] at HRa
                  rw [hy.out] at HRb
                  obtain ⟨ra, hra⟩ : ∃ r, rs[k]'hk1 = r := ⟨_, rfl⟩
                  rw [hra] at HRa hc
                  clear hra
                  obtain ⟨rk, rab, ⟨ga, gn, gc⟩, rbb, ⟨fa, fn, fc⟩, rnt⟩ := ra
                  obtain rfl : rk = x.k := HRa.out.k
                  obtain rfl : rab = x.a.b := HRa.out.ab
                  obtain rfl : rbb = x.b.b := HRa.out.bb
                  obtain rfl : rnt = x.nt := HRa.out.nt
                  have HSae : Hid (Sl eSt 3 w (.slice ga gn gc) x.a.st) := Lib.hid HRa.out.av
                  have HSbe : Hid (Sl eSt 3 w (.slice fa fn fc) x.b.st) := Lib.hid HRa.out.bv
                  have e0 : wo.cell? ⟨b5, o5, none⟩ = some (.int .i64 x.k) := (HWw.out.cell (p := ⟨b5, o5, none⟩) h5).trans (hc 0 (by omega))
                  have e1 : wo.cell? ⟨b5, o5 + 1, none⟩ = some (.string (bstr x.a.b)) := (HWw.out.cell (p := ⟨b5, o5 + 1, none⟩) h5).trans (hc 1 (by omega))
                  have e2 : wo.cell? ⟨b5, o5 + 2, none⟩ = some (.slice ga gn gc) := (HWw.out.cell (p := ⟨b5, o5 + 2, none⟩) h5).trans (hc 2 (by omega))
                  have e3 : wo.cell? ⟨b5, o5 + 3, none⟩ = some (.string (bstr x.b.b)) := (HWw.out.cell (p := ⟨b5, o5 + 3, none⟩) h5).trans (hc 3 (by omega))
                  have e4 : wo.cell? ⟨b5, o5 + 4, none⟩ = some (.slice fa fn fc) := (HWw.out.cell (p := ⟨b5, o5 + 4, none⟩) h5).trans (hc 4 (by omega))
                  have e5 : wo.cell? ⟨b5, o5 + 5, none⟩ = some (.bool x.nt) := (HWw.out.cell (p := ⟨b5, o5 + 5, none⟩) h5).trans (hc 5 (by omega))
                  have eL : b5 < wo.heap.size := Nat.lt_of_lt_of_le h5 HWw.out.size
                  obtain ⟨rb, hrb⟩ : ∃ r, rs2[k]'hk2 = r := ⟨_, rfl⟩
                  rw [hrb] at HRb hc6
                  clear hrb
                  obtain ⟨rk, rab, ⟨ga2, gn2, gc2⟩, rbb, ⟨fa2, fn2, fc2⟩, rnt⟩ := rb
                  obtain rfl : rk = y.k := HRb.out.k
                  obtain rfl : rab = y.a.b := HRb.out.ab
                  obtain rfl : rbb = y.b.b := HRb.out.bb
                  obtain rfl : rnt = y.nt := HRb.out.nt
                  have HSag : Hid (Sl eSt 3 w (.slice ga2 gn2 gc2) y.a.st) := Lib.hid HRb.out.av
                  have HSbg : Hid (Sl eSt 3 w (.slice fa2 fn2 fc2) y.b.st) := Lib.hid HRb.out.bv
                  have g0 : wo.cell? ⟨b6, o6, none⟩ = some (.int .i64 y.k) := (HWw.out.cell (p := ⟨b6, o6, none⟩) h6).trans (hc6 0 (by omega))
                  have g1 : wo.cell? ⟨b6, o6 + 1, none⟩ = some (.string (bstr y.a.b)) := (HWw.out.cell (p := ⟨b6, o6 + 1, none⟩) h6).trans (hc6 1 (by omega))
                  have g2 : wo.cell? ⟨b6, o6 + 2, none⟩ = some (.slice ga2 gn2 gc2) := (HWw.out.cell (p := ⟨b6, o6 + 2, none⟩) h6).trans (hc6 2 (by omega))
                  have g3 : wo.cell? ⟨b6, o6 + 3, none⟩ = some (.string (bstr y.b.b)) := (HWw.out.cell (p := ⟨b6, o6 + 3, none⟩) h6).trans (hc6 3 (by omega))
                  have g4 : wo.cell? ⟨b6, o6 + 4, none⟩ = some (.slice fa2 fn2 fc2) := (HWw.out.cell (p := ⟨b6, o6 + 4, none⟩) h6).trans (hc6 4 (by omega))
                  have g5 : wo.cell? ⟨b6, o6 + 5, none⟩ = some (.bool y.nt) := (HWw.out.cell (p := ⟨b6, o6 + 5, none⟩) h6).trans (hc6 5 (by omega))
                  have gL : b6 < wo.heap.size := Nat.lt_of_lt_of_le h6 HWw.out.size
                  clear hc hc6 HRa HRb hk1 hk2
                  go_upto_region 6 with fail
                  go_cut [6, 7] (fun s6 s7 wx => ∃ X Y : Nat, s6 = .pointer (some ⟨X, 0, none⟩) ∧ s7 = .pointer (some ⟨Y, 0, none⟩) ∧ Hid (wx.heap[X]? = some (.cells #[.int .i64 x.k, .string (bstr x.a.b), .slice ga gn gc, .string (bstr x.b.b), .slice fa fn fc, .bool x.nt] 98 (0, 0))) ∧ Hid (wx.heap[Y]? = some (.cells #[.int .i64 y.k, .string (bstr y.a.b), .slice ga2 gn2 gc2, .string (bstr y.b.b), .slice fa2 fn2 fc2, .bool y.nt] 98 (0, 0))) ∧ Hid (Below wo.heap.size wo wx))
                  case first =>
                    refine wp_region_held_drew (S := fun u => Below wo.heap.size wo u) (by kernel_rfl) (Below.refl _ _).drew (fun hHeld => ?_)
                    refine wpAnyH_take (i := 0) (oi := { dst := some 57, op := Op.fieldAddr 52 (Operand.tmp 2) 0, type := 0, pos := "ref.go:324", after := #[], guard := none }) (v := ?_) rfl (by kernel_rfl) (by kernel_rfl) (by kernel_rfl) (fun _ _ _ h => h) (Or.inl ⟨by rfl, ?_⟩) (by assumption) ?_
                    rotate_left
                    · intro u hSu; have z0 := (hSu.cell (p := ⟨w.heap.size, 0, none⟩) hz0).trans a0; have z1 := (hSu.cell (p := ⟨w.heap.size + 1, 0, none⟩) hz1).trans c0; have z2 := (hSu.cell (p := ⟨b5, o5, none⟩) eL).trans e0; have z3 := (hSu.cell (p := ⟨b5, o5 + 1, none⟩) eL).trans e1; have z4 := (hSu.cell (p := ⟨b5, o5 + 2, none⟩) eL).trans e2; have z5 := (hSu.cell (p := ⟨b5, o5 + 3, none⟩) eL).trans e3; have z6 := (hSu.cell (p := ⟨b5, o5 + 4, none⟩) eL).trans e4; have z7 := (hSu.cell (p := ⟨b5, o5 + 5, none⟩) eL).trans e5; have z8 := (hSu.cell (p := ⟨b6, o6, none⟩) gL).trans g0; have z9 := (hSu.cell (p := ⟨b6, o6 + 1, none⟩) gL).trans g1; have z10 := (hSu.cell (p := ⟨b6, o6 + 2, none⟩) gL).trans g2; have z11 := (hSu.cell (p := ⟨b6, o6 + 3, none⟩) gL).trans g3; have z12 := (hSu.cell (p := ⟨b6, o6 + 4, none⟩) gL).trans g4; have z13 := (hSu.cell (p := ⟨b6, o6 + 5, none⟩) gL).trans g5; (go_simp <;> with_reducible rfl)
                    try simp only [Act.put, List.setIfInBounds_toArray, List.set_cons_zero, List.set_cons_succ]
                    refine wpAnyH_take (i := 1) (oi := { dst := some 58, op := Op.load 50 (Operand.tmp 57), type := 50, pos := "ref.go:324", after := #[{ on := 0, ground := Ground.data }], guard := none }) (v := ?_) rfl (by kernel_rfl) (by kernel_rfl) (by kernel_rfl) (fun _ _ _ h => h) (Or.inl ⟨by rfl, ?_⟩) (by assumption) ?_
                    rotate_left
                    · intro u hSu; have z0 := (hSu.cell (p := ⟨w.heap.size, 0, none⟩) hz0).trans a0; have z1 := (hSu.cell (p := ⟨w.heap.size + 1, 0, none⟩) hz1).trans c0; have z2 := (hSu.cell (p := ⟨b5, o5, none⟩) eL).trans e0; have z3 := (hSu.cell (p := ⟨b5, o5 + 1, none⟩) eL).trans e1; have z4 := (hSu.cell (p := ⟨b5, o5 + 2, none⟩) eL).trans e2; have z5 := (hSu.cell (p := ⟨b5, o5 + 3, none⟩) eL).trans e3; have z6 := (hSu.cell (p := ⟨b5, o5 + 4, none⟩) eL).trans e4; have z7 := (hSu.cell (p := ⟨b5, o5 + 5, none⟩) eL).trans e5; have z8 := (hSu.cell (p := ⟨b6, o6, none⟩) gL).trans g0; have z9 := (hSu.cell (p := ⟨b6, o6 + 1, none⟩) gL).trans g1; have z10 := (hSu.cell (p := ⟨b6, o6 + 2, none⟩) gL).trans g2; have z11 := (hSu.cell (p := ⟨b6, o6 + 3, none⟩) gL).trans g3; have z12 := (hSu.cell (p := ⟨b6, o6 + 4, none⟩) gL).trans g4; have z13 := (hSu.cell (p := ⟨b6, o6 + 5, none⟩) gL).trans g5; (go_simp <;> with_reducible rfl)
                    try simp only [Act.put, List.setIfInBounds_toArray, List.set_cons_zero, List.set_cons_succ]
                    refine wpAnyH_take (i := 2) (oi := { dst := some 59, op := Op.move (Operand.tmp 5), type := 3, pos := "ref.go:324", after := #[], guard := none }) (v := ?_) rfl (by kernel_rfl) (by kernel_rfl) (by kernel_rfl) (fun _ _ _ h => h) (Or.inl ⟨by rfl, ?_⟩) (by assumption) ?_
                    rotate_left
                    · intro u hSu; have z0 := (hSu.cell (p := ⟨w.heap.size, 0, none⟩) hz0).trans a0; have z1 := (hSu.cell (p := ⟨w.heap.size + 1, 0, none⟩) hz1).trans c0; have z2 := (hSu.cell (p := ⟨b5, o5, none⟩) eL).trans e0; have z3 := (hSu.cell (p := ⟨b5, o5 + 1, none⟩) eL).trans e1; have z4 := (hSu.cell (p := ⟨b5, o5 + 2, none⟩) eL).trans e2; have z5 := (hSu.cell (p := ⟨b5, o5 + 3, none⟩) eL).trans e3; have z6 := (hSu.cell (p := ⟨b5, o5 + 4, none⟩) eL).trans e4; have z7 := (hSu.cell (p := ⟨b5, o5 + 5, none⟩) eL).trans e5; have z8 := (hSu.cell (p := ⟨b6, o6, none⟩) gL).trans g0; have z9 := (hSu.cell (p := ⟨b6, o6 + 1, none⟩) gL).trans g1; have z10 := (hSu.cell (p := ⟨b6, o6 + 2, none⟩) gL).trans g2; have z11 := (hSu.cell (p := ⟨b6, o6 + 3, none⟩) gL).trans g3; have z12 := (hSu.cell (p := ⟨b6, o6 + 4, none⟩) gL).trans g4; have z13 := (hSu.cell (p := ⟨b6, o6 + 5, none⟩) gL).trans g5; (go_simp <;> with_reducible rfl)
                    try simp only [Act.put, List.setIfInBounds_toArray, List.set_cons_zero, List.set_cons_succ]
                    refine wpAnyH_take (i := 3) (oi := { dst := some 60, op := Op.indexAddr 50 (Operand.tmp 58) (Operand.tmp 59), type := 0, pos := "ref.go:324", after := #[{ on := 1, ground := Ground.data }, { on := 2, ground := Ground.data }], guard := none }) (v := ?_) rfl (by kernel_rfl) (by kernel_rfl) (by kernel_rfl) (fun _ _ _ h => h) (Or.inl ⟨by rfl, ?_⟩) (by assumption) ?_
                    rotate_left
                    · intro u hSu; have z0 := (hSu.cell (p := ⟨w.heap.size, 0, none⟩) hz0).trans a0; have z1 := (hSu.cell (p := ⟨w.heap.size + 1, 0, none⟩) hz1).trans c0; have z2 := (hSu.cell (p := ⟨b5, o5, none⟩) eL).trans e0; have z3 := (hSu.cell (p := ⟨b5, o5 + 1, none⟩) eL).trans e1; have z4 := (hSu.cell (p := ⟨b5, o5 + 2, none⟩) eL).trans e2; have z5 := (hSu.cell (p := ⟨b5, o5 + 3, none⟩) eL).trans e3; have z6 := (hSu.cell (p := ⟨b5, o5 + 4, none⟩) eL).trans e4; have z7 := (hSu.cell (p := ⟨b5, o5 + 5, none⟩) eL).trans e5; have z8 := (hSu.cell (p := ⟨b6, o6, none⟩) gL).trans g0; have z9 := (hSu.cell (p := ⟨b6, o6 + 1, none⟩) gL).trans g1; have z10 := (hSu.cell (p := ⟨b6, o6 + 2, none⟩) gL).trans g2; have z11 := (hSu.cell (p := ⟨b6, o6 + 3, none⟩) gL).trans g3; have z12 := (hSu.cell (p := ⟨b6, o6 + 4, none⟩) gL).trans g4; have z13 := (hSu.cell (p := ⟨b6, o6 + 5, none⟩) gL).trans g5; (go_simp <;> with_reducible rfl)
                    try simp only [Act.put, List.setIfInBounds_toArray, List.set_cons_zero, List.set_cons_succ]
                    refine wpAnyH_take (i := 4) (oi := { dst := some 61, op := Op.load 98 (Operand.tmp 60), type := 98, pos := "ref.go:324", after := #[{ on := 3, ground := Ground.data }], guard := none }) (v := ?_) rfl (by kernel_rfl) (by kernel_rfl) (by kernel_rfl) (fun _ _ _ h => h) (Or.inl ⟨by rfl, ?_⟩) (by assumption) ?_
                    rotate_left
                    · intro u hSu; have z0 := (hSu.cell (p := ⟨w.heap.size, 0, none⟩) hz0).trans a0; have z1 := (hSu.cell (p := ⟨w.heap.size + 1, 0, none⟩) hz1).trans c0; have z2 := (hSu.cell (p := ⟨b5, o5, none⟩) eL).trans e0; have z3 := (hSu.cell (p := ⟨b5, o5 + 1, none⟩) eL).trans e1; have z4 := (hSu.cell (p := ⟨b5, o5 + 2, none⟩) eL).trans e2; have z5 := (hSu.cell (p := ⟨b5, o5 + 3, none⟩) eL).trans e3; have z6 := (hSu.cell (p := ⟨b5, o5 + 4, none⟩) eL).trans e4; have z7 := (hSu.cell (p := ⟨b5, o5 + 5, none⟩) eL).trans e5; have z8 := (hSu.cell (p := ⟨b6, o6, none⟩) gL).trans g0; have z9 := (hSu.cell (p := ⟨b6, o6 + 1, none⟩) gL).trans g1; have z10 := (hSu.cell (p := ⟨b6, o6 + 2, none⟩) gL).trans g2; have z11 := (hSu.cell (p := ⟨b6, o6 + 3, none⟩) gL).trans g3; have z12 := (hSu.cell (p := ⟨b6, o6 + 4, none⟩) gL).trans g4; have z13 := (hSu.cell (p := ⟨b6, o6 + 5, none⟩) gL).trans g5; (go_simp <;> with_reducible rfl)
                    try simp only [Act.put, List.setIfInBounds_toArray, List.set_cons_zero, List.set_cons_succ]
                    refine wpAnyH_take (i := 5) (oi := { dst := some 62, op := Op.fieldAddr 52 (Operand.tmp 3) 0, type := 0, pos := "ref.go:324", after := #[{ on := 12, ground := Ground.gcOnly Departure.lateStores }], guard := none }) (v := ?_) rfl (by kernel_rfl) (by kernel_rfl) (by kernel_rfl) (fun _ _ _ h => h) (Or.inl ⟨by rfl, ?_⟩) (by assumption) ?_
                    rotate_left
                    · intro u hSu; have z0 := (hSu.cell (p := ⟨w.heap.size, 0, none⟩) hz0).trans a0; have z1 := (hSu.cell (p := ⟨w.heap.size + 1, 0, none⟩) hz1).trans c0; have z2 := (hSu.cell (p := ⟨b5, o5, none⟩) eL).trans e0; have z3 := (hSu.cell (p := ⟨b5, o5 + 1, none⟩) eL).trans e1; have z4 := (hSu.cell (p := ⟨b5, o5 + 2, none⟩) eL).trans e2; have z5 := (hSu.cell (p := ⟨b5, o5 + 3, none⟩) eL).trans e3; have z6 := (hSu.cell (p := ⟨b5, o5 + 4, none⟩) eL).trans e4; have z7 := (hSu.cell (p := ⟨b5, o5 + 5, none⟩) eL).trans e5; have z8 := (hSu.cell (p := ⟨b6, o6, none⟩) gL).trans g0; have z9 := (hSu.cell (p := ⟨b6, o6 + 1, none⟩) gL).trans g1; have z10 := (hSu.cell (p := ⟨b6, o6 + 2, none⟩) gL).trans g2; have z11 := (hSu.cell (p := ⟨b6, o6 + 3, none⟩) gL).trans g3; have z12 := (hSu.cell (p := ⟨b6, o6 + 4, none⟩) gL).trans g4; have z13 := (hSu.cell (p := ⟨b6, o6 + 5, none⟩) gL).trans g5; (go_simp <;> with_reducible rfl)
                    try simp only [Act.put, List.setIfInBounds_toArray, List.set_cons_zero, List.set_cons_succ]
                    refine wpAnyH_take (i := 6) (oi := { dst := some 63, op := Op.load 50 (Operand.tmp 62), type := 50, pos := "ref.go:324", after := #[{ on := 5, ground := Ground.data }, { on := 12, ground := Ground.gcOnly Departure.lateStores }], guard := none }) (v := ?_) rfl (by kernel_rfl) (by kernel_rfl) (by kernel_rfl) (fun _ _ _ h => h) (Or.inl ⟨by rfl, ?_⟩) (by assumption) ?_
                    rotate_left
                    · intro u hSu; have z0 := (hSu.cell (p := ⟨w.heap.size, 0, none⟩) hz0).trans a0; have z1 := (hSu.cell (p := ⟨w.heap.size + 1, 0, none⟩) hz1).trans c0; have z2 := (hSu.cell (p := ⟨b5, o5, none⟩) eL).trans e0; have z3 := (hSu.cell (p := ⟨b5, o5 + 1, none⟩) eL).trans e1; have z4 := (hSu.cell (p := ⟨b5, o5 + 2, none⟩) eL).trans e2; have z5 := (hSu.cell (p := ⟨b5, o5 + 3, none⟩) eL).trans e3; have z6 := (hSu.cell (p := ⟨b5, o5 + 4, none⟩) eL).trans e4; have z7 := (hSu.cell (p := ⟨b5, o5 + 5, none⟩) eL).trans e5; have z8 := (hSu.cell (p := ⟨b6, o6, none⟩) gL).trans g0; have z9 := (hSu.cell (p := ⟨b6, o6 + 1, none⟩) gL).trans g1; have z10 := (hSu.cell (p := ⟨b6, o6 + 2, none⟩) gL).trans g2; have z11 := (hSu.cell (p := ⟨b6, o6 + 3, none⟩) gL).trans g3; have z12 := (hSu.cell (p := ⟨b6, o6 + 4, none⟩) gL).trans g4; have z13 := (hSu.cell (p := ⟨b6, o6 + 5, none⟩) gL).trans g5; (go_simp <;> with_reducible rfl)
                    try simp only [Act.put, List.setIfInBounds_toArray, List.set_cons_zero, List.set_cons_succ]
                    refine wpAnyH_take (i := 7) (oi := { dst := some 64, op := Op.move (Operand.tmp 5), type := 3, pos := "ref.go:324", after := #[{ on := 12, ground := Ground.gcOnly Departure.lateStores }], guard := none }) (v := ?_) rfl (by kernel_rfl) (by kernel_rfl) (by kernel_rfl) (fun _ _ _ h => h) (Or.inl ⟨by rfl, ?_⟩) (by assumption) ?_
                    rotate_left
                    · intro u hSu; have z0 := (hSu.cell (p := ⟨w.heap.size, 0, none⟩) hz0).trans a0; have z1 := (hSu.cell (p := ⟨w.heap.size + 1, 0, none⟩) hz1).trans c0; have z2 := (hSu.cell (p := ⟨b5, o5, none⟩) eL).trans e0; have z3 := (hSu.cell (p := ⟨b5, o5 + 1, none⟩) eL).trans e1; have z4 := (hSu.cell (p := ⟨b5, o5 + 2, none⟩) eL).trans e2; have z5 := (hSu.cell (p := ⟨b5, o5 + 3, none⟩) eL).trans e3; have z6 := (hSu.cell (p := ⟨b5, o5 + 4, none⟩) eL).trans e4; have z7 := (hSu.cell (p := ⟨b5, o5 + 5, none⟩) eL).trans e5; have z8 := (hSu.cell (p := ⟨b6, o6, none⟩) gL).trans g0; have z9 := (hSu.cell (p := ⟨b6, o6 + 1, none⟩) gL).trans g1; have z10 := (hSu.cell (p := ⟨b6, o6 + 2, none⟩) gL).trans g2; have z11 := (hSu.cell (p := ⟨b6, o6 + 3, none⟩) gL).trans g3; have z12 := (hSu.cell (p := ⟨b6, o6 + 4, none⟩) gL).trans g4; have z13 := (hSu.cell (p := ⟨b6, o6 + 5, none⟩) gL).trans g5; (go_simp <;> with_reducible rfl)
                    try simp only [Act.put, List.setIfInBounds_toArray, List.set_cons_zero, List.set_cons_succ]
                    refine wpAnyH_take (i := 8) (oi := { dst := some 65, op := Op.indexAddr 50 (Operand.tmp 63) (Operand.tmp 64), type := 0, pos := "ref.go:324", after := #[{ on := 6, ground := Ground.data }, { on := 7, ground := Ground.data }, { on := 12, ground := Ground.gcOnly Departure.lateStores }], guard := none }) (v := ?_) rfl (by kernel_rfl) (by kernel_rfl) (by kernel_rfl) (fun _ _ _ h => h) (Or.inl ⟨by rfl, ?_⟩) (by assumption) ?_
                    rotate_left
                    · intro u hSu; have z0 := (hSu.cell (p := ⟨w.heap.size, 0, none⟩) hz0).trans a0; have z1 := (hSu.cell (p := ⟨w.heap.size + 1, 0, none⟩) hz1).trans c0; have z2 := (hSu.cell (p := ⟨b5, o5, none⟩) eL).trans e0; have z3 := (hSu.cell (p := ⟨b5, o5 + 1, none⟩) eL).trans e1; have z4 := (hSu.cell (p := ⟨b5, o5 + 2, none⟩) eL).trans e2; have z5 := (hSu.cell (p := ⟨b5, o5 + 3, none⟩) eL).trans e3; have z6 := (hSu.cell (p := ⟨b5, o5 + 4, none⟩) eL).trans e4; have z7 := (hSu.cell (p := ⟨b5, o5 + 5, none⟩) eL).trans e5; have z8 := (hSu.cell (p := ⟨b6, o6, none⟩) gL).trans g0; have z9 := (hSu.cell (p := ⟨b6, o6 + 1, none⟩) gL).trans g1; have z10 := (hSu.cell (p := ⟨b6, o6 + 2, none⟩) gL).trans g2; have z11 := (hSu.cell (p := ⟨b6, o6 + 3, none⟩) gL).trans g3; have z12 := (hSu.cell (p := ⟨b6, o6 + 4, none⟩) gL).trans g4; have z13 := (hSu.cell (p := ⟨b6, o6 + 5, none⟩) gL).trans g5; (go_simp <;> with_reducible rfl)
                    try simp only [Act.put, List.setIfInBounds_toArray, List.set_cons_zero, List.set_cons_succ]
                    refine wpAnyH_take (i := 9) (oi := { dst := some 66, op := Op.load 98 (Operand.tmp 65), type := 98, pos := "ref.go:324", after := #[{ on := 8, ground := Ground.data }, { on := 12, ground := Ground.gcOnly Departure.lateStores }], guard := none }) (v := ?_) rfl (by kernel_rfl) (by kernel_rfl) (by kernel_rfl) (fun _ _ _ h => h) (Or.inl ⟨by rfl, ?_⟩) (by assumption) ?_
                    rotate_left
                    · intro u hSu; have z0 := (hSu.cell (p := ⟨w.heap.size, 0, none⟩) hz0).trans a0; have z1 := (hSu.cell (p := ⟨w.heap.size + 1, 0, none⟩) hz1).trans c0; have z2 := (hSu.cell (p := ⟨b5, o5, none⟩) eL).trans e0; have z3 := (hSu.cell (p := ⟨b5, o5 + 1, none⟩) eL).trans e1; have z4 := (hSu.cell (p := ⟨b5, o5 + 2, none⟩) eL).trans e2; have z5 := (hSu.cell (p := ⟨b5, o5 + 3, none⟩) eL).trans e3; have z6 := (hSu.cell (p := ⟨b5, o5 + 4, none⟩) eL).trans e4; have z7 := (hSu.cell (p := ⟨b5, o5 + 5, none⟩) eL).trans e5; have z8 := (hSu.cell (p := ⟨b6, o6, none⟩) gL).trans g0; have z9 := (hSu.cell (p := ⟨b6, o6 + 1, none⟩) gL).trans g1; have z10 := (hSu.cell (p := ⟨b6, o6 + 2, none⟩) gL).trans g2; have z11 := (hSu.cell (p := ⟨b6, o6 + 3, none⟩) gL).trans g3; have z12 := (hSu.cell (p := ⟨b6, o6 + 4, none⟩) gL).trans g4; have z13 := (hSu.cell (p := ⟨b6, o6 + 5, none⟩) gL).trans g5; (go_simp <;> with_reducible rfl)
                    try simp only [Act.put, List.setIfInBounds_toArray, List.set_cons_zero, List.set_cons_succ]
                    refine wpAnyH_ready (rs := [10, 11]) (by kernel_rfl) (by simp) ?_
                    refine AllReadyH.cons (o := { dst := some 6, op := Op.alloc 98, type := 0, pos := "ref.go:324", after := #[], guard := none }) rfl (fun K hK => ?_) ?_
                    · go_simp
                      refine hK.out _ _ (hHeld.alloc (by simp) _) (fun hHeld => ?_)
                      clear hK K
                      try simp only [Act.put, List.setIfInBounds_toArray, List.set_cons_zero, List.set_cons_succ]
                      refine wpAnyH_ready (rs := [11]) (by kernel_rfl) (by simp) ?_
                      refine AllReadyH.cons (o := { dst := some 7, op := Op.alloc 98, type := 0, pos := "ref.go:324", after := #[], guard := none }) rfl (fun K hK => ?_) AllReadyH.nil
                      go_simp
                      refine hK.out _ _ (hHeld.alloc (by simp) _) (fun hHeld => ?_)
                      clear hK K
                      try simp only [Act.put, List.setIfInBounds_toArray, List.set_cons_zero, List.set_cons_succ]
                      have HZ0 := Lib.hid (show ((wo.alloc (.cells #[.int .i64 0, .string ⟨#[]⟩, .slice none 0 0, .string ⟨#[]⟩, .slice none 0 0, .bool false] 98)).alloc (.cells #[.int .i64 0, .string ⟨#[]⟩, .slice none 0 0, .string ⟨#[]⟩, .slice none 0 0, .bool false] 98)).drew.heap[wo.heap.size]? = some z98 from heap_keep (heap_alloc_new wo _))
                      have HZ1 := Lib.hid (show ((wo.alloc (.cells #[.int .i64 0, .string ⟨#[]⟩, .slice none 0 0, .string ⟨#[]⟩, .slice none 0 0, .bool false] 98)).alloc (.cells #[.int .i64 0, .string ⟨#[]⟩, .slice none 0 0, .string ⟨#[]⟩, .slice none 0 0, .bool false] 98)).drew.heap[wo.heap.size + 1]? = some z98 from (by have := heap_alloc_new (wo.alloc (.cells #[.int .i64 0, .string ⟨#[]⟩, .slice none 0 0, .string ⟨#[]⟩, .slice none 0 0, .bool false] 98)) (.cells #[.int .i64 0, .string ⟨#[]⟩, .slice none 0 0, .string ⟨#[]⟩, .slice none 0 0, .bool false] 98); rw [show (wo.alloc (.cells #[.int .i64 0, .string ⟨#[]⟩, .slice none 0 0, .string ⟨#[]⟩, .slice none 0 0, .bool false] 98)).heap.size = wo.heap.size + 1 by simp] at this; exact this))
                      generalize ((wo.alloc (.cells #[.int .i64 0, .string ⟨#[]⟩, .slice none 0 0, .string ⟨#[]⟩, .slice none 0 0, .bool false] 98)).alloc (.cells #[.int .i64 0, .string ⟨#[]⟩, .slice none 0 0, .string ⟨#[]⟩, .slice none 0 0, .bool false] 98)).drew = wn at HZ0 HZ1 hHeld ⊢
                      obtain ⟨-, y0, y1, y2, y3, y4, y5⟩ := six_cells HZ0.out
                      obtain ⟨-, z0, z1, z2, z3, z4, z5⟩ := six_cells HZ1.out
                      have yf := bk_frozen ⟨_, HZ0.out⟩
                      have zf := bk_frozen ⟨_, HZ1.out⟩
                      have hBX : Below wo.heap.size wo ((((((wn.setCell ⟨wo.heap.size, 0, none⟩ (.int .i64 x.k)).setCell ⟨wo.heap.size, 1, none⟩ (.string (bstr x.a.b))).setCell ⟨wo.heap.size, 2, none⟩ (.slice ga gn gc)).setCell ⟨wo.heap.size, 3, none⟩ (.string (bstr x.b.b))).setCell ⟨wo.heap.size, 4, none⟩ (.slice fa fn fc)).setCell ⟨wo.heap.size, 5, none⟩ (.bool x.nt)) := by
                        iterate 6 (refine Below.setCell ?_ (by simp only []; omega) _)
                        exact hHeld
                      have hX6 := six_set HZ0.out (.int .i64 x.k) (.string (bstr x.a.b)) (.slice ga gn gc) (.string (bstr x.b.b)) (.slice fa fn fc) (.bool x.nt)
                      have hY6 := (six_keep wn (b := wo.heap.size) (k := wo.heap.size + 1) (by omega) (.int .i64 x.k) (.string (bstr x.a.b)) (.slice ga gn gc) (.string (bstr x.b.b)) (.slice fa fn fc) (.bool x.nt)).trans HZ1.out
                      refine wpAnyH_ready (rs := [12]) (by kernel_rfl) (by simp) ?_
                      refine AllReadyH.cons (o := { dst := none, op := Op.store 98 (Operand.tmp 6) (Operand.tmp 61), type := 0, pos := "ref.go:324", after := #[{ on := 10, ground := Ground.data }, { on := 4, ground := Ground.data }, { on := 0, ground := Ground.phase }, { on := 1, ground := Ground.phase }, { on := 2, ground := Ground.phase }, { on := 3, ground := Ground.phase }, { on := 4, ground := Ground.phase }, { on := 5, ground := Ground.textOnly Departure.lateStores }, { on := 6, ground := Ground.textOnly Departure.lateStores }, { on := 7, ground := Ground.textOnly Departure.lateStores }, { on := 8, ground := Ground.textOnly Departure.lateStores }, { on := 9, ground := Ground.textOnly Departure.lateStores }, { on := 10, ground := Ground.phase }, { on := 11, ground := Ground.phase }], guard := none }) rfl (fun K hK => ?_) AllReadyH.nil
                      go_simp
                      generalize ((((((wn.setCell ⟨wo.heap.size, 0, none⟩ (.int .i64 x.k)).setCell ⟨wo.heap.size, 1, none⟩ (.string (bstr x.a.b))).setCell ⟨wo.heap.size, 2, none⟩ (.slice ga gn gc)).setCell ⟨wo.heap.size, 3, none⟩ (.string (bstr x.b.b))).setCell ⟨wo.heap.size, 4, none⟩ (.slice fa fn fc)).setCell ⟨wo.heap.size, 5, none⟩ (.bool x.nt)) = wm at hBX hX6 hY6 ⊢
                      clear y0 y1 y2 y3 y4 y5 z0 z1 z2 z3 z4 z5 yf zf
                      refine hK.out _ _ hBX (fun hHeld => ?_)
                      clear hK K
                      try simp only [Act.put, List.setIfInBounds_toArray, List.set_cons_zero, List.set_cons_succ]
                      obtain ⟨-, y0, y1, y2, y3, y4, y5⟩ := six_cells hY6
                      have yf := bk_frozen ⟨_, hY6⟩
                      have hBY : Below wo.heap.size wo ((((((wm.setCell ⟨wo.heap.size + 1, 0, none⟩ (.int .i64 y.k)).setCell ⟨wo.heap.size + 1, 1, none⟩ (.string (bstr y.a.b))).setCell ⟨wo.heap.size + 1, 2, none⟩ (.slice ga2 gn2 gc2)).setCell ⟨wo.heap.size + 1, 3, none⟩ (.string (bstr y.b.b))).setCell ⟨wo.heap.size + 1, 4, none⟩ (.slice fa2 fn2 fc2)).setCell ⟨wo.heap.size + 1, 5, none⟩ (.bool y.nt)) := by
                        iterate 6 (refine Below.setCell ?_ (by simp only []; omega) _)
                        exact hBX
                      have HY7 := Lib.hid (six_set hY6 (.int .i64 y.k) (.string (bstr y.a.b)) (.slice ga2 gn2 gc2) (.string (bstr y.b.b)) (.slice fa2 fn2 fc2) (.bool y.nt))
                      have HX7 := Lib.hid ((six_keep wm (b := wo.heap.size + 1) (k := wo.heap.size) (by omega) (.int .i64 y.k) (.string (bstr y.a.b)) (.slice ga2 gn2 gc2) (.string (bstr y.b.b)) (.slice fa2 fn2 fc2) (.bool y.nt)).trans hX6)
                      have HBY := Lib.hid hBY
                      clear hX6 hY6
                      refine wpAnyH_ready (rs := [13]) (by kernel_rfl) (by simp) ?_
                      refine AllReadyH.cons (o := { dst := none, op := Op.store 98 (Operand.tmp 7) (Operand.tmp 66), type := 0, pos := "ref.go:324", after := #[{ on := 11, ground := Ground.data }, { on := 9, ground := Ground.data }, { on := 12, ground := Ground.chain }, { on := 0, ground := Ground.phase }, { on := 1, ground := Ground.phase }, { on := 2, ground := Ground.phase }, { on := 3, ground := Ground.phase }, { on := 4, ground := Ground.phase }, { on := 5, ground := Ground.phase }, { on := 6, ground := Ground.phase }, { on := 7, ground := Ground.phase }, { on := 8, ground := Ground.phase }, { on := 9, ground := Ground.phase }, { on := 10, ground := Ground.phase }, { on := 11, ground := Ground.phase }, { on := 12, ground := Ground.phase }], guard := none }) rfl (fun K hK => ?_) AllReadyH.nil
                      go_simp
                      generalize ((((((wm.setCell ⟨wo.heap.size + 1, 0, none⟩ (.int .i64 y.k)).setCell ⟨wo.heap.size + 1, 1, none⟩ (.string (bstr y.a.b))).setCell ⟨wo.heap.size + 1, 2, none⟩ (.slice ga2 gn2 gc2)).setCell ⟨wo.heap.size + 1, 3, none⟩ (.string (bstr y.b.b))).setCell ⟨wo.heap.size + 1, 4, none⟩ (.slice fa2 fn2 fc2)).setCell ⟨wo.heap.size + 1, 5, none⟩ (.bool y.nt)) = wl at hBY HY7 HX7 HBY ⊢
                      clear y0 y1 y2 y3 y4 y5 yf
                      refine hK.out _ _ hBY (fun hHeld => ?_)
                      clear hK K
                      try simp only [Act.put, List.setIfInBounds_toArray, List.set_cons_zero, List.set_cons_succ]
                      refine wpAnyH_done (by kernel_rfl) ?_ _
                      go_wp2_with fail
                      go_meet
                      exact ⟨_, _, rfl, rfl, HX7, HY7, HBY⟩
                    refine AllReadyH.cons (o := { dst := some 7, op := Op.alloc 98, type := 0, pos := "ref.go:324", after := #[], guard := none }) rfl (fun K hK => ?_) AllReadyH.nil
                    go_simp
                    refine hK.out _ _ (hHeld.alloc (by simp) _) (fun hHeld => ?_)
                    clear hK K
                    try simp only [Act.put, List.setIfInBounds_toArray, List.set_cons_zero, List.set_cons_succ]
                    refine wpAnyH_ready (rs := [10]) (by kernel_rfl) (by simp) ?_
                    refine AllReadyH.cons (o := { dst := some 6, op := Op.alloc 98, type := 0, pos := "ref.go:324", after := #[], guard := none }) rfl (fun K hK => ?_) AllReadyH.nil
                    go_simp
                    refine hK.out _ _ (hHeld.alloc (by simp) _) (fun hHeld => ?_)
                    clear hK K
                    try simp only [Act.put, List.setIfInBounds_toArray, List.set_cons_zero, List.set_cons_succ]
                    have HZ0 := Lib.hid (show ((wo.alloc (.cells #[.int .i64 0, .string ⟨#[]⟩, .slice none 0 0, .string ⟨#[]⟩, .slice none 0 0, .bool false] 98)).alloc (.cells #[.int .i64 0, .string ⟨#[]⟩, .slice none 0 0, .string ⟨#[]⟩, .slice none 0 0, .bool false] 98)).drew.heap[wo.heap.size]? = some z98 from heap_keep (heap_alloc_new wo _))
                    have HZ1 := Lib.hid (show ((wo.alloc (.cells #[.int .i64 0, .string ⟨#[]⟩, .slice none 0 0, .string ⟨#[]⟩, .slice none 0 0, .bool false] 98)).alloc (.cells #[.int .i64 0, .string ⟨#[]⟩, .slice none 0 0, .string ⟨#[]⟩, .slice none 0 0, .bool false] 98)).drew.heap[wo.heap.size + 1]? = some z98 from (by have := heap_alloc_new (wo.alloc (.cells #[.int .i64 0, .string ⟨#[]⟩, .slice none 0 0, .string ⟨#[]⟩, .slice none 0 0, .bool false] 98)) (.cells #[.int .i64 0, .string ⟨#[]⟩, .slice none 0 0, .string ⟨#[]⟩, .slice none 0 0, .bool false] 98); rw [show (wo.alloc (.cells #[.int .i64 0, .string ⟨#[]⟩, .slice none 0 0, .string ⟨#[]⟩, .slice none 0 0, .bool false] 98)).heap.size = wo.heap.size + 1 by simp] at this; exact this))
                    generalize ((wo.alloc (.cells #[.int .i64 0, .string ⟨#[]⟩, .slice none 0 0, .string ⟨#[]⟩, .slice none 0 0, .bool false] 98)).alloc (.cells #[.int .i64 0, .string ⟨#[]⟩, .slice none 0 0, .string ⟨#[]⟩, .slice none 0 0, .bool false] 98)).drew = wn at HZ0 HZ1 hHeld ⊢
                    obtain ⟨-, y0, y1, y2, y3, y4, y5⟩ := six_cells HZ0.out
                    obtain ⟨-, z0, z1, z2, z3, z4, z5⟩ := six_cells HZ1.out
                    have yf := bk_frozen ⟨_, HZ0.out⟩
                    have zf := bk_frozen ⟨_, HZ1.out⟩
                    have hBX : Below wo.heap.size wo ((((((wn.setCell ⟨wo.heap.size + 1, 0, none⟩ (.int .i64 x.k)).setCell ⟨wo.heap.size + 1, 1, none⟩ (.string (bstr x.a.b))).setCell ⟨wo.heap.size + 1, 2, none⟩ (.slice ga gn gc)).setCell ⟨wo.heap.size + 1, 3, none⟩ (.string (bstr x.b.b))).setCell ⟨wo.heap.size + 1, 4, none⟩ (.slice fa fn fc)).setCell ⟨wo.heap.size + 1, 5, none⟩ (.bool x.nt)) := by
                      iterate 6 (refine Below.setCell ?_ (by simp only []; omega) _)
                      exact hHeld
                    have hX6 := six_set HZ1.out (.int .i64 x.k) (.string (bstr x.a.b)) (.slice ga gn gc) (.string (bstr x.b.b)) (.slice fa fn fc) (.bool x.nt)
                    have hY6 := (six_keep wn (b := wo.heap.size + 1) (k := wo.heap.size) (by omega) (.int .i64 x.k) (.string (bstr x.a.b)) (.slice ga gn gc) (.string (bstr x.b.b)) (.slice fa fn fc) (.bool x.nt)).trans HZ0.out
                    refine wpAnyH_ready (rs := [12]) (by kernel_rfl) (by simp) ?_
                    refine AllReadyH.cons (o := { dst := none, op := Op.store 98 (Operand.tmp 6) (Operand.tmp 61), type := 0, pos := "ref.go:324", after := #[{ on := 10, ground := Ground.data }, { on := 4, ground := Ground.data }, { on := 0, ground := Ground.phase }, { on := 1, ground := Ground.phase }, { on := 2, ground := Ground.phase }, { on := 3, ground := Ground.phase }, { on := 4, ground := Ground.phase }, { on := 5, ground := Ground.textOnly Departure.lateStores }, { on := 6, ground := Ground.textOnly Departure.lateStores }, { on := 7, ground := Ground.textOnly Departure.lateStores }, { on := 8, ground := Ground.textOnly Departure.lateStores }, { on := 9, ground := Ground.textOnly Departure.lateStores }, { on := 10, ground := Ground.phase }, { on := 11, ground := Ground.phase }], guard := none }) rfl (fun K hK => ?_) AllReadyH.nil
                    go_simp
                    generalize ((((((wn.setCell ⟨wo.heap.size + 1, 0, none⟩ (.int .i64 x.k)).setCell ⟨wo.heap.size + 1, 1, none⟩ (.string (bstr x.a.b))).setCell ⟨wo.heap.size + 1, 2, none⟩ (.slice ga gn gc)).setCell ⟨wo.heap.size + 1, 3, none⟩ (.string (bstr x.b.b))).setCell ⟨wo.heap.size + 1, 4, none⟩ (.slice fa fn fc)).setCell ⟨wo.heap.size + 1, 5, none⟩ (.bool x.nt)) = wm at hBX hX6 hY6 ⊢
                    clear y0 y1 y2 y3 y4 y5 z0 z1 z2 z3 z4 z5 yf zf
                    refine hK.out _ _ hBX (fun hHeld => ?_)
                    clear hK K
                    try simp only [Act.put, List.setIfInBounds_toArray, List.set_cons_zero, List.set_cons_succ]
                    obtain ⟨-, y0, y1, y2, y3, y4, y5⟩ := six_cells hY6
                    have yf := bk_frozen ⟨_, hY6⟩
                    have hBY : Below wo.heap.size wo ((((((wm.setCell ⟨wo.heap.size, 0, none⟩ (.int .i64 y.k)).setCell ⟨wo.heap.size, 1, none⟩ (.string (bstr y.a.b))).setCell ⟨wo.heap.size, 2, none⟩ (.slice ga2 gn2 gc2)).setCell ⟨wo.heap.size, 3, none⟩ (.string (bstr y.b.b))).setCell ⟨wo.heap.size, 4, none⟩ (.slice fa2 fn2 fc2)).setCell ⟨wo.heap.size, 5, none⟩ (.bool y.nt)) := by
                      iterate 6 (refine Below.setCell ?_ (by simp only []; omega) _)
                      exact hBX
                    have HY7 := Lib.hid (six_set hY6 (.int .i64 y.k) (.string (bstr y.a.b)) (.slice ga2 gn2 gc2) (.string (bstr y.b.b)) (.slice fa2 fn2 fc2) (.bool y.nt))
                    have HX7 := Lib.hid ((six_keep wm (b := wo.heap.size) (k := wo.heap.size + 1) (by omega) (.int .i64 y.k) (.string (bstr y.a.b)) (.slice ga2 gn2 gc2) (.string (bstr y.b.b)) (.slice fa2 fn2 fc2) (.bool y.nt)).trans hX6)
                    have HBY := Lib.hid hBY
                    clear hX6 hY6
                    refine wpAnyH_ready (rs := [13]) (by kernel_rfl) (by simp) ?_
                    refine AllReadyH.cons (o := { dst := none, op := Op.store 98 (Operand.tmp 7) (Operand.tmp 66), type := 0, pos := "ref.go:324", after := #[{ on := 11, ground := Ground.data }, { on := 9, ground := Ground.data }, { on := 12, ground := Ground.chain }, { on := 0, ground := Ground.phase }, { on := 1, ground := Ground.phase }, { on := 2, ground := Ground.phase }, { on := 3, ground := Ground.phase }, { on := 4, ground := Ground.phase }, { on := 5, ground := Ground.phase }, { on := 6, ground := Ground.phase }, { on := 7, ground := Ground.phase }, { on := 8, ground := Ground.phase }, { on := 9, ground := Ground.phase }, { on := 10, ground := Ground.phase }, { on := 11, ground := Ground.phase }, { on := 12, ground := Ground.phase }], guard := none }) rfl (fun K hK => ?_) AllReadyH.nil
                    go_simp
                    generalize ((((((wm.setCell ⟨wo.heap.size, 0, none⟩ (.int .i64 y.k)).setCell ⟨wo.heap.size, 1, none⟩ (.string (bstr y.a.b))).setCell ⟨wo.heap.size, 2, none⟩ (.slice ga2 gn2 gc2)).setCell ⟨wo.heap.size, 3, none⟩ (.string (bstr y.b.b))).setCell ⟨wo.heap.size, 4, none⟩ (.slice fa2 fn2 fc2)).setCell ⟨wo.heap.size, 5, none⟩ (.bool y.nt)) = wl at hBY HY7 HX7 HBY ⊢
                    clear y0 y1 y2 y3 y4 y5 yf
                    refine hK.out _ _ hBY (fun hHeld => ?_)
                    clear hK K
                    try simp only [Act.put, List.setIfInBounds_toArray, List.set_cons_zero, List.set_cons_succ]
                    refine wpAnyH_done (by kernel_rfl) ?_ _
                    go_wp2_with fail
                    go_meet
                    exact ⟨_, _, rfl, rfl, HX7, HY7, HBY⟩
                  case rest =>
                    obtain ⟨wp, hwp⟩ : ∃ u : World, u = wc := ⟨_, rfl⟩
                    obtain ⟨X, Y, rfl, rfl, HX, HY, HB⟩ := hcut
                    rw [← hwp] at HX HY HB ⊢
                    clear hwp a0 a1 c0 c1 hix hix6 e0 e1 e2 e3 e4 e5 g0 g1 g2 g3 g4 g5 eL gL h5 h6 hz0 hz1 L1 L2
                    obtain ⟨-, a0, a1, a2, a3, a4, a5⟩ := six_cells HX.out
                    obtain ⟨-, c0, c1, c2, c3, c4, c5⟩ := six_cells HY.out
                    have HWp := Lib.hid (HWw.out.trans (HB.out.mono HWw.out.size))
                    have HBW := Lib.hid (HW.out.trans (HB.out.mono HW.out.size))
                    by_cases hk0 : x.k = y.k
                    · have tk : (x.k != y.k) = false := by rw [hk0]; exact bne_self_eq_false _
                      by_cases hnt : x.nt = y.nt
                      · rw [hnt] at a5
                        have HK0 := Lib.hid hk0
                        have HNt := Lib.hid hnt
                        clear hk0 hnt
                        go_wp2_with fail
                        refine (sameRev_any x.a y.a (.slice ga gn gc) (.slice ga2 gn2 gc2) _ (HSae.out.ext HWp.out) (HSag.out.ext HWp.out)).mono ?_
                        rintro e u1 ⟨rfl, hb1⟩
                        have HX1 := Lib.hid ((hb1.block _ (Array.getElem?_eq_some_iff.1 HX.out).1).trans HX.out)
                        have HY1 := Lib.hid ((hb1.block _ (Array.getElem?_eq_some_iff.1 HY.out).1).trans HY.out)
                        have HWq := Lib.hid (HWp.out.trans (hb1.mono HWp.out.size))
                        have HBq := Lib.hid (HBW.out.trans (hb1.mono HBW.out.size))
                        clear hb1 a0 a1 a2 a3 a4 a5 c0 c1 c2 c3 c4 c5
                        obtain ⟨-, a0, a1, a2, a3, a4, a5⟩ := six_cells HX1.out
                        obtain ⟨-, c0, c1, c2, c3, c4, c5⟩ := six_cells HY1.out
                        by_cases ha : x.a = y.a
                        · have ta : decide (x.a = y.a) = true := decide_eq_true ha
                          have HAa := Lib.hid ha
                          rw [ta]
                          clear ha ta
                          go_wp2_with fail
                          refine (sameRev_any x.b y.b (.slice fa fn fc) (.slice fa2 fn2 fc2) _ (HSbe.out.ext HWq.out) (HSbg.out.ext HWq.out)).mono ?_
                          rintro e u2 ⟨rfl, hb2⟩
                          have HWr := Lib.hid (HWq.out.trans (hb2.mono HWq.out.size))
                          have HBr := Lib.hid (HBq.out.trans (hb2.mono HBq.out.size))
                          clear hb2 a0 a1 a2 a3 a4 a5 c0 c1 c2 c3 c4 c5
                          by_cases hb : x.b = y.b
                          · have tb : decide (x.b = y.b) = true := decide_eq_true hb
                            have HT2 : Hid (its.take (k + 1) = its2.take (k + 1)) := Lib.hid (by
                              rw [List.take_succ_eq_append_getElem hlt, List.take_succ_eq_append_getElem hlt2, HT.out, hx.out, hy.out]
                              have q1 := HK0.out
                              have q2 := HNt.out
                              have q3 := HAa.out
                              cases x; cases y; simp only at q1 q2 q3 hb; rw [q1, q2, q3, hb])
                            rw [tb]
                            clear hb tb
                            go_wp2_with fail
                            go_roundw
                            case rel => exact ⟨k + 1, by omega, by go_num, HT2, HBr⟩
                            case measure => simp [intOf]; omega
                          · have tb : decide (x.b = y.b) = false := decide_eq_false hb
                            have HZ : Hid (decide ((⟨its, mx, sk, od, fi, rv⟩ : Qy) = ⟨its2, mx, sk, od, fi, rv⟩) = false) := Lib.hid (decide_eq_false (fun e => hb (by have e2 : its[k] = its2[k] := (by cases e; rfl); rw [hx.out, hy.out] at e2; rw [e2])))
                            rw [tb]
                            clear hb tb
                            go_wp2_with fail
                            go_ret
                            exact ⟨ret_bool HZ.out.symm, HWr.out⟩
                        · have ta : decide (x.a = y.a) = false := decide_eq_false ha
                          have HZ : Hid (decide ((⟨its, mx, sk, od, fi, rv⟩ : Qy) = ⟨its2, mx, sk, od, fi, rv⟩) = false) := Lib.hid (decide_eq_false (fun e => ha (by have e2 : its[k] = its2[k] := (by cases e; rfl); rw [hx.out, hy.out] at e2; rw [e2])))
                          rw [ta]
                          clear ha ta
                          go_wp2_with fail
                          go_ret
                          exact ⟨ret_bool HZ.out.symm, HWq.out⟩
                      · have HZ : Hid (decide ((⟨its, mx, sk, od, fi, rv⟩ : Qy) = ⟨its2, mx, sk, od, fi, rv⟩) = false) := Lib.hid (decide_eq_false (fun e => hnt (by have e2 : its[k] = its2[k] := (by cases e; rfl); rw [hx.out, hy.out] at e2; rw [e2])))
                        obtain ⟨b1, hp1⟩ : ∃ b, x.nt = b := ⟨_, rfl⟩
                        obtain ⟨b2, hp2⟩ : ∃ b, y.nt = b := ⟨_, rfl⟩
                        rw [hp1] at a5 hnt
                        rw [hp2] at c5 hnt
                        clear hp1 hp2 hk0 HX HY
                        cases b1 <;> cases b2 <;> first | exact absurd rfl hnt | (
                          clear hnt
                          go_wp2_with fail
                          go_ret
                          exact ⟨ret_bool HZ.out.symm, HWp.out⟩)
                    · have tk : (x.k != y.k) = true := bne_iff_ne.2 hk0
                      have HZ : Hid (decide ((⟨its, mx, sk, od, fi, rv⟩ : Qy) = ⟨its2, mx, sk, od, fi, rv⟩) = false) := Lib.hid (decide_eq_false (fun e => hk0 (by have e2 : its[k] = its2[k] := (by cases e; rfl); rw [hx.out, hy.out] at e2; rw [e2])))
                      clear hk0
                      go_wp2_with fail
                      go_ret
                      exact ⟨ret_bool HZ.out.symm, HWp.out⟩
                · obtain rfl : k = its.length := by omega
                  have HZ : Hid (decide ((⟨its, mx, sk, od, fi, rv⟩ : Qy) = ⟨its2, mx, sk, od, fi, rv⟩) = true) := Lib.hid (decide_eq_true (by
                    have h3 := HT.out
                    rw [List.take_length, Hn.out, List.take_length] at h3
                    rw [h3]))
                  go_wp2_with fail
                  go_ret
                  exact ⟨ret_bool HZ.out.symm, HWw.out⟩
            · have HZ : Hid (decide ((⟨its, mx, sk, od, fi, rv⟩ : Qy) = ⟨its2, mx, sk, od, fi, rv⟩) = false) := Lib.hid (decide_eq_false (fun e => hn (by cases e; rfl)))
              have tn : ((its.length : Int) != (its2.length : Int)) = true := by rw [bne_iff_ne]; omega
              clear hn
              go_enter Try.func25, Try.ntmps25
              go_wp2_with fail
              go_ret
              exact ⟨ret_bool HZ.out.symm, HA.out⟩
          · have HZ : Hid (decide ((⟨its, mx, sk, od, fi, rv⟩ : Qy) = ⟨its2, mx, sk, od, fi, rv2⟩) = false) := Lib.hid (decide_eq_false (fun e => hr (by cases e; rfl)))
            cases rv <;> cases rv2 <;> first | exact absurd rfl hr | (
              clear hr
              go_enter Try.func25, Try.ntmps25
              go_wp2_with fail
              go_ret
              exact ⟨ret_bool HZ.out.symm, HA.out⟩)
        · have HZ : Hid (decide ((⟨its, mx, sk, od, fi, rv⟩ : Qy) = ⟨its2, mx, sk, od, fi2, rv2⟩) = false) := Lib.hid (decide_eq_false (fun e => hf (by cases e; rfl)))
          cases fi <;> cases fi2 <;> first | exact absurd rfl hf | (
            clear hf
            go_enter Try.func25, Try.ntmps25
            go_wp2_with fail
            go_ret
            exact ⟨ret_bool HZ.out.symm, HA.out⟩)
      · have HZ : Hid (decide ((⟨its, mx, sk, od, fi, rv⟩ : Qy) = ⟨its2, mx, sk, od2, fi2, rv2⟩) = false) := Lib.hid (decide_eq_false (fun e => ho (by cases e; rfl)))
        have tyo : (od != od2) = true := bne_iff_ne.2 ho
        clear ho
        go_enter Try.func25, Try.ntmps25
        go_wp2_with fail
        go_ret
        exact ⟨ret_bool HZ.out.symm, HA.out⟩
    · have HZ : Hid (decide ((⟨its, mx, sk, od, fi, rv⟩ : Qy) = ⟨its2, mx, sk2, od2, fi2, rv2⟩) = false) := Lib.hid (decide_eq_false (fun e => hs (by cases e; rfl)))
      have tys : (sk != sk2) = true := bne_iff_ne.2 hs
      clear hs
      go_enter Try.func25, Try.ntmps25
      go_wp2_with fail
      go_ret
      exact ⟨ret_bool HZ.out.symm, HA.out⟩
  · have HZ : Hid (decide ((⟨its, mx, sk, od, fi, rv⟩ : Qy) = ⟨its2, mx2, sk2, od2, fi2, rv2⟩) = false) := Lib.hid (decide_eq_false (fun e => hm (by cases e; rfl)))
    have tym : (mx != mx2) = true := bne_iff_ne.2 hm
    clear hm
    go_enter Try.func25, Try.ntmps25
    go_wp2_with fail
    go_ret
    exact ⟨ret_bool HZ.out.symm, HA.out⟩
theorem dsame_any (iv iv2 : Value) (q q2 : Qy) (w : World) (h1 : IS w iv q.its) (h2 : IS w iv2 q2.its) : Calls Try.prog 25 #[qv iv q, qv iv2 q2] w fun e w' => e = .returned (.bool (decide (q = q2))) ∧ Below w.heap.size w w' :=
  dsame_aux iv iv2 q.its q2.its q.mx q.sk q.od q2.mx q2.sk q2.od q.fi q.rv q2.fi q2.rv w h1 h2
end Go.Proofs.Ytolahnnkdpbdfaa

namespace Go.Prs
def exQ : Qy := ⟨[⟨1, ⟨[109, 97, 105, 110], [⟨2, 2, []⟩]⟩, zRv, true⟩, ⟨3, ⟨[97], []⟩, ⟨[98], []⟩, true⟩], -1, 0, 0, false, false⟩
theorem parse_ex : parse [94, 109, 97, 105, 110, 126, 50, 32, 45, 45, 110, 111, 116, 32, 97, 46, 46, 46, 98] = (exQ, 0, 0) := by decide +kernel
end Go.Prs
namespace Go.Proofs.Ytolahnnkdpbdfaa
open Go.Proofs Go.RowKit Go.Shelf Go.Sl Go.Prs
set_option maxRecDepth 100000 in
set_option maxHeartbeats 8000000 in
theorem works28_any (w : World) (hm : Ml w) : Calls Try.prog 22 #[] w fun e w' => e = .returned (.bool true) ∧ Below w.heap.size w w' := by
  have HP := Lib.hid (parse1_any [94, 109, 97, 105, 110, 126, 50, 32, 45, 45, 110, 111, 116, 32, 97, 46, 46, 46, 98] w (by simp) hm)
  rw [parse_ex] at HP
  clear hm
  go_enter Try.func22, Try.ntmps22
  go_wp2_with fail
  refine HP.out.mono ?_
  rintro e w1 ⟨hb, iv, rfl, hq⟩
  have HB := Lib.hid hb
  obtain ⟨rs, hsl, hra⟩ := hq.is
  have hlen : rs.length = 2 := hra.len
  obtain ⟨b1, o1, h1, hix1, hc1⟩ := hsl.at (P := Try.prog) Try.underlying45 cells83 some83 (k := 0) (by omega)
  obtain ⟨b2, o2, h2, hix2, hc2⟩ := hsl.at (P := Try.prog) Try.underlying45 cells83 some83 (k := 1) (by omega)
  have hr1 := hra.get 0 (by omega) (by decide)
  have hr2 := hra.get 1 (by omega) (by decide)
  obtain ⟨ao, cap, rfl, -⟩ := hsl.shp
  rw [hlen]
  have c1k : w1.cell? ⟨b1, o1, none⟩ = some (.int .i64 1) := by have := hc1 0 (by omega); simp [eRi, hr1.k, exQ] at this; simpa using this
  have c1n : w1.cell? ⟨b1, o1 + 5, none⟩ = some (.bool true) := by have := hc1 5 (by omega); simp [eRi, hr1.nt, exQ] at this; simpa using this
  have c2k : w1.cell? ⟨b2, o2, none⟩ = some (.int .i64 3) := by have := hc2 0 (by omega); simp [eRi, hr2.k, exQ] at this; simpa using this
  have c2n : w1.cell? ⟨b2, o2 + 5, none⟩ = some (.bool true) := by have := hc2 5 (by omega); simp [eRi, hr2.nt, exQ] at this; simpa using this
  have ix1 : ∀ (ik : IntKind) (u : World), (Instr.indexAt 45 (.slice ao 2 cap) (.int ik 0)).run Try.prog u = .ok (.pointer (some ⟨b1, o1, none⟩)) u := fun ik u => by rw [← hlen]; exact hix1 ik u
  have ix2 : ∀ (ik : IntKind) (u : World), (Instr.indexAt 45 (.slice ao 2 cap) (.int ik 1)).run Try.prog u = .ok (.pointer (some ⟨b2, o2, none⟩)) u := fun ik u => by rw [← hlen]; exact hix2 ik u
  clear hsl hra hix1 hix2 hc1 hc2 hr1 hr2 HP hq hb
  unfold qv exQ
  dsimp only
  go_wp2_with fail
  go_ret
  exact ⟨rfl, HB.out.alloc HB.out.size _⟩
end Go.Proofs.Ytolahnnkdpbdfaa

namespace Go.Lex
theorem tkG_lenF (o : List UInt8 → Nat × Nat) : ∀ (f : Nat) (r : List UInt8) (p c : Nat) (l : List Tok), c ≤ 60 → tkG o f r p c = .ok l → l.length + c ≤ 61 := by
  intro f
  induction f with
  | zero => intro r p c l _ h; simp [tkG] at h
  | succ f ih =>
    intro r p c l hc h
    rw [tkG] at h
    by_cases hr : r = []
    · rw [if_pos hr] at h
      by_cases h6 : c = 60
      · rw [if_pos h6] at h; cases h
      · rw [if_neg h6] at h; cases h; simp; omega
    · rw [if_neg hr] at h
      by_cases h0 : (o r).2 = 0
      · rw [if_pos h0] at h; cases h
      · rw [if_neg h0] at h
        by_cases h6 : c = 60
        · rw [if_pos h6] at h; cases h
        · rw [if_neg h6] at h
          cases hk : tkG o f (r.drop (o r).2) (p + (o r).2) (c + 1) with
          | error e => rw [hk] at h; cases h
          | ok l' =>
            rw [hk] at h
            have := ih _ _ _ l' (by omega) hk
            cases h
            simp; omega
theorem tokens_lenF {o : List UInt8 → Nat × Nat} {s : List UInt8} {l : List Tok} (h : tokens o s = .ok l) : l.length ≤ 61 := by
  unfold tokens at h
  split at h
  · cases h
  · have := tkG_lenF o _ _ _ 0 l (by omega) h; omega
end Go.Lex
namespace Go.Prs
open Go.Lex
theorem kd_posF {l : List Tok} (h : kd l ≠ 0) : l.tail.length + 1 = l.length := by
  cases l with
  | nil => exact absurd rfl h
  | cons a l => rfl
theorem cnt_lenF {l r : List Tok} {n : Nat} (h : cnt l = .ok (n, r)) : r.length ≤ l.length := by
  unfold cnt at h
  split at h
  · split at h
    · cases h; simp
    · cases h
  · cases h; exact Nat.le_refl _
theorem cons_okF {x : St} {e : Except Nat (List St × List Tok)} {y : List St} {r : List Tok} (h : cons x e = .ok (y, r)) : ∃ z, y = x :: z ∧ e = .ok (z, r) := by
  cases e with
  | error _ => cases h
  | ok p => obtain ⟨a, b⟩ := p; cases h; exact ⟨_, rfl, rfl⟩
theorem steps_lenF : ∀ (f : Nat) (l : List Tok) (x : List St) (r : List Tok), steps f l = .ok (x, r) → x.length + r.length ≤ l.length := by
  intro f
  induction f with
  | zero => intro l x r h; simp only [steps] at h; cases h; simp
  | succ f ih =>
    intro l x r h
    rw [steps] at h
    by_cases h3 : kd l = 3
    · have h3l := kd_posF (l := l) (by omega)
      rw [if_pos h3] at h
      by_cases h7 : kd l.tail = 7
      · have h7l := kd_posF (l := l.tail) (by omega)
        rw [if_pos h7] at h
        obtain ⟨z, rfl, h9⟩ := cons_okF h
        have := ih _ _ _ h9
        simp only [List.length_cons]; omega
      · rw [if_neg h7] at h
        cases hc : cnt l.tail with
        | error e => rw [hc] at h; cases h
        | ok p =>
          obtain ⟨n, r'⟩ := p
          rw [hc] at h
          obtain ⟨z, rfl, h9⟩ := cons_okF h
          have := ih _ _ _ h9
          have := cnt_lenF hc
          simp only [List.length_cons]; omega
    · rw [if_neg h3] at h
      by_cases h4 : kd l = 4
      · have h4l := kd_posF (l := l) (by omega)
        rw [if_pos h4] at h
        cases hc : cnt l.tail with
        | error e => rw [hc] at h; cases h
        | ok p =>
          obtain ⟨n, r'⟩ := p
          rw [hc] at h
          obtain ⟨z, rfl, h9⟩ := cons_okF h
          have := ih _ _ _ h9
          have := cnt_lenF hc
          simp only [List.length_cons]; omega
      · rw [if_neg h4] at h; cases h; simp
theorem rev_lenF {l r : List Tok} {x : Rv} (h : rev l = .ok (x, r)) : x.st.length + r.length + 1 ≤ l.length := by
  unfold rev at h
  split at h
  · rename_i h1
    have hl := kd_posF (l := l) (by omega)
    cases hs : steps l.length l.tail with
    | error e => rw [hs] at h; cases h
    | ok p =>
      obtain ⟨y, r'⟩ := p
      rw [hs] at h
      have := steps_lenF _ _ _ _ hs
      cases h
      simp only []; omega
  · cases h
theorem item_lenF {nt : Bool} {l r : List Tok} {x : It} (h : item nt l = .ok (x, r)) : x.a.st.length + x.b.st.length + r.length + 1 ≤ l.length := by
  unfold item at h
  split at h
  · cases hs : rev l.tail with
    | error e => rw [hs] at h; cases h
    | ok p => obtain ⟨y, r'⟩ := p; rw [hs] at h; have := rev_lenF hs; cases h; simp [zRv] at *; omega
  · split at h
    · cases hs : rev l with
      | error e => rw [hs] at h; cases h
      | ok p =>
        obtain ⟨y, r'⟩ := p
        rw [hs] at h
        have := rev_lenF hs
        simp only at h
        split at h
        · cases h; simp [zRv] at *; omega
        · split at h
          · cases hs2 : rev r'.tail with
            | error e => rw [hs2] at h; cases h
            | ok p => obtain ⟨y2, r2⟩ := p; rw [hs2] at h; have := rev_lenF hs2; cases h; simp at *; omega
          · cases h; simp [here] at *; omega
    · cases hs : rev l.tail with
      | error e => rw [hs] at h; cases h
      | ok p => obtain ⟨y, r'⟩ := p; rw [hs] at h; have := rev_lenF hs; cases h; simp [here] at *; omega
theorem flg_itsF {s : List UInt8} {q q' : Qy} {nt nt' : Bool} (h : flg s q nt = some (q', nt')) : q'.its = q.its := by
  unfold flg at h
  repeat' (split at h)
  all_goals first | (cases h; rfl) | cases h
theorem round_few {l r : List Tok} {q q' : Qy} {nt nt' : Bool} (h : round l q nt = .ok (q', nt', r)) (hl : l.length ≤ 1000) (hq : ∀ x ∈ q.its, x.a.st.length ≤ 1000 ∧ x.b.st.length ≤ 1000) :
    q'.its.length + r.length ≤ q.its.length + l.length ∧ r.length ≤ l.length ∧ ∀ x ∈ q'.its, x.a.st.length ≤ 1000 ∧ x.b.st.length ≤ 1000 := by
  unfold round at h
  split at h
  · cases hf : flg (tx l) q nt with
    | none => rw [hf] at h; cases h
    | some p =>
      obtain ⟨q2, n2⟩ := p
      rw [hf] at h
      have hi := flg_itsF hf
      cases h
      rw [hi]
      exact ⟨by simp, by simp, hq⟩
  · cases hi : item nt l with
    | error e => rw [hi] at h; cases h
    | ok p =>
      obtain ⟨x, r'⟩ := p
      rw [hi] at h
      have := item_lenF hi
      cases h
      refine ⟨by simp; omega, by omega, ?_⟩
      intro y hy
      simp only [List.mem_append, List.mem_singleton] at hy
      rcases hy with hy | rfl
      · exact hq y hy
      · exact ⟨by omega, by omega⟩
theorem quest_few : ∀ (f : Nat) (l : List Tok) (q q' : Qy) (nt : Bool), quest f l q nt = .ok q' → l.length ≤ 1000 → (∀ x ∈ q.its, x.a.st.length ≤ 1000 ∧ x.b.st.length ≤ 1000) →
    q'.its.length ≤ q.its.length + l.length ∧ ∀ x ∈ q'.its, x.a.st.length ≤ 1000 ∧ x.b.st.length ≤ 1000 := by
  intro f
  induction f with
  | zero => intro l q q' nt h hl hq; simp only [quest] at h; cases h; exact ⟨by omega, hq⟩
  | succ f ih =>
    intro l q q' nt h hl hq
    have hsk : (skipGap l).length ≤ l.length := by unfold skipGap; split <;> simp
    rw [quest] at h
    split at h
    · cases h; exact ⟨by omega, hq⟩
    · cases hr : round (skipGap l) q nt with
      | error e => rw [hr] at h; cases h
      | ok p =>
        obtain ⟨q2, n2, r⟩ := p
        rw [hr] at h
        obtain ⟨h1, h2, h3⟩ := round_few hr (by omega) hq
        simp only at h
        split at h
        · have := ih r q2 q' n2 h (by omega) h3
          exact ⟨by omega, this.2⟩
        · cases h
theorem parse_small (s : List UInt8) : (parse s).1.its.length ≤ 1000 ∧ ∀ x ∈ (parse s).1.its, x.a.st.length ≤ 1000 ∧ x.b.st.length ≤ 1000 := by
  unfold parse
  cases ht : tokens one s with
  | error e => obtain ⟨p, c⟩ := e; exact ⟨by simp [zQy], by simp [zQy]⟩
  | ok l =>
    have hl := tokens_lenF ht
    simp only
    cases hq : quest (l.length + 1) l nQy false with
    | error p => exact ⟨by simp [zQy], by simp [zQy]⟩
    | ok q =>
      have := quest_few _ _ _ _ _ hq (by omega) (by simp [nQy])
      exact ⟨by have := this.1; simp [nQy] at this; simp only []; omega, this.2⟩
/-- an error's question is the empty one -/
theorem parse_err (s : List UInt8) (h : (parse s).2.2 ≠ 0) : (parse s).1 = zQy := by
  unfold parse at h ⊢
  cases ht : tokens one s with
  | error e => obtain ⟨p, c⟩ := e; rfl
  | ok l =>
    rw [ht] at h
    simp only at h ⊢
    cases hq : quest (l.length + 1) l nQy false with
    | error p => rfl
    | ok q => rw [hq] at h; exact absurd rfl h
end Go.Prs
namespace Go.Proofs.Ytolahnnkdpbdfaa
theorem parse_few (s : List UInt8) : Few (Prs.parse s).1.its := Prs.parse_small s
end Go.Proofs.Ytolahnnkdpbdfaa

namespace Go.Proofs.Ytolahnnkdpbdfaa
open Go.Proofs Go.RowKit Go.Shelf Go.Sl Go.Prs
set_option maxRecDepth 100000 in
set_option maxHeartbeats 8000000 in
theorem parseReads_any (s : List UInt8) (w : World) (hm : Ml w) : Calls Try.prog 7 #[.string (bstr s)] w fun e w' => e = .returned (.bool true) ∧ Below w.heap.size w w' := by
  have HM := Lib.hid hm
  have HW := Lib.hid (works28_any w hm)
  clear hm
  by_cases hlong : 400 < s.length
  · have hl : decide ((400 : Int) < (s.length : Int)) = true := decide_eq_true (by omega)
    go_enter Try.func7, Try.ntmps7
    go_wp2_with fail
    refine HW.out.mono ?_
    rintro e w1 ⟨rfl, hb⟩
    go_wp2_with fail
    go_ret
    exact ⟨rfl, hb⟩
  · have hl : decide ((400 : Int) < (s.length : Int)) = false := decide_eq_false (by omega)
    have HP := Lib.hid (parse1_any s w (by omega) HM.out)
    have HD := Lib.hid (fun w' => dparse_any s w' (by omega))
    have HF := Lib.hid (parse_few s)
    have HZ := Lib.hid (parse_err s)
    obtain ⟨⟨q, p, c⟩, ho⟩ : ∃ o, Hid (Prs.parse s = o) := ⟨_, Lib.hid rfl⟩
    rw [ho.out] at HP HF HZ HD
    have hsd : ((c : Int) != (c : Int)) = false := by simp
    have hsp : ((p : Int) != (p : Int)) = false := by simp
    clear ho HW hlong
    go_enter Try.func7, Try.ntmps7
    go_wp2_with fail
    refine HP.out.mono ?_
    rintro e w1 ⟨hb, iv, rfl, hq⟩
    have HQ := Lib.hid hq.is
    have HB := Lib.hid hb
    obtain ⟨a0, n0, c0, rfl⟩ := hq.isSlice
    unfold qv
    dsimp only
    clear HP hb hq
    go_wp2_with fail
    refine (HD.out _).mono ?_
    rintro e w2 ⟨hb, iv2, rfl, hq⟩
    have HQ2 := Lib.hid hq.is
    have HB2 := Lib.hid hb
    have h0 := (hb.block _ (by simp)).trans (heap_alloc_new w1 _)
    have HA := Lib.hid (fun o : Obj => heap_keep (p := o) h0)
    obtain ⟨x6, x0, x1, x2, x3, x4, x5⟩ := six_cells h0
    have xf := bk_frozen ⟨_, h0⟩
    have y0 := fun o : Obj => (six_cells (HA.out o)).2.1
    have y1 := fun o : Obj => (six_cells (HA.out o)).2.2.1
    have y2 := fun o : Obj => (six_cells (HA.out o)).2.2.2.1
    have y3 := fun o : Obj => (six_cells (HA.out o)).2.2.2.2.1
    have y4 := fun o : Obj => (six_cells (HA.out o)).2.2.2.2.2.1
    have y5 := fun o : Obj => (six_cells (HA.out o)).2.2.2.2.2.2
    clear h0
    obtain ⟨a2, n2, c2, rfl⟩ := hq.isSlice
    unfold qv
    dsimp only
    clear HD hb hq
    by_cases hc : c = 0
    · subst hc
      have HW := Lib.hid (fun u (hu : Below w.heap.size w u) => works28_any u (HM.out.ext hu))
      have HPl := Lib.hid (fun u (hu : IS u (.slice a0 n0 c0) q.its) => plain_any (.slice a0 n0 c0) q u hu HF.out)
      have HSm : Hid (∀ u v1 v2, IS u v1 q.its → IS u v2 q.its → Calls Try.prog 25 #[.agg #[v1, .int .i64 q.mx, .int .i64 q.sk, .int .i64 q.od, .bool q.fi, .bool q.rv], .agg #[v2, .int .i64 q.mx, .int .i64 q.sk, .int .i64 q.od, .bool q.fi, .bool q.rv]] u fun e w' => e = .returned (.bool true) ∧ Below u.heap.size u w') :=
        Lib.hid (fun u v1 v2 h1 h2 => (dsame_any v1 v2 q q u h1 h2).mono (fun e w' ⟨he, hb⟩ => ⟨by rw [he, decide_eq_true rfl], hb⟩))
      unfold qv at HPl
      clear HZ
      have hBW : Below w.heap.size w (w2.alloc (.cells #[.slice a2 n2 c2, .int .i64 q.mx, .int .i64 q.sk, .int .i64 q.od, .bool q.fi, .bool q.rv] 52)) :=
        ((HB.out.alloc HB.out.size _).trans (HB2.out.mono (by have := HB.out.size; simp; omega))).alloc (by have := HB.out.size; have := HB2.out.size; simp at this; omega) _
      have hQ1 : IS (w2.alloc (.cells #[.slice a2 n2 c2, .int .i64 q.mx, .int .i64 q.sk, .int .i64 q.od, .bool q.fi, .bool q.rv] 52)) (.slice a0 n0 c0) q.its :=
        ((HQ.out.ext ((Below.refl _ _).alloc (Nat.le_refl _) _)).ext HB2.out).ext ((Below.refl _ _).alloc (Nat.le_refl _) _)
      have hQ2 : IS (w2.alloc (.cells #[.slice a2 n2 c2, .int .i64 q.mx, .int .i64 q.sk, .int .i64 q.od, .bool q.fi, .bool q.rv] 52)) (.slice a2 n2 c2) q.its :=
        HQ2.out.ext ((Below.refl _ _).alloc (Nat.le_refl _) _)
      have hr0 := heap_alloc_new w2 (.cells #[.slice a2 n2 c2, .int .i64 q.mx, .int .i64 q.sk, .int .i64 q.od, .bool q.fi, .bool q.rv] 52)
      have hl0 := HA.out (.cells #[.slice a2 n2 c2, .int .i64 q.mx, .int .i64 q.sk, .int .i64 q.od, .bool q.fi, .bool q.rv] 52)
      have hsz : w2.heap.size < (w2.alloc (.cells #[.slice a2 n2 c2, .int .i64 q.mx, .int .i64 q.sk, .int .i64 q.od, .bool q.fi, .bool q.rv] 52)).heap.size := by simp
      go_wp2_with fail
      generalize w2.alloc (.cells #[.slice a2 n2 c2, .int .i64 q.mx, .int .i64 q.sk, .int .i64 q.od, .bool q.fi, .bool q.rv] 52) = W at hBW hQ1 hQ2 hr0 hl0 hsz ⊢
      have HBW := Lib.hid hBW
      have HQ1 := Lib.hid hQ1
      have HQ2' := Lib.hid hQ2
      have HR0 := Lib.hid (fun u (hu : Below W.heap.size W u) => (hu.block _ hsz).trans hr0)
      clear y0 y1 y2 y3 y4 y5 x0 x1 x2 x3 x4 x5 x6 xf HA hBW hQ1 hQ2 HQ HQ2 HB HB2 HM
      obtain ⟨-, y0, y1, y2, y3, y4, y5⟩ := six_cells hl0
      have yf := bk_frozen ⟨_, hl0⟩
      obtain ⟨-, z0, z1, z2, z3, z4, z5⟩ := six_cells hr0
      have zf := bk_frozen ⟨_, hr0⟩
      clear hl0 hr0 hsz
      go_region_law (first
        | (go_simp; go_at_call 26; refine (HPl.out _ (HQ1.out.ext (Below.refl _ _).drew)).mono ?_; rintro e w3 ⟨iv3, rfl, hq3, hb3⟩; obtain ⟨a3, n3, c3, rfl⟩ := hq3.isSlice; have HQ3 := Lib.hid hq3.is; have HB3 := Lib.hid (below_undrew hb3); obtain ⟨-, t0, t1, t2, t3, t4, t5⟩ := six_cells (HR0.out _ HB3.out); have tf := bk_frozen ⟨_, HR0.out _ HB3.out⟩; clear hq3 hb3; dsimp only)
        | (go_simp; go_at_call 25; refine (HSm.out _ _ _ HQ3.out (HQ2'.out.ext HB3.out)).mono ?_; rintro e w4 ⟨rfl, hb4⟩; have HB4 := Lib.hid (HBW.out.trans ((HB3.out.trans (hb4.mono HB3.out.size)).mono HBW.out.size)); clear hb4; dsimp only)
        | (go_simp; go_at_call 22; refine (HW.out _ HB4.out).mono ?_; rintro e w5 ⟨rfl, hb5⟩; have HB5 := Lib.hid (HB4.out.trans (hb5.mono HB4.out.size)); clear hb5; dsimp only))
      all_goals
        go_wp2_with fail
        go_ret
        exact ⟨rfl, HB5.out⟩
    · obtain rfl := HZ.out hc
      have hcb : ((c : Int) != 0) = true := by rw [bne_iff_ne]; omega
      clear hc
      obtain ⟨rs0, hs0, hr0⟩ := HQ.out
      have hl0 : rs0.length = 0 := hr0.len
      obtain ⟨_, _, he0, -⟩ := hs0.shp
      obtain rfl : n0 = 0 := by rw [hl0] at he0; injection he0
      unfold zQy at *
      dsimp only at *
      clear hs0 hr0 he0 hl0
      have HBW : Hid (Below w.heap.size w (w2.alloc (.cells #[.slice a2 n2 c2, .int .i64 0, .int .i64 0, .int .i64 0, .bool false, .bool false] 52))) :=
        Lib.hid (((HB.out.alloc HB.out.size _).trans (HB2.out.mono (by have := HB.out.size; simp; omega))).alloc (by have := HB.out.size; have := HB2.out.size; simp at this; omega) _)
      go_wp2_with fail
      refine (works28_any _ (HM.out.ext HBW.out)).mono ?_
      rintro e w5 ⟨rfl, hb5⟩
      go_wp2_with fail
      go_ret
      exact ⟨rfl, HBW.out.trans (hb5.mono HBW.out.size)⟩
end Go.Proofs.Ytolahnnkdpbdfaa
