/-
  DagAbove: what the program answers, the document's. No condition.
-/
import Derived.Test.YtcpmnocknpalfaaW4
import Derived.Test.YtcpmnocknpalfaaH12
import Derived.Deep.RegionHeld3
namespace Go.Dag
theorem above_list (g : List Nd) (l : List Nat) : rangeL g l [] = filtN (upB g l) g.length := by
  unfold rangeL
  refine filtN_congr fun x _ => tt_congr ?_
  unfold upP
  simp
theorem upB_one (g : List Nd) (y x : Nat) : upB g [y] x = tt (Anc (par g) y x) := by
  unfold upB
  refine tt_congr ?_
  unfold upP; simp
end Go.Dag
namespace Go.Proofs.Ytcpmnocknpalfaa
open Go.RowKit Go.Sl
set_option linter.unusedVariables false

set_option maxRecDepth 100000 in
set_option maxHeartbeats 1000000 in
theorem dagAbove_any (gv v1 : Value) (b : Int) (w : World) (es : List (SlV × Int)) (g : List Nd) (l : List Int) (hG : Gr w gv es g) (h1 : Sl eInt 1 w v1 l) :
    Calls Try.prog 7 #[gv, v1, .int .i64 b] w fun e w' => e = .returned (.bool true) ∧ Below w.heap.size w w' := by
  obtain ⟨za, zn, zc, rfl⟩ := h1.isSlice
  have HG := Lib.hid hG
  have H1 := Lib.hid h1
  have hlen := h1.run_len (P := Try.prog) Try.underlying23
  have hmax := h1.len_le
  have hnil := len_nil_run w
  have HA0 := Lib.hid (below_alloc w (.cells #[.slice za zn zc] 23))
  by_cases hbig : ∃ x ∈ [l], 100 < x.length
  · have HBg := Lib.hid (big_any _ _ _ true (decide_eq_true hbig) _ (sls1 h1))
    clear hbig h1 hG
    go_enter Try.func7, Try.ntmps7
    go_wp2_with fail
    refine HBg.out.mono ?_
    rintro e w' ⟨rfl, rfl⟩
    go_wp2_with fail
    refine (works_any _).mono ?_
    rintro e w1 ⟨rfl, hb⟩
    have HB1 := Lib.hid (below_then HA0.out hb)
    clear hb
    go_wp2_with fail
    go_ret
    exact ⟨rfl, HB1.out⟩
  · have HBg := Lib.hid (big_any _ _ _ false (decide_eq_false hbig) _ (sls1 h1))
    obtain ⟨cL, hcL⟩ : ∃ c, Dag.nodes g l = c := ⟨_, rfl⟩
    have HCL := Lib.hid hcL
    clear hbig h1 hG
    by_cases hL : cL = 0
    · have HgL := Lib.hid (Dag.nodes_zero (hcL.trans hL))
      have HAb := Lib.hid (Dag.above_list g (Dag.nn l))
      have hgl := HgL.out.1.1
      subst hL
      clear hcL
      go_enter Try.func7, Try.ntmps7
      go_wp2_with fail
      refine (HBg.out).mono ?_
      rintro e w' ⟨rfl, rfl⟩
      go_wp2_with fail
      refine (above_ok _ _ _ es g l HgL.out.1 HgL.out.2 (HG.out.ext HA0.out) (H1.out.ext HA0.out)).mono ?_
      rintro e w1 ⟨x1, rfl, ho, hb⟩
      rw [HAb.out] at ho
      have HO1 := Lib.hid (ho.sl len_eInt)
      have HW1 := Lib.hid (below_then HA0.out hb)
      clear hb
      clear ho
      go_wp2_with fail
      refine (rnodes_any _ _ _ es g l 0 HCL.out (HG.out.ext HW1.out) (H1.out.ext HW1.out)).mono ?_
      rintro e w2 ⟨rfl, hb⟩
      have HB2 := Lib.hid hb
      have HW2 := Lib.hid (below_then HW1.out hb)
      clear hb
      go_wp2_with fail
      refine (up_any _ _ _ es g l HgL.out.1 HgL.out.2 (HG.out.ext HW2.out) (H1.out.ext HW2.out)).mono ?_
      rintro e w3 ⟨rfl, hu, hb⟩
      have HU := Lib.hid hu
      have HB3 := Lib.hid (below_then HB2.out hb)
      have HW3 := Lib.hid (below_then HW2.out hb)
      clear hb
      clear hu
      go_wp2_with fail
      refine (list_any _ _ g.length _ w3 HU.out (by omega)).mono ?_
      rintro e w4 ⟨x4, rfl, ho, hb⟩
      have HO4 := Lib.hid (ho.sl len_eInt)
      have HB4 := Lib.hid (below_then HB3.out hb)
      have HW4 := Lib.hid (below_then HW3.out hb)
      clear hb
      clear ho
      go_wp2_with fail
      refine (same_b x1 x4 _ _ true (by simp) _ (HO1.out.ext HB4.out) HO4.out).mono ?_
      rintro e w5 ⟨rfl, hb⟩
      have HW5 := Lib.hid (below_then HW4.out hb)
      clear hb
      go_wp2_with fail
      go_loopw [10] (fun i wr => ∃ (k : Nat), i = .int .i64 k ∧ k ≤ l.length ∧ Hid (Below w.heap.size w wr)) (fun i _ => l.length - (intOf i).toNat)
      case atStart => exact ⟨0, rfl, by omega, HW5⟩
      case round =>
        obtain ⟨k, rfl, hk, HW⟩ := hrel
        by_cases hlt : k < l.length
        · obtain ⟨b2, o2, hb2, hix2, hc2⟩ := H1.out.atB HW.out (P := Try.prog) Try.underlying23 cells3 some3 hlt
          obtain ⟨b3, o3, hb3, hix3, hc3⟩ := H1.out.at (P := Try.prog) Try.underlying23 cells3 some3 hlt
          have e0 : b3 = b2 ∧ o3 = o2 := by
            have h3 := hix2 .i64 w
            rw [hix3 .i64 w] at h3
            simpa using h3
          obtain ⟨rfl, rfl⟩ := e0
          have e1 := hc2 0 (by omega)
          have e9 := hc3 0 (by omega)
          simp only [eInt, List.getElem?_cons_zero, Nat.add_zero] at e1 e9
          obtain ⟨x, HY⟩ : ∃ x, Hid (l[k] = x) := ⟨_, Lib.hid rfl⟩
          rw [HY.out] at e1 e9
          have HKc : Hid (∀ u, Below w.heap.size w u → u.cell? ⟨b3, o3, none⟩ = some (.int .i64 x) ∧ Below w.heap.size w u) := Lib.hid (fun u hu => ⟨(hu.cell (p := ⟨b3, o3, none⟩) hb3).trans e9, hu⟩)
          clear hc2 hc3 e9 hix3
          obtain ⟨c, hcc⟩ : ∃ c, Dag.nodes g [x, b] = c := ⟨_, rfl⟩
          have HC0 := Lib.hid hcc
          by_cases hc0 : c = 0
          · subst hc0
            obtain ⟨hg, hin⟩ := Dag.nodes_zero hcc
            have hxa := hin x (by simp)
            have hya := hin b (by simp)
            obtain ⟨x, rfl⟩ : ∃ x' : Nat, x = x' := ⟨x.toNat, by omega⟩
            obtain ⟨y, rfl⟩ : ∃ y : Nat, b = y := ⟨b.toNat, by omega⟩
            have hx : x < g.length := by omega
            have hy : y < g.length := by omega
            have HOk := Lib.hid hg
            obtain ⟨t, ht⟩ : ∃ t, Dag.tt (Dag.Anc (Dag.par g) y x) = t := ⟨_, rfl⟩
            have HTt := Lib.hid ht
            clear ht hin hg hcc hxa hya
            cases t with
            | false =>
              go_wp2_with fail
              refine (is_ok _ _ _ x y rfl rfl _ es g HOk.out hx hy (HG.out.ext HW.out) false HTt.out).mono ?_
              rintro e u1 ⟨rfl, hb⟩
              have HU1 := Lib.hid (below_then HW.out hb)
              obtain ⟨e2, -⟩ := HKc.out u1 HU1.out
              clear hb
              go_wp2_with fail
              refine (rnodes2_any _ _ es g _ _ 0 HC0.out (HG.out.ext HU1.out)).mono ?_
              rintro e u2 ⟨rfl, hb⟩
              have HU2 := Lib.hid (below_then HU1.out hb)
              obtain ⟨e3, -⟩ := HKc.out u2 HU2.out
              clear hb
              go_wp2_with fail
              refine wp_region_held_drew (S := fun u => u.cell? ⟨b3, o3, none⟩ = some (.int .i64 x) ∧ Below w.heap.size w u) (by kernel_rfl) (HKc.out _ (below_drewN HU2.out 1)) (fun hHeld => ?_)
              refine wpAnyH_take (i := 0) (oi := { dst := some 74, op := Op.move (Operand.tmp 12), type := 24, pos := "law.go:66", after := #[], guard := none }) (v := ?_) rfl (by kernel_rfl) (by kernel_rfl) (by kernel_rfl) (fun _ _ _ h => h) (Or.inl ⟨by rfl, ?_⟩) (by assumption) ?_
              rotate_left
              · intro u hSu; (try dsimp only at hSu); (go_simp <;> with_reducible rfl)
              try simp only [Act.put, List.setIfInBounds_toArray, List.set_cons_zero, List.set_cons_succ]
              refine wpAnyH_take (i := 1) (oi := { dst := some 75, op := Op.move (Operand.tmp 13), type := 3, pos := "law.go:66", after := #[], guard := none }) (v := ?_) rfl (by kernel_rfl) (by kernel_rfl) (by kernel_rfl) (fun _ _ _ h => h) (Or.inl ⟨by rfl, ?_⟩) (by assumption) ?_
              rotate_left
              · intro u hSu; (try dsimp only at hSu); (go_simp <;> with_reducible rfl)
              try simp only [Act.put, List.setIfInBounds_toArray, List.set_cons_zero, List.set_cons_succ]
              refine wpAnyH_take (i := 2) (oi := { dst := some 76, op := Op.binOp BinOp.neq 3 (Operand.tmp 74) (Operand.tmp 75) 3, type := 4, pos := "law.go:66", after := #[{ on := 0, ground := Ground.data }, { on := 1, ground := Ground.data }], guard := none }) (v := ?_) rfl (by kernel_rfl) (by kernel_rfl) (by kernel_rfl) (fun _ _ _ h => h) (Or.inl ⟨by rfl, ?_⟩) (by assumption) ?_
              rotate_left
              · intro u hSu; (try dsimp only at hSu); (go_simp <;> with_reducible rfl)
              try simp only [Act.put, List.setIfInBounds_toArray, List.set_cons_zero, List.set_cons_succ]
              refine wpAnyH_take (i := 3) (oi := { dst := some 77, op := Op.move (Operand.tmp 76), type := 4, pos := "law.go:66", after := #[{ on := 2, ground := Ground.data }], guard := none }) (v := ?_) rfl (by kernel_rfl) (by kernel_rfl) (by kernel_rfl) (fun _ _ _ h => h) (Or.inl ⟨by rfl, ?_⟩) (by assumption) ?_
              rotate_left
              · intro u hSu; (try dsimp only at hSu); (go_simp <;> with_reducible rfl)
              try simp only [Act.put, List.setIfInBounds_toArray, List.set_cons_zero, List.set_cons_succ]
              refine wpAnyH_take (i := 4) (oi := { dst := some 78, op := Op.move (Operand.tmp 11), type := 4, pos := "law.go:66", after := #[{ on := 3, ground := Ground.guard }], guard := some (3, false) }) (v := ?_) rfl (by kernel_rfl) (by kernel_rfl) (by kernel_rfl) (fun _ _ _ h => h) (Or.inl ⟨by rfl, ?_⟩) (by assumption) ?_
              rotate_left
              · intro u hSu; (try dsimp only at hSu); (go_simp <;> with_reducible rfl)
              try simp only [Act.put, List.setIfInBounds_toArray, List.set_cons_zero, List.set_cons_succ]
              refine wpAnyH_take (i := 5) (oi := { dst := some 79, op := Op.move (Operand.tmp 13), type := 3, pos := "law.go:66", after := #[{ on := 3, ground := Ground.guard }], guard := some (3, false) }) (v := ?_) rfl (by kernel_rfl) (by kernel_rfl) (by kernel_rfl) (fun _ _ _ h => h) (Or.inl ⟨by rfl, ?_⟩) (by assumption) ?_
              rotate_left
              · intro u hSu; (try dsimp only at hSu); (go_simp <;> with_reducible rfl)
              try simp only [Act.put, List.setIfInBounds_toArray, List.set_cons_zero, List.set_cons_succ]
              refine wpAnyH_take (i := 6) (oi := { dst := some 80, op := Op.binOp BinOp.eql 3 (Operand.tmp 79) (Operand.const (Value.int IntKind.i64 0)) 3, type := 4, pos := "law.go:66", after := #[{ on := 5, ground := Ground.data }, { on := 3, ground := Ground.guard }], guard := some (3, false) }) (v := ?_) rfl (by kernel_rfl) (by kernel_rfl) (by kernel_rfl) (fun _ _ _ h => h) (Or.inl ⟨by rfl, ?_⟩) (by assumption) ?_
              rotate_left
              · intro u hSu; (try dsimp only at hSu); (go_simp <;> with_reducible rfl)
              try simp only [Act.put, List.setIfInBounds_toArray, List.set_cons_zero, List.set_cons_succ]
              refine wpAnyH_take (i := 7) (oi := { dst := some 81, op := Op.move (Operand.tmp 80), type := 4, pos := "law.go:66", after := #[{ on := 6, ground := Ground.data }, { on := 3, ground := Ground.chain }, { on := 3, ground := Ground.guard }], guard := some (3, false) }) (v := ?_) rfl (by kernel_rfl) (by kernel_rfl) (by kernel_rfl) (fun _ _ _ h => h) (Or.inl ⟨by rfl, ?_⟩) (by assumption) ?_
              rotate_left
              · intro u hSu; (try dsimp only at hSu); (go_simp <;> with_reducible rfl)
              try simp only [Act.put, List.setIfInBounds_toArray, List.set_cons_zero, List.set_cons_succ]
              refine wpAnyH_take (i := 8) (oi := { dst := some 82, op := Op.move (Operand.tmp 0), type := 22, pos := "law.go:66", after := #[{ on := 7, ground := Ground.guard }], guard := some (7, true) }) (v := ?_) rfl (by kernel_rfl) (by kernel_rfl) (by kernel_rfl) (fun _ _ _ h => h) (Or.inl ⟨by rfl, ?_⟩) (by assumption) ?_
              rotate_left
              · intro u hSu; (try dsimp only at hSu); (go_simp <;> with_reducible rfl)
              try simp only [Act.put, List.setIfInBounds_toArray, List.set_cons_zero, List.set_cons_succ]
              refine wpAnyH_take (i := 9) (oi := { dst := some 83, op := Op.move (Operand.tmp 2), type := 3, pos := "law.go:66", after := #[{ on := 7, ground := Ground.guard }], guard := some (7, true) }) (v := ?_) rfl (by kernel_rfl) (by kernel_rfl) (by kernel_rfl) (fun _ _ _ h => h) (Or.inl ⟨by rfl, ?_⟩) (by assumption) ?_
              rotate_left
              · intro u hSu; (try dsimp only at hSu); (go_simp <;> with_reducible rfl)
              try simp only [Act.put, List.setIfInBounds_toArray, List.set_cons_zero, List.set_cons_succ]
              refine wpAnyH_take (i := 12) (oi := { dst := some 86, op := Op.move (Operand.tmp 1), type := 23, pos := "law.go:66", after := #[{ on := 7, ground := Ground.guard }], guard := some (7, true) }) (v := ?_) rfl (by kernel_rfl) (by kernel_rfl) (by kernel_rfl) (fun _ _ _ h => h) (Or.inl ⟨by rfl, ?_⟩) (by assumption) ?_
              rotate_left
              · intro u hSu; (try dsimp only at hSu); (go_simp <;> with_reducible rfl)
              try simp only [Act.put, List.setIfInBounds_toArray, List.set_cons_zero, List.set_cons_succ]
              refine wpAnyH_take (i := 13) (oi := { dst := some 87, op := Op.move (Operand.tmp 10), type := 3, pos := "law.go:66", after := #[{ on := 7, ground := Ground.guard }], guard := some (7, true) }) (v := ?_) rfl (by kernel_rfl) (by kernel_rfl) (by kernel_rfl) (fun _ _ _ h => h) (Or.inl ⟨by rfl, ?_⟩) (by assumption) ?_
              rotate_left
              · intro u hSu; (try dsimp only at hSu); (go_simp <;> with_reducible rfl)
              try simp only [Act.put, List.setIfInBounds_toArray, List.set_cons_zero, List.set_cons_succ]
              refine wpAnyH_take (i := 14) (oi := { dst := some 88, op := Op.indexAddr 23 (Operand.tmp 86) (Operand.tmp 87), type := 0, pos := "law.go:66", after := #[{ on := 12, ground := Ground.data }, { on := 13, ground := Ground.data }, { on := 7, ground := Ground.guard }], guard := some (7, true) }) (v := ?_) rfl (by kernel_rfl) (by kernel_rfl) (by kernel_rfl) (fun _ _ _ h => h) (Or.inl ⟨by rfl, ?_⟩) (by assumption) ?_
              rotate_left
              · intro u hSu; (try dsimp only at hSu); (go_simp <;> with_reducible rfl)
              try simp only [Act.put, List.setIfInBounds_toArray, List.set_cons_zero, List.set_cons_succ]
              refine wpAnyH_take (i := 15) (oi := { dst := some 89, op := Op.load 3 (Operand.tmp 88), type := 3, pos := "law.go:66", after := #[{ on := 14, ground := Ground.data }, { on := 7, ground := Ground.guard }], guard := some (7, true) }) (v := ?_) rfl (by kernel_rfl) (by kernel_rfl) (by kernel_rfl) (fun _ _ _ h => h) (Or.inl ⟨by rfl, ?_⟩) (by assumption) ?_
              rotate_left
              · intro u hSu; (try dsimp only at hSu); (go_simp <;> with_reducible rfl)
              try simp only [Act.put, List.setIfInBounds_toArray, List.set_cons_zero, List.set_cons_succ]
              refine wpAnyH_ready (rs := [10]) (by kernel_rfl) (by simp) ?_
              refine AllReadyH.cons (o := { dst := some 84, op := Op.buildSlice 23 1 #[(0, Operand.tmp 83)], type := 23, pos := "law.go:66", after := #[{ on := 9, ground := Ground.data }, { on := 7, ground := Ground.guard }], guard := some (7, true) }) rfl (fun K hK => ?_) AllReadyH.nil
              go_simp
              refine hK.out _ _ (HKc.out _ ((below_drewN HU2.out 1).alloc HU2.out.size _)) (fun hHeld => ?_)
              clear hK K
              try simp only [Act.put, List.setIfInBounds_toArray, List.set_cons_zero, List.set_cons_succ]
              refine wpAnyH_ready (rs := [11]) (by kernel_rfl) (by simp) ?_
              refine AllReadyH.cons (o := { dst := some 85, op := Op.call { callee := Callee.value (Operand.func 35), args := #[Operand.tmp 82, Operand.tmp 84], argTypes := #[22, 23] }, type := 51, pos := "law.go:66", after := #[{ on := 8, ground := Ground.data }, { on := 10, ground := Ground.data }, { on := 7, ground := Ground.chain }, { on := 7, ground := Ground.guard }], guard := some (7, true) }) rfl (fun K hK => ?_) AllReadyH.nil
              go_simp
              refine (up1_any gv u2.drew es g y _ rfl HOk.out hy (HG.out.ext (below_drewN HU2.out 1))).mono ?_; rintro e u7 ⟨ub, rfl, hub, hu, hb'⟩; have HU7 : Hid (Below w.heap.size w u7) := Lib.hid (below_then (below_drewN HU2.out 1) hb'); obtain ⟨c1, -, -⟩ := hu.cell hx; rw [Dag.upB_one, HTt.out] at c1; clear hu hb'
              refine hK.out _ _ (HKc.out _ HU7.out) (fun hHeld => ?_)
              clear hK K
              try simp only [Act.put, List.setIfInBounds_toArray, List.set_cons_zero, List.set_cons_succ]
              refine wpAnyH_take (i := 16) (oi := { dst := some 90, op := Op.indexAddr 51 (Operand.tmp 85) (Operand.tmp 89), type := 0, pos := "law.go:66", after := #[{ on := 11, ground := Ground.data }, { on := 15, ground := Ground.data }, { on := 7, ground := Ground.guard }], guard := some (7, true) }) (v := ?_) rfl (by kernel_rfl) (by kernel_rfl) (by kernel_rfl) (fun _ _ _ h => h) (Or.inl ⟨by rfl, ?_⟩) (by assumption) ?_
              rotate_left
              · intro u hSu; (try dsimp only at hSu); (go_simp <;> with_reducible rfl)
              try simp only [Act.put, List.setIfInBounds_toArray, List.set_cons_zero, List.set_cons_succ]
              refine wpAnyH_ready (rs := [17]) (by kernel_rfl) (by simp) ?_
              refine AllReadyH.cons (o := { dst := some 91, op := Op.load 4 (Operand.tmp 90), type := 4, pos := "law.go:66", after := #[{ on := 16, ground := Ground.data }, { on := 7, ground := Ground.guard }], guard := some (7, true) }) rfl (fun K hK => ?_) AllReadyH.nil
              go_simp
              refine hK.out _ _ (HKc.out _ HU7.out) (fun hHeld => ?_)
              clear hK K
              try simp only [Act.put, List.setIfInBounds_toArray, List.set_cons_zero, List.set_cons_succ]
              refine wpAnyH_take (i := 18) (oi := { dst := some 92, op := Op.pick (Operand.tmp 81) (Operand.tmp 91) (Operand.const (Value.bool false)), type := 4, pos := "law.go:66", after := #[{ on := 7, ground := Ground.data }, { on := 17, ground := Ground.data }, { on := 3, ground := Ground.guard }], guard := some (3, false) }) (v := ?_) rfl (by kernel_rfl) (by kernel_rfl) (by kernel_rfl) (fun _ _ _ h => h) (Or.inl ⟨by rfl, ?_⟩) (by assumption) ?_
              rotate_left
              · intro u hSu; (try dsimp only at hSu); (go_simp <;> with_reducible rfl)
              try simp only [Act.put, List.setIfInBounds_toArray, List.set_cons_zero, List.set_cons_succ]
              refine wpAnyH_take (i := 19) (oi := { dst := some 93, op := Op.binOp BinOp.neq 4 (Operand.tmp 78) (Operand.tmp 92) 4, type := 4, pos := "law.go:66", after := #[{ on := 4, ground := Ground.data }, { on := 18, ground := Ground.data }, { on := 3, ground := Ground.guard }], guard := some (3, false) }) (v := ?_) rfl (by kernel_rfl) (by kernel_rfl) (by kernel_rfl) (fun _ _ _ h => h) (Or.inl ⟨by rfl, ?_⟩) (by assumption) ?_
              rotate_left
              · intro u hSu; (try dsimp only at hSu); (go_simp <;> with_reducible rfl)
              try simp only [Act.put, List.setIfInBounds_toArray, List.set_cons_zero, List.set_cons_succ]
              refine wpAnyH_take (i := 20) (oi := { dst := some 94, op := Op.pick (Operand.tmp 77) (Operand.const (Value.bool true)) (Operand.tmp 93), type := 4, pos := "law.go:66", after := #[{ on := 3, ground := Ground.data }, { on := 19, ground := Ground.data }], guard := none }) (v := ?_) rfl (by kernel_rfl) (by kernel_rfl) (by kernel_rfl) (fun _ _ _ h => h) (Or.inl ⟨by rfl, ?_⟩) (by assumption) ?_
              rotate_left
              · intro u hSu; (try dsimp only at hSu); (go_simp <;> with_reducible rfl)
              try simp only [Act.put, List.setIfInBounds_toArray, List.set_cons_zero, List.set_cons_succ]
              refine wpAnyH_done (by kernel_rfl) ?_ _
              go_wp2_with fail
              go_roundw
              case rel => exact ⟨k + 1, by go_num, by omega, HU7⟩
              case measure => simp [intOf]; omega
            | true =>
              go_wp2_with fail
              refine (is_ok _ _ _ x y rfl rfl _ es g HOk.out hx hy (HG.out.ext HW.out) true HTt.out).mono ?_
              rintro e u1 ⟨rfl, hb⟩
              have HU1 := Lib.hid (below_then HW.out hb)
              obtain ⟨e2, -⟩ := HKc.out u1 HU1.out
              clear hb
              go_wp2_with fail
              refine (rnodes2_any _ _ es g _ _ 0 HC0.out (HG.out.ext HU1.out)).mono ?_
              rintro e u2 ⟨rfl, hb⟩
              have HU2 := Lib.hid (below_then HU1.out hb)
              obtain ⟨e3, -⟩ := HKc.out u2 HU2.out
              clear hb
              go_wp2_with fail
              refine wp_region_held_drew (S := fun u => u.cell? ⟨b3, o3, none⟩ = some (.int .i64 x) ∧ Below w.heap.size w u) (by kernel_rfl) (HKc.out _ (below_drewN HU2.out 1)) (fun hHeld => ?_)
              refine wpAnyH_take (i := 0) (oi := { dst := some 74, op := Op.move (Operand.tmp 12), type := 24, pos := "law.go:66", after := #[], guard := none }) (v := ?_) rfl (by kernel_rfl) (by kernel_rfl) (by kernel_rfl) (fun _ _ _ h => h) (Or.inl ⟨by rfl, ?_⟩) (by assumption) ?_
              rotate_left
              · intro u hSu; (try dsimp only at hSu); (go_simp <;> with_reducible rfl)
              try simp only [Act.put, List.setIfInBounds_toArray, List.set_cons_zero, List.set_cons_succ]
              refine wpAnyH_take (i := 1) (oi := { dst := some 75, op := Op.move (Operand.tmp 13), type := 3, pos := "law.go:66", after := #[], guard := none }) (v := ?_) rfl (by kernel_rfl) (by kernel_rfl) (by kernel_rfl) (fun _ _ _ h => h) (Or.inl ⟨by rfl, ?_⟩) (by assumption) ?_
              rotate_left
              · intro u hSu; (try dsimp only at hSu); (go_simp <;> with_reducible rfl)
              try simp only [Act.put, List.setIfInBounds_toArray, List.set_cons_zero, List.set_cons_succ]
              refine wpAnyH_take (i := 2) (oi := { dst := some 76, op := Op.binOp BinOp.neq 3 (Operand.tmp 74) (Operand.tmp 75) 3, type := 4, pos := "law.go:66", after := #[{ on := 0, ground := Ground.data }, { on := 1, ground := Ground.data }], guard := none }) (v := ?_) rfl (by kernel_rfl) (by kernel_rfl) (by kernel_rfl) (fun _ _ _ h => h) (Or.inl ⟨by rfl, ?_⟩) (by assumption) ?_
              rotate_left
              · intro u hSu; (try dsimp only at hSu); (go_simp <;> with_reducible rfl)
              try simp only [Act.put, List.setIfInBounds_toArray, List.set_cons_zero, List.set_cons_succ]
              refine wpAnyH_take (i := 3) (oi := { dst := some 77, op := Op.move (Operand.tmp 76), type := 4, pos := "law.go:66", after := #[{ on := 2, ground := Ground.data }], guard := none }) (v := ?_) rfl (by kernel_rfl) (by kernel_rfl) (by kernel_rfl) (fun _ _ _ h => h) (Or.inl ⟨by rfl, ?_⟩) (by assumption) ?_
              rotate_left
              · intro u hSu; (try dsimp only at hSu); (go_simp <;> with_reducible rfl)
              try simp only [Act.put, List.setIfInBounds_toArray, List.set_cons_zero, List.set_cons_succ]
              refine wpAnyH_take (i := 4) (oi := { dst := some 78, op := Op.move (Operand.tmp 11), type := 4, pos := "law.go:66", after := #[{ on := 3, ground := Ground.guard }], guard := some (3, false) }) (v := ?_) rfl (by kernel_rfl) (by kernel_rfl) (by kernel_rfl) (fun _ _ _ h => h) (Or.inl ⟨by rfl, ?_⟩) (by assumption) ?_
              rotate_left
              · intro u hSu; (try dsimp only at hSu); (go_simp <;> with_reducible rfl)
              try simp only [Act.put, List.setIfInBounds_toArray, List.set_cons_zero, List.set_cons_succ]
              refine wpAnyH_take (i := 5) (oi := { dst := some 79, op := Op.move (Operand.tmp 13), type := 3, pos := "law.go:66", after := #[{ on := 3, ground := Ground.guard }], guard := some (3, false) }) (v := ?_) rfl (by kernel_rfl) (by kernel_rfl) (by kernel_rfl) (fun _ _ _ h => h) (Or.inl ⟨by rfl, ?_⟩) (by assumption) ?_
              rotate_left
              · intro u hSu; (try dsimp only at hSu); (go_simp <;> with_reducible rfl)
              try simp only [Act.put, List.setIfInBounds_toArray, List.set_cons_zero, List.set_cons_succ]
              refine wpAnyH_take (i := 6) (oi := { dst := some 80, op := Op.binOp BinOp.eql 3 (Operand.tmp 79) (Operand.const (Value.int IntKind.i64 0)) 3, type := 4, pos := "law.go:66", after := #[{ on := 5, ground := Ground.data }, { on := 3, ground := Ground.guard }], guard := some (3, false) }) (v := ?_) rfl (by kernel_rfl) (by kernel_rfl) (by kernel_rfl) (fun _ _ _ h => h) (Or.inl ⟨by rfl, ?_⟩) (by assumption) ?_
              rotate_left
              · intro u hSu; (try dsimp only at hSu); (go_simp <;> with_reducible rfl)
              try simp only [Act.put, List.setIfInBounds_toArray, List.set_cons_zero, List.set_cons_succ]
              refine wpAnyH_take (i := 7) (oi := { dst := some 81, op := Op.move (Operand.tmp 80), type := 4, pos := "law.go:66", after := #[{ on := 6, ground := Ground.data }, { on := 3, ground := Ground.chain }, { on := 3, ground := Ground.guard }], guard := some (3, false) }) (v := ?_) rfl (by kernel_rfl) (by kernel_rfl) (by kernel_rfl) (fun _ _ _ h => h) (Or.inl ⟨by rfl, ?_⟩) (by assumption) ?_
              rotate_left
              · intro u hSu; (try dsimp only at hSu); (go_simp <;> with_reducible rfl)
              try simp only [Act.put, List.setIfInBounds_toArray, List.set_cons_zero, List.set_cons_succ]
              refine wpAnyH_take (i := 8) (oi := { dst := some 82, op := Op.move (Operand.tmp 0), type := 22, pos := "law.go:66", after := #[{ on := 7, ground := Ground.guard }], guard := some (7, true) }) (v := ?_) rfl (by kernel_rfl) (by kernel_rfl) (by kernel_rfl) (fun _ _ _ h => h) (Or.inl ⟨by rfl, ?_⟩) (by assumption) ?_
              rotate_left
              · intro u hSu; (try dsimp only at hSu); (go_simp <;> with_reducible rfl)
              try simp only [Act.put, List.setIfInBounds_toArray, List.set_cons_zero, List.set_cons_succ]
              refine wpAnyH_take (i := 9) (oi := { dst := some 83, op := Op.move (Operand.tmp 2), type := 3, pos := "law.go:66", after := #[{ on := 7, ground := Ground.guard }], guard := some (7, true) }) (v := ?_) rfl (by kernel_rfl) (by kernel_rfl) (by kernel_rfl) (fun _ _ _ h => h) (Or.inl ⟨by rfl, ?_⟩) (by assumption) ?_
              rotate_left
              · intro u hSu; (try dsimp only at hSu); (go_simp <;> with_reducible rfl)
              try simp only [Act.put, List.setIfInBounds_toArray, List.set_cons_zero, List.set_cons_succ]
              refine wpAnyH_take (i := 12) (oi := { dst := some 86, op := Op.move (Operand.tmp 1), type := 23, pos := "law.go:66", after := #[{ on := 7, ground := Ground.guard }], guard := some (7, true) }) (v := ?_) rfl (by kernel_rfl) (by kernel_rfl) (by kernel_rfl) (fun _ _ _ h => h) (Or.inl ⟨by rfl, ?_⟩) (by assumption) ?_
              rotate_left
              · intro u hSu; (try dsimp only at hSu); (go_simp <;> with_reducible rfl)
              try simp only [Act.put, List.setIfInBounds_toArray, List.set_cons_zero, List.set_cons_succ]
              refine wpAnyH_take (i := 13) (oi := { dst := some 87, op := Op.move (Operand.tmp 10), type := 3, pos := "law.go:66", after := #[{ on := 7, ground := Ground.guard }], guard := some (7, true) }) (v := ?_) rfl (by kernel_rfl) (by kernel_rfl) (by kernel_rfl) (fun _ _ _ h => h) (Or.inl ⟨by rfl, ?_⟩) (by assumption) ?_
              rotate_left
              · intro u hSu; (try dsimp only at hSu); (go_simp <;> with_reducible rfl)
              try simp only [Act.put, List.setIfInBounds_toArray, List.set_cons_zero, List.set_cons_succ]
              refine wpAnyH_take (i := 14) (oi := { dst := some 88, op := Op.indexAddr 23 (Operand.tmp 86) (Operand.tmp 87), type := 0, pos := "law.go:66", after := #[{ on := 12, ground := Ground.data }, { on := 13, ground := Ground.data }, { on := 7, ground := Ground.guard }], guard := some (7, true) }) (v := ?_) rfl (by kernel_rfl) (by kernel_rfl) (by kernel_rfl) (fun _ _ _ h => h) (Or.inl ⟨by rfl, ?_⟩) (by assumption) ?_
              rotate_left
              · intro u hSu; (try dsimp only at hSu); (go_simp <;> with_reducible rfl)
              try simp only [Act.put, List.setIfInBounds_toArray, List.set_cons_zero, List.set_cons_succ]
              refine wpAnyH_take (i := 15) (oi := { dst := some 89, op := Op.load 3 (Operand.tmp 88), type := 3, pos := "law.go:66", after := #[{ on := 14, ground := Ground.data }, { on := 7, ground := Ground.guard }], guard := some (7, true) }) (v := ?_) rfl (by kernel_rfl) (by kernel_rfl) (by kernel_rfl) (fun _ _ _ h => h) (Or.inl ⟨by rfl, ?_⟩) (by assumption) ?_
              rotate_left
              · intro u hSu; (try dsimp only at hSu); (go_simp <;> with_reducible rfl)
              try simp only [Act.put, List.setIfInBounds_toArray, List.set_cons_zero, List.set_cons_succ]
              refine wpAnyH_ready (rs := [10]) (by kernel_rfl) (by simp) ?_
              refine AllReadyH.cons (o := { dst := some 84, op := Op.buildSlice 23 1 #[(0, Operand.tmp 83)], type := 23, pos := "law.go:66", after := #[{ on := 9, ground := Ground.data }, { on := 7, ground := Ground.guard }], guard := some (7, true) }) rfl (fun K hK => ?_) AllReadyH.nil
              go_simp
              refine hK.out _ _ (HKc.out _ ((below_drewN HU2.out 1).alloc HU2.out.size _)) (fun hHeld => ?_)
              clear hK K
              try simp only [Act.put, List.setIfInBounds_toArray, List.set_cons_zero, List.set_cons_succ]
              refine wpAnyH_ready (rs := [11]) (by kernel_rfl) (by simp) ?_
              refine AllReadyH.cons (o := { dst := some 85, op := Op.call { callee := Callee.value (Operand.func 35), args := #[Operand.tmp 82, Operand.tmp 84], argTypes := #[22, 23] }, type := 51, pos := "law.go:66", after := #[{ on := 8, ground := Ground.data }, { on := 10, ground := Ground.data }, { on := 7, ground := Ground.chain }, { on := 7, ground := Ground.guard }], guard := some (7, true) }) rfl (fun K hK => ?_) AllReadyH.nil
              go_simp
              refine (up1_any gv u2.drew es g y _ rfl HOk.out hy (HG.out.ext (below_drewN HU2.out 1))).mono ?_; rintro e u7 ⟨ub, rfl, hub, hu, hb'⟩; have HU7 : Hid (Below w.heap.size w u7) := Lib.hid (below_then (below_drewN HU2.out 1) hb'); obtain ⟨c1, -, -⟩ := hu.cell hx; rw [Dag.upB_one, HTt.out] at c1; clear hu hb'
              refine hK.out _ _ (HKc.out _ HU7.out) (fun hHeld => ?_)
              clear hK K
              try simp only [Act.put, List.setIfInBounds_toArray, List.set_cons_zero, List.set_cons_succ]
              refine wpAnyH_take (i := 16) (oi := { dst := some 90, op := Op.indexAddr 51 (Operand.tmp 85) (Operand.tmp 89), type := 0, pos := "law.go:66", after := #[{ on := 11, ground := Ground.data }, { on := 15, ground := Ground.data }, { on := 7, ground := Ground.guard }], guard := some (7, true) }) (v := ?_) rfl (by kernel_rfl) (by kernel_rfl) (by kernel_rfl) (fun _ _ _ h => h) (Or.inl ⟨by rfl, ?_⟩) (by assumption) ?_
              rotate_left
              · intro u hSu; (try dsimp only at hSu); (go_simp <;> with_reducible rfl)
              try simp only [Act.put, List.setIfInBounds_toArray, List.set_cons_zero, List.set_cons_succ]
              refine wpAnyH_ready (rs := [17]) (by kernel_rfl) (by simp) ?_
              refine AllReadyH.cons (o := { dst := some 91, op := Op.load 4 (Operand.tmp 90), type := 4, pos := "law.go:66", after := #[{ on := 16, ground := Ground.data }, { on := 7, ground := Ground.guard }], guard := some (7, true) }) rfl (fun K hK => ?_) AllReadyH.nil
              go_simp
              refine hK.out _ _ (HKc.out _ HU7.out) (fun hHeld => ?_)
              clear hK K
              try simp only [Act.put, List.setIfInBounds_toArray, List.set_cons_zero, List.set_cons_succ]
              refine wpAnyH_take (i := 18) (oi := { dst := some 92, op := Op.pick (Operand.tmp 81) (Operand.tmp 91) (Operand.const (Value.bool false)), type := 4, pos := "law.go:66", after := #[{ on := 7, ground := Ground.data }, { on := 17, ground := Ground.data }, { on := 3, ground := Ground.guard }], guard := some (3, false) }) (v := ?_) rfl (by kernel_rfl) (by kernel_rfl) (by kernel_rfl) (fun _ _ _ h => h) (Or.inl ⟨by rfl, ?_⟩) (by assumption) ?_
              rotate_left
              · intro u hSu; (try dsimp only at hSu); (go_simp <;> with_reducible rfl)
              try simp only [Act.put, List.setIfInBounds_toArray, List.set_cons_zero, List.set_cons_succ]
              refine wpAnyH_take (i := 19) (oi := { dst := some 93, op := Op.binOp BinOp.neq 4 (Operand.tmp 78) (Operand.tmp 92) 4, type := 4, pos := "law.go:66", after := #[{ on := 4, ground := Ground.data }, { on := 18, ground := Ground.data }, { on := 3, ground := Ground.guard }], guard := some (3, false) }) (v := ?_) rfl (by kernel_rfl) (by kernel_rfl) (by kernel_rfl) (fun _ _ _ h => h) (Or.inl ⟨by rfl, ?_⟩) (by assumption) ?_
              rotate_left
              · intro u hSu; (try dsimp only at hSu); (go_simp <;> with_reducible rfl)
              try simp only [Act.put, List.setIfInBounds_toArray, List.set_cons_zero, List.set_cons_succ]
              refine wpAnyH_take (i := 20) (oi := { dst := some 94, op := Op.pick (Operand.tmp 77) (Operand.const (Value.bool true)) (Operand.tmp 93), type := 4, pos := "law.go:66", after := #[{ on := 3, ground := Ground.data }, { on := 19, ground := Ground.data }], guard := none }) (v := ?_) rfl (by kernel_rfl) (by kernel_rfl) (by kernel_rfl) (fun _ _ _ h => h) (Or.inl ⟨by rfl, ?_⟩) (by assumption) ?_
              rotate_left
              · intro u hSu; (try dsimp only at hSu); (go_simp <;> with_reducible rfl)
              try simp only [Act.put, List.setIfInBounds_toArray, List.set_cons_zero, List.set_cons_succ]
              refine wpAnyH_done (by kernel_rfl) ?_ _
              go_wp2_with fail
              go_roundw
              case rel => exact ⟨k + 1, by go_num, by omega, HU7⟩
              case measure => simp [intOf]; omega
          · have H0 := Lib.hid hc0
            have d1 : ((c : Int) == 0) = false := by simp; omega
            have d2 : (c == 0) = false := by simp; omega
            clear hc0 hcc
            go_wp2_with fail
            refine (is_bad _ _ _ _ es g c HC0.out H0.out (HG.out.ext HW.out)).mono ?_
            rintro e u1 ⟨rfl, hb⟩
            have HU1 := Lib.hid (below_then HW.out hb)
            obtain ⟨e2, -⟩ := HKc.out u1 HU1.out
            clear hb
            go_wp2_with fail
            refine (rnodes2_any _ _ es g _ _ c HC0.out (HG.out.ext HU1.out)).mono ?_
            rintro e u2 ⟨rfl, hb⟩
            have HU2 := Lib.hid (below_then HU1.out hb)
            clear hb
            go_wp2_with fail
            go_quiet (fail)
            go_wp2_with fail
            go_roundw
            case rel => exact ⟨k + 1, by go_num, by omega, Lib.hid (below_drewN HU2.out _)⟩
            case measure => simp [intOf]; omega
        · go_wp2_with fail
          refine (works_any _).mono ?_
          rintro e w20 ⟨rfl, hb⟩
          have HW20 := Lib.hid (below_then HW.out hb)
          clear hb
          go_wp2_with fail
          go_ret
          exact ⟨rfl, HW20.out⟩
    · have HL0 := Lib.hid hL
      have d1 : ((cL : Int) != 0) = true := by simp; omega
      have d2 : (cL != 0) = true := by simp; omega
      have d3 : ((cL : Int) == 0) = false := by simp; omega
      have d4 : (cL == 0) = false := by simp; omega
      clear hL hcL
      go_enter Try.func7, Try.ntmps7
      go_wp2_with fail
      refine (HBg.out).mono ?_
      rintro e w' ⟨rfl, rfl⟩
      go_wp2_with fail
      refine (above_bad _ _ _ es g l cL HCL.out HL0.out (HG.out.ext HA0.out) (H1.out.ext HA0.out)).mono ?_
      rintro e w1 ⟨rfl, hb⟩
      have HW1 := Lib.hid (below_then HA0.out hb)
      clear hb
      go_wp2_with fail
      refine (rnodes_any _ _ _ es g l cL HCL.out (HG.out.ext HW1.out) (H1.out.ext HW1.out)).mono ?_
      rintro e w2 ⟨rfl, hb⟩
      have HW2 := Lib.hid (below_then HW1.out hb)
      clear hb
      go_wp2_with fail
      go_loopw [10] (fun i wr => ∃ (k : Nat), i = .int .i64 k ∧ k ≤ l.length ∧ Hid (Below w.heap.size w wr)) (fun i _ => l.length - (intOf i).toNat)
      case atStart => exact ⟨0, rfl, by omega, HW2⟩
      case round =>
        obtain ⟨k, rfl, hk, HW⟩ := hrel
        by_cases hlt : k < l.length
        · obtain ⟨b2, o2, hb2, hix2, hc2⟩ := H1.out.atB HW.out (P := Try.prog) Try.underlying23 cells3 some3 hlt
          obtain ⟨b3, o3, hb3, hix3, hc3⟩ := H1.out.at (P := Try.prog) Try.underlying23 cells3 some3 hlt
          have e0 : b3 = b2 ∧ o3 = o2 := by
            have h3 := hix2 .i64 w
            rw [hix3 .i64 w] at h3
            simpa using h3
          obtain ⟨rfl, rfl⟩ := e0
          have e1 := hc2 0 (by omega)
          have e9 := hc3 0 (by omega)
          simp only [eInt, List.getElem?_cons_zero, Nat.add_zero] at e1 e9
          obtain ⟨x, HY⟩ : ∃ x, Hid (l[k] = x) := ⟨_, Lib.hid rfl⟩
          rw [HY.out] at e1 e9
          have HKc : Hid (∀ u, Below w.heap.size w u → u.cell? ⟨b3, o3, none⟩ = some (.int .i64 x) ∧ Below w.heap.size w u) := Lib.hid (fun u hu => ⟨(hu.cell (p := ⟨b3, o3, none⟩) hb3).trans e9, hu⟩)
          clear hc2 hc3 e9 hix3
          obtain ⟨c, hcc⟩ : ∃ c, Dag.nodes g [x, b] = c := ⟨_, rfl⟩
          have HC0 := Lib.hid hcc
          by_cases hc0 : c = 0
          · subst hc0
            obtain ⟨hg, hin⟩ := Dag.nodes_zero hcc
            have hxa := hin x (by simp)
            have hya := hin b (by simp)
            obtain ⟨x, rfl⟩ : ∃ x' : Nat, x = x' := ⟨x.toNat, by omega⟩
            obtain ⟨y, rfl⟩ : ∃ y : Nat, b = y := ⟨b.toNat, by omega⟩
            have hx : x < g.length := by omega
            have hy : y < g.length := by omega
            have HOk := Lib.hid hg
            obtain ⟨t, ht⟩ : ∃ t, Dag.tt (Dag.Anc (Dag.par g) y x) = t := ⟨_, rfl⟩
            have HTt := Lib.hid ht
            clear ht hin hg hcc hxa hya
            cases t with
            | false =>
              go_wp2_with fail
              refine (is_ok _ _ _ x y rfl rfl _ es g HOk.out hx hy (HG.out.ext HW.out) false HTt.out).mono ?_
              rintro e u1 ⟨rfl, hb⟩
              have HU1 := Lib.hid (below_then HW.out hb)
              obtain ⟨e2, -⟩ := HKc.out u1 HU1.out
              clear hb
              go_wp2_with fail
              refine (rnodes2_any _ _ es g _ _ 0 HC0.out (HG.out.ext HU1.out)).mono ?_
              rintro e u2 ⟨rfl, hb⟩
              have HU2 := Lib.hid (below_then HU1.out hb)
              obtain ⟨e3, -⟩ := HKc.out u2 HU2.out
              clear hb
              go_wp2_with fail
              refine wp_region_held_drew (S := fun u => u.cell? ⟨b3, o3, none⟩ = some (.int .i64 x) ∧ Below w.heap.size w u) (by kernel_rfl) (HKc.out _ (below_drewN HU2.out 1)) (fun hHeld => ?_)
              refine wpAnyH_take (i := 0) (oi := { dst := some 74, op := Op.move (Operand.tmp 12), type := 24, pos := "law.go:66", after := #[], guard := none }) (v := ?_) rfl (by kernel_rfl) (by kernel_rfl) (by kernel_rfl) (fun _ _ _ h => h) (Or.inl ⟨by rfl, ?_⟩) (by assumption) ?_
              rotate_left
              · intro u hSu; (try dsimp only at hSu); (go_simp <;> with_reducible rfl)
              try simp only [Act.put, List.setIfInBounds_toArray, List.set_cons_zero, List.set_cons_succ]
              refine wpAnyH_take (i := 1) (oi := { dst := some 75, op := Op.move (Operand.tmp 13), type := 3, pos := "law.go:66", after := #[], guard := none }) (v := ?_) rfl (by kernel_rfl) (by kernel_rfl) (by kernel_rfl) (fun _ _ _ h => h) (Or.inl ⟨by rfl, ?_⟩) (by assumption) ?_
              rotate_left
              · intro u hSu; (try dsimp only at hSu); (go_simp <;> with_reducible rfl)
              try simp only [Act.put, List.setIfInBounds_toArray, List.set_cons_zero, List.set_cons_succ]
              refine wpAnyH_take (i := 2) (oi := { dst := some 76, op := Op.binOp BinOp.neq 3 (Operand.tmp 74) (Operand.tmp 75) 3, type := 4, pos := "law.go:66", after := #[{ on := 0, ground := Ground.data }, { on := 1, ground := Ground.data }], guard := none }) (v := ?_) rfl (by kernel_rfl) (by kernel_rfl) (by kernel_rfl) (fun _ _ _ h => h) (Or.inl ⟨by rfl, ?_⟩) (by assumption) ?_
              rotate_left
              · intro u hSu; (try dsimp only at hSu); (go_simp <;> with_reducible rfl)
              try simp only [Act.put, List.setIfInBounds_toArray, List.set_cons_zero, List.set_cons_succ]
              refine wpAnyH_take (i := 3) (oi := { dst := some 77, op := Op.move (Operand.tmp 76), type := 4, pos := "law.go:66", after := #[{ on := 2, ground := Ground.data }], guard := none }) (v := ?_) rfl (by kernel_rfl) (by kernel_rfl) (by kernel_rfl) (fun _ _ _ h => h) (Or.inl ⟨by rfl, ?_⟩) (by assumption) ?_
              rotate_left
              · intro u hSu; (try dsimp only at hSu); (go_simp <;> with_reducible rfl)
              try simp only [Act.put, List.setIfInBounds_toArray, List.set_cons_zero, List.set_cons_succ]
              refine wpAnyH_take (i := 4) (oi := { dst := some 78, op := Op.move (Operand.tmp 11), type := 4, pos := "law.go:66", after := #[{ on := 3, ground := Ground.guard }], guard := some (3, false) }) (v := ?_) rfl (by kernel_rfl) (by kernel_rfl) (by kernel_rfl) (fun _ _ _ h => h) (Or.inl ⟨by rfl, ?_⟩) (by assumption) ?_
              rotate_left
              · intro u hSu; (try dsimp only at hSu); (go_simp <;> with_reducible rfl)
              try simp only [Act.put, List.setIfInBounds_toArray, List.set_cons_zero, List.set_cons_succ]
              refine wpAnyH_take (i := 5) (oi := { dst := some 79, op := Op.move (Operand.tmp 13), type := 3, pos := "law.go:66", after := #[{ on := 3, ground := Ground.guard }], guard := some (3, false) }) (v := ?_) rfl (by kernel_rfl) (by kernel_rfl) (by kernel_rfl) (fun _ _ _ h => h) (Or.inl ⟨by rfl, ?_⟩) (by assumption) ?_
              rotate_left
              · intro u hSu; (try dsimp only at hSu); (go_simp <;> with_reducible rfl)
              try simp only [Act.put, List.setIfInBounds_toArray, List.set_cons_zero, List.set_cons_succ]
              refine wpAnyH_take (i := 6) (oi := { dst := some 80, op := Op.binOp BinOp.eql 3 (Operand.tmp 79) (Operand.const (Value.int IntKind.i64 0)) 3, type := 4, pos := "law.go:66", after := #[{ on := 5, ground := Ground.data }, { on := 3, ground := Ground.guard }], guard := some (3, false) }) (v := ?_) rfl (by kernel_rfl) (by kernel_rfl) (by kernel_rfl) (fun _ _ _ h => h) (Or.inl ⟨by rfl, ?_⟩) (by assumption) ?_
              rotate_left
              · intro u hSu; (try dsimp only at hSu); (go_simp <;> with_reducible rfl)
              try simp only [Act.put, List.setIfInBounds_toArray, List.set_cons_zero, List.set_cons_succ]
              refine wpAnyH_take (i := 7) (oi := { dst := some 81, op := Op.move (Operand.tmp 80), type := 4, pos := "law.go:66", after := #[{ on := 6, ground := Ground.data }, { on := 3, ground := Ground.chain }, { on := 3, ground := Ground.guard }], guard := some (3, false) }) (v := ?_) rfl (by kernel_rfl) (by kernel_rfl) (by kernel_rfl) (fun _ _ _ h => h) (Or.inl ⟨by rfl, ?_⟩) (by assumption) ?_
              rotate_left
              · intro u hSu; (try dsimp only at hSu); (go_simp <;> with_reducible rfl)
              try simp only [Act.put, List.setIfInBounds_toArray, List.set_cons_zero, List.set_cons_succ]
              refine wpAnyH_take (i := 8) (oi := { dst := some 82, op := Op.move (Operand.tmp 0), type := 22, pos := "law.go:66", after := #[{ on := 7, ground := Ground.guard }], guard := some (7, true) }) (v := ?_) rfl (by kernel_rfl) (by kernel_rfl) (by kernel_rfl) (fun _ _ _ h => h) (Or.inl ⟨by rfl, ?_⟩) (by assumption) ?_
              rotate_left
              · intro u hSu; (try dsimp only at hSu); (go_simp <;> with_reducible rfl)
              try simp only [Act.put, List.setIfInBounds_toArray, List.set_cons_zero, List.set_cons_succ]
              refine wpAnyH_take (i := 9) (oi := { dst := some 83, op := Op.move (Operand.tmp 2), type := 3, pos := "law.go:66", after := #[{ on := 7, ground := Ground.guard }], guard := some (7, true) }) (v := ?_) rfl (by kernel_rfl) (by kernel_rfl) (by kernel_rfl) (fun _ _ _ h => h) (Or.inl ⟨by rfl, ?_⟩) (by assumption) ?_
              rotate_left
              · intro u hSu; (try dsimp only at hSu); (go_simp <;> with_reducible rfl)
              try simp only [Act.put, List.setIfInBounds_toArray, List.set_cons_zero, List.set_cons_succ]
              refine wpAnyH_take (i := 12) (oi := { dst := some 86, op := Op.move (Operand.tmp 1), type := 23, pos := "law.go:66", after := #[{ on := 7, ground := Ground.guard }], guard := some (7, true) }) (v := ?_) rfl (by kernel_rfl) (by kernel_rfl) (by kernel_rfl) (fun _ _ _ h => h) (Or.inl ⟨by rfl, ?_⟩) (by assumption) ?_
              rotate_left
              · intro u hSu; (try dsimp only at hSu); (go_simp <;> with_reducible rfl)
              try simp only [Act.put, List.setIfInBounds_toArray, List.set_cons_zero, List.set_cons_succ]
              refine wpAnyH_take (i := 13) (oi := { dst := some 87, op := Op.move (Operand.tmp 10), type := 3, pos := "law.go:66", after := #[{ on := 7, ground := Ground.guard }], guard := some (7, true) }) (v := ?_) rfl (by kernel_rfl) (by kernel_rfl) (by kernel_rfl) (fun _ _ _ h => h) (Or.inl ⟨by rfl, ?_⟩) (by assumption) ?_
              rotate_left
              · intro u hSu; (try dsimp only at hSu); (go_simp <;> with_reducible rfl)
              try simp only [Act.put, List.setIfInBounds_toArray, List.set_cons_zero, List.set_cons_succ]
              refine wpAnyH_take (i := 14) (oi := { dst := some 88, op := Op.indexAddr 23 (Operand.tmp 86) (Operand.tmp 87), type := 0, pos := "law.go:66", after := #[{ on := 12, ground := Ground.data }, { on := 13, ground := Ground.data }, { on := 7, ground := Ground.guard }], guard := some (7, true) }) (v := ?_) rfl (by kernel_rfl) (by kernel_rfl) (by kernel_rfl) (fun _ _ _ h => h) (Or.inl ⟨by rfl, ?_⟩) (by assumption) ?_
              rotate_left
              · intro u hSu; (try dsimp only at hSu); (go_simp <;> with_reducible rfl)
              try simp only [Act.put, List.setIfInBounds_toArray, List.set_cons_zero, List.set_cons_succ]
              refine wpAnyH_take (i := 15) (oi := { dst := some 89, op := Op.load 3 (Operand.tmp 88), type := 3, pos := "law.go:66", after := #[{ on := 14, ground := Ground.data }, { on := 7, ground := Ground.guard }], guard := some (7, true) }) (v := ?_) rfl (by kernel_rfl) (by kernel_rfl) (by kernel_rfl) (fun _ _ _ h => h) (Or.inl ⟨by rfl, ?_⟩) (by assumption) ?_
              rotate_left
              · intro u hSu; (try dsimp only at hSu); (go_simp <;> with_reducible rfl)
              try simp only [Act.put, List.setIfInBounds_toArray, List.set_cons_zero, List.set_cons_succ]
              refine wpAnyH_ready (rs := [10]) (by kernel_rfl) (by simp) ?_
              refine AllReadyH.cons (o := { dst := some 84, op := Op.buildSlice 23 1 #[(0, Operand.tmp 83)], type := 23, pos := "law.go:66", after := #[{ on := 9, ground := Ground.data }, { on := 7, ground := Ground.guard }], guard := some (7, true) }) rfl (fun K hK => ?_) AllReadyH.nil
              go_simp
              refine hK.out _ _ (HKc.out _ ((below_drewN HU2.out 1).alloc HU2.out.size _)) (fun hHeld => ?_)
              clear hK K
              try simp only [Act.put, List.setIfInBounds_toArray, List.set_cons_zero, List.set_cons_succ]
              refine wpAnyH_ready (rs := [11]) (by kernel_rfl) (by simp) ?_
              refine AllReadyH.cons (o := { dst := some 85, op := Op.call { callee := Callee.value (Operand.func 35), args := #[Operand.tmp 82, Operand.tmp 84], argTypes := #[22, 23] }, type := 51, pos := "law.go:66", after := #[{ on := 8, ground := Ground.data }, { on := 10, ground := Ground.data }, { on := 7, ground := Ground.chain }, { on := 7, ground := Ground.guard }], guard := some (7, true) }) rfl (fun K hK => ?_) AllReadyH.nil
              go_simp
              refine (up1_any gv u2.drew es g y _ rfl HOk.out hy (HG.out.ext (below_drewN HU2.out 1))).mono ?_; rintro e u7 ⟨ub, rfl, hub, hu, hb'⟩; have HU7 : Hid (Below w.heap.size w u7) := Lib.hid (below_then (below_drewN HU2.out 1) hb'); obtain ⟨c1, -, -⟩ := hu.cell hx; rw [Dag.upB_one, HTt.out] at c1; clear hu hb'
              refine hK.out _ _ (HKc.out _ HU7.out) (fun hHeld => ?_)
              clear hK K
              try simp only [Act.put, List.setIfInBounds_toArray, List.set_cons_zero, List.set_cons_succ]
              refine wpAnyH_take (i := 16) (oi := { dst := some 90, op := Op.indexAddr 51 (Operand.tmp 85) (Operand.tmp 89), type := 0, pos := "law.go:66", after := #[{ on := 11, ground := Ground.data }, { on := 15, ground := Ground.data }, { on := 7, ground := Ground.guard }], guard := some (7, true) }) (v := ?_) rfl (by kernel_rfl) (by kernel_rfl) (by kernel_rfl) (fun _ _ _ h => h) (Or.inl ⟨by rfl, ?_⟩) (by assumption) ?_
              rotate_left
              · intro u hSu; (try dsimp only at hSu); (go_simp <;> with_reducible rfl)
              try simp only [Act.put, List.setIfInBounds_toArray, List.set_cons_zero, List.set_cons_succ]
              refine wpAnyH_ready (rs := [17]) (by kernel_rfl) (by simp) ?_
              refine AllReadyH.cons (o := { dst := some 91, op := Op.load 4 (Operand.tmp 90), type := 4, pos := "law.go:66", after := #[{ on := 16, ground := Ground.data }, { on := 7, ground := Ground.guard }], guard := some (7, true) }) rfl (fun K hK => ?_) AllReadyH.nil
              go_simp
              refine hK.out _ _ (HKc.out _ HU7.out) (fun hHeld => ?_)
              clear hK K
              try simp only [Act.put, List.setIfInBounds_toArray, List.set_cons_zero, List.set_cons_succ]
              refine wpAnyH_take (i := 18) (oi := { dst := some 92, op := Op.pick (Operand.tmp 81) (Operand.tmp 91) (Operand.const (Value.bool false)), type := 4, pos := "law.go:66", after := #[{ on := 7, ground := Ground.data }, { on := 17, ground := Ground.data }, { on := 3, ground := Ground.guard }], guard := some (3, false) }) (v := ?_) rfl (by kernel_rfl) (by kernel_rfl) (by kernel_rfl) (fun _ _ _ h => h) (Or.inl ⟨by rfl, ?_⟩) (by assumption) ?_
              rotate_left
              · intro u hSu; (try dsimp only at hSu); (go_simp <;> with_reducible rfl)
              try simp only [Act.put, List.setIfInBounds_toArray, List.set_cons_zero, List.set_cons_succ]
              refine wpAnyH_take (i := 19) (oi := { dst := some 93, op := Op.binOp BinOp.neq 4 (Operand.tmp 78) (Operand.tmp 92) 4, type := 4, pos := "law.go:66", after := #[{ on := 4, ground := Ground.data }, { on := 18, ground := Ground.data }, { on := 3, ground := Ground.guard }], guard := some (3, false) }) (v := ?_) rfl (by kernel_rfl) (by kernel_rfl) (by kernel_rfl) (fun _ _ _ h => h) (Or.inl ⟨by rfl, ?_⟩) (by assumption) ?_
              rotate_left
              · intro u hSu; (try dsimp only at hSu); (go_simp <;> with_reducible rfl)
              try simp only [Act.put, List.setIfInBounds_toArray, List.set_cons_zero, List.set_cons_succ]
              refine wpAnyH_take (i := 20) (oi := { dst := some 94, op := Op.pick (Operand.tmp 77) (Operand.const (Value.bool true)) (Operand.tmp 93), type := 4, pos := "law.go:66", after := #[{ on := 3, ground := Ground.data }, { on := 19, ground := Ground.data }], guard := none }) (v := ?_) rfl (by kernel_rfl) (by kernel_rfl) (by kernel_rfl) (fun _ _ _ h => h) (Or.inl ⟨by rfl, ?_⟩) (by assumption) ?_
              rotate_left
              · intro u hSu; (try dsimp only at hSu); (go_simp <;> with_reducible rfl)
              try simp only [Act.put, List.setIfInBounds_toArray, List.set_cons_zero, List.set_cons_succ]
              refine wpAnyH_done (by kernel_rfl) ?_ _
              go_wp2_with fail
              go_roundw
              case rel => exact ⟨k + 1, by go_num, by omega, HU7⟩
              case measure => simp [intOf]; omega
            | true =>
              go_wp2_with fail
              refine (is_ok _ _ _ x y rfl rfl _ es g HOk.out hx hy (HG.out.ext HW.out) true HTt.out).mono ?_
              rintro e u1 ⟨rfl, hb⟩
              have HU1 := Lib.hid (below_then HW.out hb)
              obtain ⟨e2, -⟩ := HKc.out u1 HU1.out
              clear hb
              go_wp2_with fail
              refine (rnodes2_any _ _ es g _ _ 0 HC0.out (HG.out.ext HU1.out)).mono ?_
              rintro e u2 ⟨rfl, hb⟩
              have HU2 := Lib.hid (below_then HU1.out hb)
              obtain ⟨e3, -⟩ := HKc.out u2 HU2.out
              clear hb
              go_wp2_with fail
              refine wp_region_held_drew (S := fun u => u.cell? ⟨b3, o3, none⟩ = some (.int .i64 x) ∧ Below w.heap.size w u) (by kernel_rfl) (HKc.out _ (below_drewN HU2.out 1)) (fun hHeld => ?_)
              refine wpAnyH_take (i := 0) (oi := { dst := some 74, op := Op.move (Operand.tmp 12), type := 24, pos := "law.go:66", after := #[], guard := none }) (v := ?_) rfl (by kernel_rfl) (by kernel_rfl) (by kernel_rfl) (fun _ _ _ h => h) (Or.inl ⟨by rfl, ?_⟩) (by assumption) ?_
              rotate_left
              · intro u hSu; (try dsimp only at hSu); (go_simp <;> with_reducible rfl)
              try simp only [Act.put, List.setIfInBounds_toArray, List.set_cons_zero, List.set_cons_succ]
              refine wpAnyH_take (i := 1) (oi := { dst := some 75, op := Op.move (Operand.tmp 13), type := 3, pos := "law.go:66", after := #[], guard := none }) (v := ?_) rfl (by kernel_rfl) (by kernel_rfl) (by kernel_rfl) (fun _ _ _ h => h) (Or.inl ⟨by rfl, ?_⟩) (by assumption) ?_
              rotate_left
              · intro u hSu; (try dsimp only at hSu); (go_simp <;> with_reducible rfl)
              try simp only [Act.put, List.setIfInBounds_toArray, List.set_cons_zero, List.set_cons_succ]
              refine wpAnyH_take (i := 2) (oi := { dst := some 76, op := Op.binOp BinOp.neq 3 (Operand.tmp 74) (Operand.tmp 75) 3, type := 4, pos := "law.go:66", after := #[{ on := 0, ground := Ground.data }, { on := 1, ground := Ground.data }], guard := none }) (v := ?_) rfl (by kernel_rfl) (by kernel_rfl) (by kernel_rfl) (fun _ _ _ h => h) (Or.inl ⟨by rfl, ?_⟩) (by assumption) ?_
              rotate_left
              · intro u hSu; (try dsimp only at hSu); (go_simp <;> with_reducible rfl)
              try simp only [Act.put, List.setIfInBounds_toArray, List.set_cons_zero, List.set_cons_succ]
              refine wpAnyH_take (i := 3) (oi := { dst := some 77, op := Op.move (Operand.tmp 76), type := 4, pos := "law.go:66", after := #[{ on := 2, ground := Ground.data }], guard := none }) (v := ?_) rfl (by kernel_rfl) (by kernel_rfl) (by kernel_rfl) (fun _ _ _ h => h) (Or.inl ⟨by rfl, ?_⟩) (by assumption) ?_
              rotate_left
              · intro u hSu; (try dsimp only at hSu); (go_simp <;> with_reducible rfl)
              try simp only [Act.put, List.setIfInBounds_toArray, List.set_cons_zero, List.set_cons_succ]
              refine wpAnyH_take (i := 4) (oi := { dst := some 78, op := Op.move (Operand.tmp 11), type := 4, pos := "law.go:66", after := #[{ on := 3, ground := Ground.guard }], guard := some (3, false) }) (v := ?_) rfl (by kernel_rfl) (by kernel_rfl) (by kernel_rfl) (fun _ _ _ h => h) (Or.inl ⟨by rfl, ?_⟩) (by assumption) ?_
              rotate_left
              · intro u hSu; (try dsimp only at hSu); (go_simp <;> with_reducible rfl)
              try simp only [Act.put, List.setIfInBounds_toArray, List.set_cons_zero, List.set_cons_succ]
              refine wpAnyH_take (i := 5) (oi := { dst := some 79, op := Op.move (Operand.tmp 13), type := 3, pos := "law.go:66", after := #[{ on := 3, ground := Ground.guard }], guard := some (3, false) }) (v := ?_) rfl (by kernel_rfl) (by kernel_rfl) (by kernel_rfl) (fun _ _ _ h => h) (Or.inl ⟨by rfl, ?_⟩) (by assumption) ?_
              rotate_left
              · intro u hSu; (try dsimp only at hSu); (go_simp <;> with_reducible rfl)
              try simp only [Act.put, List.setIfInBounds_toArray, List.set_cons_zero, List.set_cons_succ]
              refine wpAnyH_take (i := 6) (oi := { dst := some 80, op := Op.binOp BinOp.eql 3 (Operand.tmp 79) (Operand.const (Value.int IntKind.i64 0)) 3, type := 4, pos := "law.go:66", after := #[{ on := 5, ground := Ground.data }, { on := 3, ground := Ground.guard }], guard := some (3, false) }) (v := ?_) rfl (by kernel_rfl) (by kernel_rfl) (by kernel_rfl) (fun _ _ _ h => h) (Or.inl ⟨by rfl, ?_⟩) (by assumption) ?_
              rotate_left
              · intro u hSu; (try dsimp only at hSu); (go_simp <;> with_reducible rfl)
              try simp only [Act.put, List.setIfInBounds_toArray, List.set_cons_zero, List.set_cons_succ]
              refine wpAnyH_take (i := 7) (oi := { dst := some 81, op := Op.move (Operand.tmp 80), type := 4, pos := "law.go:66", after := #[{ on := 6, ground := Ground.data }, { on := 3, ground := Ground.chain }, { on := 3, ground := Ground.guard }], guard := some (3, false) }) (v := ?_) rfl (by kernel_rfl) (by kernel_rfl) (by kernel_rfl) (fun _ _ _ h => h) (Or.inl ⟨by rfl, ?_⟩) (by assumption) ?_
              rotate_left
              · intro u hSu; (try dsimp only at hSu); (go_simp <;> with_reducible rfl)
              try simp only [Act.put, List.setIfInBounds_toArray, List.set_cons_zero, List.set_cons_succ]
              refine wpAnyH_take (i := 8) (oi := { dst := some 82, op := Op.move (Operand.tmp 0), type := 22, pos := "law.go:66", after := #[{ on := 7, ground := Ground.guard }], guard := some (7, true) }) (v := ?_) rfl (by kernel_rfl) (by kernel_rfl) (by kernel_rfl) (fun _ _ _ h => h) (Or.inl ⟨by rfl, ?_⟩) (by assumption) ?_
              rotate_left
              · intro u hSu; (try dsimp only at hSu); (go_simp <;> with_reducible rfl)
              try simp only [Act.put, List.setIfInBounds_toArray, List.set_cons_zero, List.set_cons_succ]
              refine wpAnyH_take (i := 9) (oi := { dst := some 83, op := Op.move (Operand.tmp 2), type := 3, pos := "law.go:66", after := #[{ on := 7, ground := Ground.guard }], guard := some (7, true) }) (v := ?_) rfl (by kernel_rfl) (by kernel_rfl) (by kernel_rfl) (fun _ _ _ h => h) (Or.inl ⟨by rfl, ?_⟩) (by assumption) ?_
              rotate_left
              · intro u hSu; (try dsimp only at hSu); (go_simp <;> with_reducible rfl)
              try simp only [Act.put, List.setIfInBounds_toArray, List.set_cons_zero, List.set_cons_succ]
              refine wpAnyH_take (i := 12) (oi := { dst := some 86, op := Op.move (Operand.tmp 1), type := 23, pos := "law.go:66", after := #[{ on := 7, ground := Ground.guard }], guard := some (7, true) }) (v := ?_) rfl (by kernel_rfl) (by kernel_rfl) (by kernel_rfl) (fun _ _ _ h => h) (Or.inl ⟨by rfl, ?_⟩) (by assumption) ?_
              rotate_left
              · intro u hSu; (try dsimp only at hSu); (go_simp <;> with_reducible rfl)
              try simp only [Act.put, List.setIfInBounds_toArray, List.set_cons_zero, List.set_cons_succ]
              refine wpAnyH_take (i := 13) (oi := { dst := some 87, op := Op.move (Operand.tmp 10), type := 3, pos := "law.go:66", after := #[{ on := 7, ground := Ground.guard }], guard := some (7, true) }) (v := ?_) rfl (by kernel_rfl) (by kernel_rfl) (by kernel_rfl) (fun _ _ _ h => h) (Or.inl ⟨by rfl, ?_⟩) (by assumption) ?_
              rotate_left
              · intro u hSu; (try dsimp only at hSu); (go_simp <;> with_reducible rfl)
              try simp only [Act.put, List.setIfInBounds_toArray, List.set_cons_zero, List.set_cons_succ]
              refine wpAnyH_take (i := 14) (oi := { dst := some 88, op := Op.indexAddr 23 (Operand.tmp 86) (Operand.tmp 87), type := 0, pos := "law.go:66", after := #[{ on := 12, ground := Ground.data }, { on := 13, ground := Ground.data }, { on := 7, ground := Ground.guard }], guard := some (7, true) }) (v := ?_) rfl (by kernel_rfl) (by kernel_rfl) (by kernel_rfl) (fun _ _ _ h => h) (Or.inl ⟨by rfl, ?_⟩) (by assumption) ?_
              rotate_left
              · intro u hSu; (try dsimp only at hSu); (go_simp <;> with_reducible rfl)
              try simp only [Act.put, List.setIfInBounds_toArray, List.set_cons_zero, List.set_cons_succ]
              refine wpAnyH_take (i := 15) (oi := { dst := some 89, op := Op.load 3 (Operand.tmp 88), type := 3, pos := "law.go:66", after := #[{ on := 14, ground := Ground.data }, { on := 7, ground := Ground.guard }], guard := some (7, true) }) (v := ?_) rfl (by kernel_rfl) (by kernel_rfl) (by kernel_rfl) (fun _ _ _ h => h) (Or.inl ⟨by rfl, ?_⟩) (by assumption) ?_
              rotate_left
              · intro u hSu; (try dsimp only at hSu); (go_simp <;> with_reducible rfl)
              try simp only [Act.put, List.setIfInBounds_toArray, List.set_cons_zero, List.set_cons_succ]
              refine wpAnyH_ready (rs := [10]) (by kernel_rfl) (by simp) ?_
              refine AllReadyH.cons (o := { dst := some 84, op := Op.buildSlice 23 1 #[(0, Operand.tmp 83)], type := 23, pos := "law.go:66", after := #[{ on := 9, ground := Ground.data }, { on := 7, ground := Ground.guard }], guard := some (7, true) }) rfl (fun K hK => ?_) AllReadyH.nil
              go_simp
              refine hK.out _ _ (HKc.out _ ((below_drewN HU2.out 1).alloc HU2.out.size _)) (fun hHeld => ?_)
              clear hK K
              try simp only [Act.put, List.setIfInBounds_toArray, List.set_cons_zero, List.set_cons_succ]
              refine wpAnyH_ready (rs := [11]) (by kernel_rfl) (by simp) ?_
              refine AllReadyH.cons (o := { dst := some 85, op := Op.call { callee := Callee.value (Operand.func 35), args := #[Operand.tmp 82, Operand.tmp 84], argTypes := #[22, 23] }, type := 51, pos := "law.go:66", after := #[{ on := 8, ground := Ground.data }, { on := 10, ground := Ground.data }, { on := 7, ground := Ground.chain }, { on := 7, ground := Ground.guard }], guard := some (7, true) }) rfl (fun K hK => ?_) AllReadyH.nil
              go_simp
              refine (up1_any gv u2.drew es g y _ rfl HOk.out hy (HG.out.ext (below_drewN HU2.out 1))).mono ?_; rintro e u7 ⟨ub, rfl, hub, hu, hb'⟩; have HU7 : Hid (Below w.heap.size w u7) := Lib.hid (below_then (below_drewN HU2.out 1) hb'); obtain ⟨c1, -, -⟩ := hu.cell hx; rw [Dag.upB_one, HTt.out] at c1; clear hu hb'
              refine hK.out _ _ (HKc.out _ HU7.out) (fun hHeld => ?_)
              clear hK K
              try simp only [Act.put, List.setIfInBounds_toArray, List.set_cons_zero, List.set_cons_succ]
              refine wpAnyH_take (i := 16) (oi := { dst := some 90, op := Op.indexAddr 51 (Operand.tmp 85) (Operand.tmp 89), type := 0, pos := "law.go:66", after := #[{ on := 11, ground := Ground.data }, { on := 15, ground := Ground.data }, { on := 7, ground := Ground.guard }], guard := some (7, true) }) (v := ?_) rfl (by kernel_rfl) (by kernel_rfl) (by kernel_rfl) (fun _ _ _ h => h) (Or.inl ⟨by rfl, ?_⟩) (by assumption) ?_
              rotate_left
              · intro u hSu; (try dsimp only at hSu); (go_simp <;> with_reducible rfl)
              try simp only [Act.put, List.setIfInBounds_toArray, List.set_cons_zero, List.set_cons_succ]
              refine wpAnyH_ready (rs := [17]) (by kernel_rfl) (by simp) ?_
              refine AllReadyH.cons (o := { dst := some 91, op := Op.load 4 (Operand.tmp 90), type := 4, pos := "law.go:66", after := #[{ on := 16, ground := Ground.data }, { on := 7, ground := Ground.guard }], guard := some (7, true) }) rfl (fun K hK => ?_) AllReadyH.nil
              go_simp
              refine hK.out _ _ (HKc.out _ HU7.out) (fun hHeld => ?_)
              clear hK K
              try simp only [Act.put, List.setIfInBounds_toArray, List.set_cons_zero, List.set_cons_succ]
              refine wpAnyH_take (i := 18) (oi := { dst := some 92, op := Op.pick (Operand.tmp 81) (Operand.tmp 91) (Operand.const (Value.bool false)), type := 4, pos := "law.go:66", after := #[{ on := 7, ground := Ground.data }, { on := 17, ground := Ground.data }, { on := 3, ground := Ground.guard }], guard := some (3, false) }) (v := ?_) rfl (by kernel_rfl) (by kernel_rfl) (by kernel_rfl) (fun _ _ _ h => h) (Or.inl ⟨by rfl, ?_⟩) (by assumption) ?_
              rotate_left
              · intro u hSu; (try dsimp only at hSu); (go_simp <;> with_reducible rfl)
              try simp only [Act.put, List.setIfInBounds_toArray, List.set_cons_zero, List.set_cons_succ]
              refine wpAnyH_take (i := 19) (oi := { dst := some 93, op := Op.binOp BinOp.neq 4 (Operand.tmp 78) (Operand.tmp 92) 4, type := 4, pos := "law.go:66", after := #[{ on := 4, ground := Ground.data }, { on := 18, ground := Ground.data }, { on := 3, ground := Ground.guard }], guard := some (3, false) }) (v := ?_) rfl (by kernel_rfl) (by kernel_rfl) (by kernel_rfl) (fun _ _ _ h => h) (Or.inl ⟨by rfl, ?_⟩) (by assumption) ?_
              rotate_left
              · intro u hSu; (try dsimp only at hSu); (go_simp <;> with_reducible rfl)
              try simp only [Act.put, List.setIfInBounds_toArray, List.set_cons_zero, List.set_cons_succ]
              refine wpAnyH_take (i := 20) (oi := { dst := some 94, op := Op.pick (Operand.tmp 77) (Operand.const (Value.bool true)) (Operand.tmp 93), type := 4, pos := "law.go:66", after := #[{ on := 3, ground := Ground.data }, { on := 19, ground := Ground.data }], guard := none }) (v := ?_) rfl (by kernel_rfl) (by kernel_rfl) (by kernel_rfl) (fun _ _ _ h => h) (Or.inl ⟨by rfl, ?_⟩) (by assumption) ?_
              rotate_left
              · intro u hSu; (try dsimp only at hSu); (go_simp <;> with_reducible rfl)
              try simp only [Act.put, List.setIfInBounds_toArray, List.set_cons_zero, List.set_cons_succ]
              refine wpAnyH_done (by kernel_rfl) ?_ _
              go_wp2_with fail
              go_roundw
              case rel => exact ⟨k + 1, by go_num, by omega, HU7⟩
              case measure => simp [intOf]; omega
          · have H0 := Lib.hid hc0
            have d1 : ((c : Int) == 0) = false := by simp; omega
            have d2 : (c == 0) = false := by simp; omega
            clear hc0 hcc
            go_wp2_with fail
            refine (is_bad _ _ _ _ es g c HC0.out H0.out (HG.out.ext HW.out)).mono ?_
            rintro e u1 ⟨rfl, hb⟩
            have HU1 := Lib.hid (below_then HW.out hb)
            obtain ⟨e2, -⟩ := HKc.out u1 HU1.out
            clear hb
            go_wp2_with fail
            refine (rnodes2_any _ _ es g _ _ c HC0.out (HG.out.ext HU1.out)).mono ?_
            rintro e u2 ⟨rfl, hb⟩
            have HU2 := Lib.hid (below_then HU1.out hb)
            clear hb
            go_wp2_with fail
            go_quiet (fail)
            go_wp2_with fail
            go_roundw
            case rel => exact ⟨k + 1, by go_num, by omega, Lib.hid (below_drewN HU2.out _)⟩
            case measure => simp [intOf]; omega
        · go_wp2_with fail
          refine (works_any _).mono ?_
          rintro e w20 ⟨rfl, hb⟩
          have HW20 := Lib.hid (below_then HW.out hb)
          clear hb
          go_wp2_with fail
          go_ret
          exact ⟨rfl, HW20.out⟩
end Go.Proofs.Ytcpmnocknpalfaa
