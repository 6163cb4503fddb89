/-
  Layer 12: refs compared by their names; is a list of them sorted? No condition besides what the arguments are.
-/
import Derived.Test.YtopamnfelngkcaaDoorR1
import Derived.Test.YtopamnfelngkcaaDoorRP1
import Derived.Test.YtopamnfelngkcaaDoorRShelf
import Derived.Deep.RegionHeld3
namespace Go.Proofs.YtopamnfelngkcaaDoor.Rf
open Go.Proofs Go.RowKit Go.Shelf Go.Sl Go.Route Go.Refs
set_option linter.unusedVariables false

theorem compare_any (a b : List UInt8) (w : World) : Calls Tryd.prog 105 #[.string (bstr a), .string (bstr b)] w fun e w' => e = .returned (.int .i64 (Lib.compareBytes a b)) ∧ w = w' :=
  (Tryd.strings_Compare (bstr a) (bstr b) w).mono fun _ _ ⟨h1, h2⟩ => ⟨by rw [h1]; simp [bstr], h2.symm⟩

set_option maxRecDepth 100000 in
set_option maxHeartbeats 1000000 in
theorem byName_any (a b : Go.Sl.Rf) (w : World) : Calls Tryd.prog 84 #[vRf a, vRf b] w fun e w' => e = .returned (.int .i64 (Lib.compareBytes a.nm b.nm)) ∧ Below w.heap.size w w' := by
  have h0 : ((w.alloc (.cells (eRf a).toArray 43)).alloc (.cells (eRf b).toArray 43)).heap[w.heap.size]? = some (.cells (eRf a).toArray 43 (0, 0)) := heap_keep (heap_alloc_new _ _)
  have h1 : ((w.alloc (.cells (eRf a).toArray 43)).alloc (.cells (eRf b).toArray 43)).heap[w.heap.size + 1]? = some (.cells (eRf b).toArray 43 (0, 0)) := by
    have := heap_alloc_new (w.alloc (.cells (eRf a).toArray 43)) (.cells (eRf b).toArray 43)
    rwa [World.size_alloc] at this
  have e0 := range_nm (r := a) (range_of_heap h0)
  have e1 := range_nm (r := b) (range_of_heap h1)
  clear h0 h1
  go_enter Tryd.func84, Tryd.ntmps84
  go_wp2_with fail
  refine (compare_any _ _ _).mono ?_
  rintro e w' ⟨rfl, rfl⟩
  go_wp2_with fail
  go_ret
  exact ⟨rfl, ((Below.refl _ _).alloc (Nat.le_refl _) _).alloc (by simp) _⟩

set_option maxRecDepth 100000 in
set_option maxHeartbeats 2000000 in
theorem sorted_any (v : Value) (l : List Go.Sl.Rf) (w : World) (hv : Sl eRf 33 w v l) :
    Calls Tryd.prog 83 #[v, .func (.func 84) #[] #[]] w fun e w' => e = .returned (.bool (down l)) ∧ Below w.heap.size w w' := by
  have hlen := hv.run_len (P := Tryd.prog) Tryd.underlying37
  have HV := Lib.hid hv
  have hll := hv.len_le
  clear hv
  go_enter Tryd.func83, Tryd.ntmps83
  go_wp2_with fail
  go_loopw [5] (fun s5 wr => ∃ (iz : Int) (i : Nat), s5 = .int .i64 iz ∧ (0 < iz → iz = i ∧ i < l.length) ∧ (¬ 0 < iz → i = 0) ∧ Hid (∀ k, i ≤ k → ∀ h : k + 1 < l.length, ¬ l[k + 1].nm < l[k].nm) ∧ Hid (Below w.heap.size w wr)) (fun s5 _ => (intOf s5).toNat)
  case atStart => exact ⟨(l.length : Int) - 1, l.length - 1, rfl, fun h => ⟨by omega, by omega⟩, fun h => by omega, Lib.hid (fun k hk h => by omega), Lib.hid (Below.refl _ _)⟩
  case round =>
    obtain ⟨wo, rfl⟩ : ∃ u : World, u = wr := ⟨_, rfl⟩
    obtain ⟨iz, i, rfl, h1, h2, HD, HW⟩ := hrel
    by_cases hlt : 0 < iz
    · obtain ⟨rfl, hin⟩ := h1 hlt
      obtain ⟨t, rfl⟩ : ∃ t, i = t + 1 := ⟨i - 1, by omega⟩
      clear h1 h2
      obtain ⟨b5, o5, hb5, hix, hr⟩ := HV.out.rangeB len_eRf HW.out (P := Tryd.prog) Tryd.underlying37 cells43 some43 hin
      obtain ⟨b6, o6, hb6, hix6, hr6⟩ := HV.out.rangeB len_eRf HW.out (P := Tryd.prog) Tryd.underlying37 cells43 some43 (show t < l.length by omega)
      obtain ⟨x, hx⟩ : ∃ x, Hid (l[t + 1] = x) := ⟨_, Lib.hid rfl⟩
      obtain ⟨y, hy⟩ : ∃ x, Hid (l[t] = x) := ⟨_, Lib.hid rfl⟩
      rw [hx.out] at hr
      rw [hy.out] at hr6
      have hu43 := Tryd.underlying43
      have hi1 : (Tryd.prog.info? 43).map (·.size) = some (eRf x).length := by rw [size43, len_eRf]
      have hi2 : (Tryd.prog.info? 43).map (·.size) = some (eRf y).length := by rw [size43, len_eRf]
      have HB := Lib.hid (byName_any x y)
      have hqz : ((t + 1 : Nat) : Int) = (t : Int) + 1 := by omega
      rw [hqz] at hix ⊢
      have HS : Hid (wo.drew.rangeAt b5 o5 (eRf x) ∧ wo.drew.rangeAt b6 o6 (eRf y) ∧ Below w.heap.size w wo.drew) := Lib.hid ⟨hr, hr6, HW.out.drew⟩
      have hwr : IntKind.i64.wrap (t : Int) = (t : Int) := by rw [IntKind.wrap_i64]; omega
      clear hr hr6 hlt hqz HW hi1 hi2 hu43
      go_wp2_with fail
      refine wp_region_held_drew (S := fun u => u.rangeAt b5 o5 (eRf x) ∧ u.rangeAt b6 o6 (eRf y) ∧ Below w.heap.size w u) (by kernel_rfl) HS.out (fun hHeld => ?_)
      refine wpAnyH_take (i := 0) (oi := { dst := some 13, op := Op.move (Operand.tmp 1), type := 94, pos := "sort.go:55", after := #[], guard := none }) (v := ?_) rfl (by kernel_rfl) (by kernel_rfl) (by kernel_rfl) (fun _ _ _ h => h) (Or.inl ⟨by rfl, ?_⟩) (by assumption) ?_
      rotate_left
      · intro u hSu; (try dsimp only at hSu); (go_simp <;> with_reducible rfl)
      try simp only [Act.put, List.setIfInBounds_toArray, List.set_cons_zero, List.set_cons_succ]
      refine wpAnyH_take (i := 1) (oi := { dst := some 14, op := Op.move (Operand.tmp 0), type := 37, pos := "sort.go:55", after := #[], guard := none }) (v := ?_) rfl (by kernel_rfl) (by kernel_rfl) (by kernel_rfl) (fun _ _ _ h => h) (Or.inl ⟨by rfl, ?_⟩) (by assumption) ?_
      rotate_left
      · intro u hSu; (try dsimp only at hSu); (go_simp <;> with_reducible rfl)
      try simp only [Act.put, List.setIfInBounds_toArray, List.set_cons_zero, List.set_cons_succ]
      refine wpAnyH_take (i := 2) (oi := { dst := some 15, op := Op.move (Operand.tmp 5), type := 3, pos := "sort.go:55", after := #[], guard := none }) (v := ?_) rfl (by kernel_rfl) (by kernel_rfl) (by kernel_rfl) (fun _ _ _ h => h) (Or.inl ⟨by rfl, ?_⟩) (by assumption) ?_
      rotate_left
      · intro u hSu; (try dsimp only at hSu); (go_simp <;> with_reducible rfl)
      try simp only [Act.put, List.setIfInBounds_toArray, List.set_cons_zero, List.set_cons_succ]
      refine wpAnyH_take (i := 3) (oi := { dst := some 16, op := Op.indexAddr 37 (Operand.tmp 14) (Operand.tmp 15), type := 0, pos := "sort.go:55", after := #[{ on := 1, ground := Ground.data }, { on := 2, ground := Ground.data }], guard := none }) (v := ?_) rfl (by kernel_rfl) (by kernel_rfl) (by kernel_rfl) (fun _ _ _ h => h) (Or.inl ⟨by rfl, ?_⟩) (by assumption) ?_
      rotate_left
      · intro u hSu; (try dsimp only at hSu); (go_simp <;> with_reducible rfl)
      try simp only [Act.put, List.setIfInBounds_toArray, List.set_cons_zero, List.set_cons_succ]
      refine wpAnyH_take (i := 4) (oi := { dst := some 17, op := Op.load 43 (Operand.tmp 16), type := 43, pos := "sort.go:55", after := #[{ on := 3, ground := Ground.data }], guard := none }) (v := .agg (eRf x).toArray) rfl (by kernel_rfl) (by kernel_rfl) (by kernel_rfl) (fun _ _ _ h => h) (yieldsIf_load_mid (by rfl) 43 _ rfl b5 o5 (by rfl) (eRf x) _ (fun u hSu => hSu.1) Tryd.underlying43 rfl (by rw [size43, len_eRf])) (by assumption) ?_
      try simp only [Act.put, List.setIfInBounds_toArray, List.set_cons_zero, List.set_cons_succ]
      refine wpAnyH_take (i := 5) (oi := { dst := some 18, op := Op.move (Operand.tmp 0), type := 37, pos := "sort.go:55", after := #[], guard := none }) (v := ?_) rfl (by kernel_rfl) (by kernel_rfl) (by kernel_rfl) (fun _ _ _ h => h) (Or.inl ⟨by rfl, ?_⟩) (by assumption) ?_
      rotate_left
      · intro u hSu; (try dsimp only at hSu); (go_simp <;> with_reducible rfl)
      try simp only [Act.put, List.setIfInBounds_toArray, List.set_cons_zero, List.set_cons_succ]
      refine wpAnyH_take (i := 6) (oi := { dst := some 19, op := Op.move (Operand.tmp 5), type := 3, pos := "sort.go:55", after := #[], guard := none }) (v := ?_) rfl (by kernel_rfl) (by kernel_rfl) (by kernel_rfl) (fun _ _ _ h => h) (Or.inl ⟨by rfl, ?_⟩) (by assumption) ?_
      rotate_left
      · intro u hSu; (try dsimp only at hSu); (go_simp <;> with_reducible rfl)
      try simp only [Act.put, List.setIfInBounds_toArray, List.set_cons_zero, List.set_cons_succ]
      refine wpAnyH_take (i := 7) (oi := { dst := some 20, op := Op.binOp BinOp.sub 3 (Operand.tmp 19) (Operand.const (Value.int IntKind.i64 1)) 3, type := 3, pos := "sort.go:55", after := #[{ on := 6, ground := Ground.data }], guard := none }) (v := ?_) rfl (by kernel_rfl) (by kernel_rfl) (by kernel_rfl) (fun _ _ _ h => h) (Or.inl ⟨by rfl, ?_⟩) (by assumption) ?_
      rotate_left
      · intro u hSu; (try dsimp only at hSu); (go_simp <;> with_reducible rfl)
      try simp only [Act.put, List.setIfInBounds_toArray, List.set_cons_zero, List.set_cons_succ]
      refine wpAnyH_take (i := 8) (oi := { dst := some 21, op := Op.indexAddr 37 (Operand.tmp 18) (Operand.tmp 20), type := 0, pos := "sort.go:55", after := #[{ on := 5, ground := Ground.data }, { on := 7, ground := Ground.data }], guard := none }) (v := ?_) rfl (by kernel_rfl) (by kernel_rfl) (by kernel_rfl) (fun _ _ _ h => h) (Or.inl ⟨by rfl, ?_⟩) (by assumption) ?_
      rotate_left
      · intro u hSu; (try dsimp only at hSu); (go_simp <;> with_reducible rfl)
      try simp only [Act.put, List.setIfInBounds_toArray, List.set_cons_zero, List.set_cons_succ]
      refine wpAnyH_take (i := 9) (oi := { dst := some 22, op := Op.load 43 (Operand.tmp 21), type := 43, pos := "sort.go:55", after := #[{ on := 8, ground := Ground.data }], guard := none }) (v := .agg (eRf y).toArray) rfl (by kernel_rfl) (by kernel_rfl) (by kernel_rfl) (fun _ _ _ h => h) (yieldsIf_load_mid (by rfl) 43 _ rfl b6 o6 (by rfl) (eRf y) _ (fun u hSu => hSu.2.1) Tryd.underlying43 rfl (by rw [size43, len_eRf])) (by assumption) ?_
      try simp only [Act.put, List.setIfInBounds_toArray, List.set_cons_zero, List.set_cons_succ]
      refine wpAnyH_ready (rs := [10]) (by kernel_rfl) (by simp) ?_
      refine AllReadyH.cons (o := { dst := some 23, op := Op.call { callee := Callee.value (Operand.tmp 13), args := #[Operand.tmp 17, Operand.tmp 22], argTypes := #[43, 43] }, type := 3, pos := "sort.go:55", after := #[{ on := 0, ground := Ground.data }, { on := 4, ground := Ground.data }, { on := 9, ground := Ground.data }], guard := none }) rfl (fun K hK => ?_) AllReadyH.nil
      go_simp
      refine (HB.out _).mono ?_
      rintro e w3 ⟨rfl, hb3⟩
      refine hK.out _ _ ⟨rangeAt_below hHeld.1 hb3 (Nat.lt_of_lt_of_le hb5 hHeld.2.2.size), rangeAt_below hHeld.2.1 hb3 (Nat.lt_of_lt_of_le hb6 hHeld.2.2.size), bthen hHeld.2.2 hb3⟩ (fun hHeld => ?_)
      clear hK K
      try simp only [Act.put, List.setIfInBounds_toArray, List.set_cons_zero, List.set_cons_succ]
      refine wpAnyH_take (i := 11) (oi := { dst := some 24, op := Op.binOp BinOp.lss 3 (Operand.tmp 23) (Operand.const (Value.int IntKind.i64 0)) 3, type := 4, pos := "sort.go:55", after := #[{ on := 10, ground := Ground.data }], guard := none }) (v := ?_) rfl (by kernel_rfl) (by kernel_rfl) (by kernel_rfl) (fun _ _ _ h => h) (Or.inl ⟨by rfl, ?_⟩) (by assumption) ?_
      rotate_left
      · intro u hSu; (try dsimp only at hSu); (go_simp <;> with_reducible rfl)
      try simp only [Act.put, List.setIfInBounds_toArray, List.set_cons_zero, List.set_cons_succ]
      refine wpAnyH_done (by kernel_rfl) ?_ _
      have HB9 := Lib.hid hHeld.2.2
      clear hHeld hix hix6 HS
      by_cases hc : x.nm < y.nm
      · have hv : Lib.compareBytes x.nm y.nm < 0 := (cmp_neg _ _).2 hc
        have hd : decide (Lib.compareBytes x.nm y.nm < 0) = true := decide_eq_true hv
        have HD2 : Hid (down l = false) := Lib.hid (down_false hin (by rw [hx.out, hy.out]; exact hc))
        go_wp2_with fail
        go_ret
        exact ⟨ret_bool HD2.out.symm, HB9.out⟩
      · have hv : ¬ Lib.compareBytes x.nm y.nm < 0 := fun h => hc ((cmp_neg _ _).1 h)
        have hd : decide (Lib.compareBytes x.nm y.nm < 0) = false := decide_eq_false hv
        have HD2 : Hid (∀ k, t ≤ k → ∀ h : k + 1 < l.length, ¬ l[k + 1].nm < l[k].nm) := Lib.hid (fun k hk h => by
          by_cases e : k = t
          · subst e; rw [hx.out, hy.out]; exact hc
          · exact HD.out k (by omega) h)
        go_wp2_with fail
        go_roundw
        case rel => exact ⟨(t : Int), t, by go_num, fun _ => ⟨rfl, by omega⟩, fun h => by omega, HD2, HB9⟩
        case measure => simp [intOf]
    · have h0 := h2 hlt
      subst h0
      have HD2 : Hid (down l = true) := Lib.hid (down_true fun k h => HD.out k (Nat.zero_le _) h)
      go_wp2_with fail
      go_ret
      exact ⟨ret_bool HD2.out.symm, HW.out⟩
end Go.Proofs.YtopamnfelngkcaaDoor.Rf
