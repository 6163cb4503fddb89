/-
  Layer 12: an id as digits. No condition besides what the arguments are.
-/
import Derived.OwnWalk
import Derived.Test.YtopamnfelngkcaaDoorR10
import Derived.Test.YtopamnfelngkcaaDoorRP3
namespace Go.Proofs.YtopamnfelngkcaaDoor.Rf
open Go.Proofs Go.RowKit Go.Shelf Go.Sl Go.Route Go.Refs
set_option linter.unusedVariables false

theorem info5 : (Tryd.prog.info? 5).map (fun i => (i.zero, i.size, i.bytes)) = some (some (.int .u8 0), 1, 1) := by kernel_rfl
theorem idx39 (i : Idb) {k : Nat} (hk : k < 32) (w : World) : (Instr.index 39 (vId i) (.int .i64 (k : Int))).run Tryd.prog w = .ok (.int .u8 ((i.l[k]'(by rw [i.len]; exact hk)).toNat : Int)) w := by
  have h1 : (k : Int) < 32 := by omega
  have hs : ∀ w, (sizeOf 5).run Tryd.prog w = .ok 1 w := Tryd.sizeOf5
  have hg : (eId i)[k]? = some (Extern.Stop.cell (i.l[k]'(by rw [i.len]; exact hk))) := by
    unfold eId; rw [List.getElem?_map, List.getElem?_eq_getElem (by rw [i.len]; exact hk)]; rfl
  simp [Instr.index, asIntOf, run_underlying Tryd.underlying39, vId, h1, hs, part, isAgg, run_underlying Tryd.underlying5, hg, Extern.Stop.cell]
  intro h; omega
theorem c_letters : (⟨#[48, 49, 50, 51, 52, 53, 54, 55, 56, 57, 97, 98, 99, 100, 101, 102]⟩ : ByteArray) = bstr letters := rfl
theorem idxL (ik : IntKind) {n : Nat} (hn : n < 16) (w : World) : (Instr.index 9 (.string (bstr letters)) (.int ik (n : Int))).run Tryd.prog w = .ok (.int .u8 ((dig n).toNat : Int)) w := by
  have hl : letters.length = 16 := rfl
  have hg : (bstr letters)[n]? = some (dig n) := by
    have h1 : n < (bstr letters).size := by rw [bstr_size, hl]; exact hn
    have : (bstr letters)[n]? = some ((bstr letters)[n]'h1) := getElem?_pos _ _ _
    rw [this, bstr_get]
    simp [dig, List.getD, List.getElem?_eq_getElem (show n < letters.length by omega)]
  simp [Instr.index, asIntOf, run_underlying Tryd.underlying9, hg]

theorem and15 (n : Nat) (h : n < 256) : bits .and .u8 (n : Int) 15 = ((n % 16 : Nat) : Int) := by
  have key : ∀ n : Fin 256, bits .and .u8 (n.val : Int) 15 = ((n.val % 16 : Nat) : Int) := by decide +kernel
  exact key ⟨n, h⟩

set_option maxRecDepth 100000 in
set_option maxHeartbeats 1000000 in
theorem hex_any (i : Idb) (w : World) : Calls Tryd.prog 80 #[vId i] w fun e w' => e = .returned (.string (bstr (hexF i))) ∧ Below w.heap.size w w' := by
  obtain ⟨i5, hi, hz0, hz1, hz2⟩ := info_parts info5
  have HN : Hid ((w.alloc (.cells (eId i).toArray 39)).heap[w.heap.size]? = some (.cells (eId i).toArray 39 (0, 0))) := Lib.hid (heap_alloc_new _ _)
  have HI : Hid ((w.alloc (.cells (eId i).toArray 39)).rangeAt w.heap.size 0 (eId i)) := Lib.hid (range_of_heap (cs := (eId i).toArray) HN.out)
  have HB : Hid (Below w.heap.size w (w.alloc (.cells (eId i).toArray 39))) := Lib.hid ((Below.refl _ _).alloc (Nat.le_refl _) _)
  have cl := c_letters
  go_enter Tryd.func80, Tryd.ntmps80
  go_wp2_with (first
    | (at_make; refine wpList_make_own _ rfl _ _ 34 rfl w.heap.size 5 i5 (.int .u8 0) 1 Tryd.underlying34 hi hz0 hz1 _ _ _ 64 rfl rfl rfl (by rw [hz2]; decide) (by unfold maxLen; omega) (by simp) ?_; intro w2 hrow hg; have HO := Lib.hid hrow; have HW2 := Lib.hid (HB.out.grown hg HB.out.size (fun j hj => by cases hj)); have HI2 := Lib.hid (rangeAt_below (B := (w.alloc (.cells (eId i).toArray 39)).heap.size) HI.out ⟨hg.os, hg.tape, hg.output, hg.size, fun k hk => hg.block k hk (by simp)⟩ (by simp)); clear hrow hg)
    | refine wpList_exec (exec_ld39 _ rfl _ _ rfl i HI2.out) (by rfl) ?_)
  go_loopw [3, 8] (fun s3 s8 wr => ∃ (k : Nat), s8 = .int .i64 k ∧ k ≤ 32 ∧ Hid (Sl.Own eByte 1 w.heap.size 5 wr s3 ((i.l.take k).flatMap hex2)) ∧ Hid (Below w.heap.size w wr)) (fun _ s8 _ => 32 - (intOf s8).toNat)
  case atStart => exact ⟨0, rfl, by omega, Lib.hid (by have h := HO.out; rw [World.size_alloc] at h; exact h), HW2⟩
  case round =>
    obtain ⟨wo, rfl⟩ : ∃ u : World, u = wr := ⟨_, rfl⟩
    obtain ⟨k, rfl, hk, HX, HW⟩ := hrel
    by_cases hlt : k < 32
    · have d2 : decide ((k : Int) < 32) = true := decide_eq_true (by omega)
      obtain ⟨c, hc⟩ : ∃ c, Hid (i.l[k]'(by rw [i.len]; exact hlt) = c) := ⟨_, Lib.hid rfl⟩
      have hx := idx39 i hlt
      rw [hc.out] at hx
      obtain ⟨n, hn⟩ : ∃ n, Hid (c.toNat = n) := ⟨_, Lib.hid rfl⟩
      have hn2 : n < 256 := by rw [← hn.out]; exact c.toNat_lt
      rw [hn.out] at hx
      obtain ⟨a, ha⟩ : ∃ a, a = n / 16 := ⟨_, rfl⟩
      obtain ⟨b, hb⟩ : ∃ b, b = n % 16 := ⟨_, rfl⟩
      have haz : (n : Int) / 16 = (a : Int) := by omega
      have hbz : bits .and .u8 (n : Int) 15 = (b : Int) := by rw [and15 n hn2, hb]
      have hxa := idxL .u8 (n := a) (by omega)
      have hxb := idxL .u8 (n := b) (by omega)
      have HT : Hid ((i.l.take (k + 1)).flatMap hex2 = (i.l.take k).flatMap hex2 ++ [dig a, dig b]) := Lib.hid (by
        rw [List.take_succ_eq_append_getElem (by rw [i.len]; exact hlt), List.flatMap_append, hc.out]
        simp only [List.flatMap_cons, List.flatMap_nil, List.append_nil, hex2, hn.out, ← ha, ← hb])
      obtain ⟨X, hX⟩ : ∃ X, Hid ((i.l.take k).flatMap hex2 = X) := ⟨_, Lib.hid rfl⟩
      have hXl : X.length ≤ 64 := by rw [← hX.out, hexs_len, List.length_take]; omega
      rw [hX.out] at HX HT
      clear hX ha hb
      have HSl : Hid (Sl eByte 1 (wo.alloc (.cells #[.int .u8 ((dig a).toNat : Int), .int .u8 ((dig b).toNat : Int)] 5)).drew (.slice (some ⟨wo.heap.size, 0, none⟩) 2 2) [dig a, dig b]) := Lib.hid (Sl.fresh (cs := #[.int .u8 ((dig a).toNat : Int), .int .u8 ((dig b).toNat : Int)]) (l := [dig a, dig b]) len_eByte rfl rfl rfl (by simp [maxLen])).drew
      go_wp2_with fail
      refine wp_region_held_drew (S := fun u => Below w.heap.size w u) (by kernel_rfl) HW.out.drew (fun hHeld => ?_)
      refine wpAnyH_take (i := 0) (oi := { dst := some 11, op := Op.move (Operand.tmp 3), type := 34, pos := "oid.go:20", after := #[], guard := none }) (v := ?_) rfl (by kernel_rfl) (by kernel_rfl) (by kernel_rfl) (fun _ _ _ h => h) (Or.inl ⟨by rfl, ?_⟩) (by assumption) ?_
      rotate_left
      · intro u hSu; (try dsimp only at hSu); (go_simp <;> with_reducible rfl)
      try simp only [Act.put, List.setIfInBounds_toArray, List.set_cons_zero, List.set_cons_succ]
      refine wpAnyH_take (i := 1) (oi := { dst := some 12, op := Op.move (Operand.tmp 5), type := 5, pos := "oid.go:20", after := #[], guard := none }) (v := ?_) rfl (by kernel_rfl) (by kernel_rfl) (by kernel_rfl) (fun _ _ _ h => h) (Or.inl ⟨by rfl, ?_⟩) (by assumption) ?_
      rotate_left
      · intro u hSu; (try dsimp only at hSu); (go_simp <;> with_reducible rfl)
      try simp only [Act.put, List.setIfInBounds_toArray, List.set_cons_zero, List.set_cons_succ]
      refine wpAnyH_take (i := 2) (oi := { dst := some 13, op := Op.binOp BinOp.shr 5 (Operand.tmp 12) (Operand.const (Value.int IntKind.u64 4)) 80, type := 5, pos := "oid.go:20", after := #[{ on := 1, ground := Ground.data }], guard := none }) (v := ?_) rfl (by kernel_rfl) (by kernel_rfl) (by kernel_rfl) (fun _ _ _ h => h) (Or.inl ⟨by rfl, ?_⟩) (by assumption) ?_
      rotate_left
      · intro u hSu; (try dsimp only at hSu); (go_simp <;> with_reducible rfl)
      try simp only [Act.put, List.setIfInBounds_toArray, List.set_cons_zero, List.set_cons_succ]
      refine wpAnyH_take (i := 3) (oi := { dst := some 14, op := Op.index 9 (Operand.const (Value.string { data := #[48, 49, 50, 51, 52, 53, 54, 55, 56, 57, 97, 98, 99, 100, 101, 102] })) (Operand.tmp 13), type := 5, pos := "oid.go:20", after := #[{ on := 2, ground := Ground.data }], guard := none }) (v := ?_) rfl (by kernel_rfl) (by kernel_rfl) (by kernel_rfl) (fun _ _ _ h => h) (Or.inl ⟨by rfl, ?_⟩) (by assumption) ?_
      rotate_left
      · intro u hSu; (try dsimp only at hSu); (go_simp <;> with_reducible rfl)
      try simp only [Act.put, List.setIfInBounds_toArray, List.set_cons_zero, List.set_cons_succ]
      refine wpAnyH_take (i := 4) (oi := { dst := some 15, op := Op.move (Operand.tmp 5), type := 5, pos := "oid.go:20", after := #[], guard := none }) (v := ?_) rfl (by kernel_rfl) (by kernel_rfl) (by kernel_rfl) (fun _ _ _ h => h) (Or.inl ⟨by rfl, ?_⟩) (by assumption) ?_
      rotate_left
      · intro u hSu; (try dsimp only at hSu); (go_simp <;> with_reducible rfl)
      try simp only [Act.put, List.setIfInBounds_toArray, List.set_cons_zero, List.set_cons_succ]
      refine wpAnyH_take (i := 5) (oi := { dst := some 16, op := Op.binOp BinOp.and 5 (Operand.tmp 15) (Operand.const (Value.int IntKind.u8 15)) 5, type := 5, pos := "oid.go:20", after := #[{ on := 4, ground := Ground.data }], guard := none }) (v := ?_) rfl (by kernel_rfl) (by kernel_rfl) (by kernel_rfl) (fun _ _ _ h => h) (Or.inl ⟨by rfl, ?_⟩) (by assumption) ?_
      rotate_left
      · intro u hSu; (try dsimp only at hSu); (go_simp <;> with_reducible rfl)
      try simp only [Act.put, List.setIfInBounds_toArray, List.set_cons_zero, List.set_cons_succ]
      refine wpAnyH_take (i := 6) (oi := { dst := some 17, op := Op.index 9 (Operand.const (Value.string { data := #[48, 49, 50, 51, 52, 53, 54, 55, 56, 57, 97, 98, 99, 100, 101, 102] })) (Operand.tmp 16), type := 5, pos := "oid.go:20", after := #[{ on := 5, ground := Ground.data }], guard := none }) (v := ?_) rfl (by kernel_rfl) (by kernel_rfl) (by kernel_rfl) (fun _ _ _ h => h) (Or.inl ⟨by rfl, ?_⟩) (by assumption) ?_
      rotate_left
      · intro u hSu; (try dsimp only at hSu); (go_simp <;> with_reducible rfl)
      try simp only [Act.put, List.setIfInBounds_toArray, List.set_cons_zero, List.set_cons_succ]
      refine wpAnyH_ready (rs := [7]) (by kernel_rfl) (by simp) ?_
      refine AllReadyH.cons (o := { dst := some 18, op := Op.buildSlice 34 2 #[(0, Operand.tmp 14), (1, Operand.tmp 17)], type := 34, pos := "oid.go:20", after := #[{ on := 3, ground := Ground.data }, { on := 6, ground := Ground.data }], guard := none }) rfl (fun K hK => ?_) AllReadyH.nil
      go_simp
      refine hK.out _ _ (HW.out.drew.alloc HW.out.drew.size _) (fun hHeld => ?_)
      clear hK K
      try simp only [Act.put, List.setIfInBounds_toArray, List.set_cons_zero, List.set_cons_succ]
      refine wpAnyH_ready (rs := [8]) (by kernel_rfl) (by simp) ?_
      refine AllReadyH.cons (o := { dst := some 19, op := Op.call { callee := Callee.builtin Builtin.append, args := #[Operand.tmp 11, Operand.tmp 18], argTypes := #[34, 34] }, type := 34, pos := "oid.go:20", after := #[{ on := 0, ground := Ground.data }, { on := 7, ground := Ground.data }], guard := none }) rfl (fun K hK => ?_) AllReadyH.nil
      refine step_append rfl (en := eByte) (s := 1) (base := w.heap.size) (e := 5) _ _ 34 rfl (.int .u8 0) 1 Tryd.underlying34 info5 rfl (by decide) len_eByte one_eByte _ _ X [dig a, dig b] rfl (HX.out.alloc _).drew rfl HSl.out (by simp only [maxLen, List.length_cons, List.length_nil]; omega) (by simp only [List.length_cons, List.length_nil]; omega) hHeld.size ?_
      intro v' w' hown hgr hbel
      have HO4 := Lib.hid hown
      refine hK.out _ _ (hHeld.trans hbel) (fun hHeld2 => ?_)
      clear hK K hown hgr hbel hHeld
      try simp only [Act.put, List.setIfInBounds_toArray, List.set_cons_zero, List.set_cons_succ]
      refine wpAnyH_take (i := 9) (oi := { dst := some 3, op := Op.assign (Operand.tmp 19), type := 34, pos := "oid.go:20", after := #[{ on := 8, ground := Ground.data }, { on := 8, ground := Ground.chain }, { on := 0, ground := Ground.phase }, { on := 1, ground := Ground.phase }, { on := 2, ground := Ground.phase }, { on := 3, ground := Ground.phase }, { on := 4, ground := Ground.phase }, { on := 5, ground := Ground.phase }, { on := 6, ground := Ground.phase }, { on := 7, ground := Ground.phase }, { on := 8, ground := Ground.phase }], guard := none }) (v := ?_) rfl (by kernel_rfl) (by kernel_rfl) (by kernel_rfl) (fun _ _ _ h => h) (Or.inl ⟨by rfl, ?_⟩) (by assumption) ?_
      rotate_left
      · intro u hSu; (try dsimp only at hSu); (go_simp <;> with_reducible rfl)
      try simp only [Act.put, List.setIfInBounds_toArray, List.set_cons_zero, List.set_cons_succ]
      refine wpAnyH_done (by kernel_rfl) ?_ _
      have HB9 := Lib.hid hHeld2
      clear hHeld2 hxa hxb haz hbz
      go_wp2_with fail
      go_roundw
      case rel => exact ⟨k + 1, by go_num, by omega, Lib.hid (by rw [HT.out]; exact HO4.out), HB9⟩
      case measure => simp [intOf]; omega
    · obtain rfl : k = 32 := by omega
      have d2 : decide (((32 : Nat) : Int) < 32) = false := by decide
      have HT : Hid ((i.l.take 32).flatMap hex2 = hexF i) := Lib.hid (by unfold hexF; rw [List.take_of_length_le (by rw [i.len]; exact Nat.le_refl _)])
      rw [HT.out] at HX
      have hcv := (HX.out.sl len_eByte).run_string (P := Tryd.prog) Tryd.underlying34 Tryd.underlying5 Tryd.underlying9
      go_wp2_with fail
      go_ret
      exact ⟨rfl, HW.out⟩
end Go.Proofs.YtopamnfelngkcaaDoor.Rf
