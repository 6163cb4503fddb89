/-
  Layer 12: an id as digits, the document's way. No condition besides what the arguments are.
-/
import Derived.Test.YtopamnfelngkcaaDoorR11
namespace Go.Proofs.YtopamnfelngkcaaDoor.Rf
open Go.Proofs Go.RowKit Go.Shelf Go.Sl Go.Route Go.Refs
set_option linter.unusedVariables false

theorem info3 : (Tryd.prog.info? 3).map (fun i => (i.zero, i.size, i.bytes)) = some (some (.int .i64 0), 1, 8) := by kernel_rfl
theorem cells3 : Tryd.prog.cellsOf 3 = 1 := by kernel_rfl
theorem some3 : (Tryd.prog.info? 3).isSome = true := by kernel_rfl
theorem idxp39 (g : Nat) {k : Nat} (hk : k < 32) (w : World) : (Instr.indexAt 39 (.pointer (some ⟨g, 0, none⟩)) (.int .i64 (k : Int))).run Tryd.prog w = .ok (.pointer (some ⟨g, k, none⟩)) w := by
  have h1 : (k : Int) < 32 := by omega
  have hs : ∀ w, (sizeOf 5).run Tryd.prog w = .ok 1 w := Tryd.sizeOf5
  have h2 : (Addr.mk g 0 none).add k = ⟨g, k, none⟩ := by rw [Addr.add_lit]; simp
  simp [Instr.indexAt, asIntOf, run_underlying Tryd.underlying39, Instr.sureAddr, h1, hs, h2]
  intro h; omega
theorem cell_id {w : World} {g : Nat} {i : Idb} (h : w.rangeAt g 0 (eId i)) {k : Nat} (hk : k < 32) : w.cell? ⟨g, k, none⟩ = some (.int .u8 ((i.l[k]'(by rw [i.len]; exact hk)).toNat : Int)) := by
  have := h k (Extern.Stop.cell (i.l[k]'(by rw [i.len]; exact hk))) (by unfold eId; rw [List.getElem?_map, List.getElem?_eq_getElem (by rw [i.len]; exact hk)]; rfl)
  rw [Nat.zero_add] at this
  exact this
def dg2 (b : UInt8) : List Int := [((b.toNat / 16 : Nat) : Int), ((b.toNat % 16 : Nat) : Int)]
theorem dg2s_len (l : List UInt8) : (l.flatMap dg2).length = 2 * l.length := by
  induction l with
  | nil => rfl
  | cons b l ih => rw [List.flatMap_cons, List.length_append, ih, List.length_cons]; simp [dg2]; omega

set_option maxRecDepth 100000 in
set_option maxHeartbeats 1000000 in
theorem digits_any (i : Idb) (w : World) : Calls Tryd.prog 104 #[vId i] w fun e w' => ∃ ov, e = .returned ov ∧ Sl.Own eInt 1 w.heap.size 3 w' ov (i.l.flatMap dg2) ∧ Below w.heap.size w w' := by
  obtain ⟨w1, hw1⟩ : ∃ u, Hid (u = w.alloc (.cells (eId i).toArray 39)) := ⟨_, Lib.hid rfl⟩
  have HI : Hid (w1.rangeAt w.heap.size 0 (eId i)) := Lib.hid (by rw [hw1.out]; exact range_of_heap (cs := (eId i).toArray) (heap_alloc_new _ _))
  have HB : Hid (Below w.heap.size w w1) := Lib.hid (by rw [hw1.out]; exact (Below.refl _ _).alloc (Nat.le_refl _) _)
  have hs1 : w1.heap.size = w.heap.size + 1 := by rw [hw1.out]; simp
  go_enter Tryd.func104, Tryd.ntmps104
  go_wp2_with fail
  rw [← hw1.out]
  clear hw1
  go_loopw [3, 4] (fun s3 s4 wr => ∃ (k : Nat), s4 = .int .i64 k ∧ k ≤ 32 ∧ Hid (Sl.Own eInt 1 w1.heap.size 3 wr s3 ((i.l.take k).flatMap dg2)) ∧ Hid (Below w1.heap.size w1 wr)) (fun _ s4 _ => 32 - (intOf s4).toNat)
  case atStart => exact ⟨0, rfl, by omega, Lib.hid (Sl.Own.nil _ _ _ _ _), Lib.hid (Below.refl _ _)⟩
  case round =>
    obtain ⟨wo, rfl⟩ : ∃ u : World, u = wr := ⟨_, rfl⟩
    obtain ⟨k, rfl, hk, HX, HW⟩ := hrel
    by_cases hlt : k < 32
    · have d2 : decide ((k : Int) < 32) = true := decide_eq_true (by omega)
      obtain ⟨c, hc⟩ : ∃ c, Hid (i.l[k]'(by rw [i.len]; exact hlt) = c) := ⟨_, Lib.hid rfl⟩
      have hix := idxp39 w.heap.size hlt
      have HR : Hid (∀ u, Below w1.heap.size w1 u → u.cell? ⟨w.heap.size, k, none⟩ = some (.int .u8 (c.toNat : Int))) := Lib.hid (fun u hu => by
        have := cell_id (rangeAt_below (B := w1.heap.size) HI.out hu (by omega)) hlt
        rw [hc.out] at this; exact this)
      obtain ⟨n, hn⟩ : ∃ n, Hid (c.toNat = n) := ⟨_, Lib.hid rfl⟩
      have hn2 : n < 256 := by rw [← hn.out]; exact c.toNat_lt
      rw [hn.out] at HR
      obtain ⟨a, ha⟩ : ∃ a, a = n / 16 := ⟨_, rfl⟩
      obtain ⟨b, hb⟩ : ∃ b, b = n % 16 := ⟨_, rfl⟩
      have haz : (n : Int) / 16 = (a : Int) := by omega
      have hbz : (n : Int) % 16 = (b : Int) := by omega
      have HT : Hid ((i.l.take (k + 1)).flatMap dg2 = ((i.l.take k).flatMap dg2 ++ [(a : Int)]) ++ [(b : Int)]) := Lib.hid (by
        rw [List.take_succ_eq_append_getElem (by rw [i.len]; exact hlt), List.flatMap_append, hc.out]
        simp only [List.flatMap_cons, List.flatMap_nil, List.append_nil, dg2, hn.out, ← ha, ← hb, List.append_assoc]
        rfl)
      obtain ⟨X, hX⟩ : ∃ X, Hid ((i.l.take k).flatMap dg2 = X) := ⟨_, Lib.hid rfl⟩
      have hXl : X.length ≤ 64 := by rw [← hX.out, dg2s_len, List.length_take]; omega
      rw [hX.out] at HX HT
      have e0 := HR.out wo HW.out
      clear hX ha hb
      go_wp2_with (first
        | (at_builtin; have _g := HO4.out; go_must (refine wpList_append1 rfl (en := eInt) (s := 1) (base := w1.heap.size) (e := 3) _ _ 118 rfl (.int .i64 0) 8 Tryd.underlying118 info3 rfl (by decide) len_eInt one_eInt _ _ (X ++ [(a : Int)]) (b : Int) rfl (HO4.out.alloc _) rfl (Sl.fresh (l := [(b : Int)]) len_eInt rfl rfl rfl (by simp [maxLen])) (by simp only [maxLen, List.length_append, List.length_singleton]; omega) (by simp only [List.length_append, List.length_singleton]; omega) (by have := HW4.out.size; simp; omega) ?_; intro ov2 w7 hown hgr hbel hblk; have HO7 := Lib.hid hown; have HW7 := Lib.hid ((HW4.out.alloc HW4.out.size _).trans hbel); clear hown hgr hbel hblk))
        | (at_builtin; go_must (refine wpList_append1 rfl (en := eInt) (s := 1) (base := w1.heap.size) (e := 3) _ _ 118 rfl (.int .i64 0) 8 Tryd.underlying118 info3 rfl (by decide) len_eInt one_eInt _ _ X (a : Int) rfl (HX.out.alloc _) rfl (Sl.fresh (l := [(a : Int)]) len_eInt rfl rfl rfl (by simp [maxLen])) (by simp only [maxLen]; omega) (by omega) (by have := HW.out.size; simp; omega) ?_; intro ov' w6 hown hgr hbel hblk; have HO4 := Lib.hid hown; have HW4 := Lib.hid ((HW.out.alloc HW.out.size _).trans hbel); have e4 := HR.out w6 HW4.out; clear hown hgr hbel hblk)))
      go_roundw
      case rel => exact ⟨k + 1, by go_num, by omega, Lib.hid (by rw [HT.out]; exact HO7.out), HW7⟩
      case measure => simp [intOf]; omega
    · obtain rfl : k = 32 := by omega
      have d2 : decide (((32 : Nat) : Int) < 32) = false := by decide
      have HT : Hid ((i.l.take 32).flatMap dg2 = i.l.flatMap dg2) := Lib.hid (by rw [List.take_of_length_le (by rw [i.len]; exact Nat.le_refl _)])
      rw [HT.out] at HX
      go_wp2_with fail
      go_ret
      exact ⟨_, rfl, HX.out.mono (by omega), bthen HB.out HW.out⟩

/-- digits as letters -/
def lets (l : List Int) : List UInt8 := l.map (fun d => dig d.toNat)
theorem lets_dg2 (l : List UInt8) : lets (l.flatMap dg2) = l.flatMap hex2 := by
  induction l with
  | nil => rfl
  | cons b l ih =>
    rw [List.flatMap_cons, List.flatMap_cons, ← ih]
    unfold lets
    rw [List.map_append]
    rfl
theorem dg2s_mem {l : List UInt8} {d : Int} (h : d ∈ l.flatMap dg2) : 0 ≤ d ∧ d < 16 := by
  obtain ⟨b, _, hb⟩ := List.mem_flatMap.1 h
  have := b.toNat_lt
  simp only [dg2, List.mem_cons, List.not_mem_nil, or_false] at hb
  rcases hb with rfl | rfl <;> omega
theorem letters_at {d : Nat} (h : d < 16) : (letters.drop d).take 1 = [dig d] := by
  have key : ∀ d, d < 16 → (letters.drop d).take 1 = [dig d] := by decide
  exact key d h

set_option maxRecDepth 100000 in
set_option maxHeartbeats 1000000 in
theorem rhex_any (i : Idb) (w : World) : Calls Tryd.prog 82 #[vId i] w fun e w' => e = .returned (.string (bstr (hexF i))) ∧ Below w.heap.size w w' := by
  obtain ⟨w1, hw1⟩ : ∃ u, Hid (u = w.alloc (.cells (eId i).toArray 39)) := ⟨_, Lib.hid rfl⟩
  have HI : Hid (w1.rangeAt w.heap.size 0 (eId i)) := Lib.hid (by rw [hw1.out]; exact range_of_heap (cs := (eId i).toArray) (heap_alloc_new _ _))
  have HB : Hid (Below w.heap.size w w1) := Lib.hid (by rw [hw1.out]; exact (Below.refl _ _).alloc (Nat.le_refl _) _)
  have cl := c_letters
  have hll : letters.length = 16 := rfl
  obtain ⟨D, hD⟩ : ∃ D, Hid (i.l.flatMap dg2 = D) := ⟨_, Lib.hid rfl⟩
  have hDl : D.length = 64 := by rw [← hD.out, dg2s_len, i.len]
  have HDm : Hid (∀ d ∈ D, 0 ≤ d ∧ d < 16) := Lib.hid (fun d hd => by rw [← hD.out] at hd; exact dg2s_mem hd)
  have HH : Hid (hexF i = lets D) := Lib.hid (by unfold hexF; rw [← lets_dg2, hD.out])
  have HC := Lib.hid (digits_any i w1)
  rw [hD.out] at HC
  go_enter Tryd.func82, Tryd.ntmps82
  go_wp2_with (first
    | refine wpList_exec (exec_ld39 _ rfl _ _ rfl i HI.out) (by rfl) ?_
    | (show wpList _ _ _ _ _ (w.alloc (.cells (eId i).toArray 39)); rw [← hw1.out]))
  refine HC.out.mono ?_
  rintro e w2 ⟨v, rfl, hown, hb⟩
  have HS := Lib.hid (hown.sl len_eInt)
  have HW2 := Lib.hid (bthen HB.out hb)
  have hlen := HS.out.run_len (P := Tryd.prog) Tryd.underlying118
  rw [hDl] at hlen
  clear hown hb HC hw1
  go_wp2_with fail
  go_loopw [4, 5] (fun s4 s5 wr => ∃ (k : Nat), s4 = .string (bstr (lets (D.take k))) ∧ s5 = .int .i64 k ∧ k ≤ 64 ∧ Hid (∃ n, wr = w2.drewN n)) (fun _ s5 _ => 64 - (intOf s5).toNat)
  case atStart => exact ⟨0, rfl, rfl, by omega, Lib.hid ⟨0, rfl⟩⟩
  case round =>
    obtain ⟨k, rfl, rfl, hk, HW⟩ := hrel
    obtain ⟨nn, rfl⟩ := HW.out
    clear HW
    by_cases hlt : k < 64
    · have d2 : decide ((k : Int) < 64) = true := decide_eq_true (by omega)
      obtain ⟨b5, o5, hb5, hix, hcell⟩ := HS.out.at (P := Tryd.prog) Tryd.underlying118 cells3 some3 (show k < D.length by omega)
      have e1 := hcell 0 (by omega)
      obtain ⟨d, hd⟩ : ∃ d, Hid (D[k]'(by omega) = d) := ⟨_, Lib.hid rfl⟩
      simp only [eInt, List.getElem?_cons_zero, Nat.add_zero] at e1
      rw [hd.out] at e1
      have hd2 := HDm.out d (by rw [← hd.out]; exact List.getElem_mem _)
      obtain ⟨m, rfl⟩ : ∃ m : Nat, d = m := ⟨d.toNat, by omega⟩
      have hm16 : m < 16 := by omega
      have hlm := letters_at hm16
      have hsz : (lets (D.take k)).length ≤ 64 := by unfold lets; rw [List.length_map, List.length_take]; omega
      have HT : Hid (lets (D.take (k + 1)) = lets (D.take k) ++ [dig m]) := Lib.hid (by
        unfold lets; rw [List.take_succ_eq_append_getElem (by omega), List.map_append, hd.out]; rfl)
      obtain ⟨X, hX⟩ : ∃ X, Hid (lets (D.take k) = X) := ⟨_, Lib.hid rfl⟩
      rw [hX.out] at HT hsz ⊢
      clear hcell hd2 hX
      go_wp2_with fail
      go_quiet (fail)
      go_wp2_with fail
      go_roundw
      case rel => exact ⟨k + 1, by rw [HT.out], by go_num, by omega, Lib.hid ⟨_, rfl⟩⟩
      case measure => simp [intOf]; omega
    · obtain rfl : k = 64 := by omega
      have d2 : decide (((64 : Nat) : Int) < 64) = false := by decide
      have HT : Hid (lets (D.take 64) = hexF i) := Lib.hid (by rw [HH.out, List.take_of_length_le (by omega)])
      rw [HT.out]
      go_wp2_with fail
      go_ret
      exact ⟨rfl, below_drewN HW2.out _⟩
end Go.Proofs.YtopamnfelngkcaaDoor.Rf
