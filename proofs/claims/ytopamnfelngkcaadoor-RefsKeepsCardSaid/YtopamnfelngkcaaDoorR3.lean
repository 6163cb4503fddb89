/-
  Layer 12: a name's place in a sorted list. No condition besides what the arguments are.
-/
import Derived.Test.YtopamnfelngkcaaDoorR2
import Derived.Test.YtopamnfelngkcaaDoorRP2
namespace Go.Proofs.YtopamnfelngkcaaDoor.Rf
open Go.Proofs Go.RowKit Go.Shelf Go.Sl Go.Route Go.Refs
set_option linter.unusedVariables false

set_option maxRecDepth 100000 in
set_option maxHeartbeats 2000000 in
theorem search_any (v : Value) (l : List Go.Sl.Rf) (q : Go.Sl.Rf) (w : World) (hv : Sl eRf 33 w v l) (hs : (nms l).Pairwise (· < ·)) (hl : l.length ≤ 100000) :
    Calls Tryd.prog 88 #[v, vRf q, .func (.func 84) #[] #[]] w fun e w' => e = .returned (.tuple #[.int .i64 (pos l q.nm : Nat), .bool (hit l q.nm)]) ∧ Below w.heap.size w w' := by
  have hlen := hv.run_len (P := Tryd.prog) Tryd.underlying37
  have HV := Lib.hid hv
  have HSo := Lib.hid hs
  clear hv hs
  go_enter Tryd.func88, Tryd.ntmps88
  go_wp2_with fail
  obtain ⟨w1, hw1⟩ : ∃ u, Hid (u = w.alloc (.cells (eRf q).toArray 43)) := ⟨_, Lib.hid rfl⟩
  have hs1 : w1.heap.size = w.heap.size + 1 := by rw [hw1.out]; simp
  have HQ : Hid (w1.rangeAt w.heap.size 0 (eRf q)) := Lib.hid (by rw [hw1.out]; exact range_of_heap (cs := (eRf q).toArray) (heap_alloc_new _ _))
  have HB1 : Hid (Below w.heap.size w w1) := Lib.hid (by rw [hw1.out]; exact (Below.refl _ _).alloc (Nat.le_refl _) _)
  rw [← hw1.out]
  clear hw1
  go_loopw [9, 10] (fun s9 s10 wr => ∃ lo hi : Nat, s9 = .int .i64 lo ∧ s10 = .int .i64 hi ∧ lo ≤ hi ∧ hi ≤ l.length ∧ Hid ((∀ t, t < lo → ∀ h : t < l.length, l[t].nm < q.nm) ∧ (∀ t, hi ≤ t → ∀ h : t < l.length, ¬ l[t].nm < q.nm)) ∧ Hid (Below w1.heap.size w1 wr)) (fun s9 s10 _ => (intOf s10).toNat - (intOf s9).toNat)
  case atStart => exact ⟨0, l.length, rfl, rfl, by omega, by omega, Lib.hid ⟨fun t ht h => by omega, fun t ht h => by omega⟩, Lib.hid (Below.refl _ _)⟩
  case round =>
    obtain ⟨wo, rfl⟩ : ∃ u : World, u = wr := ⟨_, rfl⟩
    obtain ⟨lo, hi, rfl, rfl, hlh, hhi, HI, HW⟩ := hrel
    have HWw := Lib.hid (bthen HB1.out HW.out)
    by_cases hlt : lo < hi
    · have dlt : decide ((lo : Int) < (hi : Int)) = true := decide_eq_true (by omega)
      obtain ⟨m, hm⟩ : ∃ m, m = (lo + hi) / 2 := ⟨_, rfl⟩
      have hm1 : lo ≤ m := by omega
      have hm2 : m < hi := by omega
      have hmz : ((lo : Int) + (hi : Int)) / 2 = (m : Int) := by omega
      have hml : m < l.length := by omega
      clear hm
      obtain ⟨b5, o5, hb5, hix, hr⟩ := HV.out.rangeB len_eRf HWw.out (P := Tryd.prog) Tryd.underlying37 cells43 some43 hml
      obtain ⟨x, hx⟩ : ∃ x, Hid (l[m] = x) := ⟨_, Lib.hid rfl⟩
      rw [hx.out] at hr
      have HB := Lib.hid (byName_any x q)
      have HS : Hid (wo.drew.rangeAt b5 o5 (eRf x) ∧ wo.drew.rangeAt w.heap.size 0 (eRf q) ∧ Below w1.heap.size w1 wo.drew) := Lib.hid ⟨hr, rangeAt_below (B := w1.heap.size) HQ.out HW.out.drew (by omega), HW.out.drew⟩
      clear hr
      go_wp2_with fail
      refine wp_region_held_drew (S := fun u => u.rangeAt b5 o5 (eRf x) ∧ u.rangeAt w.heap.size 0 (eRf q) ∧ Below w1.heap.size w1 u) (by kernel_rfl) HS.out (fun hHeld => ?_)
      refine wpAnyH_take (i := 0) (oi := { dst := some 24, op := Op.move (Operand.tmp 2), type := 94, pos := "sort.go:160", after := #[], guard := none }) (v := ?_) rfl (by kernel_rfl) (by kernel_rfl) (by kernel_rfl) (fun _ _ _ h => h) (Or.inl ⟨by rfl, ?_⟩) (by assumption) ?_
      rotate_left
      · intro u hSu; (try dsimp only at hSu); (go_simp <;> with_reducible rfl)
      try simp only [Act.put, List.setIfInBounds_toArray, List.set_cons_zero, List.set_cons_succ]
      refine wpAnyH_take (i := 1) (oi := { dst := some 25, op := Op.move (Operand.tmp 0), type := 37, pos := "sort.go:160", after := #[], guard := none }) (v := ?_) rfl (by kernel_rfl) (by kernel_rfl) (by kernel_rfl) (fun _ _ _ h => h) (Or.inl ⟨by rfl, ?_⟩) (by assumption) ?_
      rotate_left
      · intro u hSu; (try dsimp only at hSu); (go_simp <;> with_reducible rfl)
      try simp only [Act.put, List.setIfInBounds_toArray, List.set_cons_zero, List.set_cons_succ]
      refine wpAnyH_take (i := 2) (oi := { dst := some 26, op := Op.move (Operand.tmp 11), type := 3, pos := "sort.go:160", after := #[], guard := none }) (v := ?_) rfl (by kernel_rfl) (by kernel_rfl) (by kernel_rfl) (fun _ _ _ h => h) (Or.inl ⟨by rfl, ?_⟩) (by assumption) ?_
      rotate_left
      · intro u hSu; (try dsimp only at hSu); (go_simp <;> with_reducible rfl)
      try simp only [Act.put, List.setIfInBounds_toArray, List.set_cons_zero, List.set_cons_succ]
      refine wpAnyH_take (i := 3) (oi := { dst := some 27, op := Op.indexAddr 37 (Operand.tmp 25) (Operand.tmp 26), type := 0, pos := "sort.go:160", after := #[{ on := 1, ground := Ground.data }, { on := 2, ground := Ground.data }], guard := none }) (v := ?_) rfl (by kernel_rfl) (by kernel_rfl) (by kernel_rfl) (fun _ _ _ h => h) (Or.inl ⟨by rfl, ?_⟩) (by assumption) ?_
      rotate_left
      · intro u hSu; (try dsimp only at hSu); (go_simp <;> with_reducible rfl)
      try simp only [Act.put, List.setIfInBounds_toArray, List.set_cons_zero, List.set_cons_succ]
      refine wpAnyH_take (i := 4) (oi := { dst := some 28, op := Op.load 43 (Operand.tmp 27), type := 43, pos := "sort.go:160", after := #[{ on := 3, ground := Ground.data }], guard := none }) (v := .agg (eRf x).toArray) rfl (by kernel_rfl) (by kernel_rfl) (by kernel_rfl) (fun _ _ _ h => h) (yieldsIf_load_mid (by rfl) 43 _ rfl b5 o5 (by rfl) (eRf x) _ (fun u hSu => hSu.1) Tryd.underlying43 rfl (by rw [size43, len_eRf])) (by assumption) ?_
      try simp only [Act.put, List.setIfInBounds_toArray, List.set_cons_zero, List.set_cons_succ]
      refine wpAnyH_take (i := 5) (oi := { dst := some 29, op := Op.load 43 (Operand.tmp 4), type := 43, pos := "sort.go:160", after := #[], guard := none }) (v := .agg (eRf q).toArray) rfl (by kernel_rfl) (by kernel_rfl) (by kernel_rfl) (fun _ _ _ h => h) (yieldsIf_load_mid (by rfl) 43 _ rfl w.heap.size 0 (by rfl) (eRf q) _ (fun u hSu => hSu.2.1) Tryd.underlying43 rfl (by rw [size43, len_eRf])) (by assumption) ?_
      try simp only [Act.put, List.setIfInBounds_toArray, List.set_cons_zero, List.set_cons_succ]
      refine wpAnyH_ready (rs := [6]) (by kernel_rfl) (by simp) ?_
      refine AllReadyH.cons (o := { dst := some 30, op := Op.call { callee := Callee.value (Operand.tmp 24), args := #[Operand.tmp 28, Operand.tmp 29], argTypes := #[43, 43] }, type := 3, pos := "sort.go:160", after := #[{ on := 0, ground := Ground.data }, { on := 4, ground := Ground.data }, { on := 5, ground := Ground.data }], guard := none }) rfl (fun K hK => ?_) AllReadyH.nil
      go_simp
      refine (HB.out _).mono ?_
      rintro e w3 ⟨rfl, hb3⟩
      refine hK.out _ _ ⟨rangeAt_below hHeld.1 hb3 (Nat.lt_of_lt_of_le (show b5 < w1.heap.size by omega) hHeld.2.2.size), rangeAt_below hHeld.2.1 hb3 (Nat.lt_of_lt_of_le (show w.heap.size < w1.heap.size by omega) hHeld.2.2.size), bthen hHeld.2.2 hb3⟩ (fun hHeld => ?_)
      clear hK K
      try simp only [Act.put, List.setIfInBounds_toArray, List.set_cons_zero, List.set_cons_succ]
      refine wpAnyH_take (i := 7) (oi := { dst := some 31, op := Op.binOp BinOp.lss 3 (Operand.tmp 30) (Operand.const (Value.int IntKind.i64 0)) 3, type := 4, pos := "sort.go:160", after := #[{ on := 6, ground := Ground.data }], guard := none }) (v := ?_) rfl (by kernel_rfl) (by kernel_rfl) (by kernel_rfl) (fun _ _ _ h => h) (Or.inl ⟨by rfl, ?_⟩) (by assumption) ?_
      rotate_left
      · intro u hSu; (try dsimp only at hSu); (go_simp <;> with_reducible rfl)
      try simp only [Act.put, List.setIfInBounds_toArray, List.set_cons_zero, List.set_cons_succ]
      refine wpAnyH_done (by kernel_rfl) ?_ _
      have HB9 := Lib.hid hHeld.2.2
      clear hHeld hix HS
      by_cases hc : x.nm < q.nm
      · have hv : Lib.compareBytes x.nm q.nm < 0 := (cmp_neg _ _).2 hc
        have hd : decide (Lib.compareBytes x.nm q.nm < 0) = true := decide_eq_true hv
        have HI2 : Hid ((∀ t, t < m + 1 → ∀ h : t < l.length, l[t].nm < q.nm) ∧ (∀ t, hi ≤ t → ∀ h : t < l.length, ¬ l[t].nm < q.nm)) := Lib.hid ⟨fun t ht h => by
          by_cases e : t = m
          · subst e; rw [hx.out]; exact hc
          · have := rise_lt HSo.out (show t < m by omega) hml
            rw [hx.out] at this
            exact List.lt_trans this hc, HI.out.2⟩
        go_wp2_with fail
        go_roundw
        case rel => exact ⟨m + 1, hi, by go_num, rfl, by omega, hhi, HI2, HB9⟩
        case measure => simp [intOf]; omega
      · have hv : ¬ Lib.compareBytes x.nm q.nm < 0 := fun h => hc ((cmp_neg _ _).1 h)
        have hd : decide (Lib.compareBytes x.nm q.nm < 0) = false := decide_eq_false hv
        have HI2 : Hid ((∀ t, t < lo → ∀ h : t < l.length, l[t].nm < q.nm) ∧ (∀ t, m ≤ t → ∀ h : t < l.length, ¬ l[t].nm < q.nm)) := Lib.hid ⟨HI.out.1, fun t ht h h2 => by
          by_cases e : t = m
          · subst e; rw [hx.out] at h2; exact hc h2
          · have := rise_lt HSo.out (show m < t by omega) h
            rw [hx.out] at this
            exact hc (List.lt_trans this h2)⟩
        go_wp2_with fail
        go_roundw
        case rel => exact ⟨lo, m, rfl, rfl, by omega, by omega, HI2, HB9⟩
        case measure => simp [intOf]; omega
    · obtain rfl : lo = hi := by omega
      have dlt : decide ((lo : Int) < (lo : Int)) = false := decide_eq_false (by omega)
      have HP : Hid (pos l q.nm = lo) := Lib.hid (pos_eq l q.nm lo hhi HI.out.1 (fun h => HI.out.2 lo (Nat.le_refl _) h))
      clear hlh hlt HI
      by_cases hn : lo < l.length
      · have dn : decide ((lo : Int) < (l.length : Int)) = true := decide_eq_true (by omega)
        obtain ⟨b5, o5, hb5, hix, hr⟩ := HV.out.rangeB len_eRf HWw.out (P := Tryd.prog) Tryd.underlying37 cells43 some43 hn
        obtain ⟨x, hx⟩ : ∃ x, Hid (l[lo] = x) := ⟨_, Lib.hid rfl⟩
        rw [hx.out] at hr
        have HB := Lib.hid (byName_any x q)
        have HS : Hid (wo.drew.rangeAt b5 o5 (eRf x) ∧ wo.drew.rangeAt w.heap.size 0 (eRf q) ∧ Below w1.heap.size w1 wo.drew) := Lib.hid ⟨hr, rangeAt_below (B := w1.heap.size) HQ.out HW.out.drew (by omega), HW.out.drew⟩
        have HH : Hid (hit l q.nm = decide (x.nm = q.nm)) := Lib.hid (by rw [hit_of HP.out hn, hx.out])
        have hq : (Lib.compareBytes x.nm q.nm == 0) = decide (x.nm = q.nm) := by rw [Bool.eq_iff_iff, beq_iff_eq, decide_eq_true_eq]; exact cmp_zero _ _
        clear hr
        go_wp2_with fail
        refine wp_region_held_drew (S := fun u => u.rangeAt b5 o5 (eRf x) ∧ u.rangeAt w.heap.size 0 (eRf q) ∧ Below w1.heap.size w1 u) (by kernel_rfl) HS.out (fun hHeld => ?_)
        refine wpAnyH_take (i := 0) (oi := { dst := some 35, op := Op.move (Operand.tmp 9), type := 3, pos := "sort.go:167", after := #[], guard := none }) (v := ?_) rfl (by kernel_rfl) (by kernel_rfl) (by kernel_rfl) (fun _ _ _ h => h) (Or.inl ⟨by rfl, ?_⟩) (by assumption) ?_
        rotate_left
        · intro u hSu; (try dsimp only at hSu); (go_simp <;> with_reducible rfl)
        try simp only [Act.put, List.setIfInBounds_toArray, List.set_cons_zero, List.set_cons_succ]
        refine wpAnyH_take (i := 1) (oi := { dst := some 36, op := Op.move (Operand.tmp 9), type := 3, pos := "sort.go:167", after := #[], guard := none }) (v := ?_) rfl (by kernel_rfl) (by kernel_rfl) (by kernel_rfl) (fun _ _ _ h => h) (Or.inl ⟨by rfl, ?_⟩) (by assumption) ?_
        rotate_left
        · intro u hSu; (try dsimp only at hSu); (go_simp <;> with_reducible rfl)
        try simp only [Act.put, List.setIfInBounds_toArray, List.set_cons_zero, List.set_cons_succ]
        refine wpAnyH_take (i := 2) (oi := { dst := some 37, op := Op.move (Operand.tmp 8), type := 3, pos := "sort.go:167", after := #[], guard := none }) (v := ?_) rfl (by kernel_rfl) (by kernel_rfl) (by kernel_rfl) (fun _ _ _ h => h) (Or.inl ⟨by rfl, ?_⟩) (by assumption) ?_
        rotate_left
        · intro u hSu; (try dsimp only at hSu); (go_simp <;> with_reducible rfl)
        try simp only [Act.put, List.setIfInBounds_toArray, List.set_cons_zero, List.set_cons_succ]
        refine wpAnyH_take (i := 3) (oi := { dst := some 38, op := Op.binOp BinOp.lss 3 (Operand.tmp 36) (Operand.tmp 37) 3, type := 4, pos := "sort.go:167", after := #[{ on := 1, ground := Ground.data }, { on := 2, ground := Ground.data }], guard := none }) (v := ?_) rfl (by kernel_rfl) (by kernel_rfl) (by kernel_rfl) (fun _ _ _ h => h) (Or.inl ⟨by rfl, ?_⟩) (by assumption) ?_
        rotate_left
        · intro u hSu; (try dsimp only at hSu); (go_simp <;> with_reducible rfl)
        try simp only [Act.put, List.setIfInBounds_toArray, List.set_cons_zero, List.set_cons_succ]
        refine wpAnyH_take (i := 4) (oi := { dst := some 39, op := Op.move (Operand.tmp 38), type := 4, pos := "sort.go:167", after := #[{ on := 3, ground := Ground.data }], guard := none }) (v := ?_) rfl (by kernel_rfl) (by kernel_rfl) (by kernel_rfl) (fun _ _ _ h => h) (Or.inl ⟨by rfl, ?_⟩) (by assumption) ?_
        rotate_left
        · intro u hSu; (try dsimp only at hSu); (go_simp <;> with_reducible rfl)
        try simp only [Act.put, List.setIfInBounds_toArray, List.set_cons_zero, List.set_cons_succ]
        refine wpAnyH_take (i := 5) (oi := { dst := some 40, op := Op.move (Operand.tmp 2), type := 94, pos := "sort.go:167", after := #[{ on := 4, ground := Ground.guard }], guard := some (4, true) }) (v := ?_) rfl (by kernel_rfl) (by kernel_rfl) (by kernel_rfl) (fun _ _ _ h => h) (Or.inl ⟨by rfl, ?_⟩) (by assumption) ?_
        rotate_left
        · intro u hSu; (try dsimp only at hSu); (go_simp <;> with_reducible rfl)
        try simp only [Act.put, List.setIfInBounds_toArray, List.set_cons_zero, List.set_cons_succ]
        refine wpAnyH_take (i := 6) (oi := { dst := some 41, op := Op.move (Operand.tmp 0), type := 37, pos := "sort.go:167", after := #[{ on := 4, ground := Ground.guard }], guard := some (4, true) }) (v := ?_) rfl (by kernel_rfl) (by kernel_rfl) (by kernel_rfl) (fun _ _ _ h => h) (Or.inl ⟨by rfl, ?_⟩) (by assumption) ?_
        rotate_left
        · intro u hSu; (try dsimp only at hSu); (go_simp <;> with_reducible rfl)
        try simp only [Act.put, List.setIfInBounds_toArray, List.set_cons_zero, List.set_cons_succ]
        refine wpAnyH_take (i := 7) (oi := { dst := some 42, op := Op.move (Operand.tmp 9), type := 3, pos := "sort.go:167", after := #[{ on := 4, ground := Ground.guard }], guard := some (4, true) }) (v := ?_) rfl (by kernel_rfl) (by kernel_rfl) (by kernel_rfl) (fun _ _ _ h => h) (Or.inl ⟨by rfl, ?_⟩) (by assumption) ?_
        rotate_left
        · intro u hSu; (try dsimp only at hSu); (go_simp <;> with_reducible rfl)
        try simp only [Act.put, List.setIfInBounds_toArray, List.set_cons_zero, List.set_cons_succ]
        refine wpAnyH_take (i := 8) (oi := { dst := some 43, op := Op.indexAddr 37 (Operand.tmp 41) (Operand.tmp 42), type := 0, pos := "sort.go:167", after := #[{ on := 6, ground := Ground.data }, { on := 7, ground := Ground.data }, { on := 4, ground := Ground.guard }], guard := some (4, true) }) (v := ?_) rfl (by kernel_rfl) (by kernel_rfl) (by kernel_rfl) (fun _ _ _ h => h) (Or.inl ⟨by rfl, ?_⟩) (by assumption) ?_
        rotate_left
        · intro u hSu; (try dsimp only at hSu); (go_simp <;> with_reducible rfl)
        try simp only [Act.put, List.setIfInBounds_toArray, List.set_cons_zero, List.set_cons_succ]
        refine wpAnyH_take (i := 9) (oi := { dst := some 44, op := Op.load 43 (Operand.tmp 43), type := 43, pos := "sort.go:167", after := #[{ on := 8, ground := Ground.data }, { on := 4, ground := Ground.guard }], guard := some (4, true) }) (v := .agg (eRf x).toArray) rfl (by kernel_rfl) (by kernel_rfl) (by kernel_rfl) (fun _ _ _ h => h) (yieldsIf_load_mid (by rfl) 43 _ rfl b5 o5 (by rfl) (eRf x) _ (fun u hSu => hSu.1) Tryd.underlying43 rfl (by rw [size43, len_eRf])) (by assumption) ?_
        try simp only [Act.put, List.setIfInBounds_toArray, List.set_cons_zero, List.set_cons_succ]
        refine wpAnyH_take (i := 10) (oi := { dst := some 45, op := Op.load 43 (Operand.tmp 4), type := 43, pos := "sort.go:167", after := #[{ on := 4, ground := Ground.guard }], guard := some (4, true) }) (v := .agg (eRf q).toArray) rfl (by kernel_rfl) (by kernel_rfl) (by kernel_rfl) (fun _ _ _ h => h) (yieldsIf_load_mid (by rfl) 43 _ rfl w.heap.size 0 (by rfl) (eRf q) _ (fun u hSu => hSu.2.1) Tryd.underlying43 rfl (by rw [size43, len_eRf])) (by assumption) ?_
        try simp only [Act.put, List.setIfInBounds_toArray, List.set_cons_zero, List.set_cons_succ]
        refine wpAnyH_ready (rs := [11]) (by kernel_rfl) (by simp) ?_
        refine AllReadyH.cons (o := { dst := some 46, op := Op.call { callee := Callee.value (Operand.tmp 40), args := #[Operand.tmp 44, Operand.tmp 45], argTypes := #[43, 43] }, type := 3, pos := "sort.go:167", after := #[{ on := 5, ground := Ground.data }, { on := 9, ground := Ground.data }, { on := 10, ground := Ground.data }, { on := 4, ground := Ground.chain }, { on := 4, ground := Ground.guard }], guard := some (4, true) }) rfl (fun K hK => ?_) AllReadyH.nil
        go_simp
        refine (HB.out _).mono ?_
        rintro e w3 ⟨rfl, hb3⟩
        refine hK.out _ _ ⟨rangeAt_below hHeld.1 hb3 (Nat.lt_of_lt_of_le (show b5 < w1.heap.size by omega) hHeld.2.2.size), rangeAt_below hHeld.2.1 hb3 (Nat.lt_of_lt_of_le (show w.heap.size < w1.heap.size by omega) hHeld.2.2.size), bthen hHeld.2.2 hb3⟩ (fun hHeld => ?_)
        clear hK K
        try simp only [Act.put, List.setIfInBounds_toArray, List.set_cons_zero, List.set_cons_succ]
        refine wpAnyH_take (i := 12) (oi := { dst := some 47, op := Op.binOp BinOp.eql 3 (Operand.tmp 46) (Operand.const (Value.int IntKind.i64 0)) 3, type := 4, pos := "sort.go:167", after := #[{ on := 11, ground := Ground.data }, { on := 4, ground := Ground.guard }, { on := 14, ground := Ground.gcOnly Departure.lateStores }], guard := some (4, true) }) (v := ?_) rfl (by kernel_rfl) (by kernel_rfl) (by kernel_rfl) (fun _ _ _ h => h) (Or.inl ⟨by rfl, ?_⟩) (by assumption) ?_
        rotate_left
        · intro u hSu; (try dsimp only at hSu); (go_simp <;> with_reducible rfl)
        try simp only [Act.put, List.setIfInBounds_toArray, List.set_cons_zero, List.set_cons_succ]
        refine wpAnyH_take (i := 13) (oi := { dst := some 48, op := Op.pick (Operand.tmp 39) (Operand.tmp 47) (Operand.const (Value.bool false)), type := 4, pos := "sort.go:167", after := #[{ on := 4, ground := Ground.data }, { on := 12, ground := Ground.data }, { on := 14, ground := Ground.gcOnly Departure.lateStores }], guard := none }) (v := ?_) rfl (by kernel_rfl) (by kernel_rfl) (by kernel_rfl) (fun _ _ _ h => h) (Or.inl ⟨by rfl, ?_⟩) (by assumption) ?_
        rotate_left
        · intro u hSu; (try dsimp only at hSu); (go_simp <;> with_reducible rfl)
        try simp only [Act.put, List.setIfInBounds_toArray, List.set_cons_zero, List.set_cons_succ]
        refine wpAnyH_take (i := 14) (oi := { dst := some 6, op := Op.assign (Operand.tmp 35), type := 3, pos := "sort.go:167", after := #[{ on := 0, ground := Ground.data }, { on := 11, ground := Ground.chain }, { on := 0, ground := Ground.phase }, { on := 1, ground := Ground.textOnly Departure.lateStores }, { on := 2, ground := Ground.textOnly Departure.lateStores }, { on := 3, ground := Ground.textOnly Departure.lateStores }, { on := 4, ground := Ground.textOnly Departure.lateStores }, { on := 5, ground := Ground.textOnly Departure.lateStores }, { on := 6, ground := Ground.textOnly Departure.lateStores }, { on := 7, ground := Ground.textOnly Departure.lateStores }, { on := 8, ground := Ground.textOnly Departure.lateStores }, { on := 9, ground := Ground.textOnly Departure.lateStores }, { on := 10, ground := Ground.textOnly Departure.lateStores }, { on := 11, ground := Ground.textOnly Departure.lateStoresUnsure }, { on := 12, ground := Ground.textOnly Departure.lateStores }, { on := 13, ground := Ground.textOnly Departure.lateStores }], guard := none }) (v := ?_) rfl (by kernel_rfl) (by kernel_rfl) (by kernel_rfl) (fun _ _ _ h => h) (Or.inl ⟨by rfl, ?_⟩) (by assumption) ?_
        rotate_left
        · intro u hSu; (try dsimp only at hSu); (go_simp <;> with_reducible rfl)
        try simp only [Act.put, List.setIfInBounds_toArray, List.set_cons_zero, List.set_cons_succ]
        refine wpAnyH_take (i := 15) (oi := { dst := some 7, op := Op.assign (Operand.tmp 48), type := 4, pos := "sort.go:167", after := #[{ on := 13, ground := Ground.data }, { on := 14, ground := Ground.chain }, { on := 0, ground := Ground.phase }, { on := 1, ground := Ground.phase }, { on := 2, ground := Ground.phase }, { on := 3, ground := Ground.phase }, { on := 4, ground := Ground.phase }, { on := 5, ground := Ground.phase }, { on := 6, ground := Ground.phase }, { on := 7, ground := Ground.phase }, { on := 8, ground := Ground.phase }, { on := 9, ground := Ground.phase }, { on := 10, ground := Ground.phase }, { on := 11, ground := Ground.phase }, { on := 12, ground := Ground.phase }, { on := 13, ground := Ground.phase }, { on := 14, ground := Ground.phase }], guard := none }) (v := ?_) rfl (by kernel_rfl) (by kernel_rfl) (by kernel_rfl) (fun _ _ _ h => h) (Or.inl ⟨by rfl, ?_⟩) (by assumption) ?_
        rotate_left
        · intro u hSu; (try dsimp only at hSu); (go_simp <;> with_reducible rfl)
        try simp only [Act.put, List.setIfInBounds_toArray, List.set_cons_zero, List.set_cons_succ]
        refine wpAnyH_done (by kernel_rfl) ?_ _
        have HB9 := Lib.hid hHeld.2.2
        clear hHeld hix HS
        go_wp2_with fail
        go_ret2
        refine ⟨?_, bthen HB1.out HB9.out⟩
        rw [HP.out, HH.out]
        rfl
      · obtain rfl : lo = l.length := by omega
        have dn : decide ((l.length : Int) < (l.length : Int)) = false := decide_eq_false (by omega)
        have HH : Hid (hit l q.nm = false) := Lib.hid (hit_none HP.out)
        go_wp2_with fail
        refine wp_region_held_drew (S := fun u => Below w1.heap.size w1 u) (by kernel_rfl) HW.out.drew (fun hHeld => ?_)
        refine wpAnyH_take (i := 0) (oi := { dst := some 35, op := Op.move (Operand.tmp 9), type := 3, pos := "sort.go:167", after := #[], guard := none }) (v := ?_) rfl (by kernel_rfl) (by kernel_rfl) (by kernel_rfl) (fun _ _ _ h => h) (Or.inl ⟨by rfl, ?_⟩) (by assumption) ?_
        rotate_left
        · intro u hSu; (try dsimp only at hSu); (go_simp <;> with_reducible rfl)
        try simp only [Act.put, List.setIfInBounds_toArray, List.set_cons_zero, List.set_cons_succ]
        refine wpAnyH_take (i := 1) (oi := { dst := some 36, op := Op.move (Operand.tmp 9), type := 3, pos := "sort.go:167", after := #[], guard := none }) (v := ?_) rfl (by kernel_rfl) (by kernel_rfl) (by kernel_rfl) (fun _ _ _ h => h) (Or.inl ⟨by rfl, ?_⟩) (by assumption) ?_
        rotate_left
        · intro u hSu; (try dsimp only at hSu); (go_simp <;> with_reducible rfl)
        try simp only [Act.put, List.setIfInBounds_toArray, List.set_cons_zero, List.set_cons_succ]
        refine wpAnyH_take (i := 2) (oi := { dst := some 37, op := Op.move (Operand.tmp 8), type := 3, pos := "sort.go:167", after := #[], guard := none }) (v := ?_) rfl (by kernel_rfl) (by kernel_rfl) (by kernel_rfl) (fun _ _ _ h => h) (Or.inl ⟨by rfl, ?_⟩) (by assumption) ?_
        rotate_left
        · intro u hSu; (try dsimp only at hSu); (go_simp <;> with_reducible rfl)
        try simp only [Act.put, List.setIfInBounds_toArray, List.set_cons_zero, List.set_cons_succ]
        refine wpAnyH_take (i := 3) (oi := { dst := some 38, op := Op.binOp BinOp.lss 3 (Operand.tmp 36) (Operand.tmp 37) 3, type := 4, pos := "sort.go:167", after := #[{ on := 1, ground := Ground.data }, { on := 2, ground := Ground.data }], guard := none }) (v := ?_) rfl (by kernel_rfl) (by kernel_rfl) (by kernel_rfl) (fun _ _ _ h => h) (Or.inl ⟨by rfl, ?_⟩) (by assumption) ?_
        rotate_left
        · intro u hSu; (try dsimp only at hSu); (go_simp <;> with_reducible rfl)
        try simp only [Act.put, List.setIfInBounds_toArray, List.set_cons_zero, List.set_cons_succ]
        refine wpAnyH_take (i := 4) (oi := { dst := some 39, op := Op.move (Operand.tmp 38), type := 4, pos := "sort.go:167", after := #[{ on := 3, ground := Ground.data }], guard := none }) (v := ?_) rfl (by kernel_rfl) (by kernel_rfl) (by kernel_rfl) (fun _ _ _ h => h) (Or.inl ⟨by rfl, ?_⟩) (by assumption) ?_
        rotate_left
        · intro u hSu; (try dsimp only at hSu); (go_simp <;> with_reducible rfl)
        try simp only [Act.put, List.setIfInBounds_toArray, List.set_cons_zero, List.set_cons_succ]
        refine wpAnyH_take (i := 5) (oi := { dst := some 40, op := Op.move (Operand.tmp 2), type := 94, pos := "sort.go:167", after := #[{ on := 4, ground := Ground.guard }], guard := some (4, true) }) (v := undef) rfl (by kernel_rfl) (by kernel_rfl) (by kernel_rfl) (fun _ _ _ h => h) (Or.inr ⟨by rfl, rfl⟩) (by assumption) ?_
        try simp only [Act.put, List.setIfInBounds_toArray, List.set_cons_zero, List.set_cons_succ]
        refine wpAnyH_take (i := 6) (oi := { dst := some 41, op := Op.move (Operand.tmp 0), type := 37, pos := "sort.go:167", after := #[{ on := 4, ground := Ground.guard }], guard := some (4, true) }) (v := undef) rfl (by kernel_rfl) (by kernel_rfl) (by kernel_rfl) (fun _ _ _ h => h) (Or.inr ⟨by rfl, rfl⟩) (by assumption) ?_
        try simp only [Act.put, List.setIfInBounds_toArray, List.set_cons_zero, List.set_cons_succ]
        refine wpAnyH_take (i := 7) (oi := { dst := some 42, op := Op.move (Operand.tmp 9), type := 3, pos := "sort.go:167", after := #[{ on := 4, ground := Ground.guard }], guard := some (4, true) }) (v := undef) rfl (by kernel_rfl) (by kernel_rfl) (by kernel_rfl) (fun _ _ _ h => h) (Or.inr ⟨by rfl, rfl⟩) (by assumption) ?_
        try simp only [Act.put, List.setIfInBounds_toArray, List.set_cons_zero, List.set_cons_succ]
        refine wpAnyH_take (i := 8) (oi := { dst := some 43, op := Op.indexAddr 37 (Operand.tmp 41) (Operand.tmp 42), type := 0, pos := "sort.go:167", after := #[{ on := 6, ground := Ground.data }, { on := 7, ground := Ground.data }, { on := 4, ground := Ground.guard }], guard := some (4, true) }) (v := undef) rfl (by kernel_rfl) (by kernel_rfl) (by kernel_rfl) (fun _ _ _ h => h) (Or.inr ⟨by rfl, rfl⟩) (by assumption) ?_
        try simp only [Act.put, List.setIfInBounds_toArray, List.set_cons_zero, List.set_cons_succ]
        refine wpAnyH_take (i := 9) (oi := { dst := some 44, op := Op.load 43 (Operand.tmp 43), type := 43, pos := "sort.go:167", after := #[{ on := 8, ground := Ground.data }, { on := 4, ground := Ground.guard }], guard := some (4, true) }) (v := undef) rfl (by kernel_rfl) (by kernel_rfl) (by kernel_rfl) (fun _ _ _ h => h) (Or.inr ⟨by rfl, rfl⟩) (by assumption) ?_
        try simp only [Act.put, List.setIfInBounds_toArray, List.set_cons_zero, List.set_cons_succ]
        refine wpAnyH_take (i := 10) (oi := { dst := some 45, op := Op.load 43 (Operand.tmp 4), type := 43, pos := "sort.go:167", after := #[{ on := 4, ground := Ground.guard }], guard := some (4, true) }) (v := undef) rfl (by kernel_rfl) (by kernel_rfl) (by kernel_rfl) (fun _ _ _ h => h) (Or.inr ⟨by rfl, rfl⟩) (by assumption) ?_
        try simp only [Act.put, List.setIfInBounds_toArray, List.set_cons_zero, List.set_cons_succ]
        refine wpAnyH_take (i := 11) (oi := { dst := some 46, op := Op.call { callee := Callee.value (Operand.tmp 40), args := #[Operand.tmp 44, Operand.tmp 45], argTypes := #[43, 43] }, type := 3, pos := "sort.go:167", after := #[{ on := 5, ground := Ground.data }, { on := 9, ground := Ground.data }, { on := 10, ground := Ground.data }, { on := 4, ground := Ground.chain }, { on := 4, ground := Ground.guard }], guard := some (4, true) }) (v := undef) rfl (by kernel_rfl) (by kernel_rfl) (by kernel_rfl) (fun _ _ _ h => h) (Or.inr ⟨by rfl, rfl⟩) (by assumption) ?_
        try simp only [Act.put, List.setIfInBounds_toArray, List.set_cons_zero, List.set_cons_succ]
        refine wpAnyH_take (i := 12) (oi := { dst := some 47, op := Op.binOp BinOp.eql 3 (Operand.tmp 46) (Operand.const (Value.int IntKind.i64 0)) 3, type := 4, pos := "sort.go:167", after := #[{ on := 11, ground := Ground.data }, { on := 4, ground := Ground.guard }, { on := 14, ground := Ground.gcOnly Departure.lateStores }], guard := some (4, true) }) (v := undef) rfl (by kernel_rfl) (by kernel_rfl) (by kernel_rfl) (fun _ _ _ h => h) (Or.inr ⟨by rfl, rfl⟩) (by assumption) ?_
        try simp only [Act.put, List.setIfInBounds_toArray, List.set_cons_zero, List.set_cons_succ]
        refine wpAnyH_take (i := 13) (oi := { dst := some 48, op := Op.pick (Operand.tmp 39) (Operand.tmp 47) (Operand.const (Value.bool false)), type := 4, pos := "sort.go:167", after := #[{ on := 4, ground := Ground.data }, { on := 12, ground := Ground.data }, { on := 14, ground := Ground.gcOnly Departure.lateStores }], guard := none }) (v := ?_) rfl (by kernel_rfl) (by kernel_rfl) (by kernel_rfl) (fun _ _ _ h => h) (Or.inl ⟨by rfl, ?_⟩) (by assumption) ?_
        rotate_left
        · intro u hSu; (try dsimp only at hSu); (go_simp <;> with_reducible rfl)
        try simp only [Act.put, List.setIfInBounds_toArray, List.set_cons_zero, List.set_cons_succ]
        refine wpAnyH_take (i := 14) (oi := { dst := some 6, op := Op.assign (Operand.tmp 35), type := 3, pos := "sort.go:167", after := #[{ on := 0, ground := Ground.data }, { on := 11, ground := Ground.chain }, { on := 0, ground := Ground.phase }, { on := 1, ground := Ground.textOnly Departure.lateStores }, { on := 2, ground := Ground.textOnly Departure.lateStores }, { on := 3, ground := Ground.textOnly Departure.lateStores }, { on := 4, ground := Ground.textOnly Departure.lateStores }, { on := 5, ground := Ground.textOnly Departure.lateStores }, { on := 6, ground := Ground.textOnly Departure.lateStores }, { on := 7, ground := Ground.textOnly Departure.lateStores }, { on := 8, ground := Ground.textOnly Departure.lateStores }, { on := 9, ground := Ground.textOnly Departure.lateStores }, { on := 10, ground := Ground.textOnly Departure.lateStores }, { on := 11, ground := Ground.textOnly Departure.lateStoresUnsure }, { on := 12, ground := Ground.textOnly Departure.lateStores }, { on := 13, ground := Ground.textOnly Departure.lateStores }], guard := none }) (v := ?_) rfl (by kernel_rfl) (by kernel_rfl) (by kernel_rfl) (fun _ _ _ h => h) (Or.inl ⟨by rfl, ?_⟩) (by assumption) ?_
        rotate_left
        · intro u hSu; (try dsimp only at hSu); (go_simp <;> with_reducible rfl)
        try simp only [Act.put, List.setIfInBounds_toArray, List.set_cons_zero, List.set_cons_succ]
        refine wpAnyH_take (i := 15) (oi := { dst := some 7, op := Op.assign (Operand.tmp 48), type := 4, pos := "sort.go:167", after := #[{ on := 13, ground := Ground.data }, { on := 14, ground := Ground.chain }, { on := 0, ground := Ground.phase }, { on := 1, ground := Ground.phase }, { on := 2, ground := Ground.phase }, { on := 3, ground := Ground.phase }, { on := 4, ground := Ground.phase }, { on := 5, ground := Ground.phase }, { on := 6, ground := Ground.phase }, { on := 7, ground := Ground.phase }, { on := 8, ground := Ground.phase }, { on := 9, ground := Ground.phase }, { on := 10, ground := Ground.phase }, { on := 11, ground := Ground.phase }, { on := 12, ground := Ground.phase }, { on := 13, ground := Ground.phase }, { on := 14, ground := Ground.phase }], guard := none }) (v := ?_) rfl (by kernel_rfl) (by kernel_rfl) (by kernel_rfl) (fun _ _ _ h => h) (Or.inl ⟨by rfl, ?_⟩) (by assumption) ?_
        rotate_left
        · intro u hSu; (try dsimp only at hSu); (go_simp <;> with_reducible rfl)
        try simp only [Act.put, List.setIfInBounds_toArray, List.set_cons_zero, List.set_cons_succ]
        refine wpAnyH_done (by kernel_rfl) ?_ _
        have HB9 := Lib.hid hHeld
        go_wp2_with fail
        go_ret2
        refine ⟨?_, bthen HB1.out HB9.out⟩
        rw [HP.out, HH.out]
        rfl
end Go.Proofs.YtopamnfelngkcaaDoor.Rf
