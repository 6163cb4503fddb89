/-
  Layer 12: lists of refs compared; may a list be a table? No condition besides what the arguments are.
-/
import Derived.Maps.OwnSet
import Derived.Maps.OwnOps
import Derived.Maps.Views
import Derived.Test.YtopamnfelngkcaaDoorR2
import Derived.Test.YtopamnfelngkcaaDoorR4
namespace Go.Proofs.YtopamnfelngkcaaDoor.Rf
open Go.Proofs Go.RowKit Go.Shelf Go.Sl Go.Route Go.Refs Go.Maps
open Go.WideMaps (keyOf_string_mk)
set_option linter.unusedVariables false

def fNm : Field := { name := "Name", type := 9, offset := 0, embedded := false, tag := "", pkgPath := "", byteOffset := 0 }
def fId : Field := { name := "ID", type := 39, offset := 1, embedded := false, tag := "", pkgPath := "", byteOffset := 16 }
theorem fields43 : Tryd.prog.fieldsOf 43 = #[fNm, fId] := by kernel_rfl
theorem stood43 : Tryd.prog.stoodInHeld 43 = false := by kernel_rfl
theorem sz39 (w : World) : (sizeOf 39).run Tryd.prog w = .ok 32 w := by
  obtain ⟨i, h1, h2⟩ := Option.map_eq_some_iff.1 size39
  simp [sizeOf, typeInfo, h1, h2]
theorem und43 : Tryd.prog.underlying 43 = some (.struct (Tryd.prog.fieldsOf 43)) := by rw [fields43]; exact Tryd.underlying43
theorem eqIn43 (w : World) (a b : Go.Sl.Rf) : (Op.equalIn 10000 43 (vRf a) (vRf b)).run Tryd.prog w = .ok (decide (a = b)) w :=
  run_eqIn_rf w und43 stood43 fNm fId fields43 (by decide) (by decide) rfl rfl rfl rfl Tryd.underlying9 Tryd.underlying39 Tryd.underlying5 Tryd.sizeOf5 sz39 a b
theorem exec_neq43 {o : Oper} {A : Act} {x y : Operand} {t : TypeId} (ho : o.op = .binOp .neq 43 x y t) {a b : Go.Sl.Rf} (hx : A.eval x = vRf a) (hy : A.eval y = vRf b) (w : World) : (execOp A.eval o).run Tryd.prog w = .ok (.value (.bool (!decide (a = b)))) w := by
  have h1 := run_eqGuard_agg (P := Tryd.prog) w .neq 43 x y (eRf a).toArray (eRf b).toArray (by kernel_rfl)
  have h2 := run_neq_struct (P := Tryd.prog) w 43 (eRf a).toArray (eRf b).toArray
  have h3 := eqIn43 w a b
  simp only [vRf] at h3
  rw [h3] at h2
  unfold execOp
  simp only [ho, hx, hy, Sem.run_bind, h1, h2, Result.andThen_ok, Sem.run_pure]

set_option maxRecDepth 100000 in
set_option maxHeartbeats 1000000 in
theorem same_any (v1 v2 : Value) (l1 l2 : List Go.Sl.Rf) (w : World) (h1 : Sl eRf 33 w v1 l1) (h2 : Sl eRf 33 w v2 l2) :
    Calls Tryd.prog 51 #[v1, v2] w fun e w' => e = .returned (.bool (decide (l1 = l2))) ∧ Below w.heap.size w w' := by
  have hlen1 := h1.run_len (P := Tryd.prog) Tryd.underlying37
  have hlen2 := h2.run_len (P := Tryd.prog) Tryd.underlying37
  have hmax := h1.len_le
  have hmax2 := h2.len_le
  by_cases hl : l1.length = l2.length
  · rw [← hl] at hlen2
    have HL := Lib.hid hl
    have H1 := Lib.hid h1
    have H2 := Lib.hid h2
    clear hl hmax2 h1 h2
    go_enter Tryd.func51, Tryd.ntmps51
    go_wp2_with fail
    go_loopw [5] (fun i wr => ∃ (k : Nat), k ≤ l1.length ∧ i = .int .i64 k ∧ Hid (l1.take k = l2.take k) ∧ Hid (Below w.heap.size w wr)) (fun i _ => l1.length - (intOf i).toNat)
    case atStart => exact ⟨0, by omega, rfl, Lib.hid rfl, Lib.hid (Below.refl _ _)⟩
    case round =>
      obtain ⟨wo, rfl⟩ : ∃ u : World, u = wr := ⟨_, rfl⟩
      obtain ⟨k, hk, rfl, HT, HW⟩ := hrel
      by_cases hlt : k < l1.length
      · have d2 : decide ((k : Int) < (l1.length : Int)) = true := decide_eq_true (by omega)
        have hk2 : k < l2.length := by rw [← HL.out]; exact hlt
        obtain ⟨b5, o5, hb5, hix, hr⟩ := H1.out.rangeB len_eRf HW.out (P := Tryd.prog) Tryd.underlying37 cells43 some43 hlt
        obtain ⟨b6, o6, hb6, hix6, hr6⟩ := H2.out.rangeB len_eRf HW.out (P := Tryd.prog) Tryd.underlying37 cells43 some43 hk2
        obtain ⟨x, hx⟩ : ∃ x, Hid (l1[k] = x) := ⟨_, Lib.hid rfl⟩
        obtain ⟨y, hy⟩ : ∃ x, Hid (l2[k] = x) := ⟨_, Lib.hid rfl⟩
        rw [hx.out] at hr
        rw [hy.out] at hr6
        obtain ⟨t, ht⟩ : ∃ t, (!decide (x = y)) = t := ⟨_, rfl⟩
        have HS : Hid (wo.drew.rangeAt b5 o5 (eRf x) ∧ wo.drew.rangeAt b6 o6 (eRf y)) := Lib.hid ⟨hr, hr6⟩
        clear hr hr6
        go_wp2_with fail
        refine wp_region_held_drew (S := fun u => u.rangeAt b5 o5 (eRf x) ∧ u.rangeAt b6 o6 (eRf y)) (by kernel_rfl) HS.out (fun hHeld => ?_)
        refine wpAnyH_take (i := 0) (oi := { dst := some 17, op := Op.move (Operand.tmp 0), type := 37, pos := "ref.go:175", after := #[], guard := none }) (v := ?_) rfl (by kernel_rfl) (by kernel_rfl) (by kernel_rfl) (fun _ _ _ h => h) (Or.inl ⟨by rfl, ?_⟩) (by assumption) ?_
        rotate_left
        · intro u hSu; (try dsimp only at hSu); (go_simp <;> with_reducible rfl)
        try simp only [Act.put, List.setIfInBounds_toArray, List.set_cons_zero, List.set_cons_succ]
        refine wpAnyH_take (i := 1) (oi := { dst := some 18, op := Op.move (Operand.tmp 5), type := 3, pos := "ref.go:175", after := #[], guard := none }) (v := ?_) rfl (by kernel_rfl) (by kernel_rfl) (by kernel_rfl) (fun _ _ _ h => h) (Or.inl ⟨by rfl, ?_⟩) (by assumption) ?_
        rotate_left
        · intro u hSu; (try dsimp only at hSu); (go_simp <;> with_reducible rfl)
        try simp only [Act.put, List.setIfInBounds_toArray, List.set_cons_zero, List.set_cons_succ]
        refine wpAnyH_take (i := 2) (oi := { dst := some 19, op := Op.indexAddr 37 (Operand.tmp 17) (Operand.tmp 18), type := 0, pos := "ref.go:175", after := #[{ on := 0, ground := Ground.data }, { on := 1, ground := Ground.data }], guard := none }) (v := ?_) rfl (by kernel_rfl) (by kernel_rfl) (by kernel_rfl) (fun _ _ _ h => h) (Or.inl ⟨by rfl, ?_⟩) (by assumption) ?_
        rotate_left
        · intro u hSu; (try dsimp only at hSu); (go_simp <;> with_reducible rfl)
        try simp only [Act.put, List.setIfInBounds_toArray, List.set_cons_zero, List.set_cons_succ]
        refine wpAnyH_take (i := 3) (oi := { dst := some 20, op := Op.load 43 (Operand.tmp 19), type := 43, pos := "ref.go:175", after := #[{ on := 2, ground := Ground.data }], guard := none }) (v := .agg (eRf x).toArray) rfl (by kernel_rfl) (by kernel_rfl) (by kernel_rfl) (fun _ _ _ h => h) (yieldsIf_load_mid (by rfl) 43 _ rfl b5 o5 (by rfl) (eRf x) _ (fun u hSu => hSu.1) Tryd.underlying43 rfl (by rw [size43, len_eRf])) (by assumption) ?_
        try simp only [Act.put, List.setIfInBounds_toArray, List.set_cons_zero, List.set_cons_succ]
        refine wpAnyH_take (i := 4) (oi := { dst := some 21, op := Op.move (Operand.tmp 1), type := 37, pos := "ref.go:175", after := #[], guard := none }) (v := ?_) rfl (by kernel_rfl) (by kernel_rfl) (by kernel_rfl) (fun _ _ _ h => h) (Or.inl ⟨by rfl, ?_⟩) (by assumption) ?_
        rotate_left
        · intro u hSu; (try dsimp only at hSu); (go_simp <;> with_reducible rfl)
        try simp only [Act.put, List.setIfInBounds_toArray, List.set_cons_zero, List.set_cons_succ]
        refine wpAnyH_take (i := 5) (oi := { dst := some 22, op := Op.move (Operand.tmp 5), type := 3, pos := "ref.go:175", after := #[], guard := none }) (v := ?_) rfl (by kernel_rfl) (by kernel_rfl) (by kernel_rfl) (fun _ _ _ h => h) (Or.inl ⟨by rfl, ?_⟩) (by assumption) ?_
        rotate_left
        · intro u hSu; (try dsimp only at hSu); (go_simp <;> with_reducible rfl)
        try simp only [Act.put, List.setIfInBounds_toArray, List.set_cons_zero, List.set_cons_succ]
        refine wpAnyH_take (i := 6) (oi := { dst := some 23, op := Op.indexAddr 37 (Operand.tmp 21) (Operand.tmp 22), type := 0, pos := "ref.go:175", after := #[{ on := 4, ground := Ground.data }, { on := 5, ground := Ground.data }], guard := none }) (v := ?_) rfl (by kernel_rfl) (by kernel_rfl) (by kernel_rfl) (fun _ _ _ h => h) (Or.inl ⟨by rfl, ?_⟩) (by assumption) ?_
        rotate_left
        · intro u hSu; (try dsimp only at hSu); (go_simp <;> with_reducible rfl)
        try simp only [Act.put, List.setIfInBounds_toArray, List.set_cons_zero, List.set_cons_succ]
        refine wpAnyH_take (i := 7) (oi := { dst := some 24, op := Op.load 43 (Operand.tmp 23), type := 43, pos := "ref.go:175", after := #[{ on := 6, ground := Ground.data }], guard := none }) (v := .agg (eRf y).toArray) rfl (by kernel_rfl) (by kernel_rfl) (by kernel_rfl) (fun _ _ _ h => h) (yieldsIf_load_mid (by rfl) 43 _ rfl b6 o6 (by rfl) (eRf y) _ (fun u hSu => hSu.2) Tryd.underlying43 rfl (by rw [size43, len_eRf])) (by assumption) ?_
        try simp only [Act.put, List.setIfInBounds_toArray, List.set_cons_zero, List.set_cons_succ]
        refine wpAnyH_take (i := 8) (oi := { dst := some 25, op := Op.binOp BinOp.neq 43 (Operand.tmp 20) (Operand.tmp 24) 43, type := 4, pos := "ref.go:175", after := #[{ on := 3, ground := Ground.data }, { on := 7, ground := Ground.data }], guard := none }) (v := .bool t) rfl (by kernel_rfl) (by kernel_rfl) (by kernel_rfl) (fun _ _ _ h => h) (Or.inl ⟨by rfl, fun u hSu => by rw [← ht]; exact exec_neq43 rfl rfl rfl u⟩) (by assumption) ?_
        try simp only [Act.put, List.setIfInBounds_toArray, List.set_cons_zero, List.set_cons_succ]
        refine wpAnyH_done (by kernel_rfl) ?_ _
        clear hHeld hix hix6 HS
        cases t with
        | false =>
          have hc : x = y := by simpa using ht
          have HT2 : Hid (l1.take (k + 1) = l2.take (k + 1)) := Lib.hid (by rw [List.take_succ_eq_append_getElem hlt, List.take_succ_eq_append_getElem hk2, HT.out, hx.out, hy.out, hc])
          clear hc ht
          go_wp2_with fail
          go_roundw
          case rel => exact ⟨k + 1, by omega, by go_num, HT2, Lib.hid HW.out.drew⟩
          case measure => simp [intOf]; omega
        | true =>
          have hc : ¬ x = y := by simpa using ht
          have HD2 : Hid (decide (l1 = l2) = false) := Lib.hid (decide_eq_false fun e => hc (by rw [← hx.out, ← hy.out]; subst e; rfl))
          clear hc ht
          go_wp2_with fail
          go_ret
          exact ⟨ret_bool HD2.out.symm, HW.out.drew⟩
      · obtain rfl : k = l1.length := by omega
        have d2 : decide ((l1.length : Int) < (l1.length : Int)) = false := decide_eq_false (by omega)
        have HD2 : Hid (decide (l1 = l2) = true) := Lib.hid (decide_eq_true (by
          have h := HT.out
          rw [List.take_length, HL.out, List.take_length] at h
          exact h))
        go_wp2_with fail
        go_ret
        exact ⟨ret_bool HD2.out.symm, HW.out⟩
  · have HD2 : Hid (decide (l1 = l2) = false) := Lib.hid (decide_eq_false fun e => hl (by rw [e]))
    have q : ((l1.length : Int) == (l2.length : Int)) = false := by rw [beq_eq_false_iff_ne]; omega
    have q2 : ¬ (l1.length : Int) = (l2.length : Int) := by omega
    go_enter Tryd.func51, Tryd.ntmps51
    go_wp2_with fail
    go_ret
    exact ⟨ret_bool HD2.out.symm, Below.refl _ _⟩

theorem law9 : Keyed Tryd.prog 9 := string_keyed Tryd.underlying9
theorem key9 {x : List UInt8} (h : x.length ≤ maxLen) : keyOf Tryd.prog 9 (.string (bstr x)) = some (.string x) := by
  have := keyOf_string_mk (P := Tryd.prog) Tryd.underlying9 (s := bstr x) (by rw [bstr_size]; exact h)
  rwa [show (bstr x).data.toList = x by simp [bstr]] at this

theorem chk_full {l : List Go.Sl.Rf} (h : 64 < l.length) : chk l = 5 := by unfold chk; rw [if_pos h]
theorem chk_name {l : List Go.Sl.Rf} (h : ¬ 64 < l.length) {k : Nat} (hk : k < l.length) (hr : rgt l[k].nm = false) : chk l = 15 := by
  unfold chk; rw [if_neg h, if_pos]
  rw [List.all_eq_false]
  exact ⟨l[k], List.getElem_mem hk, by rw [hr]; simp⟩
theorem chk_rest {l : List Go.Sl.Rf} (h : ¬ 64 < l.length) (hr : l.all (fun r => rgt r.nm) = true) : chk l = if ¬ (nms l).Nodup then 17 else if rises l = false then 18 else 0 := by
  unfold chk; rw [if_neg h, if_neg (by rw [hr]; simp)]

/-- what is known of the map of names behind the first k refs -/
def Seen (C : DataW Unit) (l : List Go.Sl.Rf) (k : Nat) : Prop :=
  (∀ x, Maps.has C (.string x) = decide (x ∈ nms (l.take k))) ∧ (∀ x c, C.atKey (.string x) (.lit (.int .i64 0)) = .lit (.int .i64 c) → 0 ≤ c ∧ c ≤ k) ∧ (Maps.size C = k ↔ (nms (l.take k)).Nodup) ∧ Maps.size C ≤ k
theorem Seen.start (l : List Go.Sl.Rf) : Seen (.map []) l 0 := by
  refine ⟨fun x => rfl, fun x c h => ?_, by simp [Maps.size, nms], Nat.le_refl _⟩
  have : (0 : Int) = c := by
    have h2 : (DataW.lit (.int .i64 0) : DataW Unit) = .lit (.int .i64 c) := h
    simpa using h2
  omega
theorem Seen.step {C : DataW Unit} {l : List Go.Sl.Rf} {k : Nat} (h : Seen C l k) (ht : Tidy C) (hk : k < l.length) {x : Go.Sl.Rf} (hx : l[k] = x) {c : Int} (hc : 0 ≤ c ∧ c ≤ k) : Seen (C.put (.string x.nm) (.lit (.int .i64 (c + 1)))) l (k + 1) := by
  obtain ⟨h1, h2, h3, h4⟩ := h
  have hT : nms (l.take (k + 1)) = nms (l.take k) ++ [x.nm] := by rw [List.take_succ_eq_append_getElem hk, hx]; simp [nms]
  have hkl : WideAt.IsKeyLit (.string x.nm) := trivial
  refine ⟨fun y => ?_, fun y d hd => ?_, ?_, ?_⟩
  · rw [hT]
    by_cases e : y = x.nm
    · subst e; rw [has_put_same ht.isMap hkl]; simp
    · rw [has_put_other (by simpa using e), h1 y]; simp [e]
  · by_cases e : y = x.nm
    · subst e
      rw [atKey_put_same ht.isMap hkl] at hd
      have : c + 1 = d := by simpa using hd
      omega
    · rw [atKey_put_other (by simpa using e)] at hd
      have := h2 y d hd
      omega
  · rw [size_put ht, h1, hT, List.nodup_append]
    by_cases e : x.nm ∈ nms (l.take k)
    · rw [if_pos (by simpa using e)]
      constructor
      · intro h; omega
      · rintro ⟨_, _, h⟩; exact absurd rfl (h _ e _ (by simp))
    · rw [if_neg (by simpa using e)]
      constructor
      · intro h
        refine ⟨h3.1 (by omega), by simp, ?_⟩
        intro a ha b hb hab
        have hb' : b = x.nm := by simpa using hb
        subst hab
        rw [hb'] at ha
        exact e ha
      · rintro ⟨h, _, _⟩; have := h3.2 h; omega
  · rw [size_put ht]; split <;> omega
theorem ownsMap_ext {H : Type} {P : Program} {k : TypeId} {R : Value → Option (DataW H × List MemPlace)} {w w' : World} {b n : Nat} {D : DataW H} (h : w.ownsMap P k R b n D) (hb : Below w.heap.size w w') : w'.ownsMap P k R b n D :=
  h.kept (row := none) ⟨hb.os, hb.tape, hb.output, hb.size, fun k hk _ => hb.block k hk⟩ (by simp)
theorem all_step {l : List Go.Sl.Rf} {k : Nat} (hk : k < l.length) (h : (l.take k).all (fun r => rgt r.nm) = true) (hr : rgt l[k].nm = true) : (l.take (k + 1)).all (fun r => rgt r.nm) = true := by
  rw [List.take_succ_eq_append_getElem hk, List.all_append, h]; simp [hr]

set_option maxRecDepth 100000 in
set_option maxHeartbeats 2000000 in
theorem check_any (v : Value) (l : List Go.Sl.Rf) (w : World) (hv : Sl eRf 33 w v l) (hl : ∀ r ∈ l, r.nm.length ≤ 9223372036854775807) (hm : Ml w) :
    Calls Tryd.prog 57 #[v] w fun e w' => e = .returned (.int .i64 (chk l)) ∧ Below w.heap.size w w' := by
  have hlen := hv.run_len (P := Tryd.prog) Tryd.underlying37
  have hmax := hv.len_le
  have HV := Lib.hid hv
  have HL := Lib.hid hl
  have HMl := Lib.hid hm
  by_cases h64 : 64 < l.length
  · have d1 : decide ((64 : Int) < l.length) = true := decide_eq_true (by omega)
    have HC := Lib.hid (chk_full h64)
    clear hv hl hm
    go_enter Tryd.func57, Tryd.ntmps57
    go_wp2_with fail
    go_ret
    exact ⟨ret_int HC.out.symm, Below.refl _ _⟩
  have d1 : decide ((64 : Int) < l.length) = false := decide_eq_false (by omega)
  have H64 := Lib.hid h64
  have hmm := @run_makeMap Tryd.prog
  clear hv hl hm
  go_enter Tryd.func57, Tryd.ntmps57
  go_wp2_with fail
  go_loopw [12] (fun i wr => ∃ (k : Nat) (C : DataW Unit), i = .int .i64 k ∧ k ≤ l.length ∧ Hid (wr.ownsMap Tryd.prog 9 (plainElem Tryd.prog 3) w.heap.size k C) ∧ Hid (Seen C l k) ∧ Hid ((l.take k).all (fun r => rgt r.nm) = true) ∧ Hid (Below w.heap.size w wr)) (fun i _ => l.length - (intOf i).toNat)
  case atStart => exact ⟨0, _, rfl, by omega, Lib.hid (World.ownsMap_made _ _ _ _), Lib.hid (Seen.start l), Lib.hid rfl, Lib.hid ((Below.refl _ _).alloc (Nat.le_refl _) _)⟩
  case round =>
    obtain ⟨wo, rfl⟩ : ∃ u : World, u = wr := ⟨_, rfl⟩
    obtain ⟨k, C, rfl, hk, HM, HC, HA, HW⟩ := hrel
    by_cases hlt : k < l.length
    · have d2 : decide ((k : Int) < (l.length : Int)) = true := decide_eq_true (by omega)
      obtain ⟨b5, o5, hb5, hix, hr⟩ := HV.out.rangeB len_eRf HW.out (P := Tryd.prog) Tryd.underlying37 cells43 some43 hlt
      obtain ⟨x, hx⟩ : ∃ x, Hid (l[k] = x) := ⟨_, Lib.hid rfl⟩
      rw [hx.out] at hr
      have HR := Lib.hid hr
      have hxl : x.nm.length ≤ 9223372036854775807 := HL.out x (by rw [← hx.out]; exact List.getElem_mem hlt)
      have HN : Hid ((wo.alloc (.cells (eRf x).toArray 43)).heap[wo.heap.size]? = some (.cells (eRf x).toArray 43 (0, 0))) := Lib.hid (heap_alloc_new _ _)
      have e0 : (wo.alloc (.cells (eRf x).toArray 43)).cell? ⟨wo.heap.size, 0, none⟩ = some (.string (bstr x.nm)) := range_nm (r := x) (range_of_heap HN.out)
      have HWa : Hid (Below w.heap.size w (wo.alloc (.cells (eRf x).toArray 43))) := Lib.hid (HW.out.alloc HW.out.size _)
      have HMa := Lib.hid (HM.out.alloc (.cells (eRf x).toArray 43))
      have HRt := Lib.hid (right_all x.nm (wo.alloc (.cells (eRf x).toArray 43)) hxl (HMl.out.ext HWa.out))
      have hsz : (wo.alloc (.cells (eRf x).toArray 43)).heap.size = wo.heap.size + 1 := by simp
      clear hr
      go_wp2_with (first
          | refine ld43 rfl _ rfl _ _ rfl x HR.out ?_
          | refine new43 rfl rfl rfl _ _ rfl rfl x rfl rfl ?_)
      refine HRt.out.mono ?_
      rintro e w2 ⟨rfl, hb⟩
      have HB2 := Lib.hid hb
      have HW2 := Lib.hid (bthen HWa.out hb)
      have e1 : w2.cell? ⟨wo.heap.size, 0, none⟩ = some (.string (bstr x.nm)) := (hb.cell (p := ⟨wo.heap.size, 0, none⟩) (by rw [hsz]; exact Nat.lt_succ_self _)).trans e0
      have HM2 := Lib.hid (ownsMap_ext HMa.out hb)
      clear hb e0 hix HRt
      cases hr : rgt x.nm with
      | false =>
        have HZ : Hid (chk l = 15) := Lib.hid (chk_name H64.out hlt (by rw [hx.out]; exact hr))
        clear hr
        go_wp2_with fail
        go_ret
        exact ⟨ret_int HZ.out.symm, HW2.out⟩
      | true =>
        have HA2 : Hid ((l.take (k + 1)).all (fun r => rgt r.nm) = true) := Lib.hid (all_step hlt HA.out (by rw [hx.out]; exact hr))
        have hkey := key9 (x := x.nm) (by unfold maxLen; exact hxl)
        obtain ⟨c, hrun, hat, -⟩ := HM2.out.lookup_int law9 Tryd.underlying92 Tryd.underlying3 (Tryd.zeroValue3 _) hkey
        have hcb := HC.out.2.1 _ _ hat
        have HT := Lib.hid (HM2.out.tidy law9)
        have hwf : (Lit.int .i64 (c + 1)).wf = true := by
          simp only [Lit.wf, Bool.and_eq_true, decide_eq_true_eq]
          exact ⟨by show (-9223372036854775808 : Int) ≤ _; omega, by show _ ≤ (9223372036854775807 : Int); omega⟩
        have HP := Lib.hid hwf
        have HS2 := Lib.hid (HC.out.step HT.out hlt hx.out hcb)
        clear hat hr hwf
        go_wp2_with (at_mapUpdate; refine wpList_mapUpdate_own _ rfl _ _ _ 92 rfl 9 3 law9 Tryd.underlying92 _ w.heap.size k C rfl HM2.out (by unfold maxLen; omega) _ _ _ rfl rfl hkey _ [] (plainElem_int Tryd.underlying3 HP.out) ?_; intro w3 hown1 hgrow1; have HM3 := Lib.hid hown1; have HW3 := Lib.hid (HW2.out.grown hgrow1 HW2.out.size (fun j hj => by cases hj; exact Nat.le_refl _)); clear hown1 hgrow1)
        go_roundw
        case rel => exact ⟨k + 1, _, by go_num, by omega, HM3, HS2, HA2, HW3⟩
        case measure => simp [intOf]; omega
    · obtain rfl : k = l.length := by omega
      have d2 : decide ((l.length : Int) < (l.length : Int)) = false := decide_eq_false (by omega)
      obtain ⟨m, hm⟩ : ∃ m, Hid (Maps.size C = m) := ⟨_, Lib.hid rfl⟩
      have HRest : Hid (chk l = if ¬ (nms l).Nodup then 17 else if rises l = false then 18 else 0) := Lib.hid (chk_rest H64.out (by have := HA.out; rwa [List.take_length] at this))
      have HND : Hid ((m = l.length ↔ (nms l).Nodup) ∧ m ≤ l.length) := Lib.hid (by
        obtain ⟨_, _, h3, h4⟩ := HC.out
        rw [List.take_length, hm.out] at h3
        exact ⟨h3, by rw [← hm.out]; exact h4⟩)
      have hml := HND.out.2
      clear HC HA
      by_cases hn : m < l.length
      · have d3 : decide ((m : Int) < (l.length : Int)) = true := decide_eq_true (by omega)
        have HZ : Hid (chk l = 17) := Lib.hid (by rw [HRest.out, if_pos (fun h => by have := HND.out.1.2 h; omega)])
        go_wp2_with (at_len; refine wpList_len_own _ rfl _ 92 rfl 9 3 Tryd.underlying92 _ w.heap.size _ _ rfl HM.out ?_; rw [hm.out])
        go_ret
        exact ⟨ret_int HZ.out.symm, HW.out⟩
      · have d3 : decide ((m : Int) < (l.length : Int)) = false := decide_eq_false (by omega)
        have HNd : Hid ((nms l).Nodup) := Lib.hid (HND.out.1.1 (by omega))
        have HSd := Lib.hid (sorted_any v l wo (HV.out.ext HW.out))
        have HZ : Hid (chk l = if down l = false then 18 else 0) := Lib.hid (by rw [HRest.out, if_neg (by rw [Classical.not_not]; exact HNd.out), down_rises HNd.out])
        go_wp2_with (at_len; refine wpList_len_own _ rfl _ 92 rfl 9 3 Tryd.underlying92 _ w.heap.size _ _ rfl HM.out ?_; rw [hm.out])
        refine HSd.out.mono ?_
        rintro e w5 ⟨rfl, hb⟩
        have HW5 := Lib.hid (bthen HW.out hb)
        clear hb HSd
        cases hd : down l with
        | true =>
          have HZ2 : Hid (chk l = 0) := Lib.hid (by rw [HZ.out, hd]; simp)
          clear hd HZ
          go_wp2_with fail
          go_ret
          exact ⟨ret_int HZ2.out.symm, HW5.out⟩
        | false =>
          have HZ2 : Hid (chk l = 18) := Lib.hid (by rw [HZ.out, hd]; simp)
          clear hd HZ
          go_wp2_with fail
          go_ret
          exact ⟨ret_int HZ2.out.symm, HW5.out⟩
end Go.Proofs.YtopamnfelngkcaaDoor.Rf
