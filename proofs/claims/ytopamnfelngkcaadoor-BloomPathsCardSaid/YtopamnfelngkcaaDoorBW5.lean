/-
  Layer 16: Has. No condition besides what the arguments are.
-/
import Derived.Test.YtopamnfelngkcaaDoorBW4
import Derived.Test.YtopamnfelngkcaaDoorBP2
import Derived.Test.YtopamnfelngkcaaDoorRow
import Derived.Test.YtopamnfelngkcaaDoorSub
namespace Go.Proofs.YtopamnfelngkcaaDoor.Bm
open Go.Proofs Go.RowKit Go.Shelf Go.Sl Go.Bl
set_option linter.unusedVariables false

attribute [local go_sem] Oper.semAt_some

/-- may a filter have a key? -/
def hasF (f l : List UInt8) : Bool := f.isEmpty || (List.range 7).all (fun i => bitF f (plc l (8 * f.length) i))

theorem hasF_plcs {f l : List UInt8} (h : 0 < 8 * f.length) (hne : f ≠ []) : hasF f l = (plcs l (8 * f.length) h).all (fun p => bitF f p.1) := by
  unfold hasF plcs
  rw [List.isEmpty_eq_false_iff.2 hne, Bool.false_or, List.all_map]
  rfl
/-- what stands between two rounds of Has -/
def IH (w : World) (fv : Value) (f : List UInt8) (many : Nat) (pre : List (Pl many)) (W : World) : Prop :=
  W.heap[w.heap.size]? = some (.cells #[fv] 34 (0, 0)) ∧ W.heap[w.heap.size + 1]? = some (.cells #[.bool false] 4 (0, 0)) ∧ (∀ p ∈ pre, bitF f p.1 = true) ∧ Below w.heap.size w W
def IHx (w : World) (fv : Value) (f : List UInt8) (many : Nat) (c : Code) (pre : List (Pl many)) (W : World) : Prop :=
  c = .ret ∧ W.heap[w.heap.size + 1]? = some (.cells #[.bool false] 4 (0, 0)) ∧ (∃ p ∈ pre, bitF f p.1 = false) ∧ Below w.heap.size w W
theorem IH.from {w : World} {fv : Value} {f : List UInt8} {many B : Nat} (hB : w.heap.size ≤ B) : OwnFrom B (IH w fv f many) := by
  rintro pre W W' row ⟨h1, h2, h3, h4⟩ hg hr
  exact ⟨cells_nc h1 hg (fun r e => (hr r e).2), cells_nc h2 hg (fun r e => (hr r e).2), h3, h4.grown hg h4.size (fun r e => Nat.le_trans hB (hr r e).1)⟩
theorem IHx.from {w : World} {fv : Value} {f : List UInt8} {many B : Nat} (hB : w.heap.size ≤ B) (c : Code) : OwnFrom B (IHx w fv f many c) := by
  rintro pre W W' row ⟨h1, h2, h3, h4⟩ hg hr
  exact ⟨h1, cells_nc h2 hg (fun r e => (hr r e).2), h3, h4.grown hg h4.size (fun r e => Nat.le_trans hB (hr r e).1)⟩
theorem IH.step {w : World} {fv : Value} {f : List UInt8} {many : Nat} : ∀ pre A B, IH w fv f many pre A → Dn A B → IH w fv f many pre B := by
  rintro pre A B ⟨h1, h2, h3, h4⟩ hd
  exact ⟨by rw [hd.heap]; exact h1, by rw [hd.heap]; exact h2, h3, h4.trans hd.below⟩
theorem IHx.step {w : World} {fv : Value} {f : List UInt8} {many : Nat} : ∀ c pre A B, IHx w fv f many c pre A → Dn A B → IHx w fv f many c pre B := by
  rintro c pre A B ⟨h1, h2, h3, h4⟩ hd
  exact ⟨h1, by rw [hd.heap]; exact h2, h3, h4.trans hd.below⟩
theorem cells5 : Tryd.prog.cellsOf 5 = 1 := by kernel_rfl
theorem some5 : (Tryd.prog.info? 5).isSome = true := by kernel_rfl

set_option maxRecDepth 100000 in
set_option maxHeartbeats 2000000 in
theorem has_any (v : Value) (f l : List UInt8) (w : World) (hv : Sl eByte 1 w v f) (hf : f.length ≤ 1000) (hl : l.length ≤ 100000) :
    Calls Tryd.prog 45 #[v, .string (bstr l)] w fun e w' => e = .returned (.bool (hasF f l)) ∧ Below w.heap.size w w' := by
  obtain ⟨fa, fn, fc, rfl⟩ := hv.isSlice
  have hlen := hv.run_len (P := Tryd.prog) Tryd.underlying34
  by_cases h0 : f = []
  · subst h0
    have HE : Hid (hasF [] l = true) := Lib.hid rfl
    go_enter Tryd.func45, Tryd.ntmps45
    go_wp2_with fail
    have hc5 := (one_cells (heap_new_at (w := w.alloc (.cells #[.slice fa fn fc] 34)) (o := .cells #[.bool true] 4) (n := w.heap.size + 1) (by simp))).2.1
    refine bodyPost_ret (v := .bool true) ?_ rfl ⟨by rw [HE.out], ((Below.refl _ _).alloc (Nat.le_refl _) _).alloc (by simp) _⟩
    simp [results, Tryd.f45, go_sem, hc5]
  · have hpos : 0 < f.length := List.length_pos_iff.2 h0
    refine (callsIn_wide (n := 6)).1 ?_
    refine callsIn_of_wp_marks Tryd.func45 rfl trivial ?_ rfl
    simp only [Tryd.ntmps45, List.size_toArray, List.length_cons, List.length_nil, Nat.reduceAdd, Nat.reduceSub, Array.replicate_succ, Array.replicate_zero, List.push_toArray, List.append_toArray, List.nil_append, List.cons_append]
    gi_wp2_with (refine ⟨trivial, ?_⟩; gi_at_call 77; refine (places25 5 _ _ _).mono ?_; rintro e w2 ⟨rfl, rfl⟩)
    obtain ⟨W0, hW0⟩ : ∃ W0, ((((w.alloc (.cells #[.slice fa fn fc] 34)).alloc (.cells #[.bool false] 4)).alloc (.cells #[.string (bstr l)] 9)).alloc (.cells #[.int .i64 (8 * (f.length : Int))] 3)) = W0 := ⟨_, rfl⟩
    have hb0 : Below w.heap.size w W0 := by rw [← hW0]; exact ((((Below.refl _ w).alloc (Nat.le_refl _) _).alloc (by simp) _).alloc (by simp; omega) _).alloc (by simp; omega) _
    have hsz : W0.heap.size = w.heap.size + 4 := by rw [← hW0]; simp
    have hkb : W0.heap[w.heap.size + 2]? = some (.cells #[.string (bstr l)] 9 (0, 0)) := by rw [← hW0]; exact heap_keep (heap_new_at (by simp))
    have hmb : W0.heap[w.heap.size + 3]? = some (.cells #[.int .i64 ((8 * f.length : Nat) : Int)] 3 (0, 0)) := by rw [← hW0, show ((8 * f.length : Nat) : Int) = 8 * (f.length : Int) by omega]; exact heap_new_at (by simp)
    have hfb : W0.heap[w.heap.size]? = some (.cells #[.slice fa fn fc] 34 (0, 0)) := by rw [← hW0]; exact heap_keep (heap_keep (heap_keep (heap_new_at rfl)))
    have hrb : W0.heap[w.heap.size + 1]? = some (.cells #[.bool false] 4 (0, 0)) := by rw [← hW0]; exact heap_keep (heap_keep (heap_new_at (by simp)))
    have HI0 : Hid (IH w (.slice fa fn fc) f (8 * f.length) [] W0) := Lib.hid ⟨hfb, hrb, by simp, hb0⟩
    have hseq := places_seq 5 (by omega) (w.heap.size + 2) (w.heap.size + 3) w.heap.size l hl (8 * f.length) (by omega) (by omega) W0 hkb hmb
    rw [hW0, show w.heap.size + 1 + 1 = w.heap.size + 2 from rfl, show w.heap.size + 2 + 1 = w.heap.size + 3 from rfl]
    refine wpIn_range_T rfl (by omega) (gf := 102) (lb := #[.pointer (some ⟨w.heap.size + 2, 0, none⟩), .pointer (some ⟨w.heap.size + 3, 0, none⟩)]) rfl trivial (enters_of Tryd.func102 (by kernel_rfl) rfl) hseq (fun A B h => dn_keeps A B h) (fun h k => kpP_t h k) (kpP_b (by omega)) (Below.refl _ _) (fun _ => rfl)
      (IH w (.slice fa fn fc) f (8 * f.length)) (IHx w (.slice fa fn fc) f (8 * f.length)) (IH.from (by omega)) (IHx.from (by omega)) IH.step IHx.step HI0.out
      (fun x => { tmps := #[.slice fa fn fc, .string (bstr l), .pointer (some ⟨w.heap.size, 0, none⟩), undef, .pointer (some ⟨w.heap.size + 1, 0, none⟩), .int .i64 (x.1 : Int), .slice fa fn fc, .int .i64 (f.length : Int), .bool false, .string (bstr l), .slice fa fn fc, .int .i64 (f.length : Int), .int .i64 (8 * (f.length : Int)), .func (.func 102) #[] #[.pointer (some ⟨w.heap.size + 2, 0, none⟩), .pointer (some ⟨w.heap.size + 3, 0, none⟩)], .int .i64 (x.1 : Int), undef, undef, undef, undef, undef, undef, undef, undef, undef, undef, undef], defers := [] }) ?assign ?body ?done ?stop
    case assign =>
      intro lp x W K hK
      simp only [encN]
      gi_wp2
      exact hK
    case body =>
      rintro lp pre ⟨x, hx⟩ W ⟨h1, h2, h3, h4⟩ hlt
      obtain ⟨b1, c1, f1⟩ := one_cells h1
      obtain ⟨b2, c2, f2⟩ := one_cells h2
      have hx8 : x / 8 < f.length := by omega
      obtain ⟨b5, o5, hb5, hix, hcell⟩ := hv.atB h4 (P := Tryd.prog) Tryd.underlying34 cells5 some5 hx8
      have e1 := hcell 0 (by omega)
      simp only [eByte, List.getElem?_cons_zero, Nat.add_zero] at e1
      obtain ⟨cb, hcb⟩ : ∃ cb, f[x / 8] = cb := ⟨_, rfl⟩
      rw [hcb] at e1
      have hbit := bit8 cb (x % 8)
      have hbf : bitF f x = bitN cb (x % 8) := by unfold bitF; rw [List.getD_eq_getElem?_getD, List.getElem?_eq_getElem hx8, hcb]; rfl
      rw [show ((x / 8 : Nat) : Int) = (x : Int) / 8 by omega] at hix
      have H1 := Lib.hid h1
      have H2 := Lib.hid h2
      have H3 := Lib.hid h3
      have HB := Lib.hid h4
      clear h1 h2 h3 h4 hcell hcb
      cases hbb : bitN cb (x % 8) with
      | true =>
        rw [hbb] at hbit hbf
        rw [if_pos rfl] at hbit
        have HF := Lib.hid hbf
        clear hbf hbb
        gi_wp2
        exact ⟨KeepsFrom.refl _ _, ⟨Below.refl _ _, fun c hc => hc, fun c hc => hc⟩, H1.out, H2.out, fun p hp => by
          rcases List.mem_append.1 hp with hp | hp
          · exact H3.out p hp
          · rw [List.mem_singleton] at hp; subst hp; exact HF.out, HB.out⟩
      | false =>
        rw [hbb] at hbit hbf
        rw [if_neg (by simp)] at hbit
        have HF := Lib.hid hbf
        clear hbf hbb
        gi_wp2
        exact ⟨(KeepsOthers.setCell _ _ _).from _, rfl, one_set H2.out, ⟨⟨x, hx⟩, by simp, HF.out⟩, HB.out.setCell (p := ⟨w.heap.size + 1, 0, none⟩) (by show w.heap.size ≤ w.heap.size + 1; omega) _⟩
    case done =>
      rintro D ys W hD rfl ⟨h1, h2, h3, h4⟩ hK
      obtain ⟨b1, c1, f1⟩ := one_cells h2
      have h5 := one_set (x := .bool true) h2
      have hk2 := (KeepsOthers.setCell W ⟨w.heap.size + 1, 0, none⟩ (.bool true)).same _ _ hK rfl
      have h6 := cells_nc h5 (grownBy_putObj' _ D (.deferred none)) (fun r e => by cases e; exact ⟨_, hk2, rfl⟩)
      have hb5 := h4.setCell (p := ⟨w.heap.size + 1, 0, none⟩) (by show w.heap.size ≤ w.heap.size + 1; omega) (.bool true)
      have HB := Lib.hid (hb5.grown (grownBy_putObj' _ D (.deferred none)) hb5.size (fun r e => by cases e; omega))
      have H6 := Lib.hid (one_cells h6).2.1
      have HK := Lib.hid hk2
      have HE : Hid (hasF f l = true) := Lib.hid (by
        rw [hasF_plcs (by omega) h0, List.all_eq_true]; exact h3)
      clear h1 h2 h3 h4 h5 h6 hk2 hK hb5
      gi_wp2
      refine ⟨by simp, .inl ⟨_, _, rfl, run_takeDeferred HK.out, ?_⟩⟩
      refine ⟨.bool true, ?_, by rw [HE.out], HB.out⟩
      have hc5 := H6.out
      simp [results, Tryd.f45, go_sem, hc5]
    case stop =>
      rintro D c pre W hD hpre ⟨rfl, h1, ⟨p, hp1, hp2⟩, h3⟩ hK
      have h6 := cells_nc h1 (grownBy_putObj' _ D (.deferred none)) (fun r e => by cases e; exact ⟨_, hK, rfl⟩)
      have HE : Hid (hasF f l = false) := Lib.hid (by
        rw [hasF_plcs (by omega) h0, List.all_eq_false]
        exact ⟨p, hpre.subset hp1, by rw [hp2]; simp⟩)
      gi_wp2
      refine ⟨by simp, .inl ⟨_, _, rfl, run_takeDeferred hK, ?_⟩⟩
      have hc5 := (one_cells h6).2.1
      refine ⟨.bool false, ?_, by rw [HE.out], h3.grown (grownBy_putObj' _ D (.deferred none)) h3.size (fun r e => by cases e; omega)⟩
      simp [results, Tryd.f45, go_sem, hc5]
end Go.Proofs.YtopamnfelngkcaaDoor.Bm
