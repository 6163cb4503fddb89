/-
  Layer 20: Fit: the lines are counted, up to a bound. No condition besides what the argument is.
-/
import Derived.Test.YtibebmdpjaknpaaW2
namespace Go.Proofs.Ytibebmdpjaknpaa
open Go.Proofs Go.RowKit Go.Shelf Go.Sl
set_option linter.unusedVariables false

attribute [local go_sem] Oper.semAt_some

/-- what stands between two rounds of Fit -/
def IF (w : World) (Br Bn Bs : Nat) (pre : List (List UInt8)) (W : World) : Prop :=
  W.heap[Br]? = some (.cells #[.int .i64 0] 33 (0, 0)) ∧ W.heap[Bn]? = some (.cells #[.int .i64 (pre.length : Nat)] 3 (0, 0)) ∧ pre.length ≤ 400 ∧ Below w.heap.size w W
def IFx (w : World) (Br Bn Bs : Nat) (c : Code) (pre : List (List UInt8)) (W : World) : Prop :=
  c = .ret ∧ W.heap[Br]? = some (.cells #[.int .i64 3] 33 (0, 0)) ∧ 400 < pre.length ∧ Below w.heap.size w W
theorem IF.from {w : World} {Br Bn Bs B : Nat} (hB : w.heap.size ≤ B) : OwnFrom B (IF w Br Bn Bs) := by
  rintro pre W W' row ⟨h1, h2, h3, h4⟩ hg hr
  exact ⟨cells_nc h1 hg (fun r e => (hr r e).2), cells_nc h2 hg (fun r e => (hr r e).2), h3, h4.grown hg h4.size (fun r e => Nat.le_trans hB (hr r e).1)⟩
theorem IFx.from {w : World} {Br Bn Bs B : Nat} (hB : w.heap.size ≤ B) (c : Code) : OwnFrom B (IFx w Br Bn Bs c) := by
  rintro pre W W' row ⟨h1, h2, h3, h4⟩ hg hr
  exact ⟨h1, cells_nc h2 hg (fun r e => (hr r e).2), h3, h4.grown hg h4.size (fun r e => Nat.le_trans hB (hr r e).1)⟩
theorem IF.step {w : World} {Br Bn Bs : Nat} (h1 : Br ≠ Bs) (h2 : Bn ≠ Bs) (hs : w.heap.size ≤ Bs) : ∀ pre A B, IF w Br Bn Bs pre A → TL Bs A B → IF w Br Bn Bs pre B := by
  rintro pre A B ⟨h3, h4, h5, h6⟩ ⟨v, c, hc, rfl⟩
  exact ⟨heap_set_keep h3 h1, heap_set_keep h4 h2, h5, h6.setCell (p := ⟨Bs, 0, none⟩) hs _⟩
theorem IFx.step {w : World} {Br Bn Bs : Nat} (h1 : Br ≠ Bs) (hs : w.heap.size ≤ Bs) : ∀ c pre A B, IFx w Br Bn Bs c pre A → TL Bs A B → IFx w Br Bn Bs c pre B := by
  rintro c pre A B ⟨h3, h4, h5, h6⟩ ⟨v, c', hc, rfl⟩
  exact ⟨h3, heap_set_keep h4 h1, h5, h6.setCell (p := ⟨Bs, 0, none⟩) hs _⟩

/-- whether a text fits -/
def fitN (L : List UInt8) : Int := if (Line.lines L).length ≤ 400 then 0 else 3

set_option maxRecDepth 100000 in
set_option maxHeartbeats 2000000 in
theorem fit_any (v : Value) (L : List UInt8) (w : World) (hv : Sl eByte 1 w v L) :
    Calls Try.prog 13 #[v] w fun e w' => e = .returned (.int .i64 (fitN L)) ∧ Below w.heap.size w w' := by
  obtain ⟨a, n, c, rfl⟩ := hv.isSlice
  refine (callsIn_wide (n := 6)).1 ?_
  refine callsIn_of_wp_marks Try.func13 rfl trivial ?_ rfl
  simp only [Try.ntmps13, List.size_toArray, List.length_cons, List.length_nil, Nat.reduceAdd, Nat.reduceSub, Array.replicate_succ, Array.replicate_zero, List.push_toArray, List.append_toArray, List.nil_append, List.cons_append]
  gi_wp2_with (refine ⟨trivial, ?_⟩; gi_at_call 21; refine (lines21 5 _ _ _ _).mono ?_; rintro e w2 ⟨rfl, rfl⟩)
  obtain ⟨W0, hW0⟩ : ∃ W0, (((w.alloc (.cells #[.int .i64 0] 33)).alloc (.cells #[.int .i64 0] 3)).alloc (.cells #[.slice a n c] 31)) = W0 := ⟨_, rfl⟩
  have hb0 : Below w.heap.size w W0 := by rw [← hW0]; exact (((Below.refl _ w).alloc (Nat.le_refl _) _).alloc (by simp) _).alloc (by simp; omega) _
  have hsz : W0.heap.size = w.heap.size + 3 := by rw [← hW0]; simp
  have hbs : W0.heap[w.heap.size + 2]? = some (.cells #[.slice a n c] 31 (0, 0)) := by rw [← hW0]; exact heap3_2 _ _ _ _
  have hbn : W0.heap[w.heap.size + 1]? = some (.cells #[.int .i64 0] 3 (0, 0)) := by rw [← hW0]; exact heap3_1 _ _ _ _
  have hbr : W0.heap[w.heap.size]? = some (.cells #[.int .i64 0] 33 (0, 0)) := by rw [← hW0]; exact heap3_0 _ _ _ _
  have HI0 : Hid (IF w w.heap.size (w.heap.size + 1) (w.heap.size + 2) [] W0) := Lib.hid ⟨hbr, hbn, by simp, hb0⟩
  have hseq := lines_seq 5 (by omega) (w.heap.size + 2) w.heap.size L w W0 (Nat.le_refl _) (by omega) (.slice a n c) hv hb0 hbs
  rw [hW0, show w.heap.size + 1 + 1 = w.heap.size + 2 from rfl]
  refine wpIn_range_T rfl (by omega) (gf := 24) (lb := #[.pointer (some ⟨w.heap.size + 2, 0, none⟩)]) rfl trivial (enters_of Try.func24 (by kernel_rfl) rfl) hseq (fun A B h => tL_keeps A B h) (fun h k => kpL_t h k) (kpL_b (by omega)) (Below.refl _ _) (fun _ => rfl)
    (IF w w.heap.size (w.heap.size + 1) (w.heap.size + 2)) (IFx w w.heap.size (w.heap.size + 1) (w.heap.size + 2)) (IF.from (by omega)) (IFx.from (by omega)) (IF.step (by omega) (by omega) (by omega)) (IFx.step (by omega) (by omega)) HI0.out
    (fun x => { tmps := #[.slice a n c, undef, .pointer (some ⟨w.heap.size, 0, none⟩), .pointer (some ⟨w.heap.size + 1, 0, none⟩), .slice a n c, .func (.func 24) #[] #[.pointer (some ⟨w.heap.size + 2, 0, none⟩)], .string (bstr x), undef, undef, undef, undef], defers := [] }) ?assign ?body ?done ?stop
  case assign =>
    intro l x W K hK
    simp only [encL]
    gi_wp2
    simpa using hK
  case body =>
    rintro l pre x W ⟨h1, h2, h3, h4⟩ hlt
    obtain ⟨b1, c1, f1⟩ := one_cells h1
    obtain ⟨b2, c2, f2⟩ := one_cells h2
    have HW := Lib.hid h4
    have h22 := one_set (x := .int .i64 ((pre.length : Int) + 1)) h2
    have h12 := heap_set_keep (a := ⟨w.heap.size + 1, 0, none⟩) (v := .int .i64 ((pre.length : Int) + 1)) h1 (by show w.heap.size ≠ w.heap.size + 1; omega)
    have HA : Hid (KeepsFrom W0.heap.size W (W.setCell ⟨w.heap.size + 1, 0, none⟩ (.int .i64 ((pre.length : Int) + 1))) ∧ KpL w.heap.size (w.heap.size + 2) W (W.setCell ⟨w.heap.size + 1, 0, none⟩ (.int .i64 ((pre.length : Int) + 1)))) := Lib.hid
      ⟨(KeepsOthers.setCell _ _ _).from _, (Below.refl _ W).setCell (p := ⟨w.heap.size + 1, 0, none⟩) (by show w.heap.size ≤ w.heap.size + 1; omega) _, fun c hc => heap_set_keep (a := ⟨w.heap.size + 1, 0, none⟩) hc (by show w.heap.size + 2 ≠ w.heap.size + 1; omega)⟩
    have HB := Lib.hid (h4.setCell (p := ⟨w.heap.size + 1, 0, none⟩) (by show w.heap.size ≤ w.heap.size + 1; omega) (.int .i64 ((pre.length : Int) + 1)))
    have H12 := Lib.hid h12
    have H22 := Lib.hid h22
    have hl1 : (pre ++ [x]).length = pre.length + 1 := by simp
    have HL1 := Lib.hid hl1
    have hbr2 := (Array.getElem?_eq_some_iff.1 h12).1
    clear h1 h2 h4 h22 h12 hl1
    by_cases hq : 400 < pre.length + 1
    · have hd : decide ((400 : Int) < (pre.length : Int) + 1) = true := decide_eq_true (by omega)
      obtain ⟨b5, c5, f5⟩ := one_cells H12.out
      gi_wp2
      exact ⟨HA.out.1.trans ((KeepsOthers.setCell _ _ _).from _), rfl, one_set H12.out, by rw [HL1.out]; exact hq, HB.out.setCell (p := ⟨w.heap.size, 0, none⟩) (Nat.le_refl _) _⟩
    · have hd : decide ((400 : Int) < (pre.length : Int) + 1) = false := decide_eq_false (by omega)
      gi_wp2
      exact ⟨HA.out.1, HA.out.2, H12.out, by rw [HL1.out]; exact H22.out, by rw [HL1.out]; omega, HB.out⟩
  case done =>
    rintro D ys W hD rfl ⟨h1, h2, h3, h4⟩ hK
    obtain ⟨b1, c1, f1⟩ := one_cells h1
    have h5 := one_set (x := .int .i64 0) h1
    have hk2 := (KeepsOthers.setCell W ⟨w.heap.size, 0, none⟩ (.int .i64 0)).same _ _ hK rfl
    have h6 := cells_nc h5 (grownBy_putObj' _ D (.deferred none)) (fun r e => by cases e; exact ⟨_, hk2, rfl⟩)
    have HB := Lib.hid ((h4.setCell (p := ⟨w.heap.size, 0, none⟩) (Nat.le_refl _) (.int .i64 0)).grown (grownBy_putObj' _ D (.deferred none)) (h4.setCell (p := ⟨w.heap.size, 0, none⟩) (Nat.le_refl _) (.int .i64 0)).size (fun r e => by cases e; omega))
    have H6 := Lib.hid (one_cells h6).2.1
    have HK := Lib.hid hk2
    clear h1 h2 h4 h5 h6 hk2 hK
    gi_wp2
    refine ⟨by simp, .inl ⟨_, _, rfl, run_takeDeferred HK.out, ?_⟩⟩
    refine ⟨.int .i64 0, ?_, by unfold fitN; rw [if_pos h3], HB.out⟩
    have hc5 := H6.out
    simp [results, Try.f13, go_sem, hc5]
  case stop =>
    rintro D c pre W hD hpre ⟨rfl, h1, h2, h3⟩ hK
    have h6 := cells_nc h1 (grownBy_putObj' _ D (.deferred none)) (fun r e => by cases e; exact ⟨_, hK, rfl⟩)
    gi_wp2
    refine ⟨by simp, .inl ⟨_, _, rfl, run_takeDeferred hK, ?_⟩⟩
    have hc5 := (one_cells h6).2.1
    refine ⟨.int .i64 3, ?_, by unfold fitN; rw [if_neg (by have := hpre.length_le; omega)], h3.grown (grownBy_putObj' _ D (.deferred none)) h3.size (fun r e => by cases e; omega)⟩
    simp [results, Try.f13, go_sem, hc5]
end Go.Proofs.Ytibebmdpjaknpaa
