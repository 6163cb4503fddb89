/-
  Walks of layer 21: Edits, the program's. No condition but that texts are short.
-/
import Derived.Test.YtdlmdjhnigbfpaaE5
import Derived.Test.YtdlmdjhnigbfpaaW10
namespace Go.Proofs.Ytdlmdjhnigbfpaa
open Go.RowKit Go.Sl Go.Scr

/-- edits' lines -/
structure Ins (w : World) (es : List (Int × SlV × SlV)) (xs : List (Ed ByteArray)) : Prop where
  len : es.length = xs.length
  inner : ∀ k (h : k < es.length) (h' : k < xs.length), es[k].1 = xs[k].1 ∧ Sl eStr 1 w es[k].2.1.val xs[k].2.1 ∧ Sl eStr 1 w es[k].2.2.val xs[k].2.2
theorem Ins.nil (w : World) : Ins w [] [] := ⟨rfl, fun k h => by simp at h⟩
theorem Ins.ext {w w' : World} {es : List (Int × SlV × SlV)} {xs : List (Ed ByteArray)} (h : Ins w es xs) (hb : Below w.heap.size w w') : Ins w' es xs :=
  ⟨h.len, fun k h1 h2 => ⟨(h.inner k h1 h2).1, (h.inner k h1 h2).2.1.ext hb, (h.inner k h1 h2).2.2.ext hb⟩⟩
theorem Ins.snoc {w : World} {es : List (Int × SlV × SlV)} {xs : List (Ed ByteArray)} (h : Ins w es xs) {e : Int × SlV × SlV} {x : Ed ByteArray} (h0 : e.1 = x.1) (h1 : Sl eStr 1 w e.2.1.val x.2.1) (h2 : Sl eStr 1 w e.2.2.val x.2.2) : Ins w (es ++ [e]) (xs ++ [x]) := by
  refine ⟨by simp [h.len], fun k g1 g2 => ?_⟩
  have hl := h.len
  by_cases hk : k < es.length
  · rw [List.getElem_append_left hk, List.getElem_append_left (by omega)]
    exact h.inner k hk (by omega)
  · have : k = es.length := by simp at g1; omega
    subst this
    simp only [List.getElem_concat_length, hl]
    exact ⟨h0, h1, h2⟩
theorem Ins.eds {w : World} {v : Value} {es : List (Int × SlV × SlV)} {xs : List (Ed ByteArray)} (h : Ins w es xs) (ho : Sl eEd 3 w v es) (hw : ∀ x ∈ xs, x.1 ≤ 9223372036854775807) : Eds w v es xs :=
  ⟨ho, h.len, hw, h.inner⟩

/-- own elements of two types lie apart -/
theorem own_apart {α β : Type} {en : α → List Value} {en' : β → List Value} {s s' base base' : Nat} {e e' : TypeId} {w : World} {v v' : Value} {l : List α} {l' : List β} (h : Own en s base e w v l) (h' : Own en' s' base' e' w v' l') (he : e ≠ e') : v.ownBlock = none ∨ v.ownBlock ≠ v'.ownBlock := by
  cases hv : v.ownBlock with
  | none => exact .inl rfl
  | some g =>
    refine .inr fun hh => ?_
    rcases h.2 with ⟨rfl, _⟩ | ⟨g', cap, cur, rfl, _, hg', _⟩
    · cases hv
    · exact h'.ne_elem hg' he (by rw [← hh]; exact hv.symm)

/-- edits whose lines are the call's own -/
structure InsO (base : Nat) (w : World) (es : List (Int × SlV × SlV)) (xs : List (Ed ByteArray)) : Prop where
  len : es.length = xs.length
  inner : ∀ k (h : k < es.length) (h' : k < xs.length), es[k].1 = xs[k].1 ∧ Own eStr 1 base 9 w es[k].2.1.val xs[k].2.1 ∧ Own eStr 1 base 9 w es[k].2.2.val xs[k].2.2
section
variable {base : Nat} {w w' : World} {es : List (Int × SlV × SlV)} {xs : List (Ed ByteArray)}
theorem InsO.nil (base : Nat) (w : World) : InsO base w [] [] := ⟨rfl, fun k h => by simp at h⟩
theorem InsO.ext (h : InsO base w es xs) (hb : Below w.heap.size w w') : InsO base w' es xs :=
  ⟨h.len, fun k h1 h2 => ⟨(h.inner k h1 h2).1, (h.inner k h1 h2).2.1.ext hb, (h.inner k h1 h2).2.2.ext hb⟩⟩
theorem InsO.grown (h : InsO base w es xs) {β : Type} {en' : β → List Value} {s' base' : Nat} {e' : TypeId} {v' : Value} {l' : List β} (h' : Own en' s' base' e' w v' l') (he : 9 ≠ e') (hg : w.grownBy w' v'.ownBlock) : InsO base w' es xs :=
  ⟨h.len, fun k h1 h2 => ⟨(h.inner k h1 h2).1, (h.inner k h1 h2).2.1.kept hg (own_apart (h.inner k h1 h2).2.1 h' he), (h.inner k h1 h2).2.2.kept hg (own_apart (h.inner k h1 h2).2.2 h' he)⟩⟩
theorem InsO.snoc (h : InsO base w es xs) {e : Int × SlV × SlV} {x : Ed ByteArray} (h0 : e.1 = x.1) (h1 : Own eStr 1 base 9 w e.2.1.val x.2.1) (h2 : Own eStr 1 base 9 w e.2.2.val x.2.2) : InsO base w (es ++ [e]) (xs ++ [x]) := by
  refine ⟨by simp [h.len], fun k g1 g2 => ?_⟩
  have hl := h.len
  by_cases hk : k < es.length
  · rw [List.getElem_append_left hk, List.getElem_append_left (by omega)]
    exact h.inner k hk (by omega)
  · have : k = es.length := by simp at g1; omega
    subst this
    simp only [List.getElem_concat_length, hl]
    exact ⟨h0, h1, h2⟩
theorem InsO.ins (h : InsO base w es xs) : Ins w es xs := ⟨h.len, fun k h1 h2 => ⟨(h.inner k h1 h2).1, (h.inner k h1 h2).2.1.sl len_eStr, (h.inner k h1 h2).2.2.sl len_eStr⟩⟩
end

theorem clone_sl (v : Value) (l : List ByteArray) (w : World) (h : Sl eStr 1 w v l) (hl : l.length ≤ 4000000) :
    Calls Try.prog 32 #[v] w fun e w' => ∃ a n c, e = .returned (.slice a n c) ∧ Own eStr 1 w.heap.size 9 w' (.slice a n c) l ∧ Below w.heap.size w w' := by
  refine (clone_any v l w h hl).mono ?_
  rintro e w' ⟨r, rfl, ho, hb⟩
  obtain ⟨a, n, c, rfl⟩ := ho.isSlice
  exact ⟨a, n, c, rfl, ho, hb⟩

theorem info52 : (Try.prog.info? 52).map (fun i => (i.zero, i.size, i.bytes)) = some (some (.agg #[.int .i64 0, .slice none 0 0, .slice none 0 0]), 3, 56) := by kernel_rfl
theorem four_new (w : World) (a b c d : Value) (e : TypeId) : (w.alloc (.cells #[a, b, c, d] e)).cell? ⟨w.heap.size, 0, none⟩ = some a ∧ (w.alloc (.cells #[a, b, c, d] e)).cell? ⟨w.heap.size, 1, none⟩ = some b ∧
    (w.alloc (.cells #[a, b, c, d] e)).cell? ⟨w.heap.size, 2, none⟩ = some c ∧ (w.alloc (.cells #[a, b, c, d] e)).cell? ⟨w.heap.size, 3, none⟩ = some d := by
  have h := heap_alloc_new w (.cells #[a, b, c, d] e)
  obtain ⟨_, h0, h1, h2, h3⟩ := four_cells h
  exact ⟨h0, h1, h2, h3⟩

theorem of_block {u : World} {g : Nat} {a b c d : Value} {e : TypeId} (h : u.heap[g]? = some (.cells #[a, b, c, d] e (0, 0))) : u.cell? ⟨g, 0, none⟩ = some a ∧ u.cell? ⟨g, 1, none⟩ = some b ∧ u.cell? ⟨g, 2, none⟩ = some c ∧ u.cell? ⟨g, 3, none⟩ = some d ∧
    u.heap[g]? = some (.cells #[a, b, c, d] e (0, 0)) ∧ g < u.heap.size := by
  obtain ⟨h0, h1, h2, h3, h4⟩ := four_cells h
  exact ⟨h1, h2, h3, h4, h, h0⟩

theorem hk_len : ∀ (l : List (Int × Int)) (x y : Int), (hk x y l).length ≤ l.length := by
  intro l
  induction l with
  | nil => intro x y; simp [hk]
  | cons p l ih =>
    intro x y
    have := ih (p.1 + 1) (p.2 + 1)
    simp only [hk, List.length_append, List.length_cons]
    split <;> simp <;> omega
theorem hunks_len {n m : Int} {l : List (Int × Int)} (h : chk n m l = 0) : (hunks n m l).length ≤ 802 := by
  obtain ⟨h1, h2⟩ := chk_zero h
  have h3 := sz_bound h1
  have h4 := okF_len (by omega) h2
  have h5 := hk_len (l ++ [(n, m)]) 0 0
  unfold hunks
  simp only [List.length_append, List.length_cons, List.length_nil] at h5
  omega

set_option maxRecDepth 100000 in
set_option maxHeartbeats 2000000 in
theorem edits_any (va vb vl : Value) (a b : List ByteArray) (l : List (Int × Int)) (w : World) (ha : Sl eStr 1 w va a) (hb : Sl eStr 1 w vb b) (hl : Sl ePair 2 w vl l) (hk0 : alk a b l = 0) (hc0 : chk a.length b.length l = 0) :
    Calls Try.prog 23 #[va, vb, vl] w fun e w' => ∃ r es, e = .returned (.tuple #[r, .int .i64 0]) ∧ Own eEd 3 w.heap.size 52 w' r es ∧ Ins w' es (edits a b l) ∧ Below w.heap.size w w' := by
  have e1 := ha.run_len (P := Try.prog) Try.underlying47
  have e2 := hb.run_len (P := Try.prog) Try.underlying47
  obtain ⟨hs, HHs⟩ : ∃ h, Hid (hunks a.length b.length l = h) := ⟨_, Lib.hid rfl⟩
  have HAl := Lib.hid (fun u (h1 : Sl eStr 1 u va a) (h2 : Sl eStr 1 u vb b) (h3 : Sl ePair 2 u vl l) => hk0 ▸ alike_any va vb vl a b l u h1 h2 h3)
  have HHu := Lib.hid (fun u (h3 : Sl ePair 2 u vl l) => hunks_of a.length b.length vl l hs u h3 ⟨hc0, HHs.out⟩)
  have HW : Hid (∀ x ∈ hs, Within a.length b.length x) := Lib.hid (HHs.out ▸ hunks_within hc0)
  have hsz := sz_bound (chk_zero hc0).1
  have hal : a.length ≤ 800 := by omega
  have hbl : b.length ≤ 800 := by omega
  have hhl : hs.length ≤ 802 := by rw [← HHs.out]; exact hunks_len hc0
  have HE : Hid (edits a b l = hs.map (edOf a b)) := Lib.hid (by unfold edits; rw [HHs.out])
  clear hk0 hc0 hsz
  go_enter Try.func23, Try.ntmps23
  go_wp2_with (first
    | (go_at_call 31; go_must (refine (HAl.out _ ha hb hl).mono ?_; rintro e w1 ⟨rfl, hb1⟩; have HB1 := Lib.hid hb1; clear hb1))
    | (go_at_call 13; go_must (refine (HHu.out _ (hl.ext HB1.out)).mono ?_; rintro e w2 ⟨vh, rfl, hown, hb2⟩; have HHv := Lib.hid (hown.sl len_eHunk); have HB2 := Lib.hid (HB1.out.trans (hb2.mono HB1.out.size)); have hlenh := (hown.sl len_eHunk).run_len (P := Try.prog) Try.underlying33; clear hown hb2)))
  go_loopw [11, 35] (fun o i wr => ∃ (k : Nat) (es : List (Int × SlV × SlV)), k ≤ hs.length ∧ i = .int .i64 k ∧ es.length = k ∧ Hid (Own eEd 3 w2.heap.size 52 wr o es) ∧ Hid (InsO w2.heap.size wr es ((hs.take k).map (edOf a b))) ∧ Hid (Below w2.heap.size w2 wr) ∧ w2.heap.size ≤ wr.heap.size) (fun _ i _ => hs.length - (intOf i).toNat)
  case atStart => exact ⟨0, [], by omega, rfl, rfl, Lib.hid (Own.nil _ _ _ _ _), Lib.hid (InsO.nil _ _), Lib.hid (Below.refl _ _), by omega⟩
  case round =>
    obtain ⟨k, es, hk, rfl, hes, HO, HI, HB, hwz⟩ := hrel
    have HEs := Lib.hid hes
    have hel : es.length ≤ 802 := by omega
    clear hes
    have HBw : Hid (Below w.heap.size w wr) := Lib.hid (HB2.out.trans (HB.out.mono HB2.out.size))
    have hws := HBw.out.size
    by_cases hlt : k < hs.length
    · obtain ⟨b0, o0, hb0, hix, hcl⟩ := HHv.out.atB HB.out (P := Try.prog) Try.underlying33 cells69 some69 hlt
      have c0 := hcl 0 (by omega)
      have c1 := hcl 1 (by omega)
      have c2 := hcl 2 (by omega)
      have c3 := hcl 3 (by omega)
      have hw := HW.out hs[k] (List.getElem_mem hlt)
      simp only [eHunk, List.getElem?_cons_zero, List.getElem?_cons_succ, Nat.add_zero] at c0 c1 c2 c3
      obtain ⟨A, An, B, Bn, HX⟩ : ∃ A An B Bn : Nat, Hid (hs[k] = ((A : Int), (An : Int), (B : Int), (Bn : Int))) :=
        ⟨hs[k].1.toNat, hs[k].2.1.toNat, hs[k].2.2.1.toNat, hs[k].2.2.2.toNat, Lib.hid (by
          obtain ⟨g1, g2, _, g4, g5, _⟩ := hw
          rw [Int.toNat_of_nonneg g1, Int.toNat_of_nonneg g2, Int.toNat_of_nonneg g4, Int.toNat_of_nonneg g5])⟩
      rw [HX.out] at c0 c1 c2 c3 hw
      obtain ⟨_, _, g3, _, _, g6⟩ := hw
      simp only at g3 g6
      clear hcl
      obtain ⟨v1, hv1, _, HS1⟩ := ha.sub (P := Try.prog) Try.underlying47 elem47 cells9 some9 (lo := A) (hi' := A + An) (x := (A : Int)) (y := (A : Int) + An) rfl (by omega) (by omega) (by omega)
      obtain ⟨v2, hv2, _, HS2⟩ := hb.sub (P := Try.prog) Try.underlying47 elem47 cells9 some9 (lo := B) (hi' := B + Bn) (x := (B : Int)) (y := (B : Int) + Bn) rfl (by omega) (by omega) (by omega)
      rw [show A + An - A = An by omega] at HS1
      rw [show B + Bn - B = Bn by omega] at HS2
      have HS1 := Lib.hid HS1
      have HS2 := Lib.hid HS2
      have HBX : Hid (Below w.heap.size w (wr.alloc (.cells #[.int .i64 A, .int .i64 An, .int .i64 B, .int .i64 Bn] 69)).drew) := Lib.hid (HBw.out.alloc hws _).drew
      have hzX : w2.heap.size ≤ (wr.alloc (.cells #[.int .i64 A, .int .i64 An, .int .i64 B, .int .i64 Bn] 69)).drew.heap.size := by show _ ≤ (wr.alloc _).heap.size; simp; omega
      go_wp2_with fail
      have hw1 : IntKind.i64.wrap ((A : Int) + An) = (A : Int) + An := IntWalk.i64_in _ (by omega)
      have hw2 : IntKind.i64.wrap ((B : Int) + Bn) = (B : Int) + Bn := IntWalk.i64_in _ (by omega)
      go_region_held3 (fun u => u.cell? ⟨wr.heap.size, 0, none⟩ = some (.int .i64 (A : Int)) ∧ u.cell? ⟨wr.heap.size, 1, none⟩ = some (.int .i64 (An : Int)) ∧ u.cell? ⟨wr.heap.size, 2, none⟩ = some (.int .i64 (B : Int)) ∧ u.cell? ⟨wr.heap.size, 3, none⟩ = some (.int .i64 (Bn : Int)) ∧ u.heap[wr.heap.size]? = some (.cells #[.int .i64 (A : Int), .int .i64 (An : Int), .int .i64 (B : Int), .int .i64 (Bn : Int)] 69 (0, 0)) ∧ wr.heap.size < u.heap.size)
        (first
          | exact of_block (heap_alloc_new _ _)
          | (go_split_ands; exact of_block (grown_heap hgr5 (by assumption) (HO5.out.ne_elem (by assumption) (by decide))))
          | (go_split_ands; exact of_block (heap_keep (w := w4) (by assumption)))
          | (go_split_ands; exact of_block ((hb4.block _ (by assumption)).trans (by assumption)))
          | (go_split_ands; exact of_block ((hb3.block _ (by assumption)).trans (by assumption)))
          | (go_split_ands; exact ⟨by assumption, by assumption, by assumption, by assumption, by assumption, by assumption⟩))
        (first
          | (go_at_call 32; (with_reducible refine (clone_sl v1 _ _ (HS1.out.ext HBX.out) (by simp; omega)).mono ?_); rintro e w3 ⟨p1, q1, r1, rfl, hsl3, hb3⟩)
          | (go_at_call 32; (with_reducible refine (clone_sl v2 _ _ (HS2.out.ext (HBX.out.trans (hb3.mono HBX.out.size))) (by simp; omega)).mono ?_); rintro e w4 ⟨p2, q2, r2, rfl, hsl4, hb4⟩; have hz4 : w2.heap.size ≤ w4.heap.size := Nat.le_trans hzX (Nat.le_trans hb3.size hb4.size); have HO4 := Lib.hid (((HO.out.alloc (.cells #[.int .i64 A, .int .i64 An, .int .i64 B, .int .i64 Bn] 69)).drew.ext hb3).ext hb4); have HO5 := Lib.hid (HO4.out.alloc (.cells #[.int .i64 (A : Int), .slice p1 q1 r1, .slice p2 q2 r2] 52)); have HF5 : Hid (Sl eEd 3 (w4.alloc (.cells #[.int .i64 (A : Int), .slice p1 q1 r1, .slice p2 q2 r2] 52)) (.slice (some ⟨w4.heap.size, 0, none⟩) 1 1) [((A : Int), ⟨p1, q1, r1⟩, ⟨p2, q2, r2⟩)] ∧ w2.heap.size ≤ (w4.alloc (.cells #[.int .i64 (A : Int), .slice p1 q1 r1, .slice p2 q2 r2] 52)).heap.size) := Lib.hid ⟨Sl.fresh len_eEd rfl rfl rfl (by simp [maxLen]), by simp; omega⟩)
          | (refine step_append rfl _ _ _ (by rfl) _ 56 Try.underlying48 info52 rfl (by omega) len_eEd one_eEd _ (.slice (some ⟨w4.heap.size, 0, none⟩) 1 1) es [((A : Int), ⟨p1, q1, r1⟩, ⟨p2, q2, r2⟩)] (by rfl) HO5.out (by rfl) HF5.out.1 (by simp only [maxLen, List.length_cons, List.length_nil]; omega) (by simp only [List.length_cons, List.length_nil]; omega) HF5.out.2 ?_; intro v5 w5 hown5 hgr5 hb5))
      have HBr : Hid (Below wr.heap.size wr (w4.alloc (.cells #[.int .i64 (A : Int), .slice p1 q1 r1, .slice p2 q2 r2] 52))) := Lib.hid ((((Below.refl wr.heap.size wr).alloc (Nat.le_refl _) _).drew.trans ((hb3.mono (by show wr.heap.size ≤ (wr.alloc _).heap.size; simp)).trans (hb4.mono (by have := hb3.size; have h0 : wr.heap.size ≤ (wr.alloc (.cells #[.int .i64 A, .int .i64 An, .int .i64 B, .int .i64 Bn] 69)).drew.heap.size := (by show wr.heap.size ≤ (wr.alloc _).heap.size; simp); omega)))).alloc (by have := hb4.size; have := hb3.size; have h0 : wr.heap.size ≤ (wr.alloc (.cells #[.int .i64 A, .int .i64 An, .int .i64 B, .int .i64 Bn] 69)).drew.heap.size := (by show wr.heap.size ≤ (wr.alloc _).heap.size; simp); omega) _)
      have HI5 := Lib.hid ((HI.out.ext HBr.out).grown HO5.out (by decide) hgr5)
      have HL3 := Lib.hid ((((hsl3.mono hzX).ext hb4).alloc (.cells #[.int .i64 (A : Int), .slice p1 q1 r1, .slice p2 q2 r2] 52)).kept hgr5 (own_apart (((hsl3.mono hzX).ext hb4).alloc _) HO5.out (by decide)))
      have HL4 := Lib.hid (((hsl4.mono (Nat.le_trans hzX hb3.size)).alloc (.cells #[.int .i64 (A : Int), .slice p1 q1 r1, .slice p2 q2 r2] 52)).kept hgr5 (own_apart ((hsl4.mono (Nat.le_trans hzX hb3.size)).alloc _) HO5.out (by decide)))
      have HB5 := Lib.hid (HB.out.trans ((HBr.out.mono hwz).trans hb5))
      have HO6 := Lib.hid hown5
      clear hw1 hw2 hb3 hb4 hb5 hgr5 hown5 hsl3 hsl4 hz4
      go_wp2_with fail
      go_roundw
      case rel =>
        refine ⟨k + 1, _, by omega, by go_num, ?_, HO6, Lib.hid ?_, HB5, HB5.out.size⟩
        · rw [List.length_append, HEs.out]; rfl
        · rw [List.take_succ_eq_append_getElem hlt, List.map_append, List.map_singleton, HX.out]
          exact HI5.out.snoc (by simp [edOf]) (by simpa [edOf, SlV.val] using HL3.out) (by simpa [edOf, SlV.val] using HL4.out)
      case measure => simp [intOf]; omega
    · have hkl : k = hs.length := by omega
      have HKL := Lib.hid hkl
      clear hkl
      go_wp2_with fail
      go_ret2
      refine ⟨_, es, rfl, HO.out.mono HB2.out.size, ?_, HBw.out⟩
      have := HI.out.ins
      rwa [HKL.out, List.take_length, ← HE.out] at this
end Go.Proofs.Ytdlmdjhnigbfpaa
