/-
  The law ScriptApplies at values that read as lists. The edits' lines in are bounded.
-/
import Derived.Test.YtdlmdjhnigbfpaaE3

import Derived.Deep.RegionHeld3
namespace Go.Proofs.Ytdlmdjhnigbfpaa
open Go.RowKit Go.Sl Go.Scr

theorem info53 : (Try.prog.info? 53).map (fun i => (i.zero, i.size, i.bytes)) = some (some (.agg #[.int .i64 0, .slice none 0 0, .slice none 0 0]), 3, 56) := by kernel_rfl

theorem Eds.cells {w wr : World} {v : Value} {es : List (Int × SlV × SlV)} {xs : List (Ed ByteArray)} (h : Eds w v es xs) (hb : Below w.heap.size w wr) {t e : TypeId} (ht : Try.prog.underlying t = some (.slice e)) (hc : Try.prog.cellsOf e = 3) (hi : (Try.prog.info? e).isSome = true) {k : Nat} (hk : k < es.length) :
    ∃ b o, b < w.heap.size ∧ (∀ (ik : IntKind) (u : World), (Instr.indexAt t v (.int ik (k : Int))).run Try.prog u = .ok (.pointer (some ⟨b, o, none⟩)) u) ∧
      ∃ (A : Int) (a1 a2 : Option Addr) (n1 c1 n2 c2 : Nat), Hid (es[k] = (A, ⟨a1, n1, c1⟩, ⟨a2, n2, c2⟩)) ∧ wr.cell? ⟨b, o, none⟩ = some (.int .i64 A) ∧ wr.cell? ⟨b, o + 1, none⟩ = some (.slice a1 n1 c1) ∧ wr.cell? ⟨b, o + 2, none⟩ = some (.slice a2 n2 c2) := by
  obtain ⟨b, o, h1, h2, h3⟩ := h.outer.atB hb ht hc hi hk
  rcases hes : es[k] with ⟨A, ⟨a1, n1, c1⟩, ⟨a2, n2, c2⟩⟩
  rw [hes] at h3
  refine ⟨b, o, h1, h2, A, a1, a2, n1, c1, n2, c2, Lib.hid rfl, ?_, ?_, ?_⟩
  · have := h3 0 (by omega); simpa [eEd] using this
  · have := h3 1 (by omega); simpa [eEd, SlV.val] using this
  · have := h3 2 (by omega); simpa [eEd, SlV.val] using this

theorem own_empty (w : World) : Own eStr 1 w.heap.size 9 (w.alloc (.cells #[] 9)) (.slice (some ⟨w.heap.size, 0, none⟩) 0 0) [] := Own.fresh0 eStr 1 w 9 rfl

theorem apply_of (o : Except Int (List ByteArray)) (va vl : Value) (a : List ByteArray) (es : List (Int × SlV × SlV)) (xs : List (Ed ByteArray)) (w : World) (ha : Sl eStr 1 w va a) (hl : Eds w vl es xs) (hsum : a.length + insum xs ≤ 4000000) (ho : applyF a xs = o) :
    Calls Try.prog 20 #[va, vl] w (ApplyPost w.heap.size w o) := by subst ho; exact apply_any va vl a es xs w ha hl hsum
theorem rapply_of (o : Except Int (List ByteArray)) (va vl : Value) (a : List ByteArray) (es : List (Int × SlV × SlV)) (xs : List (Ed ByteArray)) (w : World) (ha : Sl eStr 1 w va a) (hl : Eds w vl es xs) (hsum : a.length + insum xs ≤ 4000000) (ho : applyF a xs = o) :
    Calls Try.prog 21 #[va, vl] w (ApplyPost w.heap.size w o) := by subst ho; exact rapply_any va vl a es xs w ha hl hsum
theorem strs_self (v1 v2 : Value) (l : List ByteArray) (w : World) (h1 : Sl eStr 1 w v1 l) (h2 : Sl eStr 1 w v2 l) :
    Calls Try.prog 22 #[v1, v2] w fun e w' => e = .returned (.bool true) ∧ Below w.heap.size w w' :=
  (strs_same v1 v2 l l w h1 h2).mono fun e w' ⟨he, n, hw⟩ => ⟨by rw [he]; simp, by rw [hw]; exact below_drewN (Below.refl _ _) n⟩

set_option maxRecDepth 100000 in
set_option maxHeartbeats 2000000 in
theorem applies_any (va vl : Value) (a : List ByteArray) (es : List (Int × SlV × SlV)) (xs : List (Ed ByteArray)) (w : World) (ha : Sl eStr 1 w va a) (hl : Eds w vl es xs) (hsum : a.length + insum xs ≤ 4000000) :
    Calls Try.prog 6 #[va, vl] w fun e w' => e = .returned (.bool true) ∧ Below w.heap.size w w' := by
  have e1 := ha.run_len (P := Try.prog) Try.underlying47
  have e2 := hl.outer.run_len (P := Try.prog) Try.underlying48
  have hxl := hl.len
  have HXL := Lib.hid hxl
  clear hxl
  have hmax := hl.outer.len_le
  obtain ⟨x1, x2, x3, rfl⟩ := ha.isSlice
  have HLg := Lib.hid (fun t (ht : decide (200 < a.length) = t) => (ht ▸ long_any (w.alloc (.cells #[.slice x1 x2 x3] 47)) (.slice x1 x2 x3) a w.heap.size (ha.ext ((Below.refl _ _).alloc (Nat.le_refl _) _)) (heap_alloc_new _ _)))
  have HB0 := Lib.hid ((Below.refl w.heap.size w).alloc (Nat.le_refl _) (.cells #[.slice x1 x2 x3] 47))
  by_cases h1 : 200 < a.length
  · have HL1 := Lib.hid (HLg.out true (by simpa using h1))
    go_enter Try.func6, Try.ntmps6
    go_wp2_with (first
      | (go_at_call 19; go_must (refine HL1.out.mono ?_; rintro e w1 ⟨rfl, rfl⟩))
      | (go_at_call 8; go_must (refine (works_any _).mono ?_; rintro e w1 ⟨rfl, hbb⟩)))
    go_ret
    exact ⟨rfl, HB0.out.trans (hbb.mono HB0.out.size)⟩
  · have HL1 := Lib.hid (HLg.out false (by simpa using h1))
    by_cases h2 : 200 < es.length
    · go_enter Try.func6, Try.ntmps6
      go_wp2_with (first
        | (go_at_call 19; go_must (refine HL1.out.mono ?_; rintro e w1 ⟨rfl, rfl⟩))
        | (go_at_call 8; go_must (refine (works_any _).mono ?_; rintro e w1 ⟨rfl, hbb⟩)))
      go_ret
      exact ⟨rfl, HB0.out.trans (hbb.mono HB0.out.size)⟩
    · clear HLg hmax
      go_enter Try.func6, Try.ntmps6
      go_wp2_with (go_at_call 19; go_must (refine HL1.out.mono ?_; rintro e w1 ⟨rfl, rfl⟩))
      go_loopw [5, 6] (fun o i wr => ∃ (k : Nat), k ≤ es.length ∧ i = .int .i64 k ∧ Hid (Own eEd 3 w.heap.size 53 wr o (es.take k)) ∧ Hid (Below w.heap.size w wr) ∧ w.heap.size ≤ wr.heap.size) (fun _ i _ => es.length - (intOf i).toNat)
      case atStart => exact ⟨0, by omega, rfl, Lib.hid (Own.nil _ _ _ _ _), HB0, HB0.out.size⟩
      case round =>
        obtain ⟨k, hk, rfl, HO, HB, hsz⟩ := hrel
        by_cases hlt : k < es.length
        · obtain ⟨b0, o0, hb0, hix, A, a1, a2, n1, c1, n2, c2, HX, q0, q1, q2⟩ := hl.cells HB.out Try.underlying48 cells52 some52 hlt
          have HF : Hid (Sl eEd 3 (wr.alloc (.cells #[.int .i64 A, .slice a1 n1 c1, .slice a2 n2 c2] 53)).drew (.slice (some ⟨wr.heap.size, 0, none⟩) 1 1) [(A, ⟨a1, n1, c1⟩, ⟨a2, n2, c2⟩)]) :=
            Lib.hid (Sl.drew (Sl.fresh len_eEd rfl rfl rfl (by simp [maxLen])))
          obtain ⟨acc, HAc⟩ : ∃ l, Hid (es.take k = l) := ⟨_, Lib.hid rfl⟩
          have hac : acc.length ≤ 200 := by rw [← HAc.out]; simp; omega
          have HO' : Hid (Own eEd 3 w.heap.size 53 wr _ acc) := Lib.hid (HAc.out ▸ HO.out)
          clear HO
          go_wp2_with fail
          go_region_held3 (fun u => u.cell? ⟨b0, o0, none⟩ = some (.int .i64 A) ∧ u.cell? ⟨b0, o0 + 1, none⟩ = some (.slice a1 n1 c1) ∧ u.cell? ⟨b0, o0 + 2, none⟩ = some (.slice a2 n2 c2))
            (first
              | exact ⟨q0, q1, q2⟩
              | exact ⟨(World.cell?_alloc_lt (w := wr) _ _ (by show b0 < _; omega)).trans q0, (World.cell?_alloc_lt (w := wr) _ _ (by show b0 < _; omega)).trans q1, (World.cell?_alloc_lt (w := wr) _ _ (by show b0 < _; omega)).trans q2⟩
              | (go_split_ands; exact ⟨by assumption, by assumption, by assumption⟩)
              | (go_split_ands; refine ⟨(hb3.cell (p := ⟨b0, _, none⟩) hb0).trans ?_, (hb3.cell (p := ⟨b0, _, none⟩) hb0).trans ?_, (hb3.cell (p := ⟨b0, _, none⟩) hb0).trans ?_⟩ <;> assumption))
            ((refine step_append rfl _ _ _ (by rfl) _ 56 Try.underlying50 info53 rfl (by omega) len_eEd one_eEd _ (.slice (some ⟨wr.heap.size, 0, none⟩) 1 1) acc [(A, ⟨a1, n1, c1⟩, ⟨a2, n2, c2⟩)] (by rfl) ((HO'.out.alloc _).drew) (by rfl) HF.out (by simp only [maxLen, List.length_cons, List.length_nil]; omega) (by simp only [List.length_cons, List.length_nil]; omega) (by show _ ≤ (wr.alloc _).heap.size; simp; omega) ?_; intro v3 w3 hown3 hgr3 hb3))
          have HB4 := Lib.hid (HB.out.trans (((Below.refl w.heap.size wr).alloc hsz _).drew.trans hb3))
          have HO3 := Lib.hid hown3
          clear hb3 hgr3 hown3
          go_wp2_with fail
          go_roundw
          case rel =>
            refine ⟨k + 1, by omega, by go_num, Lib.hid ?_, HB4, HB4.out.size⟩
            rw [List.take_succ_eq_append_getElem hlt, HAc.out, HX.out]; exact HO3.out
          case measure => simp [intOf]; omega
        · obtain rfl : k = es.length := by omega
          have HOm := HO.out
          rw [List.take_length] at HOm
          have HM : Hid (Eds wr _ es xs) := Lib.hid ⟨HOm.sl len_eEd, HXL.out, hl.wf, fun k h1 h2 => ⟨(hl.inner k h1 h2).1, (hl.inner k h1 h2).2.1.ext HB.out, (hl.inner k h1 h2).2.2.ext HB.out⟩⟩
          clear HOm HO
          obtain ⟨o, HOo⟩ : ∃ o, Hid (applyF a xs = o) := ⟨_, Lib.hid rfl⟩
          cases o with
          | error c =>
            go_wp2_with (first
              | (at_builtin; go_must (refine wpList_append rfl _ _ _ rfl (.string .empty) 16 Try.underlying47 info9 rfl (by omega) len_eStr one_eStr _ _ [] a rfl (own_empty wr) rfl (ha.ext ((HB.out).alloc hsz _)) (by simp only [maxLen, List.length_nil]; omega) (by simp only [List.length_nil]; omega) (by simp) ?_; intro w1 w2 hown1 _ hb1; have HOw := Lib.hid (List.nil_append a ▸ hown1.sl len_eStr); have HB1 := Lib.hid ((HB.out.alloc hsz _).trans (hb1.mono hsz)); have HM := Lib.hid (HM.out.ext (((Below.refl wr.heap.size wr).alloc (Nat.le_refl _) _).trans hb1)); clear hown1 hb1))
              | (go_at_call 20; go_must (refine (apply_of _ _ vl a es xs _ HOw.out (hl.ext HB1.out) hsum HOo.out).mono ?_; rintro e w3 ⟨hb2, rfl⟩; have HB1 := Lib.hid (HB1.out.trans (hb2.mono HB1.out.size)); have HOw := Lib.hid (HOw.out.ext hb2); have HM := Lib.hid (HM.out.ext hb2); clear hb2))
              | (go_at_call 21; go_must (refine (rapply_of _ _ _ a es xs _ (ha.ext HB1.out) HM.out hsum HOo.out).mono ?_; rintro e w3 ⟨hb2, rfl⟩; have HB1 := Lib.hid (HB1.out.trans (hb2.mono HB1.out.size)); have HOw := Lib.hid (HOw.out.ext hb2); have HM := Lib.hid (HM.out.ext hb2); clear hb2))
              | (go_at_call 22; ((with_reducible refine (strs_self (.slice none 0 0) (.slice none 0 0) [] _ (Sl.nil _ _ _) (Sl.nil _ _ _)).mono ?_); rintro e w3 ⟨rfl, hb2⟩; have HB1 := Lib.hid (HB1.out.trans (hb2.mono HB1.out.size)); have HOw := Lib.hid (HOw.out.ext hb2); have HM := Lib.hid (HM.out.ext hb2); clear hb2))
              | (go_at_call 22; go_must (refine (strs_self _ _ a _ HOw.out (ha.ext HB1.out)).mono ?_; rintro e w3 ⟨rfl, hb2⟩; have HB1 := Lib.hid (HB1.out.trans (hb2.mono HB1.out.size)); have HOw := Lib.hid (HOw.out.ext hb2); have HM := Lib.hid (HM.out.ext hb2); clear hb2))
              | (go_at_call 8; go_must (refine (works_any _).mono ?_; rintro e w3 ⟨rfl, hb2⟩; have HB1 := Lib.hid (HB1.out.trans (hb2.mono HB1.out.size)); have HOw := Lib.hid (HOw.out.ext hb2); have HM := Lib.hid (HM.out.ext hb2); clear hb2)))
            go_ret
            exact ⟨rfl, HB1.out⟩
          | ok r =>
            go_wp2_with (first
              | (at_builtin; go_must (refine wpList_append rfl _ _ _ rfl (.string .empty) 16 Try.underlying47 info9 rfl (by omega) len_eStr one_eStr _ _ [] a rfl (own_empty wr) rfl (ha.ext ((HB.out).alloc hsz _)) (by simp only [maxLen, List.length_nil]; omega) (by simp only [List.length_nil]; omega) (by simp) ?_; intro w1 w2 hown1 _ hb1; have HOw := Lib.hid (List.nil_append a ▸ hown1.sl len_eStr); have HB1 := Lib.hid ((HB.out.alloc hsz _).trans (hb1.mono hsz)); have HM := Lib.hid (HM.out.ext (((Below.refl wr.heap.size wr).alloc (Nat.le_refl _) _).trans hb1)); clear hown1 hb1))
              | (go_at_call 20; go_must (refine (apply_of _ _ vl a es xs _ HOw.out (hl.ext HB1.out) hsum HOo.out).mono ?_; rintro e w3 ⟨hb2, r1, rfl, hor⟩; have HR1 := Lib.hid (hor.sl len_eStr); have HB1 := Lib.hid (HB1.out.trans (hb2.mono HB1.out.size)); have HOw := Lib.hid (HOw.out.ext hb2); have HM := Lib.hid (HM.out.ext hb2); clear hb2 hor))
              | (go_at_call 21; go_must (refine (rapply_of _ _ _ a es xs _ (ha.ext HB1.out) HM.out hsum HOo.out).mono ?_; rintro e w3 ⟨hb2, r2, rfl, hor⟩; have HR2 := Lib.hid (hor.sl len_eStr); have HR1 := Lib.hid (HR1.out.ext hb2); have HB1 := Lib.hid (HB1.out.trans (hb2.mono HB1.out.size)); have HOw := Lib.hid (HOw.out.ext hb2); have HM := Lib.hid (HM.out.ext hb2); clear hb2 hor))
              | (go_at_call 22; have _g := HR2.out; go_must (refine (strs_self _ _ r _ HR1.out HR2.out).mono ?_; rintro e w3 ⟨rfl, hb2⟩; have HB1 := Lib.hid (HB1.out.trans (hb2.mono HB1.out.size)); have HOw := Lib.hid (HOw.out.ext hb2); have HM := Lib.hid (HM.out.ext hb2); clear hb2 HR2))
              | (go_at_call 22; go_must (refine (strs_self _ _ a _ HOw.out (ha.ext HB1.out)).mono ?_; rintro e w3 ⟨rfl, hb2⟩; have HB1 := Lib.hid (HB1.out.trans (hb2.mono HB1.out.size)); have HOw := Lib.hid (HOw.out.ext hb2); have HM := Lib.hid (HM.out.ext hb2); clear hb2))
              | (go_at_call 8; go_must (refine (works_any _).mono ?_; rintro e w3 ⟨rfl, hb2⟩; have HB1 := Lib.hid (HB1.out.trans (hb2.mono HB1.out.size)); have HOw := Lib.hid (HOw.out.ext hb2); have HM := Lib.hid (HM.out.ext hb2); clear hb2)))
            go_ret
            exact ⟨rfl, HB1.out⟩
end Go.Proofs.Ytdlmdjhnigbfpaa
