/-
  The law ScriptEdits at values that read as lists. No condition.
-/
import Derived.Test.YtdlmdjhnigbfpaaE9
namespace Go.Proofs.Ytdlmdjhnigbfpaa
open Go.RowKit Go.Sl Go.Scr

theorem sl_drewN {α : Type} {en : α → List Value} {s : Nat} {w : World} {v : Value} {l : List α} (h : Sl en s w v l) (n : Nat) : Sl en s (w.drewN n) v l := ⟨h.shp⟩
theorem eds_drewN {w : World} {v : Value} {es : List (Int × SlV × SlV)} {xs : List (Ed ByteArray)} (h : Eds w v es xs) (n : Nat) : Eds (w.drewN n) v es xs :=
  ⟨sl_drewN h.outer n, h.len, h.wf, fun k h1 h2 => ⟨(h.inner k h1 h2).1, sl_drewN (h.inner k h1 h2).2.1 n, sl_drewN (h.inner k h1 h2).2.2 n⟩⟩

/-- a quiet call behind draws -/
theorem quiet_sum {P : Program} {f : FuncId} {args : Array Value} {w : World} {n x : Nat} {v : Value} (h : Calls P f args (w.drewN (n + x)) fun e w' => e = .returned v ∧ ∃ m, w' = (w.drewN (n + x)).drewN m) :
    Calls P f args (w.drewN (n + x)) fun e w'' => e = .returned v ∧ ∃ k, w'' = w.drewN (n + k) :=
  h.mono fun _ _ ⟨he, m, hm⟩ => ⟨he, x + m, by rw [hm, World.drewN_drewN, Nat.add_assoc]⟩

set_option maxRecDepth 100000 in
set_option maxHeartbeats 2000000 in
theorem editslaw_long (va vb vl : Value) (a b : List ByteArray) (l : List (Int × Int)) (w : World) (ha : Sl eStr 1 w va a) (hb : Sl eStr 1 w vb b) (hl : Sl ePair 2 w vl l) (h : (200 < a.length ∨ 200 < b.length) ∨ 1000 < l.length) :
    Calls Try.prog 7 #[.agg #[va, vb, vl]] w fun e w' => e = .returned (.bool true) ∧ Below w.heap.size w w' := by
  have e3 := hl.run_len (P := Try.prog) Try.underlying23
  obtain ⟨x1, x2, x3, rfl⟩ := ha.isSlice
  obtain ⟨y1, y2, y3, rfl⟩ := hb.isSlice
  obtain ⟨z1, z2, z3, rfl⟩ := hl.isSlice
  have HQ := Lib.hid (Box3.start w (.slice x1 x2 x3) (.slice y1 y2 y3) (.slice z1 z2 z3))
  have HQ2 := Lib.hid (HQ.out.step ((Below.refl _ _).alloc (Nat.le_refl _) (.cells #[.slice x1 x2 x3, .slice y1 y2 y3] 47)))
  have HLg := Lib.hid (fun t (ht : decide (200 < a.length ∨ 200 < b.length) = t) => (ht ▸ long_two _ (.slice x1 x2 x3) (.slice y1 y2 y3) a b (w.heap.size + 1) (ha.ext HQ2.out.below) (hb.ext HQ2.out.below) (heap_new_at (by simp))))
  obtain ⟨q0, q1, q2⟩ := HQ2.out.get
  by_cases h1 : 200 < a.length ∨ 200 < b.length
  · have HL := Lib.hid (HLg.out true (by simpa using h1))
    clear h h1 HLg
    go_enter Try.func7, Try.ntmps7
    go_wp2_with (first
      | (go_at_call 19; go_must (refine HL.out.mono ?_; rintro e w1 ⟨rfl, rfl⟩))
      | (go_at_call 8; go_must (refine (works_any _).mono ?_; rintro e w1 ⟨rfl, hbb⟩)))
    go_ret
    exact ⟨rfl, (HQ2.out.step hbb).below⟩
  · have h2 : 1000 < l.length := by omega
    have HL := Lib.hid (HLg.out false (by simpa using h1))
    clear h h1 HLg
    go_enter Try.func7, Try.ntmps7
    go_wp2_with (first
      | (go_at_call 19; go_must (refine HL.out.mono ?_; rintro e w1 ⟨rfl, rfl⟩))
      | (go_at_call 8; go_must (refine (works_any _).mono ?_; rintro e w1 ⟨rfl, hbb⟩)))
    go_ret
    exact ⟨rfl, (HQ2.out.step hbb).below⟩

set_option maxRecDepth 100000 in
set_option maxHeartbeats 2000000 in
theorem editslaw_err (va vb vl : Value) (a b : List ByteArray) (l : List (Int × Int)) (c : Int) (w : World) (ha : Sl eStr 1 w va a) (hb : Sl eStr 1 w vb b) (hl : Sl ePair 2 w vl l) (h1 : ¬ (200 < a.length ∨ 200 < b.length)) (h2 : l.length ≤ 1000) (hk0 : alk a b l = c) (hc : (c == 0) = false) :
    Calls Try.prog 7 #[.agg #[va, vb, vl]] w fun e w' => e = .returned (.bool true) ∧ Below w.heap.size w w' := by
  have e3 := hl.run_len (P := Try.prog) Try.underlying23
  obtain ⟨x1, x2, x3, rfl⟩ := ha.isSlice
  obtain ⟨y1, y2, y3, rfl⟩ := hb.isSlice
  obtain ⟨z1, z2, z3, rfl⟩ := hl.isSlice
  have HQ := Lib.hid (Box3.start w (.slice x1 x2 x3) (.slice y1 y2 y3) (.slice z1 z2 z3))
  have HQ2 := Lib.hid (HQ.out.step ((Below.refl _ _).alloc (Nat.le_refl _) (.cells #[.slice x1 x2 x3, .slice y1 y2 y3] 47)))
  have HL : Hid _ := Lib.hid ((show decide (200 < a.length ∨ 200 < b.length) = false by simpa using h1) ▸ long_two _ (.slice x1 x2 x3) (.slice y1 y2 y3) a b (w.heap.size + 1) (ha.ext HQ2.out.below) (hb.ext HQ2.out.below) (heap_new_at (by simp)))
  obtain ⟨q0, q1, q2⟩ := HQ2.out.get
  have HE := Lib.hid (fun u (h : Below w.heap.size w u) => edits_err _ _ _ a b l c u (ha.ext h) (hb.ext h) (hl.ext h) hk0 hc)
  have HR := Lib.hid (fun u (h : Below w.heap.size w u) => hk0 ▸ ralike_any _ _ _ a b l u (ha.ext h) (hb.ext h) (hl.ext h))
  clear h1 hk0
  go_enter Try.func7, Try.ntmps7
  go_wp2_with (first
    | (go_at_call 19; go_must (refine HL.out.mono ?_; rintro e w1 ⟨rfl, rfl⟩))
    | (go_at_call 23; go_must (refine (HE.out _ HQ2.out.below).mono ?_; rintro e w1 ⟨rfl, hbb⟩; have HQ2 := Lib.hid (HQ2.out.step hbb); obtain ⟨q0, q1, q2⟩ := HQ2.out.get; clear hbb))
    | (go_at_call 24; go_must (refine (HR.out _ HQ2.out.below).mono ?_; rintro e w1 ⟨rfl, hbb⟩; have HQ2 := Lib.hid (HQ2.out.step hbb); obtain ⟨q0, q1, q2⟩ := HQ2.out.get; clear hbb))
    | (go_at_call 8; go_must (refine (works_any _).mono ?_; rintro e w1 ⟨rfl, hbb⟩; have HQ2 := Lib.hid (HQ2.out.step hbb); clear hbb)))
  go_ret
  exact ⟨rfl, HQ2.out.below⟩

set_option maxRecDepth 100000 in
set_option maxHeartbeats 2000000 in
theorem editslaw_good (va vb vl : Value) (a b : List ByteArray) (l : List (Int × Int)) (w : World) (ha : Sl eStr 1 w va a) (hb : Sl eStr 1 w vb b) (hl : Sl ePair 2 w vl l) (h1 : ¬ (200 < a.length ∨ 200 < b.length)) (h2 : l.length ≤ 1000) (hk0 : alk a b l = 0) (hc0 : chk a.length b.length l = 0) (hone : One a b l) :
    Calls Try.prog 7 #[.agg #[va, vb, vl]] w fun e w' => e = .returned (.bool true) ∧ Below w.heap.size w w' := by
  have e3 := hl.run_len (P := Try.prog) Try.underlying23
  obtain ⟨x1, x2, x3, rfl⟩ := ha.isSlice
  obtain ⟨y1, y2, y3, rfl⟩ := hb.isSlice
  obtain ⟨z1, z2, z3, rfl⟩ := hl.isSlice
  have HQ := Lib.hid (Box3.start w (.slice x1 x2 x3) (.slice y1 y2 y3) (.slice z1 z2 z3))
  have HQ2 := Lib.hid (HQ.out.step ((Below.refl _ _).alloc (Nat.le_refl _) (.cells #[.slice x1 x2 x3, .slice y1 y2 y3] 47)))
  have HL : Hid _ := Lib.hid ((show decide (200 < a.length ∨ 200 < b.length) = false by simpa using h1) ▸ long_two _ (.slice x1 x2 x3) (.slice y1 y2 y3) a b (w.heap.size + 1) (ha.ext HQ2.out.below) (hb.ext HQ2.out.below) (heap_new_at (by simp)))
  obtain ⟨q0, q1, q2⟩ := HQ2.out.get
  have HE := Lib.hid (fun u (h : Below w.heap.size w u) => edits_any _ _ _ a b l u (ha.ext h) (hb.ext h) (hl.ext h) hk0 hc0)
  have HRE := Lib.hid (fun u (h : Below w.heap.size w u) => redits_any _ _ _ a b l u (ha.ext h) (hb.ext h) (hl.ext h) hc0)
  have HR := Lib.hid (fun u (h : Below w.heap.size w u) => hk0 ▸ ralike_any _ _ _ a b l u (ha.ext h) (hb.ext h) (hl.ext h))
  obtain ⟨xs, HXs⟩ : ∃ xs, Hid (edits a b l = xs) := ⟨_, Lib.hid rfl⟩
  have HBd : Hid (∀ x ∈ xs, 0 ≤ x.1 ∧ x.1 ≤ 800 ∧ x.2.1.length ≤ 800 ∧ x.2.2.length ≤ 800) := Lib.hid (HXs.out ▸ edits_bd hc0)
  have hxl : xs.length ≤ 802 := by rw [← HXs.out]; exact edits_len hc0
  have HA1 : Hid (applyF a xs = .ok b) := Lib.hid (HXs.out ▸ apply_edits hc0 hone)
  have HA2 : Hid (applyF b (undoF 0 xs) = .ok a) := Lib.hid (HXs.out ▸ undo_edits hc0 hone)
  have HUw : Hid (∀ x ∈ undoF 0 xs, x.1 ≤ 9223372036854775807) := Lib.hid (HXs.out ▸ undo_wf hc0)
  have HS1 : Hid (a.length + insum xs ≤ 4000000) := Lib.hid (by have := insum_le (fun x hx => (HBd.out x hx).2.2.2); omega)
  have HS2 : Hid (b.length + insum (undoF 0 xs) ≤ 4000000) := Lib.hid (by
    obtain ⟨g1, g2⟩ := undoF_out xs 0
    have := insum_le (g2 fun x hx => (HBd.out x hx).2.2.1); omega)
  rw [HXs.out] at HE HRE
  clear h1 hk0 hc0 hone
  go_enter Try.func7, Try.ntmps7
  go_wp2_with (first
    | (go_at_call 19; go_must (refine HL.out.mono ?_; rintro e w1 ⟨rfl, rfl⟩))
    | (go_at_call 23; go_must (refine (HE.out _ HQ2.out.below).mono ?_; rintro e w1 ⟨r1, es1, rfl, hown, hins, hbb⟩; have HQ2 := Lib.hid (HQ2.out.step hbb); obtain ⟨q0, q1, q2⟩ := HQ2.out.get; have HD1 := Lib.hid (hins.eds (hown.sl len_eEd) fun x hx => by have := HBd.out x hx; omega); have hln1 := (hown.sl len_eEd).run_len (P := Try.prog) Try.underlying48; rw [hins.len] at hln1; clear hbb hown hins))
    | (go_at_call 24; go_must (refine (HR.out _ HQ2.out.below).mono ?_; rintro e w1 ⟨rfl, hbb⟩; have HQ2 := Lib.hid (HQ2.out.step hbb); obtain ⟨q0, q1, q2⟩ := HQ2.out.get; have HD1 := Lib.hid (HD1.out.ext hbb); clear hbb))
    | (go_at_call 25; go_must (refine (HRE.out _ HQ2.out.below).mono ?_; rintro e w5 ⟨r2, es2, rfl, hown, hins, hbb⟩; have HQ2 := Lib.hid (HQ2.out.step hbb); obtain ⟨q0, q1, q2⟩ := HQ2.out.get; have HD1 := Lib.hid (HD1.out.ext hbb); have HD2 := Lib.hid (hins.eds (hown.sl len_eEd) fun x hx => by have := HBd.out x hx; omega); have hln2 := (hown.sl len_eEd).run_len (P := Try.prog) Try.underlying50; rw [hins.len] at hln2; clear hbb hown hins)))
  go_loopw [6] (fun i wr => ∃ (k n : Nat), k ≤ xs.length ∧ i = .int .i64 k ∧ Hid (wr = w5.drewN n)) (fun i _ => xs.length - (intOf i).toNat)
  case atStart => exact ⟨0, 0, by omega, rfl, Lib.hid rfl⟩
  case round =>
    obtain ⟨k, n, hk, rfl, HW⟩ := hrel
    obtain rfl := HW.out
    clear HW
    by_cases hlt : k < xs.length
    · obtain ⟨b1, o1, _, hix1, A, lo, li, a1, a2, n1, c1, n2, c2, HX, HL1, HL2, c10, c11, c12, hs1, hs2, hm1, hm2, _⟩ := HD1.out.at (Below.refl _ _) Try.underlying48 cells52 some52 hlt
      obtain ⟨b2, o2, _, hix2, A', lo', li', a1', a2', n1', c1', n2', c2', HX', HL1', HL2', d10, d11, d12, ht1, ht2, _, _, _⟩ := HD2.out.at (Below.refl _ _) Try.underlying50 cells53 some53 hlt
      obtain ⟨rfl, rfl, rfl⟩ : A = A' ∧ lo = lo' ∧ li = li' := by have := HX.out.symm.trans HX'.out; simpa using this
      have HSs := Lib.hid (And.intro hs1 (And.intro hs2 (And.intro ht1 ht2)))
      clear hs1 hs2 ht1 ht2
      go_wp2_with fail
      go_quiet ((first
        | (go_at_call 22; (with_reducible exact quiet_sum (strs_same_of true (.slice a1 n1 c1) (.slice a1' n1' c1') lo lo _ (sl_drewN HSs.out.1 _) (sl_drewN HSs.out.2.2.1 _) (by simp))))
        | (go_at_call 22; (with_reducible exact quiet_sum (strs_same_of true (.slice a2 n2 c2) (.slice a2' n2' c2') li li _ (sl_drewN HSs.out.2.1 _) (sl_drewN HSs.out.2.2.2 _) (by simp))))))
      go_wp2_with fail
      go_roundw
      case rel => exact ⟨k + 1, _, by omega, by go_num, Lib.hid rfl⟩
      case measure => simp [intOf]; omega
    · have HQ3 : Hid (Box3 w (.slice x1 x2 x3) (.slice y1 y2 y3) (.slice z1 z2 z3) (w5.drewN n)) := Lib.hid (HQ2.out.step (below_drewN (Below.refl _ _) n))
      obtain ⟨q0, q1, q2⟩ := HQ3.out.get
      have HD3 := Lib.hid (eds_drewN HD1.out n)
      go_wp2_with (go_at_call 20; go_must (refine (apply_of (.ok b) _ _ a _ xs _ (ha.ext HQ3.out.below) HD3.out HS1.out HA1.out).mono ?_; rintro e w6 ⟨hbb, r3, rfl, hown⟩; have HQ3 := Lib.hid (HQ3.out.step hbb); obtain ⟨q0, q1, q2⟩ := HQ3.out.get; have HR3 := Lib.hid (hown.sl len_eStr); have HD3 := Lib.hid (HD3.out.ext hbb); clear hbb hown))
      have HW6 : Hid (Below w6.heap.size w6 w6.drew) := Lib.hid (Below.refl _ _).drew
      have HD6 := Lib.hid (HD3.out.ext HW6.out)
      have hz6 : w.heap.size < w6.heap.size := (Array.getElem?_eq_some_iff.1 HQ3.out.cells).1
      go_region_held3 (fun u => u.cell? ⟨w.heap.size, 1, none⟩ = some (.slice y1 y2 y3) ∧ w.heap.size < u.heap.size)
        (first
          | exact ⟨q1, hz6⟩
          | (go_split_ands; refine ⟨(hb8.cell (p := ⟨w.heap.size, 1, none⟩) (by assumption)).trans (by assumption), ?_⟩; have := hb8.size; omega)
          | (go_split_ands; refine ⟨(hb7.cell (p := ⟨w.heap.size, 1, none⟩) (by assumption)).trans (by assumption), ?_⟩; have := hb7.size; omega)
          | (go_split_ands; exact ⟨by assumption, by assumption⟩))
        (first
          | (go_at_call 26; refine (undo_any _ _ xs _ HD6.out (by omega) HBd.out).mono ?_; rintro e w7 ⟨r4, es4, rfl, hown4, hins4, hb7⟩)
          | (go_at_call 20; refine (apply_of (.ok a) _ _ b _ (undoF 0 xs) _ (hb.ext (HQ3.out.below.trans ((HW6.out.trans hb7).mono HQ3.out.below.size))) (hins4.eds (hown4.sl len_eEd) HUw.out) HS2.out HA2.out).mono ?_; rintro e w8 ⟨hb8, r5, rfl, hown5⟩))
      have HQ8 := Lib.hid (HQ3.out.step ((HW6.out.trans hb7).trans (hb8.mono (Nat.le_trans HW6.out.size hb7.size))))
      have HR5 := Lib.hid (hown5.sl len_eStr)
      have HRz := Lib.hid (HR3.out.ext ((HW6.out.trans hb7).trans (hb8.mono (Nat.le_trans HW6.out.size hb7.size))))
      obtain ⟨q0, q1, q2⟩ := HQ8.out.get
      clear hb7 hb8 hown4 hown5 hins4
      go_wp2_with (first
        | (go_at_call 22; have _g := HRz.out; go_must (refine (strs_self _ _ b _ HRz.out (hb.ext HQ8.out.below)).mono ?_; rintro e w9 ⟨rfl, hbb⟩; have HQ8 := Lib.hid (HQ8.out.step hbb); obtain ⟨q0, q1, q2⟩ := HQ8.out.get; have HR5 := Lib.hid (HR5.out.ext hbb); clear hbb HRz))
        | (go_at_call 22; go_must (refine (strs_self _ _ a _ HR5.out (ha.ext HQ8.out.below)).mono ?_; rintro e w9 ⟨rfl, hbb⟩; have HQ8 := Lib.hid (HQ8.out.step hbb); obtain ⟨q0, q1, q2⟩ := HQ8.out.get; clear hbb))
        | (go_at_call 8; go_must (refine (works_any _).mono ?_; rintro e w9 ⟨rfl, hbb⟩; have HQ8 := Lib.hid (HQ8.out.step hbb); clear hbb)))
      go_ret
      exact ⟨rfl, HQ8.out.below⟩

theorem editslaw (va vb vl : Value) (a b : List ByteArray) (l : List (Int × Int)) (w : World) (ha : Sl eStr 1 w va a) (hb : Sl eStr 1 w vb b) (hl : Sl ePair 2 w vl l) :
    Calls Try.prog 7 #[.agg #[va, vb, vl]] w fun e w' => e = .returned (.bool true) ∧ Below w.heap.size w w' := by
  by_cases h : (200 < a.length ∨ 200 < b.length) ∨ 1000 < l.length
  · exact editslaw_long va vb vl a b l w ha hb hl h
  · have h1 : ¬ (200 < a.length ∨ 200 < b.length) := fun e => h (.inl e)
    have h2 : l.length ≤ 1000 := by omega
    rcases alk_cases a b l with ⟨e1, e2, e3⟩ | e1 | e1
    · exact editslaw_good va vb vl a b l w ha hb hl h1 h2 e1 e2 e3
    · exact editslaw_err va vb vl a b l 2 w ha hb hl h1 h2 e1 rfl
    · exact editslaw_err va vb vl a b l 12 w ha hb hl h1 h2 e1 rfl
end Go.Proofs.Ytdlmdjhnigbfpaa
