/-
  The laws ScriptHunks and ScriptBack at values that read as lists of pairs and hunks. No condition.
-/
import Derived.Test.YtdlmdjhnigbfpaaW7
import Derived.Test.YtdlmdjhnigbfpaaW8
import Derived.Test.YtdlmdjhnigbfpaaP3
namespace Go.Proofs.Ytdlmdjhnigbfpaa
open Go.RowKit Go.Sl Go.Scr

/-- the world u came of w with a box of two values laid first -/
structure Boxed (w : World) (x y : Value) (u : World) : Prop where
  bel : Below (w.heap.size + 1) (w.alloc (.cells #[x, y] 35)) u
theorem Boxed.start (w : World) (x y : Value) : Boxed w x y (w.alloc (.cells #[x, y] 35)) := ⟨Below.refl _ _⟩
theorem Boxed.size {w u : World} {x y : Value} (h : Boxed w x y u) : w.heap.size + 1 ≤ u.heap.size := by
  have := h.bel.size; simpa using this
theorem Boxed.step {w u u' : World} {x y : Value} (h : Boxed w x y u) (hb : Below u.heap.size u u') : Boxed w x y u' := ⟨h.bel.trans (hb.mono h.size)⟩
theorem Boxed.below {w u : World} {x y : Value} (h : Boxed w x y u) : Below w.heap.size w u := ((Below.refl _ _).alloc (Nat.le_refl _) _).trans (h.bel.mono (by omega))
theorem Boxed.cells {w u : World} {x y : Value} (h : Boxed w x y u) : u.cell? ⟨w.heap.size, 0, none⟩ = some x ∧ u.cell? ⟨w.heap.size, 1, none⟩ = some y := by
  have e := (h.bel.block w.heap.size (by omega)).trans (heap_alloc_new _ _)
  obtain ⟨_, e0, e1, _, _⟩ := two_cells e
  exact ⟨e0, e1⟩

theorem chk_calls (n m : Int) (lv : Value) (l : List (Int × Int)) (c : Int) (hc : chk n m l = c) : (∀ u, Sl ePair 2 u lv l → Calls Try.prog 12 #[.int .i64 n, .int .i64 m, lv] u fun e w' => e = .returned (.int .i64 c) ∧ Below u.heap.size u w') ∧
    (∀ u, Sl ePair 2 u lv l → Calls Try.prog 11 #[.int .i64 n, .int .i64 m, lv] u fun e w' => e = .returned (.int .i64 c) ∧ Below u.heap.size u w') := by
  subst hc
  exact ⟨fun u hu => rcheck_any n m lv l u hu, fun u hu => check_any n m lv l u hu⟩

/-- both tell the same pairs of hunks, or none -/
theorem pairs_calls (n m : Int) (v : Value) (h : List (Int × Int × Int × Int)) (o : Option (List (Int × Int))) (ho : pairs n m h = o) (hmax : h.length ≤ 1000000) : (∀ u, Sl eHunk 4 u v h → Calls Try.prog 16 #[.int .i64 n, .int .i64 m, v] u (PairsPost u.heap.size u o)) ∧
    (∀ u, Sl eHunk 4 u v h → Calls Try.prog 17 #[.int .i64 n, .int .i64 m, v] u (RPairsPost u.heap.size u o)) := by
  subst ho
  exact ⟨fun u hu => pairs_any n m v h u hu, fun u hu => rpairs_any n m v h u hu hmax⟩

set_option maxRecDepth 100000 in
set_option maxHeartbeats 1000000 in
theorem hunkslaw_long (n m : Int) (lv hv : Value) (l : List (Int × Int)) (h : List (Int × Int × Int × Int)) (w : World) (hl : Sl ePair 2 w lv l) (hh : Sl eHunk 4 w hv h) (hlong : 1000 < l.length ∨ 1000 < h.length) :
    Calls Try.prog 4 #[.int .i64 n, .int .i64 m, .agg #[lv, hv]] w fun e w' => e = .returned (.bool true) ∧ Below w.heap.size w w' := by
  have e1 := hl.run_len (P := Try.prog) Try.underlying23
  have e2 := hh.run_len (P := Try.prog) Try.underlying33
  have HB := Lib.hid ((Below.refl w.heap.size w).alloc (Nat.le_refl _) (.cells #[lv, hv] 35))
  by_cases h1 : 1000 < l.length
  · go_enter Try.func4, Try.ntmps4
    go_wp2_with (go_at_call 8; go_must (refine (works_any _).mono ?_; rintro e w1 ⟨rfl, hb⟩))
    go_ret
    exact ⟨rfl, HB.out.trans (hb.mono HB.out.size)⟩
  · have h2 : 1000 < h.length := by omega
    go_enter Try.func4, Try.ntmps4
    go_wp2_with (go_at_call 8; go_must (refine (works_any _).mono ?_; rintro e w1 ⟨rfl, hb⟩))
    go_ret
    exact ⟨rfl, HB.out.trans (hb.mono HB.out.size)⟩

theorem same_self (v1 v2 : Value) (l : List (Int × Int)) (w : World) (h1 : Sl ePair 2 w v1 l) (h2 : Sl ePair 2 w v2 l) :
    Calls Try.prog 18 #[v1, v2] w fun e w' => e = .returned (.bool true) ∧ Below w.heap.size w w' := by
  have := same_any v1 v2 l l w h1 h2 rfl
  simpa using this
theorem samehunks_self (v1 v2 : Value) (l : List (Int × Int × Int × Int)) (w : World) (h1 : Sl eHunk 4 w v1 l) (h2 : Sl eHunk 4 w v2 l) :
    Calls Try.prog 14 #[v1, v2] w fun e w' => e = .returned (.bool true) ∧ Below w.heap.size w w' := by
  have := samehunks_any v1 v2 l l w h1 h2 rfl
  simpa using this

set_option maxRecDepth 100000 in
set_option maxHeartbeats 2000000 in
theorem hunkslaw_nn (n m : Int) (lv hv : Value) (l : List (Int × Int)) (h : List (Int × Int × Int × Int)) (w : World) (hl : Sl ePair 2 w lv l) (hh : Sl eHunk 4 w hv h) (h1 : l.length ≤ 1000) (h2 : h.length ≤ 1000) (hc : chk n m l = 12) (ho : pairs n m h = none) :
    Calls Try.prog 4 #[.int .i64 n, .int .i64 m, .agg #[lv, hv]] w fun e w' => e = .returned (.bool true) ∧ Below w.heap.size w w' := by
  have e1 := hl.run_len (P := Try.prog) Try.underlying23
  have e2 := hh.run_len (P := Try.prog) Try.underlying33
  have HQ := Lib.hid (Boxed.start w lv hv)
  have HC := Lib.hid (chk_calls n m lv l 12 hc)
  have HP := Lib.hid (pairs_calls n m hv h none ho (by omega))
  have HN := Lib.hid hc
  clear hc ho
  go_enter Try.func4, Try.ntmps4
  go_wp2_with (first
    | (go_at_call 12; go_must (refine (HC.out.1 _ (hl.ext HQ.out.below)).mono ?_; rintro e w1 ⟨rfl, hb⟩; have HQ := Lib.hid (HQ.out.step hb); obtain ⟨q0, q1⟩ := HQ.out.cells; clear hb))
    | (go_at_call 11; go_must (refine (HC.out.2 _ (hl.ext HQ.out.below)).mono ?_; rintro e w1 ⟨rfl, hb⟩; have HQ := Lib.hid (HQ.out.step hb); obtain ⟨q0, q1⟩ := HQ.out.cells; clear hb))
    | (go_at_call 13; go_must (refine (hunks_no n m lv l _ (hl.ext HQ.out.below) HN.out).mono ?_; rintro e w1 ⟨rfl, hb⟩; have HQ := Lib.hid (HQ.out.step hb); obtain ⟨q0, q1⟩ := HQ.out.cells; clear hb))
    | (go_at_call 16; go_must (refine (HP.out.1 _ (hh.ext HQ.out.below)).mono ?_; rintro e w1 ⟨hb, rfl⟩; have HQ := Lib.hid (HQ.out.step hb); obtain ⟨q0, q1⟩ := HQ.out.cells; clear hb))
    | (go_at_call 17; go_must (refine (HP.out.2 _ (hh.ext HQ.out.below)).mono ?_; rintro e w1 ⟨hb, rfl⟩; have HQ := Lib.hid (HQ.out.step hb); obtain ⟨q0, q1⟩ := HQ.out.cells; clear hb))
    | (go_at_call 18; go_must (refine (same_self _ _ [] _ (Sl.nil _ _ _) (Sl.nil _ _ _)).mono ?_; rintro e w1 ⟨rfl, hb⟩; have HQ := Lib.hid (HQ.out.step hb); obtain ⟨q0, q1⟩ := HQ.out.cells; clear hb))
    | (go_at_call 8; go_must (refine (works_any _).mono ?_; rintro e w1 ⟨rfl, hb⟩; have HQ := Lib.hid (HQ.out.step hb); clear hb)))
  go_ret
  exact ⟨rfl, HQ.out.below⟩

set_option maxRecDepth 100000 in
set_option maxHeartbeats 2000000 in
theorem hunkslaw_ns (n m : Int) (lv hv : Value) (l : List (Int × Int)) (h : List (Int × Int × Int × Int)) (w : World) (hl : Sl ePair 2 w lv l) (hh : Sl eHunk 4 w hv h) (h1 : l.length ≤ 1000) (h2 : h.length ≤ 1000) (hc : chk n m l = 12) (ls : List (Int × Int)) (ho : pairs n m h = some ls) :
    Calls Try.prog 4 #[.int .i64 n, .int .i64 m, .agg #[lv, hv]] w fun e w' => e = .returned (.bool true) ∧ Below w.heap.size w w' := by
  have e1 := hl.run_len (P := Try.prog) Try.underlying23
  have e2 := hh.run_len (P := Try.prog) Try.underlying33
  have HQ := Lib.hid (Boxed.start w lv hv)
  have HC := Lib.hid (chk_calls n m lv l 12 hc)
  have HP := Lib.hid (pairs_calls n m hv h (some ls) ho (by omega))
  have HN := Lib.hid hc
  clear hc ho
  go_enter Try.func4, Try.ntmps4
  go_wp2_with (first
    | (go_at_call 12; go_must (refine (HC.out.1 _ (hl.ext HQ.out.below)).mono ?_; rintro e w1 ⟨rfl, hb⟩; have HQ := Lib.hid (HQ.out.step hb); obtain ⟨q0, q1⟩ := HQ.out.cells; clear hb))
    | (go_at_call 11; go_must (refine (HC.out.2 _ (hl.ext HQ.out.below)).mono ?_; rintro e w1 ⟨rfl, hb⟩; have HQ := Lib.hid (HQ.out.step hb); obtain ⟨q0, q1⟩ := HQ.out.cells; clear hb))
    | (go_at_call 13; go_must (refine (hunks_no n m lv l _ (hl.ext HQ.out.below) HN.out).mono ?_; rintro e w1 ⟨rfl, hb⟩; have HQ := Lib.hid (HQ.out.step hb); obtain ⟨q0, q1⟩ := HQ.out.cells; clear hb))
    | (go_at_call 16; go_must (refine (HP.out.1 _ (hh.ext HQ.out.below)).mono ?_; rintro e w1 ⟨hb, r1, rfl, hown⟩; have HQ := Lib.hid (HQ.out.step hb); obtain ⟨q0, q1⟩ := HQ.out.cells; have HR := Lib.hid (hown.sl len_ePair); clear hb hown))
    | (go_at_call 17; go_must (refine (HP.out.2 _ (hh.ext HQ.out.below)).mono ?_; rintro e w1 ⟨hb, r2, rfl, hown⟩; have HQ := Lib.hid (HQ.out.step hb); obtain ⟨q0, q1⟩ := HQ.out.cells; have HR := Lib.hid (HR.out.ext hb); have HR2 := Lib.hid (hown.sl len_ePair); clear hb hown))
    | (go_at_call 18; go_must (refine (same_self _ _ _ _ HR.out HR2.out).mono ?_; rintro e w1 ⟨rfl, hb⟩; have HQ := Lib.hid (HQ.out.step hb); obtain ⟨q0, q1⟩ := HQ.out.cells; clear hb))
    | (go_at_call 8; go_must (refine (works_any _).mono ?_; rintro e w1 ⟨rfl, hb⟩; have HQ := Lib.hid (HQ.out.step hb); clear hb)))
  go_ret
  exact ⟨rfl, HQ.out.below⟩

set_option maxRecDepth 100000 in
set_option maxHeartbeats 2000000 in
theorem hunkslaw_sn (n m : Int) (lv hv : Value) (l : List (Int × Int)) (h : List (Int × Int × Int × Int)) (w : World) (hl : Sl ePair 2 w lv l) (hh : Sl eHunk 4 w hv h) (h1 : l.length ≤ 1000) (h2 : h.length ≤ 1000) (hc : chk n m l = 0) (ho : pairs n m h = none) :
    Calls Try.prog 4 #[.int .i64 n, .int .i64 m, .agg #[lv, hv]] w fun e w' => e = .returned (.bool true) ∧ Below w.heap.size w w' := by
  have e1 := hl.run_len (P := Try.prog) Try.underlying23
  have e2 := hh.run_len (P := Try.prog) Try.underlying33
  have HQ := Lib.hid (Boxed.start w lv hv)
  have HC := Lib.hid (chk_calls n m lv l 0 hc)
  have HP := Lib.hid (pairs_calls n m hv h none ho (by omega))
  have HN := Lib.hid hc
  clear hc ho
  go_enter Try.func4, Try.ntmps4
  go_wp2_with (first
    | (go_at_call 12; go_must (refine (HC.out.1 _ (hl.ext HQ.out.below)).mono ?_; rintro e w1 ⟨rfl, hb⟩; have HQ := Lib.hid (HQ.out.step hb); obtain ⟨q0, q1⟩ := HQ.out.cells; clear hb))
    | (go_at_call 11; go_must (refine (HC.out.2 _ (hl.ext HQ.out.below)).mono ?_; rintro e w1 ⟨rfl, hb⟩; have HQ := Lib.hid (HQ.out.step hb); obtain ⟨q0, q1⟩ := HQ.out.cells; have HH := Lib.hid (HH.out.ext hb); clear hb))
    | (go_at_call 13; go_must (refine (hunks_any n m lv l _ (hl.ext HQ.out.below) HN.out).mono ?_; rintro e w1 ⟨rh, rfl, hown, hb⟩; have HQ := Lib.hid (HQ.out.step hb); obtain ⟨q0, q1⟩ := HQ.out.cells; have HH := Lib.hid (hown.sl len_eHunk); clear hb hown))
    | (go_at_call 15; go_must (refine (rhunks_any n m lv l _ (hl.ext HQ.out.below) HN.out).mono ?_; rintro e w1 ⟨rh2, rfl, hown, hb⟩; have HQ := Lib.hid (HQ.out.step hb); obtain ⟨q0, q1⟩ := HQ.out.cells; have HH := Lib.hid (HH.out.ext hb); have HH2 := Lib.hid (hown.sl len_eHunk); clear hb hown))
    | (go_at_call 14; go_must (refine (samehunks_self _ _ _ _ HH.out HH2.out).mono ?_; rintro e w1 ⟨rfl, hb⟩; have HQ := Lib.hid (HQ.out.step hb); obtain ⟨q0, q1⟩ := HQ.out.cells; clear hb))
    | (go_at_call 16; go_must (refine (HP.out.1 _ (hh.ext HQ.out.below)).mono ?_; rintro e w1 ⟨hb, rfl⟩; have HQ := Lib.hid (HQ.out.step hb); obtain ⟨q0, q1⟩ := HQ.out.cells; clear hb))
    | (go_at_call 17; go_must (refine (HP.out.2 _ (hh.ext HQ.out.below)).mono ?_; rintro e w1 ⟨hb, rfl⟩; have HQ := Lib.hid (HQ.out.step hb); obtain ⟨q0, q1⟩ := HQ.out.cells; clear hb))
    | (go_at_call 18; go_must (refine (same_self _ _ [] _ (Sl.nil _ _ _) (Sl.nil _ _ _)).mono ?_; rintro e w1 ⟨rfl, hb⟩; have HQ := Lib.hid (HQ.out.step hb); obtain ⟨q0, q1⟩ := HQ.out.cells; clear hb))
    | (go_at_call 8; go_must (refine (works_any _).mono ?_; rintro e w1 ⟨rfl, hb⟩; have HQ := Lib.hid (HQ.out.step hb); clear hb)))
  go_ret
  exact ⟨rfl, HQ.out.below⟩

set_option maxRecDepth 100000 in
set_option maxHeartbeats 2000000 in
theorem hunkslaw_ss (n m : Int) (lv hv : Value) (l : List (Int × Int)) (h : List (Int × Int × Int × Int)) (w : World) (hl : Sl ePair 2 w lv l) (hh : Sl eHunk 4 w hv h) (h1 : l.length ≤ 1000) (h2 : h.length ≤ 1000) (hc : chk n m l = 0) (ls : List (Int × Int)) (ho : pairs n m h = some ls) :
    Calls Try.prog 4 #[.int .i64 n, .int .i64 m, .agg #[lv, hv]] w fun e w' => e = .returned (.bool true) ∧ Below w.heap.size w w' := by
  have e1 := hl.run_len (P := Try.prog) Try.underlying23
  have e2 := hh.run_len (P := Try.prog) Try.underlying33
  have HQ := Lib.hid (Boxed.start w lv hv)
  have HC := Lib.hid (chk_calls n m lv l 0 hc)
  have HP := Lib.hid (pairs_calls n m hv h (some ls) ho (by omega))
  have HN := Lib.hid hc
  clear hc ho
  go_enter Try.func4, Try.ntmps4
  go_wp2_with (first
    | (go_at_call 12; go_must (refine (HC.out.1 _ (hl.ext HQ.out.below)).mono ?_; rintro e w1 ⟨rfl, hb⟩; have HQ := Lib.hid (HQ.out.step hb); obtain ⟨q0, q1⟩ := HQ.out.cells; clear hb))
    | (go_at_call 11; go_must (refine (HC.out.2 _ (hl.ext HQ.out.below)).mono ?_; rintro e w1 ⟨rfl, hb⟩; have HQ := Lib.hid (HQ.out.step hb); obtain ⟨q0, q1⟩ := HQ.out.cells; have HH := Lib.hid (HH.out.ext hb); clear hb))
    | (go_at_call 13; go_must (refine (hunks_any n m lv l _ (hl.ext HQ.out.below) HN.out).mono ?_; rintro e w1 ⟨rh, rfl, hown, hb⟩; have HQ := Lib.hid (HQ.out.step hb); obtain ⟨q0, q1⟩ := HQ.out.cells; have HH := Lib.hid (hown.sl len_eHunk); clear hb hown))
    | (go_at_call 15; go_must (refine (rhunks_any n m lv l _ (hl.ext HQ.out.below) HN.out).mono ?_; rintro e w1 ⟨rh2, rfl, hown, hb⟩; have HQ := Lib.hid (HQ.out.step hb); obtain ⟨q0, q1⟩ := HQ.out.cells; have HH := Lib.hid (HH.out.ext hb); have HH2 := Lib.hid (hown.sl len_eHunk); clear hb hown))
    | (go_at_call 14; go_must (refine (samehunks_self _ _ _ _ HH.out HH2.out).mono ?_; rintro e w1 ⟨rfl, hb⟩; have HQ := Lib.hid (HQ.out.step hb); obtain ⟨q0, q1⟩ := HQ.out.cells; clear hb))
    | (go_at_call 16; go_must (refine (HP.out.1 _ (hh.ext HQ.out.below)).mono ?_; rintro e w1 ⟨hb, r1, rfl, hown⟩; have HQ := Lib.hid (HQ.out.step hb); obtain ⟨q0, q1⟩ := HQ.out.cells; have HR := Lib.hid (hown.sl len_ePair); clear hb hown))
    | (go_at_call 17; go_must (refine (HP.out.2 _ (hh.ext HQ.out.below)).mono ?_; rintro e w1 ⟨hb, r2, rfl, hown⟩; have HQ := Lib.hid (HQ.out.step hb); obtain ⟨q0, q1⟩ := HQ.out.cells; have HR := Lib.hid (HR.out.ext hb); have HR2 := Lib.hid (hown.sl len_ePair); clear hb hown))
    | (go_at_call 18; go_must (refine (same_self _ _ _ _ HR.out HR2.out).mono ?_; rintro e w1 ⟨rfl, hb⟩; have HQ := Lib.hid (HQ.out.step hb); obtain ⟨q0, q1⟩ := HQ.out.cells; clear hb))
    | (go_at_call 8; go_must (refine (works_any _).mono ?_; rintro e w1 ⟨rfl, hb⟩; have HQ := Lib.hid (HQ.out.step hb); clear hb)))
  go_ret
  exact ⟨rfl, HQ.out.below⟩

theorem hunkslaw_any (n m : Int) (lv hv : Value) (l : List (Int × Int)) (h : List (Int × Int × Int × Int)) (w : World) (hl : Sl ePair 2 w lv l) (hh : Sl eHunk 4 w hv h) :
    Calls Try.prog 4 #[.int .i64 n, .int .i64 m, .agg #[lv, hv]] w fun e w' => e = .returned (.bool true) ∧ Below w.heap.size w w' := by
  by_cases hlong : 1000 < l.length ∨ 1000 < h.length
  · exact hunkslaw_long n m lv hv l h w hl hh hlong
  · have h1 : l.length ≤ 1000 := by omega
    have h2 : h.length ≤ 1000 := by omega
    rcases chk_cases n m l with hc | hc
    · cases ho : pairs n m h with
      | none => exact hunkslaw_sn n m lv hv l h w hl hh h1 h2 hc ho
      | some ls => exact hunkslaw_ss n m lv hv l h w hl hh h1 h2 hc ls ho
    · cases ho : pairs n m h with
      | none => exact hunkslaw_nn n m lv hv l h w hl hh h1 h2 hc ho
      | some ls => exact hunkslaw_ns n m lv hv l h w hl hh h1 h2 hc ls ho

end Go.Proofs.Ytdlmdjhnigbfpaa
