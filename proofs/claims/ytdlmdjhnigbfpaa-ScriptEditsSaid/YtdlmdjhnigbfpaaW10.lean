/-
  The law ScriptBack at values that read as lists of pairs and hunks. No condition.
-/
import Derived.Test.YtdlmdjhnigbfpaaW9
namespace Go.Proofs.Ytdlmdjhnigbfpaa
open Go.RowKit Go.Sl Go.Scr

theorem pairs_of (n m : Int) (v : Value) (h : List (Int × Int × Int × Int)) (o : Option (List (Int × Int))) (ho : pairs n m h = o) :
    ∀ u, Sl eHunk 4 u v h → Calls Try.prog 16 #[.int .i64 n, .int .i64 m, v] u (PairsPost u.heap.size u o) := by
  subst ho
  exact fun u hu => pairs_any n m v h u hu
theorem hunks_of (n m : Int) (v : Value) (l : List (Int × Int)) (h : List (Int × Int × Int × Int)) (w : World) (hv : Sl ePair 2 w v l) (hc : chk n m l = 0 ∧ hunks n m l = h) :
    Calls Try.prog 13 #[.int .i64 n, .int .i64 m, v] w fun e w' => ∃ r, e = .returned (.tuple #[r, .int .i64 0]) ∧ Own eHunk 4 w.heap.size 69 w' r h ∧ Below w.heap.size w w' := by
  rw [← hc.2]; exact hunks_any n m v l w hv hc.1

set_option maxRecDepth 100000 in
set_option maxHeartbeats 1000000 in
theorem backlaw_long (n m : Int) (lv hv : Value) (l : List (Int × Int)) (h : List (Int × Int × Int × Int)) (w : World) (hl : Sl ePair 2 w lv l) (hh : Sl eHunk 4 w hv h) (hlong : 1000 < l.length ∨ 1000 < h.length) :
    Calls Try.prog 5 #[.int .i64 n, .int .i64 m, .agg #[lv, hv]] w fun e w' => e = .returned (.bool true) ∧ Below w.heap.size w w' := by
  have e1 := hl.run_len (P := Try.prog) Try.underlying23
  have e2 := hh.run_len (P := Try.prog) Try.underlying33
  have HB := Lib.hid ((Below.refl w.heap.size w).alloc (Nat.le_refl _) (.cells #[lv, hv] 35))
  by_cases h1 : 1000 < l.length
  · go_enter Try.func5, Try.ntmps5
    go_wp2_with (go_at_call 8; go_must (refine (works_any _).mono ?_; rintro e w1 ⟨rfl, hb⟩))
    go_ret
    exact ⟨rfl, HB.out.trans (hb.mono HB.out.size)⟩
  · have h2 : 1000 < h.length := by omega
    go_enter Try.func5, Try.ntmps5
    go_wp2_with (go_at_call 8; go_must (refine (works_any _).mono ?_; rintro e w1 ⟨rfl, hb⟩))
    go_ret
    exact ⟨rfl, HB.out.trans (hb.mono HB.out.size)⟩

set_option maxRecDepth 100000 in
set_option maxHeartbeats 2000000 in
theorem backlaw_nn (n m : Int) (lv hv : Value) (l : List (Int × Int)) (h : List (Int × Int × Int × Int)) (w : World) (hl : Sl ePair 2 w lv l) (hh : Sl eHunk 4 w hv h) (h1 : l.length ≤ 1000) (h2 : h.length ≤ 1000) (hc : chk n m l = 12) (ho : pairs n m h = none) :
    Calls Try.prog 5 #[.int .i64 n, .int .i64 m, .agg #[lv, hv]] w fun e w' => e = .returned (.bool true) ∧ Below w.heap.size w w' := by
  have e1 := hl.run_len (P := Try.prog) Try.underlying23
  have e2 := hh.run_len (P := Try.prog) Try.underlying33
  have HQ := Lib.hid (Boxed.start w lv hv)
  have HN := Lib.hid hc
  have HO := Lib.hid ho
  clear hc ho
  go_enter Try.func5, Try.ntmps5
  go_wp2_with (first
    | (go_at_call 16; refine ((pairs_of n m hv h none HO.out) _ (hh.ext HQ.out.below)).mono ?_; rintro e w1 ⟨hb, rfl⟩; have HQ := Lib.hid (HQ.out.step hb); obtain ⟨q0, q1⟩ := HQ.out.cells; clear hb)
    | (go_at_call 13; refine (hunks_no n m lv l _ (hl.ext HQ.out.below) HN.out).mono ?_; rintro e w1 ⟨rfl, hb⟩; have HQ := Lib.hid (HQ.out.step hb); obtain ⟨q0, q1⟩ := HQ.out.cells; clear hb)
    | (go_at_call 8; go_must (refine (works_any _).mono ?_; rintro e w1 ⟨rfl, hb⟩; have HQ := Lib.hid (HQ.out.step hb); clear hb)))
  go_ret
  exact ⟨rfl, HQ.out.below⟩

set_option maxRecDepth 100000 in
set_option maxHeartbeats 2000000 in
theorem backlaw_ns (n m : Int) (lv hv : Value) (l : List (Int × Int)) (h : List (Int × Int × Int × Int)) (w : World) (hl : Sl ePair 2 w lv l) (hh : Sl eHunk 4 w hv h) (h1 : l.length ≤ 1000) (h2 : h.length ≤ 1000) (hc : chk n m l = 12) (ls : List (Int × Int)) (ho : pairs n m h = some ls) :
    Calls Try.prog 5 #[.int .i64 n, .int .i64 m, .agg #[lv, hv]] w fun e w' => e = .returned (.bool true) ∧ Below w.heap.size w w' := by
  have e1 := hl.run_len (P := Try.prog) Try.underlying23
  have e2 := hh.run_len (P := Try.prog) Try.underlying33
  have HQ := Lib.hid (Boxed.start w lv hv)
  have HN := Lib.hid hc
  have HO := Lib.hid ho
  have HB2 := Lib.hid (hunks_pairs ho)
  clear hc ho
  go_enter Try.func5, Try.ntmps5
  go_wp2_with (first
    | (go_at_call 16; refine ((pairs_of n m hv h (some ls) HO.out) _ (hh.ext HQ.out.below)).mono ?_; rintro e w1 ⟨hb, r2, rfl, hown⟩; have HQ := Lib.hid (HQ.out.step hb); obtain ⟨q0, q1⟩ := HQ.out.cells; have HR2 := Lib.hid (hown.sl len_ePair); clear hb hown)
    | (go_at_call 13; refine (hunks_of n m _ ls h _ HR2.out HB2.out).mono ?_; rintro e w1 ⟨rk, rfl, hown, hb⟩; have HQ := Lib.hid (HQ.out.step hb); obtain ⟨q0, q1⟩ := HQ.out.cells; have HK := Lib.hid (hown.sl len_eHunk); clear hb hown)
    | (go_at_call 14; refine (samehunks_self _ _ h _ HK.out (hh.ext HQ.out.below)).mono ?_; rintro e w1 ⟨rfl, hb⟩; have HQ := Lib.hid (HQ.out.step hb); obtain ⟨q0, q1⟩ := HQ.out.cells; clear hb)
    | (go_at_call 13; refine (hunks_no n m lv l _ (hl.ext HQ.out.below) HN.out).mono ?_; rintro e w1 ⟨rfl, hb⟩; have HQ := Lib.hid (HQ.out.step hb); obtain ⟨q0, q1⟩ := HQ.out.cells; clear hb)
    | (go_at_call 8; go_must (refine (works_any _).mono ?_; rintro e w1 ⟨rfl, hb⟩; have HQ := Lib.hid (HQ.out.step hb); clear hb)))
  go_ret
  exact ⟨rfl, HQ.out.below⟩

set_option maxRecDepth 100000 in
set_option maxHeartbeats 2000000 in
theorem backlaw_sn (n m : Int) (lv hv : Value) (l : List (Int × Int)) (h : List (Int × Int × Int × Int)) (w : World) (hl : Sl ePair 2 w lv l) (hh : Sl eHunk 4 w hv h) (h1 : l.length ≤ 1000) (h2 : h.length ≤ 1000) (hc : chk n m l = 0) (ho : pairs n m h = none) :
    Calls Try.prog 5 #[.int .i64 n, .int .i64 m, .agg #[lv, hv]] w fun e w' => e = .returned (.bool true) ∧ Below w.heap.size w w' := by
  have e1 := hl.run_len (P := Try.prog) Try.underlying23
  have e2 := hh.run_len (P := Try.prog) Try.underlying33
  have HQ := Lib.hid (Boxed.start w lv hv)
  have HN := Lib.hid hc
  have HO := Lib.hid ho
  clear hc ho
  go_enter Try.func5, Try.ntmps5
  go_wp2_with (first
    | (go_at_call 16; have _g := H18.out; refine ((pairs_of n m hv h none HO.out) _ (hh.ext HQ.out.below)).mono ?_; rintro e w1 ⟨hb, rfl⟩; have HQ := Lib.hid (HQ.out.step hb); obtain ⟨q0, q1⟩ := HQ.out.cells; clear hb)
    | (go_at_call 13; refine (hunks_any n m lv l _ (hl.ext HQ.out.below) HN.out).mono ?_; rintro e w1 ⟨rh, rfl, hown, hb⟩; have HQ := Lib.hid (HQ.out.step hb); obtain ⟨q0, q1⟩ := HQ.out.cells; have HH := Lib.hid (hown.sl len_eHunk); clear hb hown)
    | (go_at_call 16; refine ((pairs_of n m _ (hunks n m l) (some l) (pairs_hunks HN.out)) _ HH.out).mono ?_; rintro e w1 ⟨hb, r1, rfl, hown⟩; have HQ := Lib.hid (HQ.out.step hb); obtain ⟨q0, q1⟩ := HQ.out.cells; have HR1 := Lib.hid (hown.sl len_ePair); clear hb hown)
    | (go_at_call 18; refine (same_self _ _ l _ HR1.out (hl.ext HQ.out.below)).mono ?_; rintro e w1 ⟨rfl, hb⟩; have HQ := Lib.hid (HQ.out.step hb); obtain ⟨q0, q1⟩ := HQ.out.cells; have H18 := Lib.hid True.intro; clear hb)
    | (go_at_call 8; go_must (refine (works_any _).mono ?_; rintro e w1 ⟨rfl, hb⟩; have HQ := Lib.hid (HQ.out.step hb); clear hb)))
  go_ret
  exact ⟨rfl, HQ.out.below⟩

set_option maxRecDepth 100000 in
set_option maxHeartbeats 2000000 in
theorem backlaw_ss (n m : Int) (lv hv : Value) (l : List (Int × Int)) (h : List (Int × Int × Int × Int)) (w : World) (hl : Sl ePair 2 w lv l) (hh : Sl eHunk 4 w hv h) (h1 : l.length ≤ 1000) (h2 : h.length ≤ 1000) (hc : chk n m l = 0) (ls : List (Int × Int)) (ho : pairs n m h = some ls) :
    Calls Try.prog 5 #[.int .i64 n, .int .i64 m, .agg #[lv, hv]] w fun e w' => e = .returned (.bool true) ∧ Below w.heap.size w w' := by
  have e1 := hl.run_len (P := Try.prog) Try.underlying23
  have e2 := hh.run_len (P := Try.prog) Try.underlying33
  have HQ := Lib.hid (Boxed.start w lv hv)
  have HN := Lib.hid hc
  have HO := Lib.hid ho
  have HB2 := Lib.hid (hunks_pairs ho)
  clear hc ho
  go_enter Try.func5, Try.ntmps5
  go_wp2_with (first
    | (go_at_call 16; have _g := H18.out; refine ((pairs_of n m hv h (some ls) HO.out) _ (hh.ext HQ.out.below)).mono ?_; rintro e w1 ⟨hb, r2, rfl, hown⟩; have HQ := Lib.hid (HQ.out.step hb); obtain ⟨q0, q1⟩ := HQ.out.cells; have HR2 := Lib.hid (hown.sl len_ePair); clear hb hown)
    | (go_at_call 13; refine (hunks_of n m _ ls h _ HR2.out HB2.out).mono ?_; rintro e w1 ⟨rk, rfl, hown, hb⟩; have HQ := Lib.hid (HQ.out.step hb); obtain ⟨q0, q1⟩ := HQ.out.cells; have HK := Lib.hid (hown.sl len_eHunk); clear hb hown)
    | (go_at_call 14; refine (samehunks_self _ _ h _ HK.out (hh.ext HQ.out.below)).mono ?_; rintro e w1 ⟨rfl, hb⟩; have HQ := Lib.hid (HQ.out.step hb); obtain ⟨q0, q1⟩ := HQ.out.cells; clear hb)
    | (go_at_call 13; refine (hunks_any n m lv l _ (hl.ext HQ.out.below) HN.out).mono ?_; rintro e w1 ⟨rh, rfl, hown, hb⟩; have HQ := Lib.hid (HQ.out.step hb); obtain ⟨q0, q1⟩ := HQ.out.cells; have HH := Lib.hid (hown.sl len_eHunk); clear hb hown)
    | (go_at_call 16; refine ((pairs_of n m _ (hunks n m l) (some l) (pairs_hunks HN.out)) _ HH.out).mono ?_; rintro e w1 ⟨hb, r1, rfl, hown⟩; have HQ := Lib.hid (HQ.out.step hb); obtain ⟨q0, q1⟩ := HQ.out.cells; have HR1 := Lib.hid (hown.sl len_ePair); clear hb hown)
    | (go_at_call 18; refine (same_self _ _ l _ HR1.out (hl.ext HQ.out.below)).mono ?_; rintro e w1 ⟨rfl, hb⟩; have HQ := Lib.hid (HQ.out.step hb); obtain ⟨q0, q1⟩ := HQ.out.cells; have H18 := Lib.hid True.intro; clear hb)
    | (go_at_call 8; go_must (refine (works_any _).mono ?_; rintro e w1 ⟨rfl, hb⟩; have HQ := Lib.hid (HQ.out.step hb); clear hb)))
  go_ret
  exact ⟨rfl, HQ.out.below⟩

theorem backlaw_any (n m : Int) (lv hv : Value) (l : List (Int × Int)) (h : List (Int × Int × Int × Int)) (w : World) (hl : Sl ePair 2 w lv l) (hh : Sl eHunk 4 w hv h) :
    Calls Try.prog 5 #[.int .i64 n, .int .i64 m, .agg #[lv, hv]] w fun e w' => e = .returned (.bool true) ∧ Below w.heap.size w w' := by
  by_cases hlong : 1000 < l.length ∨ 1000 < h.length
  · exact backlaw_long n m lv hv l h w hl hh hlong
  · have h1 : l.length ≤ 1000 := by omega
    have h2 : h.length ≤ 1000 := by omega
    rcases chk_cases n m l with hc | hc
    · cases ho : pairs n m h with
      | none => exact backlaw_sn n m lv hv l h w hl hh h1 h2 hc ho
      | some ls => exact backlaw_ss n m lv hv l h w hl hh h1 h2 hc ls ho
    · cases ho : pairs n m h with
      | none => exact backlaw_nn n m lv hv l h w hl hh h1 h2 hc ho
      | some ls => exact backlaw_ns n m lv hv l h w hl hh h1 h2 hc ls ho

end Go.Proofs.Ytdlmdjhnigbfpaa
