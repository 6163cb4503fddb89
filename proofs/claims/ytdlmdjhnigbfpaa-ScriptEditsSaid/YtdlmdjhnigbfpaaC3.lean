/-
  The law ScriptCommon at values that read as lists. No condition.
-/
import Derived.Test.YtdlmdjhnigbfpaaC2
import Derived.Test.YtdlmdjhnigbfpaaP5
namespace Go.Proofs.Ytdlmdjhnigbfpaa
open Go.RowKit Go.Sl Go.Scr

theorem common_of (va vb : Value) (a b : List Int) (n : Nat) (w : World) (ha : Sl eInt 1 w va a) (hb : Sl eInt 1 w vb b) (hla : a.length ≤ 300) (hlb : b.length ≤ 300) (hn : lcs a b = n) :
    Calls Try.prog 9 #[va, vb] w fun e w' => e = .returned (.tuple #[.int .i64 (n : Int), .int .i64 0]) ∧ Below w.heap.size w w' := by
  subst hn; exact common_any va vb a b w ha hb (by omega) (by omega)
theorem rcommon_of (va vb : Value) (a b : List Int) (n : Nat) (w : World) (ha : Sl eInt 1 w va a) (hb : Sl eInt 1 w vb b) (hla : a.length ≤ 300) (hlb : b.length ≤ 300) (hn : lcs a b = n) :
    Calls Try.prog 10 #[va, vb] w fun e w' => e = .returned (.int .i64 (n : Int)) ∧ Below w.heap.size w w' := by
  subst hn; exact rcommon_any va vb a b w ha hb (by omega) (by omega)
theorem check_of (n m c : Int) (v : Value) (l : List (Int × Int)) (w : World) (hv : Sl ePair 2 w v l) (hc : chk n m l = c) :
    Calls Try.prog 11 #[.int .i64 n, .int .i64 m, v] w fun e w' => e = .returned (.int .i64 c) ∧ Below w.heap.size w w' := by
  subst hc; exact check_any n m v l w hv

theorem commonlaw_long (va vb vl : Value) (a b : List Int) (l : List (Int × Int)) (w : World) (ha : Sl eInt 1 w va a) (hb : Sl eInt 1 w vb b) (hl : Sl ePair 2 w vl l) (h : 300 < a.length ∨ 300 < b.length ∨ 300 < l.length) :
    Calls Try.prog 3 #[va, vb, vl] w fun e w' => e = .returned (.bool true) ∧ Below w.heap.size w w' := by
  have e1 := ha.run_len (P := Try.prog) Try.underlying22
  have e2 := hb.run_len (P := Try.prog) Try.underlying22
  have e3 := hl.run_len (P := Try.prog) Try.underlying23
  by_cases h1 : 300 < a.length
  · clear h
    go_enter Try.func3, Try.ntmps3
    go_wp2_with (go_at_call 8; go_must (refine (works_any _).mono ?_; rintro e w1 ⟨rfl, hb⟩))
    go_ret
    exact ⟨rfl, hb⟩
  · by_cases h2 : 300 < b.length
    · clear h
      go_enter Try.func3, Try.ntmps3
      go_wp2_with (go_at_call 8; go_must (refine (works_any _).mono ?_; rintro e w1 ⟨rfl, hb⟩))
      go_ret
      exact ⟨rfl, hb⟩
    · have h3 : 300 < l.length := by omega
      clear h
      go_enter Try.func3, Try.ntmps3
      go_wp2_with (go_at_call 8; go_must (refine (works_any _).mono ?_; rintro e w1 ⟨rfl, hb⟩))
      go_ret
      exact ⟨rfl, hb⟩

set_option maxRecDepth 100000 in
set_option maxHeartbeats 2000000 in
theorem commonlaw_any (va vb vl : Value) (a b : List Int) (l : List (Int × Int)) (w : World) (ha : Sl eInt 1 w va a) (hb : Sl eInt 1 w vb b) (hl : Sl ePair 2 w vl l) (h1 : a.length ≤ 300) (h2 : b.length ≤ 300) (h3 : l.length ≤ 300) :
    Calls Try.prog 3 #[va, vb, vl] w fun e w' => e = .returned (.bool true) ∧ Below w.heap.size w w' := by
  have e1 := ha.run_len (P := Try.prog) Try.underlying22
  have e2 := hb.run_len (P := Try.prog) Try.underlying22
  have e3 := hl.run_len (P := Try.prog) Try.underlying23
  obtain ⟨n, HN⟩ : ∃ n, Hid (lcs a b = n) := ⟨_, Lib.hid rfl⟩
  have HN2 : Hid (lcs b a = n) := Lib.hid ((lcs_comm b a).trans HN.out)
  have HB0 := Lib.hid (Below.refl w.heap.size w)
  obtain ⟨c, HC⟩ : ∃ c, Hid (chk a.length b.length l = c) := ⟨_, Lib.hid rfl⟩
  have hc2 : (c == 0) = decide (c = 0) := rfl
  have hcc := chk_cases a.length b.length l
  rw [HC.out] at hcc
  have HCC := Lib.hid hcc
  clear hcc
  go_enter Try.func3, Try.ntmps3
  go_wp2_with (first
    | (go_at_call 9; (with_reducible refine (common_of va vb a b n _ (ha.ext HB0.out) (hb.ext HB0.out) h1 h2 HN.out).mono ?_); rintro e w1 ⟨rfl, hbb⟩; have HB0 := Lib.hid (HB0.out.trans (hbb.mono HB0.out.size)); clear hbb)
    | (go_at_call 9; (with_reducible refine (common_of vb va b a n _ (hb.ext HB0.out) (ha.ext HB0.out) h2 h1 HN2.out).mono ?_); rintro e w1 ⟨rfl, hbb⟩; have HB0 := Lib.hid (HB0.out.trans (hbb.mono HB0.out.size)); clear hbb)
    | (go_at_call 10; (with_reducible refine (rcommon_of va vb a b n _ (ha.ext HB0.out) (hb.ext HB0.out) h1 h2 HN.out).mono ?_); rintro e w1 ⟨rfl, hbb⟩; have HB0 := Lib.hid (HB0.out.trans (hbb.mono HB0.out.size)); clear hbb)
    | (go_at_call 11; (with_reducible refine (check_of _ _ c vl l _ (hl.ext HB0.out) HC.out).mono ?_); rintro e w1 ⟨rfl, hbb⟩; have HB0 := Lib.hid (HB0.out.trans (hbb.mono HB0.out.size)); clear hbb))
  go_loopw [11, 12] (fun t i wr => ∃ (k : Nat) (t' : Bool), k ≤ l.length ∧ i = .int .i64 k ∧ t = .bool t' ∧ Hid (t' = true → c = 0 ∧ Scr.Alike a b l k) ∧ Hid (Below w.heap.size w wr)) (fun t i _ => l.length - (intOf i).toNat)
  case atStart => exact ⟨0, c == 0, by omega, rfl, rfl, Lib.hid (fun h => ⟨by simpa using h, Scr.Alike.zero _ _ _⟩), HB0⟩
  case round =>
    obtain ⟨k, t, hk, rfl, rfl, HT, HB⟩ := hrel
    clear HB0
    cases t with
    | false =>
      by_cases hlt : k < l.length
      all_goals
        go_wp2_with (go_at_call 8; go_must (refine (works_any _).mono ?_; rintro e w1 ⟨rfl, hbb⟩))
        go_ret
        exact ⟨rfl, HB.out.trans (hbb.mono HB.out.size)⟩
    | true =>
      by_cases hlt : k < l.length
      · obtain ⟨b0, o0, hb0, hix, hcl⟩ := hl.atB HB.out (P := Try.prog) Try.underlying23 cells31 some31 hlt
        have hc0 := hcl 0 (by omega)
        have hc1 := hcl 1 (by omega)
        simp only [ePair, List.getElem?_cons_zero, List.getElem?_cons_succ, Nat.add_zero] at hc0 hc1
        have hin := chk_at (HC.out.trans (HT.out rfl).1) hlt
        obtain ⟨x, y, hxy⟩ : ∃ x y, l[k] = (x, y) := ⟨_, _, rfl⟩
        have HXY := Lib.hid hxy
        rw [hxy] at hc0 hc1 hin
        clear hxy hcl
        obtain ⟨p, rfl⟩ := Int.eq_ofNat_of_zero_le hin.1
        obtain ⟨q, rfl⟩ := Int.eq_ofNat_of_zero_le hin.2.2.1
        have hpl : p < a.length := by have := hin.2.1; simp at this; omega
        have hql : q < b.length := by have := hin.2.2.2; simp at this; omega
        clear hin
        obtain ⟨b1, o1, hb1, hix1, hcl1⟩ := ha.atB HB.out (P := Try.prog) Try.underlying22 cells3 some3 hpl
        obtain ⟨b2, o2, hb2, hix2, hcl2⟩ := hb.atB HB.out (P := Try.prog) Try.underlying22 cells3 some3 hql
        have hx := hcl1 0 (by omega)
        have hy := hcl2 0 (by omega)
        simp only [eInt, List.getElem?_cons_zero, Nat.add_zero] at hx hy
        clear hcl1 hcl2
        rw [← atI_eq] at hx hy
        go_wp2_with fail
        go_quiet (fail)
        go_wp2_with fail
        go_roundw
        case rel =>
          refine ⟨k + 1, _, by omega, by go_num, rfl, Lib.hid (fun h => ⟨(HT.out (by simp)).1, (HT.out (by simp)).2.succ hlt ?_⟩), Lib.hid (below_drewN HB.out _)⟩
          rw [HXY.out]; simpa using h
        case measure => simp [intOf]; omega
      · obtain rfl : k = l.length := by omega
        have hle : l.length ≤ n := by rw [← HN.out]; exact alike_len (HC.out.trans (HT.out rfl).1) (HT.out rfl).2
        go_wp2_with (go_at_call 8; go_must (refine (works_any _).mono ?_; rintro e w1 ⟨rfl, hbb⟩))
        go_ret
        exact ⟨rfl, HB.out.trans (hbb.mono HB.out.size)⟩

theorem commonlaw (va vb vl : Value) (a b : List Int) (l : List (Int × Int)) (w : World) (ha : Sl eInt 1 w va a) (hb : Sl eInt 1 w vb b) (hl : Sl ePair 2 w vl l) :
    Calls Try.prog 3 #[va, vb, vl] w fun e w' => e = .returned (.bool true) ∧ Below w.heap.size w w' := by
  by_cases h : 300 < a.length ∨ 300 < b.length ∨ 300 < l.length
  · exact commonlaw_long va vb vl a b l w ha hb hl h
  · exact commonlaw_any va vb vl a b l w ha hb hl (by omega) (by omega) (by omega)
end Go.Proofs.Ytdlmdjhnigbfpaa
