/-
  Layer 34: the law's helpers. No condition besides what the arguments are.
-/
import Derived.Test.YtcpmnocknpalfaaT8
namespace Go.Proofs.Ytcpmnocknpalfaa
open Go.RowKit Go.Sl Go.B64 Go.Bis
set_option linter.unusedVariables false

/-! ### a line of five -/
def g5 : List Nd := [([], 0), ([0], 0), ([1], 0), ([2], 0), ([3], 0)]
theorem g5_ok : Dag.okG g5 := by
  refine ⟨by decide, fun n hn => ?_⟩
  have hn : n < 5 := hn
  obtain rfl | rfl | rfl | rfl | rfl : n = 0 ∨ n = 1 ∨ n = 2 ∨ n = 3 ∨ n = 4 := by omega
  all_goals refine ⟨by simp [g5], by simp [g5], by simp [g5], fun i hi => ?_⟩
  · simp [g5] at hi
  all_goals
    have hi : i < 1 := hi
    obtain rfl : i = 0 := by omega
    refine ⟨by simp [g5], by simp [g5], by simp⟩
theorem a5_0 : anc g5 0 = 1#128 := by rw [← anc_ors g5_ok (by decide)]; rfl
theorem a5_1 : anc g5 1 = 3#128 := by rw [← anc_ors g5_ok (by decide), show Dag.par g5 1 = [0] from rfl]; simp only [ors, List.foldl_cons, List.foldl_nil, a5_0]; rfl
theorem a5_2 : anc g5 2 = 7#128 := by rw [← anc_ors g5_ok (by decide), show Dag.par g5 2 = [1] from rfl]; simp only [ors, List.foldl_cons, List.foldl_nil, a5_1]; rfl
theorem a5_3 : anc g5 3 = 15#128 := by rw [← anc_ors g5_ok (by decide), show Dag.par g5 3 = [2] from rfl]; simp only [ors, List.foldl_cons, List.foldl_nil, a5_2]; rfl
theorem a5_4 : anc g5 4 = 31#128 := by rw [← anc_ors g5_ok (by decide), show Dag.par g5 4 = [3] from rfl]; simp only [ors, List.foldl_cons, List.foldl_nil, a5_3]; rfl
theorem fold_congr {v v' : Nat → Nat} : ∀ {l : List Nat} {a : Acc}, (∀ x ∈ l, v x = v' x) → l.foldl (up1 v) a = l.foldl (up1 v') a := by
  intro l
  induction l with
  | nil => intro a _; rfl
  | cons y l ih =>
    intro a h
    rw [List.foldl_cons, List.foldl_cons, show up1 v a y = up1 v' a y by unfold up1; rw [h y (by simp)]]
    exact ih fun x hx => h x (by simp [hx])
theorem acc_congr {U U' : Nat → S} {st : St} {N : Nat} (h : ∀ x, x < N → U x = U' x) : acc U st N = acc U' st N := by
  unfold acc fold
  refine fold_congr fun x hx => ?_
  have : x < N := List.mem_range.1 (List.mem_filter.1 hx).1
  unfold vl wt; rw [h x this]
def u5 (n : Nat) : S := match n with | 0 => 1#128 | 1 => 3#128 | 2 => 7#128 | 3 => 15#128 | _ => 31#128
theorem u5_eq (x : Nat) (h : x < 5) : anc g5 x = u5 x := by
  obtain rfl | rfl | rfl | rfl | rfl : x = 0 ∨ x = 1 ∨ x = 2 ∨ x = 3 ∨ x = 4 := by omega
  · exact a5_0
  · exact a5_1
  · exact a5_2
  · exact a5_3
  · exact a5_4
theorem s5 : newS g5 4 [0] = ⟨30#128, 0, 4, 0⟩ := by
  unfold newS
  have h1 : fineS g5 (Dag.nn [0]) = 1#128 := by rw [show Dag.nn [0] = [0] from rfl]; unfold fineS; rw [List.foldl_cons, List.foldl_nil, a5_0]; rfl
  rw [h1, show (4 : Int).toNat = 4 from rfl, a5_4]
  rfl
theorem e5 : newE g5 4 [0] = 0 := by
  refine newE_ok g5_ok (fun x hx => ?_) ?_
  · simp at hx
    rcases hx with rfl | rfl <;> exact ⟨by decide, by decide⟩
  · rw [show Dag.nn [0] = [0] from rfl]; unfold fineS; rw [List.foldl_cons, List.foldl_nil, a5_0]; rfl
theorem n5 : acc (anc g5) (newS g5 4 [0]) g5.length = some (2, 2) := by
  rw [show g5.length = 5 from rfl, acc_congr u5_eq, s5]
  decide +kernel
theorem c5 : (Dag.filtN (mem (newS g5 4 [0]).cand) 128).length = 4 := by
  rw [s5]; decide +kernel
def wes5 (b : Nat) : List (SlV × Int) := [(⟨none, 0, 0⟩, 0), (⟨some ⟨b, 0, none⟩, 1, 1⟩, 0), (⟨some ⟨b + 1, 0, none⟩, 1, 1⟩, 0), (⟨some ⟨b + 1 + 1, 0, none⟩, 1, 1⟩, 0), (⟨some ⟨b + 1 + 1 + 1, 0, none⟩, 1, 1⟩, 0)]
def wcells5 (b : Nat) : Array Value := #[.slice none 0 0, .int .i64 0, .slice (some ⟨b, 0, none⟩) 1 1, .int .i64 0, .slice (some ⟨b + 1, 0, none⟩) 1 1, .int .i64 0, .slice (some ⟨b + 1 + 1, 0, none⟩) 1 1, .int .i64 0, .slice (some ⟨b + 1 + 1 + 1, 0, none⟩) 1 1, .int .i64 0]
abbrev o1 (x : Int) : Obj := .cells #[.int .i64 x] 3
def ww5 (w : World) : World := ((((w.alloc (o1 0)).alloc (o1 1)).alloc (o1 2)).alloc (o1 3)).alloc (.cells (wcells5 w.heap.size) 90)
theorem ww5_b (w : World) : Below w.heap.size w (ww5 w) := (((((Below.refl w.heap.size w).alloc (Nat.le_refl _) (o1 0)).alloc (by simp) (o1 1)).alloc (by simp; omega) (o1 2)).alloc (by simp; omega) (o1 3)).alloc (by simp; omega) (.cells (wcells5 w.heap.size) 90)
theorem ww5_gr (w : World) : Gr (ww5 w) (.slice (some ⟨w.heap.size + 1 + 1 + 1 + 1, 0, none⟩) 5 5) (wes5 w.heap.size) g5 := by
  have b3 : ∀ w : World, ∀ o, Below w.heap.size w (w.alloc o) := fun w o => (Below.refl _ _).alloc (Nat.le_refl _) _
  have s1 : Sl eInt 1 (w.alloc (o1 0)) (.slice (some ⟨w.heap.size, 0, none⟩) 1 1) [0] := Sl.fresh len_eInt rfl rfl rfl (by simp [maxLen])
  have s2 : Sl eInt 1 ((w.alloc (o1 0)).alloc (o1 1)) (.slice (some ⟨w.heap.size + 1, 0, none⟩) 1 1) [1] := Sl.fresh len_eInt (by simp) rfl rfl (by simp [maxLen])
  have s3 : Sl eInt 1 (((w.alloc (o1 0)).alloc (o1 1)).alloc (o1 2)) (.slice (some ⟨w.heap.size + 1 + 1, 0, none⟩) 1 1) [2] := Sl.fresh len_eInt (by simp) rfl rfl (by simp [maxLen])
  have s4 : Sl eInt 1 ((((w.alloc (o1 0)).alloc (o1 1)).alloc (o1 2)).alloc (o1 3)) (.slice (some ⟨w.heap.size + 1 + 1 + 1, 0, none⟩) 1 1) [3] := Sl.fresh len_eInt (by simp) rfl rfl (by simp [maxLen])
  have t1 := (((s1.ext (b3 _ (o1 1))).ext (b3 _ (o1 2))).ext (b3 _ (o1 3))).ext (b3 _ (.cells (wcells5 w.heap.size) 90))
  have t2 := ((s2.ext (b3 _ (o1 2))).ext (b3 _ (o1 3))).ext (b3 _ (.cells (wcells5 w.heap.size) 90))
  have t3 := (s3.ext (b3 _ (o1 3))).ext (b3 _ (.cells (wcells5 w.heap.size) 90))
  have t4 := s4.ext (b3 _ (.cells (wcells5 w.heap.size) 90))
  refine ⟨Sl.fresh len_eNd (by simp) rfl rfl (by simp [maxLen, wes5]), rfl, fun k h1 h2 => ?_⟩
  have hk : k < 5 := h1
  obtain rfl | rfl | rfl | rfl | rfl : k = 0 ∨ k = 1 ∨ k = 2 ∨ k = 3 ∨ k = 4 := by omega
  · exact ⟨rfl, Sl.nil _ _ _⟩
  · exact ⟨rfl, t1⟩
  · exact ⟨rfl, t2⟩
  · exact ⟨rfl, t3⟩
  · exact ⟨rfl, t4⟩

set_option maxRecDepth 100000 in
set_option maxHeartbeats 1000000 in
theorem bworks_any (w : World) : Calls Try.prog 36 #[] w fun e w' => e = .returned (.bool true) ∧ Below w.heap.size w w' := by
  have HGr := Lib.hid (ww5_gr w)
  have HB0 := Lib.hid (ww5_b w)
  obtain ⟨wa, hwa⟩ : ∃ wa, wa = ww5 w := ⟨_, rfl⟩
  rw [← hwa] at HGr HB0
  have HWa : Hid (((((w.alloc (.cells #[.int .i64 0] 3)).alloc (.cells #[.int .i64 1] 3)).alloc (.cells #[.int .i64 2] 3)).alloc (.cells #[.int .i64 3] 3)).alloc (.cells #[.slice none 0 0, .int .i64 0, .slice (some ⟨w.heap.size, 0, none⟩) 1 1, .int .i64 0, .slice (some ⟨w.heap.size + 1, 0, none⟩) 1 1, .int .i64 0, .slice (some ⟨w.heap.size + 1 + 1, 0, none⟩) 1 1, .int .i64 0, .slice (some ⟨w.heap.size + 1 + 1 + 1, 0, none⟩) 1 1, .int .i64 0] 90) = wa) := Lib.hid hwa.symm
  have HL : Hid (Sl eInt 1 (wa.alloc (.cells #[.int .i64 0] 3)) (.slice (some ⟨wa.heap.size, 0, none⟩) 1 1) [0]) := Lib.hid (Sl.fresh len_eInt rfl rfl rfl (by simp [maxLen]))
  have hws : wa.heap.size = w.heap.size + 1 + 1 + 1 + 1 + 1 := by rw [hwa]; simp [ww5]
  rw [hws] at HL
  have HN := Lib.hid (bnew_any _ _ _ g5 4 [0] (by decide) (wa.alloc (.cells #[.int .i64 0] 3)) (HGr.out.ext (balloc _ _)) HL.out)
  clear hwa
  go_enter Try.func36, Try.ntmps36
  go_wp2_with fail
  rw [HWa.out]
  refine HN.out.mono ?_
  rintro e w1 ⟨-, h0⟩
  obtain ⟨sb, ub, rfl, hse, hb1⟩ := h0 e5
  have hst : (newS g5 4 [0]).worst < 5 := by rw [s5]; decide
  have hlt : ∀ x, mem (newS g5 4 [0]).cand x = true → x < 5 := fun x hx => by
    rw [s5] at hx
    have key : ∀ x, x < 128 → mem (30#128) x = true → x < 5 := by decide +kernel
    by_cases h : x < 128
    · exact key x h hx
    · rw [mem_ge _ (by omega)] at hx; cases hx
  have HX := Lib.hid (bnext_any hse (by decide) hlt hst)
  rw [n5] at HX
  have HSe := Lib.hid hse
  have HB1 : Hid (Below w.heap.size w w1) := Lib.hid (bthen (bthen HB0.out (balloc _ _)) hb1)
  clear h0 hse hb1 hst hlt HN HL HWa HGr HB0
  go_wp2_with fail
  refine HX.out.mono ?_
  rintro e w2 ⟨rfl, hb2⟩
  have HB2 := Lib.hid (bthen HB1.out hb2)
  have HC := Lib.hid (bcand_any (HSe.out.ext hb2))
  clear hb2 HX
  go_wp2_with fail
  refine HC.out.mono ?_
  rintro e w3 ⟨v, rfl, ho, hb3⟩
  have HB3 := Lib.hid (bthen HB2.out hb3)
  have hlen := (ho.sl len_eInt).run_len (P := Try.prog) Try.underlying23
  rw [c5] at hlen
  clear ho hb3 HC
  go_wp2_with fail
  go_ret
  exact ⟨rfl, HB3.out⟩

set_option maxRecDepth 100000 in
set_option maxHeartbeats 1000000 in
theorem bsay_any {base sb ub N : Nat} {U : Nat → S} {f n : St} {w : World} (h : Se base sb ub N U f n w) (hN : N ≤ 128) (hlt : ∀ x, mem n.cand x = true → x < N) (hw : n.worst < N) (han : n.ans < 1000) (k : Nat) (hk : k < 3) (x : Int) :
    Calls Try.prog 39 #[.pointer (some ⟨sb, 0, none⟩), .int .i64 (k : Int), .int .i64 x] w fun e w' => e = .returned (.int .i64 (sayE U N n k x : Nat)) ∧ w.grownBy w' (some sb) ∧ Se base sb ub N U f (sayS U N n k x) w' := by
  obtain rfl | rfl | rfl : k = 0 ∨ k = 1 ∨ k = 2 := by omega
  · have H := Lib.hid (bgood_any h hN hlt hw han x)
    clear h hlt hw han hN hk
    go_enter Try.func39, Try.ntmps39
    go_wp2_with fail
    refine H.out.mono ?_
    rintro e w1 ⟨rfl, hg, hs⟩
    have HG := Lib.hid hg
    have HS := Lib.hid hs
    clear hg hs
    go_wp2_with fail
    go_ret
    exact ⟨rfl, HG.out, HS.out⟩
  · have H := Lib.hid (bbad_any h hN hlt hw han x)
    clear h hlt hw han hN hk
    go_enter Try.func39, Try.ntmps39
    go_wp2_with fail
    refine H.out.mono ?_
    rintro e w1 ⟨rfl, hg, hs⟩
    have HG := Lib.hid hg
    have HS := Lib.hid hs
    clear hg hs
    go_wp2_with fail
    go_ret
    exact ⟨rfl, HG.out, HS.out⟩
  · have H := Lib.hid (bskipd_any h hN hlt hw han x)
    clear h hlt hw han hN hk
    go_enter Try.func39, Try.ntmps39
    go_wp2_with fail
    refine H.out.mono ?_
    rintro e w1 ⟨rfl, hg, hs⟩
    have HG := Lib.hid hg
    have HS := Lib.hid hs
    clear hg hs
    go_wp2_with fail
    go_ret
    exact ⟨rfl, HG.out, HS.out⟩

def whatN (a : Int) : Nat := if a = 0 then 0 else if a = 1 then 1 else 2
theorem whatN_lt (a : Int) : whatN a < 3 := by unfold whatN; split <;> (try split) <;> omega
set_option maxRecDepth 100000 in
set_option maxHeartbeats 1000000 in
theorem bwhat_any (a b : Int) (c : Bool) (w : World) : Calls Try.prog 40 #[.agg #[.int .i64 a, .int .i64 b, .bool c]] w fun e w' => e = .returned (.int .i64 (whatN a : Nat)) ∧ Below w.heap.size w w' := by
  have hb := balloc w (.cells #[.int .i64 a, .int .i64 b, .bool c] 63)
  have HB := Lib.hid hb
  clear hb
  by_cases h0 : a = 0
  · subst h0
    go_enter Try.func40, Try.ntmps40
    go_wp2_with fail
    go_ret
    exact ⟨rfl, HB.out⟩
  · by_cases h1 : a = 1
    · subst h1
      go_enter Try.func40, Try.ntmps40
      go_wp2_with fail
      go_ret
      exact ⟨rfl, HB.out⟩
    · have HE : Hid (whatN a = 2) := Lib.hid (by unfold whatN; rw [if_neg h0, if_neg h1])
      have d0 : (a == 0) = false := by simpa using h0
      have d1 : (a == 1) = false := by simpa using h1
      have d0' : decide (a = 0) = false := by simpa using h0
      have d1' : decide (a = 1) = false := by simpa using h1
      go_enter Try.func40, Try.ntmps40
      go_wp2_with fail
      go_ret
      exact ⟨by rw [HE.out]; rfl, HB.out⟩

set_option maxRecDepth 100000 in
set_option maxHeartbeats 1000000 in
theorem lhas_any (v : Value) (l : List Int) (x : Int) (b : Bool) (hb : decide (x ∈ l) = b) (w : World) (h : Sl eInt 1 w v l) : Calls Try.prog 44 #[v, .int .i64 x] w fun e w' => e = .returned (.bool b) ∧ w = w' := by
  have hlen := h.run_len (P := Try.prog) Try.underlying23
  have hmax := h.len_le
  have HL := Lib.hid h
  have HBe := Lib.hid hb
  clear h hb
  go_enter Try.func44, Try.ntmps44
  go_wp2_with fail
  go_loop [5] (fun i => ∃ (k : Nat), i = .int .i64 k ∧ k ≤ l.length ∧ Hid (x ∉ l.take k)) (fun i => l.length - (intOf i).toNat)
  case atStart => exact ⟨0, rfl, by omega, Lib.hid (by simp)⟩
  case round =>
    obtain ⟨k, rfl, hk, HN⟩ := hrel
    by_cases hlt : k < l.length
    · obtain ⟨b2, o2, hb2, hix2, hc2⟩ := HL.out.atB (Below.refl _ _) (P := Try.prog) Try.underlying23 cells3 some3 hlt
      have e1 := hc2 0 (by omega)
      simp only [eInt, List.getElem?_cons_zero, Nat.add_zero] at e1
      obtain ⟨y, hy⟩ : ∃ y, Hid (l[k] = y) := ⟨_, Lib.hid rfl⟩
      rw [hy.out] at e1
      clear hc2
      by_cases hx : y = x
      · subst hx
        have HZ : Hid (b = true) := Lib.hid (by rw [← HBe.out]; simp; rw [← hy.out]; exact List.getElem_mem hlt)
        go_wp2_with fail
        go_ret
        exact ⟨by rw [HZ.out]; rfl, rfl⟩
      · have HN2 : Hid (x ∉ l.take (k + 1)) := Lib.hid (by
          rw [List.take_succ_eq_append_getElem hlt, hy.out, List.mem_append, List.mem_singleton]
          rintro (h | h)
          · exact HN.out h
          · exact hx h.symm)
        have d0 : (y == x) = false := by simpa using hx
        have d1 : decide (y = x) = false := by simpa using hx
        clear hx
        go_wp2_with fail
        go_round
        case rel => exact ⟨k + 1, by go_num, by omega, HN2⟩
        case measure => simp [intOf]; omega
    · have HZ : Hid (b = false) := Lib.hid (by
        rw [← HBe.out]
        have := HN.out
        rw [List.take_of_length_le (by omega)] at this
        simpa using this)
      go_wp2_with fail
      go_ret
      exact ⟨by rw [HZ.out]; rfl, rfl⟩
end Go.Proofs.Ytcpmnocknpalfaa
