/-
  LineAlike: what its loops ask, in plain words. No condition.
-/
import Derived.Test.YtibebmdpjaknpaaW10
import Derived.Test.YtibebmdpjaknpaaW13
namespace Go.Proofs.Ytibebmdpjaknpaa
open Go.RowKit Go.Sl
set_option linter.unusedVariables false

/-- numbers that are one just where the lines are -/
structure Nums2 (X Y : List Int) (a b : List (List UInt8)) : Prop where
  lx : X.length = a.length
  ly : Y.length = b.length
  ab : ∀ i j (h1 : i < a.length) (h2 : j < b.length), X[i]'(by omega) = Y[j]'(by omega) ↔ a[i] = b[j]
  aa : ∀ i j (h1 : i < a.length) (h2 : j < a.length), X[i]'(by omega) = X[j]'(by omega) ↔ a[i] = a[j]

theorem zn_get {l : List Nat} {i : Nat} (h : i < l.length) : (zn l)[i]'(by rw [zn_len]; exact h) = (l[i] : Nat) := by simp [zn]
theorem nums2 (a b : List (List UInt8)) : Nums2 (zn (Line.nums [] a)) (zn (Line.nums (Line.kn [] a) b)) a b := by
  obtain ⟨t, ht⟩ := Line.kn_pre (Line.kn [] a) b
  have ha : ∀ i (h : i < a.length), (zn (Line.nums [] a))[i]'(by rw [zn_len, Line.nums_len]; exact h) = (Line.fst (Line.kn (Line.kn [] a) b) a[i] : Nat) ∧ a[i] ∈ Line.kn (Line.kn [] a) b := fun i h => by
    obtain ⟨h1, h2⟩ := Line.nums_fst (ks := []) h
    rw [zn_get (by rw [Line.nums_len]; exact h), h1, ← ht, Line.fst_app h2]
    exact ⟨rfl, List.mem_append_left _ h2⟩
  have hb : ∀ i (h : i < b.length), (zn (Line.nums (Line.kn [] a) b))[i]'(by rw [zn_len, Line.nums_len]; exact h) = (Line.fst (Line.kn (Line.kn [] a) b) b[i] : Nat) ∧ b[i] ∈ Line.kn (Line.kn [] a) b := fun i h => by
    obtain ⟨h1, h2⟩ := Line.nums_fst (ks := Line.kn [] a) h
    rw [zn_get (by rw [Line.nums_len]; exact h), h1]
    exact ⟨rfl, h2⟩
  refine ⟨by rw [zn_len, Line.nums_len], by rw [zn_len, Line.nums_len], fun i j h1 h2 => ?_, fun i j h1 h2 => ?_⟩
  · rw [(ha i h1).1, (hb j h2).1, ← Line.fst_inj (ha i h1).2 (hb j h2).2]; omega
  · rw [(ha i h1).1, (ha j h2).1, ← Line.fst_inj (ha i h1).2 (ha j h2).2]; omega

/-- two strings at two places -/
theorem str_at {w : World} {v : Value} {l : List (List UInt8)} (h : Sl eL 1 w v l) {k : Nat} (hk : k < l.length) :
    ∃ b o, (∀ (ik : IntKind) (u : World), (Instr.indexAt 22 v (.int ik (k : Int))).run Try.prog u = .ok (.pointer (some ⟨b, o, none⟩)) u) ∧ w.cell? ⟨b, o, none⟩ = some (.string (bstr l[k])) := by
  obtain ⟨b, o, hb, hix, hc⟩ := h.at (P := Try.prog) Try.underlying22 cells9 some9 hk
  exact ⟨b, o, hix, by simpa [eL] using hc 0 (by omega)⟩
theorem int_at {w : World} {v : Value} {l : List Int} (h : Sl eInt 1 w v l) {k : Nat} (hk : k < l.length) :
    ∃ b o, (∀ (ik : IntKind) (u : World), (Instr.indexAt 24 v (.int ik (k : Int))).run Try.prog u = .ok (.pointer (some ⟨b, o, none⟩)) u) ∧ w.cell? ⟨b, o, none⟩ = some (.int .i64 l[k]) := by
  obtain ⟨b, o, hb, hix, hc⟩ := h.at (P := Try.prog) Try.underlying24 cells3 some3 hk
  exact ⟨b, o, hix, by simpa [eInt] using hc 0 (by omega)⟩

set_option maxRecDepth 100000 in
set_option maxHeartbeats 4000000 in
theorem lineAlike_any (va vb : Value) (a b : List (List UInt8)) (w : World) (ha : Sl eL 1 w va a) (hb : Sl eL 1 w vb b) (sa : ∀ s ∈ a, (bstr s).size ≤ maxLen) (sb : ∀ s ∈ b, (bstr s).size ≤ maxLen) (la : ¬ 100 < a.length) (lb : ¬ 100 < b.length) :
    Calls Try.prog 4 #[va, vb] w fun e w' => e = .returned (.bool true) ∧ Below w.heap.size w w' := by
  have hlen := ha.run_len (P := Try.prog) Try.underlying22
  have hlen2 := hb.run_len (P := Try.prog) Try.underlying22
  have HA := Lib.hid ha
  have HB := Lib.hid hb
  have HSa := Lib.hid sa
  have HSb := Lib.hid sb
  clear ha hb sa sb
  have d1 : decide ((100 : Int) < a.length) = false := decide_eq_false (by omega)
  have d2 : decide ((100 : Int) < b.length) = false := decide_eq_false (by omega)
  have HN := Lib.hid (nums2 a b)
  obtain ⟨X, HXe⟩ : ∃ X, Hid (zn (Line.nums [] a) = X) := ⟨_, Lib.hid rfl⟩
  obtain ⟨Y, HYe⟩ : ∃ Y, Hid (zn (Line.nums (Line.kn [] a) b) = Y) := ⟨_, Lib.hid rfl⟩
  rw [HXe.out, HYe.out] at HN
  have hlx := HN.out.lx
  have hly := HN.out.ly
  have HLX := Lib.hid hlx
  have HLY := Lib.hid hly
  clear hlx hly
  go_enter Try.func4, Try.ntmps4
  go_wp2_with fail
  refine (numbers_any va vb a b w HA.out HB.out (by omega) (by omega) HSa.out HSb.out).mono ?_
  rintro e w1 ⟨x, y, rfl, hx, hy, hb⟩
  rw [HXe.out] at hx
  rw [HYe.out] at hy
  have HX := Lib.hid (hx.sl len_eInt)
  have HY := Lib.hid (hy.sl len_eInt)
  have hlx := HX.out.run_len (P := Try.prog) Try.underlying24
  have hly := HY.out.run_len (P := Try.prog) Try.underlying24
  rw [HLX.out] at hlx
  rw [HLY.out] at hly
  have HW1 := Lib.hid hb
  have HA1 := Lib.hid (HA.out.ext hb)
  have HB1 := Lib.hid (HB.out.ext hb)
  clear hx hy hb d1 d2
  go_wp2_with fail
  go_loopw [7] (fun i wr => ∃ (k : Nat), i = .int .i64 k ∧ k ≤ a.length ∧ ∃ n, Hid (wr = w1.drewN n)) (fun i _ => a.length - (intOf i).toNat)
  case atStart => exact ⟨0, rfl, by omega, 0, Lib.hid rfl⟩
  case round =>
    obtain ⟨k, rfl, hk, n, HW⟩ := hrel
    obtain rfl := HW.out
    clear HW
    by_cases hlt : k < a.length
    · obtain ⟨b1, o1, hix1, e1⟩ := int_at HX.out (k := k) (by rw [HLX.out]; exact hlt)
      obtain ⟨b2, o2, hix2, e2⟩ := str_at HA1.out hlt
      obtain ⟨p, HP⟩ : ∃ p, Hid (X[k]'(by rw [HLX.out]; exact hlt) = p) := ⟨_, Lib.hid rfl⟩
      obtain ⟨s, HS⟩ : ∃ s, Hid (a[k] = s) := ⟨_, Lib.hid rfl⟩
      rw [HP.out] at e1
      rw [HS.out] at e2
      go_wp2_with fail
      go_loopw [8] (fun i wr => ∃ (j : Nat), i = .int .i64 j ∧ j ≤ b.length ∧ ∃ n, Hid (wr = w1.drewN n)) (fun i _ => b.length - (intOf i).toNat)
      case atStart => exact ⟨0, rfl, by omega, _, Lib.hid rfl⟩
      case round =>
        obtain ⟨j, rfl, hj, n2, HW⟩ := hrel
        obtain rfl := HW.out
        clear HW
        by_cases hlt2 : j < b.length
        · obtain ⟨b3, o3, hix3, e3⟩ := int_at HY.out (k := j) (by rw [HLY.out]; exact hlt2)
          obtain ⟨b4, o4, hix4, e4⟩ := str_at HB1.out hlt2
          obtain ⟨q, HQ⟩ : ∃ q, Hid (Y[j]'(by rw [HLY.out]; exact hlt2) = q) := ⟨_, Lib.hid rfl⟩
          obtain ⟨t, HT⟩ : ∃ t, Hid (b[j] = t) := ⟨_, Lib.hid rfl⟩
          have hiff := HN.out.ab k j hlt hlt2
          rw [HQ.out, HP.out, HS.out, HT.out] at hiff
          rw [HQ.out] at e3
          rw [HT.out] at e4
          by_cases hst : s = t
          · have f1 : (s == t) = true := by simp [hst]
            have f2 : (p == q) = true := by simp [hiff.2 hst]
            clear hst hiff
            go_wp2_with fail
            go_quiet (fail)
            go_wp2_with fail
            go_roundw
            case rel => exact ⟨j + 1, by go_num, by omega, _, Lib.hid rfl⟩
            case measure => simp [intOf]; omega
          · have f1 : (s == t) = false := by simp [hst]
            have f2 : (p == q) = false := by rw [beq_eq_false_iff_ne]; exact fun e => hst (hiff.1 e)
            clear hst hiff
            go_wp2_with fail
            go_quiet (fail)
            go_wp2_with fail
            go_roundw
            case rel => exact ⟨j + 1, by go_num, by omega, _, Lib.hid rfl⟩
            case measure => simp [intOf]; omega
        · go_wp2_with fail
          go_loopw [9] (fun i wr => ∃ (j : Nat), i = .int .i64 j ∧ j ≤ k ∧ ∃ n, Hid (wr = w1.drewN n)) (fun i _ => k - (intOf i).toNat)
          case atStart => exact ⟨0, rfl, by omega, _, Lib.hid rfl⟩
          case round =>
            obtain ⟨j2, rfl, hj2, n3, HW⟩ := hrel
            obtain rfl := HW.out
            clear HW
            by_cases hlt3 : j2 < k
            · obtain ⟨b3, o3, hix3, e3⟩ := int_at HX.out (k := j2) (by rw [HLX.out]; omega)
              obtain ⟨b4, o4, hix4, e4⟩ := str_at HA1.out (k := j2) (by omega)
              obtain ⟨q, HQ⟩ : ∃ q, Hid (X[j2]'(by rw [HLX.out]; omega) = q) := ⟨_, Lib.hid rfl⟩
              obtain ⟨t, HT⟩ : ∃ t, Hid (a[j2]'(by omega) = t) := ⟨_, Lib.hid rfl⟩
              have hiff := HN.out.aa k j2 hlt (by omega)
              rw [HQ.out, HP.out, HS.out, HT.out] at hiff
              rw [HQ.out] at e3
              rw [HT.out] at e4
              by_cases hst : s = t
              · have f1 : (s == t) = true := by simp [hst]
                have f2 : (p == q) = true := by simp [hiff.2 hst]
                clear hst hiff
                go_wp2_with fail
                go_quiet (fail)
                go_wp2_with fail
                go_roundw
                case rel => exact ⟨j2 + 1, by go_num, by omega, _, Lib.hid rfl⟩
                case measure => simp [intOf]; omega
              · have f1 : (s == t) = false := by simp [hst]
                have f2 : (p == q) = false := by rw [beq_eq_false_iff_ne]; exact fun e => hst (hiff.1 e)
                clear hst hiff
                go_wp2_with fail
                go_quiet (fail)
                go_wp2_with fail
                go_roundw
                case rel => exact ⟨j2 + 1, by go_num, by omega, _, Lib.hid rfl⟩
                case measure => simp [intOf]; omega
            · go_wp2_with fail
              go_roundw
              case rel => exact ⟨k + 1, by go_num, by omega, _, Lib.hid rfl⟩
              case measure => simp [intOf]; omega
    · have hE := ends_any x y X Y (w1.drewN n) ⟨HX.out.shp⟩ ⟨HY.out.shp⟩
      go_wp2_with fail
      refine hE.mono ?_
      rintro e w2 ⟨f, u, rfl, hIE, n2, rfl⟩
      have HIE := Lib.hid hIE
      have hfa := hIE.suf.la
      have hfb := hIE.suf.lb
      rw [HLX.out] at hfa
      rw [HLY.out] at hfb
      clear hE hIE
      have d3 : decide ((a.length : Int) - u < f) = false := decide_eq_false (by omega)
      have d4 : decide ((b.length : Int) - u < f) = false := decide_eq_false (by omega)
      go_wp2_with fail
      clear d3 d4
      go_loopw [12] (fun i wr => ∃ (j : Nat), i = .int .i64 j ∧ j ≤ f ∧ ∃ n, Hid (wr = w1.drewN n)) (fun i _ => f - (intOf i).toNat)
      case atStart => exact ⟨0, rfl, by omega, _, Lib.hid rfl⟩
      case round =>
        obtain ⟨j, rfl, hj, n4, HW⟩ := hrel
        obtain rfl := HW.out
        clear HW
        by_cases hlt2 : j < f
        · obtain ⟨b3, o3, hix3, e3⟩ := str_at HA1.out (k := j) (by omega)
          obtain ⟨b4, o4, hix4, e4⟩ := str_at HB1.out (k := j) (by omega)
          obtain ⟨s, HS⟩ : ∃ s, Hid (a[j]'(by omega) = s) := ⟨_, Lib.hid rfl⟩
          have heq := (HN.out.ab j j (by omega) (by omega)).1 (HIE.out.pre.eq j hlt2)
          rw [HS.out] at heq e3
          rw [← heq] at e4
          have f1 : (s == s) = true := by simp
          clear heq
          go_wp2_with fail
          go_quiet (fail)
          go_wp2_with fail
          go_roundw
          case rel => exact ⟨j + 1, by go_num, by omega, _, Lib.hid rfl⟩
          case measure => simp [intOf]; omega
        · go_wp2_with fail
          go_loopw [13] (fun i wr => ∃ (j : Nat), i = .int .i64 j ∧ j ≤ u ∧ ∃ n, Hid (wr = w1.drewN n)) (fun i _ => u - (intOf i).toNat)
          case atStart => exact ⟨0, rfl, by omega, _, Lib.hid rfl⟩
          case round =>
            obtain ⟨j2, rfl, hj2, n5, HW⟩ := hrel
            obtain rfl := HW.out
            clear HW
            by_cases hlt3 : j2 < u
            · obtain ⟨b3, o3, hix3, e3⟩ := str_at HA1.out (k := a.length - 1 - j2) (by omega)
              obtain ⟨b4, o4, hix4, e4⟩ := str_at HB1.out (k := b.length - 1 - j2) (by omega)
              obtain ⟨s, HS⟩ : ∃ s, Hid (a[a.length - 1 - j2]'(by omega) = s) := ⟨_, Lib.hid rfl⟩
              have heq := (HN.out.ab (a.length - 1 - j2) (b.length - 1 - j2) (by omega) (by omega)).1 (by
                have := HIE.out.suf.eq j2 hlt3
                simp only [HLX.out, HLY.out] at this
                exact this)
              rw [HS.out] at heq e3
              rw [← heq] at e4
              rw [show ((a.length - 1 - j2 : Nat) : Int) = (a.length : Int) - 1 - j2 by omega] at hix3
              rw [show ((b.length - 1 - j2 : Nat) : Int) = (b.length : Int) - 1 - j2 by omega] at hix4
              have f1 : (s == s) = true := by simp
              clear heq
              have w2 : IntKind.i64.wrap ((a.length : Int) - 1) = (a.length : Int) - 1 := IntWalk.i64_in _ (by omega)
              have w3 : IntKind.i64.wrap ((a.length : Int) - 1 - j2) = (a.length : Int) - 1 - j2 := IntWalk.i64_in _ (by omega)
              have w4 : IntKind.i64.wrap ((b.length : Int) - 1) = (b.length : Int) - 1 := IntWalk.i64_in _ (by omega)
              have w5 : IntKind.i64.wrap ((b.length : Int) - 1 - j2) = (b.length : Int) - 1 - j2 := IntWalk.i64_in _ (by omega)
              go_wp2_with fail
              go_quiet (fail)
              clear w2 w3 w4 w5
              go_wp2_with fail
              go_roundw
              case rel => exact ⟨j2 + 1, by go_num, by omega, _, Lib.hid rfl⟩
              case measure => simp [intOf]; omega
            · have hin : ∀ (W' : World), Below w.heap.size w W' → Calls Try.prog 6 #[] W' fun e w' => e = .returned (.bool true) ∧ Below w.heap.size w w' := fun W' hb => (works_any W').mono fun e w' ⟨h1, h2⟩ => ⟨h1, below_then hb h2⟩
              have HIN := Lib.hid hin
              clear hin
              by_cases g1 : f + u < a.length
              · have d5 : decide ((f : Int) + u < a.length) = true := decide_eq_true (by omega)
                by_cases g2 : f + u < b.length
                · have d6 : decide ((f : Int) + u < b.length) = true := decide_eq_true (by omega)
                  obtain ⟨b3, o3, hix3, e3⟩ := str_at HA1.out (k := f) (by omega)
                  obtain ⟨b4, o4, hix4, e4⟩ := str_at HB1.out (k := f) (by omega)
                  obtain ⟨b5, o5, hix5, e5⟩ := str_at HA1.out (k := a.length - 1 - u) (by omega)
                  obtain ⟨b6, o6, hix6, e6⟩ := str_at HB1.out (k := b.length - 1 - u) (by omega)
                  obtain ⟨s, HS⟩ : ∃ s, Hid (a[f]'(by omega) = s) := ⟨_, Lib.hid rfl⟩
                  obtain ⟨t, HT⟩ : ∃ t, Hid (b[f]'(by omega) = t) := ⟨_, Lib.hid rfl⟩
                  obtain ⟨s', HS'⟩ : ∃ s, Hid (a[a.length - 1 - u]'(by omega) = s) := ⟨_, Lib.hid rfl⟩
                  obtain ⟨t', HT'⟩ : ∃ t, Hid (b[b.length - 1 - u]'(by omega) = t) := ⟨_, Lib.hid rfl⟩
                  have f1 : (s == t) = false := by
                    rw [beq_eq_false_iff_ne]
                    intro e
                    exact HIE.out.pend (by rw [HLX.out]; omega) (by rw [HLY.out]; omega) ((HN.out.ab f f (by omega) (by omega)).2 (by rw [HS.out, HT.out]; exact e))
                  have f2 : (s' == t') = false := by
                    rw [beq_eq_false_iff_ne]
                    intro e
                    refine HIE.out.send (by rw [HLX.out]; omega) (by rw [HLY.out]; omega) ?_
                    have := (HN.out.ab (a.length - 1 - u) (b.length - 1 - u) (by omega) (by omega)).2 (by rw [HS'.out, HT'.out]; exact e)
                    simp only [HLX.out, HLY.out]
                    exact this
                  rw [HS.out] at e3
                  rw [HT.out] at e4
                  rw [HS'.out] at e5
                  rw [HT'.out] at e6
                  rw [show ((a.length - 1 - u : Nat) : Int) = (a.length : Int) - 1 - u by omega] at hix5
                  rw [show ((b.length - 1 - u : Nat) : Int) = (b.length : Int) - 1 - u by omega] at hix6
                  have w2 : IntKind.i64.wrap ((a.length : Int) - 1) = (a.length : Int) - 1 := IntWalk.i64_in _ (by omega)
                  have w3 : IntKind.i64.wrap ((a.length : Int) - 1 - u) = (a.length : Int) - 1 - u := IntWalk.i64_in _ (by omega)
                  have w4 : IntKind.i64.wrap ((b.length : Int) - 1) = (b.length : Int) - 1 := IntWalk.i64_in _ (by omega)
                  have w5 : IntKind.i64.wrap ((b.length : Int) - 1 - u) = (b.length : Int) - 1 - u := IntWalk.i64_in _ (by omega)
                  have w6 : IntKind.i64.wrap ((f : Int) + u) = (f : Int) + u := IntWalk.i64_in _ (by omega)
                  go_wp2_with fail
                  go_quiet (fail)
                  clear w2 w3 w4 w5 w6
                  go_wp2_with fail
                  refine (HIN.out _ (below_drewN HW1.out _)).mono ?_
                  rintro e w7 ⟨rfl, hb⟩
                  have HW7 := Lib.hid hb
                  clear hb
                  go_wp2_with fail
                  go_ret
                  exact ⟨rfl, HW7.out⟩
                · have d6 : decide ((f : Int) + u < b.length) = false := decide_eq_false (by omega)
                  have w6 : IntKind.i64.wrap ((f : Int) + u) = (f : Int) + u := IntWalk.i64_in _ (by omega)
                  go_wp2_with fail
                  go_quiet (fail)
                  clear w6
                  go_wp2_with fail
                  refine (HIN.out _ (below_drewN HW1.out _)).mono ?_
                  rintro e w7 ⟨rfl, hb⟩
                  have HW7 := Lib.hid hb
                  clear hb
                  go_wp2_with fail
                  go_ret
                  exact ⟨rfl, HW7.out⟩
              · have d5 : decide ((f : Int) + u < a.length) = false := decide_eq_false (by omega)
                have w6 : IntKind.i64.wrap ((f : Int) + u) = (f : Int) + u := IntWalk.i64_in _ (by omega)
                go_wp2_with fail
                go_quiet (fail)
                clear w6
                go_wp2_with fail
                refine (HIN.out _ (below_drewN HW1.out _)).mono ?_
                rintro e w7 ⟨rfl, hb⟩
                have HW7 := Lib.hid hb
                clear hb
                go_wp2_with fail
                go_ret
                exact ⟨rfl, HW7.out⟩

set_option maxRecDepth 100000 in
set_option maxHeartbeats 1000000 in
theorem lineAlike_all (va vb : Value) (a b : List (List UInt8)) (w : World) (ha : Sl eL 1 w va a) (hb : Sl eL 1 w vb b) (sa : ∀ s ∈ a, (bstr s).size ≤ maxLen) (sb : ∀ s ∈ b, (bstr s).size ≤ maxLen) :
    Calls Try.prog 4 #[va, vb] w fun e w' => e = .returned (.bool true) ∧ Below w.heap.size w w' := by
  by_cases h1 : 100 < a.length
  · have hlen := ha.run_len (P := Try.prog) Try.underlying22
    have hmax := ha.len_le
    have d1 : decide ((100 : Int) < a.length) = true := decide_eq_true (by omega)
    clear ha hb sa sb
    go_enter Try.func4, Try.ntmps4
    go_wp2_with fail
    refine (works_any w).mono ?_
    rintro e w1 ⟨rfl, hb⟩
    have HW := Lib.hid hb
    clear hb
    go_wp2_with fail
    go_ret
    exact ⟨rfl, HW.out⟩
  · by_cases h2 : 100 < b.length
    · have hlen := ha.run_len (P := Try.prog) Try.underlying22
      have hlen2 := hb.run_len (P := Try.prog) Try.underlying22
      have hmax := hb.len_le
      have d1 : decide ((100 : Int) < a.length) = false := decide_eq_false (by omega)
      have d2 : decide ((100 : Int) < b.length) = true := decide_eq_true (by omega)
      clear ha hb sa sb
      go_enter Try.func4, Try.ntmps4
      go_wp2_with fail
      refine (works_any w).mono ?_
      rintro e w1 ⟨rfl, hb⟩
      have HW := Lib.hid hb
      clear hb
      go_wp2_with fail
      go_ret
      exact ⟨rfl, HW.out⟩
    · exact lineAlike_any va vb a b w ha hb sa sb h1 h2
end Go.Proofs.Ytibebmdpjaknpaa
