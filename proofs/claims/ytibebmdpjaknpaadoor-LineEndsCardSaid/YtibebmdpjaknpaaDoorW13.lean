/-
  Layer 20: Ends: how much two lists begin and end with alike. No condition besides what the arguments are.
-/
import Derived.Test.YtibebmdpjaknpaaDoorW6
import Derived.Deep.QuietTactic
import Derived.BigQuiet
import Derived.IntWalk
namespace Go.Proofs.YtibebmdpjaknpaaDoor
open Go.RowKit Go.Sl
set_option linter.unusedVariables false

theorem cells3 : Tryd.prog.cellsOf 3 = 1 := by kernel_rfl
theorem some3 : (Tryd.prog.info? 3).isSome = true := by kernel_rfl
/-- x alike at the start -/
structure Pre1 (a b : List Int) (x : Nat) : Prop where
  la : x ≤ a.length
  lb : x ≤ b.length
  eq : ∀ i (h : i < x), a[i]'(by omega) = b[i]'(by omega)
/-- y alike at the end, behind x -/
structure Suf1 (a b : List Int) (x y : Nat) : Prop where
  la : x + y ≤ a.length
  lb : x + y ≤ b.length
  eq : ∀ i (h : i < y), a[a.length - 1 - i]'(by omega) = b[b.length - 1 - i]'(by omega)
/-- what two lists begin, and end, with alike -/
structure IsEnds (a b : List Int) (x y : Nat) : Prop where
  pre : Pre1 a b x
  pend : ∀ (h1 : x < a.length) (h2 : x < b.length), a[x] ≠ b[x]
  suf : Suf1 a b x y
  send : ∀ (h1 : x + y < a.length) (h2 : x + y < b.length), a[a.length - 1 - y] ≠ b[b.length - 1 - y]

set_option maxRecDepth 100000 in
set_option maxHeartbeats 1000000 in
theorem ends_any (v1 v2 : Value) (a b : List Int) (w : World) (h1 : Sl eInt 1 w v1 a) (h2 : Sl eInt 1 w v2 b) :
    Calls Tryd.prog 5 #[v1, v2] w fun e w' => ∃ x y : Nat, e = .returned (.tuple #[.int .i64 x, .int .i64 y]) ∧ IsEnds a b x y ∧ ∃ n, w' = w.drewN n := by
  have hlen1 := h1.run_len (P := Tryd.prog) Tryd.underlying22
  have hlen2 := h2.run_len (P := Tryd.prog) Tryd.underlying22
  have hmax := h1.len_le
  have hmax2 := h2.len_le
  obtain ⟨m, hm⟩ : ∃ m : Nat, min (a.length : Int) (b.length : Int) = m := ⟨min a.length b.length, by omega⟩
  have hma : m ≤ a.length := by omega
  have hmb : m ≤ b.length := by omega
  have HM : Hid (m = a.length ∨ m = b.length) := Lib.hid (by omega)
  go_enter Tryd.func5, Tryd.ntmps5
  go_wp2_with fail
  clear hm
  go_loopw [6] (fun i wr => ∃ (k : Nat), i = .int .i64 k ∧ k ≤ m ∧ Hid (Pre1 a b k) ∧ ∃ n, Hid (wr = w.drewN n)) (fun i _ => m - (intOf i).toNat)
  case atStart => exact ⟨0, rfl, by omega, Lib.hid ⟨by omega, by omega, fun i h => by omega⟩, 0, Lib.hid rfl⟩
  case round =>
    obtain ⟨k, rfl, hk, HP, n, HW⟩ := hrel
    obtain rfl := HW.out
    clear HW
    by_cases hlt : k < m
    · have d0 : decide ((k : Int) < m) = true := decide_eq_true (by omega)
      obtain ⟨b1, o1, hb1, hix1, hc1⟩ := h1.at (P := Tryd.prog) Tryd.underlying22 cells3 some3 (k := k) (by omega)
      obtain ⟨b2, o2, hb2, hix2, hc2⟩ := h2.at (P := Tryd.prog) Tryd.underlying22 cells3 some3 (k := k) (by omega)
      have e1 := hc1 0 (by omega)
      have e2 := hc2 0 (by omega)
      simp only [eInt, List.getElem?_cons_zero, Nat.add_zero] at e1 e2
      obtain ⟨x, HX⟩ : ∃ x, Hid (a[k]'(by omega) = x) := ⟨_, Lib.hid rfl⟩
      obtain ⟨y, HY⟩ : ∃ y, Hid (b[k]'(by omega) = y) := ⟨_, Lib.hid rfl⟩
      rw [HX.out] at e1
      rw [HY.out] at e2
      clear hc1 hc2
      by_cases hxy : x = y
      · have hb : (x == y) = true := by simp [hxy]
        have HP2 : Hid (Pre1 a b (k + 1)) := Lib.hid ⟨by omega, by omega, fun i hi => by
          by_cases e : i = k
          · subst e; rw [HX.out, HY.out, hxy]
          · exact HP.out.eq i (by omega)⟩
        clear hxy
        go_wp2_with fail
        go_quiet (fail)
        go_wp2_with fail
        go_roundw
        case rel => exact ⟨k + 1, by go_num, by omega, HP2, _, Lib.hid rfl⟩
        case measure => simp [intOf]; omega
      · have hb : (x == y) = false := by simp [hxy]
        have HE : Hid (∀ (h1 : k < a.length) (h2 : k < b.length), a[k] ≠ b[k]) := Lib.hid (fun _ _ => by rw [HX.out, HY.out]; exact hxy)
        clear hxy
        go_wp2_with fail
        go_quiet (fail)
        go_wp2_with fail
        go_loopw [8] (fun i wr => ∃ (t : Nat), i = .int .i64 t ∧ k + t ≤ m ∧ Hid (Suf1 a b k t) ∧ ∃ n, Hid (wr = w.drewN n)) (fun i _ => m - (intOf i).toNat)
        case atStart => exact ⟨0, rfl, by omega, Lib.hid ⟨by omega, by omega, fun i h => by omega⟩, _, Lib.hid (by first | rfl | exact World.drewN_drewN _ _ _)⟩
        case round =>
          obtain ⟨t, rfl, ht, HS, n2, HW⟩ := hrel
          obtain rfl := HW.out
          clear HW
          by_cases hlt2 : k + t < m
          · have d9 : decide ((t : Int) < (m : Int) - k) = true := decide_eq_true (by omega)
            obtain ⟨b3, o3, hb3, hix3, hc3⟩ := h1.at (P := Tryd.prog) Tryd.underlying22 cells3 some3 (k := a.length - 1 - t) (by omega)
            obtain ⟨b4, o4, hb4, hix4, hc4⟩ := h2.at (P := Tryd.prog) Tryd.underlying22 cells3 some3 (k := b.length - 1 - t) (by omega)
            have e3 := hc3 0 (by omega)
            have e4 := hc4 0 (by omega)
            simp only [eInt, List.getElem?_cons_zero, Nat.add_zero] at e3 e4
            obtain ⟨x', HX'⟩ : ∃ x, Hid (a[a.length - 1 - t]'(by omega) = x) := ⟨_, Lib.hid rfl⟩
            obtain ⟨y', HY'⟩ : ∃ y, Hid (b[b.length - 1 - t]'(by omega) = y) := ⟨_, Lib.hid rfl⟩
            rw [HX'.out] at e3
            rw [HY'.out] at e4
            rw [show ((a.length - 1 - t : Nat) : Int) = (a.length : Int) - 1 - t by omega] at hix3
            rw [show ((b.length - 1 - t : Nat) : Int) = (b.length : Int) - 1 - t by omega] at hix4
            clear hc3 hc4
            by_cases hxy2 : x' = y'
            · have hb : (x' == y') = true := by simp [hxy2]
              have HS2 : Hid (Suf1 a b k (t + 1)) := Lib.hid ⟨by omega, by omega, fun i hi => by
                by_cases e : i = t
                · subst e; rw [HX'.out, HY'.out, hxy2]
                · exact HS.out.eq i (by omega)⟩
              clear hxy2
              have w1 : IntKind.i64.wrap ((m : Int) - k) = (m : Int) - k := IntWalk.i64_in _ (by omega)
              have w2 : IntKind.i64.wrap ((a.length : Int) - 1) = (a.length : Int) - 1 := IntWalk.i64_in _ (by omega)
              have w3 : IntKind.i64.wrap ((a.length : Int) - 1 - t) = (a.length : Int) - 1 - t := IntWalk.i64_in _ (by omega)
              have w4 : IntKind.i64.wrap ((b.length : Int) - 1) = (b.length : Int) - 1 := IntWalk.i64_in _ (by omega)
              have w5 : IntKind.i64.wrap ((b.length : Int) - 1 - t) = (b.length : Int) - 1 - t := IntWalk.i64_in _ (by omega)
              go_wp2_with fail
              go_quiet (fail)
              clear w1 w2 w3 w4 w5
              go_wp2_with fail
              go_roundw
              case rel => exact ⟨t + 1, by go_num, by omega, HS2, _, Lib.hid (by first | rfl | exact World.drewN_drewN _ _ _)⟩
              case measure => simp [intOf]; omega
            · have hb : (x' == y') = false := by simp [hxy2]
              have HF : Hid (∀ (h1 : k + t < a.length) (h2 : k + t < b.length), a[a.length - 1 - t] ≠ b[b.length - 1 - t]) := Lib.hid (fun _ _ => by rw [HX'.out, HY'.out]; exact hxy2)
              clear hxy2
              have w1 : IntKind.i64.wrap ((m : Int) - k) = (m : Int) - k := IntWalk.i64_in _ (by omega)
              have w2 : IntKind.i64.wrap ((a.length : Int) - 1) = (a.length : Int) - 1 := IntWalk.i64_in _ (by omega)
              have w3 : IntKind.i64.wrap ((a.length : Int) - 1 - t) = (a.length : Int) - 1 - t := IntWalk.i64_in _ (by omega)
              have w4 : IntKind.i64.wrap ((b.length : Int) - 1) = (b.length : Int) - 1 := IntWalk.i64_in _ (by omega)
              have w5 : IntKind.i64.wrap ((b.length : Int) - 1 - t) = (b.length : Int) - 1 - t := IntWalk.i64_in _ (by omega)
              go_wp2_with fail
              go_quiet (fail)
              clear w1 w2 w3 w4 w5
              go_wp2_with fail
              go_ret2
              exact ⟨k, t, rfl, ⟨HP.out, HE.out, HS.out, HF.out⟩, _, (by first | rfl | exact World.drewN_drewN _ _ _)⟩
          · have d9 : decide ((t : Int) < (m : Int) - k) = false := decide_eq_false (by omega)
            have HF : Hid (∀ (h1 : k + t < a.length) (h2 : k + t < b.length), a[a.length - 1 - t] ≠ b[b.length - 1 - t]) := Lib.hid (fun _ _ => by have := HM.out; omega)
            have w1 : IntKind.i64.wrap ((m : Int) - k) = (m : Int) - k := IntWalk.i64_in _ (by omega)
            have w2 : IntKind.i64.wrap ((a.length : Int) - 1) = (a.length : Int) - 1 := IntWalk.i64_in _ (by omega)
            have w3 : IntKind.i64.wrap ((a.length : Int) - 1 - t) = (a.length : Int) - 1 - t := IntWalk.i64_in _ (by omega)
            have w4 : IntKind.i64.wrap ((b.length : Int) - 1) = (b.length : Int) - 1 := IntWalk.i64_in _ (by omega)
            have w5 : IntKind.i64.wrap ((b.length : Int) - 1 - t) = (b.length : Int) - 1 - t := IntWalk.i64_in _ (by omega)
            go_wp2_with fail
            go_quiet (fail)
            clear w1 w2 w3 w4 w5
            go_wp2_with fail
            go_ret2
            exact ⟨k, t, rfl, ⟨HP.out, HE.out, HS.out, HF.out⟩, _, (by first | rfl | exact World.drewN_drewN _ _ _)⟩
    · have d0 : decide ((k : Int) < m) = false := decide_eq_false (by omega)
      have HE : Hid (∀ (h1 : k < a.length) (h2 : k < b.length), a[k] ≠ b[k]) := Lib.hid (fun _ _ => by have := HM.out; omega)
      go_wp2_with fail
      go_quiet (fail)
      go_wp2_with fail
      go_loopw [8] (fun i wr => ∃ (t : Nat), i = .int .i64 t ∧ k + t ≤ m ∧ Hid (Suf1 a b k t) ∧ ∃ n, Hid (wr = w.drewN n)) (fun i _ => m - (intOf i).toNat)
      case atStart => exact ⟨0, rfl, by omega, Lib.hid ⟨by omega, by omega, fun i h => by omega⟩, _, Lib.hid (by first | rfl | exact World.drewN_drewN _ _ _)⟩
      case round =>
        obtain ⟨t, rfl, ht, HS, n2, HW⟩ := hrel
        obtain rfl := HW.out
        clear HW
        by_cases hlt2 : k + t < m
        · have d9 : decide ((t : Int) < (m : Int) - k) = true := decide_eq_true (by omega)
          obtain ⟨b3, o3, hb3, hix3, hc3⟩ := h1.at (P := Tryd.prog) Tryd.underlying22 cells3 some3 (k := a.length - 1 - t) (by omega)
          obtain ⟨b4, o4, hb4, hix4, hc4⟩ := h2.at (P := Tryd.prog) Tryd.underlying22 cells3 some3 (k := b.length - 1 - t) (by omega)
          have e3 := hc3 0 (by omega)
          have e4 := hc4 0 (by omega)
          simp only [eInt, List.getElem?_cons_zero, Nat.add_zero] at e3 e4
          obtain ⟨x', HX'⟩ : ∃ x, Hid (a[a.length - 1 - t]'(by omega) = x) := ⟨_, Lib.hid rfl⟩
          obtain ⟨y', HY'⟩ : ∃ y, Hid (b[b.length - 1 - t]'(by omega) = y) := ⟨_, Lib.hid rfl⟩
          rw [HX'.out] at e3
          rw [HY'.out] at e4
          rw [show ((a.length - 1 - t : Nat) : Int) = (a.length : Int) - 1 - t by omega] at hix3
          rw [show ((b.length - 1 - t : Nat) : Int) = (b.length : Int) - 1 - t by omega] at hix4
          clear hc3 hc4
          by_cases hxy2 : x' = y'
          · have hb : (x' == y') = true := by simp [hxy2]
            have HS2 : Hid (Suf1 a b k (t + 1)) := Lib.hid ⟨by omega, by omega, fun i hi => by
              by_cases e : i = t
              · subst e; rw [HX'.out, HY'.out, hxy2]
              · exact HS.out.eq i (by omega)⟩
            clear hxy2
            have w1 : IntKind.i64.wrap ((m : Int) - k) = (m : Int) - k := IntWalk.i64_in _ (by omega)
            have w2 : IntKind.i64.wrap ((a.length : Int) - 1) = (a.length : Int) - 1 := IntWalk.i64_in _ (by omega)
            have w3 : IntKind.i64.wrap ((a.length : Int) - 1 - t) = (a.length : Int) - 1 - t := IntWalk.i64_in _ (by omega)
            have w4 : IntKind.i64.wrap ((b.length : Int) - 1) = (b.length : Int) - 1 := IntWalk.i64_in _ (by omega)
            have w5 : IntKind.i64.wrap ((b.length : Int) - 1 - t) = (b.length : Int) - 1 - t := IntWalk.i64_in _ (by omega)
            go_wp2_with fail
            go_quiet (fail)
            clear w1 w2 w3 w4 w5
            go_wp2_with fail
            go_roundw
            case rel => exact ⟨t + 1, by go_num, by omega, HS2, _, Lib.hid (by first | rfl | exact World.drewN_drewN _ _ _)⟩
            case measure => simp [intOf]; omega
          · have hb : (x' == y') = false := by simp [hxy2]
            have HF : Hid (∀ (h1 : k + t < a.length) (h2 : k + t < b.length), a[a.length - 1 - t] ≠ b[b.length - 1 - t]) := Lib.hid (fun _ _ => by rw [HX'.out, HY'.out]; exact hxy2)
            clear hxy2
            have w1 : IntKind.i64.wrap ((m : Int) - k) = (m : Int) - k := IntWalk.i64_in _ (by omega)
            have w2 : IntKind.i64.wrap ((a.length : Int) - 1) = (a.length : Int) - 1 := IntWalk.i64_in _ (by omega)
            have w3 : IntKind.i64.wrap ((a.length : Int) - 1 - t) = (a.length : Int) - 1 - t := IntWalk.i64_in _ (by omega)
            have w4 : IntKind.i64.wrap ((b.length : Int) - 1) = (b.length : Int) - 1 := IntWalk.i64_in _ (by omega)
            have w5 : IntKind.i64.wrap ((b.length : Int) - 1 - t) = (b.length : Int) - 1 - t := IntWalk.i64_in _ (by omega)
            go_wp2_with fail
            go_quiet (fail)
            clear w1 w2 w3 w4 w5
            go_wp2_with fail
            go_ret2
            exact ⟨k, t, rfl, ⟨HP.out, HE.out, HS.out, HF.out⟩, _, (by first | rfl | exact World.drewN_drewN _ _ _)⟩
        · have d9 : decide ((t : Int) < (m : Int) - k) = false := decide_eq_false (by omega)
          have HF : Hid (∀ (h1 : k + t < a.length) (h2 : k + t < b.length), a[a.length - 1 - t] ≠ b[b.length - 1 - t]) := Lib.hid (fun _ _ => by have := HM.out; omega)
          have w1 : IntKind.i64.wrap ((m : Int) - k) = (m : Int) - k := IntWalk.i64_in _ (by omega)
          have w2 : IntKind.i64.wrap ((a.length : Int) - 1) = (a.length : Int) - 1 := IntWalk.i64_in _ (by omega)
          have w3 : IntKind.i64.wrap ((a.length : Int) - 1 - t) = (a.length : Int) - 1 - t := IntWalk.i64_in _ (by omega)
          have w4 : IntKind.i64.wrap ((b.length : Int) - 1) = (b.length : Int) - 1 := IntWalk.i64_in _ (by omega)
          have w5 : IntKind.i64.wrap ((b.length : Int) - 1 - t) = (b.length : Int) - 1 - t := IntWalk.i64_in _ (by omega)
          go_wp2_with fail
          go_quiet (fail)
          clear w1 w2 w3 w4 w5
          go_wp2_with fail
          go_ret2
          exact ⟨k, t, rfl, ⟨HP.out, HE.out, HS.out, HF.out⟩, _, (by first | rfl | exact World.drewN_drewN _ _ _)⟩
end Go.Proofs.YtibebmdpjaknpaaDoor
