/-
  Layer 5: one part taken by a pattern's places. No condition besides what the arguments are.
-/
import Derived.Test.YtopamnfelngkcaaDoorW7
namespace Go.Proofs.YtopamnfelngkcaaDoor
open Go.RowKit Go.Sl Go.Route
set_option linter.unusedVariables false

theorem cleared (b n : Nat) : ∀ (k o : Nat) (f : Nat → Bool) (w : World), Rw b n f w → Rw b n (fun i => if o ≤ i ∧ i < o + k then false else f i) (w.setCells b o (List.replicate k (.bool false))) ∧ w.grownBy (w.setCells b o (List.replicate k (.bool false))) (some b)
  | 0, o, f, w, h => ⟨h.congr fun i _ => by rw [if_neg (by omega)], World.grownBy.refl _ _⟩
  | k + 1, o, f, w, h => by
    obtain ⟨h1, h2⟩ := cleared b n k (o + 1) _ _ (h.set o false)
    refine ⟨h1.congr fun i _ => ?_, grown_t (grown_set w b o (.bool false)) h2⟩
    by_cases e : o ≤ i ∧ i < o + (k + 1)
    · rw [if_pos e]
      by_cases e2 : o + 1 ≤ i ∧ i < o + 1 + k
      · rw [if_pos e2]
      · rw [if_neg e2, if_pos (by omega)]
    · rw [if_neg e, if_neg (by omega), if_neg (by omega)]
theorem zero4 (w : World) : (zeroValue 4).run Tryd.prog w = .ok (.bool false) w := by kernel_rfl

/-- a row behind one part, the first i places having been looked at -/
def stq (P : List Wd) (f : Nat → Bool) (x : Wd) (i : Nat) : Nat → Bool
  | 0 => decide (0 < i) && f 0 && decide (P[0]? = some [42, 42])
  | y + 1 => (decide (y + 1 < i) && f (y + 1) && decide (P[y + 1]? = some [42, 42])) || (decide (y < i) && f y && (match P[y]? with | some c => decide (c ≠ [42, 42]) && glob c x | none => false))
/-- what stands at a place behind the first -/
def tl (P : List Wd) (x : Wd) (y : Nat) : Bool := match P[y]? with | some c => decide (c ≠ [42, 42]) && glob c x | none => false
theorem stq_z (P : List Wd) (f : Nat → Bool) (x : Wd) (i : Nat) : stq P f x i 0 = (decide (0 < i) && f 0 && decide (P[0]? = some [42, 42])) := rfl
theorem stq_s (P : List Wd) (f : Nat → Bool) (x : Wd) (i y : Nat) : stq P f x i (y + 1) = ((decide (y + 1 < i) && f (y + 1) && decide (P[y + 1]? = some [42, 42])) || (decide (y < i) && f y && tl P x y)) := rfl
theorem stp_z (P : List Wd) (f : Nat → Bool) (x : Wd) : stp P f x 0 = (f 0 && decide (P[0]? = some [42, 42])) := rfl
theorem stp_s (P : List Wd) (f : Nat → Bool) (x : Wd) (y : Nat) : stp P f x (y + 1) = ((f (y + 1) && decide (P[y + 1]? = some [42, 42])) || (f y && tl P x y)) := rfl
theorem tl_many {P : List Wd} {x : Wd} {y : Nat} (h : P[y]? = some [42, 42]) : tl P x y = false := by unfold tl; rw [h]; simp
theorem tl_one {P : List Wd} {x c : Wd} {y : Nat} (h : P[y]? = some c) (hm : c ≠ [42, 42]) : tl P x y = glob c x := by unfold tl; rw [h]; simp [hm]
theorem stq_zero (P : List Wd) (f : Nat → Bool) (x : Wd) (y : Nat) : stq P f x 0 y = false := by cases y <;> simp [stq_z, stq_s]
theorem stq_all {P : List Wd} {f : Nat → Bool} {x : Wd} {y : Nat} (hy : y ≤ P.length) : stq P f x P.length y = stp P f x y := by
  cases y with
  | zero =>
    rw [stq_z, stp_z]
    by_cases h : 0 < P.length
    · rw [decide_eq_true h, Bool.true_and]
    · rw [List.getElem?_eq_none (by omega)]; simp
  | succ y =>
    rw [stq_s, stp_s, decide_eq_true (show y < P.length by omega), Bool.true_and]
    by_cases h : y + 1 < P.length
    · rw [decide_eq_true h, Bool.true_and]
    · rw [List.getElem?_eq_none (by omega)]; simp
theorem stq_off {P : List Wd} {f : Nat → Bool} {x : Wd} {i : Nat} (h : f i = false) (y : Nat) : stq P f x i y = stq P f x (i + 1) y := by
  have key : ∀ (z : Nat) (b : Bool), (decide (z < i) && f z && b) = (decide (z < i + 1) && f z && b) := fun z b => by
    by_cases e : z = i
    · subst e; simp [h]
    · have : decide (z < i) = decide (z < i + 1) := by rw [Bool.eq_iff_iff, decide_eq_true_iff, decide_eq_true_iff]; omega
      rw [this]
  cases y with
  | zero => rw [stq_z, stq_z]; exact key 0 _
  | succ y => rw [stq_s, stq_s, key (y + 1), key y]
theorem stq_many {P : List Wd} {f : Nat → Bool} {x : Wd} {i : Nat} (h : f i = true) (hc : P[i]? = some [42, 42]) (y : Nat) : (fun z => if z = i then true else stq P f x i z) y = stq P f x (i + 1) y := by
  have key : ∀ (z : Nat) (b : Bool), z ≠ i → (decide (z < i) && f z && b) = (decide (z < i + 1) && f z && b) := fun z b e => by
    have : decide (z < i) = decide (z < i + 1) := by rw [Bool.eq_iff_iff, decide_eq_true_iff, decide_eq_true_iff]; omega
    rw [this]
  by_cases e : y = i
  · subst e
    cases y with
    | zero => simp [stq_z, h, hc]
    | succ y => simp [stq_s, h, hc]
  · simp only [e, if_false]
    cases y with
    | zero => rw [stq_z, stq_z]; exact key 0 _ e
    | succ y =>
      rw [stq_s, stq_s, key (y + 1) _ e]
      by_cases e2 : y = i
      · subst e2; rw [tl_many hc]; simp
      · rw [key y _ e2]
theorem stq_one {P : List Wd} {f : Nat → Bool} {x : Wd} {i : Nat} {c : Wd} (h : f i = true) (hc : P[i]? = some c) (hm : c ≠ [42, 42]) (hg : glob c x = true) (y : Nat) : (fun z => if z = i + 1 then true else stq P f x i z) y = stq P f x (i + 1) y := by
  have key : ∀ (z : Nat) (b : Bool), z ≠ i → (decide (z < i) && f z && b) = (decide (z < i + 1) && f z && b) := fun z b e => by
    have : decide (z < i) = decide (z < i + 1) := by rw [Bool.eq_iff_iff, decide_eq_true_iff, decide_eq_true_iff]; omega
    rw [this]
  have hn : decide (P[i]? = some [42, 42]) = false := by rw [hc]; exact decide_eq_false (fun e => hm (Option.some.inj e))
  by_cases e : y = i + 1
  · subst e; simp [stq_s, h, tl_one hc hm, hg]
  · simp only [e, if_false]
    cases y with
    | zero =>
      rw [stq_z, stq_z]
      by_cases e2 : 0 = i
      · subst e2; rw [hn]; simp
      · exact key 0 _ e2
    | succ y =>
      rw [stq_s, stq_s, key y _ (by omega)]
      by_cases e2 : y + 1 = i
      · subst e2; rw [hn]; simp
      · rw [key (y + 1) _ e2]
theorem stq_none {P : List Wd} {f : Nat → Bool} {x : Wd} {i : Nat} {c : Wd} (hc : P[i]? = some c) (hm : c ≠ [42, 42]) (hg : glob c x = false) (y : Nat) : stq P f x i y = stq P f x (i + 1) y := by
  have key : ∀ (z : Nat) (b : Bool), z ≠ i → (decide (z < i) && f z && b) = (decide (z < i + 1) && f z && b) := fun z b e => by
    have : decide (z < i) = decide (z < i + 1) := by rw [Bool.eq_iff_iff, decide_eq_true_iff, decide_eq_true_iff]; omega
    rw [this]
  have hn : decide (P[i]? = some [42, 42]) = false := by rw [hc]; exact decide_eq_false (fun e => hm (Option.some.inj e))
  cases y with
  | zero =>
    rw [stq_z, stq_z]
    by_cases e2 : 0 = i
    · subst e2; rw [hn]; simp
    · exact key 0 _ e2
  | succ y =>
    rw [stq_s, stq_s]
    by_cases e2 : y + 1 = i
    · rw [← e2] at hn
      rw [hn, key y _ (by omega)]; simp
    · rw [key (y + 1) _ e2]
      by_cases e3 : y = i
      · subst e3; rw [tl_one hc hm, hg]; simp
      · rw [key y _ e3]
/-- something has been set -/
def Anyq (P : List Wd) (f : Nat → Bool) (x : Wd) (i : Nat) (a : Bool) : Prop := a = true ↔ ∃ y, y ≤ P.length ∧ stq P f x i y = true
theorem anyq_zero (P : List Wd) (f : Nat → Bool) (x : Wd) : Anyq P f x 0 false := by
  unfold Anyq
  constructor
  · intro h; cases h
  · rintro ⟨y, _, h⟩; rw [stq_zero] at h; cases h
theorem anyq_same {P : List Wd} {f : Nat → Bool} {x : Wd} {i : Nat} {a : Bool} (h : Anyq P f x i a) (he : ∀ y, stq P f x i y = stq P f x (i + 1) y) : Anyq P f x (i + 1) a := by
  unfold Anyq at *
  rw [h]
  constructor <;> (rintro ⟨y, h1, h2⟩; exact ⟨y, h1, by first | rwa [← he] | rwa [he]⟩)
theorem anyq_set {P : List Wd} {f : Nat → Bool} {x : Wd} {i z : Nat} (hz : z ≤ P.length) (he : ∀ y, (fun y => if y = z then true else stq P f x i y) y = stq P f x (i + 1) y) : Anyq P f x (i + 1) true := by
  unfold Anyq
  exact ⟨fun _ => ⟨z, hz, by rw [← he]; simp⟩, fun _ => rfl⟩
theorem anyq_all {P : List Wd} {f : Nat → Bool} {x : Wd} {a : Bool} (h : Anyq P f x P.length a) : a = anyB P f x := by
  unfold Anyq at h
  rw [Bool.eq_iff_iff, h, anyB_iff]
  constructor <;> (rintro ⟨y, h1, h2⟩; exact ⟨y, h1, by first | rwa [← stq_all h1] | rwa [stq_all h1]⟩)

set_option maxRecDepth 100000 in
set_option maxHeartbeats 2000000 in
theorem step_any (v : Value) (P : List Wd) (x : Wd) (w0 w : World) (b c : Nat) (f g : Nat → Bool) (hv : Sl eL 1 w0 v P) (hP : P.length ≤ 1000) (hl : ∀ p ∈ P, p.length ≤ 1000) (hx : x.length ≤ 1000) (hw : Below w0.heap.size w0 w) (hb : w0.heap.size ≤ b) (hc : w0.heap.size ≤ c) (hbc : b ≠ c)
    (hR : Rw b (P.length + 1) f w) (hS : Rw c (P.length + 1) g w) :
    Calls Tryd.prog 94 #[v, .slice (some ⟨b, 0, none⟩) (P.length + 1) (P.length + 1), .slice (some ⟨c, 0, none⟩) (P.length + 1) (P.length + 1), .string (bstr x)] w fun e w' => e = .returned (.bool (anyB P f x)) ∧ Rw c (P.length + 1) (spr P (stp P f x)) w' ∧ w.grownBy w' (some c) := by
  have hlen := hv.run_len (P := Tryd.prog) Tryd.underlying22
  have hcl : ∀ ty, (Builtin.clear_ #[106] ty #[.slice (some ⟨c, 0, none⟩) (P.length + 1) (P.length + 1)]).run Tryd.prog w = .ok (.tuple #[]) (w.setCells c 0 (List.replicate (P.length + 1) (.bool false))) :=
    fun ty => Lib.run_clear_slice w 106 4 ty (.bool false) Tryd.underlying106 zero4 rfl rfl c 0 (P.length + 1) (P.length + 1) (by omega) (fun j hj => by rw [Nat.zero_add, (hS.cell hj).1]; rfl) (fun j hj => by rw [Nat.zero_add]; exact (hS.cell hj).2.1)
  obtain ⟨hS1, hG1⟩ := cleared c (P.length + 1) (P.length + 1) 0 g w hS
  obtain ⟨wc, hwc⟩ : ∃ wc, w.setCells c 0 (List.replicate (P.length + 1) (.bool false)) = wc := ⟨_, rfl⟩
  rw [hwc] at hcl hS1 hG1
  clear hwc
  have HS0 : Hid (Rw c (P.length + 1) (stq P f x 0) wc) := Lib.hid (hS1.congr fun k hk => by rw [if_pos (by omega), stq_zero])
  have HG0 := Lib.hid hG1
  have HV := Lib.hid hv
  have HR := Lib.hid hR
  have HL := Lib.hid hl
  have HQ0 := Lib.hid (anyq_zero P f x)
  clear hv hR hS hS1 hG1 hl
  go_enter Tryd.func94, Tryd.ntmps94
  go_wp2_with fail
  go_loopw [9, 15] (fun a i wr => ∃ (k : Nat) (q : Bool), i = .int .i64 k ∧ a = .bool q ∧ k ≤ P.length ∧ Hid (Rw c (P.length + 1) (stq P f x k) wr) ∧ Hid (w.grownBy wr (some c)) ∧ Hid (Anyq P f x k q)) (fun _ i _ => P.length - (intOf i).toNat)
  case atStart => exact ⟨0, false, rfl, rfl, by omega, HS0, HG0, HQ0⟩
  case round =>
    obtain ⟨k, q, rfl, rfl, hk, HS, HG, HQ⟩ := hrel
    have HW : Hid (Below w0.heap.size w0 wr) := Lib.hid (hw.grown HG.out hw.size (fun j e => by cases e; exact hc))
    have HR2 : Hid (Rw b (P.length + 1) f wr) := Lib.hid (HR.out.other HG.out (by simpa using Ne.symm hbc))
    by_cases hlt : k < P.length
    · obtain ⟨b2, o2, hb2, hix2, hc2⟩ := HV.out.atB HW.out (P := Tryd.prog) Tryd.underlying22 cells9 some9 hlt
      have e1 := hc2 0 (by omega)
      simp only [eL, List.getElem?_cons_zero, Nat.add_zero] at e1
      obtain ⟨p, HX⟩ : ∃ p, Hid (P[k] = p) := ⟨_, Lib.hid rfl⟩
      have hpk : P[k]? = some p := by rw [List.getElem?_eq_getElem hlt, HX.out]
      have hpl := HL.out P[k] (List.getElem_mem hlt)
      rw [HX.out] at e1 hpl
      have HPK := Lib.hid hpk
      obtain ⟨c1, c2, c3⟩ := HR2.out.cell (k := k) (by omega)
      obtain ⟨c4, c5, c6⟩ := HS.out.cell (k := k) (by omega)
      obtain ⟨c7, c8, -⟩ := HS.out.cell (k := k + 1) (by omega)
      clear hc2 hpk
      cases hf : f k with
      | false =>
        rw [hf] at c1
        have HS2 := Lib.hid (HS.out.congr fun y _ => stq_off (P := P) (x := x) hf y)
        have HQ2 := Lib.hid (anyq_same HQ.out (stq_off hf))
        clear hf c4 c5 c7 c8
        go_wp2_with fail
        go_roundw
        case rel => exact ⟨k + 1, q, by go_num, rfl, by omega, HS2, HG, HQ2⟩
        case measure => simp [intOf]; omega
      | true =>
        rw [hf] at c1
        by_cases hm : p = [42, 42]
        · have q1 : (p == [42, 42]) = true := by simp [hm]
          have hst := stq_many (P := P) (x := x) hf (by rw [HPK.out, hm])
          have HS2 := Lib.hid ((HS.out.set k true).congr fun y _ => hst y)
          have HG2 := Lib.hid (grown_t HG.out (grown_set wr c k (.bool true)))
          have HQ2 := Lib.hid (anyq_set (by omega) hst)
          clear hf hm hst c7 c8
          go_wp2_with fail
          go_roundw
          case rel => exact ⟨k + 1, true, by go_num, rfl, by omega, HS2, HG2, HQ2⟩
          case measure => simp [intOf]; omega
        · have q1 : (p == [42, 42]) = false := by simpa using hm
          have hwd := word_any p x wr hpl hx
          cases hg : glob p x with
          | true =>
            rw [hg] at hwd
            have hst := stq_one (x := x) hf HPK.out hm hg
            have HS2 : Hid (∀ n, Rw c (P.length + 1) (stq P f x (k + 1)) ((wr.drewN n).setCell ⟨c, k + 1, none⟩ (.bool true))) := Lib.hid fun n => ((HS.out.drewN n).set (k + 1) true).congr fun y _ => hst y
            have HG2 : Hid (∀ n, w.grownBy ((wr.drewN n).setCell ⟨c, k + 1, none⟩ (.bool true)) (some c)) := Lib.hid fun n => grown_t (grown_t HG.out (grown_drew wr n _)) (grown_set _ c (k + 1) (.bool true))
            have HQ2 := Lib.hid (anyq_set (by omega) hst)
            have HWD := Lib.hid hwd
            clear hf hm hst hg hwd c4 c5
            go_wp2_with (go_at_call 111; go_must (refine HWD.out.mono ?_; rintro e w3 ⟨rfl, n3, rfl⟩))
            go_roundw
            case rel => exact ⟨k + 1, true, by go_num, rfl, by omega, Lib.hid (HS2.out _), Lib.hid (HG2.out _), HQ2⟩
            case measure => simp [intOf]; omega
          | false =>
            rw [hg] at hwd
            have hst := stq_none (f := f) (x := x) HPK.out hm hg
            have HS2 : Hid (∀ n, Rw c (P.length + 1) (stq P f x (k + 1)) (wr.drewN n)) := Lib.hid fun n => (HS.out.drewN n).congr fun y _ => hst y
            have HG2 : Hid (∀ n, w.grownBy (wr.drewN n) (some c)) := Lib.hid fun n => grown_t HG.out (grown_drew wr n _)
            have HQ2 := Lib.hid (anyq_same HQ.out hst)
            have HWD := Lib.hid hwd
            clear hf hm hst hg hwd c4 c5 c7 c8
            go_wp2_with (go_at_call 111; go_must (refine HWD.out.mono ?_; rintro e w3 ⟨rfl, n3, rfl⟩))
            go_roundw
            case rel => exact ⟨k + 1, q, by go_num, rfl, by omega, Lib.hid (HS2.out _), Lib.hid (HG2.out _), HQ2⟩
            case measure => simp [intOf]; omega
    · obtain rfl : k = P.length := by omega
      have HZ := Lib.hid (anyq_all HQ.out)
      have HSp := Lib.hid (spread_any v P w0 wr c (stq P f x P.length) HV.out hP HW.out hc HS.out)
      go_wp2_with (go_at_call 93; go_must (refine HSp.out.mono ?_; rintro e w3 ⟨⟨u, rfl⟩, hr, hg⟩; have HR3 := Lib.hid hr; have HG3 := Lib.hid (grown_t HG.out hg); clear hr hg))
      go_ret
      refine ⟨ret_bool HZ.out, HR3.out.congr fun y hy => ?_, HG3.out⟩
      have hsq : ∀ y, y ≤ P.length → spr P (stq P f x P.length) y = spr P (stp P f x) y := by
        intro y
        induction y with
        | zero => intro _; exact stq_all (Nat.zero_le _)
        | succ y ih => intro h; rw [spr, spr, ih (by omega), stq_all h]
      exact hsq y (by omega)
end Go.Proofs.YtopamnfelngkcaaDoor
