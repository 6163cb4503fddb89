/-
  Layer 5: places in a pattern, as a row of truths: spread; one part taken. No condition besides what the arguments are.
-/
import Derived.Test.YtopamnfelngkcaaDoorW6
import Derived.Lib.SliceRun
namespace Go.Proofs.YtopamnfelngkcaaDoor
open Go.RowKit Go.Sl Go.Route
set_option linter.unusedVariables false

/-- a row of truths -/
def Rw (b n : Nat) (f : Nat → Bool) (w : World) : Prop := w.rowIs b 4 n (fun k => .bool (f k))
theorem Rw.congr {b n : Nat} {f g : Nat → Bool} {w : World} (h : Rw b n f w) (he : ∀ k, k < n → f k = g k) : Rw b n g w := World.rowIs.congr h fun k hk => by rw [he k hk]
theorem Rw.cell {b n : Nat} {f : Nat → Bool} {w : World} (h : Rw b n f w) {k : Nat} (hk : k < n) : w.cell? ⟨b, k, none⟩ = some (.bool (f k)) ∧ w.frozen? ⟨b, k, none⟩ = false ∧ b < w.heap.size := by
  refine ⟨World.rowIs.cell h hk, ?_, ?_⟩
  · obtain ⟨c, h1, _⟩ := h; simp [World.frozen?, h1]
  · obtain ⟨c, h1, _⟩ := h; exact (Array.getElem?_eq_some_iff.1 h1).1
theorem Rw.set {b n : Nat} {f : Nat → Bool} {w : World} (h : Rw b n f w) (k : Nat) (v : Bool) : Rw b n (fun i => if i = k then v else f i) (w.setCell ⟨b, k, none⟩ (.bool v)) := by
  exact World.rowIs.congr (World.rowIs.set h k (.bool v)) fun i _ => by by_cases e : i = k <;> simp [e]
theorem Rw.other {b n : Nat} {f : Nat → Bool} {w w' : World} {r : Option Nat} (h : Rw b n f w) (hg : w.grownBy w' r) (hr : r ≠ some b) : Rw b n f w' := by
  obtain ⟨c, h1, h2, h3⟩ := h
  exact ⟨c, grown_heap hg h1 hr, h2, h3⟩
theorem Rw.drewN {b n : Nat} {f : Nat → Bool} {w : World} (h : Rw b n f w) (k : Nat) : Rw b n f (w.drewN k) := h

theorem grown_set (w : World) (b k : Nat) (v : Value) : w.grownBy (w.setCell ⟨b, k, none⟩ v) (some b) :=
  ⟨rfl, rfl, rfl, by rw [World.size_setCell]; exact Nat.le_refl _, fun i hi hne => Below.heap_setCell _ _ _ _ (fun e => hne (by rw [e]))⟩
theorem grown_t {w w' w'' : World} {r : Option Nat} (h : w.grownBy w' r) (h2 : w'.grownBy w'' r) : w.grownBy w'' r :=
  ⟨h2.os.trans h.os, h2.tape.trans h.tape, h2.output.trans h.output, Nat.le_trans h.size h2.size, fun k hk hne => (h2.block k (Nat.lt_of_lt_of_le hk h.size) hne).trans (h.block k hk hne)⟩
theorem grown_drew (w : World) (n : Nat) (r : Option Nat) : w.grownBy (w.drewN n) r := ⟨rfl, rfl, rfl, Nat.le_refl _, fun _ _ _ => rfl⟩

/-- a row spread up to i -/
def mix (P : List Wd) (g : Nat → Bool) (i : Nat) : Nat → Bool := fun x => if x ≤ i then spr P g x else g x
theorem mix_zero (P : List Wd) (g : Nat → Bool) (x : Nat) : mix P g 0 x = g x := by
  unfold mix
  by_cases h : x ≤ 0
  · obtain rfl : x = 0 := by omega
    rw [if_pos h]; rfl
  · rw [if_neg h]
theorem mix_yes {P : List Wd} {g : Nat → Bool} {i : Nat} (h1 : spr P g i = true) (h2 : P[i]? = some [42, 42]) (x : Nat) : (fun y => if y = i + 1 then true else mix P g i y) x = mix P g (i + 1) x := by
  unfold mix
  by_cases e : x = i + 1
  · subst e; simp [spr, h1, h2]
  · simp only [e, if_false]
    by_cases h : x ≤ i
    · rw [if_pos h, if_pos (by omega)]
    · rw [if_neg h, if_neg (by omega)]
theorem mix_no {P : List Wd} {g : Nat → Bool} {i : Nat} (h : ¬ (spr P g i = true ∧ P[i]? = some [42, 42])) (x : Nat) : mix P g i x = mix P g (i + 1) x := by
  unfold mix
  by_cases e : x = i + 1
  · subst e
    rw [if_neg (by omega), if_pos (Nat.le_refl _), spr]
    have : (spr P g i && decide (P[i]? = some [42, 42])) = false := by
      rw [Bool.eq_false_iff]; intro h2
      rw [Bool.and_eq_true, decide_eq_true_iff] at h2; exact h h2
    rw [this, Bool.or_false]
  · by_cases h : x ≤ i
    · rw [if_pos h, if_pos (by omega)]
    · rw [if_neg h, if_neg (by omega)]

set_option maxRecDepth 100000 in
set_option maxHeartbeats 1000000 in
theorem spread_any (v : Value) (P : List Wd) (w0 w : World) (b : Nat) (g : Nat → Bool) (hv : Sl eL 1 w0 v P) (hP : P.length ≤ 1000) (hw : Below w0.heap.size w0 w) (hb : w0.heap.size ≤ b) (hR : Rw b (P.length + 1) g w) :
    Calls Tryd.prog 93 #[v, .slice (some ⟨b, 0, none⟩) (P.length + 1) (P.length + 1)] w fun e w' => (∃ x, e = .returned x) ∧ Rw b (P.length + 1) (spr P g) w' ∧ w.grownBy w' (some b) := by
  have hlen := hv.run_len (P := Tryd.prog) Tryd.underlying22
  have HV := Lib.hid hv
  have HR0 : Hid (Rw b (P.length + 1) (mix P g 0) w) := Lib.hid (hR.congr fun k _ => (mix_zero P g k).symm)
  clear hv hR
  go_enter Tryd.func93, Tryd.ntmps93
  go_wp2_with fail
  go_loopw [8] (fun i wr => ∃ (k : Nat), i = .int .i64 k ∧ k ≤ P.length ∧ Hid (Rw b (P.length + 1) (mix P g k) wr) ∧ Hid (w.grownBy wr (some b))) (fun i _ => P.length - (intOf i).toNat)
  case atStart => exact ⟨0, rfl, by omega, HR0, Lib.hid (World.grownBy.refl _ _)⟩
  case round =>
    obtain ⟨k, rfl, hk, HR, HG⟩ := hrel
    have HW : Hid (Below w0.heap.size w0 wr) := Lib.hid (hw.grown HG.out hw.size (fun j e => by cases e; exact hb))
    by_cases hlt : k < P.length
    · obtain ⟨b2, o2, hb2, hix2, hc2⟩ := HV.out.atB HW.out (P := Tryd.prog) Tryd.underlying22 cells9 some9 hlt
      have e1 := hc2 0 (by omega)
      simp only [eL, List.getElem?_cons_zero, Nat.add_zero] at e1
      obtain ⟨x, HX⟩ : ∃ x, Hid (P[k] = x) := ⟨_, Lib.hid rfl⟩
      rw [HX.out] at e1
      obtain ⟨c1, c2, c3⟩ := HR.out.cell (k := k) (by omega)
      obtain ⟨c4, c5, -⟩ := HR.out.cell (k := k + 1) (by omega)
      have hm : mix P g k k = spr P g k := by unfold mix; rw [if_pos (Nat.le_refl _)]
      rw [hm] at c1
      clear hc2 hm
      cases hs : spr P g k with
      | false =>
        rw [hs] at c1
        have HR2 : Hid (Rw b (P.length + 1) (mix P g (k + 1)) wr) := Lib.hid (HR.out.congr fun y _ => mix_no (by rw [hs]; simp) y)
        clear hs c4 c5
        go_wp2_with fail
        go_roundw
        case rel => exact ⟨k + 1, by go_num, by omega, HR2, HG⟩
        case measure => simp [intOf]; omega
      | true =>
        rw [hs] at c1
        by_cases hx : x = [42, 42]
        · have q1 : (x == [42, 42]) = true := by simp [hx]
          have HR2 := Lib.hid ((HR.out.set (k + 1) true).congr fun y _ => mix_yes hs (by rw [List.getElem?_eq_getElem hlt, HX.out, hx]) y)
          have HG2 := Lib.hid (grown_t HG.out (grown_set wr b (k + 1) (.bool true)))
          clear hs hx
          go_wp2_with fail
          go_roundw
          case rel => exact ⟨k + 1, by go_num, by omega, HR2, HG2⟩
          case measure => simp [intOf]; omega
        · have q1 : (x == [42, 42]) = false := by simpa using hx
          have HR2 : Hid (Rw b (P.length + 1) (mix P g (k + 1)) wr) := Lib.hid (HR.out.congr fun y _ => mix_no (fun h => hx (by have := h.2; rw [List.getElem?_eq_getElem hlt, HX.out] at this; exact Option.some.inj this)) y)
          clear hs hx c4 c5
          go_wp2_with fail
          go_roundw
          case rel => exact ⟨k + 1, by go_num, by omega, HR2, HG⟩
          case measure => simp [intOf]; omega
    · have HZ : Hid (Rw b (P.length + 1) (spr P g) wr) := Lib.hid (HR.out.congr fun y hy => by unfold mix; rw [if_pos (by omega)])
      go_wp2_with fail
      go_end0
      exact ⟨⟨_, rfl⟩, HZ.out, HG.out⟩
end Go.Proofs.YtopamnfelngkcaaDoor
