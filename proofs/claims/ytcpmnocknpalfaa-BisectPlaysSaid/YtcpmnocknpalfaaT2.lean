/-
  Layer 34: a session: its block; what only asks. No condition besides what the arguments are.
-/
import Derived.Deep.RegionHeld3
import Derived.Test.YtcpmnocknpalfaaT1
namespace Go.Proofs.Ytcpmnocknpalfaa
open Go.RowKit Go.Sl Go.B64 Go.Bis
set_option linter.unusedVariables false

def eSet (s : S) : List Value := [.int .u64 (u64 (wd s 0)), .int .u64 (u64 (wd s 1))]
theorem len_eSet (s : S) : (eSet s).length = 2 := rfl
theorem one_eSet (s : S) : ∀ u ∈ eSet s, u.oneCell' = true := by simp [eSet, Value.oneCell']
abbrev upV (ub N : Nat) : Value := .slice (some ⟨ub, 0, none⟩) N N
def seCells (up : Value) (f n : St) : Array Value :=
  #[up, .int .u64 (u64 (wd f.cand 0)), .int .u64 (u64 (wd f.cand 1)), .int .u64 (u64 (wd f.skip 0)), .int .u64 (u64 (wd f.skip 1)), .int .i64 (f.worst : Int), .int .i64 (f.ans : Int),
    .int .u64 (u64 (wd n.cand 0)), .int .u64 (u64 (wd n.cand 1)), .int .u64 (u64 (wd n.skip 0)), .int .u64 (u64 (wd n.skip 1)), .int .i64 (n.worst : Int), .int .i64 (n.ans : Int)]
/-- a session at block sb: what it was first, what it is now -/
structure Se (base sb ub N : Nat) (U : Nat → S) (f n : St) (w : World) : Prop where
  hb : base ≤ sb
  blk : w.heap[sb]? = some (.cells (seCells (upV ub N) f n) 84 (0, 0))
  ups : Own eSet 2 base 80 w (upV ub N) ((List.range N).map U)
section
variable {base sb ub N : Nat} {U : Nat → S} {f n : St} {w w' : World}
theorem Se.ext (h : Se base sb ub N U f n w) (hb : Below w.heap.size w w') : Se base sb ub N U f n w' := ⟨h.hb, (hb.block _ (Array.getElem?_eq_some_iff.1 h.blk).1).trans h.blk, h.ups.ext hb⟩
theorem Se.lt (h : Se base sb ub N U f n w) : sb < w.heap.size := (Array.getElem?_eq_some_iff.1 h.blk).1
theorem Se.low {base' : Nat} (h : Se base sb ub N U f n w) (hb : base' ≤ base) : Se base' sb ub N U f n w := ⟨Nat.le_trans hb h.hb, h.blk, h.ups.mono hb⟩
/-- the block turned -/
theorem Se.turn {n' : St} (h : Se base sb ub N U f n w) (hg : w.grownBy w' (some sb)) (hb : w'.heap[sb]? = some (.cells (seCells (upV ub N) f n') 84 (0, 0))) : Se base sb ub N U f n' w' :=
  ⟨h.hb, hb, h.ups.kept hg (.inr (h.ups.ne_elem h.blk (by decide)))⟩
theorem Se.now (h : Se base sb ub N U f n w) : w.cell? ⟨sb, 7, none⟩ = some (.int .u64 (u64 (wd n.cand 0))) ∧ w.cell? ⟨sb, 8, none⟩ = some (.int .u64 (u64 (wd n.cand 1))) ∧ w.cell? ⟨sb, 9, none⟩ = some (.int .u64 (u64 (wd n.skip 0))) ∧
    w.cell? ⟨sb, 10, none⟩ = some (.int .u64 (u64 (wd n.skip 1))) ∧ w.cell? ⟨sb, 11, none⟩ = some (.int .i64 (n.worst : Int)) ∧ w.cell? ⟨sb, 12, none⟩ = some (.int .i64 (n.ans : Int)) ∧ w.cell? ⟨sb, 0, none⟩ = some (upV ub N) :=
  ⟨by simp [World.cell?, h.blk, seCells], by simp [World.cell?, h.blk, seCells], by simp [World.cell?, h.blk, seCells], by simp [World.cell?, h.blk, seCells], by simp [World.cell?, h.blk, seCells], by simp [World.cell?, h.blk, seCells], by simp [World.cell?, h.blk, seCells]⟩
theorem Se.fz (h : Se base sb ub N U f n w) (k : Nat) : w.frozen? ⟨sb, k, none⟩ = false := by simp [World.frozen?, h.blk]
theorem Se.up (h : Se base sb ub N U f n w) {k : Nat} (hk : k < N) : w.cell? ⟨ub, k * 2, none⟩ = some (.int .u64 (u64 (wd (U k) 0))) ∧ w.cell? ⟨ub, k * 2 + 1, none⟩ = some (.int .u64 (u64 (wd (U k) 1))) ∧ ub < w.heap.size := by
  obtain ⟨b, o, e1, h1, h2, h3⟩ := At_eq (h.ups.sl len_eSet) (k := k) (by simpa using hk)
  have e0 : At (upV ub N) 2 k = ⟨ub, k * 2, none⟩ := by
    by_cases hk0 : k = 0
    · subst hk0; rfl
    · simp [At, Addr.add]; omega
  rw [e0] at e1
  simp only [Addr.mk.injEq, and_true] at e1
  obtain ⟨rfl, ho⟩ := e1
  have q0 := h3 0 (by omega)
  have q1 := h3 1 (by omega)
  simp [eSet] at q0 q1
  have e : o = 0 := by omega
  subst e
  simp at q0 q1
  exact ⟨q0, q1, h1⟩
end
theorem eql_up (ub N : Nat) (w : World) : (binOp .eql 77 (.slice (some ⟨ub, 0, none⟩) N N) (.slice none 0 0)).run Try.prog w = .ok (.bool false) w := by
  have := Lib.run_eql_slice_nil (P := Try.prog) w 77 80 (some ⟨ub, 0, none⟩) N N 0 0 Try.underlying77
  simpa using this

set_option maxHeartbeats 1000000 in
theorem dead_no {base sb ub N : Nat} {U : Nat → S} {f n : St} {w : World} (h : Se base sb ub N U f n w) : Calls Try.prog 81 #[.pointer (some ⟨sb, 0, none⟩)] w fun e w' => e = .returned (.bool false) ∧ w' = w := by
  obtain ⟨-, -, -, -, -, -, c0⟩ := h.now
  have hq := eql_up ub N
  clear h
  go_enter Try.func81, Try.ntmps81
  go_wp2_with fail
  go_ret
  exact ⟨rfl, rfl⟩
set_option maxHeartbeats 1000000 in
theorem dead_nil (w : World) : Calls Try.prog 81 #[.pointer none] w fun e w' => e = .returned (.bool true) ∧ w' = w := by
  go_enter Try.func81, Try.ntmps81
  go_wp2_with fail
  go_ret
  exact ⟨rfl, rfl⟩
set_option maxHeartbeats 1000000 in
theorem dead_zero {sb : Nat} {w : World} (h : w.cell? ⟨sb, 0, none⟩ = some (.slice none 0 0)) : Calls Try.prog 81 #[.pointer (some ⟨sb, 0, none⟩)] w fun e w' => e = .returned (.bool true) ∧ w' = w := by
  have hq : ∀ w, (binOp .eql 77 (.slice none 0 0) (.slice none 0 0)).run Try.prog w = .ok (.bool true) w := fun w => by
    have := Lib.run_eql_slice_nil (P := Try.prog) w 77 80 none 0 0 0 0 Try.underlying77
    simpa using this
  go_enter Try.func81, Try.ntmps81
  go_wp2_with fail
  go_ret
  exact ⟨rfl, rfl⟩

set_option maxRecDepth 100000 in
set_option maxHeartbeats 1000000 in
theorem weight_any {base sb ub N : Nat} {U : Nat → S} {f n : St} {w : World} (h : Se base sb ub N U f n w) (x : Nat) (hx : x < N) (hN : N ≤ 128) :
    Calls Try.prog 85 #[.pointer (some ⟨sb, 0, none⟩), .int .i64 (x : Int)] w fun e w' => e = .returned (.int .i64 (wt U n.cand x : Nat)) ∧ Below w.heap.size w w' := by
  obtain ⟨c7, c8, -, -, -, -, c0⟩ := h.now
  obtain ⟨c1, c2, c3⟩ := h.up hx
  have hsb := h.lt
  have HK : Hid (∀ u, Below w.heap.size w u → u.cell? ⟨sb, 7, none⟩ = some (.int .u64 (u64 (wd n.cand 0))) ∧ u.cell? ⟨sb, 8, none⟩ = some (.int .u64 (u64 (wd n.cand 1))) ∧ u.cell? ⟨sb, 0, none⟩ = some (upV ub N) ∧
    u.cell? ⟨ub, x * 2, none⟩ = some (.int .u64 (u64 (wd (U x) 0))) ∧ u.cell? ⟨ub, x * 2 + 1, none⟩ = some (.int .u64 (u64 (wd (U x) 1))) ∧ Below w.heap.size w u) := Lib.hid (fun u hu =>
      ⟨(hu.cell (p := ⟨sb, 7, none⟩) hsb).trans c7, (hu.cell (p := ⟨sb, 8, none⟩) hsb).trans c8, (hu.cell (p := ⟨sb, 0, none⟩) hsb).trans c0, (hu.cell (p := ⟨ub, x * 2, none⟩) c3).trans c1, (hu.cell (p := ⟨ub, x * 2 + 1, none⟩) c3).trans c2, hu⟩)
  have hx0 : (0 : Int) ≤ (x : Int) := by omega
  have hx1 : (x : Int) < (N : Int) := by omega
  clear h c7 c8 c0 c1 c2 c3 hsb
  go_enter Try.func85, Try.ntmps85
  go_wp2_with fail
  go_region_held3 (fun u => u.cell? ⟨sb, 7, none⟩ = some (.int .u64 (u64 (wd n.cand 0))) ∧ u.cell? ⟨sb, 8, none⟩ = some (.int .u64 (u64 (wd n.cand 1))) ∧ u.cell? ⟨sb, 0, none⟩ = some (upV ub N) ∧
      u.cell? ⟨ub, x * 2, none⟩ = some (.int .u64 (u64 (wd (U x) 0))) ∧ u.cell? ⟨ub, x * 2 + 1, none⟩ = some (.int .u64 (u64 (wd (U x) 1))) ∧ Below w.heap.size w u)
    (first
      | exact HK.out _ (below_drewN (Below.refl _ _) 1)
      | exact HK.out _ HU8.out
      | exact HK.out _ HU7.out)
    (first
      | (go_at_call 82; (refine (count_any _ _).mono ?_); rintro e u8 ⟨rfl, hb⟩; have HU8 : Hid (Below w.heap.size w u8) := Lib.hid (HU7.out.trans (hb.mono HU7.out.size)); clear hb)
      | (go_at_call 87; (refine (and_any (U x) n.cand w.drew).mono ?_); rintro e u7 ⟨rfl, hb⟩; have HU7 : Hid (Below w.heap.size w u7) := Lib.hid ((below_drewN (Below.refl _ _) 1).trans hb); clear hb))
  go_wp2_with fail
  go_ret
  exact ⟨rfl, HU8.out⟩
end Go.Proofs.Ytcpmnocknpalfaa
