/-
  Layer 34: what only asks. No condition besides what the arguments are.
-/
import Derived.Test.YtcpmnocknpalfaaT3
namespace Go.Proofs.Ytcpmnocknpalfaa
open Go.RowKit Go.Sl Go.B64 Go.Bis
set_option linter.unusedVariables false

def hasB (s : S) (n : Int) : Bool := decide (0 ≤ n ∧ n < 128) && mem s n.toNat
def askE (U : Nat → S) (N : Nat) (st : St) (n : Int) : Nat := if nxB (acc U st N) = false then 50 else if (hasB st.cand n && !decide (n = (st.worst : Int))) = true then 0 else 2

set_option maxRecDepth 100000 in
set_option maxHeartbeats 1000000 in
theorem ask_any {base sb ub N : Nat} {U : Nat → S} {f n : St} {w : World} (h : Se base sb ub N U f n w) (hN : N ≤ 128) (hlt : ∀ x, mem n.cand x = true → x < N) (hw : n.worst < N) (x : Int) :
    Calls Try.prog 86 #[.pointer (some ⟨sb, 0, none⟩), .int .i64 x] w fun e w' => e = .returned (.int .i64 (askE U N n x : Nat)) ∧ Below w.heap.size w w' := by
  have HS := Lib.hid h
  have HD := Lib.hid (dead_no h)
  have HX := Lib.hid (bnext_any h hN hlt hw)
  have hsb := h.lt
  obtain ⟨c7, c8, c9, c10, c11, -, c0⟩ := h.now
  clear h
  obtain ⟨b, hb⟩ : ∃ b, Hid (hasB n.cand x = b) := ⟨_, Lib.hid rfl⟩
  obtain ⟨nb, hnb⟩ : ∃ b, Hid (nxB (acc U n N) = b) := ⟨_, Lib.hid rfl⟩
  obtain ⟨nn, hnn⟩ : ∃ b, Hid (nxN (acc U n N) = b) := ⟨_, Lib.hid rfl⟩
  have HH := Lib.hid (fun w => has_any n.cand x b hb.out w)
  have HE : Hid (askE U N n x = if nb = false then 50 else if (b && !decide (x = (n.worst : Int))) = true then 0 else 2) := Lib.hid (by unfold askE; rw [hb.out, hnb.out])
  rw [hnb.out, hnn.out] at HX
  clear hlt hb hnb hnn
  go_enter Try.func86, Try.ntmps86
  go_wp2_with fail
  refine HD.out.mono ?_
  rintro e w1 ⟨rfl, rfl⟩
  go_wp2_with fail
  refine HX.out.mono ?_
  rintro e w2 ⟨rfl, hb2⟩
  have HB2 := Lib.hid hb2
  have e7 := (hb2.cell (p := ⟨sb, 7, none⟩) hsb).trans c7
  have e8 := (hb2.cell (p := ⟨sb, 8, none⟩) hsb).trans c8
  have q2 := hb2.size
  clear hb2
  cases nb with
  | false =>
    go_wp2_with fail
    go_ret
    exact ⟨by rw [HE.out]; rfl, HB2.out⟩
  | true =>
    go_wp2_with fail
    refine (HH.out _).mono ?_
    rintro e w3 ⟨rfl, hb3⟩
    have e11 := ((bthen HB2.out hb3).cell (p := ⟨sb, 11, none⟩) hsb).trans c11
    have HB3 := Lib.hid (bthen HB2.out hb3)
    clear hb3 c7 c8 c9 c10 c11 c0 e7 e8
    cases b with
    | false =>
      go_wp2_with fail
      go_ret
      exact ⟨by rw [HE.out]; rfl, HB3.out⟩
    | true =>
      by_cases hx : x = (n.worst : Int)
      · have HE2 : Hid (askE U N n x = 2) := Lib.hid (by rw [HE.out]; simp [hx])
        clear HE
        go_wp2_with fail
        go_ret
        exact ⟨by rw [HE2.out]; rfl, HB3.out⟩
      · have HE2 : Hid (askE U N n x = 0) := Lib.hid (by rw [HE.out]; simp [hx])
        clear HE
        go_wp2_with fail
        go_ret
        exact ⟨by rw [HE2.out]; rfl, HB3.out⟩

section
variable {base sb ub N : Nat} {U : Nat → S} {f n : St} {w : World}
set_option maxHeartbeats 1000000 in
theorem bcand_any (h : Se base sb ub N U f n w) : Calls Try.prog 41 #[.pointer (some ⟨sb, 0, none⟩)] w fun e w' => ∃ v, e = .returned v ∧ Own eInt 1 w.heap.size 3 w' v (Dag.filtN (mem n.cand) 128) ∧ Below w.heap.size w w' := by
  have HD := Lib.hid (dead_no h)
  obtain ⟨c7, c8, c9, c10, c11, -, c0⟩ := h.now
  have HL := Lib.hid (slist_any n.cand w)
  clear h
  go_enter Try.func41, Try.ntmps41
  go_wp2_with fail
  refine HD.out.mono ?_
  rintro e w1 ⟨rfl, rfl⟩
  go_wp2_with fail
  refine HL.out.mono ?_
  rintro e w2 ⟨v, rfl, ho, hb⟩
  have HO := Lib.hid ho
  have HB := Lib.hid hb
  clear ho hb
  go_wp2_with fail
  go_ret
  exact ⟨v, rfl, HO.out, HB.out⟩
set_option maxHeartbeats 1000000 in
theorem bskip_any (h : Se base sb ub N U f n w) : Calls Try.prog 42 #[.pointer (some ⟨sb, 0, none⟩)] w fun e w' => ∃ v, e = .returned v ∧ Own eInt 1 w.heap.size 3 w' v (Dag.filtN (mem n.skip) 128) ∧ Below w.heap.size w w' := by
  have HD := Lib.hid (dead_no h)
  obtain ⟨c7, c8, c9, c10, c11, -, c0⟩ := h.now
  have HL := Lib.hid (slist_any n.skip w)
  clear h
  go_enter Try.func42, Try.ntmps42
  go_wp2_with fail
  refine HD.out.mono ?_
  rintro e w1 ⟨rfl, rfl⟩
  go_wp2_with fail
  refine HL.out.mono ?_
  rintro e w2 ⟨v, rfl, ho, hb⟩
  have HO := Lib.hid ho
  have HB := Lib.hid hb
  clear ho hb
  go_wp2_with fail
  go_ret
  exact ⟨v, rfl, HO.out, HB.out⟩
set_option maxHeartbeats 1000000 in
theorem bworst_any (h : Se base sb ub N U f n w) : Calls Try.prog 43 #[.pointer (some ⟨sb, 0, none⟩)] w fun e w' => e = .returned (.int .i64 (n.worst : Nat)) ∧ w = w' := by
  have HD := Lib.hid (dead_no h)
  obtain ⟨c7, c8, c9, c10, c11, -, c0⟩ := h.now
  clear h
  go_enter Try.func43, Try.ntmps43
  go_wp2_with fail
  refine HD.out.mono ?_
  rintro e w1 ⟨rfl, rfl⟩
  go_wp2_with fail
  go_ret
  exact ⟨rfl, rfl⟩
set_option maxHeartbeats 1000000 in
theorem bans_any (h : Se base sb ub N U f n w) : Calls Try.prog 56 #[.pointer (some ⟨sb, 0, none⟩)] w fun e w' => e = .returned (.int .i64 (n.ans : Nat)) ∧ w = w' := by
  have HD := Lib.hid (dead_no h)
  obtain ⟨c7, c8, c9, c10, c11, c12, c0⟩ := h.now
  clear h
  go_enter Try.func56, Try.ntmps56
  go_wp2_with fail
  refine HD.out.mono ?_
  rintro e w1 ⟨rfl, rfl⟩
  go_wp2_with fail
  go_ret
  exact ⟨rfl, rfl⟩
/-- how many candidates a candidate has above it -/
def wtE (U : Nat → S) (st : St) (x : Int) : Nat := if hasB st.cand x = true then wt U st.cand x.toNat else 0
set_option maxRecDepth 100000 in
set_option maxHeartbeats 1000000 in
theorem bweight_any (h : Se base sb ub N U f n w) (hN : N ≤ 128) (hlt : ∀ x, mem n.cand x = true → x < N) (x : Int) :
    Calls Try.prog 45 #[.pointer (some ⟨sb, 0, none⟩), .int .i64 x] w fun e w' => e = .returned (.int .i64 (wtE U n x : Nat)) ∧ Below w.heap.size w w' := by
  have HS := Lib.hid h
  have HD := Lib.hid (dead_no h)
  obtain ⟨c7, c8, c9, c10, c11, -, c0⟩ := h.now
  obtain ⟨b, hb⟩ : ∃ b, Hid (hasB n.cand x = b) := ⟨_, Lib.hid rfl⟩
  have HH := Lib.hid (has_any n.cand x b hb.out w)
  have HE : Hid (wtE U n x = if b = true then wt U n.cand x.toNat else 0) := Lib.hid (by unfold wtE; rw [hb.out])
  have HX : Hid (b = true → ∃ y : Nat, x = (y : Int) ∧ y < N) := Lib.hid (fun e => by
    have h1 := hb.out.trans e
    simp only [hasB, Bool.and_eq_true, decide_eq_true_eq] at h1
    exact ⟨x.toNat, by omega, hlt _ h1.2⟩)
  clear h hlt hb
  go_enter Try.func45, Try.ntmps45
  go_wp2_with fail
  refine HD.out.mono ?_
  rintro e w1 ⟨rfl, rfl⟩
  go_wp2_with fail
  refine HH.out.mono ?_
  rintro e w2 ⟨rfl, hb2⟩
  have HB2 := Lib.hid hb2
  have HS2 := Lib.hid (HS.out.ext hb2)
  clear hb2 c7 c8 c9 c10 c11 c0
  cases b with
  | false =>
    go_wp2_with fail
    go_ret
    exact ⟨by rw [HE.out]; rfl, HB2.out⟩
  | true =>
    obtain ⟨y, rfl, hy⟩ := HX.out rfl
    have HW := Lib.hid (weight_any HS2.out y hy hN)
    have HE2 : Hid (wtE U n y = wt U n.cand y) := Lib.hid (by rw [HE.out, if_pos rfl]; rfl)
    clear HE HX hy
    go_wp2_with fail
    refine HW.out.mono ?_
    rintro e w3 ⟨rfl, hb3⟩
    have HB3 := Lib.hid (bthen HB2.out hb3)
    clear hb3
    go_wp2_with fail
    go_ret
    exact ⟨by rw [HE2.out]; rfl, HB3.out⟩
end
end Go.Proofs.Ytcpmnocknpalfaa
