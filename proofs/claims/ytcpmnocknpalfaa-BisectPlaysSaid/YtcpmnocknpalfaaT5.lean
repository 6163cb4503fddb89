/-
  Layer 34: an answer. No condition besides what the arguments are.
-/
import Derived.Test.YtcpmnocknpalfaaT4
import Derived.Lib.BufferMore
import Derived.Deep.RegionWith
namespace Go.Proofs.Ytcpmnocknpalfaa
open Go.RowKit Go.Sl Go.B64 Go.Bis
set_option linter.unusedVariables false

theorem gb {w w' : World} (h : Below w.heap.size w w') (row : Option Nat) : w.grownBy w' row := ⟨h.os, h.tape, h.output, h.size, fun k hk _ => h.block k hk⟩
theorem gs (w : World) (a : Addr) (u : Value) : w.grownBy (w.setCell a u) (some a.block) := ⟨rfl, rfl, rfl, by simp, fun k _ hk => Below.heap_setCell _ _ _ k (fun e => hk (by rw [e]))⟩
theorem askE_cases (U : Nat → S) (N : Nat) (st : St) (x : Int) : askE U N st x = 50 ∨ askE U N st x = 2 ∨ askE U N st x = 0 := by
  unfold askE; split
  · exact .inl rfl
  · split
    · exact .inr (.inr rfl)
    · exact .inr (.inl rfl)
theorem askE_zero {U : Nat → S} {N : Nat} {st : St} {x : Int} (h : askE U N st x = 0) (hlt : ∀ x, mem st.cand x = true → x < N) : ∃ y : Nat, x = (y : Int) ∧ y < N ∧ mem st.cand y = true ∧ y ≠ st.worst ∧ nxB (acc U st N) = true := by
  unfold askE at h
  split at h
  · cases h
  · rename_i h1
    split at h
    · rename_i h2
      simp only [hasB, Bool.and_eq_true, decide_eq_true_eq, Bool.not_eq_true', decide_eq_false_iff_not] at h2
      exact ⟨x.toNat, by omega, hlt _ h2.1.2, h2.1.2, by omega, by simpa using h1⟩
    · cases h
theorem sayE_ask {U : Nat → S} {N : Nat} {st : St} (hN : N ≤ 128) (hlt : ∀ x, mem st.cand x = true → x < N) (what : Nat) (x : Int) :
    sayE U N st what x = if askE U N st x = 0 then (if what = 2 ∧ mem st.skip x.toNat = true then 2 else 0) else askE U N st x := by
  by_cases h : nxB (acc U st N) = false
  · simp [sayE, askE, h]
  · have hq : askE U N st x = 0 ↔ (0 ≤ x ∧ x < N ∧ mem st.cand x.toNat = true ∧ x.toNat ≠ st.worst) := by
      refine ⟨fun hz => ?_, fun hz => ?_⟩
      · obtain ⟨y, rfl, h1, h2, h3, -⟩ := askE_zero hz hlt
        exact ⟨by omega, by omega, h2, h3⟩
      · obtain ⟨h1, h2, h3, h4⟩ := hz
        unfold askE
        rw [if_neg h, if_pos]
        simp only [hasB, Bool.and_eq_true, decide_eq_true_eq, Bool.not_eq_true', decide_eq_false_iff_not]
        exact ⟨⟨by omega, h3⟩, by omega⟩
    by_cases hz : askE U N st x = 0
    · rw [if_pos hz]
      obtain ⟨h1, h2, h3, h4⟩ := hq.1 hz
      unfold sayE
      rw [if_neg h]
      by_cases hw : what = 2 ∧ mem st.skip x.toNat = true
      · rw [if_pos hw, if_neg]
        intro hc
        have := hc.2.2.2.2 hw.1
        rw [hw.2] at this; cases this
      · rw [if_neg hw, if_pos]
        refine ⟨h1, h2, h3, h4, fun hw2 => ?_⟩
        cases hm : mem st.skip x.toNat
        · rfl
        · exact absurd ⟨hw2, hm⟩ hw
    · rw [if_neg hz]
      have h2 : askE U N st x = 2 := by
        rcases askE_cases U N st x with h1 | h1 | h1
        · unfold askE at h1
          rw [if_neg h] at h1
          split at h1 <;> cases h1
        · exact h1
        · exact absurd h1 hz
      rw [h2]
      unfold sayE
      rw [if_neg h, if_neg]
      intro hc
      exact hz (hq.2 ⟨hc.1, hc.2.1, hc.2.2.1, hc.2.2.2.1⟩)

section
variable {base sb ub N : Nat} {U : Nat → S} {f n : St} {w u : World}
theorem Se.ne (h : Se base sb ub N U f n w) : ub ≠ sb := by
  have := h.ups.ne_elem h.blk (by decide)
  intro e; subst e; exact this rfl
theorem cell_off {b o o2 : Nat} {v : Value} (u : World) (h : o2 ≠ o) : (u.setCell ⟨b, o, none⟩ v).cell? ⟨b, o2, none⟩ = u.cell? ⟨b, o2, none⟩ := by
  rw [World.cell?_setCell_other]
  intro e; apply h; cases e; rfl
theorem cell_blk {b o b2 o2 : Nat} {v : Value} (u : World) (h : b2 ≠ b) : (u.setCell ⟨b, o, none⟩ v).cell? ⟨b2, o2, none⟩ = u.cell? ⟨b2, o2, none⟩ :=
  World.cell?_of_block (Below.heap_setCell _ _ _ _ h)
theorem Se.good (h : Se base sb ub N U f n u) (hg : w.grownBy u (some sb)) (h0 : Se base sb ub N U f n w) (s : S) : let w' := ((u.setCell ⟨sb, 7, none⟩ (.int .u64 (u64 (wd s 0)))).setCell ⟨sb, 8, none⟩ (.int .u64 (u64 (wd s 1)))).setCell ⟨sb, 12, none⟩ (.int .i64 ((n.ans : Int) + 1))
    w.grownBy w' (some sb) ∧ Se base sb ub N U f ⟨s, n.skip, n.worst, n.ans + 1⟩ w' := by
  intro w'
  have hg' : w.grownBy w' (some sb) := ((hg.trans (gs _ _ _)).trans (gs _ _ _)).trans (gs _ _ _)
  exact ⟨hg', h0.turn hg' (Lib.heap_setCell_same (i := 12) (Lib.heap_setCell_same (i := 8) (Lib.heap_setCell_same (i := 7) h.blk _) _) _)⟩
theorem Se.bad (h : Se base sb ub N U f n u) (hg : w.grownBy u (some sb)) (h0 : Se base sb ub N U f n w) (s : S) (y : Nat) : let w' := (((u.setCell ⟨sb, 7, none⟩ (.int .u64 (u64 (wd s 0)))).setCell ⟨sb, 8, none⟩ (.int .u64 (u64 (wd s 1)))).setCell ⟨sb, 11, none⟩ (.int .i64 (y : Int))).setCell ⟨sb, 12, none⟩ (.int .i64 ((n.ans : Int) + 1))
    w.grownBy w' (some sb) ∧ Se base sb ub N U f ⟨s, n.skip, y, n.ans + 1⟩ w' := by
  intro w'
  have hg' : w.grownBy w' (some sb) := (((hg.trans (gs _ _ _)).trans (gs _ _ _)).trans (gs _ _ _)).trans (gs _ _ _)
  exact ⟨hg', h0.turn hg' (Lib.heap_setCell_same (i := 12) (Lib.heap_setCell_same (i := 11) (Lib.heap_setCell_same (i := 8) (Lib.heap_setCell_same (i := 7) h.blk _) _) _) _)⟩
theorem Se.skipd (h : Se base sb ub N U f n u) (hg : w.grownBy u (some sb)) (h0 : Se base sb ub N U f n w) (s : S) : let w' := ((u.setCell ⟨sb, 9, none⟩ (.int .u64 (u64 (wd s 0)))).setCell ⟨sb, 10, none⟩ (.int .u64 (u64 (wd s 1)))).setCell ⟨sb, 12, none⟩ (.int .i64 ((n.ans : Int) + 1))
    w.grownBy w' (some sb) ∧ Se base sb ub N U f ⟨n.cand, s, n.worst, n.ans + 1⟩ w' := by
  intro w'
  have hg' : w.grownBy w' (some sb) := ((hg.trans (gs _ _ _)).trans (gs _ _ _)).trans (gs _ _ _)
  exact ⟨hg', h0.turn hg' (Lib.heap_setCell_same (i := 12) (Lib.heap_setCell_same (i := 10) (Lib.heap_setCell_same (i := 9) h.blk _) _) _)⟩
end

set_option maxRecDepth 100000 in
set_option maxHeartbeats 1000000 in
theorem bgood_any {base sb ub N : Nat} {U : Nat → S} {f n : St} {w : World} (h : Se base sb ub N U f n w) (hN : N ≤ 128) (hlt : ∀ x, mem n.cand x = true → x < N) (hw : n.worst < N) (han : n.ans < 1000) (x : Int) :
    Calls Try.prog 53 #[.pointer (some ⟨sb, 0, none⟩), .int .i64 x] w fun e w' => e = .returned (.int .i64 (sayE U N n 0 x : Nat)) ∧ w.grownBy w' (some sb) ∧ Se base sb ub N U f (sayS U N n 0 x) w' := by
  have HS := Lib.hid h
  have HA := Lib.hid (ask_any h hN hlt hw x)
  have HE := Lib.hid (sayE_ask (U := U) hN hlt 0 x)
  obtain ⟨e0, he⟩ : ∃ e0, Hid (askE U N n x = e0) := ⟨_, Lib.hid rfl⟩
  have HC := Lib.hid (askE_cases U N n x)
  have HZ : Hid (e0 = 0 → ∃ y : Nat, x = (y : Int) ∧ y < N) := Lib.hid (fun hz => by obtain ⟨y, h1, h2, -⟩ := askE_zero (he.out.trans hz) hlt; exact ⟨y, h1, h2⟩)
  rw [he.out] at HA HE HC
  clear h hlt he
  go_enter Try.func53, Try.ntmps53
  go_wp2_with fail
  refine HA.out.mono ?_
  rintro e w1 ⟨rfl, hb1⟩
  have HB1 := Lib.hid hb1
  have HS1 := Lib.hid (HS.out.ext hb1)
  clear hb1 HA
  rcases HC.out with rfl | rfl | rfl
  · have HQ : Hid (sayE U N n 0 x = 50) := Lib.hid HE.out
    have HQ2 : Hid (sayS U N n 0 x = n) := Lib.hid (by unfold sayS; rw [HQ.out]; rfl)
    go_wp2_with fail
    go_ret
    exact ⟨by rw [HQ.out]; rfl, gb HB1.out _, by rw [HQ2.out]; exact HS1.out⟩
  · have HQ : Hid (sayE U N n 0 x = 2) := Lib.hid HE.out
    have HQ2 : Hid (sayS U N n 0 x = n) := Lib.hid (by unfold sayS; rw [HQ.out]; rfl)
    go_wp2_with fail
    go_ret
    exact ⟨by rw [HQ.out]; rfl, gb HB1.out _, by rw [HQ2.out]; exact HS1.out⟩
  · obtain ⟨y, rfl, hy⟩ := HZ.out rfl
    have HQ : Hid (sayE U N n 0 y = 0) := Lib.hid (by rw [HE.out]; rfl)
    have HQ2 : Hid (sayS U N n 0 y = ⟨n.cand &&& ~~~ U y, n.skip, n.worst, n.ans + 1⟩) := Lib.hid (by unfold sayS; rw [HQ.out]; rfl)
    obtain ⟨c7, c8, c9, c10, c11, c12, c0⟩ := HS1.out.now
    obtain ⟨c1, c2, c3⟩ := HS1.out.up hy
    have hsb := HS1.out.lt
    have HK : Hid (∀ u, Below w1.heap.size w1 u → u.cell? ⟨sb, 7, none⟩ = some (.int .u64 (u64 (wd n.cand 0))) ∧ u.cell? ⟨sb, 8, none⟩ = some (.int .u64 (u64 (wd n.cand 1))) ∧ u.cell? ⟨sb, 0, none⟩ = some (upV ub N) ∧ u.cell? ⟨ub, y * 2, none⟩ = some (.int .u64 (u64 (wd (U y) 0))) ∧ u.cell? ⟨ub, y * 2 + 1, none⟩ = some (.int .u64 (u64 (wd (U y) 1))) ∧ Below w1.heap.size w1 u) := Lib.hid (fun u hu =>
      ⟨(hu.cell (p := ⟨sb, 7, none⟩) hsb).trans c7, (hu.cell (p := ⟨sb, 8, none⟩) hsb).trans c8, (hu.cell (p := ⟨sb, 0, none⟩) hsb).trans c0, (hu.cell (p := ⟨ub, y * 2, none⟩) c3).trans c1, (hu.cell (p := ⟨ub, y * 2 + 1, none⟩) c3).trans c2, hu⟩)
    have hx0 : (0 : Int) ≤ (y : Int) := by omega
    have hx1 : (y : Int) < (N : Int) := by omega
    have Hsb := Lib.hid hsb
    have Hc12 := Lib.hid c12
    have Hc11 := Lib.hid c11
    have Han := Lib.hid han
    clear c7 c8 c9 c10 c11 c12 c0 c1 c2 c3 hsb HZ HE HC hy hw hN han
    go_wp2_with fail
    obtain ⟨k7, k8, k0, k1, k2, -⟩ := HK.out _ (Below.refl _ _)
    go_region_with (go_at_call 80; (refine (less_any n.cand (U y) _).mono ?_); rintro e u7 ⟨rfl, hb⟩; have HU7 : Hid (Below w1.heap.size w1 u7) := Lib.hid ((below_drewN (Below.refl _ _) 1).trans hb); have q7 := (HU7.out.frozen (p := ⟨sb, 7, none⟩) Hsb.out).trans (HS1.out.fz 7); have q8 := (HU7.out.frozen (p := ⟨sb, 8, none⟩) Hsb.out).trans (HS1.out.fz 8); obtain ⟨v7, v8, -, -, -, -⟩ := HK.out _ HU7.out; clear hb)
    all_goals
      obtain ⟨an, hn⟩ : ∃ an, Hid (n.ans = an) := ⟨_, Lib.hid rfl⟩
      have v12 := (HU7.out.cell (p := ⟨sb, 12, none⟩) Hsb.out).trans Hc12.out
      have q12 := (HU7.out.frozen (p := ⟨sb, 12, none⟩) Hsb.out).trans (HS1.out.fz 12)
      have v11 := (HU7.out.cell (p := ⟨sb, 11, none⟩) Hsb.out).trans Hc11.out
      have q11 := (HU7.out.frozen (p := ⟨sb, 11, none⟩) Hsb.out).trans (HS1.out.fz 11)
      have hr := Han.out
      rw [hn.out] at v12 hr
      have hwr : IntKind.i64.wrap ((an : Int) + 1) = (an : Int) + 1 := by rw [IntKind.wrap_i64]; omega
      clear k7 k8 k0 k1 k2 hx0 hx1 hr
      go_wp2_with fail
      go_ret
      refine ⟨by rw [HQ.out]; rfl, ?_⟩
      rw [HQ2.out, hn.out]
      have := Se.good (HS1.out.ext HU7.out) (gb (bthen HB1.out HU7.out) _) HS.out (n.cand &&& ~~~ U y)
      rw [hn.out] at this
      exact this

set_option maxRecDepth 100000 in
set_option maxHeartbeats 1000000 in
theorem bbad_any {base sb ub N : Nat} {U : Nat → S} {f n : St} {w : World} (h : Se base sb ub N U f n w) (hN : N ≤ 128) (hlt : ∀ x, mem n.cand x = true → x < N) (hw : n.worst < N) (han : n.ans < 1000) (x : Int) :
    Calls Try.prog 54 #[.pointer (some ⟨sb, 0, none⟩), .int .i64 x] w fun e w' => e = .returned (.int .i64 (sayE U N n 1 x : Nat)) ∧ w.grownBy w' (some sb) ∧ Se base sb ub N U f (sayS U N n 1 x) w' := by
  have HS := Lib.hid h
  have HA := Lib.hid (ask_any h hN hlt hw x)
  have HE := Lib.hid (sayE_ask (U := U) hN hlt 1 x)
  obtain ⟨e0, he⟩ : ∃ e0, Hid (askE U N n x = e0) := ⟨_, Lib.hid rfl⟩
  have HC := Lib.hid (askE_cases U N n x)
  have HZ : Hid (e0 = 0 → ∃ y : Nat, x = (y : Int) ∧ y < N) := Lib.hid (fun hz => by obtain ⟨y, h1, h2, -⟩ := askE_zero (he.out.trans hz) hlt; exact ⟨y, h1, h2⟩)
  rw [he.out] at HA HE HC
  clear h hlt he
  go_enter Try.func54, Try.ntmps54
  go_wp2_with fail
  refine HA.out.mono ?_
  rintro e w1 ⟨rfl, hb1⟩
  have HB1 := Lib.hid hb1
  have HS1 := Lib.hid (HS.out.ext hb1)
  clear hb1 HA
  rcases HC.out with rfl | rfl | rfl
  · have HQ : Hid (sayE U N n 1 x = 50) := Lib.hid HE.out
    have HQ2 : Hid (sayS U N n 1 x = n) := Lib.hid (by unfold sayS; rw [HQ.out]; rfl)
    go_wp2_with fail
    go_ret
    exact ⟨by rw [HQ.out]; rfl, gb HB1.out _, by rw [HQ2.out]; exact HS1.out⟩
  · have HQ : Hid (sayE U N n 1 x = 2) := Lib.hid HE.out
    have HQ2 : Hid (sayS U N n 1 x = n) := Lib.hid (by unfold sayS; rw [HQ.out]; rfl)
    go_wp2_with fail
    go_ret
    exact ⟨by rw [HQ.out]; rfl, gb HB1.out _, by rw [HQ2.out]; exact HS1.out⟩
  · obtain ⟨y, rfl, hy⟩ := HZ.out rfl
    have HQ : Hid (sayE U N n 1 y = 0) := Lib.hid (by rw [HE.out]; rfl)
    have HQ2 : Hid (sayS U N n 1 y = ⟨n.cand &&& U y, n.skip, y, n.ans + 1⟩) := Lib.hid (by unfold sayS; rw [HQ.out]; rfl)
    obtain ⟨c7, c8, c9, c10, c11, c12, c0⟩ := HS1.out.now
    obtain ⟨c1, c2, c3⟩ := HS1.out.up hy
    have hsb := HS1.out.lt
    have HK : Hid (∀ u, Below w1.heap.size w1 u → u.cell? ⟨sb, 7, none⟩ = some (.int .u64 (u64 (wd n.cand 0))) ∧ u.cell? ⟨sb, 8, none⟩ = some (.int .u64 (u64 (wd n.cand 1))) ∧ u.cell? ⟨sb, 0, none⟩ = some (upV ub N) ∧ u.cell? ⟨ub, y * 2, none⟩ = some (.int .u64 (u64 (wd (U y) 0))) ∧ u.cell? ⟨ub, y * 2 + 1, none⟩ = some (.int .u64 (u64 (wd (U y) 1))) ∧ Below w1.heap.size w1 u) := Lib.hid (fun u hu =>
      ⟨(hu.cell (p := ⟨sb, 7, none⟩) hsb).trans c7, (hu.cell (p := ⟨sb, 8, none⟩) hsb).trans c8, (hu.cell (p := ⟨sb, 0, none⟩) hsb).trans c0, (hu.cell (p := ⟨ub, y * 2, none⟩) c3).trans c1, (hu.cell (p := ⟨ub, y * 2 + 1, none⟩) c3).trans c2, hu⟩)
    have hx0 : (0 : Int) ≤ (y : Int) := by omega
    have hx1 : (y : Int) < (N : Int) := by omega
    have Hsb := Lib.hid hsb
    have Hc12 := Lib.hid c12
    have Hc11 := Lib.hid c11
    have Han := Lib.hid han
    clear c7 c8 c9 c10 c11 c12 c0 c1 c2 c3 hsb HZ HE HC hy hw hN han
    go_wp2_with fail
    obtain ⟨k7, k8, k0, k1, k2, -⟩ := HK.out _ (Below.refl _ _)
    go_region_with (go_at_call 87; (refine (and_any n.cand (U y) _).mono ?_); rintro e u7 ⟨rfl, hb⟩; have HU7 : Hid (Below w1.heap.size w1 u7) := Lib.hid ((below_drewN (Below.refl _ _) 1).trans hb); have q7 := (HU7.out.frozen (p := ⟨sb, 7, none⟩) Hsb.out).trans (HS1.out.fz 7); have q8 := (HU7.out.frozen (p := ⟨sb, 8, none⟩) Hsb.out).trans (HS1.out.fz 8); obtain ⟨v7, v8, -, -, -, -⟩ := HK.out _ HU7.out; clear hb)
    all_goals
      obtain ⟨an, hn⟩ : ∃ an, Hid (n.ans = an) := ⟨_, Lib.hid rfl⟩
      have v12 := (HU7.out.cell (p := ⟨sb, 12, none⟩) Hsb.out).trans Hc12.out
      have q12 := (HU7.out.frozen (p := ⟨sb, 12, none⟩) Hsb.out).trans (HS1.out.fz 12)
      have v11 := (HU7.out.cell (p := ⟨sb, 11, none⟩) Hsb.out).trans Hc11.out
      have q11 := (HU7.out.frozen (p := ⟨sb, 11, none⟩) Hsb.out).trans (HS1.out.fz 11)
      have hr := Han.out
      rw [hn.out] at v12 hr
      have hwr : IntKind.i64.wrap ((an : Int) + 1) = (an : Int) + 1 := by rw [IntKind.wrap_i64]; omega
      clear k7 k8 k0 k1 k2 hx0 hx1 hr
      go_wp2_with fail
      go_ret
      refine ⟨by rw [HQ.out]; rfl, ?_⟩
      rw [HQ2.out, hn.out]
      have := Se.bad (HS1.out.ext HU7.out) (gb (bthen HB1.out HU7.out) _) HS.out (n.cand &&& U y) y
      rw [hn.out] at this
      exact this

set_option maxRecDepth 100000 in
set_option maxHeartbeats 1000000 in
theorem bskipd_any {base sb ub N : Nat} {U : Nat → S} {f n : St} {w : World} (h : Se base sb ub N U f n w) (hN : N ≤ 128) (hlt : ∀ x, mem n.cand x = true → x < N) (hw : n.worst < N) (han : n.ans < 1000) (x : Int) :
    Calls Try.prog 55 #[.pointer (some ⟨sb, 0, none⟩), .int .i64 x] w fun e w' => e = .returned (.int .i64 (sayE U N n 2 x : Nat)) ∧ w.grownBy w' (some sb) ∧ Se base sb ub N U f (sayS U N n 2 x) w' := by
  have HS := Lib.hid h
  have HA := Lib.hid (ask_any h hN hlt hw x)
  have HE := Lib.hid (sayE_ask (U := U) hN hlt 2 x)
  obtain ⟨e0, he⟩ : ∃ e0, Hid (askE U N n x = e0) := ⟨_, Lib.hid rfl⟩
  have HC := Lib.hid (askE_cases U N n x)
  have HZ : Hid (e0 = 0 → ∃ y : Nat, x = (y : Int) ∧ y < 128) := Lib.hid (fun hz => by obtain ⟨y, h1, h2, -⟩ := askE_zero (he.out.trans hz) hlt; exact ⟨y, h1, by omega⟩)
  rw [he.out] at HA HE HC
  clear h hlt he
  go_enter Try.func55, Try.ntmps55
  go_wp2_with fail
  refine HA.out.mono ?_
  rintro e w1 ⟨rfl, hb1⟩
  have HB1 := Lib.hid hb1
  have HS1 := Lib.hid (HS.out.ext hb1)
  clear hb1 HA
  rcases HC.out with rfl | rfl | rfl
  · have HQ : Hid (sayE U N n 2 x = 50) := Lib.hid HE.out
    have HQ2 : Hid (sayS U N n 2 x = n) := Lib.hid (by unfold sayS; rw [HQ.out]; rfl)
    go_wp2_with fail
    go_ret
    exact ⟨by rw [HQ.out]; rfl, gb HB1.out _, by rw [HQ2.out]; exact HS1.out⟩
  · have HQ : Hid (sayE U N n 2 x = 2) := Lib.hid HE.out
    have HQ2 : Hid (sayS U N n 2 x = n) := Lib.hid (by unfold sayS; rw [HQ.out]; rfl)
    go_wp2_with fail
    go_ret
    exact ⟨by rw [HQ.out]; rfl, gb HB1.out _, by rw [HQ2.out]; exact HS1.out⟩
  · obtain ⟨y, rfl, hy⟩ := HZ.out rfl
    obtain ⟨c7, c8, c9, c10, c11, c12, c0⟩ := HS1.out.now
    have hsb := HS1.out.lt
    have Hsb := Lib.hid hsb
    have Hc9 := Lib.hid c9
    have Hc10 := Lib.hid c10
    have Hc12 := Lib.hid c12
    have Han := Lib.hid han
    have Hy := Lib.hid hy
    obtain ⟨b, hb⟩ : ∃ b, Hid (mem n.skip y = b) := ⟨_, Lib.hid rfl⟩
    have HH := Lib.hid (has_any n.skip (y : Int) b (by rw [← hb.out]; have : (0 : Int) ≤ (y : Int) ∧ (y : Int) < 128 := by omega
                                                       simp [this]) w1)
    have HE2 : Hid (sayE U N n 2 y = if b = true then 2 else 0) := Lib.hid (by
      rw [HE.out, if_pos rfl]
      rw [show ((y : Int)).toNat = y by omega, hb.out]
      cases b <;> rfl)
    clear c7 c8 c11 c12 c0 hsb HZ HE HC hy hw hN han hb
    go_wp2_with fail
    refine HH.out.mono ?_
    rintro e w2 ⟨rfl, hb2⟩
    have HB2 := Lib.hid hb2
    have v9 := (hb2.cell (p := ⟨sb, 9, none⟩) Hsb.out).trans Hc9.out
    have v10 := (hb2.cell (p := ⟨sb, 10, none⟩) Hsb.out).trans Hc10.out
    clear hb2 c9 c10
    cases b with
    | true =>
      have HQ : Hid (sayE U N n 2 y = 2) := Lib.hid HE2.out
      have HQ2 : Hid (sayS U N n 2 y = n) := Lib.hid (by unfold sayS; rw [HQ.out]; rfl)
      go_wp2_with fail
      go_ret
      exact ⟨by rw [HQ.out]; rfl, gb (bthen HB1.out HB2.out) _, by rw [HQ2.out]; exact HS1.out.ext HB2.out⟩
    | false =>
      have HQ : Hid (sayE U N n 2 y = 0) := Lib.hid HE2.out
      have HQ2 : Hid (sayS U N n 2 y = ⟨n.cand, n.skip ||| one y, n.worst, n.ans + 1⟩) := Lib.hid (by unfold sayS; rw [HQ.out]; rfl)
      have HW := Lib.hid (with_any n.skip y Hy.out w2)
      go_wp2_with fail
      refine HW.out.mono ?_
      rintro e w3 ⟨rfl, hb3⟩
      have HB3 : Hid (Below w1.heap.size w1 w3) := Lib.hid (bthen HB2.out hb3)
      clear hb3 v9 v10
      obtain ⟨an, hn⟩ : ∃ an, Hid (n.ans = an) := ⟨_, Lib.hid rfl⟩
      have v9 := (HB3.out.cell (p := ⟨sb, 9, none⟩) Hsb.out).trans Hc9.out
      have q9 := (HB3.out.frozen (p := ⟨sb, 9, none⟩) Hsb.out).trans (HS1.out.fz 9)
      have v10 := (HB3.out.cell (p := ⟨sb, 10, none⟩) Hsb.out).trans Hc10.out
      have q10 := (HB3.out.frozen (p := ⟨sb, 10, none⟩) Hsb.out).trans (HS1.out.fz 10)
      have v12 := (HB3.out.cell (p := ⟨sb, 12, none⟩) Hsb.out).trans Hc12.out
      have q12 := (HB3.out.frozen (p := ⟨sb, 12, none⟩) Hsb.out).trans (HS1.out.fz 12)
      have hr := Han.out
      rw [hn.out] at v12 hr
      have hwr : IntKind.i64.wrap ((an : Int) + 1) = (an : Int) + 1 := by rw [IntKind.wrap_i64]; omega
      clear hr
      go_wp2_with fail
      go_ret
      refine ⟨by rw [HQ.out]; rfl, ?_⟩
      rw [HQ2.out, hn.out]
      have := (HS1.out.ext HB3.out).skipd (gb (bthen HB1.out HB3.out) _) HS.out (n.skip ||| one y)
      rw [hn.out] at this
      exact this

def reW (w : World) (sb : Nat) (f : St) : World := (((((w.setCell ⟨sb, 7, none⟩ (.int .u64 (u64 (wd f.cand 0)))).setCell ⟨sb, 8, none⟩ (.int .u64 (u64 (wd f.cand 1)))).setCell ⟨sb, 9, none⟩ (.int .u64 (u64 (wd f.skip 0)))).setCell ⟨sb, 10, none⟩ (.int .u64 (u64 (wd f.skip 1)))).setCell ⟨sb, 11, none⟩ (.int .i64 (f.worst : Int))).setCell ⟨sb, 12, none⟩ (.int .i64 (f.ans : Int))
theorem Se.reset {base sb ub N : Nat} {U : Nat → S} {f n : St} {w : World} (h : Se base sb ub N U f n w) : w.grownBy (reW w sb f) (some sb) ∧ Se base sb ub N U f f (reW w sb f) := by
  have hg : w.grownBy (reW w sb f) (some sb) := by
    refine World.grownBy.trans (b := _) ?_ (gs _ ⟨sb, 12, none⟩ _)
    refine World.grownBy.trans (b := _) ?_ (gs _ ⟨sb, 11, none⟩ _)
    refine World.grownBy.trans (b := _) ?_ (gs _ ⟨sb, 10, none⟩ _)
    refine World.grownBy.trans (b := _) ?_ (gs _ ⟨sb, 9, none⟩ _)
    refine World.grownBy.trans (b := _) ?_ (gs _ ⟨sb, 8, none⟩ _)
    exact gs _ ⟨sb, 7, none⟩ _
  have hb := Lib.heap_setCell_same (i := 12) (Lib.heap_setCell_same (i := 11) (Lib.heap_setCell_same (i := 10) (Lib.heap_setCell_same (i := 9) (Lib.heap_setCell_same (i := 8) (Lib.heap_setCell_same (i := 7) h.blk (.int .u64 (u64 (wd f.cand 0)))) (.int .u64 (u64 (wd f.cand 1)))) (.int .u64 (u64 (wd f.skip 0)))) (.int .u64 (u64 (wd f.skip 1)))) (.int .i64 (f.worst : Int))) (.int .i64 (f.ans : Int))
  exact ⟨hg, h.turn hg (hb.trans (by simp [seCells]))⟩
set_option maxRecDepth 100000 in
set_option maxHeartbeats 1000000 in
theorem breset_any {base sb ub N : Nat} {U : Nat → S} {f n : St} {w : World} (h : Se base sb ub N U f n w) :
    Calls Try.prog 48 #[.pointer (some ⟨sb, 0, none⟩)] w fun e w' => e = .returned (.int .i64 0) ∧ w.grownBy w' (some sb) ∧ Se base sb ub N U f f w' := by
  have HS := Lib.hid h
  have HD := Lib.hid (dead_no h)
  have HB : Hid (w.heap[sb]? = some (.cells (seCells (upV ub N) f n) 84 (0, 0))) := Lib.hid h.blk
  have d1 : w.cell? ⟨sb, 1, none⟩ = some (.int .u64 (u64 (wd f.cand 0))) := by simp [World.cell?, h.blk, seCells]
  have d2 : w.cell? ⟨sb, 2, none⟩ = some (.int .u64 (u64 (wd f.cand 1))) := by simp [World.cell?, h.blk, seCells]
  have d3 : w.cell? ⟨sb, 3, none⟩ = some (.int .u64 (u64 (wd f.skip 0))) := by simp [World.cell?, h.blk, seCells]
  have d4 : w.cell? ⟨sb, 4, none⟩ = some (.int .u64 (u64 (wd f.skip 1))) := by simp [World.cell?, h.blk, seCells]
  have d5 : w.cell? ⟨sb, 5, none⟩ = some (.int .i64 (f.worst : Int)) := by simp [World.cell?, h.blk, seCells]
  have d6 : w.cell? ⟨sb, 6, none⟩ = some (.int .i64 (f.ans : Int)) := by simp [World.cell?, h.blk, seCells]
  obtain ⟨c7, c8, c9, c10, c11, c12, c0⟩ := h.now
  have q7 := h.fz 7
  have q8 := h.fz 8
  have q9 := h.fz 9
  have q10 := h.fz 10
  have q11 := h.fz 11
  have q12 := h.fz 12
  clear h
  go_enter Try.func48, Try.ntmps48
  go_wp2_with fail
  refine HD.out.mono ?_
  rintro e w1 ⟨rfl, rfl⟩
  go_wp2_with fail
  go_ret
  refine ⟨rfl, ?_⟩
  exact HS.out.reset
end Go.Proofs.Ytcpmnocknpalfaa
