/-
  Layer 5: a pattern run over parts. No condition besides what the arguments are.
-/
import Derived.Test.YtopamnfelngkcaaDoorW8
import Derived.Deep.DeepCutAuto
import Derived.RegionTactic
namespace Go.Proofs.YtopamnfelngkcaaDoor
open Go.RowKit Go.Sl Go.Route
set_option linter.unusedVariables false

theorem info4 : (Tryd.prog.info? 4).map (fun i => (i.zero, i.size, i.bytes)) = some (some (.bool false), 1, 1) := by kernel_rfl
theorem make_bools (n : Nat) (hn : n ≤ 1000) : ∀ u : World, (Instr.makeSlice 106 (.int .i64 ((n : Int) + 1)) (.int .i64 ((n : Int) + 1))).run Tryd.prog u = .ok (.slice (some ⟨u.heap.size, 0, none⟩) (n + 1) (n + 1)) (u.alloc (.cells (madeCells #[.bool false] (n + 1)) 4)) := by
  have h := run_make_row' (P := Tryd.prog) 106 4 _ 1 Tryd.underlying106 info4 rfl .i64 .i64 (n + 1) (by omega) (by omega)
  rw [show ((n + 1 : Nat) : Int) = (n : Int) + 1 by omega] at h
  exact h

set_option maxRecDepth 100000 in
set_option maxHeartbeats 2000000 in
theorem run_any (va vb : Value) (P R : List Wd) (w : World) (ha : Sl eL 1 w va P) (hb : Sl eL 1 w vb R) (hP : P.length ≤ 1000) (hR : R.length ≤ 1000) (lP : ∀ p ∈ P, p.length ≤ 1000) (lR : ∀ p ∈ R, p.length ≤ 1000) :
    Calls Tryd.prog 65 #[va, vb] w fun e w' => e = .returned (.tuple #[.bool (runP P R).1, .bool (runP P R).2]) ∧ Below w.heap.size w w' := by
  have hlen1 := ha.run_len (P := Tryd.prog) Tryd.underlying22
  have hlen2 := hb.run_len (P := Tryd.prog) Tryd.underlying22
  have hmk := make_bools P.length hP
  have HA := Lib.hid ha
  have HBv := Lib.hid hb
  have HLP := Lib.hid lP
  have HLR := Lib.hid lR
  clear ha hb lP lR
  go_enter Tryd.func65, Tryd.ntmps65
  go_wp2_with fail
  go_upto_region 2 with fail
  go_cut [6, 7] (fun s t wx => ∃ g h : Nat, s = .slice (some ⟨g, 0, none⟩) (P.length + 1) (P.length + 1) ∧ t = .slice (some ⟨h, 0, none⟩) (P.length + 1) (P.length + 1) ∧ g ≠ h ∧ w.heap.size ≤ g ∧ w.heap.size ≤ h ∧
    Hid (wx.rowIs g 4 (P.length + 1) (fun _ => .bool false)) ∧ Hid (wx.rowIs h 4 (P.length + 1) (fun _ => .bool false)) ∧ Hid (Below w.heap.size w wx))
  case first =>
    go_region
    · go_wp2_with fail
      go_meet
      exact ⟨_, _, rfl, rfl, by omega, by omega, by omega, Lib.hid (two_made w _ _ _).1, Lib.hid (two_made w _ _ _).2.1, Lib.hid (two_made w _ _ _).2.2⟩
    · go_wp2_with fail
      go_meet
      exact ⟨_, _, rfl, rfl, by omega, by omega, by omega, Lib.hid (two_made w _ _ _).2.1, Lib.hid (two_made w _ _ _).1, Lib.hid (two_made w _ _ _).2.2⟩
  case rest =>
    obtain ⟨g, h, rfl, rfl, hgh, hg, hh, HG, HH, HW⟩ := hcut
    clear hmk
    have hG : Rw g (P.length + 1) (fun _ => false) wc := HG.out
    obtain ⟨c1, c2, c3⟩ := hG.cell (k := 0) (by omega)
    have HG1 : Hid (Rw g (P.length + 1) (fun i => decide (i = 0)) (wc.setCell ⟨g, 0, none⟩ (.bool true))) := Lib.hid ((hG.set 0 true).congr fun k _ => by by_cases e : k = 0 <;> simp [e])
    have HH1 : Hid (Rw h (P.length + 1) (fun _ => false) (wc.setCell ⟨g, 0, none⟩ (.bool true))) := Lib.hid ((show Rw h (P.length + 1) (fun _ => false) wc from HH.out).other (grown_set wc g 0 (.bool true)) (by simpa using hgh))
    have HW1 : Hid (Below w.heap.size w (wc.setCell ⟨g, 0, none⟩ (.bool true))) := Lib.hid (HW.out.setCell (p := ⟨g, 0, none⟩) hg _)
    have HSp := Lib.hid (spread_any va P w (wc.setCell ⟨g, 0, none⟩ (.bool true)) g _ HA.out hP HW1.out hg HG1.out)
    clear hG
    go_wp2_with (go_at_call 93; go_must (refine HSp.out.mono ?_; rintro e w3 ⟨⟨u, rfl⟩, hr, hgr⟩; have HG3 := Lib.hid hr; have HH3 := Lib.hid (HH1.out.other hgr (by simpa using hgh)); have HW3 := Lib.hid (HW1.out.grown hgr HW1.out.size (fun j e => by cases e; exact hg)); clear hr hgr))
    go_loopw [6, 7, 25] (fun s t i wr => ∃ (k A B : Nat) (f g2 : Nat → Bool), k ≤ R.length ∧ i = .int .i64 k ∧ s = .slice (some ⟨A, 0, none⟩) (P.length + 1) (P.length + 1) ∧ t = .slice (some ⟨B, 0, none⟩) (P.length + 1) (P.length + 1) ∧ A ≠ B ∧ w.heap.size ≤ A ∧ w.heap.size ≤ B ∧
      Hid (Rw A (P.length + 1) f wr) ∧ Hid (Rw B (P.length + 1) g2 wr) ∧ Hid (runP P R = runM P f (R.drop k)) ∧ Hid (Below w.heap.size w wr)) (fun _ _ i _ => R.length - (intOf i).toNat)
    case atStart => exact ⟨0, g, h, _, _, by omega, rfl, rfl, rfl, hgh, hg, hh, HG3, HH3, Lib.hid rfl, HW3⟩
    case round =>
      clear hgh hg hh HG HH HW HG1 HH1 HW1 HSp HG3 HH3 HW3 c1 c2 c3
      obtain ⟨k, A, B, f, g2, hk, rfl, rfl, rfl, hAB, hA, hB, HRA, HRB, HM, HW⟩ := hrel
      by_cases hlt : k < R.length
      · obtain ⟨b1, o1, _, hix1, hc1⟩ := (HBv.out.ext HW.out).at (P := Tryd.prog) Tryd.underlying22 cells9 some9 hlt
        have hx := hc1 0 (by omega)
        simp only [eL, List.getElem?_cons_zero, Nat.add_zero] at hx
        obtain ⟨x, HX⟩ : ∃ x, Hid (R[k] = x) := ⟨_, Lib.hid rfl⟩
        have hxl := HLR.out R[k] (List.getElem_mem hlt)
        rw [HX.out] at hx hxl
        have hd := List.drop_eq_getElem_cons hlt
        rw [HX.out] at hd
        have hm := HM.out
        rw [hd, runM] at hm
        have hst := step_any va P x w wr A B f g2 HA.out hP HLP.out hxl HW.out hA hB hAB HRA.out HRB.out
        clear hc1 hd
        cases hany : anyB P f x with
        | false =>
          rw [hany] at hst hm
          have HZ : Hid (runP P R = (false, false)) := Lib.hid (by rw [hm]; rfl)
          have HST := Lib.hid hst
          clear hany hst hm
          go_wp2_with (go_at_call 94; go_must (refine HST.out.mono ?_; rintro e w4 ⟨rfl, hr, hgr⟩; have HW4 := Lib.hid (HW.out.grown hgr HW.out.size (fun j e => by cases e; exact hB)); clear hr hgr))
          go_ret2
          exact ⟨by rw [HZ.out]; rfl, HW4.out⟩
        | true =>
          rw [hany] at hst hm
          have HST := Lib.hid hst
          cases hend : spr P (stp P f x) P.length with
          | true =>
            rw [hend] at hm
            have HZ : Hid (runP P R = (true, true)) := Lib.hid (by rw [hm]; rfl)
            have HE := Lib.hid hend
            clear hany hst hm hend
            go_wp2_with (go_at_call 94; go_must (refine HST.out.mono ?_; rintro e w4 ⟨rfl, hr, hgr⟩; have HW4 := Lib.hid (HW.out.grown hgr HW.out.size (fun j e => by cases e; exact hB)); obtain ⟨k1, k2, k3⟩ := hr.cell (k := P.length) (by omega); rw [HE.out] at k1; clear hr hgr))
            go_ret2
            exact ⟨by rw [HZ.out]; rfl, HW4.out⟩
          | false =>
            rw [hend] at hm
            have HM2 : Hid (runP P R = runM P (spr P (stp P f x)) (R.drop (k + 1))) := Lib.hid (by rw [hm]; rfl)
            have HE := Lib.hid hend
            clear hany hst hm hend
            go_wp2_with (go_at_call 94; go_must (refine HST.out.mono ?_; rintro e w4 ⟨rfl, hr, hgr⟩; have HW4 := Lib.hid (HW.out.grown hgr HW.out.size (fun j e => by cases e; exact hB)); obtain ⟨k1, k2, k3⟩ := hr.cell (k := P.length) (by omega); rw [HE.out] at k1; have HR4 := Lib.hid hr; have HA4 := Lib.hid (HRA.out.other hgr (by simpa using Ne.symm hAB)); clear hr hgr))
            go_roundw
            case rel => exact ⟨k + 1, B, A, _, _, by omega, by go_num, rfl, rfl, Ne.symm hAB, hB, hA, HR4, HA4, HM2, HW4⟩
            case measure => simp [intOf]; omega
      · have HZ : Hid (runP P R = (false, true)) := Lib.hid (by rw [HM.out, List.drop_eq_nil_of_le (by omega)]; rfl)
        go_wp2_with fail
        go_ret2
        exact ⟨by rw [HZ.out]; rfl, HW.out⟩
end Go.Proofs.YtopamnfelngkcaaDoor
