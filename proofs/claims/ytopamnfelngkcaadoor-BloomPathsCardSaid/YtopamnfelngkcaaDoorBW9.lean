/-
  Layer 16: the document's Unlike. No condition besides what the arguments are.
-/
import Derived.Sort.Walk0
import Derived.Test.YtopamnfelngkcaaDoorBW8
namespace Go.Proofs.YtopamnfelngkcaaDoor.Bm
open Go.Proofs Go.RowKit Go.Sl Go.Bl
set_option linter.unusedVariables false

theorem bthen {w w1 w2 : World} (h : Below w.heap.size w w1) (h2 : Below w1.heap.size w1 w2) : Below w.heap.size w w2 := h.trans (h2.mono h.size)
theorem dn_drew {w w' : World} (h : Dn w w') : Below w.heap.size w w' := h.below

set_option maxRecDepth 100000 in
set_option maxHeartbeats 2000000 in
theorem runlike_any (v : Value) (L : List (List UInt8)) (w : World) (hv : Sl eL 1 w v L) (hL : L.length ≤ 100000) :
    Calls Tryd.prog 76 #[v] w fun e w' => ∃ (ov : Value) (T : List (List UInt8)), e = .returned ov ∧ Un L T ∧ Sl.Own eL 1 w.heap.size 9 w' ov T ∧ Below w.heap.size w w' := by
  have hlen := hv.run_len (P := Tryd.prog) Tryd.underlying22
  have HV := Lib.hid hv
  clear hv
  go_enter Tryd.func76, Tryd.ntmps76
  go_wp2_with fail
  go_loopw [3, 4] (fun s3 i wr => ∃ (k : Nat) (T : List (List UInt8)), i = .int .i64 k ∧ k ≤ L.length ∧ T.length ≤ k ∧ Hid (Un (L.take k) T) ∧ Hid (Sl.Own eL 1 w.heap.size 9 wr s3 T) ∧ Hid (Below w.heap.size w wr)) (fun _ i _ => L.length - (intOf i).toNat)
  case atStart => exact ⟨0, [], rfl, by omega, by simp, Lib.hid Un.nil, Lib.hid (Sl.Own.nil _ _ _ _ _), Lib.hid (Below.refl _ _)⟩
  case round =>
    obtain ⟨wo, rfl⟩ : ∃ u : World, u = wr := ⟨_, rfl⟩
    obtain ⟨k, T, rfl, hk, hTk, HU, HO, HW⟩ := hrel
    by_cases hlt : k < L.length
    · obtain ⟨x, hx⟩ : ∃ x, Hid (L[k] = x) := ⟨_, Lib.hid rfl⟩
      have HT : Hid (L.take (k + 1) = L.take k ++ [x]) := Lib.hid (by rw [List.take_succ_eq_append_getElem hlt, hx.out])
      have HS := Lib.hid (HO.out.sl len_eL)
      have hlo := HS.out.run_len (P := Tryd.prog) Tryd.underlying22
      go_wp2_with fail
      go_loopw [5] (fun s5 wr => ∃ (a : Nat), s5 = .int .i64 a ∧ a ≤ T.length ∧ Hid (∀ i (hi : i < T.length), i < a → T[i] < x) ∧ Hid (Dn wo wr)) (fun s5 _ => T.length - (intOf s5).toNat)
      case atStart => exact ⟨0, rfl, by omega, Lib.hid (fun i _ h => by omega), Lib.hid (Dn.refl _)⟩
      case round =>
        obtain ⟨a, rfl, ha, HA, HD⟩ := hrel
        have HWr : Hid (Below w.heap.size w wr) := Lib.hid (HW.out.trans (HD.out.below.mono (Nat.le_refl _)))
        have HBo : Hid (Below wo.heap.size wo wr) := Lib.hid HD.out.below
        by_cases hat : a < T.length
        · obtain ⟨y, hy⟩ : ∃ y, Hid (T[a] = y) := ⟨_, Lib.hid rfl⟩
          obtain ⟨b5, o5, hb5, hix, hcell⟩ := HV.out.atB HWr.out (P := Tryd.prog) Tryd.underlying22 cells9 some9 hlt
          have e1 := hcell 0 (by omega)
          obtain ⟨b6, o6, hb6, hix6, hcell6⟩ := HS.out.atB HBo.out (P := Tryd.prog) Tryd.underlying22 cells9 some9 hat
          have e6 := hcell6 0 (by omega)
          simp only [eL, List.getElem?_cons_zero, Nat.add_zero] at e1 e6
          rw [hx.out] at e1
          rw [hy.out] at e6
          have d0 : decide ((a : Int) < (T.length : Int)) = true := decide_eq_true (by omega)
          obtain ⟨b, hb⟩ : ∃ b, Op.bytesLess y x = b := ⟨_, rfl⟩
          clear hcell hcell6
          cases b with
          | true =>
            have HA2 : Hid (∀ i (hi : i < T.length), i < a + 1 → T[i] < x) := Lib.hid (fun i hi h => by
              by_cases e : i = a
              · subst e; rw [hy.out]; rw [Go.Proofs.bytesLess_eq] at hb; exact of_decide_eq_true hb
              · exact HA.out i hi (by omega))
            go_wp2_with fail
            go_quiet (fail)
            go_wp2_with fail
            go_roundw
            case rel => exact ⟨a + 1, by go_num, by omega, HA2, Lib.hid (HD.out.more _)⟩
            case measure => simp [intOf]; omega
          | false =>
            by_cases hxy : y = x
            · subst hxy
              have HU2 : Hid (Un (L.take (k + 1)) T) := Lib.hid (by rw [HT.out]; exact HU.out.same (by rw [← hy.out]; exact List.getElem_mem hat))
              go_wp2_with fail
              go_quiet (fail)
              go_wp2_with fail
              go_quiet (fail)
              go_wp2_with fail
              go_roundw
              case rel => exact ⟨k + 1, T, by go_num, by omega, by omega, HU2, Lib.hid (HO.out.ext (HD.out.more _).below), Lib.hid (HW.out.trans (HD.out.more _).below)⟩
              case measure => simp [intOf]; omega
            · have HU2 : Hid (Un (L.take (k + 1)) (T.take a ++ [x] ++ T.drop a)) := Lib.hid (by
                rw [HT.out]
                refine HU.out.ins ha (fun i hi => HA.out i (by omega) hi) (fun _ => ?_)
                rw [hy.out]
                rw [Go.Proofs.bytesLess_eq] at hb
                exact lt_or_eq (List.not_lt.1 (of_decide_eq_false hb)) (fun e => hxy e.symm))
              have hne : (y == x) = false := by simpa using hxy
              obtain ⟨v1, hx1, ⟨a1, n1, c1, rfl⟩, hs1⟩ := HS.out.upto (P := Tryd.prog) Tryd.underlying22 (by kernel_rfl) cells9 some9 (hi' := a) ha
              obtain ⟨v2, hx2, ⟨a2, n2, c2, rfl⟩, hs2⟩ := HS.out.from (P := Tryd.prog) Tryd.underlying22 (by kernel_rfl) cells9 some9 (lo := a) ha
              have HS1 := Lib.hid hs1
              have HS2 := Lib.hid hs2
              have htl : (T.take a).length = a := by rw [List.length_take]; omega
              have htd : (T.drop a).length = T.length - a := List.length_drop
              clear hs1 hs2
              go_wp2_with fail
              go_quiet (fail)
              obtain ⟨m1, hm1⟩ : ∃ m, Hid (nq = m) := ⟨_, Lib.hid rfl⟩
              rw [hm1.out]
              go_wp2_with fail
              go_quiet (fail)
              obtain ⟨wz, hwz⟩ : ∃ u, Hid (u = (wr.drewN m1).drewN nq) := ⟨_, Lib.hid rfl⟩
              have HZ : Hid (Below wo.heap.size wo wz) := Lib.hid (by rw [hwz.out]; exact ((HD.out.more _).more _).below)
              rw [← hwz.out]
              have hTl : T.length ≤ 100000 := by omega
              clear hwz hm1 hne hb hix hix6 e1 e6 d0
              go_wp2_with (first
                | (at_builtin; have _g := HO2.out; go_must (refine wpList_append rfl (en := eL) (s := 1) (base := wo.heap.size) (e := 9) _ _ 22 rfl (.string .empty) 16 Tryd.underlying22 info9 rfl (by decide) len_eL one_eL _ _ (T.take a ++ [x]) (T.drop a) rfl HO2.out rfl (HS2.out.ext HB2.out) (by simp only [maxLen, List.length_append, List.length_singleton]; omega) (by simp only [List.length_append, List.length_singleton]; omega) HB2.out.size ?_; intro v6 w6 hown hgr hbel; have HO3 := Lib.hid hown; have HB3 : Hid (Below wo.heap.size wo w6) := Lib.hid (HB2.out.trans hbel); clear hown hgr hbel))
                | (at_builtin; have _g := HO1.out; go_must (refine wpList_append rfl (en := eL) (s := 1) (base := wo.heap.size) (e := 9) _ _ 22 rfl (.string .empty) 16 Tryd.underlying22 info9 rfl (by decide) len_eL one_eL _ _ (T.take a) [x] rfl (HO1.out.alloc _) rfl (Sl.fresh len_eL rfl rfl rfl (by simp [maxLen])) (by simp only [maxLen, List.length_singleton]; omega) (by simp only [List.length_singleton]; omega) (by have := HB1.out.size; simp; omega) ?_; intro v5 w5 hown hgr hbel; have HO2 := Lib.hid hown; have HB2 : Hid (Below wo.heap.size wo w5) := Lib.hid ((HB1.out.alloc HB1.out.size _).trans hbel); clear hown hgr hbel))
                | (at_builtin; go_must (refine wpList_append rfl (en := eL) (s := 1) (base := wo.heap.size) (e := 9) _ _ 22 rfl (.string .empty) 16 Tryd.underlying22 info9 rfl (by decide) len_eL one_eL _ _ [] (T.take a) rfl (Sl.Own.nil _ _ _ _ _) rfl (HS1.out.ext HZ.out) (by simp only [maxLen, List.length_nil]; omega) (by simp only [List.length_nil]; omega) HZ.out.size ?_; intro v4 w4 hown hgr hbel; have HO1 : Hid (Sl.Own eL 1 wo.heap.size 9 w4 v4 (T.take a)) := Lib.hid hown; have HB1 : Hid (Below wo.heap.size wo w4) := Lib.hid (HZ.out.trans hbel); clear hown hgr hbel; obtain ⟨b7, o7, hb7, hix7, hcell7⟩ := HV.out.atB (bthen HW.out HB1.out) (P := Tryd.prog) Tryd.underlying22 cells9 some9 hlt; have e7 := hcell7 0 (by omega); simp only [eL, List.getElem?_cons_zero, Nat.add_zero] at e7; rw [hx.out] at e7; clear hcell7)))
              go_roundw
              case rel => exact ⟨k + 1, _, by go_num, by omega, by simp only [List.length_append, List.length_singleton]; omega, HU2, Lib.hid (HO3.out.mono HW.out.size), Lib.hid (bthen HW.out HB3.out)⟩
              case measure => simp [intOf]; omega
        · obtain rfl : a = T.length := by omega
          have d0 : decide ((T.length : Int) < (T.length : Int)) = false := decide_eq_false (by omega)
          have HU2 : Hid (Un (L.take (k + 1)) (T.take T.length ++ [x] ++ T.drop T.length)) := Lib.hid (by
            rw [HT.out]
            exact HU.out.ins (Nat.le_refl _) (fun i hi => HA.out i (by omega) hi) (fun h => absurd h (by omega)))
          obtain ⟨v1, hx1, ⟨a1, n1, c1, rfl⟩, hs1⟩ := HS.out.upto (P := Tryd.prog) Tryd.underlying22 (by kernel_rfl) cells9 some9 (hi' := T.length) ha
          obtain ⟨v2, hx2, ⟨a2, n2, c2, rfl⟩, hs2⟩ := HS.out.from (P := Tryd.prog) Tryd.underlying22 (by kernel_rfl) cells9 some9 (lo := T.length) ha
          have HS1 := Lib.hid hs1
          have HS2 := Lib.hid hs2
          have htl : (T.take T.length).length = T.length := by rw [List.length_take]; omega
          have htd : (T.drop T.length).length = T.length - T.length := List.length_drop
          clear hs1 hs2
          go_wp2_with fail
          go_quiet (fail)
          obtain ⟨m1, hm1⟩ : ∃ m, Hid (nq = m) := ⟨_, Lib.hid rfl⟩
          rw [hm1.out]
          go_wp2_with fail
          go_quiet (fail)
          obtain ⟨wz, hwz⟩ : ∃ u, Hid (u = (wr.drewN m1).drewN nq) := ⟨_, Lib.hid rfl⟩
          have HZ : Hid (Below wo.heap.size wo wz) := Lib.hid (by rw [hwz.out]; exact ((HD.out.more _).more _).below)
          rw [← hwz.out]
          have hTl : T.length ≤ 100000 := by omega
          clear hwz hm1 d0
          go_wp2_with (first
            | (at_builtin; have _g := HO2.out; go_must (refine wpList_append rfl (en := eL) (s := 1) (base := wo.heap.size) (e := 9) _ _ 22 rfl (.string .empty) 16 Tryd.underlying22 info9 rfl (by decide) len_eL one_eL _ _ (T.take T.length ++ [x]) (T.drop T.length) rfl HO2.out rfl (HS2.out.ext HB2.out) (by simp only [maxLen, List.length_append, List.length_singleton]; omega) (by simp only [List.length_append, List.length_singleton]; omega) HB2.out.size ?_; intro v6 w6 hown hgr hbel; have HO3 := Lib.hid hown; have HB3 : Hid (Below wo.heap.size wo w6) := Lib.hid (HB2.out.trans hbel); clear hown hgr hbel))
            | (at_builtin; have _g := HO1.out; go_must (refine wpList_append rfl (en := eL) (s := 1) (base := wo.heap.size) (e := 9) _ _ 22 rfl (.string .empty) 16 Tryd.underlying22 info9 rfl (by decide) len_eL one_eL _ _ (T.take T.length) [x] rfl (HO1.out.alloc _) rfl (Sl.fresh len_eL rfl rfl rfl (by simp [maxLen])) (by simp only [maxLen, List.length_singleton]; omega) (by simp only [List.length_singleton]; omega) (by have := HB1.out.size; simp; omega) ?_; intro v5 w5 hown hgr hbel; have HO2 := Lib.hid hown; have HB2 : Hid (Below wo.heap.size wo w5) := Lib.hid ((HB1.out.alloc HB1.out.size _).trans hbel); clear hown hgr hbel))
            | (at_builtin; go_must (refine wpList_append rfl (en := eL) (s := 1) (base := wo.heap.size) (e := 9) _ _ 22 rfl (.string .empty) 16 Tryd.underlying22 info9 rfl (by decide) len_eL one_eL _ _ [] (T.take T.length) rfl (Sl.Own.nil _ _ _ _ _) rfl (HS1.out.ext HZ.out) (by simp only [maxLen, List.length_nil]; omega) (by simp only [List.length_nil]; omega) HZ.out.size ?_; intro v4 w4 hown hgr hbel; have HO1 : Hid (Sl.Own eL 1 wo.heap.size 9 w4 v4 (T.take T.length)) := Lib.hid hown; have HB1 : Hid (Below wo.heap.size wo w4) := Lib.hid (HZ.out.trans hbel); clear hown hgr hbel; obtain ⟨b7, o7, hb7, hix7, hcell7⟩ := HV.out.atB (bthen HW.out HB1.out) (P := Tryd.prog) Tryd.underlying22 cells9 some9 hlt; have e7 := hcell7 0 (by omega); simp only [eL, List.getElem?_cons_zero, Nat.add_zero] at e7; rw [hx.out] at e7; clear hcell7)))
          go_roundw
          case rel => exact ⟨k + 1, _, by go_num, by omega, by simp only [List.length_append, List.length_singleton]; omega, HU2, Lib.hid (HO3.out.mono HW.out.size), Lib.hid (bthen HW.out HB3.out)⟩
          case measure => simp [intOf]; omega
    · obtain rfl : k = L.length := by omega
      go_wp2_with fail
      go_ret
      exact ⟨_, T, rfl, by have := HU.out; rwa [List.take_length] at this, HO.out, HW.out⟩
end Go.Proofs.YtopamnfelngkcaaDoor.Bm
