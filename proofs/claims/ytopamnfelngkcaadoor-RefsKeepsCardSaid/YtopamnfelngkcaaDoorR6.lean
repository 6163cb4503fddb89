/-
  Layer 12: the document's Check. No condition besides what the arguments are.
-/
import Derived.Sort.Walk0
import Derived.Test.YtopamnfelngkcaaDoorR5
namespace Go.Proofs.YtopamnfelngkcaaDoor.Rf
open Go.Proofs Go.RowKit Go.Shelf Go.Sl Go.Route Go.Refs
set_option linter.unusedVariables false

theorem nodup_step {l : List Go.Sl.Rf} {k : Nat} (hk : k < l.length) (h : (nms (l.take k)).Nodup) (hne : ∀ t, t < k → ∀ h : t < l.length, l[t].nm ≠ l[k].nm) : (nms (l.take (k + 1))).Nodup := by
  have hT : nms (l.take (k + 1)) = nms (l.take k) ++ [l[k].nm] := by
    unfold nms; rw [List.take_succ_eq_append_getElem hk, List.map_append]; rfl
  rw [hT, List.nodup_append]
  refine ⟨h, by simp, ?_⟩
  intro a ha b hb hab
  obtain rfl : b = l[k].nm := by simpa using hb
  subst hab
  obtain ⟨r, hr, e⟩ := List.mem_map.1 ha
  obtain ⟨t, ht, rfl⟩ := List.getElem_of_mem hr
  rw [List.length_take] at ht
  exact hne t (by omega) (by omega) (by rw [← e]; simp)
theorem nodup_false {l : List Go.Sl.Rf} {t k : Nat} (hk : k < l.length) (ht : t < k) (he : (l[t]'(by omega)).nm = l[k].nm) : ¬ (nms l).Nodup := fun h => by
  have := (List.pairwise_iff_getElem.1 h) t k (by rw [nms_len]; omega) (by rw [nms_len]; exact hk) ht
  apply this
  simp [nms, he]

set_option maxRecDepth 100000 in
set_option maxHeartbeats 2000000 in
theorem rcheck_any (v : Value) (l : List Go.Sl.Rf) (w : World) (hv : Sl eRf 33 w v l) (hl : ∀ r ∈ l, r.nm.length ≤ 9223372036854775807) :
    Calls Tryd.prog 58 #[v] w fun e w' => e = .returned (.int .i64 (chk l)) ∧ Below w.heap.size w w' := by
  have hlen := hv.run_len (P := Tryd.prog) Tryd.underlying37
  have hmax := hv.len_le
  have HV := Lib.hid hv
  have HL := Lib.hid hl
  by_cases h64 : 64 < l.length
  · have d1 : decide ((64 : Int) < l.length) = true := decide_eq_true (by omega)
    have HC := Lib.hid (chk_full h64)
    clear hv hl
    go_enter Tryd.func58, Tryd.ntmps58
    go_wp2_with fail
    go_ret
    exact ⟨ret_int HC.out.symm, Below.refl _ _⟩
  have d1 : decide ((64 : Int) < l.length) = false := decide_eq_false (by omega)
  have H64 := Lib.hid h64
  clear hv hl
  go_enter Tryd.func58, Tryd.ntmps58
  go_wp2_with fail
  go_loopw [3] (fun i wr => ∃ (k : Nat), i = .int .i64 k ∧ k ≤ l.length ∧ Hid ((l.take k).all (fun r => rgt r.nm) = true) ∧ Hid (Below w.heap.size w wr)) (fun i _ => l.length - (intOf i).toNat)
  case atStart => exact ⟨0, rfl, by omega, Lib.hid rfl, Lib.hid (Below.refl _ _)⟩
  case round =>
    obtain ⟨wo, rfl⟩ : ∃ u : World, u = wr := ⟨_, rfl⟩
    obtain ⟨k, rfl, hk, HA, HW⟩ := hrel
    by_cases hlt : k < l.length
    · have d2 : decide ((k : Int) < (l.length : Int)) = true := decide_eq_true (by omega)
      obtain ⟨b5, o5, hb5, hix, hr⟩ := HV.out.rangeB len_eRf HW.out (P := Tryd.prog) Tryd.underlying37 cells43 some43 hlt
      obtain ⟨x, hx⟩ : ∃ x, Hid (l[k] = x) := ⟨_, Lib.hid rfl⟩
      rw [hx.out] at hr
      have e0 := range_nm hr
      have hxl : x.nm.length ≤ 9223372036854775807 := HL.out x (by rw [← hx.out]; exact List.getElem_mem hlt)
      have HRt := Lib.hid (rright_all x.nm wo hxl)
      clear hr
      go_wp2_with fail
      refine HRt.out.mono ?_
      rintro e w2 ⟨rfl, hb⟩
      have HW2 := Lib.hid (bthen HW.out hb)
      clear hb e0 hix HRt
      cases hr : rgt x.nm with
      | false =>
        have HZ : Hid (chk l = 15) := Lib.hid (chk_name H64.out hlt (by rw [hx.out]; exact hr))
        clear hr
        go_wp2_with fail
        go_ret
        exact ⟨ret_int HZ.out.symm, HW2.out⟩
      | true =>
        have HA2 : Hid ((l.take (k + 1)).all (fun r => rgt r.nm) = true) := Lib.hid (all_step hlt HA.out (by rw [hx.out]; exact hr))
        clear hr
        go_wp2_with fail
        go_roundw
        case rel => exact ⟨k + 1, by go_num, by omega, HA2, HW2⟩
        case measure => simp [intOf]; omega
    · obtain rfl : k = l.length := by omega
      have d2 : decide ((l.length : Int) < (l.length : Int)) = false := decide_eq_false (by omega)
      have HRest : Hid (chk l = if ¬ (nms l).Nodup then 17 else if rises l = false then 18 else 0) := Lib.hid (chk_rest H64.out (by have := HA.out; rwa [List.take_length] at this))
      clear HA
      go_wp2_with fail
      go_loopw [4] (fun i wr => ∃ (k : Nat), i = .int .i64 k ∧ k ≤ l.length ∧ Hid ((nms (l.take k)).Nodup) ∧ Hid (Below w.heap.size w wr)) (fun i _ => l.length - (intOf i).toNat)
      case atStart => exact ⟨0, rfl, by omega, Lib.hid (by simp [nms]), HW⟩
      case round =>
        obtain ⟨w2, rfl⟩ : ∃ u : World, u = wr := ⟨_, rfl⟩
        obtain ⟨k, rfl, hk, HN, HW2⟩ := hrel
        clear HW
        by_cases hlt : k < l.length
        · have d3 : decide ((k : Int) < (l.length : Int)) = true := decide_eq_true (by omega)
          obtain ⟨x, hx⟩ : ∃ x, Hid (l[k] = x) := ⟨_, Lib.hid rfl⟩
          clear d2
          go_wp2_with fail
          go_loopw [5] (fun i wr => ∃ (j : Nat), i = .int .i64 j ∧ j ≤ k ∧ Hid (∀ t, t < j → ∀ h : t < l.length, l[t].nm ≠ l[k].nm) ∧ Hid (Below w.heap.size w wr)) (fun i _ => k - (intOf i).toNat)
          case atStart => exact ⟨0, rfl, by omega, Lib.hid (fun t ht => by omega), HW2⟩
          case round =>
            obtain ⟨w3, rfl⟩ : ∃ u : World, u = wr := ⟨_, rfl⟩
            obtain ⟨j, rfl, hj, HJ, HW3⟩ := hrel
            by_cases hjk : j < k
            · have d4 : decide ((j : Int) < (k : Int)) = true := decide_eq_true (by omega)
              obtain ⟨b5, o5, hb5, hix, hr⟩ := HV.out.rangeB len_eRf HW3.out (P := Tryd.prog) Tryd.underlying37 cells43 some43 hlt
              obtain ⟨b6, o6, hb6, hix6, hr6⟩ := HV.out.rangeB len_eRf HW3.out (P := Tryd.prog) Tryd.underlying37 cells43 some43 (show j < l.length by omega)
              obtain ⟨y, hy⟩ : ∃ x, Hid (l[j] = x) := ⟨_, Lib.hid rfl⟩
              rw [hx.out] at hr
              rw [hy.out] at hr6
              have e0 := range_nm hr
              have e6 := range_nm hr6
              clear hr hr6
              by_cases hxy : y.nm = x.nm
              · have hb : (y.nm == x.nm) = true := by simpa using hxy
                have HZ : Hid (chk l = 17) := Lib.hid (by rw [HRest.out, if_pos (nodup_false hlt hjk (by rw [hx.out, hy.out]; exact hxy))])
                clear hxy
                go_wp2_with fail
                go_quiet (fail)
                go_wp2_with fail
                go_ret
                exact ⟨ret_int HZ.out.symm, below_drewN HW3.out _⟩
              · have hb : (y.nm == x.nm) = false := by simpa using hxy
                have HJ2 : Hid (∀ t, t < j + 1 → ∀ h : t < l.length, l[t].nm ≠ l[k].nm) := Lib.hid (fun t ht h => by
                  by_cases e : t = j
                  · subst e; rw [hx.out, hy.out]; exact hxy
                  · exact HJ.out t (by omega) h)
                clear hxy
                go_wp2_with fail
                go_quiet (fail)
                go_wp2_with fail
                go_roundw
                case rel => exact ⟨j + 1, by go_num, by omega, HJ2, Lib.hid (below_drewN HW3.out _)⟩
                case measure => simp [intOf]; omega
            · obtain rfl : j = k := by omega
              have d4 : decide ((j : Int) < (j : Int)) = false := decide_eq_false (by omega)
              have HN2 : Hid ((nms (l.take (j + 1))).Nodup) := Lib.hid (nodup_step hlt HN.out HJ.out)
              go_wp2_with fail
              go_roundw
              case rel => exact ⟨j + 1, by go_num, by omega, HN2, HW3⟩
              case measure => simp [intOf]; omega
        · obtain rfl : k = l.length := by omega
          have HZ : Hid (chk l = if rises l = false then 18 else 0) := Lib.hid (by rw [HRest.out, if_neg]; rw [Classical.not_not]; have := HN.out; rwa [List.take_length] at this)
          clear HRest HN
          go_wp2_with fail
          go_loopw [6] (fun i wr => ∃ (k : Nat), i = .int .i64 k ∧ (k ≤ l.length) ∧ Hid (∀ t, t < k → ∀ h : t + 1 < l.length, l[t].nm < l[t + 1].nm) ∧ Hid (Below w.heap.size w wr)) (fun i _ => l.length - (intOf i).toNat)
          case atStart => exact ⟨0, rfl, by omega, Lib.hid (fun t ht => by omega), HW2⟩
          case round =>
            obtain ⟨w3, rfl⟩ : ∃ u : World, u = wr := ⟨_, rfl⟩
            obtain ⟨k, rfl, hk3, HJ, HW3⟩ := hrel
            clear HW2 d2
            by_cases hlt2 : k + 1 < l.length
            · have d4 : decide ((k : Int) + 1 < (l.length : Int)) = true := decide_eq_true (by omega)
              obtain ⟨b5, o5, hb5, hix, hr⟩ := HV.out.rangeB len_eRf HW3.out (P := Tryd.prog) Tryd.underlying37 cells43 some43 hlt2
              obtain ⟨b6, o6, hb6, hix6, hr6⟩ := HV.out.rangeB len_eRf HW3.out (P := Tryd.prog) Tryd.underlying37 cells43 some43 (show k < l.length by omega)
              have hqz : ((k + 1 : Nat) : Int) = (k : Int) + 1 := by omega
              rw [hqz] at hix
              obtain ⟨x, hx⟩ : ∃ x, Hid (l[k + 1] = x) := ⟨_, Lib.hid rfl⟩
              obtain ⟨y, hy⟩ : ∃ x, Hid (l[k] = x) := ⟨_, Lib.hid rfl⟩
              rw [hx.out] at hr
              rw [hy.out] at hr6
              have e0 := range_nm hr
              have e6 := range_nm hr6
              obtain ⟨t, ht⟩ : ∃ t, Op.bytesLess y.nm x.nm = t := ⟨_, rfl⟩
              clear hr hr6 hqz
              cases t with
              | true =>
                have hlt3 : y.nm < x.nm := by rw [Go.Proofs.bytesLess_eq] at ht; exact of_decide_eq_true ht
                have HJ2 : Hid (∀ t, t < k + 1 → ∀ h : t + 1 < l.length, l[t].nm < l[t + 1].nm) := Lib.hid (fun t ht h => by
                  by_cases e : t = k
                  · subst e; rw [hx.out, hy.out]; exact hlt3
                  · exact HJ.out t (by omega) h)
                clear hlt3
                go_wp2_with fail
                go_quiet (fail)
                go_wp2_with fail
                go_roundw
                case rel => exact ⟨k + 1, by go_num, by omega, HJ2, Lib.hid (below_drewN HW3.out _)⟩
                case measure => simp [intOf]; omega
              | false =>
                have HZ2 : Hid (chk l = 18) := Lib.hid (by
                  rw [HZ.out, if_pos (rises_false hlt2 (by rw [hx.out, hy.out]; rw [Go.Proofs.bytesLess_eq] at ht; exact of_decide_eq_false ht))])
                go_wp2_with fail
                go_quiet (fail)
                go_wp2_with fail
                go_ret
                exact ⟨ret_int HZ2.out.symm, below_drewN HW3.out _⟩
            · have d4 : decide ((k : Int) + 1 < (l.length : Int)) = false := decide_eq_false (by omega)
              have HZ2 : Hid (chk l = 0) := Lib.hid (by
                rw [HZ.out, if_neg]
                rw [rises_true fun t h => HJ.out t (by omega) h]; simp)
              go_wp2_with fail
              go_ret
              exact ⟨ret_int HZ2.out.symm, HW3.out⟩
end Go.Proofs.YtopamnfelngkcaaDoor.Rf
