/-
  Layer 14, the document's: Check, Nodes. No condition besides what the arguments are.
-/
import Derived.Test.YtcpmnocknpalfaaR3
namespace Go.Proofs.Ytcpmnocknpalfaa
open Go.RowKit Go.Sl
set_option linter.unusedVariables false

theorem two90 {w : World} {g : Nat} {a b : Value} {e : TypeId} (h : w.heap[g]? = some (.cells #[a, b] e (0, 0))) : g < w.heap.size ∧ w.cell? ⟨g, 0, none⟩ = some a ∧ w.cell? ⟨g, 1, none⟩ = some b := ⟨(Array.getElem?_eq_some_iff.1 h).1, by simp [World.cell?, h], by simp [World.cell?, h]⟩

set_option maxRecDepth 100000 in
set_option maxHeartbeats 1000000 in
theorem rcheck_any (v : Value) (es : List (SlV × Int)) (g : List Nd) (w : World) (h : Gr w v es g) :
    Calls Try.prog 21 #[v] w fun e w' => e = .returned (.int .i64 (Dag.chk g : Nat)) ∧ Below w.heap.size w w' := by
  have hlen := h.run_len
  have hmax := h.len_le
  by_cases hbig : 128 < g.length
  · have d0 : decide ((128 : Int) < g.length) = true := decide_eq_true (by omega)
    have HZ := Lib.hid (Dag.chk_bad (g := g) (fun h => by have := h.1; omega))
    go_enter Try.func21, Try.ntmps21
    go_wp2_with fail
    go_ret
    exact ⟨ret_int (by rw [HZ.out]; rfl), Below.refl _ _⟩
  · have d0 : decide ((128 : Int) < g.length) = false := decide_eq_false (by omega)
    go_enter Try.func21, Try.ntmps21
    go_wp2_with fail
    go_loopw [3] (fun i wr => ∃ (k : Nat), k ≤ g.length ∧ i = .int .i64 k ∧ Hid (∀ n (h : n < g.length), n < k → Dag.nodeOk n g[n]) ∧ Hid (Below w.heap.size w wr)) (fun i _ => g.length - (intOf i).toNat)
    case atStart => exact ⟨0, by omega, rfl, Lib.hid (fun n _ h => by omega), Lib.hid (Below.refl _ _)⟩
    case round =>
      obtain ⟨k, hk, rfl, HT, HB⟩ := hrel
      obtain ⟨wo, rfl⟩ : ∃ wo : World, wo = wr := ⟨_, rfl⟩
      by_cases hlt : k < g.length
      · obtain ⟨b, o, hb0, hix, Q, T, a1, n1, c1, HX, HL, q0, q1, hs1, hm1⟩ := h.at HB.out hlt
        have HBa := Lib.hid (HB.out.alloc HB.out.size (.cells #[.slice a1 n1 c1, .int .i64 T] 90))
        have HBx : Hid ((wo.alloc (.cells #[.slice a1 n1 c1, .int .i64 T] 90)).heap[wo.heap.size]? = some (.cells #[.slice a1 n1 c1, .int .i64 T] 90 (0, 0))) := Lib.hid (heap_new_at rfl)
        have hls := hs1.run_len (P := Try.prog) Try.underlying23
        rw [HL.out] at hls
        have HBAD : Hid (¬ Dag.nodeOk k (Q, T) → (12 : Int) = (Dag.chk g : Nat)) := Lib.hid (fun hn => by rw [Dag.chk_bad (fun hg => hn (HX.out ▸ hg.2 k hlt))]; rfl)
        by_cases h6 : 6 < n1
        · have d6 : decide ((6 : Int) < n1) = true := decide_eq_true (by omega)
          have HZ := Lib.hid (HBAD.out (fun hn => by have := hn.1; rw [HL.out] at this; omega))
          go_wp2_with fail
          go_ret
          exact ⟨ret_int HZ.out, HBa.out⟩
        · have d6 : decide ((6 : Int) < n1) = false := decide_eq_false (by omega)
          by_cases hT : T < 0
          · have dT := decide_eq_true hT
            have HZ := Lib.hid (HBAD.out (fun hn => by have := hn.2.1; simp only at this; omega))
            go_wp2_with fail
            go_ret
            exact ⟨ret_int HZ.out, HBa.out⟩
          · have dT := decide_eq_false hT
            by_cases hT2 : 1099511627776 < T
            · have dT2 := decide_eq_true hT2
              have HZ := Lib.hid (HBAD.out (fun hn => by have := hn.2.2.1; simp only at this; omega))
              go_wp2_with fail
              go_ret
              exact ⟨ret_int HZ.out, HBa.out⟩
            · have dT2 := decide_eq_false hT2
              go_wp2_with fail
              go_loopw [5] (fun i u => ∃ (q : Nat), q ≤ n1 ∧ i = .int .i64 q ∧ Hid (∀ j (h : j < Q.length), j < q → Dag.parOk k Q j Q[j]) ∧ Hid (u.heap[wo.heap.size]? = some (.cells #[.slice a1 n1 c1, .int .i64 T] 90 (0, 0))) ∧ Hid (Below w.heap.size w u)) (fun i _ => n1 - (intOf i).toNat)
              case atStart => exact ⟨0, by omega, rfl, Lib.hid (fun j _ h => by omega), HBx, HBa⟩
              case round =>
                obtain ⟨q, hq, rfl, HP, HBx, HBa⟩ := hrel
                obtain ⟨z1, z2, z3⟩ := two90 HBx.out
                by_cases hlt2 : q < n1
                · have hqQ : q < Q.length := by rw [HL.out]; exact hlt2
                  obtain ⟨b2, o2, hb2, hix2, hc2⟩ := hs1.atB HBa.out (P := Try.prog) Try.underlying23 cells3 some3 hqQ
                  have e1 := hc2 0 (by omega)
                  simp only [eInt, List.getElem?_cons_zero, Nat.add_zero] at e1
                  obtain ⟨x, HY⟩ : ∃ x, Hid (Q[q] = x) := ⟨_, Lib.hid rfl⟩
                  rw [HY.out] at e1
                  clear hc2
                  have HB2 : Hid (¬ Dag.parOk k Q q x → (12 : Int) = (Dag.chk g : Nat)) := Lib.hid (fun hn => HBAD.out (fun h => hn (HY.out ▸ h.2.2.2 q hqQ)))
                  by_cases hx0 : x < 0
                  · have dx := decide_eq_true hx0
                    have HZ := Lib.hid (HB2.out (fun hn => by have := hn.1; omega))
                    go_wp2_with fail
                    go_ret
                    exact ⟨ret_int HZ.out, HBa.out⟩
                  · have dx := decide_eq_false hx0
                    by_cases hxk : (k : Int) ≤ x
                    · have dk := decide_eq_true hxk
                      have HZ := Lib.hid (HB2.out (fun hn => by have := hn.2.1; omega))
                      go_wp2_with fail
                      go_ret
                      exact ⟨ret_int HZ.out, HBa.out⟩
                    · have dk := decide_eq_false hxk
                      go_wp2_with fail
                      go_loopw [6] (fun i u => ∃ (j : Nat), j ≤ q ∧ i = .int .i64 j ∧ Hid (x ∉ Q.take j) ∧ Hid (u.heap[wo.heap.size]? = some (.cells #[.slice a1 n1 c1, .int .i64 T] 90 (0, 0))) ∧ Hid (Below w.heap.size w u)) (fun i _ => q - (intOf i).toNat)
                      case atStart => exact ⟨0, by omega, rfl, Lib.hid (by simp), HBx, HBa⟩
                      case round =>
                        obtain ⟨j, hj, rfl, HN, HBx, HBa⟩ := hrel
                        obtain ⟨z1, z2, z3⟩ := two90 HBx.out
                        by_cases hlt3 : j < q
                        · have hjQ : j < Q.length := by rw [HL.out]; omega
                          have hjn : j < n1 := by omega
                          obtain ⟨b3, o3, hb3, hix3, hc3⟩ := hs1.atB HBa.out (P := Try.prog) Try.underlying23 cells3 some3 hjQ
                          obtain ⟨b4, o4, hb4, hix4, hc4⟩ := hs1.atB HBa.out (P := Try.prog) Try.underlying23 cells3 some3 hqQ
                          have e3 := hc3 0 (by omega)
                          have e4 := hc4 0 (by omega)
                          simp only [eInt, List.getElem?_cons_zero, Nat.add_zero] at e3 e4
                          obtain ⟨y, HY2⟩ : ∃ y, Hid (Q[j] = y) := ⟨_, Lib.hid rfl⟩
                          rw [HY2.out] at e3
                          rw [HY.out] at e4
                          clear hc3 hc4 hix2 e1
                          by_cases hxy : y = x
                          · have hb : (y == x) = true := by simp [hxy]
                            have HZ := Lib.hid (HB2.out (fun hn => hn.2.2 (by
                              rw [← hxy, ← HY2.out]
                              exact List.mem_take_iff_getElem.2 ⟨j, by omega, rfl⟩)))
                            clear hxy
                            go_wp2_with fail
                            go_quiet (fail)
                            go_wp2_with fail
                            go_ret
                            exact ⟨ret_int HZ.out, below_drewN HBa.out _⟩
                          · have hb : (y == x) = false := by simp [hxy]
                            have HN2 := Lib.hid (mem_take_succ hjQ HN.out (by rw [HY2.out]; exact hxy))
                            clear hxy
                            go_wp2_with fail
                            go_quiet (fail)
                            go_wp2_with fail
                            go_roundw
                            case rel => exact ⟨j + 1, by omega, by go_num, HN2, Lib.hid HBx.out, Lib.hid (below_drewN HBa.out _)⟩
                            case measure => simp [intOf]; omega
                        · obtain rfl : j = q := by omega
                          have HP2 : Hid (∀ j' (h : j' < Q.length), j' < j + 1 → Dag.parOk k Q j' Q[j']) := Lib.hid (fun j' hj' h1 => by
                            by_cases e : j' = j
                            · subst e; rw [HY.out]; exact ⟨by omega, by omega, HN.out⟩
                            · exact HP.out j' hj' (by omega))
                          go_wp2_with fail
                          go_roundw
                          case rel => exact ⟨j + 1, by omega, by go_num, HP2, HBx, HBa⟩
                          case measure => simp [intOf]; omega
                · have HN : Hid (∀ n (h : n < g.length), n < k + 1 → Dag.nodeOk n g[n]) := Lib.hid (fun n hn h1 => by
                    by_cases e : n = k
                    · subst e
                      rw [HX.out]
                      exact ⟨by rw [HL.out]; omega, by simp only; omega, by simp only; omega, fun i hi => HP.out i hi (by simp only at hi; rw [HL.out] at hi; omega)⟩
                    · exact HT.out n hn (by omega))
                  go_wp2_with fail
                  go_roundw
                  case rel => exact ⟨k + 1, by omega, by go_num, HN, HBa⟩
                  case measure => simp [intOf]; omega
      · have HZ := Lib.hid (Dag.chk_ok (g := g) ⟨by omega, fun n hn => HT.out n hn (by omega)⟩)
        go_wp2_with fail
        go_ret
        exact ⟨ret_int (by rw [HZ.out]; rfl), HB.out⟩
end Go.Proofs.Ytcpmnocknpalfaa
