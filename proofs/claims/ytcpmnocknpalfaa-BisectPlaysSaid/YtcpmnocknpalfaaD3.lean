/-
  Layer 14: is a graph right? Both say the same. No condition.
-/
import Derived.Test.YtcpmnocknpalfaaD2
import Derived.Test.YtcpmnocknpalfaaG1
namespace Go.Proofs.Ytcpmnocknpalfaa
open Go.RowKit Go.Sl

theorem two_cells90 {w : World} {g : Nat} {a b : Value} (h : w.heap[g]? = some (.cells #[a, b] 90 (0, 0))) : w.cell? ⟨g, 0, none⟩ = some a ∧ w.cell? ⟨g, 1, none⟩ = some b := ⟨by simp [World.cell?, h], by simp [World.cell?, h]⟩

set_option maxRecDepth 100000 in
set_option maxHeartbeats 1000000 in
theorem check_any (v : Value) (es : List (SlV × Int)) (g : List Nd) (w : World) (h : Gr w v es g) :
    Calls Try.prog 24 #[v] w fun e w' => e = .returned (.int .i64 (Dag.chk g : Nat)) ∧ Below w.heap.size w w' := by
  have hlen := h.run_len
  have hmax := h.len_le
  by_cases hbig : 128 < g.length
  · have d0 : decide ((128 : Int) < g.length) = true := decide_eq_true (by omega)
    have HZ := Lib.hid (Dag.chk_bad (g := g) (fun h => by have := h.1; omega))
    go_enter Try.func24, Try.ntmps24
    go_wp2_with fail
    go_ret
    exact ⟨ret_int (by rw [HZ.out]; rfl), Below.refl _ _⟩
  · have d0 : decide ((128 : Int) < g.length) = false := decide_eq_false (by omega)
    go_enter Try.func24, Try.ntmps24
    go_wp2_with fail
    go_loopw [12] (fun i wr => ∃ (k : Nat), k ≤ g.length ∧ i = .int .i64 k ∧ Hid (∀ n (h : n < g.length), n < k → Dag.nodeOk n g[n]) ∧ Hid (Below w.heap.size w wr)) (fun i _ => g.length - (intOf i).toNat)
    case atStart => exact ⟨0, by omega, rfl, Lib.hid (fun n _ h => by omega), Lib.hid (Below.refl _ _)⟩
    case round =>
      obtain ⟨k, hk, rfl, HT, HB⟩ := hrel
      by_cases hlt : k < g.length
      · obtain ⟨b, o, hb0, hix, Q, T, a1, n1, c1, HX, HL, q0, q1, hs1, hm1⟩ := h.at HB.out hlt
        have HBa := Lib.hid (HB.out.alloc HB.out.size (.cells #[.slice a1 n1 c1, .int .i64 T] 90))
        have hls := hs1.run_len (P := Try.prog) Try.underlying23
        rw [HL.out] at hls
        have HBAD : Hid (¬ Dag.nodeOk k (Q, T) → (12 : Int) = (Dag.chk g : Nat)) := Lib.hid (fun hn => by rw [Dag.chk_bad (fun hg => hn (HX.out ▸ hg.2 k hlt))]; rfl)
        by_cases h6 : 6 < n1
        · have d6 : decide ((6 : Int) < n1) = true := decide_eq_true (by omega)
          have HZ := Lib.hid (HBAD.out (fun hn => by have := hn.1; rw [HL.out] at this; omega))
          go_wp2_with fail
          go_ret
          exact ⟨ret_int HZ.out, HBa.out⟩
        · have d6 : decide ((6 : Int) < n1) = false := decide_eq_false (by omega)
          by_cases hT : T < 0
          · have dT := decide_eq_true hT
            have HZ := Lib.hid (HBAD.out (fun hn => by have := hn.2.1; simp only at this; omega))
            go_wp2_with fail
            go_ret
            exact ⟨ret_int HZ.out, HBa.out⟩
          · have dT := decide_eq_false hT
            by_cases hT2 : 1099511627776 < T
            · have dT2 := decide_eq_true hT2
              have HZ := Lib.hid (HBAD.out (fun hn => by have := hn.2.2.1; simp only at this; omega))
              go_wp2_with fail
              go_ret
              exact ⟨ret_int HZ.out, HBa.out⟩
            · have dT2 := decide_eq_false hT2
              go_wp2_with fail
              go_loop [34] (fun i => ∃ (q : Nat), q ≤ n1 ∧ i = .int .i64 q ∧ Hid (∀ j (h : j < Q.length), j < q → Dag.parOk k Q j Q[j])) (fun i => n1 - (intOf i).toNat)
              case atStart => exact ⟨0, by omega, rfl, Lib.hid (fun j _ h => by omega)⟩
              case round =>
                obtain ⟨q, hq, rfl, HP⟩ := hrel
                by_cases hlt2 : q < n1
                · have hqQ : q < Q.length := by rw [HL.out]; exact hlt2
                  obtain ⟨b2, o2, hb2, hix2, hc2⟩ := hs1.atB HBa.out (P := Try.prog) Try.underlying23 cells3 some3 hqQ
                  have e1 := hc2 0 (by omega)
                  simp only [eInt, List.getElem?_cons_zero, Nat.add_zero] at e1
                  obtain ⟨x, HY⟩ : ∃ x, Hid (Q[q] = x) := ⟨_, Lib.hid rfl⟩
                  rw [HY.out] at e1
                  clear hc2
                  have HB2 : Hid (¬ Dag.parOk k Q q x → (12 : Int) = (Dag.chk g : Nat)) := Lib.hid (fun hn => HBAD.out (fun h => hn (HY.out ▸ h.2.2.2 q hqQ)))
                  by_cases hx0 : x < 0
                  · have dx := decide_eq_true hx0
                    have HZ := Lib.hid (HB2.out (fun hn => by have := hn.1; omega))
                    go_wp2_with fail
                    go_ret
                    exact ⟨ret_int HZ.out, HBa.out⟩
                  · have dx := decide_eq_false hx0
                    by_cases hxk : (k : Int) ≤ x
                    · have dk := decide_eq_true hxk
                      have HZ := Lib.hid (HB2.out (fun hn => by have := hn.2.1; omega))
                      go_wp2_with fail
                      go_ret
                      exact ⟨ret_int HZ.out, HBa.out⟩
                    · have dk := decide_eq_false hxk
                      obtain ⟨v2, hsv, ⟨z1, z2, z3, rfl⟩, hsl⟩ := (hs1.ext HBa.out).upto (P := Try.prog) Try.underlying23 (by kernel_rfl) cells3 some3 (hi' := q) (by omega)
                      by_cases hin : x ∈ Q.take q
                      · have HC := Lib.hid (contains_any _ _ x true (decide_eq_true hin) _ hsl)
                        have HZ := Lib.hid (HB2.out (fun hn => hn.2.2 hin))
                        clear hin hsl
                        go_wp2_with (go_at_call 75; go_must (refine HC.out.mono ?_; rintro e w' ⟨rfl, rfl⟩))
                        go_ret
                        exact ⟨ret_int HZ.out, HBa.out⟩
                      · have HC := Lib.hid (contains_any _ _ x false (decide_eq_false hin) _ hsl)
                        have HP2 : Hid (∀ j (h : j < Q.length), j < q + 1 → Dag.parOk k Q j Q[j]) := Lib.hid (fun j hj h1 => by
                          by_cases e : j = q
                          · subst e; rw [HY.out]; exact ⟨by omega, by omega, hin⟩
                          · exact HP.out j hj (by omega))
                        clear hin hsl
                        go_wp2_with (go_at_call 75; go_must (refine HC.out.mono ?_; rintro e w' ⟨rfl, rfl⟩))
                        go_round
                        case rel => exact ⟨q + 1, by omega, by go_num, HP2⟩
                        case measure => simp [intOf]; omega
                · have HN : Hid (∀ n (h : n < g.length), n < k + 1 → Dag.nodeOk n g[n]) := Lib.hid (fun n hn h1 => by
                    by_cases e : n = k
                    · subst e
                      rw [HX.out]
                      exact ⟨by rw [HL.out]; omega, by simp only; omega, by simp only; omega, fun i hi => HP.out i hi (by simp only at hi; rw [HL.out] at hi; omega)⟩
                    · exact HT.out n hn (by omega))
                  go_wp2_with fail
                  go_roundw
                  case rel => exact ⟨k + 1, by omega, by go_num, HN, HBa⟩
                  case measure => simp [intOf]; omega
      · have HZ := Lib.hid (Dag.chk_ok (g := g) ⟨by omega, fun n hn => HT.out n hn (by omega)⟩)
        go_wp2_with fail
        go_ret
        exact ⟨ret_int (by rw [HZ.out]; rfl), HB.out⟩
end Go.Proofs.Ytcpmnocknpalfaa
