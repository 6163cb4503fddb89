/-
  Walks of layer 27: Tokens, the reference's. No condition.
-/
import Derived.Test.YtolahnnkdpbdfaaQ5
import Derived.Test.YtolahnnkdpbdfaaL8

namespace Go.Lex
theorem down_ok (l : List UInt8) : ∀ n, ((down l n).1 = 0 ∧ (down l n).2 = 0) ∨ (1 ≤ (down l n).1 ∧ 1 ≤ (down l n).2 ∧ (down l n).2 ≤ n)
  | 0 => .inl ⟨rfl, rfl⟩
  | n + 1 => by
    rw [down]
    by_cases h : skip l (n + 1) = true
    · rw [if_pos h]
      rcases down_ok l n with h | ⟨h1, h2, h3⟩
      · exact .inl h
      · exact .inr ⟨h1, h2, by omega⟩
    · rw [if_neg h]
      refine .inr ⟨?_, by simp, by simp⟩
      show 1 ≤ kind (l.take (n + 1))
      apply Nat.pos_of_ne_zero
      intro h0
      exact h (skip_of h0)
theorem first_ok (l : List UInt8) : ((first l).1 = 0 ∧ (first l).2 = 0) ∨ (1 ≤ (first l).1 ∧ 1 ≤ (first l).2 ∧ (first l).2 ≤ l.length) := by
  unfold first
  by_cases h3 : l.take 3 = [46, 46, 46]
  · have := congrArg List.length h3
    rw [List.length_take] at this
    simp at this
    rw [if_pos h3]; exact .inr ⟨by simp, by simp, by simp; omega⟩
  · rw [if_neg h3]
    by_cases h2 : l.take 2 = [46, 46]
    · have := congrArg List.length h2
      rw [List.length_take] at this
      simp at this
      rw [if_pos h2]; exact .inr ⟨by simp, by simp, by simp; omega⟩
    · rw [if_neg h2]; exact down_ok l l.length
end Go.Lex

namespace Go.Proofs.Ytolahnnkdpbdfaa
open Go.RowKit Go.Sl

theorem info38 : (Try.prog.info? 38).map (fun i => (i.zero, i.size, i.bytes)) = some (some (.agg #[.int .i64 0, .string .empty, .int .i64 0]), 3, 32) := by kernel_rfl

set_option maxRecDepth 100000 in
set_option maxHeartbeats 2000000 in
theorem rtokens_any (l : List UInt8) (w : World) (hl : l.length ≤ 9223372036854775807) : Calls Try.prog 14 #[.string (bstr l)] w (TokPost 38 w (Lex.tokens Lex.first l)) := by
  by_cases hlong : 200 < l.length
  · have HF : Hid (Lex.tokens Lex.first l = .error (0, 3)) := Lib.hid (by unfold Lex.tokens; rw [if_pos hlong])
    go_enter Try.func14, Try.ntmps14
    go_wp2_with fail
    go_ret3
    exact TokPost.err HF.out (Below.refl _ _) rfl rfl
  · have HF : Hid (Lex.tokens Lex.first l = Lex.pre [] (Lex.tkG Lex.first (l.length + 1) l 0 0)) := Lib.hid (by unfold Lex.tokens; rw [if_neg hlong, Lex.pre_nil])
    clear hl
    go_enter Try.func14, Try.ntmps14
    go_wp2_with fail
    go_loopw [5, 6] (fun o p wr => ∃ (q : Nat) (out : List Lex.Tok), q ≤ l.length ∧ p = .int .i64 q ∧ out.length ≤ 60 ∧ Hid (Lex.tokens Lex.first l = Lex.pre out (Lex.tkG Lex.first (l.length - q + 1) (l.drop q) q out.length)) ∧
      Hid (Own eTok 3 w.heap.size 38 wr o out) ∧ Hid (Below w.heap.size w wr) ∧ w.heap.size ≤ wr.heap.size) (fun _ p _ => l.length + 1 - (intOf p).toNat)
    case atStart => exact ⟨0, [], by omega, rfl, by simp, HF, Lib.hid (Own.nil _ _ _ _ _), Lib.hid (Below.refl _ _), by omega⟩
    case round =>
      obtain ⟨q, out, hq, rfl, hout, HT, HO, HB, hsz⟩ := hrel
      have hlo := (HO.out.sl len_eTok).run_len (P := Try.prog) Try.underlying27
      by_cases hlt : q < l.length
      · obtain ⟨⟨kd, n⟩, hon⟩ : ∃ x, Lex.first (l.drop q) = x := ⟨_, rfl⟩
        have hnl := Lex.first_ok (l.drop q)
        rw [hon, List.length_drop] at hnl
        simp only at hnl
        have hne : l.drop q ≠ [] := by intro h; have := congrArg List.length h; simp at this; omega
        have HC := Lib.hid (fun u => rfirst_any (l.drop q) kd n hon u (by simp; omega) (by simp; omega))
        by_cases hn : n = 0
        · have hkd : kd = 0 := by omega
          have HE : Hid (Lex.tokens Lex.first l = .error (q, 40)) := Lib.hid (by rw [HT.out, Lex.tkG_bad hne (by rw [hon, hn])]; rfl)
          have hnb : ((kd : Int) == 0) = true := by simp [hkd]
          clear hn hon hne hnl hkd
          go_wp2_with (go_at_call 34; go_must (refine (HC.out _).mono ?_; rintro e w' ⟨rfl, rfl⟩))
          go_ret3
          exact TokPost.err HE.out HB.out rfl rfl
        · have hkd : kd ≠ 0 := by omega
          have hnb : ((kd : Int) == 0) = false := by simp [hkd]
          by_cases h60 : out.length = 60
          · have HE : Hid (Lex.tokens Lex.first l = .error (q, 5)) := Lib.hid (by rw [HT.out, h60, Lex.tkG_full hne hon hn]; rfl)
            have h6 : ((out.length : Int) == 60) = true := by simp [h60]
            clear h60 hn hon hne hnl hkd
            go_wp2_with (go_at_call 34; go_must (refine (HC.out _).mono ?_; rintro e w' ⟨rfl, rfl⟩))
            go_ret3
            exact TokPost.err HE.out HB.out rfl rfl
          · have h6 : ((out.length : Int) == 60) = false := by simp; omega
            have hn1 : 1 ≤ n := by omega
            have hn2 : n ≤ l.length - q := by omega
            have HG : Hid (Lex.tokens Lex.first l = Lex.pre (out ++ [(kd, (l.drop q).take n, q)]) (Lex.tkG Lex.first (l.length - (q + n) + 1) (l.drop (q + n)) (q + n) (out ++ [(kd, (l.drop q).take n, q)]).length)) := Lib.hid (by
              rw [HT.out, Lex.tkG_go hne hon hn h60, List.drop_drop, List.length_append, List.length_singleton]
              rw [Lex.tkG_fuel Lex.first (l.length - q) (l.length - (q + n) + 1) _ _ _ (by simp; omega) (by simp)])
            clear hn hon hne hnl hkd
            go_wp2_with (first
              | (go_at_call 34; go_must (refine (HC.out _).mono ?_; rintro e w' ⟨rfl, rfl⟩))
              | (at_builtin; go_must (refine wpList_append rfl _ _ _ rfl _ 32 Try.underlying27 info38 rfl (by omega) len_eTok one_eTok _ _ out [(kd, (l.drop q).take n, q)] (by rfl) (HO.out.alloc _) (by rfl) (Sl.fresh len_eTok (by simp) rfl rfl (by simp [maxLen])) (by simp only [maxLen, List.length_cons, List.length_nil]; omega) (by simp only [List.length_cons, List.length_nil]; omega) (by simp; omega) ?_; intro v1 w1 hown1 hgr1 hb1; have HO1 := Lib.hid hown1; have HB1 := Lib.hid ((HB.out.alloc hsz _).trans hb1); clear hown1 hb1 hgr1)))
            go_roundw
            case rel =>
              refine ⟨q + n, _, by omega, ?_, ?_, HG, HO1, HB1, HB1.out.size⟩
              · congr 1; try (simp only [List.length_take, List.length_drop]; omega)
              · simp only [List.length_append, List.length_cons, List.length_nil]; rw [beq_eq_false_iff_ne] at h6; omega
            case measure => simp [intOf]; omega
      · obtain rfl : q = l.length := by omega
        have HT2 : Hid (Lex.tokens Lex.first l = Lex.pre out (if out.length = 60 then .error (l.length, 5) else .ok [(9, [], l.length)])) := Lib.hid (by
          rw [HT.out, List.drop_eq_nil_of_le (Nat.le_refl _), Lex.tkG_end])
        by_cases h60 : out.length = 60
        · have HE : Hid (Lex.tokens Lex.first l = .error (l.length, 5)) := Lib.hid (by rw [HT2.out, if_pos h60]; rfl)
          have h6 : ((out.length : Int) == 60) = true := by simp [h60]
          clear h60
          go_wp2_with fail
          go_ret3
          exact TokPost.err HE.out HB.out rfl rfl
        · have HE : Hid (Lex.tokens Lex.first l = .ok (out ++ [(9, [], l.length)])) := Lib.hid (by rw [HT2.out, if_neg h60]; rfl)
          have h6 : ((out.length : Int) == 60) = false := by simp; omega
          clear h60
          go_wp2_with (at_builtin; go_must (refine wpList_append rfl _ _ _ rfl _ 32 Try.underlying27 info38 rfl (by omega) len_eTok one_eTok _ _ out [(9, [], l.length)] (by rfl) (HO.out.alloc _) (by rfl) (Sl.fresh len_eTok (by simp) rfl rfl (by simp [maxLen])) (by simp only [maxLen, List.length_cons, List.length_nil]; omega) (by simp only [List.length_cons, List.length_nil]; omega) (by simp; omega) ?_; intro v1 w1 hown1 hgr1 hb1; have HO1 := Lib.hid hown1; have HB1 := Lib.hid ((HB.out.alloc hsz _).trans hb1); clear hown1 hb1 hgr1))
          go_ret3
          exact TokPost.good HE.out HB1.out HO1.out
end Go.Proofs.Ytolahnnkdpbdfaa
