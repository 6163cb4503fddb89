/-
  LexJoins: what the program answers, the document's. No condition.
-/
import Derived.Test.YtolahnnkdpbdfaaJ3
namespace Go.Proofs.Ytolahnnkdpbdfaa
open Go.RowKit Go.Sl

set_option maxRecDepth 100000 in
set_option maxHeartbeats 4000000 in
theorem joins_any (v : Value) (l : List Lex.Tk) (w : World) (h : Sl eTk 3 w v l) :
    Calls Try.prog 5 #[v] w fun e w' => e = .returned (.bool true) ∧ Below w.heap.size w w' := by
  have hln := h.run_len (P := Try.prog) Try.underlying23
  by_cases h80 : 80 < l.length
  · have d80 : decide ((80 : Int) < l.length) = true := decide_eq_true (by omega)
    go_enter Try.func5, Try.ntmps5
    go_wp2_with (go_at_call 12; go_must (refine (works_any _).mono ?_; rintro e w' ⟨rfl, hb⟩; have HB := Lib.hid hb; clear hb))
    go_ret
    exact ⟨rfl, HB.out⟩
  · have d80 : decide ((80 : Int) < l.length) = false := decide_eq_false (by omega)
    go_enter Try.func5, Try.ntmps5
    go_wp2_with fail
    go_loopw [3, 4] (fun o i wr => ∃ (k : Nat), k ≤ l.length ∧ i = .int .i64 k ∧ Hid (∀ t ∈ l.take k, t.2.1.length ≤ 1000) ∧ Hid (Own eTk 3 w.heap.size 38 wr o (l.take k)) ∧ Hid (Below w.heap.size w wr) ∧ w.heap.size ≤ wr.heap.size) (fun _ i _ => l.length - (intOf i).toNat)
    case atStart => exact ⟨0, by omega, rfl, Lib.hid (by simp), Lib.hid (Own.nil _ _ _ _ _), Lib.hid (Below.refl _ _), by omega⟩
    case round =>
      obtain ⟨k, hk, rfl, HS, HO, HB, hsz⟩ := hrel
      by_cases hlt : k < l.length
      · obtain ⟨b0, o0, hb0, hix, hc⟩ := h.atB HB.out (P := Try.prog) Try.underlying23 cells33 some33 hlt
        have q0 := hc 0 (by omega)
        have q1 := hc 1 (by omega)
        have q2 := hc 2 (by omega)
        obtain ⟨⟨K, s, p⟩, HX⟩ : ∃ t, Hid (l[k] = t) := ⟨_, Lib.hid rfl⟩
        rw [HX.out] at q0 q1 q2
        simp only [eTk, List.getElem?_cons_zero, List.getElem?_cons_succ, Nat.add_zero] at q0 q1 q2
        clear hc
        by_cases hs : 400 < s.length
        · have ds : decide ((400 : Int) < s.length) = true := decide_eq_true (by omega)
          go_wp2_with (go_at_call 12; go_must (refine (works_any _).mono ?_; rintro e w' ⟨rfl, hb⟩; have HB2 := Lib.hid hb; clear hb))
          go_ret
          exact ⟨rfl, HB.out.trans (HB2.out.mono hsz)⟩
        · have ds : decide ((400 : Int) < s.length) = false := decide_eq_false (by omega)
          have HF : Hid (Sl eTk 3 (wr.alloc (.cells #[.int .i64 K, .string (bstr s), .int .i64 p] 38)).drew (.slice (some ⟨wr.heap.size, 0, none⟩) 1 1) [(K, s, p)]) :=
            Lib.hid (Sl.drew (Sl.fresh len_eTk rfl rfl rfl (by simp [maxLen])))
          have HS2 : Hid (∀ t ∈ l.take (k + 1), t.2.1.length ≤ 1000) := Lib.hid (by
            rw [List.take_succ_eq_append_getElem hlt, HX.out]
            intro t ht
            rcases List.mem_append.1 ht with ht | ht
            · exact HS.out t ht
            · rw [List.mem_singleton.1 ht]; show s.length ≤ 1000; omega)
          obtain ⟨acc, HAc⟩ : ∃ m, Hid (l.take k = m) := ⟨_, Lib.hid rfl⟩
          have hac : acc.length ≤ 200 := by rw [← HAc.out]; simp; omega
          have HO' : Hid (Own eTk 3 w.heap.size 38 wr _ acc) := Lib.hid (HAc.out ▸ HO.out)
          clear HO
          go_wp2_with fail
          go_region_held3 (fun u => u.cell? ⟨b0, o0, none⟩ = some (.int .i64 K) ∧ u.cell? ⟨b0, o0 + 1, none⟩ = some (.string (bstr s)) ∧ u.cell? ⟨b0, o0 + 2, none⟩ = some (.int .i64 p))
            (first
              | exact ⟨q0, q1, q2⟩
              | exact ⟨(World.cell?_alloc_lt (w := wr) _ _ (by show b0 < _; omega)).trans q0, (World.cell?_alloc_lt (w := wr) _ _ (by show b0 < _; omega)).trans q1, (World.cell?_alloc_lt (w := wr) _ _ (by show b0 < _; omega)).trans q2⟩
              | (go_split_ands; exact ⟨by assumption, by assumption, by assumption⟩)
              | (go_split_ands; refine ⟨(hb3.cell (p := ⟨b0, _, none⟩) hb0).trans ?_, (hb3.cell (p := ⟨b0, _, none⟩) hb0).trans ?_, (hb3.cell (p := ⟨b0, _, none⟩) hb0).trans ?_⟩ <;> assumption))
            ((refine step_append rfl _ _ _ (by rfl) _ 32 Try.underlying27 info38 rfl (by omega) len_eTk one_eTk _ (.slice (some ⟨wr.heap.size, 0, none⟩) 1 1) acc [(K, s, p)] (by rfl) ((HO'.out.alloc _).drew) (by rfl) HF.out (by simp only [maxLen, List.length_cons, List.length_nil]; omega) (by simp only [List.length_cons, List.length_nil]; omega) (by show _ ≤ (wr.alloc _).heap.size; simp; omega) ?_; intro v3 w3 hown3 hgr3 hb3))
          have HB4 := Lib.hid (HB.out.trans (((Below.refl w.heap.size wr).alloc hsz _).drew.trans hb3))
          have HO3 := Lib.hid hown3
          clear hb3 hgr3 hown3
          go_wp2_with fail
          go_roundw
          case rel =>
            refine ⟨k + 1, by omega, by go_num, HS2, Lib.hid ?_, HB4, HB4.out.size⟩
            rw [List.take_succ_eq_append_getElem hlt, HAc.out, HX.out]; exact HO3.out
          case measure => simp [intOf]; omega
      · obtain rfl : k = l.length := by omega
        have HOm := HO.out
        have HSm := HS.out
        rw [List.take_length] at HOm HSm
        obtain ⟨⟨x, e⟩, hj⟩ : ∃ j, Lex.join l = j := ⟨_, rfl⟩
        have H1 := Lib.hid (join_any v l x e hj wr (h.ext HB.out) (by omega) HSm)
        have H2 := Lib.hid (fun u hb => rjoin_any _ l x e hj u ((HOm.sl len_eTk).ext hb) (by omega) HSm)
        clear HOm HSm HO HS hj
        go_wp2_with (first
          | (go_at_call 20; go_must (refine H1.out.mono ?_; rintro e1 w1 ⟨rfl, hb1⟩; have HB1 := Lib.hid hb1; clear hb1))
          | (go_at_call 21; go_must (refine (H2.out _ HB1.out).mono ?_; rintro e2 w2 ⟨rfl, hb2⟩; have HB2 := Lib.hid (HB.out.trans ((HB1.out.trans (hb2.mono HB1.out.size)).mono hsz)); clear hb2))
          | (go_at_call 12; go_must (refine (works_any _).mono ?_; rintro e3 w3 ⟨rfl, hb3⟩; have HB3 := Lib.hid (HB2.out.trans (hb3.mono HB2.out.size)); clear hb3)))
        go_ret
        exact ⟨rfl, HB3.out⟩
end Go.Proofs.Ytolahnnkdpbdfaa
