/-
  Layer 14: between: the ancestors of some nodes that are none of others. No condition besides what the arguments are.
-/
import Derived.Test.YtcpmnocknpalfaaH6
import Derived.Deep.LoopGhost
namespace Go.Proofs.Ytcpmnocknpalfaa
open Go.RowKit Go.Sl

/-- the marks behind both lists -/
def seed2 (N : Nat) (l m : List Int) : List Nat := Dag.mks (Dag.mks (List.replicate N 0) (Dag.nn l) 1) (Dag.nn m) 2
theorem nn_lt {N : Nat} {l : List Int} (h : Dag.inN N l) : ∀ x ∈ Dag.nn l, x < N := fun x hx => by
  obtain ⟨y, hy, rfl⟩ := List.mem_map.1 hx
  have := h y hy
  omega
theorem seed2_bit {N : Nat} {l m : List Int} (hl : Dag.inN N l) (hm : Dag.inN N m) (x b : Nat) : Dag.bit (seed2 N l m) x b = true ↔ (x ∈ Dag.nn l ∧ (b = 3 ∨ b = 0)) ∨ (x ∈ Dag.nn m ∧ (b = 3 ∨ b = 1)) := by
  unfold seed2
  rw [Dag.bit_mks _ (fun x hx => by rw [Dag.mks_len, List.length_replicate]; exact nn_lt hm x hx), Dag.bit_mks _ (fun x hx => by rw [List.length_replicate]; exact nn_lt hl x hx), bit_zero]
  have h1 : (1 : Nat).testBit b = decide (b = 0) := by rw [show (1 : Nat) = 2 ^ 0 from rfl, Nat.testBit_two_pow]; simp [eq_comm]
  have h2 : (2 : Nat).testBit b = decide (b = 1) := by rw [show (2 : Nat) = 2 ^ 1 from rfl, Nat.testBit_two_pow]; simp [eq_comm]
  rw [h1, h2]
  simp
theorem seed2_len (N : Nat) (l m : List Int) : (seed2 N l m).length = N := by unfold seed2; rw [Dag.mks_len, Dag.mks_len, List.length_replicate]

theorem between_fin {g : List Nd} (hg : Dag.okG g) {l m : List Int} (hl : Dag.inN g.length l) (hm : Dag.inN g.length m) {ms : List Nat}
    (h : Dag.Fix (Dag.par g) (fun _ f => f) (fun x b => Dag.bit (seed2 g.length l m) x b = true) g.length 0 ms) : Dag.filtN (Dag.em 1 ms) g.length = Dag.rangeL g (Dag.nn l) (Dag.nn m) := by
  unfold Dag.rangeL
  refine Dag.filtN_congr fun x hx => ?_
  have hs : ∀ x b, Dag.bit (seed2 g.length l m) x b = true → x < g.length := fun x b h => by have := bit_lt h; rwa [seed2_len] at this
  have hs3 : ∀ x b, Dag.bit (seed2 g.length l m) x b = true → Dag.bit (seed2 g.length l m) x 3 = true := fun x b h => by
    rw [seed2_bit hl hm] at h ⊢
    rcases h with h | h
    · exact .inl ⟨h.1, .inl rfl⟩
    · exact .inr ⟨h.1, .inl rfl⟩
  have key := h.between (Dag.par_lt hg) hs hs3 (fun x h => by rw [seed2_bit hl hm] at h; omega) x hx
  have e0 : (∃ s, Dag.bit (seed2 g.length l m) s 0 = true ∧ Dag.Anc (Dag.par g) s x) ↔ Dag.upP g (Dag.nn l) x := by
    unfold Dag.upP
    refine exists_congr fun s => and_congr_left fun _ => ?_
    rw [seed2_bit hl hm]; simp
  have e1 : (∃ s, Dag.bit (seed2 g.length l m) s 1 = true ∧ Dag.Anc (Dag.par g) s x) ↔ Dag.upP g (Dag.nn m) x := by
    unfold Dag.upP
    refine exists_congr fun s => and_congr_left fun _ => ?_
    rw [seed2_bit hl hm]; simp
  rw [e0, e1] at key
  rw [Bool.eq_iff_iff, Dag.tt_iff, ← key]
  unfold Dag.em
  simp only [Bool.and_eq_true, beq_iff_eq]
  constructor
  · exact fun h => h.2
  · intro h2
    refine ⟨?_, h2⟩
    have : Dag.bit ms x 0 = true := by
      have e := Dag.fl_bit ms x 0
      rw [h2] at e
      simpa using e.symm
    exact h.bit3 hs3 hx this

set_option maxRecDepth 100000 in
set_option maxHeartbeats 1000000 in
theorem between_any (gv v1 v2 : Value) (w : World) (es : List (SlV × Int)) (g : List Nd) (l m : List Int) (hG : Gr w gv es g) (hg : Dag.okG g) (h1 : Sl eInt 1 w v1 l) (h2 : Sl eInt 1 w v2 m) (hl : Dag.inN g.length l) (hm : Dag.inN g.length m) :
    Calls Try.prog 76 #[gv, v1, v2] w fun e w' => ∃ v, e = .returned v ∧ Own eInt 1 w.heap.size 3 w' v (Dag.rangeL g (Dag.nn l) (Dag.nn m)) ∧ Below w.heap.size w w' := by
  have hlen1 := h1.run_len (P := Try.prog) Try.underlying23
  have hlen2 := h2.run_len (P := Try.prog) Try.underlying23
  have hmax1 := h1.len_le
  have hmax2 := h2.len_le
  have hgl := hg.1
  have HS := Lib.hid (start_any w.heap.size gv w w es g hG hg (Nat.le_refl _))
  have HL := Lib.hid hl
  have HM := Lib.hid hm
  have HG := Lib.hid hg
  have HF := Lib.hid (fun ms => between_fin (ms := ms) hg hl hm)
  clear hl hm
  go_enter Try.func76, Try.ntmps76
  go_wp2_with (go_at_call 69; go_must (refine HS.out.mono ?_; rintro e w1 ⟨rfl, hp, hb⟩; have HP := Lib.hid hp; have HB := Lib.hid hb; clear hp hb))
  go_loopw [19] (fun i wr => ∃ (k : Nat), i = .int .i64 k ∧ k ≤ l.length ∧ Hid (PtN w.heap.size (w.heap.size + 1) w.heap.size gv (.slice none 0 0) g.length (Dag.mks (List.replicate g.length 0) (Dag.nn (l.take k)) 1) w1 wr)) (fun i _ => l.length - (intOf i).toNat)
  case atStart => exact ⟨0, rfl, by omega, Lib.hid ⟨_, _, HP.out, Mv.refl _ _, Below.refl _ _⟩⟩
  case round =>
    obtain ⟨k, rfl, hk, HN⟩ := hrel
    by_cases hlt : k < l.length
    · obtain ⟨qv', q', p1, p2, p3⟩ := HN.out
      obtain ⟨b2, o2, hb2, hix2, hc2⟩ := h1.atB (HB.out.trans (p3.mono (Nat.le_refl _))) (P := Try.prog) Try.underlying23 cells3 some3 hlt
      have e1 := hc2 0 (by omega)
      simp only [eInt, List.getElem?_cons_zero, Nat.add_zero] at e1
      obtain ⟨x, HY⟩ : ∃ x, Hid (l[k] = x) := ⟨_, Lib.hid rfl⟩
      rw [HY.out] at e1
      have hok := HL.out l[k] (List.getElem_mem hlt)
      rw [HY.out] at hok
      obtain ⟨y, rfl⟩ : ∃ y : Nat, x = y := ⟨x.toNat, by have := hok.1; omega⟩
      have hyn : y < g.length := by have := hok.2; omega
      have HT : Hid (Dag.nn (l.take (k + 1)) = Dag.nn (l.take k) ++ [y]) := Lib.hid (by show List.map _ _ = _; rw [par_take hlt, HY.out]; rfl)
      have HC := Lib.hid (mark_any w.heap.size (w.heap.size + 1) w.heap.size g.length gv qv' q' _ y 1 y 1 rfl rfl wr p1 (by rw [Dag.mks_len, List.length_replicate]; exact hyn) hyn (by omega))
      have HN2 := Lib.hid (fun w2 => PtN.trans (w2 := w2) (ms'' := Dag.mk (Dag.mks (List.replicate g.length 0) (Dag.nn (l.take k)) 1) y 1) (pb := w.heap.size + 1) (mb := w.heap.size) (gv := gv) (B := g.length) p2 p3)
      clear hc2 hok p1 p2 p3 HN
      go_wp2_with (go_at_call 70; go_must (refine HC.out.mono ?_; rintro e w2 ⟨rfl, hq⟩; have HF2 := Lib.hid (HN2.out w2 hq); clear hq))
      go_roundw
      case rel => exact ⟨k + 1, by go_num, by omega, Lib.hid (by rw [HT.out, mks_snoc]; exact HF2.out)⟩
      case measure => simp [intOf]; omega
    · have HE : Hid (l.take k = l) := Lib.hid (List.take_of_length_le (by omega))
      rw [HE.out] at HN
      go_wp2_with fail
      go_loopw [29] (fun i wr => ∃ (k : Nat), i = .int .i64 k ∧ k ≤ m.length ∧ Hid (PtN w.heap.size (w.heap.size + 1) w.heap.size gv (.slice none 0 0) g.length (Dag.mks (Dag.mks (List.replicate g.length 0) (Dag.nn l) 1) (Dag.nn (m.take k)) 2) w1 wr)) (fun i _ => m.length - (intOf i).toNat)
      case atStart => exact ⟨0, rfl, by omega, HN⟩
      case round =>
        obtain ⟨k, rfl, hk, HN⟩ := hrel
        by_cases hlt : k < m.length
        · obtain ⟨qv', q', p1, p2, p3⟩ := HN.out
          obtain ⟨b2, o2, hb2, hix2, hc2⟩ := h2.atB (HB.out.trans (p3.mono (Nat.le_refl _))) (P := Try.prog) Try.underlying23 cells3 some3 hlt
          have e1 := hc2 0 (by omega)
          simp only [eInt, List.getElem?_cons_zero, Nat.add_zero] at e1
          obtain ⟨x, HY⟩ : ∃ x, Hid (m[k] = x) := ⟨_, Lib.hid rfl⟩
          rw [HY.out] at e1
          have hok := HM.out m[k] (List.getElem_mem hlt)
          rw [HY.out] at hok
          obtain ⟨y, rfl⟩ : ∃ y : Nat, x = y := ⟨x.toNat, by have := hok.1; omega⟩
          have hyn : y < g.length := by have := hok.2; omega
          have HT : Hid (Dag.nn (m.take (k + 1)) = Dag.nn (m.take k) ++ [y]) := Lib.hid (by show List.map _ _ = _; rw [par_take hlt, HY.out]; rfl)
          have HC := Lib.hid (mark_any w.heap.size (w.heap.size + 1) w.heap.size g.length gv qv' q' _ y 2 y 2 rfl rfl wr p1 (by rw [Dag.mks_len, Dag.mks_len, List.length_replicate]; exact hyn) hyn (by omega))
          have HN2 := Lib.hid (fun w2 => PtN.trans (w2 := w2) (ms'' := Dag.mk (Dag.mks (Dag.mks (List.replicate g.length 0) (Dag.nn l) 1) (Dag.nn (m.take k)) 2) y 2) (pb := w.heap.size + 1) (mb := w.heap.size) (gv := gv) (B := g.length) p2 p3)
          clear hc2 hok p1 p2 p3 HN
          go_wp2_with (go_at_call 70; go_must (refine HC.out.mono ?_; rintro e w2 ⟨rfl, hq⟩; have HF2 := Lib.hid (HN2.out w2 hq); clear hq))
          go_roundw
          case rel => exact ⟨k + 1, by go_num, by omega, Lib.hid (by rw [HT.out, mks_snoc]; exact HF2.out)⟩
          case measure => simp [intOf]; omega
        · have HE2 : Hid (m.take k = m) := Lib.hid (List.take_of_length_le (by omega))
          rw [HE2.out] at HN
          have HS0 := Lib.hid (Sw.start (hd := fun _ f => f) (f0 := 1) HN.out (seed2_len g.length l m) HB.out)
          go_wp2_with fail
          clear HN HE HE2 HP HS HM HL
          go_loopg [12] (g.length) (fun B ov wr => ∃ ms qv q, Hid (Sw (fun _ f => f) 1 (fun x b => Dag.bit (seed2 g.length l m) x b = true) g w.heap.size (w.heap.size + 1) w.heap.size gv qv q B ms ov w wr))
          case atStart => obtain ⟨qv, q, hs⟩ := HS0.out; exact ⟨_, qv, q, Lib.hid hs⟩
          case round =>
            obtain ⟨ms, qv, q, HS⟩ := hrel
            by_cases hq : q = []
            · subst hq
              have HE := Lib.hid (empty_any w.heap.size (w.heap.size + 1) w.heap.size gk gv qv [] ms true (by simp) wr HS.out.pt)
              obtain ⟨hf, ho, hb⟩ := HS.out.done
              have HR := Lib.hid (reverse_any w.heap.size _ _ wr ho (by have := Dag.filtN_len (p := Dag.em 1 ms) g.length; rw [List.length_reverse]; omega))
              have HX := Lib.hid (HF.out ms hf)
              have HB2 := Lib.hid hb
              clear hf ho hb HS
              go_wp2_with (first
                | (go_at_call 71; go_must (refine HE.out.mono ?_; rintro e w' ⟨rfl, rfl⟩))
                | (go_at_call 74; go_must (refine HR.out.mono ?_; rintro e w5 ⟨rfl, hr⟩; have HR2 := Lib.hid hr; clear hr)))
              go_ret
              refine ⟨_, rfl, ?_, HB2.out.trans HR2.out.2⟩
              rw [← HX.out]
              have := HR2.out.1
              rwa [List.reverse_reverse] at this
            · obtain ⟨n, hn, hnB, hnl, hbit, hmax⟩ := HS.out.pt.top hq
              have hnl2 : n < g.length := by rw [HS.out.fix.len] at hnl; exact hnl
              have HE := Lib.hid (empty_any w.heap.size (w.heap.size + 1) w.heap.size gk gv qv q ms false (by simp [hq]) wr HS.out.pt)
              have HC := Lib.hid (next_any w.heap.size (w.heap.size + 1) w.heap.size gk n gv qv q ms wr HS.out.pt hq hn)
              have HBit := Lib.hid hbit
              have HMax := Lib.hid hmax
              have hfl := Dag.fl_lt ms n
              obtain ⟨f, HFl⟩ : ∃ f, Hid (Dag.fl ms n = f) := ⟨_, Lib.hid rfl⟩
              rw [HFl.out] at HC hfl
              clear hn hbit hmax hq
              by_cases hf1 : f = 1
              · have hb1 : ((f : Int) == 1) = true := by simp; omega
                have hb2 : (f == 1) = true := by simp; omega
                have HF1 := Lib.hid hf1
                clear hf1
                go_wp2_with (first
                  | (go_at_call 71; go_must (refine HE.out.mono ?_; rintro e w' ⟨rfl, rfl⟩))
                  | (go_at_call 72; go_must (refine HC.out.mono ?_; rintro e w5 ⟨rfl, hr⟩; obtain ⟨qv1, q1, p1, o1, a1, b1⟩ := HS.out.next hr; have HPt0 := Lib.hid p1; have HO1 := Lib.hid o1; have HA1 := Lib.hid a1; have HB1 := Lib.hid b1; clear hr p1 o1 a1 b1))
                  | (at_builtin; go_must (refine wpList_append1 rfl (en := eInt) (s := 1) (base := w.heap.size) (e := 3) _ _ 23 rfl (.int .i64 0) 8 Try.underlying23 info3 rfl (by decide) len_eInt one_eInt u12 _ _ n rfl (HO1.out.alloc _) rfl (Sl.fresh len_eInt rfl rfl rfl (by simp [maxLen])) (by have := Dag.told_len (Dag.em 1 ms) gk g.length; simp only [maxLen]; omega) (by have := Dag.told_len (Dag.em 1 ms) gk g.length; omega) (by have := HB1.out.size; simp; omega) ?_; intro ov' w6 hown hgr hbel hblk; have HP2 := Lib.hid (HPt0.out.append HO1.out HA1.out _ hgr (by simpa using hblk)); have HPt := Lib.hid HP2.out.1; have HO2 := Lib.hid hown; have HB6 := Lib.hid ((HB1.out.alloc HB1.out.size _).trans hbel); clear hown hgr hbel hblk))
                  | (go_at_call 73; go_must (refine (hand_any w.heap.size (w.heap.size + 1) w.heap.size n f _ _ rfl rfl gv qv1 q1 ms w _ es g hG HG.out HB6.out (Nat.le_refl _) HPt.out hnl2 (by rw [HS.out.fix.len]) hfl).mono ?_; rintro e w7 ⟨rfl, hr⟩; have HH := Lib.hid hr; clear hr)))
                go_roundg n
                case measure => exact hnB
                case rel =>
                  obtain ⟨qv3, q3, hs⟩ := HS.out.fin HG.out hnB hnl2 HBit.out HMax.out (L := _ ++ [(n : Int)]) (by rw [if_pos (by rw [HFl.out, HF1.out])]) HO2.out HP2.out.2 HB6.out HPt.out (by rw [HFl.out]; exact HH.out)
                  exact ⟨_, qv3, q3, Lib.hid hs⟩
              · have hb1 : ((f : Int) == 1) = false := by simp; omega
                have hb2 : (f == 1) = false := by simp; omega
                have HF1 := Lib.hid hf1
                clear hf1
                go_wp2_with (first
                  | (go_at_call 71; go_must (refine HE.out.mono ?_; rintro e w' ⟨rfl, rfl⟩))
                  | (go_at_call 72; go_must (refine HC.out.mono ?_; rintro e w5 ⟨rfl, hr⟩; obtain ⟨qv1, q1, p1, o1, a1, b1⟩ := HS.out.next hr; have HPt := Lib.hid p1; have HO1 := Lib.hid o1; have HA1 := Lib.hid a1; have HB6 := Lib.hid b1; clear hr p1 o1 a1 b1))
                  | (go_at_call 73; go_must (refine (hand_any w.heap.size (w.heap.size + 1) w.heap.size n f _ _ rfl rfl gv qv1 q1 ms w _ es g hG HG.out HB6.out (Nat.le_refl _) HPt.out hnl2 (by rw [HS.out.fix.len]) hfl).mono ?_; rintro e w7 ⟨rfl, hr⟩; have HH := Lib.hid hr; clear hr)))
                go_roundg n
                case measure => exact hnB
                case rel =>
                  obtain ⟨qv3, q3, hs⟩ := HS.out.fin HG.out hnB hnl2 HBit.out HMax.out (by rw [if_neg (by rw [HFl.out]; exact HF1.out)]) HO1.out HA1.out HB6.out HPt.out (by rw [HFl.out]; exact HH.out)
                  exact ⟨_, qv3, q3, Lib.hid hs⟩
end Go.Proofs.Ytcpmnocknpalfaa
