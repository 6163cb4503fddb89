/-
  Layer 14: Heads: the nodes that are no ancestors of others. No condition besides what the arguments are.
-/
import Derived.Test.YtcpmnocknpalfaaH9
namespace Go.Proofs.Ytcpmnocknpalfaa
open Go.RowKit Go.Sl

def seed1 (N : Nat) (l : List Int) : List Nat := Dag.mks (List.replicate N 0) (Dag.nn l) 1
theorem seed1_bit {N : Nat} {l : List Int} (hl : Dag.inN N l) (x b : Nat) : Dag.bit (seed1 N l) x b = true ↔ (x ∈ Dag.nn l ∧ (b = 3 ∨ b = 0)) := by
  unfold seed1
  rw [Dag.bit_mks _ (fun x hx => by rw [List.length_replicate]; exact nn_lt hl x hx), bit_zero]
  have h1 : (1 : Nat).testBit b = decide (b = 0) := by rw [show (1 : Nat) = 2 ^ 0 from rfl, Nat.testBit_two_pow]; simp [eq_comm]
  rw [h1]
  simp
theorem seed1_len (N : Nat) (l : List Int) : (seed1 N l).length = N := by unfold seed1; rw [Dag.mks_len, List.length_replicate]

theorem heads_fin {g : List Nd} (hg : Dag.okG g) {l : List Int} (hl : Dag.inN g.length l) {ms : List Nat}
    (h : Dag.Fix (Dag.par g) (fun _ _ => 4) (fun x b => Dag.bit (seed1 g.length l) x b = true) g.length 0 ms) : Dag.filtN (Dag.em 1 ms) g.length = Dag.headL g (Dag.nn l) := by
  unfold Dag.headL
  refine Dag.filtN_congr fun x hx => ?_
  have hs : ∀ x b, Dag.bit (seed1 g.length l) x b = true → x < g.length := fun x b h => by have := bit_lt h; rwa [seed1_len] at this
  have key := h.heads (Dag.par_lt hg) hs (fun x b => by rw [seed1_bit hl, seed1_bit hl]; simp; omega) x hx
  have e0 : ∀ s, Dag.bit (seed1 g.length l) s 3 = true ↔ s ∈ Dag.nn l := fun s => by rw [seed1_bit hl]; simp
  simp only [e0] at key
  rw [Bool.eq_iff_iff, Dag.tt_iff]
  unfold Dag.headP
  rw [← key]
  unfold Dag.em
  simp only [Bool.and_eq_true, beq_iff_eq]
  constructor
  · exact fun h => h.2
  · intro h2
    refine ⟨?_, h2⟩
    have h3 := (key.1 h2).1
    exact (h.eq x 3 hx).2 (.inl ((e0 x).2 h3))

set_option maxRecDepth 100000 in
set_option maxHeartbeats 1000000 in
theorem heads_bad (gv v : Value) (w : World) (es : List (SlV × Int)) (g : List Nd) (l : List Int) (c : Nat) (hc : Dag.nodes g l = c) (h0 : c ≠ 0) (hG : Gr w gv es g) (h : Sl eInt 1 w v l) :
    Calls Try.prog 30 #[gv, v] w fun e w' => e = .returned (.tuple #[.slice none 0 0, .int .i64 (c : Nat)]) ∧ Below w.heap.size w w' := by
  have HC := Lib.hid (nodes_any gv v w es g l c hc hG h)
  have d1 : ((c : Int) != 0) = true := by simp; omega
  have d2 : (c != 0) = true := by simp; omega
  clear hc h0
  go_enter Try.func30, Try.ntmps30
  go_wp2_with (go_at_call 68; go_must (refine HC.out.mono ?_; rintro e w1 ⟨rfl, hb⟩; have HB := Lib.hid hb; clear hb))
  go_ret2
  exact ⟨rfl, HB.out⟩

set_option maxRecDepth 100000 in
set_option maxHeartbeats 1000000 in
theorem heads_ok (gv v : Value) (w : World) (es : List (SlV × Int)) (g : List Nd) (l : List Int) (hg : Dag.okG g) (hl : Dag.inN g.length l) (hG : Gr w gv es g) (h1 : Sl eInt 1 w v l) :
    Calls Try.prog 30 #[gv, v] w (ListOk w.heap.size (Dag.headL g (Dag.nn l)) w) := by
  have HC := Lib.hid (nodes_any gv v w es g l 0 (Dag.nodes_ok hg hl) hG h1)
  have hlen1 := h1.run_len (P := Try.prog) Try.underlying23
  have hmax1 := h1.len_le
  have hgl := hg.1
  have HG := Lib.hid hg
  have HL := Lib.hid hl
  have HF := Lib.hid (fun ms => heads_fin (ms := ms) hg hl)
  clear hl hg
  go_enter Try.func30, Try.ntmps30
  go_wp2_with fail
  refine HC.out.mono ?_
  rintro e w1 ⟨rfl, hb1⟩
  have HB1 := Lib.hid hb1
  clear hb1
  go_wp2_with fail
  refine (start_any w.heap.size gv w1 w1 es g (hG.ext HB1.out) HG.out HB1.out.size).mono ?_
  rintro e w2 ⟨rfl, hp, hb2⟩
  have HP := Lib.hid hp
  have HB2 := Lib.hid (HB1.out.trans hb2)
  clear hp hb2
  go_wp2_with fail
  go_loopw [23] (fun i wr => ∃ (k : Nat), i = .int .i64 k ∧ k ≤ l.length ∧ Hid (PtN w.heap.size (w1.heap.size + 1) w1.heap.size gv (.slice none 0 0) g.length (Dag.mks (List.replicate g.length 0) (Dag.nn (l.take k)) 1) w2 wr)) (fun i _ => l.length - (intOf i).toNat)
  case atStart => exact ⟨0, rfl, by omega, Lib.hid ⟨_, _, HP.out, Mv.refl _ _, Below.refl _ _⟩⟩
  case round =>
    obtain ⟨k, rfl, hk, HN⟩ := hrel
    by_cases hlt : k < l.length
    · obtain ⟨qv', q', p1, p2, p3⟩ := HN.out
      obtain ⟨b2, o2, hb2, hix2, hc2⟩ := h1.atB (HB2.out.trans p3) (P := Try.prog) Try.underlying23 cells3 some3 hlt
      have e1 := hc2 0 (by omega)
      simp only [eInt, List.getElem?_cons_zero, Nat.add_zero] at e1
      obtain ⟨x, HY⟩ : ∃ x, Hid (l[k] = x) := ⟨_, Lib.hid rfl⟩
      rw [HY.out] at e1
      have hok := HL.out l[k] (List.getElem_mem hlt)
      rw [HY.out] at hok
      obtain ⟨y, rfl⟩ : ∃ y : Nat, x = y := ⟨x.toNat, by have := hok.1; omega⟩
      have hyn : y < g.length := by have := hok.2; omega
      have HT : Hid (Dag.nn (l.take (k + 1)) = Dag.nn (l.take k) ++ [y]) := Lib.hid (by show List.map _ _ = _; rw [par_take hlt, HY.out]; rfl)
      have HC := Lib.hid (mark_any w.heap.size (w1.heap.size + 1) w1.heap.size g.length gv qv' q' _ y 1 y 1 rfl rfl wr p1 (by rw [Dag.mks_len, List.length_replicate]; exact hyn) hyn (by omega))
      have HN2 := Lib.hid (fun w2 => PtN.trans (w2 := w2) (ms'' := Dag.mk (Dag.mks (List.replicate g.length 0) (Dag.nn (l.take k)) 1) y 1) (pb := w1.heap.size + 1) (mb := w1.heap.size) (gv := gv) (B := g.length) p2 p3)
      clear hc2 hok p1 p2 p3 HN
      go_wp2_with (go_at_call 70; go_must (refine HC.out.mono ?_; rintro e w2 ⟨rfl, hq⟩; have HF2 := Lib.hid (HN2.out w2 hq); clear hq))
      go_roundw
      case rel => exact ⟨k + 1, by go_num, by omega, Lib.hid (by rw [HT.out, mks_snoc]; exact HF2.out)⟩
      case measure => simp [intOf]; omega
    · have HE : Hid (l.take k = l) := Lib.hid (List.take_of_length_le (by omega))
      rw [HE.out] at HN
      have HS0 := Lib.hid (Sw.start (hd := fun _ _ => 4) (f0 := 1) HN.out (seed1_len g.length l) HB2.out)
      clear HN HE HP HC HL
      go_wp2_with fail
      go_loopg [10] (g.length) (fun B ov wr => ∃ ms qv q, Hid (Sw (fun _ _ => 4) 1 (fun x i => Dag.bit (seed1 g.length l) x i = true) g w.heap.size (w1.heap.size + 1) (w1.heap.size) gv qv q B ms ov w wr))
      case atStart => obtain ⟨qv, q, hs⟩ := HS0.out; exact ⟨_, qv, q, Lib.hid hs⟩
      case round =>
        obtain ⟨ms, qv, q, HS⟩ := hrel
        by_cases hq : q = []
        · subst hq
          have HE := Lib.hid (empty_any w.heap.size (w1.heap.size + 1) (w1.heap.size) gk gv qv [] ms true (by simp) wr HS.out.pt)
          obtain ⟨hf, ho, hb⟩ := HS.out.done
          have HR := Lib.hid (reverse_any w.heap.size _ _ wr ho (by have := Dag.filtN_len (p := Dag.em 1 ms) g.length; rw [List.length_reverse]; omega))
          have HX := Lib.hid (HF.out ms hf)
          have HB2 := Lib.hid hb
          clear hf ho hb HS
          go_wp2_with (first
            | (go_at_call 71; go_must (refine HE.out.mono ?_; rintro e w' ⟨rfl, rfl⟩))
            | (go_at_call 74; go_must (refine HR.out.mono ?_; rintro e w5 ⟨rfl, hr⟩; have HR2 := Lib.hid hr; clear hr)))
          go_ret2
          refine ⟨_, rfl, ?_, HB2.out.trans HR2.out.2⟩
          rw [← HX.out]
          have := HR2.out.1
          rwa [List.reverse_reverse] at this
        · obtain ⟨n, hn, hnB, hnl, hbit, hmax⟩ := HS.out.pt.top hq
          have hnl2 : n < g.length := by rw [HS.out.fix.len] at hnl; exact hnl
          have HE := Lib.hid (empty_any w.heap.size (w1.heap.size + 1) (w1.heap.size) gk gv qv q ms false (by simp [hq]) wr HS.out.pt)
          have HC := Lib.hid (next_any w.heap.size (w1.heap.size + 1) (w1.heap.size) gk n gv qv q ms wr HS.out.pt hq hn)
          have HBit := Lib.hid hbit
          have HMax := Lib.hid hmax
          have hfl := Dag.fl_lt ms n
          obtain ⟨f, HFl⟩ : ∃ f, Hid (Dag.fl ms n = f) := ⟨_, Lib.hid rfl⟩
          rw [HFl.out] at HC hfl
          clear hn hbit hmax hq
          by_cases hf1 : f = 1
          · have hb1 : ((f : Int) == 1) = true := by simp; omega
            have hb2 : (f == 1) = true := by simp; omega

            have HF1 := Lib.hid hf1
            have HD1 : Hid ((fun _ _ => 4 : Nat → Nat → Nat) n f = 4) := Lib.hid rfl
            clear hf1
            go_wp2_with (first
              | (go_at_call 71; go_must (refine HE.out.mono ?_; rintro e w' ⟨rfl, rfl⟩))
              | (go_at_call 72; go_must (refine HC.out.mono ?_; rintro e w5 ⟨rfl, hr⟩; obtain ⟨qv1, q1, p1, o1, a1, b1⟩ := HS.out.next hr; have HPt0 := Lib.hid p1; have HO1 := Lib.hid o1; have HA1 := Lib.hid a1; have HB1 := Lib.hid b1; clear hr p1 o1 a1 b1))
              | (at_builtin; go_must (refine wpList_append1 rfl (en := eInt) (s := 1) (base := w.heap.size) (e := 3) _ _ 23 rfl (.int .i64 0) 8 Try.underlying23 info3 rfl (by decide) len_eInt one_eInt u10 _ _ n rfl (HO1.out.alloc _) rfl (Sl.fresh len_eInt rfl rfl rfl (by simp [maxLen])) (by have := Dag.told_len (Dag.em 1 ms) gk g.length; simp only [maxLen]; omega) (by have := Dag.told_len (Dag.em 1 ms) gk g.length; omega) (by have := HB1.out.size; simp; omega) ?_; intro ov' w6 hown hgr hbel hblk; have HP2 := Lib.hid (HPt0.out.append HO1.out HA1.out _ hgr (by simpa using hblk)); have HPt := Lib.hid HP2.out.1; have HO2 := Lib.hid hown; have HB6 := Lib.hid ((HB1.out.alloc HB1.out.size _).trans hbel); clear hown hgr hbel hblk))
              | (go_at_call 73; go_must (refine (hand_any w.heap.size (w1.heap.size + 1) (w1.heap.size) n (4) _ _ rfl rfl gv qv1 q1 ms w _ es g hG HG.out HB6.out (Nat.le_refl _) HPt.out hnl2 (by rw [HS.out.fix.len]) (by omega)).mono ?_; rintro e w7 ⟨rfl, hr⟩; have HH := Lib.hid hr; clear hr)))
            go_roundg n
            case measure => exact hnB
            case rel =>
              obtain ⟨qv3, q3, hs⟩ := HS.out.fin HG.out hnB hnl2 HBit.out HMax.out (L := _ ++ [(n : Int)]) (by rw [if_pos (by rw [HFl.out, HF1.out])]) HO2.out HP2.out.2 HB6.out HPt.out HH.out
              exact ⟨_, qv3, q3, Lib.hid hs⟩
          · have hb1 : ((f : Int) == 1) = false := by simp; omega
            have hb2 : (f == 1) = false := by simp; omega
            have HF1 := Lib.hid hf1
            have HD1 : Hid ((fun _ _ => 4 : Nat → Nat → Nat) n f = 4) := Lib.hid rfl
            clear hf1
            go_wp2_with (first
              | (go_at_call 71; go_must (refine HE.out.mono ?_; rintro e w' ⟨rfl, rfl⟩))
              | (go_at_call 72; go_must (refine HC.out.mono ?_; rintro e w5 ⟨rfl, hr⟩; obtain ⟨qv1, q1, p1, o1, a1, b1⟩ := HS.out.next hr; have HPt := Lib.hid p1; have HO1 := Lib.hid o1; have HA1 := Lib.hid a1; have HB6 := Lib.hid b1; clear hr p1 o1 a1 b1))
              | (go_at_call 73; go_must (refine (hand_any w.heap.size (w1.heap.size + 1) (w1.heap.size) n (4) _ _ rfl rfl gv qv1 q1 ms w _ es g hG HG.out HB6.out (Nat.le_refl _) HPt.out hnl2 (by rw [HS.out.fix.len]) (by omega)).mono ?_; rintro e w7 ⟨rfl, hr⟩; have HH := Lib.hid hr; clear hr)))
            go_roundg n
            case measure => exact hnB
            case rel =>
              obtain ⟨qv3, q3, hs⟩ := HS.out.fin HG.out hnB hnl2 HBit.out HMax.out (by rw [if_neg (by rw [HFl.out]; exact HF1.out)]) HO1.out HA1.out HB6.out HPt.out HH.out
              exact ⟨_, qv3, q3, Lib.hid hs⟩
end Go.Proofs.Ytcpmnocknpalfaa
