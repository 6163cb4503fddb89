/-
  Layer 14: Bases: where two nodes' ancestors meet. No condition besides what the arguments are.
-/
import Derived.Test.YtcpmnocknpalfaaH8
namespace Go.Proofs.Ytcpmnocknpalfaa
open Go.RowKit Go.Sl

theorem inN_one {N : Nat} {a : Int} (h : 0 ≤ a ∧ a < N) : Dag.inN N [a] := fun x hx => by simp at hx; subst hx; exact h
theorem seed2_lt {N : Nat} {l m : List Int} : ∀ x b, Dag.bit (seed2 N l m) x b = true → x < N := fun x b h => by have := bit_lt h; rwa [seed2_len] at this

theorem bases_fin {g : List Nd} (hg : Dag.okG g) {a b : Nat} (ha : a < g.length) (hb : b < g.length) {ms : List Nat}
    (h : Dag.Fix (Dag.par g) (fun _ f => if f = 3 then 7 else f) (fun x i => Dag.bit (seed2 g.length [(a : Int)] [(b : Int)]) x i = true) g.length 0 ms) : Dag.filtN (Dag.em 3 ms) g.length = Dag.baseL g a b := by
  unfold Dag.baseL
  refine Dag.filtN_congr fun x hx => ?_
  have hbit := seed2_bit (N := g.length) (l := [(a : Int)]) (m := [(b : Int)]) (inN_one (by omega)) (inN_one (by omega))
  have hs : ∀ x i, Dag.bit (seed2 g.length [(a : Int)] [(b : Int)]) x i = true ↔ (x = a ∧ (i = 0 ∨ i = 3)) ∨ (x = b ∧ (i = 1 ∨ i = 3)) := fun x i => by
    rw [hbit]; simp [Dag.nn]; omega
  have key := h.bases (Dag.par_lt hg) ha hb hs x hx
  rw [Bool.eq_iff_iff, Dag.tt_iff]
  show _ ↔ (_ ∧ _) ∧ _
  rw [← key]
  unfold Dag.em
  simp only [Bool.and_eq_true, beq_iff_eq]
  constructor
  · exact fun h => h.2
  · intro h2
    refine ⟨?_, h2⟩
    have : Dag.bit ms x 0 = true := by
      have e := Dag.fl_bit ms x 0
      rw [h2] at e
      simpa using e.symm
    refine h.bit3 (fun x i hi => ?_) hx this
    rw [hs] at hi ⊢
    omega

set_option maxRecDepth 100000 in
set_option maxHeartbeats 1000000 in
theorem bases_bad (gv : Value) (a b : Int) (w : World) (es : List (SlV × Int)) (g : List Nd) (c : Nat) (hc : Dag.nodes g [a, b] = c) (h0 : c ≠ 0) (hG : Gr w gv es g) :
    Calls Try.prog 16 #[gv, .int .i64 a, .int .i64 b] w fun e w' => e = .returned (.tuple #[.slice none 0 0, .int .i64 (c : Nat)]) ∧ Below w.heap.size w w' := by
  have HC := Lib.hid (nodes_any gv (.slice (some ⟨w.heap.size, 0, none⟩) 2 2) (w.alloc (.cells #[.int .i64 a, .int .i64 b] 3)) es g [a, b] c hc (hG.ext ((Below.refl _ _).alloc (Nat.le_refl _) _)) (Sl.fresh len_eInt rfl rfl rfl (by simp [maxLen])))
  have d1 : ((c : Int) != 0) = true := by simp; omega
  have d2 : (c != 0) = true := by simp; omega
  clear hc h0
  go_enter Try.func16, Try.ntmps16
  go_wp2_with (go_at_call 68; go_must (refine HC.out.mono ?_; rintro e w1 ⟨rfl, hb⟩; have HB := Lib.hid hb; clear hb))
  go_ret2
  exact ⟨rfl, ((Below.refl _ _).alloc (Nat.le_refl _) _).trans (HB.out.mono (by simp))⟩

set_option maxRecDepth 100000 in
set_option maxHeartbeats 1000000 in
theorem bases_ok (gv : Value) (av bv : Int) (a b : Nat) (hav : av = a) (hbv : bv = b) (w : World) (es : List (SlV × Int)) (g : List Nd) (hg : Dag.okG g) (ha : a < g.length) (hb : b < g.length) (hG : Gr w gv es g) :
    Calls Try.prog 16 #[gv, .int .i64 av, .int .i64 bv] w (ListOk w.heap.size (Dag.baseL g a b) w) := by
  subst hav hbv
  have hin : Dag.inN g.length [(a : Int), (b : Int)] := fun x hx => by simp at hx; omega
  have HC := Lib.hid (nodes_any gv (.slice (some ⟨w.heap.size, 0, none⟩) 2 2) (w.alloc (.cells #[.int .i64 a, .int .i64 b] 3)) es g [(a : Int), (b : Int)] 0 (Dag.nodes_ok hg hin) (hG.ext ((Below.refl _ _).alloc (Nat.le_refl _) _)) (Sl.fresh len_eInt rfl rfl rfl (by simp [maxLen])))
  have hgl := hg.1
  have HG := Lib.hid hg
  have HF := Lib.hid (fun ms => bases_fin (ms := ms) hg ha hb)
  clear hin hg
  go_enter Try.func16, Try.ntmps16
  go_wp2_with fail
  refine HC.out.mono ?_
  rintro e w1 ⟨rfl, hb1⟩
  have HB1 := Lib.hid (((Below.refl _ _).alloc (Nat.le_refl _) _).trans (hb1.mono (by simp)) : Below w.heap.size w w1)
  clear hb1
  go_wp2_with fail
  refine (start_any w.heap.size gv w1 w1 es g (hG.ext HB1.out) HG.out HB1.out.size).mono ?_
  rintro e w2 ⟨rfl, hp, hb2⟩
  have HP := Lib.hid hp
  have HB2 := Lib.hid (HB1.out.trans hb2)
  clear hp hb2
  go_wp2_with fail
  refine (mark_any w.heap.size (w1.heap.size + 1) w1.heap.size g.length gv _ _ _ a 1 a 1 rfl rfl w2 HP.out (by rw [List.length_replicate]; exact ha) ha (by omega)).mono ?_
  rintro e w3 ⟨rfl, hm⟩
  obtain ⟨qv1, q1, p1, m1, b1⟩ := hm
  have HP1 := Lib.hid p1
  have HM1 := Lib.hid m1
  have HB3 := Lib.hid b1
  clear p1 m1 b1
  go_wp2_with fail
  refine (mark_any w.heap.size (w1.heap.size + 1) w1.heap.size g.length gv _ _ _ b 2 b 2 rfl rfl w3 HP1.out (by rw [Dag.mk_len, List.length_replicate]; exact hb) hb (by omega)).mono ?_
  rintro e w4 ⟨rfl, hm⟩
  have HN : Hid (PtN w.heap.size (w1.heap.size + 1) w1.heap.size gv (.slice none 0 0) g.length (seed2 g.length [(a : Int)] [(b : Int)]) w2 w4) := Lib.hid (PtN.trans HM1.out HB3.out hm)
  have HS0 := Lib.hid (Sw.start (hd := fun _ f => if f = 3 then 7 else f) (f0 := 3) HN.out (seed2_len g.length [(a : Int)] [(b : Int)]) HB2.out)
  clear hm HN HP1 HM1 HB3 HP HC
  go_wp2_with fail
  go_loopg [10] (g.length) (fun B ov wr => ∃ ms qv q, Hid (Sw (fun _ f => if f = 3 then 7 else f) 3 (fun x i => Dag.bit (seed2 g.length [(a : Int)] [(b : Int)]) x i = true) g w.heap.size (w1.heap.size + 1) (w1.heap.size) gv qv q B ms ov w wr))
  case atStart => obtain ⟨qv, q, hs⟩ := HS0.out; exact ⟨_, qv, q, Lib.hid hs⟩
  case round =>
    obtain ⟨ms, qv, q, HS⟩ := hrel
    by_cases hq : q = []
    · subst hq
      have HE := Lib.hid (empty_any w.heap.size (w1.heap.size + 1) (w1.heap.size) gk gv qv [] ms true (by simp) wr HS.out.pt)
      obtain ⟨hf, ho, hb⟩ := HS.out.done
      have HR := Lib.hid (reverse_any w.heap.size _ _ wr ho (by have := Dag.filtN_len (p := Dag.em 3 ms) g.length; rw [List.length_reverse]; omega))
      have HX := Lib.hid (HF.out ms hf)
      have HB2 := Lib.hid hb
      clear hf ho hb HS
      go_wp2_with (first
        | (go_at_call 71; go_must (refine HE.out.mono ?_; rintro e w' ⟨rfl, rfl⟩))
        | (go_at_call 74; go_must (refine HR.out.mono ?_; rintro e w5 ⟨rfl, hr⟩; have HR2 := Lib.hid hr; clear hr)))
      go_ret2
      refine ⟨_, rfl, ?_, HB2.out.trans HR2.out.2⟩
      rw [← HX.out]
      have := HR2.out.1
      rwa [List.reverse_reverse] at this
    · obtain ⟨n, hn, hnB, hnl, hbit, hmax⟩ := HS.out.pt.top hq
      have hnl2 : n < g.length := by rw [HS.out.fix.len] at hnl; exact hnl
      have HE := Lib.hid (empty_any w.heap.size (w1.heap.size + 1) (w1.heap.size) gk gv qv q ms false (by simp [hq]) wr HS.out.pt)
      have HC := Lib.hid (next_any w.heap.size (w1.heap.size + 1) (w1.heap.size) gk n gv qv q ms wr HS.out.pt hq hn)
      have HBit := Lib.hid hbit
      have HMax := Lib.hid hmax
      have hfl := Dag.fl_lt ms n
      obtain ⟨f, HFl⟩ : ∃ f, Hid (Dag.fl ms n = f) := ⟨_, Lib.hid rfl⟩
      rw [HFl.out] at HC hfl
      clear hn hbit hmax hq
      by_cases hf1 : f = 3
      · have hb1 : ((f : Int) == 3) = true := by simp; omega
        have hb2 : (f == 3) = true := by simp; omega
        have e7 : bits .or .u8 (f : Int) 4 = 7 := by rw [hf1]; decide +kernel
        have HF1 := Lib.hid hf1
        have HD1 : Hid ((fun _ f => if f = 3 then 7 else f : Nat → Nat → Nat) n f = 7) := Lib.hid (by simp [hf1])
        clear hf1
        go_wp2_with (first
          | (go_at_call 71; go_must (refine HE.out.mono ?_; rintro e w' ⟨rfl, rfl⟩))
          | (go_at_call 72; go_must (refine HC.out.mono ?_; rintro e w5 ⟨rfl, hr⟩; obtain ⟨qv1, q1, p1, o1, a1, b1⟩ := HS.out.next hr; have HPt0 := Lib.hid p1; have HO1 := Lib.hid o1; have HA1 := Lib.hid a1; have HB1 := Lib.hid b1; clear hr p1 o1 a1 b1))
          | (at_builtin; go_must (refine wpList_append1 rfl (en := eInt) (s := 1) (base := w.heap.size) (e := 3) _ _ 23 rfl (.int .i64 0) 8 Try.underlying23 info3 rfl (by decide) len_eInt one_eInt u10 _ _ n rfl (HO1.out.alloc _) rfl (Sl.fresh len_eInt rfl rfl rfl (by simp [maxLen])) (by have := Dag.told_len (Dag.em 3 ms) gk g.length; simp only [maxLen]; omega) (by have := Dag.told_len (Dag.em 3 ms) gk g.length; omega) (by have := HB1.out.size; simp; omega) ?_; intro ov' w6 hown hgr hbel hblk; have HP2 := Lib.hid (HPt0.out.append HO1.out HA1.out _ hgr (by simpa using hblk)); have HPt := Lib.hid HP2.out.1; have HO2 := Lib.hid hown; have HB6 := Lib.hid ((HB1.out.alloc HB1.out.size _).trans hbel); clear hown hgr hbel hblk))
          | (go_at_call 73; go_must (refine (hand_any w.heap.size (w1.heap.size + 1) (w1.heap.size) n (7) _ _ rfl rfl gv qv1 q1 ms w _ es g hG HG.out HB6.out (Nat.le_refl _) HPt.out hnl2 (by rw [HS.out.fix.len]) (by omega)).mono ?_; rintro e w7 ⟨rfl, hr⟩; have HH := Lib.hid hr; clear hr)))
        go_roundg n
        case measure => exact hnB
        case rel =>
          obtain ⟨qv3, q3, hs⟩ := HS.out.fin HG.out hnB hnl2 HBit.out HMax.out (L := _ ++ [(n : Int)]) (by rw [if_pos (by rw [HFl.out, HF1.out])]) HO2.out HP2.out.2 HB6.out HPt.out (by rw [HFl.out, HD1.out]; exact HH.out)
          exact ⟨_, qv3, q3, Lib.hid hs⟩
      · have hb1 : ((f : Int) == 3) = false := by simp; omega
        have hb2 : (f == 3) = false := by simp; omega
        have HF1 := Lib.hid hf1
        have HD1 : Hid ((fun _ f => if f = 3 then 7 else f : Nat → Nat → Nat) n f = f) := Lib.hid (by simp [hf1])
        clear hf1
        go_wp2_with (first
          | (go_at_call 71; go_must (refine HE.out.mono ?_; rintro e w' ⟨rfl, rfl⟩))
          | (go_at_call 72; go_must (refine HC.out.mono ?_; rintro e w5 ⟨rfl, hr⟩; obtain ⟨qv1, q1, p1, o1, a1, b1⟩ := HS.out.next hr; have HPt := Lib.hid p1; have HO1 := Lib.hid o1; have HA1 := Lib.hid a1; have HB6 := Lib.hid b1; clear hr p1 o1 a1 b1))
          | (go_at_call 73; go_must (refine (hand_any w.heap.size (w1.heap.size + 1) (w1.heap.size) n (f) _ _ rfl rfl gv qv1 q1 ms w _ es g hG HG.out HB6.out (Nat.le_refl _) HPt.out hnl2 (by rw [HS.out.fix.len]) (by omega)).mono ?_; rintro e w7 ⟨rfl, hr⟩; have HH := Lib.hid hr; clear hr)))
        go_roundg n
        case measure => exact hnB
        case rel =>
          obtain ⟨qv3, q3, hs⟩ := HS.out.fin HG.out hnB hnl2 HBit.out HMax.out (by rw [if_neg (by rw [HFl.out]; exact HF1.out)]) HO1.out HA1.out HB6.out HPt.out (by rw [HFl.out, HD1.out]; exact HH.out)
          exact ⟨_, qv3, q3, Lib.hid hs⟩
end Go.Proofs.Ytcpmnocknpalfaa
