/-
  Layer 14: Is: is a node another one's ancestor? No condition besides what the arguments are.
-/
import Derived.Test.YtcpmnocknpalfaaH11
import Derived.Test.YtcpmnocknpalfaaG7
namespace Go.Proofs.Ytcpmnocknpalfaa
open Go.RowKit Go.Sl
set_option linter.unusedVariables false

structure Si (g : List Nd) (a b base pb mb : Nat) (gv qv : Value) (q : List Int) (B : Nat) (ms : List Nat) (nv : Value) (w wr : World) : Prop where
  pt : Pt base pb mb gv qv q B ms wr
  fix : Dag.Fix (Dag.prI g a) (fun _ _ => 1) (Dag.SeedI g.length b) g.length B ms
  own : Own eInt 1 base 3 wr nv (Dag.gensL g)
  apart : Apart nv qv
  bel : Below base w wr
  le : B ≤ g.length
  ha : a < B ∨ Dag.bit ms a 3 = false

theorem Si.keep {g : List Nd} {a b base pb mb : Nat} {gv qv : Value} {q : List Int} {B : Nat} {ms : List Nat} {nv : Value} {w wr : World} (s : Si g a b base pb mb gv qv q B ms nv w wr) {n : Nat} {w1 : World} (h : PtN base pb mb gv qv n ms wr w1) :
    ∃ qv1 q1, Pt base pb mb gv qv1 q1 n ms w1 ∧ Own eInt 1 base 3 w1 nv (Dag.gensL g) ∧ Apart nv qv1 ∧ Below base w w1 := by
  obtain ⟨qv1, q1, k1, k2, k3⟩ := h
  obtain ⟨o1, o2⟩ := k2 _ _ s.own s.apart
  exact ⟨qv1, q1, k1, o1, o2, s.bel.trans k3⟩

theorem Pt.mono {base base' pb mb B : Nat} {gv qv : Value} {q : List Int} {ms : List Nat} {w : World} (h : Pt base pb mb gv qv q B ms w) (hb : base' ≤ base) : Pt base' pb mb gv qv q B ms w :=
  ⟨Nat.le_trans hb h.hpb, Nat.le_trans hb h.hmb, h.blk, h.mks, h.own.mono hb, h.heap, h.nodup, h.mem, h.small, h.len⟩

/-- on, behind a node that is not the one: ms' are the marks behind it -/
theorem Si.fin {g : List Nd} (hg : Dag.okG g) {a b base pb mb : Nat} {gv qv : Value} {q : List Int} {B : Nat} {ms ms' : List Nat} {nv : Value} {w wr : World} (s : Si g a b base pb mb gv qv q B ms nv w wr) {n : Nat} (hn : n < B) (hq : Dag.bit ms n 3 = true) (hm : ∀ m, n < m → m < B → Dag.bit ms m 3 = false) (hna : n ≠ a)
    (hms : ms' = Dag.mks ms (Dag.prI g a n) 1) {qv1 : Value} {w2 w3 : World} (own2 : Own eInt 1 base 3 w2 nv (Dag.gensL g)) (ap2 : Apart nv qv1) (b2 : Below base w w2) (h3 : PtN base pb mb gv qv1 n ms' w2 w3) : ∃ qv' q', Si g a b base pb mb gv qv' q' n ms' nv w w3 := by
  obtain ⟨qv', q', k1, k2, k3⟩ := h3
  obtain ⟨o1, o2⟩ := k2 _ _ own2 ap2
  have hlt := Dag.prI_lt hg a
  subst hms
  refine ⟨qv', q', k1, s.fix.next hlt hn (by have := s.le; omega) hq hm, o1, o2, b2.trans k3, by have := s.le; omega, ?_⟩
  by_cases h : a < n
  · exact .inl h
  · right
    have e : Dag.bit (Dag.mks ms (Dag.prI g a n) 1) a 3 = Dag.bit ms a 3 := by
      unfold Dag.bit
      rw [Dag.mks_getD_ne _ (fun hx => by have := hlt _ _ hx; omega)]
    rw [e]
    rcases s.ha with h1 | h1
    · exact hm a (by omega) h1
    · exact h1

theorem is_bad (gv : Value) (a b : Int) (w : World) (es : List (SlV × Int)) (g : List Nd) (c : Nat) (hc : Dag.nodes g [a, b] = c) (h0 : c ≠ 0) (hG : Gr w gv es g) :
    Calls Try.prog 27 #[gv, .int .i64 a, .int .i64 b] w fun e w' => e = .returned (.tuple #[.bool false, .int .i64 (c : Nat)]) ∧ Below w.heap.size w w' := by
  have HC := Lib.hid (nodes_any gv (.slice (some ⟨w.heap.size, 0, none⟩) 2 2) (w.alloc (.cells #[.int .i64 a, .int .i64 b] 3)) es g [a, b] c hc (hG.ext ((Below.refl _ _).alloc (Nat.le_refl _) _)) (Sl.fresh len_eInt rfl rfl rfl (by simp [maxLen])))
  have d1 : ((c : Int) != 0) = true := by simp; omega
  have d2 : (c != 0) = true := by simp; omega
  clear hc h0
  go_enter Try.func27, Try.ntmps27
  go_wp2_with (go_at_call 68; go_must (refine HC.out.mono ?_; rintro e w1 ⟨rfl, hb⟩; have HB := Lib.hid hb; clear hb))
  go_ret2
  exact ⟨rfl, ((Below.refl _ _).alloc (Nat.le_refl _) _).trans (HB.out.mono (by simp))⟩

theorem own_len {base : Nat} {w : World} {v : Value} {l : List Int} (h : Own eInt 1 base 3 w v l) (hl : 0 < l.length) : ∃ gg cap, v = .slice (some ⟨gg, 0, none⟩) l.length cap := by
  obtain ⟨gg, cap, _, e, _⟩ := h.block (List.length_pos_iff.1 hl)
  exact ⟨gg, cap, e⟩

set_option maxRecDepth 100000 in
set_option maxHeartbeats 1000000 in
theorem is_ok (gv : Value) (av bv : Int) (a b : Nat) (hav : av = a) (hbv : bv = b) (w : World) (es : List (SlV × Int)) (g : List Nd) (hg : Dag.okG g) (ha : a < g.length) (hb : b < g.length) (hG : Gr w gv es g) (t : Bool) (ht : Dag.tt (Dag.Anc (Dag.par g) b a) = t) :
    Calls Try.prog 27 #[gv, .int .i64 av, .int .i64 bv] w fun e w' => e = .returned (.tuple #[.bool t, .int .i64 0]) ∧ Below w.heap.size w w' := by
  subst hav hbv
  have hin : Dag.inN g.length [(a : Int), (b : Int)] := fun x hx => by simp at hx; omega
  have HC := Lib.hid (nodes_any gv (.slice (some ⟨w.heap.size, 0, none⟩) 2 2) (w.alloc (.cells #[.int .i64 a, .int .i64 b] 3)) es g [(a : Int), (b : Int)] 0 (Dag.nodes_ok hg hin) (hG.ext ((Below.refl _ _).alloc (Nat.le_refl _) _)) (Sl.fresh len_eInt rfl rfl rfl (by simp [maxLen])))
  have hgl := hg.1
  have HG := Lib.hid hg
  have HT := Lib.hid ht
  have HNl : Hid ((Dag.gensL g).length = g.length) := Lib.hid (Dag.gensTo_len g _)
  clear hin hg ht
  go_enter Try.func27, Try.ntmps27
  go_wp2_with fail
  refine HC.out.mono ?_
  rintro e w1 ⟨rfl, hb1⟩
  have HB1 := Lib.hid (((Below.refl _ _).alloc (Nat.le_refl _) _).trans (hb1.mono (by simp)) : Below w.heap.size w w1)
  clear hb1
  go_wp2_with fail
  refine (gens_ok gv w1 es g HG.out (hG.ext HB1.out)).mono ?_
  rintro e w2 ⟨nv, rfl, ho, hb2⟩
  have HO2 := Lib.hid (ho.mono HB1.out.size)
  have HB2 := Lib.hid (HB1.out.trans (hb2.mono HB1.out.size))
  clear ho hb2
  go_wp2_with fail
  refine (start_any w2.heap.size gv w2 w2 es g (hG.ext HB2.out) HG.out (Nat.le_refl _)).mono ?_
  rintro e w3 ⟨rfl, hp, hb3⟩
  have HP := Lib.hid (hp.mono HB2.out.size)
  have HB3 := Lib.hid (HB2.out.trans (hb3.mono HB2.out.size))
  have HO3 := Lib.hid (HO2.out.ext hb3)
  clear hp hb3 HO2
  go_wp2_with fail
  refine (mark_any w.heap.size (w2.heap.size + 1) w2.heap.size g.length gv _ _ _ b 1 b 1 rfl rfl w3 HP.out (by rw [List.length_replicate]; exact hb) hb (by omega)).mono ?_
  rintro e w4 ⟨rfl, hm⟩
  obtain ⟨qv4, q4, p4, m4, b4⟩ := hm
  have hap : Apart nv (.slice none 0 0) := by
    rcases h : nv.ownBlock with _ | k
    · exact .inl h
    · right; rw [h]; simp [Value.ownBlock]
  have HS0 : Hid (Si g a b w.heap.size (w2.heap.size + 1) w2.heap.size gv qv4 q4 g.length (Dag.mk (List.replicate g.length 0) b 1) nv w w4) := Lib.hid (by
    obtain ⟨o1, o2⟩ := m4 _ _ HO3.out hap
    exact ⟨p4, Dag.Fix.start (by rw [Dag.mk_len, List.length_replicate]), o1, o2, HB3.out.trans b4, Nat.le_refl _, .inl ha⟩)
  obtain ⟨gg, cap, hnv⟩ := own_len HO3.out (by rw [HNl.out]; omega)
  rw [HNl.out] at hnv
  subst hnv
  obtain ⟨ga, HGa⟩ : ∃ ga, Hid (Hp.ge (Dag.gensL g) a = ga) := ⟨_, Lib.hid rfl⟩
  have HGa2 : Hid (Dag.gen g a = ga) := Lib.hid HGa.out
  clear p4 m4 b4 HP HC HB3 HO3 hap
  go_wp2_with fail
  go_loopg [] (g.length) (fun B wr => ∃ ms qv q, Hid (Si g a b w.heap.size (w2.heap.size + 1) w2.heap.size gv qv q B ms (.slice (some ⟨gg, 0, none⟩) g.length cap) w wr))
  case atStart => exact ⟨_, _, _, HS0⟩
  case round =>
    obtain ⟨ms, qv, q, HS⟩ := hrel
    by_cases hq : q = []
    · subst hq
      have HE := Lib.hid (empty_any w.heap.size (w2.heap.size + 1) w2.heap.size gk gv qv [] ms true (by simp) wr HS.out.pt)
      have hno : ∀ m, m < gk → Dag.bit ms m 3 = false := fun m hm => by
        cases e : Dag.bit ms m 3
        · rfl
        · have := (HS.out.pt.mem (m : Int)).2 ⟨m, hm, bit_lt e, e, rfl⟩
          simp at this
      have HF : Hid (t = false) := Lib.hid (by
        rw [← HT.out, Dag.tt_no]
        refine Dag.is_no HG.out hb ha (HS.out.fix.done hno) ?_
        rcases HS.out.ha with h | h
        · exact hno a h
        · exact h)
      have HB5 := Lib.hid HS.out.bel
      clear hno
      go_wp2_with (go_at_call 71; go_must (refine HE.out.mono ?_; rintro e w' ⟨rfl, rfl⟩))
      go_ret2
      exact ⟨by rw [HF.out]; rfl, HB5.out⟩
    · obtain ⟨n, hn, hnB, hnl, hbit, hmax⟩ := HS.out.pt.top hq
      have hnl2 : n < g.length := by rw [HS.out.fix.len] at hnl; exact hnl
      have HE := Lib.hid (empty_any w.heap.size (w2.heap.size + 1) w2.heap.size gk gv qv q ms false (by simp [hq]) wr HS.out.pt)
      have HCn := Lib.hid (next_any w.heap.size (w2.heap.size + 1) w2.heap.size gk n gv qv q ms wr HS.out.pt hq hn)
      have HBit := Lib.hid hbit
      have HMax := Lib.hid hmax
      obtain ⟨f, HFl⟩ : ∃ f, Hid (Dag.fl ms n = f) := ⟨_, Lib.hid rfl⟩
      rw [HFl.out] at HCn
      clear hn hbit hmax hq
      by_cases hna : n = a
      · subst hna
        have HF : Hid (t = true) := Lib.hid (by rw [← HT.out, Dag.tt_iff]; exact Dag.is_yes HG.out hb ha HS.out.fix HBit.out)
        have hb1 : ((n : Int) == n) = true := by simp
        go_wp2_with (first
          | (go_at_call 71; go_must (refine HE.out.mono ?_; rintro e w' ⟨rfl, rfl⟩))
          | (go_at_call 72; go_must (refine HCn.out.mono ?_; rintro e w5 ⟨rfl, hr⟩; obtain ⟨qv1, q1, p1, o1, a1, b1⟩ := HS.out.keep hr; have HB6 := Lib.hid b1; clear hr p1 o1 a1 b1)))
        go_ret2
        exact ⟨by rw [HF.out]; rfl, HB6.out⟩
      · have hb1 : ((n : Int) == a) = false := by simp; omega
        have hb2 : (n == a) = false := by simp; omega
        obtain ⟨gn, HGn⟩ : ∃ gn, Hid (Hp.ge (Dag.gensL g) n = gn) := ⟨_, Lib.hid rfl⟩
        have HGn2 : Hid (Dag.gen g n = gn) := Lib.hid HGn.out
        have HNa := Lib.hid hna
        clear hna
        by_cases hgt : a < n
        · by_cases hgg : ga < gn
          · have HPr : Hid (Dag.prI g a n = Dag.par g n) := Lib.hid (by unfold Dag.prI; rw [if_pos ⟨hgt, by rw [HGa2.out, HGn2.out]; exact hgg⟩])
            have d1 : decide (ga < gn) = true := decide_eq_true hgg
            have hgti : (a : Int) < (n : Int) := by omega
            go_wp2_with (first
              | (go_at_call 71; go_must (refine HE.out.mono ?_; rintro e w' ⟨rfl, rfl⟩))
              | (go_at_call 72; go_must (refine HCn.out.mono ?_; rintro e w5 ⟨rfl, hr⟩; have HR := Lib.hid hr; obtain ⟨qv1, q1, p1, o1, a1, b1⟩ := HS.out.keep hr; have HPt := Lib.hid p1; have HO1 := Lib.hid o1; have HA1 := Lib.hid a1; have HB6 := Lib.hid b1; clear hr p1 o1 a1 b1; obtain ⟨hg1, -, -, hcell⟩ := own_cells (by have := HO1.out; exact this); obtain ⟨cn, -⟩ := hcell n (by rw [HNl.out]; exact hnl2); obtain ⟨ca, -⟩ := hcell a (by rw [HNl.out]; exact ha); clear hcell; rw [HGn.out] at cn; rw [HGa.out] at ca)))
            go_quiet (fail)
            go_wp2_with (go_at_call 73; go_must (refine (hand_any w.heap.size (w2.heap.size + 1) w2.heap.size n 1 _ _ rfl rfl gv qv1 q1 ms w _ es g hG HG.out (below_drewN HB6.out _) (Nat.le_refl _) (HPt.out.drewN _) hnl2 (by rw [HS.out.fix.len]) (by omega)).mono ?_; rintro e w7 ⟨rfl, hr⟩; have HH := Lib.hid hr; clear hr))
            go_roundg n
            case measure => exact hnB
            case rel =>
              obtain ⟨qv3, q3, hs⟩ := HS.out.fin HG.out hnB HBit.out HMax.out HNa.out rfl (w2 := w5.drewN nq) HO1.out HA1.out (below_drewN HB6.out _) (by rw [HPr.out]; exact HH.out)
              exact ⟨_, qv3, q3, Lib.hid hs⟩
          · have HPr : Hid (ms = Dag.mks ms (Dag.prI g a n) 1) := Lib.hid (by unfold Dag.prI; rw [if_neg (by rw [HGa2.out, HGn2.out]; omega)]; rfl)
            have d1 : decide (ga < gn) = false := decide_eq_false hgg
            have hgg2 : gn ≤ ga := by omega
            have hgti : (a : Int) < (n : Int) := by omega
            clear hgg
            go_wp2_with (first
              | (go_at_call 71; go_must (refine HE.out.mono ?_; rintro e w' ⟨rfl, rfl⟩))
              | (go_at_call 72; go_must (refine HCn.out.mono ?_; rintro e w5 ⟨rfl, hr⟩; have HR := Lib.hid hr; obtain ⟨qv1, q1, p1, o1, a1, b1⟩ := HS.out.keep hr; have HPt := Lib.hid p1; have HO1 := Lib.hid o1; have HA1 := Lib.hid a1; have HB6 := Lib.hid b1; clear hr p1 o1 a1 b1; obtain ⟨hg1, -, -, hcell⟩ := own_cells (by have := HO1.out; exact this); obtain ⟨cn, -⟩ := hcell n (by rw [HNl.out]; exact hnl2); obtain ⟨ca, -⟩ := hcell a (by rw [HNl.out]; exact ha); clear hcell; rw [HGn.out] at cn; rw [HGa.out] at ca)))
            go_quiet (fail)
            go_wp2_with fail
            go_roundg n
            case measure => exact hnB
            case rel =>
              obtain ⟨qv3, q3, hs⟩ := HS.out.fin HG.out hnB HBit.out HMax.out HNa.out HPr.out HO1.out HA1.out HB6.out ⟨qv1, q1, HPt.out.drewN nq, fun v l a b => ⟨a.ext (below_drewN (Below.refl _ _) nq), b⟩, below_drewN (Below.refl _ _) nq⟩
              exact ⟨_, qv3, q3, Lib.hid hs⟩
        · have HPr : Hid (ms = Dag.mks ms (Dag.prI g a n) 1) := Lib.hid (by unfold Dag.prI; rw [if_neg (by omega)]; rfl)
          have hgti : decide ((a : Int) < (n : Int)) = false := decide_eq_false (by omega)
          have hgti2 : decide (a < n) = false := decide_eq_false (by omega)
          clear hgt
          go_wp2_with (first
            | (go_at_call 71; go_must (refine HE.out.mono ?_; rintro e w' ⟨rfl, rfl⟩))
            | (go_at_call 72; go_must (refine HCn.out.mono ?_; rintro e w5 ⟨rfl, hr⟩; have HR := Lib.hid hr; obtain ⟨qv1, q1, p1, o1, a1, b1⟩ := HS.out.keep hr; have HPt := Lib.hid p1; have HO1 := Lib.hid o1; have HA1 := Lib.hid a1; have HB6 := Lib.hid b1; clear hr p1 o1 a1 b1; obtain ⟨hg1, -, -, hcell⟩ := own_cells (by have := HO1.out; exact this); obtain ⟨cn, -⟩ := hcell n (by rw [HNl.out]; exact hnl2); obtain ⟨ca, -⟩ := hcell a (by rw [HNl.out]; exact ha); clear hcell; rw [HGn.out] at cn; rw [HGa.out] at ca)))
          go_quiet (fail)
          go_wp2_with fail
          go_roundg n
          case measure => exact hnB
          case rel =>
            obtain ⟨qv3, q3, hs⟩ := HS.out.fin HG.out hnB HBit.out HMax.out HNa.out HPr.out HO1.out HA1.out HB6.out ⟨qv1, q1, HPt.out.drewN nq, fun v l a b => ⟨a.ext (below_drewN (Below.refl _ _) nq), b⟩, below_drewN (Below.refl _ _) nq⟩
            exact ⟨_, qv3, q3, Lib.hid hs⟩
end Go.Proofs.Ytcpmnocknpalfaa
