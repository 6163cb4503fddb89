/-
  Layer 15: the youngest node taken out of the queue; whether it is empty. No condition besides what the queue is.
-/
import Derived.Test.YtcpmnocknpalfaaQ2
namespace Go.Proofs.Ytcpmnocknpalfaa
open Go.RowKit Go.Sl
set_option linter.unusedVariables false

/-- the younger child -/
theorem kid_all {K : Int → Int} {l : List Int} {i b : Nat} (h1 : 2 * i + 1 < l.length → Ord.leI K (Hp.ge l (2 * i + 1)) (Hp.ge l b)) (h2 : 2 * i + 2 < l.length → Ord.leI K (Hp.ge l (2 * i + 2)) (Hp.ge l b)) :
    ∀ c, 0 < c → c < l.length → (c - 1) / 2 = i → Ord.leI K (Hp.ge l c) (Hp.ge l b) := fun c h3 h4 h5 => by
  obtain rfl | rfl : c = 2 * i + 1 ∨ c = 2 * i + 2 := by omega
  · exact h1 h4
  · exact h2 h4
theorem leI_refl (K : Int → Int) (x : Int) : Ord.leI K x x := .inr ⟨rfl, Int.le_refl _⟩
theorem leI_tr' {K : Int → Int} {a b c : Int} (h1 : Ord.leI K a b) (h2 : Ord.leI K b c) : Ord.leI K a c := Ord.leI_tr K a b c h1 h2

set_option maxRecDepth 100000 in
set_option maxHeartbeats 2000000 in
theorem take_any (w0 : World) (cb : Nat) (bx : Value) (eb : TypeId) (he : eb ≠ 3 ∧ eb ≠ 117) (fv : Value) (K : Int → Int) (N : Nat) (hold : OldV w0 cb bx eb fv K N) (w : World) (hC0 : w.heap[cb]? = some (.cells #[bx] eb (0, 0))) (h0 : Below w0.heap.size w0 w) (pb : Nat) (qv : Value) (q : List Int) (hbp : w0.heap.size ≤ pb) (hp : w.heap[pb]? = some (.cells #[qv, fv] 117 (0, 0)))
    (ho : Own eInt 1 w0.heap.size 3 w qv q) (hh : Hp.hp (Ord.leI K) q) (hn : q.length < 1000) (hN : Dag.inN N q) (hne0 : q ≠ []) :
    Calls Try.prog 99 #[.pointer (some ⟨pb, 0, none⟩)] w fun e w' => e = .returned (.int .i64 (Hp.ge q 0)) ∧ QueueX w0.heap.size pb fv qv K (Hp.cut q) w w' := by
  obtain ⟨g, cap, _, rfl, -, -, hcap, -⟩ := ho.block hne0
  obtain ⟨y, r, rfl⟩ : ∃ y r, q = y :: r := by cases q with | nil => exact absurd rfl hne0 | cons y r => exact ⟨y, r, rfl⟩
  simp only [List.length_cons] at hn hcap ho hp ⊢
  have HQ : Hid (QX w0.heap.size pb fv (.slice (some ⟨g, 0, none⟩) (r.length + 1) cap) (.slice (some ⟨g, 0, none⟩) (r.length + 1) cap) (y :: r) w w) := Lib.hid ⟨hp, ho, Mv.refl _ _, Kt.refl _ _ _, Below.refl _ _, Ko.refl _⟩
  have HH := Lib.hid hh
  have HC0 := Lib.hid hC0
  have HE := Lib.hid he
  clear hC0 he
  have HN : Hid (Dag.inN N (Hp.cut (y :: r))) := Lib.hid (fun x hx => hN x ((Hp.cut_perm (l := y :: r) (by simp)).mem_iff.1 (List.mem_cons_of_mem _ hx)))
  clear hp ho hh hne0 hN
  obtain ⟨_, e3, _, f3, _⟩ := two_cells HQ.out.blk
  obtain ⟨hg1, hg2, -, hcell⟩ := own_cells HQ.out.own
  obtain ⟨ck, fk⟩ := hcell r.length (by simp)
  obtain ⟨cu, fu⟩ := hcell 0 (by simp)
  clear hcell
  have HD := Lib.hid (Hp.Down.start HH.out)
  have HL : Hid ((Hp.cut (y :: r)).length = r.length) := Lib.hid (Hp.cut_len (y :: r))
  obtain ⟨l0, hl0⟩ : ∃ l0, l0 = Hp.cut (y :: r) := ⟨_, rfl⟩
  rw [← hl0] at HD HL HN ⊢
  go_enter Try.func99, Try.ntmps99
  go_wp2_with fail
  go_quiet (fail)
  obtain ⟨wq, hwq⟩ : ∃ wq, wq = w.drewN nq := ⟨_, rfl⟩
  rw [← hwq]
  have HQa : Hid (QX w0.heap.size pb fv (.slice (some ⟨g, 0, none⟩) (r.length + 1) cap) (.slice (some ⟨g, 0, none⟩) (r.length + 1) cap) (y :: r) w wq) := Lib.hid (hwq ▸ HQ.out.drewN nq)
  clear hwq HQ e3 f3 hg1 ck fk cu fu
  obtain ⟨_, e3, _, f3, _⟩ := two_cells HQa.out.blk
  obtain ⟨hg1, -, -, hcell⟩ := own_cells HQa.out.own
  obtain ⟨ck, fk⟩ := hcell r.length (by simp)
  obtain ⟨cu, fu⟩ := hcell 0 (by simp)
  clear hcell
  have hpg : pb ≠ g := fun e => HQa.out.own.ne_elem HQa.out.blk (by decide) (by simp [Value.ownBlock, e])
  have hgp : g ≠ pb := fun e => hpg e.symm
  have HQ1 := HQa.out.put (i := 0) (by simp) (Hp.ge (y :: r) r.length)
  have h3 : QX w0.heap.size pb fv (.slice (some ⟨g, 0, none⟩) (r.length + 1) cap) (.slice (some ⟨g, 0, none⟩) r.length cap) (Hp.cut (y :: r)) w _ := HQ1.trunc hbp (m := r.length) (by simp)
  rw [← hl0] at h3
  have HQ2 := Lib.hid h3
  clear HQa HQ1 hl0 h3
  go_wp2_with fail
  go_region
  go_wp2_with fail
  go_loopw [5] (fun i wr => ∃ (k : Nat) (l : List Int), i = .int .i64 k ∧ k ≤ r.length ∧ Hid (l.length = r.length) ∧ Hid (Hp.Down (Ord.leI K) l k) ∧ Hid (l.Perm l0) ∧
    Hid (QX w0.heap.size pb fv (.slice (some ⟨g, 0, none⟩) (r.length + 1) cap) (.slice (some ⟨g, 0, none⟩) r.length cap) l w wr)) (fun i _ => r.length - (intOf i).toNat)
  case atStart => exact ⟨0, l0, rfl, by omega, HL, HD, Lib.hid (List.Perm.refl _), Lib.hid (HQ2.out.drewN 1)⟩
  case round =>
    obtain ⟨k, l, rfl, hk, HL, HD, HR, HQ⟩ := hrel
    have hNl := Lib.hid (inN_perm HR.out HN.out)
    by_cases hc1 : 2 * k + 1 < r.length
    · have hci : 2 * (k : Int) + 1 < (r.length : Int) := by omega
      by_cases hc2 : 2 * k + 2 < r.length
      · have hc2I : 2 * (k : Int) + 1 + 1 < (r.length : Int) := by omega
        have hC1 := hold wr (h0.trans HQ.out.bel) (HQ.out.kt cb _ eb HE.out.1 HE.out.2 HC0.out) pb _ l _ (2 * k + 1) (2 * k + 2) HQ.out.blk HQ.out.own (by rw [HL.out]; omega) (by rw [HL.out]; omega) hNl.out
        rw [show ((2 * k + 1 : Nat) : Int) = 2 * (k : Int) + 1 by omega, show ((2 * k + 2 : Nat) : Int) = 2 * (k : Int) + 1 + 1 by omega] at hC1
        cases hlt1 : Ord.ltB K (Hp.ge l (2 * k + 1)) (Hp.ge l (2 * k + 2)) with
        | true =>
          have hall := Lib.hid (kid_all (K := K) (l := l) (i := k) (b := 2 * k + 2) (fun _ => Ord.leI_lt hlt1) (fun _ => leI_refl _ _))
          rw [hlt1] at hC1
          clear hlt1
          have hbn : (2 * (k : Int) + 1 + 1).toNat = 2 * k + 2 := by omega
          have hbp0 : (0 : Int) ≤ 2 * (k : Int) + 1 + 1 := by omega
          have hbI : 2 * (k : Int) + 1 + 1 < (r.length : Int) := by omega
          have hbl : 2 * k + 2 < r.length := by omega
          have hC2 : ∀ n, Calls Try.prog 109 #[.pointer (some ⟨pb, 0, none⟩), .int .i64 k, .int .i64 (2 * (k : Int) + 1 + 1)] (wr.drewN n) fun e w' => e = .returned (.bool (Ord.ltB K (Hp.ge l k) (Hp.ge l (2 * k + 2)))) ∧ ∃ m, w' = (wr.drewN n).drewN m := fun n => by
            have h9 := hold (wr.drewN n) (h0.trans (HQ.out.drewN n).bel) ((HQ.out.drewN n).kt cb _ eb HE.out.1 HE.out.2 HC0.out) pb _ l _ k (2 * k + 2) (HQ.out.drewN n).blk (HQ.out.drewN n).own (by rw [HL.out]; omega) (by rw [HL.out]; omega) hNl.out
            rwa [show ((2 * k + 2 : Nat) : Int) = 2 * (k : Int) + 1 + 1 by omega] at h9
          cases hlt2 : Ord.ltB K (Hp.ge l k) (Hp.ge l (2 * k + 2)) with
          | false =>
            have HS := Lib.hid (HD.out.stop (fun c h1 h2 h3 => leI_tr' (hall.out c h1 h2 h3) (Ord.leI_of hlt2)))
            rw [hlt2] at hC2
            clear hlt2
            go_wp2_with fail
            refine hC1.mono ?_
            rintro e wa ⟨rfl, nd, rfl⟩
            go_wp2_with fail
            refine (hC2 _).mono ?_
            rintro e wb ⟨rfl, nd2, rfl⟩
            go_wp2_with fail
            go_ret
            exact ⟨rfl, _, l, HQ.out.drewN _, HS.out, HR.out⟩
          | true =>
            have HS := Lib.hid (HD.out.step (by rw [HL.out]; omega) (by rw [HL.out]; omega) (by omega) (by omega) (Ord.leI_lt hlt2) hall.out)
            rw [hlt2] at hC2
            clear hlt2
            go_wp2_with fail
            refine hC1.mono ?_
            rintro e wa ⟨rfl, nd, rfl⟩
            go_wp2_with fail
            refine (hC2 _).mono ?_
            rintro e wb ⟨rfl, nd2, rfl⟩
            obtain ⟨wq, hwq⟩ : ∃ wq, wq = (wr.drewN nd).drewN nd2 := ⟨_, rfl⟩
            rw [← hwq]
            have HQ2 : Hid (QX w0.heap.size pb fv (.slice (some ⟨g, 0, none⟩) (r.length + 1) cap) (.slice (some ⟨g, 0, none⟩) r.length cap) l w wq) := Lib.hid (hwq ▸ (HQ.out.drewN _).drewN _)
            clear hwq HQ hC2
            obtain ⟨_, e3, _, f3, _⟩ := two_cells HQ2.out.blk
            obtain ⟨hg1, -, -, hcell⟩ := own_cells HQ2.out.own
            obtain ⟨ck, fk⟩ := hcell k (by rw [HL.out]; omega)
            obtain ⟨cu, fu⟩ := hcell (2 * k + 2) (by rw [HL.out]; omega)
            clear hcell
            have HQ3 := Lib.hid (HQ2.out.swap (i := k) (j := 2 * k + 2) (by rw [HL.out]; omega) (by rw [HL.out]; omega))
            have HL3 : Hid ((Hp.swap l (2 * k + 2) k).length = r.length) := Lib.hid (by rw [Hp.swap_len, HL.out])
            have HR3 := Lib.hid ((Hp.swap_perm (l := l) (i := 2 * k + 2) (j := k) (by rw [HL.out]; omega) (by rw [HL.out]; omega)).trans HR.out)
            have HSw : Hid (Hp.swap l k (2 * k + 2) = Hp.swap l (2 * k + 2) k) := Lib.hid (hp_swap_comm _ _ _ (by omega))
            rw [HSw.out] at HQ3
            clear HQ2 HL HR hall HD
            go_wp2_with fail
            go_region
            go_wp2_with fail
            go_roundw
            case rel => exact ⟨2 * k + 2, _, by go_num, by omega, HL3, HS, HR3, Lib.hid (HQ3.out.drewN 1)⟩
            case measure => simp [intOf]; omega
        | false =>
          have hall := Lib.hid (kid_all (K := K) (l := l) (i := k) (b := 2 * k + 1) (fun _ => leI_refl _ _) (fun _ => Ord.leI_of hlt1))
          rw [hlt1] at hC1
          clear hlt1
          have hbn : (2 * (k : Int) + 1).toNat = 2 * k + 1 := by omega
          have hbp0 : (0 : Int) ≤ 2 * (k : Int) + 1 := by omega
          have hbI : 2 * (k : Int) + 1 < (r.length : Int) := by omega
          have hbl : 2 * k + 1 < r.length := by omega
          have hC2 : ∀ n, Calls Try.prog 109 #[.pointer (some ⟨pb, 0, none⟩), .int .i64 k, .int .i64 (2 * (k : Int) + 1)] (wr.drewN n) fun e w' => e = .returned (.bool (Ord.ltB K (Hp.ge l k) (Hp.ge l (2 * k + 1)))) ∧ ∃ m, w' = (wr.drewN n).drewN m := fun n => by
            have h9 := hold (wr.drewN n) (h0.trans (HQ.out.drewN n).bel) ((HQ.out.drewN n).kt cb _ eb HE.out.1 HE.out.2 HC0.out) pb _ l _ k (2 * k + 1) (HQ.out.drewN n).blk (HQ.out.drewN n).own (by rw [HL.out]; omega) (by rw [HL.out]; omega) hNl.out
            rwa [show ((2 * k + 1 : Nat) : Int) = 2 * (k : Int) + 1 by omega] at h9
          cases hlt2 : Ord.ltB K (Hp.ge l k) (Hp.ge l (2 * k + 1)) with
          | false =>
            have HS := Lib.hid (HD.out.stop (fun c h1 h2 h3 => leI_tr' (hall.out c h1 h2 h3) (Ord.leI_of hlt2)))
            rw [hlt2] at hC2
            clear hlt2
            go_wp2_with fail
            refine hC1.mono ?_
            rintro e wa ⟨rfl, nd, rfl⟩
            go_wp2_with fail
            refine (hC2 _).mono ?_
            rintro e wb ⟨rfl, nd2, rfl⟩
            go_wp2_with fail
            go_ret
            exact ⟨rfl, _, l, HQ.out.drewN _, HS.out, HR.out⟩
          | true =>
            have HS := Lib.hid (HD.out.step (by rw [HL.out]; omega) (by rw [HL.out]; omega) (by omega) (by omega) (Ord.leI_lt hlt2) hall.out)
            rw [hlt2] at hC2
            clear hlt2
            go_wp2_with fail
            refine hC1.mono ?_
            rintro e wa ⟨rfl, nd, rfl⟩
            go_wp2_with fail
            refine (hC2 _).mono ?_
            rintro e wb ⟨rfl, nd2, rfl⟩
            obtain ⟨wq, hwq⟩ : ∃ wq, wq = (wr.drewN nd).drewN nd2 := ⟨_, rfl⟩
            rw [← hwq]
            have HQ2 : Hid (QX w0.heap.size pb fv (.slice (some ⟨g, 0, none⟩) (r.length + 1) cap) (.slice (some ⟨g, 0, none⟩) r.length cap) l w wq) := Lib.hid (hwq ▸ (HQ.out.drewN _).drewN _)
            clear hwq HQ hC2
            obtain ⟨_, e3, _, f3, _⟩ := two_cells HQ2.out.blk
            obtain ⟨hg1, -, -, hcell⟩ := own_cells HQ2.out.own
            obtain ⟨ck, fk⟩ := hcell k (by rw [HL.out]; omega)
            obtain ⟨cu, fu⟩ := hcell (2 * k + 1) (by rw [HL.out]; omega)
            clear hcell
            have HQ3 := Lib.hid (HQ2.out.swap (i := k) (j := 2 * k + 1) (by rw [HL.out]; omega) (by rw [HL.out]; omega))
            have HL3 : Hid ((Hp.swap l (2 * k + 1) k).length = r.length) := Lib.hid (by rw [Hp.swap_len, HL.out])
            have HR3 := Lib.hid ((Hp.swap_perm (l := l) (i := 2 * k + 1) (j := k) (by rw [HL.out]; omega) (by rw [HL.out]; omega)).trans HR.out)
            have HSw : Hid (Hp.swap l k (2 * k + 1) = Hp.swap l (2 * k + 1) k) := Lib.hid (hp_swap_comm _ _ _ (by omega))
            rw [HSw.out] at HQ3
            clear HQ2 HL HR hall HD
            go_wp2_with fail
            go_region
            go_wp2_with fail
            go_roundw
            case rel => exact ⟨2 * k + 1, _, by go_num, by omega, HL3, HS, HR3, Lib.hid (HQ3.out.drewN 1)⟩
            case measure => simp [intOf]; omega
      · have hc2I : decide (2 * (k : Int) + 1 + 1 < (r.length : Int)) = false := decide_eq_false (by omega)
        have hall := Lib.hid (kid_all (K := K) (l := l) (i := k) (b := 2 * k + 1) (fun _ => leI_refl _ _) (fun h => absurd h (by rw [HL.out]; omega)))
        have hbn : (2 * (k : Int) + 1).toNat = 2 * k + 1 := by omega
        have hbp0 : (0 : Int) ≤ 2 * (k : Int) + 1 := by omega
        have hbI : 2 * (k : Int) + 1 < (r.length : Int) := by omega
        have hbl : 2 * k + 1 < r.length := by omega
        have hC2 : ∀ n, Calls Try.prog 109 #[.pointer (some ⟨pb, 0, none⟩), .int .i64 k, .int .i64 (2 * (k : Int) + 1)] (wr.drewN n) fun e w' => e = .returned (.bool (Ord.ltB K (Hp.ge l k) (Hp.ge l (2 * k + 1)))) ∧ ∃ m, w' = (wr.drewN n).drewN m := fun n => by
          have h9 := hold (wr.drewN n) (h0.trans (HQ.out.drewN n).bel) ((HQ.out.drewN n).kt cb _ eb HE.out.1 HE.out.2 HC0.out) pb _ l _ k (2 * k + 1) (HQ.out.drewN n).blk (HQ.out.drewN n).own (by rw [HL.out]; omega) (by rw [HL.out]; omega) hNl.out
          rwa [show ((2 * k + 1 : Nat) : Int) = 2 * (k : Int) + 1 by omega] at h9
        cases hlt2 : Ord.ltB K (Hp.ge l k) (Hp.ge l (2 * k + 1)) with
        | false =>
          have HS := Lib.hid (HD.out.stop (fun c h1 h2 h3 => leI_tr' (hall.out c h1 h2 h3) (Ord.leI_of hlt2)))
          rw [hlt2] at hC2
          clear hlt2
          go_wp2_with fail
          refine (hC2 0).mono ?_
          rintro e wb ⟨rfl, nd2, rfl⟩
          go_wp2_with fail
          go_ret
          exact ⟨rfl, _, l, HQ.out.drewN _, HS.out, HR.out⟩
        | true =>
          have HS := Lib.hid (HD.out.step (by rw [HL.out]; omega) (by rw [HL.out]; omega) (by omega) (by omega) (Ord.leI_lt hlt2) hall.out)
          rw [hlt2] at hC2
          clear hlt2
          go_wp2_with fail
          refine (hC2 0).mono ?_
          rintro e wb ⟨rfl, nd2, rfl⟩
          obtain ⟨wq, hwq⟩ : ∃ wq, wq = (wr.drewN 0).drewN nd2 := ⟨_, rfl⟩
          rw [← hwq]
          have HQ2 : Hid (QX w0.heap.size pb fv (.slice (some ⟨g, 0, none⟩) (r.length + 1) cap) (.slice (some ⟨g, 0, none⟩) r.length cap) l w wq) := Lib.hid (hwq ▸ (HQ.out.drewN _).drewN _)
          clear hwq HQ hC2
          obtain ⟨_, e3, _, f3, _⟩ := two_cells HQ2.out.blk
          obtain ⟨hg1, -, -, hcell⟩ := own_cells HQ2.out.own
          obtain ⟨ck, fk⟩ := hcell k (by rw [HL.out]; omega)
          obtain ⟨cu, fu⟩ := hcell (2 * k + 1) (by rw [HL.out]; omega)
          clear hcell
          have HQ3 := Lib.hid (HQ2.out.swap (i := k) (j := 2 * k + 1) (by rw [HL.out]; omega) (by rw [HL.out]; omega))
          have HL3 : Hid ((Hp.swap l (2 * k + 1) k).length = r.length) := Lib.hid (by rw [Hp.swap_len, HL.out])
          have HR3 := Lib.hid ((Hp.swap_perm (l := l) (i := 2 * k + 1) (j := k) (by rw [HL.out]; omega) (by rw [HL.out]; omega)).trans HR.out)
          have HSw : Hid (Hp.swap l k (2 * k + 1) = Hp.swap l (2 * k + 1) k) := Lib.hid (hp_swap_comm _ _ _ (by omega))
          rw [HSw.out] at HQ3
          clear HQ2 HL HR hall HD
          go_wp2_with fail
          go_region
          go_wp2_with fail
          go_roundw
          case rel => exact ⟨2 * k + 1, _, by go_num, by omega, HL3, HS, HR3, Lib.hid (HQ3.out.drewN 1)⟩
          case measure => simp [intOf]; omega
    · have hci : ¬ (2 * (k : Int) + 1 < (r.length : Int)) := by omega
      have HS := Lib.hid (HD.out.stop (kid_all (fun h => absurd h (by rw [HL.out]; omega)) (fun h => absurd h (by rw [HL.out]; omega))))
      go_wp2_with fail
      go_ret
      exact ⟨rfl, _, l, HQ.out, HS.out, HR.out⟩
end Go.Proofs.Ytcpmnocknpalfaa
