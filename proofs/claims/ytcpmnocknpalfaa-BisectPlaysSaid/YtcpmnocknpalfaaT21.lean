/-
  Layer 34: BisectPlays. No condition besides what the arguments are.
-/
import Derived.Test.YtcpmnocknpalfaaTR
import Derived.Test.YtcpmnocknpalfaaO3
namespace Go.Proofs.Ytcpmnocknpalfaa
open Go.RowKit Go.Sl Go.B64 Go.Bis
set_option linter.unusedVariables false

theorem Own.keptB {α : Type} {en : α → List Value} {s base B : Nat} {e : TypeId} {w w' : World} {v : Value} {l : List α} (h : Own en s base e w v l) (hb : Below B w w') (hv : ∀ k, v.ownBlock = some k → k < B) : Own en s base e w' v l := by
  refine ⟨h.1, ?_⟩
  rcases h.2 with h2 | ⟨g, cap, cur, e1, e2, e3, e4⟩
  · exact .inl h2
  · exact .inr ⟨g, cap, cur, e1, e2, (hb.block g (hv g (by rw [e1]; rfl))).trans e3, e4⟩
theorem Se.keptB {base sb ub N B : Nat} {U : Nat → S} {f n : St} {w w' : World} (h : Se base sb ub N U f n w) (hb : Below B w w') (h1 : sb < B) (h2 : ub < B) : Se base sb ub N U f n w' :=
  ⟨h.hb, (hb.block _ h1).trans h.blk, Own.keptB h.ups hb (fun k e => by cases e; exact h2)⟩
theorem Se.ult {base sb ub N : Nat} {U : Nat → S} {f n : St} {w : World} (h : Se base sb ub N U f n w) : ub < w.heap.size := (h.ups.lt ub rfl).2
def Sk (g : List Nd) (st : St) : Prop := ∀ x, mem st.skip x = true → x < g.length
theorem Sk.say {g : List Nd} (hg : Dag.okG g) {st : St} (h : Sk g st) (what : Nat) (n : Int) : Sk g (sayS (anc g) g.length st what n) := by
  have hgl := hg.1
  unfold sayS
  split
  · rename_i he
    obtain ⟨h1, h2, -, -, -⟩ := sayE_ok he
    unfold sayD
    split
    · exact h
    · split
      · exact h
      · intro x hx
        have hx : mem (st.skip ||| one n.toNat) x = true := hx
        rw [mem_or, mem_one (by omega), Bool.or_eq_true] at hx
        rcases hx with hx | hx
        · exact h x hx
        · have := of_decide_eq_true hx; omega
  · exact h
structure Pl (b1 sb ub b2 rb ib kb : Nat) (gv fv : Value) (g : List Nd) (n0 st : St) (w : World) : Prop where
  se : Se b1 sb ub g.length (anc g) n0 st w
  rs : Rs b2 rb ib kb g.length gv fv n0 st w
  ok : Ok g st
  sk : Sk g st
section
variable {b1 sb ub b2 rb ib kb : Nat} {gv fv : Value} {g : List Nd} {n0 st : St} {w w' : World}
theorem Pl.ext (h : Pl b1 sb ub b2 rb ib kb gv fv g n0 st w) (hb : Below w.heap.size w w') : Pl b1 sb ub b2 rb ib kb gv fv g n0 st w' := ⟨h.se.ext hb, h.rs.ext hb, h.ok, h.sk⟩
end
theorem bsay_pl {b1 sb ub b2 rb ib kb : Nat} {gv fv : Value} {g : List Nd} {n0 st : St} {w : World} (hg : Dag.okG g) (h : Pl b1 sb ub b2 rb ib kb gv fv g n0 st w) (hsb : sb < b2) (han : st.ans < 1000) (k : Nat) (hk : k < 3) (x : Int) :
    Calls Try.prog 39 #[.pointer (some ⟨sb, 0, none⟩), .int .i64 (k : Int), .int .i64 x] w fun e w' => e = .returned (.int .i64 (sayE (anc g) g.length st k x : Nat)) ∧ Below b1 w w' ∧ Se b1 sb ub g.length (anc g) n0 (sayS (anc g) g.length st k x) w' ∧ Rs b2 rb ib kb g.length gv fv n0 st w' := by
  refine (bsay_any h.se hg.1 (fun x hx => h.ok.lt hg hx) h.ok.wlt han k hk x).mono ?_
  rintro e w' ⟨rfl, hgr, hs⟩
  exact ⟨rfl, below_grown hgr (Nat.le_trans h.se.hb (Nat.le_of_lt h.se.lt)) (fun k e => by cases e; exact h.se.hb), hs, h.rs.kept hgr hsb⟩
theorem breset_pl {b1 sb ub b2 rb ib kb : Nat} {gv fv : Value} {g : List Nd} {n0 st : St} {w : World} (h : Pl b1 sb ub b2 rb ib kb gv fv g n0 st w) (hsb : sb < b2) :
    Calls Try.prog 48 #[.pointer (some ⟨sb, 0, none⟩)] w fun e w' => e = .returned (.int .i64 0) ∧ Below b1 w w' ∧ Se b1 sb ub g.length (anc g) n0 n0 w' ∧ Rs b2 rb ib kb g.length gv fv n0 st w' := by
  refine (breset_any h.se).mono ?_
  rintro e w' ⟨rfl, hgr, hs⟩
  exact ⟨rfl, below_grown hgr (Nat.le_trans h.se.hb (Nat.le_of_lt h.se.lt)) (fun k e => by cases e; exact h.se.hb), hs, h.rs.kept hgr hsb⟩

set_option maxRecDepth 100000 in
set_option maxHeartbeats 2000000 in
theorem bisectPlays_any (gv lv sv : Value) (es : List (SlV × Int)) (g : List Nd) (bad : Int) (l : List Int) (says : List (Int × Int × Bool)) (w : World) (hA : Asked w gv lv es g l) (hS : Sl eSay 3 w sv says) :
    Calls Try.prog 9 #[.agg #[gv, .int .i64 bad, lv], sv] w fun e w' => e = .returned (.bool true) ∧ Below w.heap.size w w' := by
  have HA := Lib.hid hA
  have HS := Lib.hid hS
  have hb1 := balloc w (.cells #[gv, .int .i64 bad, lv] 55)
  obtain ⟨w1, hw1⟩ : ∃ u, Hid (u = w.alloc (.cells #[gv, .int .i64 bad, lv] 55)) := ⟨_, Lib.hid rfl⟩
  have HB1 : Hid (Below w.heap.size w w1) := Lib.hid (by rw [hw1.out]; exact hb1)
  have HC : Hid (w1.cell? ⟨w.heap.size, 0, none⟩ = some gv ∧ w1.cell? ⟨w.heap.size, 1, none⟩ = some (.int .i64 bad) ∧ w1.cell? ⟨w.heap.size, 2, none⟩ = some lv ∧ w.heap.size < w1.heap.size) := Lib.hid (by
    rw [hw1.out]
    have h := heap_alloc_new w (.cells #[gv, .int .i64 bad, lv] 55)
    exact ⟨by simp only [World.cell?, h]; rfl, by simp only [World.cell?, h]; rfl, by simp only [World.cell?, h]; rfl, by simp⟩)
  have hlen := hA.sl.run_len (P := Try.prog) Try.underlying23
  have hlen2 := hS.run_len (P := Try.prog) Try.underlying56
  have hmax := hA.sl.len_le
  have hmax2 := hS.len_le
  clear hA hS hb1
  have hWW := fun u => Lib.hid (bworks_any u)
  by_cases hbig : 100 < l.length
  · have d0 : decide ((100 : Int) < l.length) = true := decide_eq_true (by omega)
    go_enter Try.func9, Try.ntmps9
    go_wp2_with fail
    rw [← hw1.out]
    refine (hWW _).out.mono ?_
    rintro e w2 ⟨rfl, hb⟩
    have HB2 := Lib.hid (bthen HB1.out hb)
    clear hb
    go_wp2_with fail
    go_ret
    exact ⟨rfl, HB2.out⟩
  · have d0 : decide ((100 : Int) < l.length) = false := decide_eq_false (by omega)
    have HN := Lib.hid (bnew_any gv lv es g bad l (by omega) w1 (HA.out.gr.ext HB1.out) (HA.out.sl.ext HB1.out))
    have HM := Lib.hid (fun u (hu : Below w.heap.size w u) => rnew_any gv lv es g bad l (by omega) u (HA.out.gr.ext hu) (HA.out.sl.ext hu))
    by_cases he : newE g bad l = 0
    · obtain ⟨hg, hok, bn, rfl, hbn⟩ := newE_zero he
      have HG := Lib.hid hg
      have HO := Lib.hid hok
      have HZ := Lib.hid he
      have hgl := hg.1
      clear hg hok he hbn
      go_enter Try.func9, Try.ntmps9
      go_wp2_with fail
      rw [← hw1.out]
      refine HN.out.mono ?_
      rintro e w2 ⟨-, h0⟩
      obtain ⟨sb, ub, rfl, hse, hb2⟩ := h0 HZ.out
      have HSe := Lib.hid hse
      have HB2 := Lib.hid (bthen HB1.out hb2)
      have hc := HC.out
      have c0 := (hb2.cell (p := ⟨w.heap.size, 0, none⟩) hc.2.2.2).trans hc.1
      have c1 := (hb2.cell (p := ⟨w.heap.size, 1, none⟩) hc.2.2.2).trans hc.2.1
      have c2 := (hb2.cell (p := ⟨w.heap.size, 2, none⟩) hc.2.2.2).trans hc.2.2.1
      clear hse hb2 h0 HN hlen hmax hbig d0 hc
      have HM2 := Lib.hid (HM.out w2 HB2.out)
      go_wp2_with fail
      refine HM2.out.mono ?_
      rintro e w3 ⟨-, h0⟩
      obtain ⟨rb, ib, kb, fv, rfl, hrs, hb3⟩ := h0 HZ.out
      have HB3 := Lib.hid (bthen HB2.out hb3)
      obtain ⟨n0, hn0⟩ : ∃ n0, Hid (newS g (bn : Int) l = n0) := ⟨_, Lib.hid rfl⟩
      have Hn0 : Hid (n0.skip = 0 ∧ n0.ans = 0) := Lib.hid (by rw [← hn0.out]; exact ⟨rfl, rfl⟩)
      rw [hn0.out] at HSe hrs HO
      obtain ⟨b1, hb1⟩ : ∃ b, Hid (w1.heap.size = b) := ⟨_, Lib.hid rfl⟩
      obtain ⟨b2, hb2⟩ : ∃ b, Hid (w2.heap.size = b) := ⟨_, Lib.hid rfl⟩
      have hsb : sb < b2 := by rw [← hb2.out]; exact HSe.out.lt
      have hub : ub < b2 := by rw [← hb2.out]; exact HSe.out.ult
      have hwb1 : w.heap.size ≤ b1 := by rw [← hb1.out]; exact HB1.out.size
      have hwb2 : w.heap.size ≤ b2 := by rw [← hb2.out]; exact HB2.out.size
      have HSk0 : Hid (Sk g n0) := Lib.hid (fun x hx => by rw [Hn0.out.1, mem_zero] at hx; cases hx)
      have HP0 : Hid (Pl b1 sb ub b2 rb ib kb gv fv g n0 n0 w3) := Lib.hid (by
        rw [← hb1.out, ← hb2.out]
        exact ⟨HSe.out.ext hb3, hrs, HO.out, HSk0.out⟩)
      clear h0 hrs hb3 HM2 c0 c1 c2 HM hb1 hb2 HSe HC HZ
      go_wp2_with fail
      go_loopw [9] (fun i wr => ∃ (k : Nat) (st : St), i = .int .i64 k ∧ k ≤ says.length ∧ k ≤ 40 ∧ st.ans ≤ k ∧ Hid (Pl b1 sb ub b2 rb ib kb gv fv g n0 st wr) ∧ Hid (Below w.heap.size w wr)) (fun i _ => says.length - (intOf i).toNat)
      case atStart => exact ⟨0, _, rfl, by omega, by omega, by rw [Hn0.out.2]; exact Nat.le_refl _, HP0, HB3⟩
      case round =>
        obtain ⟨wo, rfl⟩ : ∃ u : World, u = wr := ⟨_, rfl⟩
        obtain ⟨k, st, rfl, hk, hk4, han, HP, HW⟩ := hrel
        have HT := fun st u (hp : Pl b1 sb ub b2 rb ib kb gv fv g n0 st u) (hu : Below w.heap.size w u) => Lib.hid (told_any hp.se hp.rs HG.out (HA.out.gr.ext hu) (fun x hx => hp.ok.lt HG.out hx) hp.sk hp.ok.wlt)
        by_cases hcc : k < says.length ∧ k < 40
        · skip
          obtain ⟨hk1, hk2⟩ := hcc
          have d40 : decide ((k : Int) < 40) = true := decide_eq_true (by omega)
          obtain ⟨b3, o3, hb3, hix, hcell⟩ := HS.out.at (P := Try.prog) Try.underlying56 cells63 some63 hk1
          obtain ⟨⟨xa, ya, ta⟩, hx⟩ : ∃ z, says[k] = z := ⟨_, rfl⟩
          have e0 := hcell 0 (by omega)
          have e1 := hcell 1 (by omega)
          have e2 := hcell 2 (by omega)
          rw [hx] at e0 e1 e2
          simp only [eSay, List.getElem?_cons_zero, List.getElem?_cons_succ, Nat.add_zero] at e0 e1 e2
          have HK : Hid (∀ u, Below w.heap.size w u → u.cell? ⟨b3, o3, none⟩ = some (.int .i64 xa) ∧ u.cell? ⟨b3, o3 + 1, none⟩ = some (.int .i64 ya) ∧ u.cell? ⟨b3, o3 + 2, none⟩ = some (.bool ta)) := Lib.hid (fun u hu =>
            ⟨(hu.cell (p := ⟨b3, o3, none⟩) hb3).trans e0, (hu.cell (p := ⟨b3, o3 + 1, none⟩) hb3).trans e1, (hu.cell (p := ⟨b3, o3 + 2, none⟩) hb3).trans e2⟩)
          have HX := Lib.hid (rnext_any HP.out.rs HG.out (HA.out.gr.ext HW.out) (fun x hx => HP.out.ok.lt HG.out hx))
          clear hcell hx hb3 e0 e1 e2
          cases ta with
          | true =>
            obtain ⟨k0, k1, k2⟩ := HK.out _ HW.out
            obtain ⟨z, hz⟩ : ∃ z : Int, Hid ((nxN (acc (anc g) st g.length) : Int) = z) := ⟨_, Lib.hid rfl⟩
            go_wp2_with fail
            refine HX.out.mono ?_
            rintro e wz ⟨rfl, hbz⟩
            have HWz : Hid (Below w.heap.size w wz) := Lib.hid (bthen HW.out hbz)
            have HPz := Lib.hid (HP.out.ext hbz)
            rw [hz.out]
            clear hbz k0 k1 k2 HX hz
            obtain ⟨k0, k1, k2⟩ := HK.out _ HWz.out
            by_cases h3 : xa = 3
            · have d3 : ((xa : Int) == 3) = true := by rw [h3]; rfl
              clear h3
              go_wp2_with fail
              refine (breset_pl HPz.out hsb).mono ?_
              rintro e w5 ⟨rfl, hb5, hs5, hr5⟩
              have HS5 := Lib.hid hs5
              have HR5 := Lib.hid hr5
              have HW5 : Hid (Below w.heap.size w w5) := Lib.hid (HWz.out.trans (hb5.mono hwb1))
              clear hb5 hs5 hr5 k0 k1 k2 d3
              go_wp2_with fail
              refine (rreset_any hgl HR5.out Hn0.out).mono ?_
              rintro e w9 ⟨rfl, hb9, hr9⟩
              have HW9 : Hid (Below w.heap.size w w9) := Lib.hid (HW5.out.trans (hb9.mono hwb2))
              have HP9 : Hid (Pl b1 sb ub b2 rb ib kb gv fv g n0 n0 w9) := Lib.hid ⟨HS5.out.keptB hb9 hsb hub, hr9, HO.out, HSk0.out⟩
              have ha9 : n0.ans ≤ k + 1 := by rw [Hn0.out.2]; omega
              clear hb9 hr9 HS5 HR5 HW5
              go_wp2_with fail
              refine (HT _ _ HP9.out HW9.out).out.mono ?_
              rintro e wa ⟨rfl, hba⟩
              have HPa := Lib.hid (HP9.out.ext hba)
              have HWa : Hid (Below w.heap.size w wa) := Lib.hid (bthen HW9.out hba)
              have HBw := Lib.hid (bweight_any HPa.out.se hgl (fun x hx => HPa.out.ok.lt HG.out hx) z)
              have HRw := Lib.hid (fun u (hu : Below wa.heap.size wa u) => rweight_any (HPa.out.rs.ext hu) HG.out (HA.out.gr.ext (bthen HWa.out hu)) (fun x hx => HPa.out.ok.lt HG.out hx) z)
              obtain ⟨we, hwe⟩ : ∃ q, Hid (wtE (anc g) n0 z = q) := ⟨_, Lib.hid rfl⟩
              rw [hwe.out] at HBw HRw
              clear hba HP9 HW9
              go_wp2_with fail
              refine HBw.out.mono ?_
              rintro e wb ⟨rfl, hbb⟩
              have HBb := Lib.hid hbb
              have HPb := Lib.hid (HPa.out.ext hbb)
              clear hbb HBw HPa
              go_wp2_with fail
              refine (HRw.out wb HBb.out).mono ?_
              rintro e wd ⟨rfl, hbd⟩
              have HPd := Lib.hid (HPb.out.ext hbd)
              have HWd : Hid (Below w.heap.size w wd) := Lib.hid (bthen (bthen HWa.out HBb.out) hbd)
              clear hbd HPb HRw
              go_wp2_with fail
              go_roundw
              case rel => exact ⟨k + 1, _, by go_num, by omega, by omega, ha9, HPd, HWd⟩
              case measure => simp [intOf]; omega
            · have d3 : ((xa : Int) == 3) = false := by rw [beq_eq_false_iff_ne]; exact h3
              clear h3
              go_wp2_with fail
              clear k0 k1 k2
              have b0 : Below wz.heap.size wz wz.drew := (Below.refl _ _).drew
              have HWz0 : Hid (Below w.heap.size w wz.drew) := Lib.hid (bthen HWz.out b0)
              have HPz0 := Lib.hid (HPz.out.ext b0)
              have hes : sayE (anc g) g.length st (whatN xa) z = sayE (anc g) g.length st (whatN xa) z := rfl
              obtain ⟨ee, hee⟩ : ∃ ee, Hid (sayE (anc g) g.length st (whatN xa) z = ee) := ⟨_, Lib.hid rfl⟩
              have ha9 : (sayS (anc g) g.length st (whatN xa) z).ans ≤ k + 1 := Nat.le_trans sayS_ans (by omega)
              clear hes d3
              go_region_held3 (fun u => u.cell? ⟨b3, o3, none⟩ = some (.int .i64 xa) ∧ u.cell? ⟨b3, o3 + 1, none⟩ = some (.int .i64 ya) ∧ u.cell? ⟨b3, o3 + 2, none⟩ = some (.bool true))
                (first
                  | exact HK.out _ HU9.out
                  | exact HK.out _ HU7.out
                  | exact HK.out _ HU6.out
                  | exact HK.out _ HU5.out
                  | exact HK.out _ HWz0.out)
                (first
                  | (go_at_call 50; have _g := HU7.out; (refine (rsay_any HR7.out HG.out ⟨w, hwb2, HA.out.gr, HU7.out⟩ (fun x hx => HP.out.ok.lt HG.out hx) (by omega) (whatN xa) (whatN_lt xa) z).mono ?_); rintro e w9 ⟨rfl, hb9, hr9⟩; have HU9 : Hid (Below w.heap.size w w9) := Lib.hid (HU7.out.trans (hb9.mono hwb2)); have HS9 := Lib.hid (HS7.out.keptB hb9 hsb hub); have HR9 := Lib.hid hr9; rw [hee.out]; clear hb9 hr9)
                  | (go_at_call 40; have _g := HU6.out; (refine (bwhat_any xa ya true _).mono ?_); rintro e u7 ⟨rfl, hb7⟩; have HU7 : Hid (Below w.heap.size w u7) := Lib.hid (bthen HU6.out hb7); have HS7 := Lib.hid (HS6.out.ext hb7); have HR7 := Lib.hid (HR6.out.ext hb7); clear hb7)
                  | (go_at_call 39; have _g := HU5.out; (refine (bsay_pl HG.out HP5.out hsb (by omega) (whatN xa) (whatN_lt xa) z).mono ?_); rintro e u6 ⟨rfl, hb6, hs6, hr6⟩; have HU6 : Hid (Below w.heap.size w u6) := Lib.hid (HU5.out.trans (hb6.mono hwb1)); have HS6 := Lib.hid hs6; have HR6 := Lib.hid hr6; rw [hee.out]; clear hb6 hs6 hr6)
                  | (go_at_call 40; (refine (bwhat_any xa ya true _).mono ?_); rintro e u5 ⟨rfl, hb5⟩; have HU5 : Hid (Below w.heap.size w u5) := Lib.hid (bthen HWz0.out hb5); have HP5 := Lib.hid (HPz0.out.ext hb5); clear hb5))
              have HW9 : Hid (Below w.heap.size w w9) := HU9
              have HP9 : Hid (Pl b1 sb ub b2 rb ib kb gv fv g n0 (sayS (anc g) g.length st (whatN xa) z) w9) := Lib.hid ⟨HS9.out, HR9.out, HP.out.ok.sayS HG.out (whatN xa) z, HP.out.sk.say HG.out (whatN xa) z⟩
              clear HWz0 HPz0 b0 hee HS9 HR9 HU9
              go_wp2_with fail
              refine (HT _ _ HP9.out HW9.out).out.mono ?_
              rintro e wa ⟨rfl, hba⟩
              have HPa := Lib.hid (HP9.out.ext hba)
              have HWa : Hid (Below w.heap.size w wa) := Lib.hid (bthen HW9.out hba)
              have HBw := Lib.hid (bweight_any HPa.out.se hgl (fun x hx => HPa.out.ok.lt HG.out hx) z)
              have HRw := Lib.hid (fun u (hu : Below wa.heap.size wa u) => rweight_any (HPa.out.rs.ext hu) HG.out (HA.out.gr.ext (bthen HWa.out hu)) (fun x hx => HPa.out.ok.lt HG.out hx) z)
              obtain ⟨we, hwe⟩ : ∃ q, Hid (wtE (anc g) (sayS (anc g) g.length st (whatN xa) z) z = q) := ⟨_, Lib.hid rfl⟩
              rw [hwe.out] at HBw HRw
              clear hba HP9 HW9
              go_wp2_with fail
              refine HBw.out.mono ?_
              rintro e wb ⟨rfl, hbb⟩
              have HBb := Lib.hid hbb
              have HPb := Lib.hid (HPa.out.ext hbb)
              clear hbb HBw HPa
              go_wp2_with fail
              refine (HRw.out wb HBb.out).mono ?_
              rintro e wd ⟨rfl, hbd⟩
              have HPd := Lib.hid (HPb.out.ext hbd)
              have HWd : Hid (Below w.heap.size w wd) := Lib.hid (bthen (bthen HWa.out HBb.out) hbd)
              clear hbd HPb HRw
              go_wp2_with fail
              go_roundw
              case rel => exact ⟨k + 1, _, by go_num, by omega, by omega, ha9, HPd, HWd⟩
              case measure => simp [intOf]; omega
          | false =>
            obtain ⟨wz, hwz⟩ : ∃ u : World, u = wo := ⟨_, rfl⟩
            have HWz : Hid (Below w.heap.size w wz) := Lib.hid (by rw [hwz]; exact HW.out)
            have HPz : Hid (Pl b1 sb ub b2 rb ib kb gv fv g n0 st wz) := Lib.hid (by rw [hwz]; exact HP.out)
            obtain ⟨z, hz⟩ : ∃ z : Int, z = ya := ⟨_, rfl⟩
            rw [← hwz]
            rw [← hz] at HK
            clear hwz hz HX
            obtain ⟨k0, k1, k2⟩ := HK.out _ HWz.out
            by_cases h3 : xa = 3
            · have d3 : ((xa : Int) == 3) = true := by rw [h3]; rfl
              clear h3
              go_wp2_with fail
              refine (breset_pl HPz.out hsb).mono ?_
              rintro e w5 ⟨rfl, hb5, hs5, hr5⟩
              have HS5 := Lib.hid hs5
              have HR5 := Lib.hid hr5
              have HW5 : Hid (Below w.heap.size w w5) := Lib.hid (HWz.out.trans (hb5.mono hwb1))
              clear hb5 hs5 hr5 k0 k1 k2 d3
              go_wp2_with fail
              refine (rreset_any hgl HR5.out Hn0.out).mono ?_
              rintro e w9 ⟨rfl, hb9, hr9⟩
              have HW9 : Hid (Below w.heap.size w w9) := Lib.hid (HW5.out.trans (hb9.mono hwb2))
              have HP9 : Hid (Pl b1 sb ub b2 rb ib kb gv fv g n0 n0 w9) := Lib.hid ⟨HS5.out.keptB hb9 hsb hub, hr9, HO.out, HSk0.out⟩
              have ha9 : n0.ans ≤ k + 1 := by rw [Hn0.out.2]; omega
              clear hb9 hr9 HS5 HR5 HW5
              go_wp2_with fail
              refine (HT _ _ HP9.out HW9.out).out.mono ?_
              rintro e wa ⟨rfl, hba⟩
              have HPa := Lib.hid (HP9.out.ext hba)
              have HWa : Hid (Below w.heap.size w wa) := Lib.hid (bthen HW9.out hba)
              have HBw := Lib.hid (bweight_any HPa.out.se hgl (fun x hx => HPa.out.ok.lt HG.out hx) z)
              have HRw := Lib.hid (fun u (hu : Below wa.heap.size wa u) => rweight_any (HPa.out.rs.ext hu) HG.out (HA.out.gr.ext (bthen HWa.out hu)) (fun x hx => HPa.out.ok.lt HG.out hx) z)
              obtain ⟨we, hwe⟩ : ∃ q, Hid (wtE (anc g) n0 z = q) := ⟨_, Lib.hid rfl⟩
              rw [hwe.out] at HBw HRw
              clear hba HP9 HW9
              go_wp2_with fail
              refine HBw.out.mono ?_
              rintro e wb ⟨rfl, hbb⟩
              have HBb := Lib.hid hbb
              have HPb := Lib.hid (HPa.out.ext hbb)
              clear hbb HBw HPa
              go_wp2_with fail
              refine (HRw.out wb HBb.out).mono ?_
              rintro e wd ⟨rfl, hbd⟩
              have HPd := Lib.hid (HPb.out.ext hbd)
              have HWd : Hid (Below w.heap.size w wd) := Lib.hid (bthen (bthen HWa.out HBb.out) hbd)
              clear hbd HPb HRw
              go_wp2_with fail
              go_roundw
              case rel => exact ⟨k + 1, _, by go_num, by omega, by omega, ha9, HPd, HWd⟩
              case measure => simp [intOf]; omega
            · have d3 : ((xa : Int) == 3) = false := by rw [beq_eq_false_iff_ne]; exact h3
              clear h3
              go_wp2_with fail
              clear k0 k1 k2
              have b0 : Below wz.heap.size wz wz.drew := (Below.refl _ _).drew
              have HWz0 : Hid (Below w.heap.size w wz.drew) := Lib.hid (bthen HWz.out b0)
              have HPz0 := Lib.hid (HPz.out.ext b0)
              have hes : sayE (anc g) g.length st (whatN xa) z = sayE (anc g) g.length st (whatN xa) z := rfl
              obtain ⟨ee, hee⟩ : ∃ ee, Hid (sayE (anc g) g.length st (whatN xa) z = ee) := ⟨_, Lib.hid rfl⟩
              have ha9 : (sayS (anc g) g.length st (whatN xa) z).ans ≤ k + 1 := Nat.le_trans sayS_ans (by omega)
              clear hes d3
              go_region_held3 (fun u => u.cell? ⟨b3, o3, none⟩ = some (.int .i64 xa) ∧ u.cell? ⟨b3, o3 + 1, none⟩ = some (.int .i64 z) ∧ u.cell? ⟨b3, o3 + 2, none⟩ = some (.bool false))
                (first
                  | exact HK.out _ HU9.out
                  | exact HK.out _ HU7.out
                  | exact HK.out _ HU6.out
                  | exact HK.out _ HU5.out
                  | exact HK.out _ HWz0.out)
                (first
                  | (go_at_call 50; have _g := HU7.out; (refine (rsay_any HR7.out HG.out ⟨w, hwb2, HA.out.gr, HU7.out⟩ (fun x hx => HP.out.ok.lt HG.out hx) (by omega) (whatN xa) (whatN_lt xa) z).mono ?_); rintro e w9 ⟨rfl, hb9, hr9⟩; have HU9 : Hid (Below w.heap.size w w9) := Lib.hid (HU7.out.trans (hb9.mono hwb2)); have HS9 := Lib.hid (HS7.out.keptB hb9 hsb hub); have HR9 := Lib.hid hr9; rw [hee.out]; clear hb9 hr9)
                  | (go_at_call 40; have _g := HU6.out; (refine (bwhat_any xa z false _).mono ?_); rintro e u7 ⟨rfl, hb7⟩; have HU7 : Hid (Below w.heap.size w u7) := Lib.hid (bthen HU6.out hb7); have HS7 := Lib.hid (HS6.out.ext hb7); have HR7 := Lib.hid (HR6.out.ext hb7); clear hb7)
                  | (go_at_call 39; have _g := HU5.out; (refine (bsay_pl HG.out HP5.out hsb (by omega) (whatN xa) (whatN_lt xa) z).mono ?_); rintro e u6 ⟨rfl, hb6, hs6, hr6⟩; have HU6 : Hid (Below w.heap.size w u6) := Lib.hid (HU5.out.trans (hb6.mono hwb1)); have HS6 := Lib.hid hs6; have HR6 := Lib.hid hr6; rw [hee.out]; clear hb6 hs6 hr6)
                  | (go_at_call 40; (refine (bwhat_any xa z false _).mono ?_); rintro e u5 ⟨rfl, hb5⟩; have HU5 : Hid (Below w.heap.size w u5) := Lib.hid (bthen HWz0.out hb5); have HP5 := Lib.hid (HPz0.out.ext hb5); clear hb5))
              have HW9 : Hid (Below w.heap.size w w9) := HU9
              have HP9 : Hid (Pl b1 sb ub b2 rb ib kb gv fv g n0 (sayS (anc g) g.length st (whatN xa) z) w9) := Lib.hid ⟨HS9.out, HR9.out, HP.out.ok.sayS HG.out (whatN xa) z, HP.out.sk.say HG.out (whatN xa) z⟩
              clear HWz0 HPz0 b0 hee HS9 HR9 HU9
              go_wp2_with fail
              refine (HT _ _ HP9.out HW9.out).out.mono ?_
              rintro e wa ⟨rfl, hba⟩
              have HPa := Lib.hid (HP9.out.ext hba)
              have HWa : Hid (Below w.heap.size w wa) := Lib.hid (bthen HW9.out hba)
              have HBw := Lib.hid (bweight_any HPa.out.se hgl (fun x hx => HPa.out.ok.lt HG.out hx) z)
              have HRw := Lib.hid (fun u (hu : Below wa.heap.size wa u) => rweight_any (HPa.out.rs.ext hu) HG.out (HA.out.gr.ext (bthen HWa.out hu)) (fun x hx => HPa.out.ok.lt HG.out hx) z)
              obtain ⟨we, hwe⟩ : ∃ q, Hid (wtE (anc g) (sayS (anc g) g.length st (whatN xa) z) z = q) := ⟨_, Lib.hid rfl⟩
              rw [hwe.out] at HBw HRw
              clear hba HP9 HW9
              go_wp2_with fail
              refine HBw.out.mono ?_
              rintro e wb ⟨rfl, hbb⟩
              have HBb := Lib.hid hbb
              have HPb := Lib.hid (HPa.out.ext hbb)
              clear hbb HBw HPa
              go_wp2_with fail
              refine (HRw.out wb HBb.out).mono ?_
              rintro e wd ⟨rfl, hbd⟩
              have HPd := Lib.hid (HPb.out.ext hbd)
              have HWd : Hid (Below w.heap.size w wd) := Lib.hid (bthen (bthen HWa.out HBb.out) hbd)
              clear hbd HPb HRw
              go_wp2_with fail
              go_roundw
              case rel => exact ⟨k + 1, _, by go_num, by omega, by omega, ha9, HPd, HWd⟩
              case measure => simp [intOf]; omega
        · have hd : (¬ k < says.length) ∨ (k < says.length ∧ decide ((k : Int) < 40) = false) := by
            by_cases h1 : k < says.length
            · exact .inr ⟨h1, decide_eq_false (by omega)⟩
            · exact .inl h1
          have HT1 := HT st wo HP.out HW.out
          clear hcc hk hk4 han HT
          rcases hd with h1 | ⟨h1, d40⟩
          all_goals
            go_wp2_with fail
            refine HT1.out.mono ?_
            rintro e w4 ⟨rfl, hb4⟩
            have HB4 := Lib.hid (bthen HW.out hb4)
            clear hb4
            go_wp2_with fail
            refine (hWW _).out.mono ?_
            rintro e w5 ⟨rfl, hb5⟩
            have HB5 := Lib.hid (bthen HB4.out hb5)
            clear hb5
            go_wp2_with fail
            go_ret
            exact ⟨rfl, HB5.out⟩
    · have HZ : Hid (newE g bad l = 12 ∨ newE g bad l = 2 ∨ newE g bad l = 50) := Lib.hid (by
        rcases newE_cases g bad l with h | h | h | h
        · exact .inl h
        · exact .inr (.inl h)
        · exact .inr (.inr h)
        · exact absurd h he)
      have Hne := Lib.hid he
      clear he
      go_enter Try.func9, Try.ntmps9
      go_wp2_with fail
      rw [← hw1.out]
      refine HN.out.mono ?_
      rintro e w2 ⟨h0, -⟩
      obtain ⟨rfl, hb2⟩ := h0 Hne.out
      have HB2 := Lib.hid (bthen HB1.out hb2)
      have hc := HC.out
      have c0 := (hb2.cell (p := ⟨w.heap.size, 0, none⟩) hc.2.2.2).trans hc.1
      have c1 := (hb2.cell (p := ⟨w.heap.size, 1, none⟩) hc.2.2.2).trans hc.2.1
      have c2 := (hb2.cell (p := ⟨w.heap.size, 2, none⟩) hc.2.2.2).trans hc.2.2.1
      have HM2 := Lib.hid (HM.out w2 HB2.out)
      clear h0 hb2 HN hc HM
      go_wp2_with fail
      refine HM2.out.mono ?_
      rintro e w3 ⟨h0, -⟩
      obtain ⟨rfl, hb3⟩ := h0 Hne.out
      have HB3 := Lib.hid (bthen HB2.out hb3)
      obtain ⟨e0, he0⟩ : ∃ e0, Hid (newE g bad l = e0) := ⟨_, Lib.hid rfl⟩
      rw [he0.out] at HZ ⊢
      clear h0 hb3 HM2 Hne he0 c0 c1 c2
      rcases HZ.out with rfl | rfl | rfl
      all_goals
        go_wp2_with fail
        refine (hWW _).out.mono ?_
        rintro e w4 ⟨rfl, hb⟩
        have HB4 := Lib.hid (bthen HB3.out hb)
        clear hb
        go_wp2_with fail
        go_ret
        exact ⟨rfl, HB4.out⟩
end Go.Proofs.Ytcpmnocknpalfaa
