/-
  Layer 34, the document's session: its block, its truths; Weight. No condition besides what the arguments are.
  Layer 34, the document's session: Next. No condition besides what the arguments are.
  Layer 34, the document's session: its stores; Say. No condition besides what the arguments are.
  Layer 34, the document's session: an answer that is taken. No condition besides what the arguments are.
  Layer 34, the document's session: good and bad answers that are taken. No condition besides what the arguments are.
  Layer 34, the document's session: Say, Reset. No condition besides what the arguments are.
  Layer 34, the document's session: New. No condition besides what the arguments are.
  Layer 34: whether two sessions tell the same. No condition besides what the arguments are.
-/
import Derived.Test.YtcpmnocknpalfaaT9
import Derived.BigRegion
import Derived.Deep.RegionLaw
namespace Go.Proofs.Ytcpmnocknpalfaa
open Go.RowKit Go.Sl Go.B64 Go.Bis
set_option linter.unusedVariables false

abbrev slB (b N : Nat) : Value := .slice (some ⟨b, 0, none⟩) N N
def rsCells (gv fv : Value) (ib kb N : Nat) (f n : St) : Array Value := #[gv, slB ib N, slB kb N, .int .i64 (n.worst : Int), .int .i64 (n.ans : Int), fv, .int .i64 (f.worst : Int)]
/-- the document's session at block rb -/
structure Rs (base rb ib kb N : Nat) (gv fv : Value) (f n : St) (w : World) : Prop where
  hb : base ≤ rb
  blk : w.heap[rb]? = some (.cells (rsCells gv fv ib kb N f n) 109 (0, 0))
  is : Bl base ib N (mem n.cand) w
  sk : Bl base kb N (mem n.skip) w
  ne : ib ≠ kb
  fi : Own eBool 1 base 4 w fv ((List.range N).map (mem f.cand))
  fi1 : fv.ownBlock ≠ some ib
  fi2 : fv.ownBlock ≠ some kb
section
variable {base rb ib kb N : Nat} {gv fv : Value} {f n : St} {w w' : World}
theorem Rs.ext (h : Rs base rb ib kb N gv fv f n w) (hb : Below w.heap.size w w') : Rs base rb ib kb N gv fv f n w' :=
  ⟨h.hb, (hb.block _ (Array.getElem?_eq_some_iff.1 h.blk).1).trans h.blk, h.is.ext hb, h.sk.ext hb, h.ne, h.fi.ext hb, h.fi1, h.fi2⟩
theorem Rs.low {base' : Nat} (h : Rs base rb ib kb N gv fv f n w) (hb : base' ≤ base) : Rs base' rb ib kb N gv fv f n w :=
  ⟨Nat.le_trans hb h.hb, h.blk, h.is.mono hb, h.sk.mono hb, h.ne, h.fi.mono hb, h.fi1, h.fi2⟩
theorem Rs.lt (h : Rs base rb ib kb N gv fv f n w) : rb < w.heap.size := (Array.getElem?_eq_some_iff.1 h.blk).1
theorem Rs.now (h : Rs base rb ib kb N gv fv f n w) : w.cell? ⟨rb, 0, none⟩ = some gv ∧ w.cell? ⟨rb, 1, none⟩ = some (slB ib N) ∧ w.cell? ⟨rb, 2, none⟩ = some (slB kb N) ∧ w.cell? ⟨rb, 3, none⟩ = some (.int .i64 (n.worst : Int)) ∧
    w.cell? ⟨rb, 4, none⟩ = some (.int .i64 (n.ans : Int)) ∧ w.cell? ⟨rb, 5, none⟩ = some fv ∧ w.cell? ⟨rb, 6, none⟩ = some (.int .i64 (f.worst : Int)) :=
  ⟨by simp [World.cell?, h.blk, rsCells], by simp [World.cell?, h.blk, rsCells], by simp [World.cell?, h.blk, rsCells], by simp [World.cell?, h.blk, rsCells], by simp [World.cell?, h.blk, rsCells], by simp [World.cell?, h.blk, rsCells], by simp [World.cell?, h.blk, rsCells]⟩
theorem Rs.fz (h : Rs base rb ib kb N gv fv f n w) (k : Nat) : w.frozen? ⟨rb, k, none⟩ = false := by simp [World.frozen?, h.blk]
end
theorem wtE_lo {U : Nat → S} {st : St} {x : Int} (h : hasB st.cand x = false) : wtE U st x = 0 := by unfold wtE; rw [h]; rfl
theorem hasB_nat {s : S} {y : Nat} (hy : y < 128) : hasB s (y : Int) = mem s y := by
  unfold hasB
  rw [show ((y : Int)).toNat = y by omega]
  have : (0 : Int) ≤ (y : Int) ∧ (y : Int) < 128 := by omega
  simp [this]
theorem hasB_out {s : S} {N : Nat} {x : Int} (h : ∀ x, mem s x = true → x < N) (hx : x < 0 ∨ (N : Int) ≤ x) : hasB s x = false := by
  cases e : hasB s x with
  | false => rfl
  | true =>
    simp only [hasB, Bool.and_eq_true, decide_eq_true_eq] at e
    have := h _ e.2
    omega

set_option maxRecDepth 100000 in
set_option maxHeartbeats 1000000 in
theorem rweight_any {base rb ib kb : Nat} {gv fv : Value} {f n : St} {w : World} {es : List (SlV × Int)} {g : List Nd} (h : Rs base rb ib kb g.length gv fv f n w) (hg : Dag.okG g) (hG : Gr w gv es g) (hlt : ∀ x, mem n.cand x = true → x < g.length) (x : Int) :
    Calls Try.prog 52 #[.pointer (some ⟨rb, 0, none⟩), .int .i64 x] w fun e w' => e = .returned (.int .i64 (wtE (anc g) n x : Nat)) ∧ Below w.heap.size w w' := by
  have hlen := hG.run_len
  have hgl := hg.1
  obtain ⟨c0, c1, c2, c3, c4, c5, c6⟩ := h.now
  by_cases hx0 : x < 0
  · have HE : Hid (wtE (anc g) n x = 0) := Lib.hid (wtE_lo (hasB_out hlt (.inl hx0)))
    have d0 : decide (x < 0) = true := decide_eq_true hx0
    clear hlt hx0
    go_enter Try.func52, Try.ntmps52
    go_wp2_with fail
    go_ret
    exact ⟨by rw [HE.out]; rfl, Below.refl _ _⟩
  · have d0 : decide (x < 0) = false := decide_eq_false hx0
    by_cases hxN : (g.length : Int) ≤ x
    · have HE : Hid (wtE (anc g) n x = 0) := Lib.hid (wtE_lo (hasB_out hlt (.inr hxN)))
      have d1 : decide (x ≥ (g.length : Int)) = true := decide_eq_true hxN
      clear hlt
      go_enter Try.func52, Try.ntmps52
      go_wp2_with fail
      go_ret
      exact ⟨by rw [HE.out]; rfl, Below.refl _ _⟩
    · obtain ⟨y, rfl⟩ : ∃ y : Nat, x = (y : Int) := ⟨x.toNat, by omega⟩
      have hy : y < g.length := by omega
      have d1 : decide ((y : Int) ≥ (g.length : Int)) = false := decide_eq_false hxN
      obtain ⟨e1, e2, e3⟩ := h.is.cell hy
      have hw : wtE (anc g) n y = if mem n.cand y = true then wt (anc g) n.cand y else 0 := by
        unfold wtE; rw [hasB_nat (by omega)]; rfl
      cases hc : mem n.cand y with
      | false =>
        rw [hc] at e1
        have HE : Hid (wtE (anc g) n y = 0) := Lib.hid (by rw [hw, hc]; rfl)
        clear hlt hw hc hxN hx0
        go_enter Try.func52, Try.ntmps52
        go_wp2_with fail
        go_ret
        exact ⟨by rw [HE.out]; rfl, Below.refl _ _⟩
      | true =>
        rw [hc] at e1
        have HR := Lib.hid h
        have HE : Hid (wtE (anc g) n y = wt (anc g) n.cand y) := Lib.hid (by rw [hw, hc]; rfl)
        have HU := Lib.hid (up1_any gv w es g y y rfl hg hy hG)
        have HG := Lib.hid hg
        have HF : Hid (wt (anc g) n.cand y = (Dag.filtN (mem (anc g y &&& n.cand)) g.length).length) := Lib.hid (by
          unfold wt
          exact (cnt_filtN (fun x hx => by rw [mem_and, Bool.and_eq_true] at hx; exact hlt x hx.2) hgl).symm)
        clear hlt hw hc hxN hx0 h hG hg
        go_enter Try.func52, Try.ntmps52
        go_wp2_with fail
        refine HU.out.mono ?_
        rintro e w1 ⟨ub, rfl, hub, hu, hb⟩
        have HB1 := Lib.hid hb
        have HBu : Hid (Bl ub ub g.length (mem (anc g y)) w1) := Lib.hid (hu.congr (fun x hx => by rw [mem_anc HG.out]; simp [hx]))
        have HR1 := Lib.hid (HR.out.ext hb)
        clear hu hb HU hub c0 c1 c2 c3 c4 c5 c6 e1 e2 e3 d0 d1 HG
        obtain ⟨A, hA⟩ : ∃ A, Hid (anc g y = A) := ⟨_, Lib.hid rfl⟩
        rw [hA.out] at HBu HF
        go_wp2_with fail
        go_loopw [6, 7] (fun m i wr => ∃ (k : Nat), i = .int .i64 k ∧ k ≤ g.length ∧ m = .int .i64 ((Dag.filtN (mem (A &&& n.cand)) k).length : Nat) ∧ Hid (Below w1.heap.size w1 wr)) (fun _ i _ => g.length - (intOf i).toNat)
        case atStart => exact ⟨0, rfl, by omega, rfl, Lib.hid (Below.refl _ _)⟩
        case round =>
          obtain ⟨k, rfl, hk, rfl, HW⟩ := hrel
          by_cases hk2 : k < g.length
          · have hR := HR1.out.ext HW.out
            obtain ⟨-, c1, -⟩ := hR.now
            obtain ⟨e1, -, -⟩ := hR.is.cell hk2
            obtain ⟨q1, -, -⟩ := (HBu.out.ext HW.out).cell hk2
            have HT := Lib.hid (trues_snoc (mem (A &&& n.cand)) k)
            have hfl := Dag.filtN_len (p := mem (A &&& n.cand)) k
            obtain ⟨m, hm⟩ : ∃ m, Hid ((Dag.filtN (mem (A &&& n.cand)) k).length = m) := ⟨_, Lib.hid rfl⟩
            rw [hm.out] at hfl ⊢
            have hwr : IntKind.i64.wrap ((m : Int) + 1) = (m : Int) + 1 := by rw [IntKind.wrap_i64]; omega
            rw [mem_and] at HT
            clear hR
            cases ha : mem A k with
            | false =>
              rw [ha] at q1 HT
              clear ha hfl
              go_wp2_with fail
              go_roundw
              case rel => exact ⟨k + 1, by go_num, by omega, by rw [HT.out]; simp [hm.out], HW⟩
              case measure => simp [intOf]; omega
            | true =>
              rw [ha] at q1 HT
              cases hc : mem n.cand k with
              | false =>
                rw [hc] at e1 HT
                clear ha hc hfl
                go_wp2_with fail
                go_roundw
                case rel => exact ⟨k + 1, by go_num, by omega, by rw [HT.out]; simp [hm.out], HW⟩
                case measure => simp [intOf]; omega
              | true =>
                rw [hc] at e1 HT
                clear ha hc
                go_wp2_with fail
                go_roundw
                case rel => exact ⟨k + 1, by go_num, by omega, by rw [HT.out]; simp [hm.out], HW⟩
                case measure => simp [intOf]; omega
          · obtain rfl : k = g.length := by omega
            go_wp2_with fail
            go_ret
            exact ⟨by rw [HE.out, HF.out]; rfl, bthen HB1.out HW.out⟩
end Go.Proofs.Ytcpmnocknpalfaa

namespace Go.Proofs.Ytcpmnocknpalfaa
open Go.RowKit Go.Sl Go.B64 Go.Bis
set_option linter.unusedVariables false

def bestI (a : Acc) : Int := match a with | none => -1 | some (b, _) => b
def worthI (a : Acc) : Int := match a with | none => 0 | some (_, x) => x
theorem up1_cases (a : Acc) (v : Nat → Nat) (k : Nat) (bi wi V : Int) (hb : bestI a = bi) (hw : worthI a = wi) (hV : (v k : Int) = V) :
    (decide (bi < 0) = true ∧ bestI (up1 v a k) = k ∧ worthI (up1 v a k) = V) ∨ (decide (bi < 0) = false ∧ decide (V > wi) = true ∧ bestI (up1 v a k) = k ∧ worthI (up1 v a k) = V) ∨
    (decide (bi < 0) = false ∧ decide (V > wi) = false ∧ bestI (up1 v a k) = bi ∧ worthI (up1 v a k) = wi) := by
  subst hb hw hV
  cases a with
  | none => exact .inl ⟨decide_eq_true (by decide), rfl, rfl⟩
  | some p =>
    obtain ⟨b, x⟩ := p
    right
    have h0 : decide (bestI (some (b, x)) < 0) = false := decide_eq_false (by simp only [bestI]; omega)
    by_cases h : x < v k
    · exact .inl ⟨h0, decide_eq_true (by simp only [worthI]; omega), by simp [up1, h, bestI], by simp [up1, h, worthI]⟩
    · exact .inr ⟨h0, decide_eq_false (by simp only [worthI]; omega), by simp [up1, h], by simp [up1, h]⟩
theorem vl_cases (al a v : Nat) (AL A : Int) (h : a ≤ al) (hv : min a (al - a) = v) (h1 : (al : Int) = AL) (h2 : (a : Int) = A) : ∃ V : Int, (v : Int) = V ∧ ((decide (V < A) = true ∧ AL - A = V) ∨ (decide (AL - A < A) = false ∧ A = V)) := by
  subst h1 h2
  refine ⟨_, rfl, ?_⟩
  by_cases h : (al : Int) - a < a
  · exact .inl ⟨decide_eq_true (by omega), by omega⟩
  · exact .inr ⟨decide_eq_false h, by omega⟩
theorem wtE_of' {U : Nat → S} {st : St} {y : Nat} (h : mem st.cand y = true) (hy : y < 128) : wtE U st (y : Int) = wt U st.cand y := by
  unfold wtE; rw [hasB_nat hy, h]; rfl
theorem end_cases (a : Acc) (bi : Int) (h : bestI a = bi) : (decide (bi < 0) = true ∧ nxN a = 0 ∧ nxB a = false) ∨ (decide (bi < 0) = false ∧ (nxN a : Int) = bi ∧ nxB a = true) := by
  subst h
  cases a with
  | none => exact .inl ⟨decide_eq_true (by decide), rfl, rfl⟩
  | some p => exact .inr ⟨decide_eq_false (by simp only [bestI]; omega), rfl, rfl⟩

set_option maxRecDepth 100000 in
set_option maxHeartbeats 1000000 in
theorem rnext_any {base rb ib kb : Nat} {gv fv : Value} {f n : St} {w : World} {es : List (SlV × Int)} {g : List Nd} (h : Rs base rb ib kb g.length gv fv f n w) (hg : Dag.okG g) (hG : Gr w gv es g) (hlt : ∀ x, mem n.cand x = true → x < g.length) :
    Calls Try.prog 47 #[.pointer (some ⟨rb, 0, none⟩)] w fun e w' => e = .returned (.tuple #[.int .i64 (nxN (acc (anc g) n g.length) : Nat), .bool (nxB (acc (anc g) n g.length))]) ∧ Below w.heap.size w w' := by
  have hlen := hG.run_len
  have hgl := hg.1
  have HR := Lib.hid h
  have HG := Lib.hid hg
  have HGr := Lib.hid hG
  have HL := Lib.hid hlt
  obtain ⟨c0, c1, c2, c3, c4, c5, c6⟩ := h.now
  have HLi := Lib.hid (list_any ib base g.length (mem n.cand) w h.is (by omega))
  obtain ⟨al, hal⟩ : ∃ al, Hid (cnt n.cand = al) := ⟨_, Lib.hid rfl⟩
  have HCt : Hid ((Dag.filtN (mem n.cand) g.length).length = al) := Lib.hid ((cnt_filtN hlt hgl).trans hal.out)
  have hal2 : al ≤ 128 := by rw [← hal.out]; exact cnt_le _
  obtain ⟨AL, hAL⟩ : ∃ x : Int, Hid ((al : Int) = x) := ⟨_, Lib.hid rfl⟩
  have hAL2 : 0 ≤ AL ∧ AL ≤ 128 := by have := hAL.out; omega
  clear h hg hG hlt
  go_enter Try.func47, Try.ntmps47
  go_wp2_with fail
  refine HLi.out.mono ?_
  rintro e w1 ⟨lv, rfl, ho, hb⟩
  have HB1 := Lib.hid hb
  have hl1 := (ho.sl len_eInt).run_len (P := Try.prog) Try.underlying23
  rw [HCt.out, hAL.out] at hl1
  clear ho hb HLi c0 c1 c2 c3 c4 c5 c6
  go_wp2_with fail
  go_loopw [5, 6, 7] (fun b x i wr => ∃ (k : Nat) (bi wi : Int), i = .int .i64 k ∧ k ≤ g.length ∧ b = .int .i64 bi ∧ x = .int .i64 wi ∧ Hid (bestI (acc (anc g) n k) = bi) ∧ Hid (worthI (acc (anc g) n k) = wi) ∧ Hid (Below w.heap.size w wr)) (fun _ _ i _ => g.length - (intOf i).toNat)
  case atStart => exact ⟨0, _, _, rfl, by omega, rfl, rfl, Lib.hid rfl, Lib.hid rfl, HB1⟩
  case round =>
    obtain ⟨wo, rfl⟩ : ∃ u : World, u = wr := ⟨_, rfl⟩
    obtain ⟨k, bi, wi, rfl, hk, rfl, rfl, HBi, HWi, HW⟩ := hrel
    have HRo := Lib.hid (HR.out.ext HW.out)
    obtain ⟨c0, c1, c2, c3, -, -, -⟩ := HRo.out.now
    by_cases hk2 : k < g.length
    · obtain ⟨e1, -, -⟩ := HRo.out.is.cell hk2
      obtain ⟨d1, -, -⟩ := HRo.out.sk.cell hk2
      cases hc : mem n.cand k with
      | false =>
        have HA : Hid (acc (anc g) n (k + 1) = acc (anc g) n k) := Lib.hid (acc_shut (by unfold opn; rw [hc]; rfl))
        rw [hc] at e1
        clear hc d1
        go_wp2_with fail
        go_roundw
        case rel => exact ⟨k + 1, bi, wi, by go_num, by omega, rfl, rfl, Lib.hid (by rw [HA.out, HBi.out]), Lib.hid (by rw [HA.out, HWi.out]), HW⟩
        case measure => simp [intOf]; omega
      | true =>
        cases hs : mem n.skip k with
        | true =>
          have HA : Hid (acc (anc g) n (k + 1) = acc (anc g) n k) := Lib.hid (acc_shut (by unfold opn; rw [hc, hs]; rfl))
          rw [hc] at e1
          rw [hs] at d1
          clear hc hs
          go_wp2_with fail
          go_roundw
          case rel => exact ⟨k + 1, bi, wi, by go_num, by omega, rfl, rfl, Lib.hid (by rw [HA.out, HBi.out]), Lib.hid (by rw [HA.out, HWi.out]), HW⟩
          case measure => simp [intOf]; omega
        | false =>
          by_cases hw : k = n.worst
          · have HA : Hid (acc (anc g) n (k + 1) = acc (anc g) n k) := Lib.hid (acc_shut (by unfold opn; rw [hc, hs, decide_eq_true hw]; rfl))
            have dw : ((k : Int) == (n.worst : Int)) = true := by rw [hw]; simp
            rw [hc] at e1
            rw [hs] at d1
            clear hc hs hw
            go_wp2_with fail
            go_roundw
            case rel => exact ⟨k + 1, bi, wi, by go_num, by omega, rfl, rfl, Lib.hid (by rw [HA.out, HBi.out]), Lib.hid (by rw [HA.out, HWi.out]), HW⟩
            case measure => simp [intOf]; omega
          · have HA : Hid (acc (anc g) n (k + 1) = up1 (vl (anc g) n.cand) (acc (anc g) n k) k) := Lib.hid (acc_open (by unfold opn; rw [hc, hs, decide_eq_false hw]; rfl))
            have dw : ((k : Int) == (n.worst : Int)) = false := by rw [beq_eq_false_iff_ne]; omega
            obtain ⟨a, ha⟩ : ∃ a, Hid (wt (anc g) n.cand k = a) := ⟨_, Lib.hid rfl⟩
            obtain ⟨A, hA⟩ : ∃ x : Int, Hid ((a : Int) = x) := ⟨_, Lib.hid rfl⟩
            have HWt := Lib.hid (rweight_any HRo.out HG.out (HGr.out.ext HW.out) HL.out (k : Int))
            rw [wtE_of' hc (by omega), ha.out, hA.out] at HWt
            have hle : a ≤ al := by rw [← ha.out, ← hal.out]; exact wt_le _ _ _
            obtain ⟨V, hV, hcs⟩ := vl_cases al a (vl (anc g) n.cand k) AL A hle (by unfold vl; rw [ha.out, hal.out]) hAL.out hA.out
            have hup := up1_cases (acc (anc g) n k) (vl (anc g) n.cand) k bi wi V HBi.out HWi.out hV
            have hA2 : 0 ≤ A ∧ A ≤ 128 := by have := hA.out; omega
            rw [hc] at e1
            rw [hs] at d1
            clear hc hs hw hle hV HBi HWi
            rcases hcs with ⟨s1, s2⟩ | ⟨s1, rfl⟩
            all_goals
              rcases hup with ⟨u1, h2, h3⟩ | ⟨u1, u2, h2, h3⟩ | ⟨u1, u2, h2, h3⟩
              all_goals
                have H2 := Lib.hid h2
                have H3 := Lib.hid h3
                clear h2 h3
                go_wp2_with fail
                refine HWt.out.mono ?_
                rintro e w2 ⟨rfl, hb2⟩
                have HB2 := Lib.hid (bthen HW.out hb2)
                clear hb2 HWt c0 c1 c2 c3 e1 d1
                go_wp2_with fail
                go_roundw
                case rel => exact ⟨k + 1, _, _, by go_num, by omega, rfl, rfl, Lib.hid (by rw [HA.out]; exact H2.out), Lib.hid (by rw [HA.out]; exact H3.out), HB2⟩
                case measure => simp [intOf]; omega
    · obtain rfl : k = g.length := by omega
      have hd := end_cases _ bi HBi.out
      clear HBi HWi HRo
      rcases hd with ⟨d0, h2, h3⟩ | ⟨d0, h2, h3⟩
      · have H2 := Lib.hid h2
        have H3 := Lib.hid h3
        clear h2 h3
        go_wp2_with fail
        go_ret2
        exact ⟨by rw [H2.out, H3.out]; rfl, HW.out⟩
      · have H2 := Lib.hid h2
        have H3 := Lib.hid h3
        clear h2 h3
        go_wp2_with fail
        go_ret2
        exact ⟨by rw [H2.out, H3.out]; rfl, HW.out⟩
end Go.Proofs.Ytcpmnocknpalfaa

namespace Go.Proofs.Ytcpmnocknpalfaa
open Go.RowKit Go.Sl Go.B64 Go.Bis
set_option linter.unusedVariables false

/-- the document's session, its truths whatever they are -/
structure Rq (base rb ib kb N : Nat) (gv fv : Value) (f : St) (is sk : Nat → Bool) (wo an : Nat) (w : World) : Prop where
  hb : base ≤ rb
  blk : w.heap[rb]? = some (.cells #[gv, slB ib N, slB kb N, .int .i64 (wo : Int), .int .i64 (an : Int), fv, .int .i64 (f.worst : Int)] 109 (0, 0))
  is : Bl base ib N is w
  sk : Bl base kb N sk w
  ne : ib ≠ kb
  fi : Own eBool 1 base 4 w fv ((List.range N).map (mem f.cand))
  fi1 : fv.ownBlock ≠ some ib
  fi2 : fv.ownBlock ≠ some kb
section
variable {base rb ib kb N : Nat} {gv fv : Value} {f n : St} {is sk : Nat → Bool} {wo an : Nat} {w w' : World}
theorem Rs.rq (h : Rs base rb ib kb N gv fv f n w) : Rq base rb ib kb N gv fv f (mem n.cand) (mem n.skip) n.worst n.ans w := ⟨h.hb, h.blk, h.is, h.sk, h.ne, h.fi, h.fi1, h.fi2⟩
theorem Rq.rs (h : Rq base rb ib kb N gv fv f is sk wo an w) (n : St) (h1 : ∀ x, x < N → is x = mem n.cand x) (h2 : ∀ x, x < N → sk x = mem n.skip x) (h3 : wo = n.worst) (h4 : an = n.ans) : Rs base rb ib kb N gv fv f n w := by
  subst h3 h4
  exact ⟨h.hb, h.blk, h.is.congr h1, h.sk.congr h2, h.ne, h.fi, h.fi1, h.fi2⟩
theorem Rq.ext (h : Rq base rb ib kb N gv fv f is sk wo an w) (hb : Below w.heap.size w w') : Rq base rb ib kb N gv fv f is sk wo an w' :=
  ⟨h.hb, (hb.block _ (Array.getElem?_eq_some_iff.1 h.blk).1).trans h.blk, h.is.ext hb, h.sk.ext hb, h.ne, h.fi.ext hb, h.fi1, h.fi2⟩
theorem Rq.lt (h : Rq base rb ib kb N gv fv f is sk wo an w) : rb < w.heap.size := (Array.getElem?_eq_some_iff.1 h.blk).1
theorem Rq.now (h : Rq base rb ib kb N gv fv f is sk wo an w) : w.cell? ⟨rb, 0, none⟩ = some gv ∧ w.cell? ⟨rb, 1, none⟩ = some (slB ib N) ∧ w.cell? ⟨rb, 2, none⟩ = some (slB kb N) ∧ w.cell? ⟨rb, 3, none⟩ = some (.int .i64 (wo : Int)) ∧
    w.cell? ⟨rb, 4, none⟩ = some (.int .i64 (an : Int)) ∧ w.cell? ⟨rb, 5, none⟩ = some fv ∧ w.cell? ⟨rb, 6, none⟩ = some (.int .i64 (f.worst : Int)) :=
  ⟨by simp [World.cell?, h.blk], by simp [World.cell?, h.blk], by simp [World.cell?, h.blk], by simp [World.cell?, h.blk], by simp [World.cell?, h.blk], by simp [World.cell?, h.blk], by simp [World.cell?, h.blk]⟩
theorem Rq.fz (h : Rq base rb ib kb N gv fv f is sk wo an w) (k : Nat) : w.frozen? ⟨rb, k, none⟩ = false := by simp [World.frozen?, h.blk]
theorem ne_blk {w : World} {a b : Nat} {c c' : Array Value} {e e' : TypeId} {fr fr' : Nat × Nat} (h : w.heap[a]? = some (.cells c e fr)) (h' : w.heap[b]? = some (.cells c' e' fr')) (he : e ≠ e') : a ≠ b := fun x => by
  subst x; rw [h] at h'; simp only [Option.some.injEq, Obj.cells.injEq] at h'; exact he h'.2.1
theorem Rq.ri (h : Rq base rb ib kb N gv fv f is sk wo an w) : rb ≠ ib := ne_blk h.blk h.is.blk (by decide)
theorem Rq.rk (h : Rq base rb ib kb N gv fv f is sk wo an w) : rb ≠ kb := ne_blk h.blk h.sk.blk (by decide)
theorem Rq.fr (h : Rq base rb ib kb N gv fv f is sk wo an w) : fv.ownBlock ≠ some rb := h.fi.ne_elem h.blk (by decide)
theorem Rq.setIs (h : Rq base rb ib kb N gv fv f is sk wo an w) (k : Nat) (v : Bool) : Rq base rb ib kb N gv fv f (Dag.upd is k v) sk wo an (w.setCell ⟨ib, k, none⟩ (.bool v)) ∧ Below base w (w.setCell ⟨ib, k, none⟩ (.bool v)) :=
  ⟨⟨h.hb, heap_set_keep (a := ⟨ib, k, none⟩) h.blk h.ri, h.is.set k v, h.sk.other h.ne.symm _, h.ne, h.fi.set_other h.fi1 (a := ⟨ib, k, none⟩) _, h.fi1, h.fi2⟩, (Below.refl base w).setCell (p := ⟨ib, k, none⟩) h.is.hb _⟩
theorem Rq.setSk (h : Rq base rb ib kb N gv fv f is sk wo an w) (k : Nat) (v : Bool) : Rq base rb ib kb N gv fv f is (Dag.upd sk k v) wo an (w.setCell ⟨kb, k, none⟩ (.bool v)) ∧ Below base w (w.setCell ⟨kb, k, none⟩ (.bool v)) :=
  ⟨⟨h.hb, heap_set_keep (a := ⟨kb, k, none⟩) h.blk h.rk, h.is.other h.ne _, h.sk.set k v, h.ne, h.fi.set_other h.fi2 (a := ⟨kb, k, none⟩) _, h.fi1, h.fi2⟩, (Below.refl base w).setCell (p := ⟨kb, k, none⟩) h.sk.hb _⟩
theorem Rq.setWo (h : Rq base rb ib kb N gv fv f is sk wo an w) (x : Nat) : Rq base rb ib kb N gv fv f is sk x an (w.setCell ⟨rb, 3, none⟩ (.int .i64 (x : Int))) ∧ Below base w (w.setCell ⟨rb, 3, none⟩ (.int .i64 (x : Int))) :=
  ⟨⟨h.hb, by rw [Lib.heap_setCell_same (i := 3) h.blk _]; simp, h.is.other (Ne.symm h.ri) _, h.sk.other (Ne.symm h.rk) _, h.ne, h.fi.set_other h.fr (a := ⟨rb, 3, none⟩) _, h.fi1, h.fi2⟩, (Below.refl base w).setCell (p := ⟨rb, 3, none⟩) h.hb _⟩
theorem Rq.setAn (h : Rq base rb ib kb N gv fv f is sk wo an w) (x : Nat) : Rq base rb ib kb N gv fv f is sk wo x (w.setCell ⟨rb, 4, none⟩ (.int .i64 (x : Int))) ∧ Below base w (w.setCell ⟨rb, 4, none⟩ (.int .i64 (x : Int))) :=
  ⟨⟨h.hb, by rw [Lib.heap_setCell_same (i := 4) h.blk _]; simp, h.is.other (Ne.symm h.ri) _, h.sk.other (Ne.symm h.rk) _, h.ne, h.fi.set_other h.fr (a := ⟨rb, 4, none⟩) _, h.fi1, h.fi2⟩, (Below.refl base w).setCell (p := ⟨rb, 4, none⟩) h.hb _⟩
theorem Rs.kept {sb : Nat} (h : Rs base rb ib kb N gv fv f n w) (hg : w.grownBy w' (some sb)) (hs : sb < base) : Rs base rb ib kb N gv fv f n w' := by
  have key : ∀ {b : Nat} {o : Obj}, base ≤ b → w.heap[b]? = some o → w'.heap[b]? = some o := fun hb h => grown_heap hg h (fun e => by cases e; omega)
  refine ⟨h.hb, key h.hb h.blk, ⟨h.is.hb, key h.is.hb h.is.blk⟩, ⟨h.sk.hb, key h.sk.hb h.sk.blk⟩, h.ne, h.fi.kept hg ?_, h.fi1, h.fi2⟩
  cases e : fv.ownBlock with
  | none => exact .inl rfl
  | some b => exact .inr (fun e2 => by cases e2; have := (h.fi.lt _ e).1; omega)
end
/-- the loop of an answer: the first k truths are cut -/
def cutF (c A : Nat → Bool) (t : Bool) (k x : Nat) : Bool := if x < k then (c x && (A x == t)) else c x
theorem cutF_zero (c A : Nat → Bool) (t : Bool) : cutF c A t 0 = c := funext fun x => by simp [cutF]
theorem cutF_step (c A : Nat → Bool) (t : Bool) (k : Nat) : Dag.upd (cutF c A t k) k (c k && (A k == t)) = cutF c A t (k + 1) := funext fun x => by
  unfold Dag.upd cutF
  by_cases e : x = k
  · subst e; simp
  · by_cases h : x < k
    · simp [e, h, show x < k + 1 by omega]
    · simp [e, h, show ¬ x < k + 1 by omega]
theorem cutF_at (c A : Nat → Bool) (t : Bool) (k : Nat) : cutF c A t k k = c k := by simp [cutF]

theorem sayE_50 {U : Nat → S} {N : Nat} {st : St} {what : Nat} {n : Int} (h : nxB (acc U st N) = false) : sayE U N st what n = 50 := by unfold sayE; rw [if_pos h]
theorem sayE_2 {U : Nat → S} {N : Nat} {st : St} {what : Nat} {n : Int} (h : nxB (acc U st N) = true) (h2 : ¬ (0 ≤ n ∧ n < N ∧ mem st.cand n.toNat = true ∧ n.toNat ≠ st.worst ∧ (what = 2 → mem st.skip n.toNat = false))) : sayE U N st what n = 2 := by unfold sayE; rw [if_neg (by simp [h]), if_neg h2]
theorem sayE_0 {U : Nat → S} {N : Nat} {st : St} {what : Nat} {n : Int} (h : nxB (acc U st N) = true) (h2 : 0 ≤ n ∧ n < N ∧ mem st.cand n.toNat = true ∧ n.toNat ≠ st.worst ∧ (what = 2 → mem st.skip n.toNat = false)) : sayE U N st what n = 0 := by unfold sayE; rw [if_neg (by simp [h]), if_pos h2]
theorem sayS_no {U : Nat → S} {N : Nat} {st : St} {what : Nat} {n : Int} {e : Nat} (h : sayE U N st what n = e) (he : e ≠ 0) : sayS U N st what n = st := by unfold sayS; rw [if_neg (by omega)]

set_option maxRecDepth 100000 in
set_option maxHeartbeats 1000000 in
/-- an answer that is refused -/
theorem rsay_no {base rb ib kb : Nat} {gv fv : Value} {f n : St} {w : World} {es : List (SlV × Int)} {g : List Nd} (h : Rs base rb ib kb g.length gv fv f n w) (hg : Dag.okG g) (hG : Gr w gv es g) (hlt : ∀ x, mem n.cand x = true → x < g.length) (k : Nat) (x : Int)
    (hno : sayE (anc g) g.length n k x ≠ 0) :
    Calls Try.prog 50 #[.pointer (some ⟨rb, 0, none⟩), .int .i64 (k : Int), .int .i64 x] w fun e w' => e = .returned (.int .i64 (sayE (anc g) g.length n k x : Nat)) ∧ Below w.heap.size w w' := by
  have hlen := hG.run_len
  have hgl := hg.1
  have HR := Lib.hid h
  have HX := Lib.hid (rnext_any h hg hG hlt)
  obtain ⟨nb, hnb⟩ : ∃ b, Hid (nxB (acc (anc g) n g.length) = b) := ⟨_, Lib.hid rfl⟩
  have HNo := Lib.hid hno
  rw [hnb.out] at HX
  clear h hG hlt hno hg
  cases nb with
  | false =>
    have HE := Lib.hid (sayE_50 (what := k) (n := x) hnb.out)
    clear HNo hnb
    go_enter Try.func50, Try.ntmps50
    go_wp2_with fail
    refine HX.out.mono ?_
    rintro e w1 ⟨rfl, hb⟩
    have HB := Lib.hid hb
    clear hb HX
    go_wp2_with fail
    go_ret
    exact ⟨by rw [HE.out]; rfl, HB.out⟩
  | true =>
    have hn2 : ¬ (0 ≤ x ∧ x < g.length ∧ mem n.cand x.toNat = true ∧ x.toNat ≠ n.worst ∧ (k = 2 → mem n.skip x.toNat = false)) := fun h2 => HNo.out (sayE_0 hnb.out h2)
    have HE := Lib.hid (sayE_2 hnb.out hn2)
    clear HNo hnb
    by_cases hx0 : x < 0
    · have d0 : decide (x < 0) = true := decide_eq_true hx0
      clear hn2 hx0
      go_enter Try.func50, Try.ntmps50
      go_wp2_with fail
      refine HX.out.mono ?_
      rintro e w1 ⟨rfl, hb⟩
      have HB := Lib.hid hb
      obtain ⟨c0, c1, c2, c3, c4, c5, c6⟩ := (HR.out.ext hb).now
      clear hb HX
      go_wp2_with fail
      go_ret
      exact ⟨by rw [HE.out]; rfl, HB.out⟩
    · have d0 : decide (x < 0) = false := decide_eq_false hx0
      by_cases hxN : (g.length : Int) ≤ x
      · have d1 : decide (x ≥ (g.length : Int)) = true := decide_eq_true hxN
        clear hn2 hx0
        go_enter Try.func50, Try.ntmps50
        go_wp2_with fail
        refine HX.out.mono ?_
        rintro e w1 ⟨rfl, hb⟩
        have HB := Lib.hid hb
        obtain ⟨c0, c1, c2, c3, c4, c5, c6⟩ := (HR.out.ext hb).now
        clear hb HX
        go_wp2_with fail
        go_ret
        exact ⟨by rw [HE.out]; rfl, HB.out⟩
      · obtain ⟨y, rfl⟩ : ∃ y : Nat, x = (y : Int) := ⟨x.toNat, by omega⟩
        have hy : y < g.length := by omega
        have d1 : decide ((y : Int) ≥ (g.length : Int)) = false := decide_eq_false hxN
        have hn3 : mem n.cand y = false ∨ (mem n.cand y = true ∧ y = n.worst) ∨ (mem n.cand y = true ∧ y ≠ n.worst ∧ k = 2 ∧ mem n.skip y = true) := by
          rw [show ((y : Int)).toNat = y by omega] at hn2
          cases hc : mem n.cand y with
          | false => exact .inl rfl
          | true =>
            by_cases hw : y = n.worst
            · exact .inr (.inl ⟨rfl, hw⟩)
            · refine .inr (.inr ⟨rfl, hw, ?_⟩)
              by_cases hk : k = 2
              · refine ⟨hk, ?_⟩
                cases hs : mem n.skip y with
                | true => rfl
                | false => exact absurd ⟨by omega, by omega, hc, hw, fun _ => hs⟩ hn2
              · exact absurd ⟨by omega, by omega, hc, hw, fun e => absurd e hk⟩ hn2
        clear hn2 hxN hx0
        rcases hn3 with hc | ⟨hc, hw⟩ | ⟨hc, hw, rfl, hs⟩
        · go_enter Try.func50, Try.ntmps50
          go_wp2_with fail
          refine HX.out.mono ?_
          rintro e w1 ⟨rfl, hb⟩
          have HB := Lib.hid hb
          have hR := HR.out.ext hb
          obtain ⟨c0, c1, c2, c3, c4, c5, c6⟩ := hR.now
          obtain ⟨e1, -, -⟩ := hR.is.cell hy
          rw [hc] at e1
          clear hb HX hR hc
          go_wp2_with fail
          go_ret
          exact ⟨by rw [HE.out]; rfl, HB.out⟩
        · have dw : ((y : Int) == (n.worst : Int)) = true := by rw [hw]; simp
          go_enter Try.func50, Try.ntmps50
          go_wp2_with fail
          refine HX.out.mono ?_
          rintro e w1 ⟨rfl, hb⟩
          have HB := Lib.hid hb
          have hR := HR.out.ext hb
          obtain ⟨c0, c1, c2, c3, c4, c5, c6⟩ := hR.now
          obtain ⟨e1, -, -⟩ := hR.is.cell hy
          rw [hc] at e1
          clear hb HX hR hc hw
          go_wp2_with fail
          go_ret
          exact ⟨by rw [HE.out]; rfl, HB.out⟩
        · have dw : ((y : Int) == (n.worst : Int)) = false := by rw [beq_eq_false_iff_ne]; omega
          go_enter Try.func50, Try.ntmps50
          go_wp2_with fail
          refine HX.out.mono ?_
          rintro e w1 ⟨rfl, hb⟩
          have HB := Lib.hid hb
          have hR := HR.out.ext hb
          obtain ⟨c0, c1, c2, c3, c4, c5, c6⟩ := hR.now
          obtain ⟨e1, -, -⟩ := hR.is.cell hy
          obtain ⟨e2, -, -⟩ := hR.sk.cell hy
          rw [hc] at e1
          rw [hs] at e2
          clear hb HX hR hc hw hs
          go_wp2_with fail
          go_ret
          exact ⟨by rw [HE.out]; rfl, HB.out⟩
end Go.Proofs.Ytcpmnocknpalfaa

namespace Go.Proofs.Ytcpmnocknpalfaa
open Go.RowKit Go.Sl Go.B64 Go.Bis
set_option linter.unusedVariables false

/-- a graph that lies below -/
def Gk (base : Nat) (gv : Value) (es : List (SlV × Int)) (g : List Nd) (w : World) : Prop := ∃ w0 : World, w0.heap.size ≤ base ∧ Gr w0 gv es g ∧ Below w0.heap.size w0 w
theorem Gk.gr {base : Nat} {gv : Value} {es : List (SlV × Int)} {g : List Nd} {w : World} (h : Gk base gv es g w) : Gr w gv es g := by
  obtain ⟨w0, h1, h2, h3⟩ := h; exact h2.ext h3
theorem Gk.ext {base : Nat} {gv : Value} {es : List (SlV × Int)} {g : List Nd} {w w' : World} (h : Gk base gv es g w) (hb : Below base w w') : Gk base gv es g w' := by
  obtain ⟨w0, h1, h2, h3⟩ := h; exact ⟨w0, h1, h2, h3.trans (hb.mono h1)⟩
section
variable {base rb ib kb N : Nat} {gv fv : Value} {f n : St} {is sk : Nat → Bool} {wo an : Nat} {w w' : World}
theorem Rq.incAn (h : Rq base rb ib kb N gv fv f is sk wo an w) : Rq base rb ib kb N gv fv f is sk wo (an + 1) (w.setCell ⟨rb, 4, none⟩ (.int .i64 ((an : Int) + 1))) ∧ Below base w (w.setCell ⟨rb, 4, none⟩ (.int .i64 ((an : Int) + 1))) := by
  have := h.setAn (an + 1)
  rwa [show ((an + 1 : Nat) : Int) = (an : Int) + 1 by omega] at this
theorem Rq.below (h : Rq base rb ib kb N gv fv f is sk wo an w) (hb : Below w.heap.size w w') : Below base w w' := hb.mono (Nat.le_trans h.hb (Nat.le_of_lt h.lt))
end

set_option maxRecDepth 100000 in
set_option maxHeartbeats 1000000 in
/-- skipped -/
theorem rsay_skip {base rb ib kb : Nat} {gv fv : Value} {f n : St} {w : World} {es : List (SlV × Int)} {g : List Nd} (h : Rs base rb ib kb g.length gv fv f n w) (hg : Dag.okG g) (hG : Gr w gv es g) (hlt : ∀ x, mem n.cand x = true → x < g.length) (han : n.ans < 1000) (y : Nat)
    (hnb : nxB (acc (anc g) n g.length) = true) (hc : mem n.cand y = true) (hw : y ≠ n.worst) (hs : mem n.skip y = false) :
    Calls Try.prog 50 #[.pointer (some ⟨rb, 0, none⟩), .int .i64 2, .int .i64 (y : Int)] w fun e w' => e = .returned (.int .i64 0) ∧ Below base w w' ∧ Rs base rb ib kb g.length gv fv f ⟨n.cand, n.skip ||| one y, n.worst, n.ans + 1⟩ w' := by
  have hlen := hG.run_len
  have hgl := hg.1
  have HR := Lib.hid h
  have HX := Lib.hid (rnext_any h hg hG hlt)
  rw [hnb] at HX
  have hy := hlt y hc
  have d0 : decide ((y : Int) < 0) = false := decide_eq_false (by omega)
  have d1 : decide ((y : Int) ≥ (g.length : Int)) = false := decide_eq_false (by omega)
  have dw : ((y : Int) == (n.worst : Int)) = false := by rw [beq_eq_false_iff_ne]; omega
  obtain ⟨an, hn⟩ : ∃ an, Hid (n.ans = an) := ⟨_, Lib.hid rfl⟩
  have hwr : IntKind.i64.wrap ((an : Int) + 1) = (an : Int) + 1 := by rw [IntKind.wrap_i64]; have := hn.out; omega
  have han2 : an < 1000 := by rw [← hn.out]; exact han
  clear h hG hlt hg hw hnb han
  go_enter Try.func50, Try.ntmps50
  go_wp2_with fail
  refine HX.out.mono ?_
  rintro e w1 ⟨rfl, hb⟩
  have HB := Lib.hid (HR.out.rq.below hb)
  have HR1 := Lib.hid (HR.out.ext hb).rq
  rw [hn.out] at HR1
  obtain ⟨c0, c1, c2, c3, c4, c5, c6⟩ := HR1.out.now
  have q4 := HR1.out.fz 4
  obtain ⟨e1, -, -⟩ := HR1.out.is.cell hy
  obtain ⟨e2, -, -⟩ := HR1.out.sk.cell hy
  rw [hc] at e1
  rw [hs] at e2
  clear hb HX
  go_upto_region 7 with fail
  obtain ⟨hq2, hb2⟩ := HR1.out.incAn
  obtain ⟨w2, hw2⟩ : ∃ u, Hid (u = w1.setCell ⟨rb, 4, none⟩ (.int .i64 ((an : Int) + 1))) := ⟨_, Lib.hid rfl⟩
  rw [← hw2.out] at hq2 hb2 ⊢
  have HB2 := Lib.hid (HB.out.trans hb2)
  have HR2 := Lib.hid hq2
  clear hw2 hb2 hq2 c0 c1 c2 c3 c4 c5 c6 q4 e1 e2 HR1
  obtain ⟨c0, c1, c2, c3, c4, c5, c6⟩ := HR2.out.now
  obtain ⟨e2, q2, -⟩ := HR2.out.sk.cell hy
  obtain ⟨hq3, hb3⟩ := HR2.out.setSk y true
  have HB3 := Lib.hid (HB2.out.trans hb3)
  have HR3 := Lib.hid hq3
  clear hq3 hb3
  go_wp2_with fail
  go_ret
  refine ⟨rfl, HB3.out, HR3.out.rs ⟨n.cand, n.skip ||| one y, n.worst, n.ans + 1⟩ (fun x _ => rfl) (fun x hx => ?_) rfl (by rw [hn.out])⟩
  show _ = mem (n.skip ||| one y) x
  rw [mem_or, mem_one (by omega)]
  unfold Dag.upd
  by_cases e : x = y
  · simp [e]
  · simp [e]
end Go.Proofs.Ytcpmnocknpalfaa

namespace Go.Proofs.Ytcpmnocknpalfaa
open Go.RowKit Go.Sl Go.B64 Go.Bis
set_option linter.unusedVariables false

set_option maxRecDepth 100000 in
set_option maxHeartbeats 2000000 in
theorem rsay_good {base rb ib kb : Nat} {gv fv : Value} {f n : St} {w : World} {es : List (SlV × Int)} {g : List Nd} (h : Rs base rb ib kb g.length gv fv f n w) (hg : Dag.okG g) (hG : Gk base gv es g w) (hlt : ∀ x, mem n.cand x = true → x < g.length) (han : n.ans < 1000) (y : Nat)
    (hnb : nxB (acc (anc g) n g.length) = true) (hc : mem n.cand y = true) (hw : y ≠ n.worst) :
    Calls Try.prog 50 #[.pointer (some ⟨rb, 0, none⟩), .int .i64 0, .int .i64 (y : Int)] w fun e w' => e = .returned (.int .i64 0) ∧ Below base w w' ∧ Rs base rb ib kb g.length gv fv f ⟨n.cand &&& ~~~ anc g y, n.skip, n.worst, n.ans + 1⟩ w' := by
  have hlen := hG.gr.run_len
  have hgl := hg.1
  have HR := Lib.hid h
  have HG := Lib.hid hg
  have HX := Lib.hid (rnext_any h hg hG.gr hlt)
  rw [hnb] at HX
  have hy := hlt y hc
  have d0 : decide ((y : Int) < 0) = false := decide_eq_false (by omega)
  have d1 : decide ((y : Int) ≥ (g.length : Int)) = false := decide_eq_false (by omega)
  have dw : ((y : Int) == (n.worst : Int)) = false := by rw [beq_eq_false_iff_ne]; omega
  obtain ⟨an, hn⟩ : ∃ an, Hid (n.ans = an) := ⟨_, Lib.hid rfl⟩
  have hwr : IntKind.i64.wrap ((an : Int) + 1) = (an : Int) + 1 := by rw [IntKind.wrap_i64]; have := hn.out; omega
  have han2 : an < 1000 := by rw [← hn.out]; exact han
  have HGk := Lib.hid hG
  clear h hG hlt hg hw hnb han
  go_enter Try.func50, Try.ntmps50
  go_wp2_with fail
  refine HX.out.mono ?_
  rintro e w1 ⟨rfl, hb⟩
  have HB := Lib.hid (HR.out.rq.below hb)
  have HR1 := Lib.hid (HR.out.ext hb).rq
  rw [hn.out] at HR1
  obtain ⟨c0, c1, c2, c3, c4, c5, c6⟩ := HR1.out.now
  have q4 := HR1.out.fz 4
  obtain ⟨e1, -, -⟩ := HR1.out.is.cell hy
  rw [hc] at e1
  clear hb HX
  go_upto_region 7 with fail
  obtain ⟨hq2, hb2⟩ := HR1.out.incAn
  obtain ⟨w2, hw2⟩ : ∃ u, Hid (u = w1.setCell ⟨rb, 4, none⟩ (.int .i64 ((an : Int) + 1))) := ⟨_, Lib.hid rfl⟩
  rw [← hw2.out] at hq2 hb2 ⊢
  have HB2 := Lib.hid (HB.out.trans hb2)
  have HR2 := Lib.hid hq2
  clear hw2 hb2 hq2 c0 c1 c2 c3 c4 c5 c6 q4 e1 HR1
  obtain ⟨c0, c1, c2, c3, c4, c5, c6⟩ := HR2.out.now
  have HU := Lib.hid (up1_any gv w2 es g y y rfl HG.out hy (HGk.out.ext HB2.out).gr)
  go_wp2_with fail
  refine HU.out.mono ?_
  rintro e w3 ⟨ub, rfl, hub, hu, hb⟩
  obtain ⟨A, hA⟩ : ∃ A, Hid (anc g y = A) := ⟨_, Lib.hid rfl⟩
  have HUb : Hid (Bl ub ub g.length (mem A) w3) := Lib.hid (hu.congr (fun x hx => by rw [← hA.out, mem_anc HG.out]; simp [hx]))
  have hib : ib < w2.heap.size := by
    have := (Array.getElem?_eq_some_iff.1 HR2.out.is.blk).1; exact this
  have hne : ub ≠ ib := by omega
  have HB3 := Lib.hid (HB2.out.trans (HR2.out.below hb))
  have hR3 := HR2.out.ext hb
  rw [← cutF_zero (mem n.cand) (mem A) false] at hR3
  have HR3 := Lib.hid hR3
  clear hu hb HU hub hR3 HR2 hib c0 c1 c2 c3 c4 c5 c6 d0 d1 dw hwr hc HB
  go_wp2_with fail
  go_loopw [10] (fun i wr => ∃ (j : Nat), i = .int .i64 j ∧ j ≤ g.length ∧ Hid (Rq base rb ib kb g.length gv fv f (cutF (mem n.cand) (mem A) false j) (mem n.skip) n.worst (an + 1) wr) ∧ Hid (Bl ub ub g.length (mem A) wr) ∧ Hid (Below base w wr)) (fun i _ => g.length - (intOf i).toNat)
  case atStart => exact ⟨0, rfl, by omega, HR3, HUb, HB3⟩
  case round =>
    obtain ⟨wo, rfl⟩ : ∃ u : World, u = wr := ⟨_, rfl⟩
    obtain ⟨j, rfl, hj, HRw, HUr, HW⟩ := hrel
    by_cases hj2 : j < g.length
    · obtain ⟨c0, c1, c2, c3, c4, c5, c6⟩ := HRw.out.now
      obtain ⟨e1, q1, -⟩ := HRw.out.is.cell hj2
      rw [cutF_at] at e1
      obtain ⟨e3, -, -⟩ := HUr.out.cell hj2
      have h3 : (mem n.cand j = false) ∨ (mem n.cand j = true ∧ mem A j = false) ∨ (mem n.cand j = true ∧ mem A j = true) := by
        cases mem n.cand j <;> cases mem A j <;> simp
      rcases h3 with a1 | ⟨a1, a2⟩ | ⟨a1, a2⟩
      · skip
        rw [a1] at e1
        clear e3
        obtain ⟨hq4, hb4⟩ := HRw.out.setIs j false
        have HB4 := Lib.hid (HW.out.trans hb4)
        have HU4 : Hid (Bl ub ub g.length (mem A) (wo.setCell ⟨ib, j, none⟩ (.bool false))) := Lib.hid (HUr.out.other hne _)
        have HS : Hid (Dag.upd (cutF (mem n.cand) (mem A) false j) j false = cutF (mem n.cand) (mem A) false (j + 1)) := Lib.hid (by rw [← cutF_step, a1]; rfl)
        rw [HS.out] at hq4
        have HR4 := Lib.hid hq4
        clear hq4 hb4 HS a1
        go_wp2_with fail
        go_region
        all_goals
          go_wp2_with fail
          go_roundw
          case rel => exact ⟨j + 1, by go_num, by omega, Lib.hid (HR4.out.ext ((Below.refl _ _).drew)), Lib.hid (HU4.out.ext ((Below.refl _ _).drew)), Lib.hid (HB4.out.drew)⟩
          case measure => simp [intOf]; omega
      · skip
        rw [a1] at e1
        rw [a2] at e3
        obtain ⟨hq4, hb4⟩ := HRw.out.setIs j true
        have HB4 := Lib.hid (HW.out.trans hb4)
        have HU4 : Hid (Bl ub ub g.length (mem A) (wo.setCell ⟨ib, j, none⟩ (.bool true))) := Lib.hid (HUr.out.other hne _)
        have HS : Hid (Dag.upd (cutF (mem n.cand) (mem A) false j) j true = cutF (mem n.cand) (mem A) false (j + 1)) := Lib.hid (by rw [← cutF_step, a1, a2]; rfl)
        rw [HS.out] at hq4
        have HR4 := Lib.hid hq4
        clear hq4 hb4 HS a1 a2
        go_wp2_with fail
        go_region
        all_goals
          go_wp2_with fail
          go_roundw
          case rel => exact ⟨j + 1, by go_num, by omega, Lib.hid (HR4.out.ext ((Below.refl _ _).drew)), Lib.hid (HU4.out.ext ((Below.refl _ _).drew)), Lib.hid (HB4.out.drew)⟩
          case measure => simp [intOf]; omega
      · skip
        rw [a1] at e1
        rw [a2] at e3
        obtain ⟨hq4, hb4⟩ := HRw.out.setIs j false
        have HB4 := Lib.hid (HW.out.trans hb4)
        have HU4 : Hid (Bl ub ub g.length (mem A) (wo.setCell ⟨ib, j, none⟩ (.bool false))) := Lib.hid (HUr.out.other hne _)
        have HS : Hid (Dag.upd (cutF (mem n.cand) (mem A) false j) j false = cutF (mem n.cand) (mem A) false (j + 1)) := Lib.hid (by rw [← cutF_step, a1, a2]; rfl)
        rw [HS.out] at hq4
        have HR4 := Lib.hid hq4
        clear hq4 hb4 HS a1 a2
        go_wp2_with fail
        go_region
        all_goals
          go_wp2_with fail
          go_roundw
          case rel => exact ⟨j + 1, by go_num, by omega, Lib.hid (HR4.out.ext ((Below.refl _ _).drew)), Lib.hid (HU4.out.ext ((Below.refl _ _).drew)), Lib.hid (HB4.out.drew)⟩
          case measure => simp [intOf]; omega
    · obtain rfl : j = g.length := by omega
      have HRe := HRw
      have HWe := HW
      clear HRw HW HUr
      go_wp2_with fail
      go_ret
      refine ⟨rfl, HWe.out, HRe.out.rs ⟨n.cand &&& ~~~ anc g y, n.skip, n.worst, n.ans + 1⟩ (fun x hx => ?_) (fun x _ => rfl) rfl (by rw [hn.out])⟩
      rw [hA.out]
      show cutF (mem n.cand) (mem A) false g.length x = mem (n.cand &&& ~~~ A) x
      rw [mem_less]
      unfold cutF
      rw [if_pos hx]
      cases mem A x <;> rfl

set_option maxRecDepth 100000 in
set_option maxHeartbeats 2000000 in
theorem rsay_bad {base rb ib kb : Nat} {gv fv : Value} {f n : St} {w : World} {es : List (SlV × Int)} {g : List Nd} (h : Rs base rb ib kb g.length gv fv f n w) (hg : Dag.okG g) (hG : Gk base gv es g w) (hlt : ∀ x, mem n.cand x = true → x < g.length) (han : n.ans < 1000) (y : Nat)
    (hnb : nxB (acc (anc g) n g.length) = true) (hc : mem n.cand y = true) (hw : y ≠ n.worst) :
    Calls Try.prog 50 #[.pointer (some ⟨rb, 0, none⟩), .int .i64 1, .int .i64 (y : Int)] w fun e w' => e = .returned (.int .i64 0) ∧ Below base w w' ∧ Rs base rb ib kb g.length gv fv f ⟨n.cand &&& anc g y, n.skip, y, n.ans + 1⟩ w' := by
  have hlen := hG.gr.run_len
  have hgl := hg.1
  have HR := Lib.hid h
  have HG := Lib.hid hg
  have HX := Lib.hid (rnext_any h hg hG.gr hlt)
  rw [hnb] at HX
  have hy := hlt y hc
  have d0 : decide ((y : Int) < 0) = false := decide_eq_false (by omega)
  have d1 : decide ((y : Int) ≥ (g.length : Int)) = false := decide_eq_false (by omega)
  have dw : ((y : Int) == (n.worst : Int)) = false := by rw [beq_eq_false_iff_ne]; omega
  obtain ⟨an, hn⟩ : ∃ an, Hid (n.ans = an) := ⟨_, Lib.hid rfl⟩
  have hwr : IntKind.i64.wrap ((an : Int) + 1) = (an : Int) + 1 := by rw [IntKind.wrap_i64]; have := hn.out; omega
  have han2 : an < 1000 := by rw [← hn.out]; exact han
  have HGk := Lib.hid hG
  clear h hG hlt hg hw hnb han
  go_enter Try.func50, Try.ntmps50
  go_wp2_with fail
  refine HX.out.mono ?_
  rintro e w1 ⟨rfl, hb⟩
  have HB := Lib.hid (HR.out.rq.below hb)
  have HR1 := Lib.hid (HR.out.ext hb).rq
  rw [hn.out] at HR1
  obtain ⟨c0, c1, c2, c3, c4, c5, c6⟩ := HR1.out.now
  have q4 := HR1.out.fz 4
  obtain ⟨e1, -, -⟩ := HR1.out.is.cell hy
  rw [hc] at e1
  clear hb HX
  go_upto_region 7 with fail
  obtain ⟨hq2, hb2⟩ := HR1.out.incAn
  obtain ⟨w2, hw2⟩ : ∃ u, Hid (u = w1.setCell ⟨rb, 4, none⟩ (.int .i64 ((an : Int) + 1))) := ⟨_, Lib.hid rfl⟩
  rw [← hw2.out] at hq2 hb2 ⊢
  have HB2 := Lib.hid (HB.out.trans hb2)
  have HR2 := Lib.hid hq2
  clear hw2 hb2 hq2 c0 c1 c2 c3 c4 c5 c6 q4 e1 HR1
  obtain ⟨c0, c1, c2, c3, c4, c5, c6⟩ := HR2.out.now
  have HU := Lib.hid (up1_any gv w2 es g y y rfl HG.out hy (HGk.out.ext HB2.out).gr)
  go_wp2_with fail
  refine HU.out.mono ?_
  rintro e w3 ⟨ub, rfl, hub, hu, hb⟩
  obtain ⟨A, hA⟩ : ∃ A, Hid (anc g y = A) := ⟨_, Lib.hid rfl⟩
  have HUb : Hid (Bl ub ub g.length (mem A) w3) := Lib.hid (hu.congr (fun x hx => by rw [← hA.out, mem_anc HG.out]; simp [hx]))
  have hib : ib < w2.heap.size := by
    have := (Array.getElem?_eq_some_iff.1 HR2.out.is.blk).1; exact this
  have hne : ub ≠ ib := by omega
  have HB3 := Lib.hid (HB2.out.trans (HR2.out.below hb))
  have hR3 := HR2.out.ext hb
  rw [← cutF_zero (mem n.cand) (mem A) true] at hR3
  have HR3 := Lib.hid hR3
  clear hu hb HU hub hR3 HR2 hib c0 c1 c2 c3 c4 c5 c6 d0 d1 dw hwr hc HB
  go_wp2_with fail
  go_loopw [10] (fun i wr => ∃ (j : Nat), i = .int .i64 j ∧ j ≤ g.length ∧ Hid (Rq base rb ib kb g.length gv fv f (cutF (mem n.cand) (mem A) true j) (mem n.skip) n.worst (an + 1) wr) ∧ Hid (Bl ub ub g.length (mem A) wr) ∧ Hid (Below base w wr)) (fun i _ => g.length - (intOf i).toNat)
  case atStart => exact ⟨0, rfl, by omega, HR3, HUb, HB3⟩
  case round =>
    obtain ⟨wo, rfl⟩ : ∃ u : World, u = wr := ⟨_, rfl⟩
    obtain ⟨j, rfl, hj, HRw, HUr, HW⟩ := hrel
    by_cases hj2 : j < g.length
    · obtain ⟨c0, c1, c2, c3, c4, c5, c6⟩ := HRw.out.now
      obtain ⟨e1, q1, -⟩ := HRw.out.is.cell hj2
      rw [cutF_at] at e1
      obtain ⟨e3, -, -⟩ := HUr.out.cell hj2
      have h3 : (mem n.cand j = false) ∨ (mem n.cand j = true ∧ mem A j = false) ∨ (mem n.cand j = true ∧ mem A j = true) := by
        cases mem n.cand j <;> cases mem A j <;> simp
      rcases h3 with a1 | ⟨a1, a2⟩ | ⟨a1, a2⟩
      · skip
        rw [a1] at e1
        clear e3
        obtain ⟨hq4, hb4⟩ := HRw.out.setIs j false
        have HB4 := Lib.hid (HW.out.trans hb4)
        have HU4 : Hid (Bl ub ub g.length (mem A) (wo.setCell ⟨ib, j, none⟩ (.bool false))) := Lib.hid (HUr.out.other hne _)
        have HS : Hid (Dag.upd (cutF (mem n.cand) (mem A) true j) j false = cutF (mem n.cand) (mem A) true (j + 1)) := Lib.hid (by rw [← cutF_step, a1]; rfl)
        rw [HS.out] at hq4
        have HR4 := Lib.hid hq4
        clear hq4 hb4 HS a1
        go_wp2_with fail
        go_region
        all_goals
          go_wp2_with fail
          go_roundw
          case rel => exact ⟨j + 1, by go_num, by omega, Lib.hid (HR4.out.ext ((Below.refl _ _).drew)), Lib.hid (HU4.out.ext ((Below.refl _ _).drew)), Lib.hid (HB4.out.drew)⟩
          case measure => simp [intOf]; omega
      · skip
        rw [a1] at e1
        rw [a2] at e3
        obtain ⟨hq4, hb4⟩ := HRw.out.setIs j false
        have HB4 := Lib.hid (HW.out.trans hb4)
        have HU4 : Hid (Bl ub ub g.length (mem A) (wo.setCell ⟨ib, j, none⟩ (.bool false))) := Lib.hid (HUr.out.other hne _)
        have HS : Hid (Dag.upd (cutF (mem n.cand) (mem A) true j) j false = cutF (mem n.cand) (mem A) true (j + 1)) := Lib.hid (by rw [← cutF_step, a1, a2]; rfl)
        rw [HS.out] at hq4
        have HR4 := Lib.hid hq4
        clear hq4 hb4 HS a1 a2
        go_wp2_with fail
        go_region
        all_goals
          go_wp2_with fail
          go_roundw
          case rel => exact ⟨j + 1, by go_num, by omega, Lib.hid (HR4.out.ext ((Below.refl _ _).drew)), Lib.hid (HU4.out.ext ((Below.refl _ _).drew)), Lib.hid (HB4.out.drew)⟩
          case measure => simp [intOf]; omega
      · skip
        rw [a1] at e1
        rw [a2] at e3
        obtain ⟨hq4, hb4⟩ := HRw.out.setIs j true
        have HB4 := Lib.hid (HW.out.trans hb4)
        have HU4 : Hid (Bl ub ub g.length (mem A) (wo.setCell ⟨ib, j, none⟩ (.bool true))) := Lib.hid (HUr.out.other hne _)
        have HS : Hid (Dag.upd (cutF (mem n.cand) (mem A) true j) j true = cutF (mem n.cand) (mem A) true (j + 1)) := Lib.hid (by rw [← cutF_step, a1, a2]; rfl)
        rw [HS.out] at hq4
        have HR4 := Lib.hid hq4
        clear hq4 hb4 HS a1 a2
        go_wp2_with fail
        go_region
        all_goals
          go_wp2_with fail
          go_roundw
          case rel => exact ⟨j + 1, by go_num, by omega, Lib.hid (HR4.out.ext ((Below.refl _ _).drew)), Lib.hid (HU4.out.ext ((Below.refl _ _).drew)), Lib.hid (HB4.out.drew)⟩
          case measure => simp [intOf]; omega
    · obtain rfl : j = g.length := by omega
      have HRe := HRw
      have HWe := HW
      clear HRw HW HUr
      obtain ⟨c0, c1, c2, c3, c4, c5, c6⟩ := HRe.out.now
      have q3 := HRe.out.fz 3
      obtain ⟨hq5, hb5⟩ := HRe.out.setWo y
      have HB5 := Lib.hid (HWe.out.trans hb5)
      have HR5 := Lib.hid hq5
      clear hq5 hb5
      go_wp2_with fail
      go_ret
      refine ⟨rfl, HB5.out, HR5.out.rs ⟨n.cand &&& anc g y, n.skip, y, n.ans + 1⟩ (fun x hx => ?_) (fun x _ => rfl) rfl (by rw [hn.out])⟩
      rw [hA.out]
      show cutF (mem n.cand) (mem A) true g.length x = mem (n.cand &&& A) x
      rw [mem_and]
      unfold cutF
      rw [if_pos hx]
      cases mem A x <;> rfl
end Go.Proofs.Ytcpmnocknpalfaa

namespace Go.Proofs.Ytcpmnocknpalfaa
open Go.RowKit Go.Sl Go.B64 Go.Bis
set_option linter.unusedVariables false

theorem rsay_any {base rb ib kb : Nat} {gv fv : Value} {f n : St} {w : World} {es : List (SlV × Int)} {g : List Nd} (h : Rs base rb ib kb g.length gv fv f n w) (hg : Dag.okG g) (hG : Gk base gv es g w) (hlt : ∀ x, mem n.cand x = true → x < g.length) (han : n.ans < 1000) (k : Nat) (hk : k < 3) (x : Int) :
    Calls Try.prog 50 #[.pointer (some ⟨rb, 0, none⟩), .int .i64 (k : Int), .int .i64 x] w fun e w' => e = .returned (.int .i64 (sayE (anc g) g.length n k x : Nat)) ∧ Below base w w' ∧ Rs base rb ib kb g.length gv fv f (sayS (anc g) g.length n k x) w' := by
  by_cases he : sayE (anc g) g.length n k x = 0
  · obtain ⟨h1, h2, h3, h4, h5⟩ := sayE_ok he
    have hnb : nxB (acc (anc g) n g.length) = true := by
      cases e : nxB (acc (anc g) n g.length) with
      | true => rfl
      | false => rw [sayE_50 e] at he; cases he
    obtain ⟨y, rfl⟩ : ∃ y : Nat, x = (y : Int) := ⟨x.toNat, by omega⟩
    have e1 : ((y : Int)).toNat = y := by omega
    rw [e1] at h3 h4 h5
    rw [he]
    unfold sayS
    rw [if_pos he, e1]
    obtain rfl | rfl | rfl : k = 0 ∨ k = 1 ∨ k = 2 := by omega
    · exact rsay_good h hg hG hlt han y hnb h3 h4
    · exact rsay_bad h hg hG hlt han y hnb h3 h4
    · exact rsay_skip h hg hG.gr hlt han y hnb h3 h4 (h5 rfl)
  · rw [sayS_no rfl he]
    refine (rsay_no h hg hG.gr hlt k x he).mono ?_
    rintro e w' ⟨rfl, hb⟩
    exact ⟨rfl, h.rq.below hb, h.ext hb⟩

def upto (a b : Nat → Bool) (j x : Nat) : Bool := if x < j then a x else b x
theorem upto_zero (a b : Nat → Bool) : upto a b 0 = b := funext fun x => by simp [upto]
theorem upto_step (a b : Nat → Bool) (j : Nat) : Dag.upd (upto a b j) j (a j) = upto a b (j + 1) := funext fun x => by
  unfold Dag.upd upto
  by_cases e : x = j
  · subst e; simp
  · by_cases h : x < j
    · simp [e, h, show x < j + 1 by omega]
    · simp [e, h, show ¬ x < j + 1 by omega]
theorem len_eB (x : Bool) : (eBool x).length = 1 := rfl
theorem cells4 : Try.prog.cellsOf 4 = 1 := by kernel_rfl
theorem some4 : (Try.prog.info? 4).isSome = true := by kernel_rfl

set_option maxRecDepth 100000 in
set_option maxHeartbeats 2000000 in
theorem rreset_any {base rb ib kb N : Nat} {gv fv : Value} {f n : St} {w : World} (hN : N ≤ 128) (h : Rs base rb ib kb N gv fv f n w) (hf : f.skip = 0 ∧ f.ans = 0) :
    Calls Try.prog 49 #[.pointer (some ⟨rb, 0, none⟩)] w fun e w' => e = .returned (.tuple #[]) ∧ Below base w w' ∧ Rs base rb ib kb N gv fv f f w' := by
  have hR := h.rq
  rw [← upto_zero (mem f.cand) (mem n.cand), ← upto_zero (fun _ => false) (mem n.skip)] at hR
  have HR := Lib.hid hR
  have HF := Lib.hid hf
  clear h hR hf
  go_enter Try.func49, Try.ntmps49
  go_wp2_with fail
  go_loopw [2] (fun i wr => ∃ (j : Nat), i = .int .i64 j ∧ j ≤ N ∧ Hid (Rq base rb ib kb N gv fv f (upto (mem f.cand) (mem n.cand) j) (upto (fun _ => false) (mem n.skip) j) n.worst n.ans wr) ∧ Hid (Below base w wr)) (fun i _ => N - (intOf i).toNat)
  case atStart => exact ⟨0, rfl, by omega, HR, Lib.hid (Below.refl _ _)⟩
  case round =>
    obtain ⟨wo, rfl⟩ : ∃ u : World, u = wr := ⟨_, rfl⟩
    obtain ⟨j, rfl, hj, HRw, HW⟩ := hrel
    obtain ⟨c0, c1, c2, c3, c4, c5, c6⟩ := HRw.out.now
    by_cases hj2 : j < N
    · obtain ⟨e0, q1, -⟩ := HRw.out.is.cell hj2
      obtain ⟨b2, o2, hb2, hix, hcell⟩ := (HRw.out.fi.sl len_eB).at (P := Try.prog) Try.underlying51 cells4 some4 (k := j) (by simpa using hj2)
      have e1 := hcell 0 (by omega)
      simp only [eBool, List.getElem?_cons_zero, Nat.add_zero, List.getElem_map, List.getElem_range] at e1
      obtain ⟨v, hv⟩ : ∃ v, Hid (mem f.cand j = v) := ⟨_, Lib.hid rfl⟩
      rw [hv.out] at e1
      obtain ⟨hq4, hb4⟩ := HRw.out.setIs j v
      have HB4 := Lib.hid ((HW.out.trans hb4).drew)
      have hS := upto_step (mem f.cand) (mem n.cand) j
      rw [hv.out] at hS
      rw [hS] at hq4
      have HR4 := Lib.hid (hq4.ext ((Below.refl _ _).drew))
      clear hq4 hb4 hS hcell hb2
      go_wp2_with fail
      go_region
      obtain ⟨w5, hw5⟩ : ∃ u, Hid (u = (wo.setCell ⟨ib, j, none⟩ (.bool v)).drew) := ⟨_, Lib.hid rfl⟩
      rw [← hw5.out] at HR4 HB4 ⊢
      clear hw5 c0 c1 c2 c3 c4 c5 c6 q1 e0 e1 hix
      obtain ⟨c0, c1, c2, c3, c4, c5, c6⟩ := HR4.out.now
      obtain ⟨e2, q2, -⟩ := HR4.out.sk.cell hj2
      obtain ⟨hq6, hb6⟩ := HR4.out.setSk j false
      have HB6 := Lib.hid (HB4.out.trans hb6)
      have hS := upto_step (fun _ => false) (mem n.skip) j
      rw [hS] at hq6
      have HR6 := Lib.hid hq6
      clear hq6 hb6 hS
      go_wp2_with fail
      go_roundw
      case rel => exact ⟨j + 1, by go_num, by omega, HR6, HB6⟩
      case measure => simp [intOf]; omega
    · obtain rfl : j = N := by omega
      have q3 := HRw.out.fz 3
      obtain ⟨hq4, hb4⟩ := HRw.out.setWo f.worst
      have HB4 := Lib.hid (HW.out.trans hb4)
      have HR4 := Lib.hid hq4
      clear hq4 hb4
      go_upto_region 6 with fail
      obtain ⟨w5, hw5⟩ : ∃ u, Hid (u = (wo.setCell ⟨rb, 3, none⟩ (.int .i64 (f.worst : Int)))) := ⟨_, Lib.hid rfl⟩
      rw [← hw5.out] at HR4 HB4 ⊢
      clear hw5 c0 c1 c2 c3 c4 c5 c6 q3
      obtain ⟨c0, c1, c2, c3, c4, c5, c6⟩ := HR4.out.now
      have q4 := HR4.out.fz 4
      obtain ⟨hq6, hb6⟩ := HR4.out.setAn 0
      have HB6 := Lib.hid (HB4.out.trans hb6)
      have HR6 := Lib.hid hq6
      clear hq6 hb6
      go_wp2_with fail
      go_end0
      refine ⟨rfl, HB6.out, HR6.out.rs f (fun x hx => by simp [upto, hx]) (fun x hx => by rw [HF.out.1, mem_zero]; simp [upto, hx]) rfl HF.out.2.symm⟩
end Go.Proofs.Ytcpmnocknpalfaa

namespace Go.Proofs.Ytcpmnocknpalfaa
open Go.RowKit Go.Sl Go.B64 Go.Bis
set_option linter.unusedVariables false

theorem fine_upB {g : List Nd} (hg : Dag.okG g) {l : List Int} (hl : Dag.inN g.length l) (x : Nat) : Dag.upB g (Dag.nn l) x = mem (fineS g (Dag.nn l)) x := by
  rw [Bool.eq_iff_iff, Dag.upB_iff, mem_fineS]
  unfold Dag.upP
  constructor
  · rintro ⟨s, h1, h2⟩; exact ⟨s, h1, (anc_iff hg (nn_lt hl s h1)).2 h2⟩
  · rintro ⟨s, h1, h2⟩; exact ⟨s, h1, (anc_iff hg (nn_lt hl s h1)).1 h2⟩
theorem nodes_cases (g : List Nd) (bad : Int) (l : List Int) : (Dag.nodes g (bad :: l) = 12 ∧ newE g bad l = 12) ∨ (Dag.nodes g (bad :: l) = 2 ∧ newE g bad l = 2) ∨ (Dag.nodes g (bad :: l) = 0 ∧ Dag.okG g ∧ Dag.inN g.length (bad :: l)) := by
  unfold Dag.nodes newE
  by_cases hg : Dag.okG g
  · by_cases hi : Dag.inN g.length (bad :: l)
    · exact .inr (.inr ⟨by rw [if_pos hg, if_pos hi], hg, hi⟩)
    · exact .inr (.inl ⟨by rw [if_pos hg, if_neg hi], by rw [if_pos hg, if_neg hi]⟩)
  · exact .inl ⟨by rw [if_neg hg], by rw [if_neg hg]⟩
/-- the session without its First -/
structure Rp (base rb ib kb N : Nat) (gv : Value) (bad : Nat) (is : Nat → Bool) (w : World) : Prop where
  hb : base ≤ rb
  blk : w.heap[rb]? = some (.cells #[gv, slB ib N, slB kb N, .int .i64 (bad : Int), .int .i64 0, .slice none 0 0, .int .i64 (bad : Int)] 109 (0, 0))
  is : Bl base ib N is w
  sk : Bl base kb N (fun _ => false) w
  ne : ib ≠ kb

def BOX (gv : Value) (ib kb N bad : Nat) : Obj := .cells #[gv, slB ib N, slB kb N, .int .i64 (bad : Int), .int .i64 0, .slice none 0 0, .int .i64 (bad : Int)] 109
def MK (N : Nat) : Obj := .cells (bcells (fun _ => false) N) 4
theorem rp_new2 {u : World} {base ib kb N bad : Nat} {gv : Value} {is : Nat → Bool} (h : Bl base ib N is u) (hk : Bl base kb N (fun _ => false) u) (ne : ib ≠ kb) (hs : base ≤ u.heap.size) : Rp base u.heap.size ib kb N gv bad is (u.alloc (BOX gv ib kb N bad)) :=
  ⟨hs, heap_alloc_new _ _, h.ext (balloc _ _), hk.ext (balloc _ _), ne⟩
theorem rp_new1 {u : World} {base ib N bad : Nat} {gv : Value} {is : Nat → Bool} (h : Bl base ib N is u) (hs : base ≤ u.heap.size) : Rp base (u.heap.size + 1) ib u.heap.size N gv bad is ((u.alloc (MK N)).alloc (BOX gv ib u.heap.size N bad)) := by
  have := rp_new2 (u := u.alloc (MK N)) (bad := bad) (gv := gv) (kb := u.heap.size) (h.ext (balloc _ _)) ⟨hs, heap_alloc_new _ _⟩ (by have := (Array.getElem?_eq_some_iff.1 h.blk).1; omega) (by simp; omega)
  simpa using this
theorem Gr.shape {w : World} {v : Value} {es : List (SlV × Int)} {g : List Nd} (h : Gr w v es g) : ∃ ao cap, v = .slice ao g.length cap := by
  obtain ⟨ao, cap, e, -⟩ := h.outer.shp
  exact ⟨ao, cap, by rw [e, h.len]⟩
theorem fresh1 (w : World) (x : Int) : Sl eInt 1 (w.alloc (.cells #[.int .i64 x] 3)) (.slice (some ⟨w.heap.size, 0, none⟩) 1 1) [x] := Sl.fresh len_eInt rfl rfl rfl (by simp [maxLen])
theorem up_at {gv v : Value} {W : World} {es : List (SlV × Int)} {g : List Nd} {y : Nat} (hg : Dag.okG g) (hy : y < g.length) (hG : Gr W gv es g) (hs : Sl eInt 1 W v [(y : Int)]) :
    Calls Try.prog 35 #[gv, v] W fun e w' => ∃ ib, e = .returned (slB ib g.length) ∧ W.heap.size ≤ ib ∧ Bl W.heap.size ib g.length (mem (anc g y)) w' ∧ Below W.heap.size W w' := by
  refine (up_any gv v W es g [(y : Int)] hg (inN_one (by omega)) hG hs).mono ?_
  rintro e w3 ⟨rfl, hu, hb⟩
  exact ⟨_, rfl, Nat.le_refl _, hu.congr (fun x hx => by rw [mem_anc hg, decide_eq_true hx]; rfl), hb⟩

section
variable {base rb ib kb N bad : Nat} {gv : Value} {is : Nat → Bool} {w w' : World}
theorem Rp.now (h : Rp base rb ib kb N gv bad is w) : w.cell? ⟨rb, 1, none⟩ = some (slB ib N) ∧ w.cell? ⟨rb, 5, none⟩ = some (.slice none 0 0) ∧ w.frozen? ⟨rb, 5, none⟩ = false :=
  ⟨by simp [World.cell?, h.blk], by simp [World.cell?, h.blk], by simp [World.frozen?, h.blk]⟩
theorem Rp.lt (h : Rp base rb ib kb N gv bad is w) : rb < w.heap.size := (Array.getElem?_eq_some_iff.1 h.blk).1
theorem Rp.ext (h : Rp base rb ib kb N gv bad is w) (hb : Below w.heap.size w w') : Rp base rb ib kb N gv bad is w' := ⟨h.hb, (hb.block _ h.lt).trans h.blk, h.is.ext hb, h.sk.ext hb, h.ne⟩
theorem Rp.setIs (h : Rp base rb ib kb N gv bad is w) (k : Nat) (v : Bool) : Rp base rb ib kb N gv bad (Dag.upd is k v) (w.setCell ⟨ib, k, none⟩ (.bool v)) ∧ Below base w (w.setCell ⟨ib, k, none⟩ (.bool v)) :=
  ⟨⟨h.hb, heap_set_keep (a := ⟨ib, k, none⟩) h.blk (ne_blk h.blk h.is.blk (by decide)), h.is.set k v, h.sk.other h.ne.symm _, h.ne⟩, (Below.refl base w).setCell (p := ⟨ib, k, none⟩) h.is.hb _⟩
theorem Bl.slB {f : Nat → Bool} {b : Nat} (h : Bl base b N f w) (hN : N ≤ 128) : Sl eBool 1 w (slB b N) ((List.range N).map f) := by
  refine Sl.of_block len_eB h.blk ?_ (by simp) (Nat.le_refl _) (by simp [maxLen]; omega)
  have e : (bcells f N).toList = ((List.range N).map f).flatMap eBool := by
    simp only [bcells]
    generalize List.range N = l
    induction l with
    | nil => rfl
    | cons x l ih => simp only [List.map_cons, List.flatMap_cons, ← ih]; rfl
  rw [e]
  exact List.take_of_length_le (by rw [flatMap_len len_eB]; simp)
/-- the truths' copy is stored -/
theorem Rp.fin {fv : Value} {f : St} (h : Rp base rb ib kb N gv bad (mem f.cand) w) (hf : f.skip = 0 ∧ f.worst = bad ∧ f.ans = 0) (hb : Below w.heap.size w w') (ho : Own eBool 1 w.heap.size 4 w' fv ((List.range N).map (mem f.cand))) (hbs : base ≤ w.heap.size) :
    Rs base rb ib kb N gv fv f f (w'.setCell ⟨rb, 5, none⟩ fv) ∧ Below base w (w'.setCell ⟨rb, 5, none⟩ fv) := by
  have h2 := h.ext hb
  have hi := (Array.getElem?_eq_some_iff.1 h.is.blk).1
  have hk := (Array.getElem?_eq_some_iff.1 h.sk.blk).1
  have hr := h.lt
  have hne : ∀ k, k < w.heap.size → fv.ownBlock ≠ some k := fun k hk e => by have := (ho.lt _ e).1; omega
  refine ⟨⟨h.hb, ?_, h2.is.other (Ne.symm (ne_blk h2.blk h2.is.blk (by decide))) _, (h2.sk.other (Ne.symm (ne_blk h2.blk h2.sk.blk (by decide))) _).congr (fun x _ => by rw [hf.1, mem_zero]), h.ne, (ho.set_other (hne rb hr) (a := ⟨rb, 5, none⟩) _).mono hbs, hne ib hi, hne kb hk⟩, (hb.mono hbs).setCell (p := ⟨rb, 5, none⟩) h.hb _⟩
  rw [Lib.heap_setCell_same (i := 5) h2.blk _]
  obtain ⟨c, s, wo, an⟩ := f
  obtain ⟨rfl, rfl, rfl⟩ := hf
  simp [rsCells]
end

set_option maxRecDepth 100000 in
set_option maxHeartbeats 2000000 in
theorem rnew_any (gv lv : Value) (es : List (SlV × Int)) (g : List Nd) (bad : Int) (l : List Int) (hll : l.length ≤ 1000) (w : World) (h : Gr w gv es g) (hl : Sl eInt 1 w lv l) :
    Calls Try.prog 46 #[gv, .int .i64 bad, lv] w fun e w' =>
      (newE g bad l ≠ 0 → e = .returned (.tuple #[.pointer none, .int .i64 (newE g bad l : Nat)]) ∧ Below w.heap.size w w') ∧
      (newE g bad l = 0 → ∃ rb ib kb fv, e = .returned (.tuple #[.pointer (some ⟨rb, 0, none⟩), .int .i64 0]) ∧ Rs w.heap.size rb ib kb g.length gv fv (newS g bad l) (newS g bad l) w' ∧ Below w.heap.size w w') := by
  obtain ⟨gao, gcap, hgv⟩ := h.shape
  have HGr := Lib.hid h
  have HL := Lib.hid hl
  have hlen2 := hl.run_len (P := Try.prog) Try.underlying23
  have HF : Hid (Sl eInt 1 (w.alloc (.cells #[.int .i64 bad] 3)) (.slice (some ⟨w.heap.size, 0, none⟩) 1 1) [bad]) := Lib.hid (Sl.fresh len_eInt rfl rfl rfl (by simp [maxLen]))
  have hb0 := Lib.hid (bel_alloc w (.cells #[.int .i64 bad] 3))
  clear h hl
  subst hgv
  go_enter Try.func46, Try.ntmps46
  go_wp2_with (first
    | (at_builtin; have _g := HO1.out; go_must (refine wpList_append rfl (en := eInt) (s := 1) (base := w.heap.size) (e := 3) _ _ 23 rfl (.int .i64 0) 8 Try.underlying23 info3 rfl (by decide) len_eInt one_eInt _ _ [bad] l rfl HO1.out rfl (HL.out.ext HB1.out) (by simp only [maxLen, List.length_singleton]; omega) (by simp only [List.length_singleton]; omega) HB1.out.size ?_; intro v2 w2 hown hgr hbel; have HO2 := Lib.hid hown; have HB2 : Hid (Below w.heap.size w w2) := Lib.hid (HB1.out.trans hbel); clear hown hgr hbel))
    | (at_builtin; go_must (refine wpList_append rfl (en := eInt) (s := 1) (base := w.heap.size) (e := 3) _ _ 23 rfl (.int .i64 0) 8 Try.underlying23 info3 rfl (by decide) len_eInt one_eInt _ _ [] [bad] rfl (Own.nil _ _ _ _ _) rfl HF.out (by simp [maxLen]) (by simp) (by simp) ?_; intro v1 w1 hown hgr hbel; have HO1 := Lib.hid hown; have HB1 : Hid (Below w.heap.size w w1) := Lib.hid (hb0.out.trans hbel); clear hown hgr hbel)))
  have HNo := Lib.hid (fun c hc => rnodes_any _ v2 w2 es g (bad :: l) c hc (HGr.out.ext HB2.out) (HO2.out.sl len_eInt))
  rcases nodes_cases g bad l with ⟨h1, h2⟩ | ⟨h1, h2⟩ | ⟨h1, hg, hi⟩
  · have HE := Lib.hid h2
    have HC := Lib.hid (HNo.out 12 h1)
    clear h1 h2 HNo
    refine HC.out.mono ?_
    rintro e w3 ⟨rfl, hb3⟩
    have HB3 := Lib.hid (bthen HB2.out hb3)
    clear hb3 HC
    go_wp2_with fail
    go_ret2
    rw [HE.out]
    exact ⟨fun _ => ⟨rfl, HB3.out⟩, fun h => by cases h⟩
  · have HE := Lib.hid h2
    have HC := Lib.hid (HNo.out 2 h1)
    clear h1 h2 HNo
    refine HC.out.mono ?_
    rintro e w3 ⟨rfl, hb3⟩
    have HB3 := Lib.hid (bthen HB2.out hb3)
    clear hb3 HC
    go_wp2_with fail
    go_ret2
    rw [HE.out]
    exact ⟨fun _ => ⟨rfl, HB3.out⟩, fun h => by cases h⟩
  · have HC := Lib.hid (HNo.out 0 h1)
    obtain ⟨bn, rfl⟩ : ∃ bn : Nat, bad = (bn : Int) := ⟨bad.toNat, by have := hi bad (by simp); omega⟩
    have hbn : bn < g.length := by have := hi (bn : Int) (by simp); omega
    have hgl := hg.1
    have HG := Lib.hid hg
    have HI := Lib.hid hi
    have HI2 : Hid (Dag.inN g.length l) := Lib.hid (fun x hx => hi x (by simp [hx]))
    obtain ⟨F, hF⟩ : ∃ F, Hid (fineS g (Dag.nn l) = F) := ⟨_, Lib.hid rfl⟩
    clear h1 HNo hg hi HO1 HO2 HF hb0 HB1
    refine HC.out.mono ?_
    rintro e w3 ⟨rfl, hb3⟩
    have HB3 := Lib.hid (bthen HB2.out hb3)
    have HU := Lib.hid (up_any _ lv w3 es g l HG.out HI2.out (HGr.out.ext HB3.out) (HL.out.ext HB3.out))
    clear hb3 HC HB2
    go_wp2_with fail
    refine HU.out.mono ?_
    rintro e w4 ⟨rfl, hu, hb4⟩
    have HB4 := Lib.hid (bthen HB3.out hb4)
    obtain ⟨fb, hfb⟩ : ∃ fb, Hid (w3.heap.size = fb) := ⟨_, Lib.hid rfl⟩
    have hfl : w.heap.size ≤ w3.heap.size := HB3.out.size
    have HFi : Hid (Bl w.heap.size fb g.length (mem F) w4) := Lib.hid (by
      rw [hfb.out] at hu hfl
      refine (hu.mono hfl).congr (fun x hx => ?_)
      rw [fine_upB HG.out HI2.out, hF.out])
    rw [hfb.out]
    clear hu hb4 HU hfl hfb HB3
    obtain ⟨f1, -, -⟩ := HFi.out.cell hbn
    cases hfm : mem F bn with
    | true =>
      rw [hfm] at f1
      have HE : Hid (newE g (bn : Int) l = 50) := Lib.hid (newE_state HG.out HI.out (by rw [hF.out, show ((bn : Int)).toNat = bn by omega]; exact hfm))
      clear hfm
      go_wp2_with fail
      go_ret2
      rw [HE.out]
      exact ⟨fun _ => ⟨rfl, HB4.out⟩, fun h => by cases h⟩
    | false =>
      rw [hfm] at f1
      have HE : Hid (newE g (bn : Int) l = 0) := Lib.hid (newE_ok HG.out HI.out (by rw [hF.out, show ((bn : Int)).toNat = bn by omega]; exact hfm))
      have hmk := make_bools g.length (by omega)
      rw [made_bcells] at hmk
      have HMk : Hid (Bl w4.heap.size w4.heap.size g.length (fun _ => false) (w4.alloc (MK g.length))) := Lib.hid ⟨Nat.le_refl _, heap_alloc_new _ _⟩
      have HG4 := Lib.hid (HGr.out.ext HB4.out)
      have oA : World := (w4.alloc (.cells #[.int .i64 (bn : Int)] 3)).drew
      have HBA : Hid (Below w4.heap.size w4 (w4.alloc (.cells #[.int .i64 (bn : Int)] 3)).drew) := Lib.hid ((balloc _ _).drew)
      have HBB : Hid (Below w4.heap.size w4 ((w4.alloc (.cells (bcells (fun _ => false) g.length) 4)).alloc (.cells #[.int .i64 (bn : Int)] 3)).drew) := Lib.hid ((bthen (balloc _ _) (balloc _ _)).drew)
      have HBC : Hid (Below w4.heap.size w4 ((w4.alloc (.cells #[.int .i64 (bn : Int)] 3)).alloc (.cells (bcells (fun _ => false) g.length) 4)).drew) := Lib.hid ((bthen (balloc _ _) (balloc _ _)).drew)
      have HSA : Hid (Sl eInt 1 (w4.alloc (.cells #[.int .i64 (bn : Int)] 3)).drew (.slice (some ⟨w4.heap.size, 0, none⟩) 1 1) [(bn : Int)]) := Lib.hid (fresh1 w4 bn).drew
      have HSB : Hid (Sl eInt 1 ((w4.alloc (.cells (bcells (fun _ => false) g.length) 4)).alloc (.cells #[.int .i64 (bn : Int)] 3)).drew (.slice (some ⟨w4.heap.size + 1, 0, none⟩) 1 1) [(bn : Int)]) := Lib.hid (by have := (fresh1 (w4.alloc (.cells (bcells (fun _ => false) g.length) 4)) bn).drew; simpa using this)
      have HSC : Hid (Sl eInt 1 ((w4.alloc (.cells #[.int .i64 (bn : Int)] 3)).alloc (.cells (bcells (fun _ => false) g.length) 4)).drew (.slice (some ⟨w4.heap.size, 0, none⟩) 1 1) [(bn : Int)]) := Lib.hid ((fresh1 w4 bn).ext (balloc _ _)).drew
      have HKB : Hid (Bl w4.heap.size w4.heap.size g.length (fun _ => false) ((w4.alloc (.cells (bcells (fun _ => false) g.length) 4)).alloc (.cells #[.int .i64 (bn : Int)] 3)).drew) := Lib.hid ((HMk.out.ext (balloc _ _)).ext ((Below.refl _ _).drew))
      have HKC : Hid (Bl w4.heap.size (w4.heap.size + 1) g.length (fun _ => false) ((w4.alloc (.cells #[.int .i64 (bn : Int)] 3)).alloc (.cells (bcells (fun _ => false) g.length) 4)).drew) := Lib.hid ⟨by omega, heap_new_at (w := w4.alloc (.cells #[.int .i64 (bn : Int)] 3)) (by simp)⟩
      obtain ⟨A, hAn⟩ : ∃ A, Hid (anc g bn = A) := ⟨_, Lib.hid rfl⟩
      clear oA
      go_wp2_with fail
      go_cut [11] (fun s wx => ∃ rb ib kb, s = .pointer (some ⟨rb, 0, none⟩) ∧ Hid (Rp w4.heap.size rb ib kb g.length (.slice gao g.length gcap) bn (mem A) wx) ∧ Hid (Below w4.heap.size w4 wx))
      case first =>
        go_region_with (go_at_call 35; go_must (refine (up_at (y := bn) (es := es) HG.out hbn ?hG ?hs).mono ?_; (case hG => first | exact HG4.out.ext HBA.out | exact HG4.out.ext HBB.out | exact HG4.out.ext HBC.out); (case hs => first | exact HSA.out | exact HSB.out | exact HSC.out); rintro e u7 ⟨ib, rfl, hib, hbl, hbb⟩))
        all_goals
          have hW7 : Below w4.heap.size w4 u7 := by first | exact HBA.out.trans (hbb.mono HBA.out.size) | exact HBB.out.trans (hbb.mono HBB.out.size) | exact HBC.out.trans (hbb.mono HBC.out.size)
          have hB7 : Bl w4.heap.size ib g.length (mem A) u7 := by
            rw [hAn.out] at hbl
            first | exact hbl.mono HBA.out.size | exact hbl.mono HBB.out.size | exact hbl.mono HBC.out.size
          go_wp2_with fail
          go_meet
          first
            | exact ⟨_, _, _, rfl, Lib.hid (rp_new1 hB7 hW7.size), Lib.hid (bthen hW7 (bthen (balloc _ _) (balloc _ _)))⟩
            | exact ⟨_, _, _, rfl, Lib.hid (rp_new2 hB7 (HKB.out.ext hbb) (by simp at hib; omega) hW7.size), Lib.hid (bthen hW7 (balloc _ _))⟩
            | exact ⟨_, _, _, rfl, Lib.hid (rp_new2 hB7 (HKC.out.ext hbb) (by simp at hib; omega) hW7.size), Lib.hid (bthen hW7 (balloc _ _))⟩
      case rest =>
        obtain ⟨w5, rfl⟩ : ∃ w5 : World, w5 = wc := ⟨_, rfl⟩
        obtain ⟨rb, ib, kb, rfl, HR, HW5⟩ := hcut
        have hne : fb ≠ ib := by
          have h1 := HR.out.is.hb
          have h2 := (Array.getElem?_eq_some_iff.1 HFi.out.blk).1
          omega
        have HF5 := Lib.hid (HFi.out.ext HW5.out)
        have HW6 : Hid (Below w.heap.size w w5) := Lib.hid (bthen HB4.out HW5.out)
        have hlow : w.heap.size ≤ w4.heap.size := HB4.out.size
        clear HKB HKC HSA HSB HSC HBA HBB HBC HMk HG4 hmk f1
        go_wp2_with fail
        have hR5 := HR.out
        rw [← cutF_zero (mem A) (mem F) false] at hR5
        have HR5 := Lib.hid hR5
        clear hR5 HR HW5
        go_loopw [12] (fun i wr => ∃ (j : Nat), i = .int .i64 j ∧ j ≤ g.length ∧ Hid (Rp w4.heap.size rb ib kb g.length (.slice gao g.length gcap) bn (cutF (mem A) (mem F) false j) wr) ∧ Hid (Bl w.heap.size fb g.length (mem F) wr) ∧ Hid (Below w.heap.size w wr)) (fun i _ => g.length - (intOf i).toNat)
        case atStart => exact ⟨0, rfl, by omega, HR5, HF5, HW6⟩
        case round =>
          obtain ⟨wo, rfl⟩ : ∃ u : World, u = wr := ⟨_, rfl⟩
          obtain ⟨j, rfl, hj, HRw, HUr, HW⟩ := hrel
          obtain ⟨c1, c5, q5⟩ := HRw.out.now
          by_cases hj2 : j < g.length
          · obtain ⟨e1, q1, -⟩ := HRw.out.is.cell hj2
            rw [cutF_at] at e1
            obtain ⟨e3, -, -⟩ := HUr.out.cell hj2
            have h3 : (mem A j = false) ∨ (mem A j = true ∧ mem F j = false) ∨ (mem A j = true ∧ mem F j = true) := by
              cases mem A j <;> cases mem F j <;> simp
            rcases h3 with a1 | ⟨a1, a2⟩ | ⟨a1, a2⟩
            · skip
              rw [a1] at e1
              clear e3
              obtain ⟨hq4, hb4⟩ := HRw.out.setIs j false
              have HB4 := Lib.hid ((HW.out.trans (hb4.mono hlow)).drew)
              have HU4 := Lib.hid ((HUr.out.other hne _ : Bl w.heap.size fb g.length (mem F) (wo.setCell ⟨ib, j, none⟩ (.bool false))).ext (Below.refl _ _).drew)
              have HS : Hid (Dag.upd (cutF (mem A) (mem F) false j) j false = cutF (mem A) (mem F) false (j + 1)) := Lib.hid (by rw [← cutF_step, a1]; rfl)
              rw [HS.out] at hq4
              have HR4 := Lib.hid (hq4.ext (Below.refl _ _).drew)
              clear hq4 hb4 HS a1
              go_wp2_with fail
              go_region
              all_goals
                go_wp2_with fail
                go_roundw
                case rel => exact ⟨j + 1, by go_num, by omega, HR4, HU4, HB4⟩
                case measure => simp [intOf]; omega
            · skip
              rw [a1] at e1
              rw [a2] at e3
              obtain ⟨hq4, hb4⟩ := HRw.out.setIs j true
              have HB4 := Lib.hid ((HW.out.trans (hb4.mono hlow)).drew)
              have HU4 := Lib.hid ((HUr.out.other hne _ : Bl w.heap.size fb g.length (mem F) (wo.setCell ⟨ib, j, none⟩ (.bool true))).ext (Below.refl _ _).drew)
              have HS : Hid (Dag.upd (cutF (mem A) (mem F) false j) j true = cutF (mem A) (mem F) false (j + 1)) := Lib.hid (by rw [← cutF_step, a1, a2]; rfl)
              rw [HS.out] at hq4
              have HR4 := Lib.hid (hq4.ext (Below.refl _ _).drew)
              clear hq4 hb4 HS a1 a2
              go_wp2_with fail
              go_region
              all_goals
                go_wp2_with fail
                go_roundw
                case rel => exact ⟨j + 1, by go_num, by omega, HR4, HU4, HB4⟩
                case measure => simp [intOf]; omega
            · skip
              rw [a1] at e1
              rw [a2] at e3
              obtain ⟨hq4, hb4⟩ := HRw.out.setIs j false
              have HB4 := Lib.hid ((HW.out.trans (hb4.mono hlow)).drew)
              have HU4 := Lib.hid ((HUr.out.other hne _ : Bl w.heap.size fb g.length (mem F) (wo.setCell ⟨ib, j, none⟩ (.bool false))).ext (Below.refl _ _).drew)
              have HS : Hid (Dag.upd (cutF (mem A) (mem F) false j) j false = cutF (mem A) (mem F) false (j + 1)) := Lib.hid (by rw [← cutF_step, a1, a2]; rfl)
              rw [HS.out] at hq4
              have HR4 := Lib.hid (hq4.ext (Below.refl _ _).drew)
              clear hq4 hb4 HS a1 a2
              go_wp2_with fail
              go_region
              all_goals
                go_wp2_with fail
                go_roundw
                case rel => exact ⟨j + 1, by go_num, by omega, HR4, HU4, HB4⟩
                case measure => simp [intOf]; omega
          · obtain rfl : j = g.length := by omega
            obtain ⟨n0, hn0⟩ : ∃ n0, Hid (newS g (bn : Int) l = n0) := ⟨_, Lib.hid rfl⟩
            have Hn0 : Hid (n0.skip = 0 ∧ n0.worst = bn ∧ n0.ans = 0) := Lib.hid (by rw [← hn0.out]; exact ⟨rfl, by show ((bn : Int)).toNat = bn; omega, rfl⟩)
            have Hc0 : Hid (n0.cand = A &&& ~~~ F) := Lib.hid (by rw [← hn0.out, ← hAn.out, ← hF.out]; show anc g ((bn : Int)).toNat &&& _ = _; rw [show ((bn : Int)).toNat = bn by omega])
            have HRd : Hid (Rp w4.heap.size rb ib kb g.length (.slice gao g.length gcap) bn (mem n0.cand) wo.drew) := Lib.hid (by
              have h0 := HRw.out.ext (Below.refl _ _).drew
              refine ⟨h0.hb, h0.blk, h0.is.congr (fun x hx => ?_), h0.sk, h0.ne⟩
              rw [Hc0.out, mem_less]
              unfold cutF
              rw [if_pos hx]
              cases mem F x <;> rfl)
            have HSl := Lib.hid (HRd.out.is.slB hgl)
            have hbs : w4.heap.size ≤ wo.drew.heap.size := Nat.le_trans HRd.out.hb (Nat.le_of_lt HRd.out.lt)
            have HWd : Hid (Below w.heap.size w wo.drew) := Lib.hid HW.out.drew
            have hwo : wo.drew.heap.size = wo.heap.size := rfl
            clear HRw HW HUr
            go_wp2_with fail
            go_region_law ((refine step_append rfl (en := eBool) (s := 1) (base := wo.drew.heap.size) (e := 4) _ _ _ (by rfl) _ 1 Try.underlying51 info4 rfl (by omega) len_eB one_eBool (.slice none 0 0) (slB ib g.length) [] ((List.range g.length).map (mem n0.cand)) (by rfl) (Own.nil _ _ _ _ _) (by rfl) HSl.out (by simp [maxLen]; omega) (by simp; omega) (Nat.le_refl _) ?_; intro v3 w3 hown3 hgr3 hb3; obtain ⟨fa, fn, fc, rfl⟩ := hown3.isSlice; have c6 := (hb3.cell (p := ⟨rb, 5, none⟩) HRd.out.lt).trans HRd.out.now.2.1; have q6 := (hb3.frozen (p := ⟨rb, 5, none⟩) HRd.out.lt).trans HRd.out.now.2.2))
            all_goals
              obtain ⟨hrs, hbl⟩ := HRd.out.fin Hn0.out hb3 (by simpa using hown3) hbs
              go_wp2_with fail
              go_ret2
              rw [HE.out, hn0.out]
              exact ⟨fun h => absurd rfl h, fun _ => ⟨rb, ib, kb, _, rfl, hrs.low hlow, HWd.out.trans (hbl.mono hlow)⟩⟩
end Go.Proofs.Ytcpmnocknpalfaa

namespace Go.Proofs.Ytcpmnocknpalfaa
open Go.RowKit Go.Sl Go.B64 Go.Bis
set_option linter.unusedVariables false

theorem same_own {v1 v2 : Value} {l1 l2 : List Int} {u : World} (he : l1 = l2) (h1 : Sl eInt 1 u v1 l1) (h2 : Sl eInt 1 u v2 l2) : Calls Try.prog 18 #[v1, v2] u fun e w' => e = .returned (.bool true) ∧ Below u.heap.size u w' := by
  refine (same_any v1 v2 l1 l2 u h1 h2).mono ?_
  rintro e w' ⟨rfl, n, rfl⟩
  exact ⟨by rw [decide_eq_true he], below_drewN (Below.refl _ _) n⟩
theorem filt_same {s : S} {N : Nat} (h : ∀ x, mem s x = true → x < N) (hN : N ≤ 128) : Dag.filtN (mem s) 128 = Dag.filtN (mem s) N :=
  Dag.filtN_all hN (fun n hn => by
    cases e : mem s n
    · rfl
    · have := h n e; omega)

set_option maxRecDepth 100000 in
set_option maxHeartbeats 2000000 in
theorem told_any {b1 sb ub b2 rb ib kb : Nat} {gv fv : Value} {f f' n : St} {w : World} {es : List (SlV × Int)} {g : List Nd} (hs : Se b1 sb ub g.length (anc g) f n w) (hr : Rs b2 rb ib kb g.length gv fv f' n w) (hg : Dag.okG g) (hG : Gr w gv es g)
    (hlt : ∀ x, mem n.cand x = true → x < g.length) (hsk : ∀ x, mem n.skip x = true → x < g.length) (hw : n.worst < g.length) :
    Calls Try.prog 51 #[.pointer (some ⟨sb, 0, none⟩), .pointer (some ⟨rb, 0, none⟩)] w fun e w' => e = .returned (.bool true) ∧ Below w.heap.size w w' := by
  have hgl := hg.1
  have HS := Lib.hid hs
  have HR := Lib.hid hr
  have HG := Lib.hid hg
  have HGr := Lib.hid hG
  have HL := Lib.hid hlt
  have HX := Lib.hid (bnext_any hs hgl hlt hw)
  have HEc := Lib.hid (filt_same hlt hgl)
  have HEs := Lib.hid (filt_same hsk hgl)
  clear hs hr hg hG hlt hsk hw
  go_enter Try.func51, Try.ntmps51
  go_wp2_with fail
  refine HX.out.mono ?_
  rintro e w1 ⟨rfl, hb1⟩
  have HB1 := Lib.hid hb1
  have HY := Lib.hid (rnext_any (HR.out.ext hb1) HG.out (HGr.out.ext hb1) HL.out)
  obtain ⟨nn, hnn⟩ : ∃ b, Hid (nxN (acc (anc g) n g.length) = b) := ⟨_, Lib.hid rfl⟩
  obtain ⟨nb, hnb⟩ : ∃ b, Hid (nxB (acc (anc g) n g.length) = b) := ⟨_, Lib.hid rfl⟩
  rw [hnn.out, hnb.out] at HY ⊢
  clear hb1 HX
  go_wp2_with fail
  refine HY.out.mono ?_
  rintro e w2 ⟨rfl, hb2⟩
  have HB2 := Lib.hid (bthen HB1.out hb2)
  have HS2 := Lib.hid (HS.out.ext HB2.out)
  have HR2 := Lib.hid (HR.out.ext HB2.out)
  clear hb2 HY hnn hnb
  have hrb := HR2.out.lt
  have HK : Hid (∀ u, Below w2.heap.size w2 u → u.cell? ⟨rb, 3, none⟩ = some (.int .i64 (n.worst : Int)) ∧ u.cell? ⟨rb, 4, none⟩ = some (.int .i64 (n.ans : Int))) := Lib.hid (fun u hu => (HR2.out.ext hu).now.2.2.2.imp id (fun h => h.1))
  have HK2 : Hid (∀ u, Below w2.heap.size w2 u → u.cell? ⟨rb, 1, none⟩ = some (slB ib g.length) ∧ u.cell? ⟨rb, 2, none⟩ = some (slB kb g.length)) := Lib.hid (fun u hu => ⟨(HR2.out.ext hu).now.2.1, (HR2.out.ext hu).now.2.2.1⟩)
  have b0 : Below w2.heap.size w2 w2.drew := (Below.refl _ _).drew
  go_wp2_with fail
  go_region_held3 (fun u => u.cell? ⟨rb, 3, none⟩ = some (.int .i64 (n.worst : Int)) ∧ u.cell? ⟨rb, 4, none⟩ = some (.int .i64 (n.ans : Int)))
    (first
      | exact HK.out _ b0)
    (first
      | (go_at_call 56; (refine (bans_any (HS2.out.ext b0)).mono ?_); rintro e u ⟨rfl, rfl⟩)
      | (go_at_call 43; (refine (bworst_any (HS2.out.ext b0)).mono ?_); rintro e u ⟨rfl, rfl⟩))
  obtain ⟨w3, hw3⟩ : ∃ u, Hid (u = w2.drew) := ⟨_, Lib.hid rfl⟩
  rw [← hw3.out] at b0 ⊢
  have HB3 := Lib.hid (bthen HB2.out b0)
  have HS3 := Lib.hid (HS2.out.ext b0)
  have HR3 := Lib.hid (HR2.out.ext b0)
  have HQ := Lib.hid (fun u (hu : Below w3.heap.size w3 u) => HK2.out u (bthen b0 hu))
  clear hw3 b0 HK HK2 HS2 HR2 HB2 hrb
  have b1 : Below w3.heap.size w3 w3.drew := (Below.refl _ _).drew
  go_wp2_with fail
  go_region_held3 (fun u => u.cell? ⟨rb, 1, none⟩ = some (slB ib g.length) ∧ u.cell? ⟨rb, 2, none⟩ = some (slB kb g.length))
    (first
      | exact HQ.out _ HU6.out
      | exact HQ.out _ HU5.out
      | exact HQ.out _ HU4.out
      | exact HQ.out _ HU3.out
      | exact HQ.out _ HU2.out
      | exact HQ.out _ HU1.out
      | exact HQ.out _ b1)
    (first
      | (go_at_call 18; have _g := HU5.out; (refine (same_own HEs.out HV5.out HF5.out).mono ?_); rintro e u6 ⟨rfl, hb6⟩; have HU6 : Hid (Below w3.heap.size w3 u6) := Lib.hid (bthen HU5.out hb6); clear hb6)
      | (go_at_call 34; have _g := HU4.out; (refine (list_any kb b2 g.length (mem n.skip) _ (HR3.out.ext HU4.out).sk (by omega)).mono ?_); rintro e u5 ⟨v5, rfl, ho5, hb5⟩; have HU5 : Hid (Below w3.heap.size w3 u5) := Lib.hid (bthen HU4.out hb5); have HF5 := Lib.hid (ho5.sl len_eInt); have HV5 := Lib.hid (HV4.out.ext hb5); clear ho5 hb5)
      | (go_at_call 42; have _g := HU3.out; (refine (bskip_any (HS3.out.ext HU3.out)).mono ?_); rintro e u4 ⟨v4, rfl, ho4, hb4⟩; have HU4 : Hid (Below w3.heap.size w3 u4) := Lib.hid (bthen HU3.out hb4); have HV4 := Lib.hid (ho4.sl len_eInt); clear ho4 hb4)
      | (go_at_call 18; have _g := HU2.out; (refine (same_own HEc.out HV2.out HF2.out).mono ?_); rintro e u3 ⟨rfl, hb3⟩; have HU3 : Hid (Below w3.heap.size w3 u3) := Lib.hid (bthen HU2.out hb3); clear hb3)
      | (go_at_call 34; have _g := HU1.out; (refine (list_any ib b2 g.length (mem n.cand) _ (HR3.out.ext HU1.out).is (by omega)).mono ?_); rintro e u2 ⟨v2, rfl, ho2, hb2⟩; have HU2 : Hid (Below w3.heap.size w3 u2) := Lib.hid (bthen HU1.out hb2); have HF2 := Lib.hid (ho2.sl len_eInt); have HV2 := Lib.hid (HV1.out.ext hb2); clear ho2 hb2)
      | (go_at_call 41; (refine (bcand_any (HS3.out.ext b1)).mono ?_); rintro e u1 ⟨v1, rfl, ho1, hb1⟩; have HU1 : Hid (Below w3.heap.size w3 u1) := Lib.hid (bthen b1 hb1); have HV1 := Lib.hid (ho1.sl len_eInt); clear ho1 hb1))
  go_wp2_with fail
  go_ret
  exact ⟨rfl, bthen HB3.out HU6.out⟩
end Go.Proofs.Ytcpmnocknpalfaa
