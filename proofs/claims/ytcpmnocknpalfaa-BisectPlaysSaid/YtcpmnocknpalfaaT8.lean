/-
  Layer 34: New. No condition besides what the arguments are.
-/
import Derived.Test.YtcpmnocknpalfaaT7
import Derived.Test.YtcpmnocknpalfaaS4
import Derived.Test.YtcpmnocknpalfaaR5
namespace Go.Proofs.Ytcpmnocknpalfaa
open Go.RowKit Go.Sl Go.B64 Go.Bis
set_option linter.unusedVariables false

/-- the good ones' ancestors -/
noncomputable def fineS (g : List Nd) (l : List Nat) : S := l.foldl (fun s p => s ||| anc g p) 0
theorem fineS_snoc (g : List Nd) (l : List Nat) (p : Nat) : fineS g (l ++ [p]) = fineS g l ||| anc g p := by simp [fineS]
theorem mem_fineS (g : List Nd) (l : List Nat) (x : Nat) : mem (fineS g l) x = true ↔ ∃ p, p ∈ l ∧ mem (anc g p) x = true := by
  have key : ∀ (l : List Nat) (s : S), mem (l.foldl (fun s p => s ||| anc g p) s) x = true ↔ mem s x = true ∨ ∃ p, p ∈ l ∧ mem (anc g p) x = true := by
    intro l
    induction l with
    | nil => simp
    | cons y l ih =>
      intro s
      rw [List.foldl_cons, ih, mem_or, Bool.or_eq_true]
      simp [or_assoc]
  unfold fineS
  rw [key, mem_zero]; simp
open Classical in
/-- New's error -/
noncomputable def newE (g : List Nd) (bad : Int) (l : List Int) : Nat :=
  if Dag.okG g then (if Dag.inN g.length (bad :: l) then (if mem (fineS g (Dag.nn l)) bad.toNat = true then 50 else 0) else 2) else 12
noncomputable def newS (g : List Nd) (bad : Int) (l : List Int) : St := ⟨anc g bad.toNat &&& ~~~ fineS g (Dag.nn l), 0, bad.toNat, 0⟩

theorem newE_arg {g : List Nd} {bad : Int} {l : List Int} (hg : Dag.okG g) (h : ¬ Dag.inN g.length (bad :: l)) : newE g bad l = 2 := by unfold newE; rw [if_pos hg, if_neg h]
theorem newE_state {g : List Nd} {bad : Int} {l : List Int} (hg : Dag.okG g) (h : Dag.inN g.length (bad :: l)) (hf : mem (fineS g (Dag.nn l)) bad.toNat = true) : newE g bad l = 50 := by unfold newE; rw [if_pos hg, if_pos h, if_pos hf]
theorem newE_ok {g : List Nd} {bad : Int} {l : List Int} (hg : Dag.okG g) (h : Dag.inN g.length (bad :: l)) (hf : mem (fineS g (Dag.nn l)) bad.toNat = false) : newE g bad l = 0 := by unfold newE; rw [if_pos hg, if_pos h, hf]; rfl
theorem nn_take_snoc {l : List Int} {k p : Nat} (h : k < l.length) (e : l[k] = (p : Int)) : Dag.nn (l.take (k + 1)) = Dag.nn (l.take k) ++ [p] := by
  rw [List.take_succ_eq_append_getElem h, e]; simp [Dag.nn]

/-- the sets' row is made; a set of one's own at block fb -/
structure Fi (base fb : Nat) (s : S) (w : World) : Prop where
  hb : base ≤ fb
  blk : w.heap[fb]? = some (.cells #[.int .u64 (u64 (wd s 0)), .int .u64 (u64 (wd s 1))] 80 (0, 0))
section
variable {base fb : Nat} {s : S} {w w' : World}
theorem Fi.ext (h : Fi base fb s w) (hb : Below w.heap.size w w') : Fi base fb s w' := ⟨h.hb, (hb.block _ (Array.getElem?_eq_some_iff.1 h.blk).1).trans h.blk⟩
theorem Fi.lt (h : Fi base fb s w) : fb < w.heap.size := (Array.getElem?_eq_some_iff.1 h.blk).1
theorem Fi.set (h : Fi base fb s w) (t : S) : Fi base fb t ((w.setCell ⟨fb, 0, none⟩ (.int .u64 (u64 (wd t 0)))).setCell ⟨fb, 1, none⟩ (.int .u64 (u64 (wd t 1)))) := ⟨h.hb, two_set h.blk⟩
theorem Fi.new (w : World) : Fi w.heap.size w.heap.size 0 (w.alloc (.cells #[.int .u64 0, .int .u64 0] 80)) := ⟨Nat.le_refl _, by rw [wd_zero, wd_zero]; exact heap_alloc_new _ _⟩
end

def sixC (s : S) (n : Nat) : Array Value := #[.int .u64 (u64 (wd s 0)), .int .u64 (u64 (wd s 1)), .int .u64 0, .int .u64 0, .int .i64 (n : Int), .int .i64 0]
def Z6 (w : World) (b : Nat) : Prop := w.heap[b]? = some (.cells #[.int .u64 0, .int .u64 0, .int .u64 0, .int .u64 0, .int .i64 0, .int .i64 0] 82 (0, 0))
theorem Z6.ext {w w' : World} {b : Nat} (h : Z6 w b) (hb : Below w.heap.size w w') : Z6 w' b := (hb.block _ (Array.getElem?_eq_some_iff.1 h).1).trans h
theorem z6_new (w : World) : Z6 (w.alloc (.cells #[.int .u64 0, .int .u64 0, .int .u64 0, .int .u64 0, .int .i64 0, .int .i64 0] 82)) w.heap.size := heap_alloc_new _ _
theorem z6_newd (w : World) : Z6 (w.alloc (.cells #[.int .u64 0, .int .u64 0, .int .u64 0, .int .u64 0, .int .i64 0, .int .i64 0] 82)).drew w.heap.size := heap_alloc_new _ _
theorem six_cells {w : World} {b : Nat} {x0 x1 x2 x3 x4 x5 : Value} {e : TypeId} (h : w.heap[b]? = some (.cells #[x0, x1, x2, x3, x4, x5] e (0, 0))) : b < w.heap.size ∧
    w.cell? ⟨b, 0, none⟩ = some x0 ∧ w.cell? ⟨b, 1, none⟩ = some x1 ∧ w.cell? ⟨b, 2, none⟩ = some x2 ∧ w.cell? ⟨b, 3, none⟩ = some x3 ∧ w.cell? ⟨b, 4, none⟩ = some x4 ∧ w.cell? ⟨b, 5, none⟩ = some x5 ∧
    w.frozen? ⟨b, 0, none⟩ = false ∧ w.frozen? ⟨b, 1, none⟩ = false ∧ w.frozen? ⟨b, 2, none⟩ = false ∧ w.frozen? ⟨b, 3, none⟩ = false ∧ w.frozen? ⟨b, 4, none⟩ = false ∧ w.frozen? ⟨b, 5, none⟩ = false :=
  ⟨(Array.getElem?_eq_some_iff.1 h).1, by simp [World.cell?, h], by simp [World.cell?, h], by simp [World.cell?, h], by simp [World.cell?, h], by simp [World.cell?, h], by simp [World.cell?, h],
    by simp [World.frozen?, h], by simp [World.frozen?, h], by simp [World.frozen?, h], by simp [World.frozen?, h], by simp [World.frozen?, h], by simp [World.frozen?, h]⟩
theorem six_set {w : World} {b : Nat} {x0 x1 x2 x3 x4 x5 : Value} {e : TypeId} (h : w.heap[b]? = some (.cells #[x0, x1, x2, x3, x4, x5] e (0, 0))) (a0 a1 a2 a3 a4 a5 : Value) :
    ((((((w.setCell ⟨b, 0, none⟩ a0).setCell ⟨b, 1, none⟩ a1).setCell ⟨b, 2, none⟩ a2).setCell ⟨b, 3, none⟩ a3).setCell ⟨b, 4, none⟩ a4).setCell ⟨b, 5, none⟩ a5).heap[b]? = some (.cells #[a0, a1, a2, a3, a4, a5] e (0, 0)) := by
  have h0 := Lib.heap_setCell_same (i := 0) h a0
  have h1 := Lib.heap_setCell_same (i := 1) h0 a1
  have h2 := Lib.heap_setCell_same (i := 2) h1 a2
  have h3 := Lib.heap_setCell_same (i := 3) h2 a3
  have h4 := Lib.heap_setCell_same (i := 4) h3 a4
  have h5 := Lib.heap_setCell_same (i := 5) h4 a5
  exact h5.trans (by simp)
theorem bel_six {B b : Nat} {w u : World} (h : Below B w u) (hb : B ≤ b) (a0 a1 a2 a3 a4 a5 : Value) :
    Below B w ((((((u.setCell ⟨b, 0, none⟩ a0).setCell ⟨b, 1, none⟩ a1).setCell ⟨b, 2, none⟩ a2).setCell ⟨b, 3, none⟩ a3).setCell ⟨b, 4, none⟩ a4).setCell ⟨b, 5, none⟩ a5) := by
  have h0 := h.setCell (p := ⟨b, 0, none⟩) hb a0
  have h1 := h0.setCell (p := ⟨b, 1, none⟩) hb a1
  have h2 := h1.setCell (p := ⟨b, 2, none⟩) hb a2
  have h3 := h2.setCell (p := ⟨b, 3, none⟩) hb a3
  have h4 := h3.setCell (p := ⟨b, 4, none⟩) hb a4
  exact h4.setCell (p := ⟨b, 5, none⟩) hb a5
theorem se_new (ub N : Nat) (s : S) (n : Nat) : seCells (upV ub N) ⟨s, 0, n, 0⟩ ⟨s, 0, n, 0⟩ = #[upV ub N, .int .u64 (u64 (wd s 0)), .int .u64 (u64 (wd s 1)), .int .u64 0, .int .u64 0, .int .i64 (n : Int), .int .i64 0,
    .int .u64 (u64 (wd s 0)), .int .u64 (u64 (wd s 1)), .int .u64 0, .int .u64 0, .int .i64 (n : Int), .int .i64 0] := by simp only [seCells, wd_zero]; rfl

set_option maxRecDepth 100000 in
set_option maxHeartbeats 1000000 in
theorem bnew_any (gv lv : Value) (es : List (SlV × Int)) (g : List Nd) (bad : Int) (l : List Int) (hll : l.length ≤ 1000) (w : World) (h : Gr w gv es g) (hl : Sl eInt 1 w lv l) :
    Calls Try.prog 37 #[gv, .int .i64 bad, lv] w fun e w' =>
      (newE g bad l ≠ 0 → e = .returned (.tuple #[.pointer none, .int .i64 (newE g bad l : Nat)]) ∧ Below w.heap.size w w') ∧
      (newE g bad l = 0 → ∃ sb ub, e = .returned (.tuple #[.pointer (some ⟨sb, 0, none⟩), .int .i64 0]) ∧ Se w.heap.size sb ub g.length (anc g) (newS g bad l) (newS g bad l) w' ∧ Below w.heap.size w w') := by
  have HG := Lib.hid h
  have HL := Lib.hid hl
  have hlen := h.run_len
  have hlen2 := hl.run_len (P := Try.prog) Try.underlying23
  have HC := Lib.hid (check_any gv es g w h)
  rcases Dag.chk_cases g with ⟨hg, hc⟩ | ⟨hg, hc⟩
  · rw [hc] at HC
    have HK := Lib.hid hg
    have hgl := hg.1
    clear h hl hc hg
    go_enter Try.func37, Try.ntmps37
    go_wp2_with fail
    refine HC.out.mono ?_
    rintro e w1 ⟨rfl, hb1⟩
    have HB1 := Lib.hid hb1
    have HL1 := Lib.hid ((HL.out.ext hb1).ext (bel_alloc w1 (.cells #[.int .i64 bad] 3)))
    clear hb1 HC
    go_wp2_with (at_builtin; go_must (refine wpList_append rfl (en := eInt) (s := 1) (base := w1.heap.size) (e := 3) _ _ 23 rfl (.int .i64 0) 8 Try.underlying23 info3 rfl (by decide) len_eInt one_eInt _ _ [bad] l rfl (own_fresh1 w1 bad) rfl HL1.out (by simp only [maxLen, List.length_singleton]; omega) (by simp only [List.length_singleton]; omega) (by simp) ?_; intro v6 w6 hown hgr hbel; have HO := Lib.hid hown; have HB6 : Hid (Below w.heap.size w w6) := Lib.hid (bthen HB1.out ((bel_alloc w1 (.cells #[.int .i64 bad] 3)).trans hbel)); clear hown hgr hbel; have hlen6 := (HO.out.sl len_eInt).run_len (P := Try.prog) Try.underlying23; simp only [List.singleton_append, List.length_cons] at hlen6))
    clear hlen6
    obtain ⟨al, hal⟩ : ∃ al, Hid (bad :: l = al) := ⟨_, Lib.hid rfl⟩
    have HOa : Hid (Sl eInt 1 w6 v6 al) := Lib.hid (by rw [← hal.out]; exact HO.out.sl len_eInt)
    have hll2 : al.length = l.length + 1 := by rw [← hal.out]; rfl
    clear HO
    have hlen' := HOa.out.run_len (P := Try.prog) Try.underlying23
    go_loop [26] (fun i => ∃ (k : Nat), i = .int .i64 k ∧ k ≤ al.length ∧ Hid (Dag.inN g.length (al.take k))) (fun i => al.length - (intOf i).toNat)
    case atStart => exact ⟨0, rfl, by omega, Lib.hid (fun x hx => by simp at hx)⟩
    case round =>
      obtain ⟨k, rfl, hk, HT⟩ := hrel
      by_cases hlt : k < al.length
      · obtain ⟨b2, o2, hb2, hix2, hc2⟩ := HOa.out.atB (Below.refl _ _) (P := Try.prog) Try.underlying23 cells3 some3 hlt
        have e1 := hc2 0 (by omega)
        simp only [eInt, List.getElem?_cons_zero, Nat.add_zero] at e1
        obtain ⟨x, HY⟩ : ∃ x, Hid (al[k] = x) := ⟨_, Lib.hid rfl⟩
        rw [HY.out] at e1
        have HBad : Hid (¬ (0 ≤ x ∧ x < g.length) → newE g bad l = 2) := Lib.hid (fun hn => newE_arg HK.out (fun hi => hn (by
          have := hi al[k] (by rw [hal.out]; exact List.getElem_mem hlt)
          rw [HY.out] at this; exact this)))
        clear hc2
        by_cases h0 : x < 0
        · have d0 := decide_eq_true h0
          have HZ := Lib.hid (HBad.out (by omega))
          clear h0 HBad
          go_wp2_with fail
          go_ret2
          rw [HZ.out]
          exact ⟨fun _ => ⟨rfl, HB6.out⟩, fun h => by cases h⟩
        · have d0 := decide_eq_false h0
          by_cases h1 : (g.length : Int) ≤ x
          · have d1 := decide_eq_true h1
            have HZ := Lib.hid (HBad.out (by omega))
            clear h0 HBad h1
            go_wp2_with fail
            go_ret2
            rw [HZ.out]
            exact ⟨fun _ => ⟨rfl, HB6.out⟩, fun h => by cases h⟩
          · have d1 := decide_eq_false h1
            have HT2 : Hid (Dag.inN g.length (al.take (k + 1))) := Lib.hid (by
              rw [List.take_succ_eq_append_getElem hlt, HY.out]
              intro z hz
              rcases List.mem_append.1 hz with hz | hz
              · exact HT.out z hz
              · rw [List.mem_singleton] at hz; subst hz; omega)
            clear h0 h1 HBad
            go_wp2_with fail
            go_round
            case rel => exact ⟨k + 1, by go_num, by omega, HT2⟩
            case measure => simp [intOf]; omega
      · have HIN : Hid (Dag.inN g.length (bad :: l)) := Lib.hid (by have := HT.out; rw [List.take_of_length_le (by omega), ← hal.out] at this; exact this)
        obtain ⟨bn, rfl⟩ : ∃ bn : Nat, bad = (bn : Int) := ⟨bad.toNat, by have := (HIN.out bad (by simp)).1; omega⟩
        have hbn : bn < g.length := by have := (HIN.out (bn : Int) (by simp)).2; omega
        have HA := Lib.hid (ancs_any gv es g w6 (HG.out.ext HB6.out) HK.out)
        have hl6 : w.heap.size ≤ w6.heap.size := HB6.out.size
        clear HT hlen' HL1
        go_wp2_with fail
        refine HA.out.mono ?_
        rintro e u7 ⟨rfl, hbs, hb7⟩
        obtain ⟨ub, hub⟩ : ∃ ub, ub = w6.heap.size := ⟨_, rfl⟩
        rw [← hub] at hbs ⊢
        obtain ⟨fb, hfb⟩ : ∃ fb, fb = u7.heap.size := ⟨_, rfl⟩
        have HB7 : Hid (Below w.heap.size w u7) := Lib.hid (bthen HB6.out hb7)
        have HF0 : Hid (Fi w.heap.size fb 0 (u7.alloc (.cells #[.int .u64 0, .int .u64 0] 80))) := Lib.hid (by rw [hfb]; exact ⟨HB7.out.size, (Fi.new u7).blk⟩)
        have HS0 : Hid (Bs w.heap.size ub g.length (anc g) (u7.alloc (.cells #[.int .u64 0, .int .u64 0] 80))) := Lib.hid ((⟨by rw [hub]; exact hl6, hbs.blk⟩ : Bs w.heap.size ub g.length (anc g) u7).ext (balloc _ _))
        have HW0 : Hid (Below w.heap.size w (u7.alloc (.cells #[.int .u64 0, .int .u64 0] 80))) := Lib.hid (bthen HB7.out (balloc _ _))
        have HFB := Lib.hid hfb
        have HNE : Hid (ub ≠ fb) := Lib.hid (by have := (Array.getElem?_eq_some_iff.1 hbs.blk).1; omega)
        clear hbs hb7 hub HA hfb hl6
        go_wp2_with fail
        rw [← HFB.out]
        clear hlen hll2 hk hlt
        go_loopw [43] (fun i wr => ∃ (j : Nat), i = .int .i64 j ∧ j ≤ l.length ∧ Hid (Fi w.heap.size fb (fineS g (Dag.nn (l.take j))) wr) ∧ Hid (Bs w.heap.size ub g.length (anc g) wr) ∧ Hid (Below w.heap.size w wr)) (fun i _ => l.length - (intOf i).toNat)
        case atStart => exact ⟨0, rfl, by omega, HF0, HS0, HW0⟩
        case round =>
          obtain ⟨wo, rfl⟩ : ∃ u : World, u = wr := ⟨_, rfl⟩
          obtain ⟨j, rfl, hj, HF, HS, HW⟩ := hrel
          by_cases hlt : j < l.length
          · obtain ⟨b2, o2, hb2, hix2, hc2⟩ := HL.out.atB HW.out (P := Try.prog) Try.underlying23 cells3 some3 hlt
            have e1 := hc2 0 (by omega)
            simp only [eInt, List.getElem?_cons_zero, Nat.add_zero] at e1
            obtain ⟨p, hp, hpl⟩ : ∃ p : Nat, l[j] = (p : Int) ∧ p < g.length := by
              have := HIN.out l[j] (List.mem_cons_of_mem _ (List.getElem_mem hlt))
              exact ⟨l[j].toNat, by omega, by omega⟩
            rw [hp] at e1
            have HN : Hid (fineS g (Dag.nn (l.take (j + 1))) = fineS g (Dag.nn (l.take j)) ||| anc g p) := Lib.hid (by rw [nn_take_snoc hlt hp, fineS_snoc])
            have hpN : (p : Int) < (g.length : Int) := by omega
            have hp0 : (0 : Int) ≤ (p : Int) := by omega
            obtain ⟨s, hs⟩ : ∃ s, Hid (fineS g (Dag.nn (l.take j)) = s) := ⟨_, Lib.hid rfl⟩
            obtain ⟨t, ht⟩ : ∃ t, Hid (anc g p = t) := ⟨_, Lib.hid rfl⟩
            obtain ⟨k1, k2⟩ := HS.out.cell hpl
            obtain ⟨-, k3, k4, -, -⟩ := two_cells HF.out.blk
            rw [hs.out] at k3 k4 HF HN
            rw [ht.out] at k1 k2 HN
            clear hc2 hp hpl hb2
            go_upto_region 15 with fail
            clear e1 hix2
            go_region_with (go_at_call 78; (refine (or_any s t _).mono ?_); rintro e u9 ⟨rfl, hb⟩; have HW9 : Hid (Below wo.heap.size wo u9) := Lib.hid ((below_drewN (Below.refl _ _) 1).trans hb); have HF9 := Lib.hid (HF.out.ext HW9.out); have HS9 := Lib.hid (HS.out.ext HW9.out); obtain ⟨-, v1, v2, q1, q2⟩ := two_cells HF9.out.blk; clear hb)
            all_goals
              have HFn := Lib.hid (HF9.out.set (s ||| t))
              have HUn : Hid (∀ u, w.heap.size ≤ fb → Below w.heap.size w u → Below w.heap.size w ((u.setCell ⟨fb, 0, none⟩ (.int .u64 (u64 (wd (s ||| t) 0)))).setCell ⟨fb, 1, none⟩ (.int .u64 (u64 (wd (s ||| t) 1))))) := Lib.hid (fun u h1 h2 => (h2.setCell h1 _).setCell h1 _)
              have HWn := Lib.hid (HUn.out u9 HF9.out.hb (HW.out.trans (HW9.out.mono HW.out.size)))
              have HSn : Hid (Bs w.heap.size ub g.length (anc g) ((u9.setCell ⟨fb, 0, none⟩ (.int .u64 (u64 (wd (s ||| t) 0)))).setCell ⟨fb, 1, none⟩ (.int .u64 (u64 (wd (s ||| t) 1))))) := Lib.hid ⟨HS9.out.hb, heap_set_keep (heap_set_keep HS9.out.blk HNE.out) HNE.out⟩
              clear k1 k2 k3 k4 v1 v2 q1 q2 HUn
              go_wp2_with fail
              go_roundw
              case rel => exact ⟨j + 1, by go_num, by omega, by rw [HN.out]; exact HFn, HSn, HWn⟩
              case measure => simp [intOf]; omega
          · obtain ⟨s, hs⟩ : ∃ s, Hid (fineS g (Dag.nn l) = s) := ⟨_, Lib.hid rfl⟩
            rw [List.take_of_length_le (by omega), hs.out] at HF
            obtain ⟨-, k3, k4, -, -⟩ := two_cells HF.out.blk
            obtain ⟨b, hb⟩ : ∃ b, Hid (mem s bn = b) := ⟨_, Lib.hid rfl⟩
            have HH := Lib.hid (has_any s (bn : Int) b (by rw [← hb.out]; have : (0 : Int) ≤ (bn : Int) ∧ (bn : Int) < 128 := by omega
                                                           simp [this]) wo)
            have HZ : Hid (newE g bn l = if b = true then 50 else 0) := Lib.hid (by
              cases b with
              | true => rw [newE_state HK.out HIN.out (by rw [hs.out]; exact hb.out)]; rfl
              | false => rw [newE_ok HK.out HIN.out (by rw [hs.out]; exact hb.out)]; rfl)
            have HZ2 : Hid (newS g bn l = ⟨anc g bn &&& ~~~ s, 0, bn, 0⟩) := Lib.hid (by unfold newS; rw [hs.out]; rfl)
            clear hlen2
            go_wp2_with fail
            refine HH.out.mono ?_
            rintro e u10 ⟨rfl, hb10⟩
            have HB10 : Hid (Below w.heap.size w u10) := Lib.hid (bthen HW.out hb10)
            have HF10 := Lib.hid (HF.out.ext hb10)
            have HS10 := Lib.hid (HS.out.ext hb10)
            clear hb10 k3 k4 HH
            cases b with
            | true =>
              go_wp2_with fail
              go_ret2
              rw [HZ.out]
              exact ⟨fun _ => ⟨rfl, HB10.out⟩, fun h => by cases h⟩
            | false =>
              obtain ⟨t, ht⟩ : ∃ t, Hid (anc g bn = t) := ⟨_, Lib.hid rfl⟩
              have hx0 : (0 : Int) ≤ (bn : Int) := by omega
              have hx1 : (bn : Int) < (g.length : Int) := by omega
              have hub := HS10.out.lt
              have hfb := HF10.out.lt
              obtain ⟨k1, k2⟩ := HS10.out.cell hbn
              obtain ⟨-, k3, k4, -, -⟩ := two_cells HF10.out.blk
              rw [ht.out] at k1 k2
              have HKK : Hid (∀ u, Below u10.heap.size u10 u → u.cell? ⟨fb, 0, none⟩ = some (.int .u64 (u64 (wd s 0))) ∧ u.cell? ⟨fb, 1, none⟩ = some (.int .u64 (u64 (wd s 1))) ∧ u.cell? ⟨ub, bn * 2, none⟩ = some (.int .u64 (u64 (wd t 0))) ∧ u.cell? ⟨ub, bn * 2 + 1, none⟩ = some (.int .u64 (u64 (wd t 1))) ∧ Below u10.heap.size u10 u) := Lib.hid (fun u hu =>
                ⟨(hu.cell (p := ⟨fb, 0, none⟩) hfb).trans k3, (hu.cell (p := ⟨fb, 1, none⟩) hfb).trans k4, (hu.cell (p := ⟨ub, bn * 2, none⟩) hub).trans k1, (hu.cell (p := ⟨ub, bn * 2 + 1, none⟩) hub).trans k2, hu⟩)
              have b0 : Below u10.heap.size u10 u10.drew := (Below.refl _ _).drew
              have b0a : ∀ o, Below u10.heap.size u10 (u10.alloc o).drew := fun o => ((Below.refl _ _).alloc (Nat.le_refl _) o).drew
              clear k1 k2 k3 k4 hub hfb
              go_wp2_with fail
              go_cut [15] (fun s15 wx => ∃ blk, s15 = .pointer (some ⟨blk, 0, none⟩) ∧ Hid (wx.heap[blk]? = some (.cells (sixC (t &&& ~~~ s) bn) 82 (0, 0))) ∧ Hid (Below u10.heap.size u10 wx))
              case first =>
                go_region_held3 (fun u => u.cell? ⟨fb, 0, none⟩ = some (.int .u64 (u64 (wd s 0))) ∧ u.cell? ⟨fb, 1, none⟩ = some (.int .u64 (u64 (wd s 1))) ∧ u.cell? ⟨ub, bn * 2, none⟩ = some (.int .u64 (u64 (wd t 0))) ∧ u.cell? ⟨ub, bn * 2 + 1, none⟩ = some (.int .u64 (u64 (wd t 1))) ∧ Below u10.heap.size u10 u)
                  (first
                    | with_reducible exact HKK.out _ b0
                    | with_reducible exact HKK.out _ HBA
                    | with_reducible exact HKK.out _ (bel_six HBA (Nat.le_refl _) _ _ _ _ _ _)
                    | with_reducible exact HKK.out _ (bthen HBA (balloc _ _))
                    | with_reducible exact HKK.out _ (b0a _))
                  (first
                    | (go_at_call 80; (refine (less_any _ _ _).mono ?_); rintro e u11 ⟨rfl, hbA⟩; have HBA : Below u10.heap.size u10 u11 := (by first | exact bthen b0 hbA | exact bthen (b0a _) hbA); (first | (have HZA : Z6 u11 u10.heap.size := (z6_newd u10).ext hbA; obtain ⟨zl, z0, z1, z2, z3, z4, z5, zf0, zf1, zf2, zf3, zf4, zf5⟩ := six_cells HZA) | skip)))
                all_goals
                  have hsA := HBA.size
                  go_wp2_with fail
                  go_meet
                  refine ⟨_, rfl, Lib.hid ?_, Lib.hid ?_⟩
                  · unfold sixC
                    (try unfold Z6 at HZA)
                    first
                      | with_reducible exact six_set HZA _ _ _ _ _ _
                      | with_reducible exact heap_alloc_new _ _
                  · first
                      | with_reducible exact bel_six HBA (Nat.le_refl _) _ _ _ _ _ _
                      | with_reducible exact bthen HBA (balloc _ _)
              case rest =>
                obtain ⟨w12, rfl⟩ : ∃ u : World, u = wc := ⟨_, rfl⟩
                obtain ⟨blk, rfl, HO, HB12⟩ := hcut
                obtain ⟨-, o0, o1, o2, o3, o4, o5, -, -, -, -, -, -⟩ := six_cells HO.out
                have HS12 := Lib.hid (HS10.out.ext HB12.out)
                have HBw : Hid (Below w.heap.size w w12) := Lib.hid (bthen HB10.out HB12.out)
                clear b0 b0a HKK HO HF10 HS10
                go_wp2_with fail
                go_ret2
                have hs12 := HBw.out.size
                refine ⟨fun h => absurd HZ.out h, fun _ => ⟨w12.heap.size, ub, rfl, ?_, bthen HBw.out (balloc _ _)⟩⟩
                rw [HZ2.out, ht.out]
                refine ⟨hs12, ?_, (HS12.out.own hgl).ext (balloc _ _)⟩
                rw [se_new]
                exact heap_alloc_new _ _
  · rw [hc] at HC
    have HE : Hid (newE g bad l = 12) := Lib.hid (by unfold newE; rw [if_neg hg])
    clear h hl hc hg
    go_enter Try.func37, Try.ntmps37
    go_wp2_with fail
    refine HC.out.mono ?_
    rintro e w1 ⟨rfl, hb1⟩
    have HB1 := Lib.hid hb1
    clear hb1 HC
    go_wp2_with fail
    go_ret2
    rw [HE.out]
    exact ⟨fun _ => ⟨rfl, HB1.out⟩, fun h => by cases h⟩
end Go.Proofs.Ytcpmnocknpalfaa
