/-
  Layer 14, the document's: Heads, Bases. No condition besides what the arguments are.
-/
import Derived.Test.YtcpmnocknpalfaaR1
import Derived.Test.YtcpmnocknpalfaaH10
import Derived.Test.YtcpmnocknpalfaaH10
namespace Go.Proofs.Ytcpmnocknpalfaa
open Go.RowKit Go.Sl
set_option linter.unusedVariables false

theorem Bl.other {base ub N : Nat} {f : Nat → Bool} {w : World} (h : Bl base ub N f w) {b k : Nat} (hne : ub ≠ b) (v : Value) : Bl base ub N f (w.setCell ⟨b, k, none⟩ v) := ⟨h.hb, heap_set_keep (a := ⟨b, k, none⟩) h.blk hne⟩
theorem Own.bl {base bs b N : Nat} {f : Nat → Bool} {w : World} {v : Value} {l : List Int} (h : Own eInt 1 bs 3 w v l) (hb : Bl base b N f w) (k : Nat) (x : Value) : Own eInt 1 bs 3 (w.setCell ⟨b, k, none⟩ x) v l := h.set_other (h.ne_elem hb.blk (by decide)) (a := ⟨b, k, none⟩) x
theorem up1_any (gv : Value) (w : World) (es : List (SlV × Int)) (g : List Nd) (y : Nat) (yv : Int) (hyv : yv = y) (hg : Dag.okG g) (hy : y < g.length) (hG : Gr w gv es g) :
    Calls Try.prog 35 #[gv, .slice (some ⟨w.heap.size, 0, none⟩) 1 1] (w.alloc (.cells #[.int .i64 yv] 3)) fun e w' => ∃ ub, e = .returned (.slice (some ⟨ub, 0, none⟩) g.length g.length) ∧ w.heap.size < ub ∧ Bl ub ub g.length (Dag.upB g [y]) w' ∧ Below w.heap.size w w' := by
  subst hyv
  have hb0 : Below w.heap.size w (w.alloc (.cells #[.int .i64 (y : Int)] 3)) := (Below.refl _ _).alloc (Nat.le_refl _) _
  have hs : Sl eInt 1 (w.alloc (.cells #[.int .i64 (y : Int)] 3)) (.slice (some ⟨w.heap.size, 0, none⟩) 1 1) [(y : Int)] := Sl.fresh len_eInt rfl rfl rfl (by simp [maxLen])
  refine (up_any gv _ _ es g [(y : Int)] hg (inN_one (by omega)) (hG.ext hb0) hs).mono ?_
  rintro e w3 ⟨rfl, hu, hb⟩
  exact ⟨_, rfl, by simp, hu, hb0.trans (hb.mono (by simp))⟩
theorem own_filt (f : Nat → Bool) (N : Nat) : ∀ x ∈ Dag.filtN f N, 0 ≤ x ∧ x < N := fun x hx => by
  obtain ⟨n, h1, _, rfl⟩ := Dag.mem_filtN.1 hx
  omega
theorem mem_nn_filt {f : Nat → Bool} {N s : Nat} : s ∈ Dag.nn (Dag.filtN f N) ↔ s < N ∧ f s = true := by
  rw [List.mem_map]
  constructor
  · rintro ⟨y, hy, rfl⟩
    obtain ⟨n, h1, h2, rfl⟩ := Dag.mem_filtN.1 hy
    exact ⟨by omega, by simpa using h2⟩
  · rintro ⟨h1, h2⟩
    exact ⟨s, Dag.mem_filtN.2 ⟨s, h1, h2, rfl⟩, by simp⟩

set_option maxRecDepth 100000 in
set_option maxHeartbeats 1000000 in
theorem rheads_any (gv v : Value) (w : World) (es : List (SlV × Int)) (g : List Nd) (l : List Int) (hg : Dag.okG g) (hl : Dag.inN g.length l) (hG : Gr w gv es g) (h : Sl eInt 1 w v l) :
    Calls Try.prog 32 #[gv, v] w fun e w' => ∃ v, e = .returned v ∧ Own eInt 1 w.heap.size 3 w' v (Dag.headL g (Dag.nn l)) ∧ Below w.heap.size w w' := by
  have hix0 := hG.run_len
  have hlen := h.run_len (P := Try.prog) Try.underlying23
  have hmax := h.len_le
  have hgl := hg.1
  have hmk := make_bools g.length (by omega)
  rw [made_bcells] at hmk
  have HB0 : Hid (Bl w.heap.size w.heap.size g.length (fun _ => false) (w.alloc (.cells (bcells (fun _ => false) g.length) 4))) := Lib.hid ⟨Nat.le_refl _, heap_new_at rfl⟩
  have HW0 := Lib.hid ((Below.refl w.heap.size w).alloc (Nat.le_refl _) (.cells (bcells (fun _ => false) g.length) 4))
  have HL := Lib.hid hl
  have HG := Lib.hid hg
  clear hl hg
  go_enter Try.func32, Try.ntmps32
  go_wp2_with fail
  go_loopw [6] (fun i wr => ∃ (k : Nat) (f : Nat → Bool), i = .int .i64 k ∧ k ≤ l.length ∧ Hid (∀ x, x < g.length → (f x = true ↔ x ∈ Dag.nn (l.take k))) ∧ Hid (Bl w.heap.size w.heap.size g.length f wr) ∧ Hid (Below w.heap.size w wr)) (fun i _ => l.length - (intOf i).toNat)
  case atStart => exact ⟨0, _, rfl, by omega, Lib.hid (fun x hx => by simp), HB0, HW0⟩
  case round =>
    obtain ⟨k, f, rfl, hk, HF, HB, HW⟩ := hrel
    by_cases hlt : k < l.length
    · obtain ⟨b2, o2, hb2, hix2, hc2⟩ := h.atB HW.out (P := Try.prog) Try.underlying23 cells3 some3 hlt
      have e1 := hc2 0 (by omega)
      simp only [eInt, List.getElem?_cons_zero, Nat.add_zero] at e1
      obtain ⟨x, HY⟩ : ∃ x, Hid (l[k] = x) := ⟨_, Lib.hid rfl⟩
      rw [HY.out] at e1
      have hok := HL.out l[k] (List.getElem_mem hlt)
      rw [HY.out] at hok
      obtain ⟨y, rfl⟩ : ∃ y : Nat, x = y := ⟨x.toNat, by have := hok.1; omega⟩
      have hyn : y < g.length := by have := hok.2; omega
      have HT : Hid (Dag.nn (l.take (k + 1)) = Dag.nn (l.take k) ++ [y]) := Lib.hid (by show List.map _ _ = _; rw [par_take hlt, HY.out]; rfl)
      obtain ⟨c1, c2, c3⟩ := HB.out.cell hyn
      have HB2 := Lib.hid (HB.out.set y true)
      have HW2 : Hid (Below w.heap.size w (wr.setCell ⟨w.heap.size, y, none⟩ (.bool true))) := Lib.hid (HW.out.setCell (p := ⟨w.heap.size, y, none⟩) (Nat.le_refl _) _)
      have HF2 : Hid (∀ x, x < g.length → (Dag.upd f y true x = true ↔ x ∈ Dag.nn (l.take (k + 1)))) := Lib.hid (fun x hx => by
        rw [Dag.upd_true, HT.out, HF.out x hx, List.mem_append, List.mem_singleton]; exact Or.comm)
      clear hc2 hok HT HF HB
      go_wp2_with fail
      go_roundw
      case rel => exact ⟨k + 1, _, by go_num, by omega, HF2, HB2, HW2⟩
      case measure => simp [intOf]; omega
    · have HF2 : Hid (∀ x, x < g.length → (f x = true ↔ x ∈ Dag.nn l)) := Lib.hid (by have := HF.out; rwa [List.take_of_length_le (by omega)] at this)
      clear HF
      go_wp2_with fail
      refine (list_any _ _ g.length f wr HB.out (by omega)).mono ?_
      rintro e w1 ⟨ov, rfl, ho, hb⟩
      obtain ⟨bs, HO⟩ : ∃ bs, Hid (Own eInt 1 bs 3 w1 ov (Dag.filtN f g.length)) := ⟨_, Lib.hid ho⟩
      have HB1 := Lib.hid (HB.out.ext hb)
      have HW1 := Lib.hid (HW.out.trans (hb.mono HW.out.size))
      have HOwn : Hid (∀ s, s ∈ Dag.nn (Dag.filtN f g.length) ↔ s ∈ Dag.nn l) := Lib.hid (fun s => by
        rw [mem_nn_filt]
        constructor
        · rintro ⟨h1, h2⟩; exact (HF2.out s h1).1 h2
        · intro h1; have h2 := nn_lt HL.out s h1; exact ⟨h2, (HF2.out s h2).2 h1⟩)
      have HC : Hid (Dag.HdC g (Dag.nn l) (Dag.nn (Dag.filtN f g.length)) f 0) := Lib.hid (Dag.HdC.start HF2.out)
      have HIn := Lib.hid (own_filt f g.length)
      obtain ⟨own, hown⟩ : ∃ own, own = Dag.filtN f g.length := ⟨_, rfl⟩
      rw [← hown] at HO HOwn HC HIn
      have hol : own.length ≤ g.length := by rw [hown]; exact Dag.filtN_len _
      clear ho hb HB HW HF2 hown
      have hlo := (HO.out.sl len_eInt).run_len (P := Try.prog) Try.underlying23
      go_wp2_with fail
      go_loopw [8] (fun i wr => ∃ (k : Nat) (f : Nat → Bool), i = .int .i64 k ∧ k ≤ own.length ∧ Hid (Dag.HdC g (Dag.nn l) (Dag.nn own) f k) ∧ Hid (Bl w.heap.size w.heap.size g.length f wr) ∧ Hid (Own eInt 1 bs 3 wr ov own) ∧ Hid (Below w.heap.size w wr)) (fun i _ => own.length - (intOf i).toNat)
      case atStart => exact ⟨0, f, rfl, by omega, HC, HB1, HO, HW1⟩
      case round =>
        obtain ⟨k, f, rfl, hk, HC, HB, HO, HW⟩ := hrel
        by_cases hlt2 : k < own.length
        · have hkn : k < (Dag.nn own).length := by simpa using hlt2
          obtain ⟨b2, o2, hb2, hix2, hc2⟩ := (HO.out.sl len_eInt).at (P := Try.prog) Try.underlying23 cells3 some3 hlt2
          have e1 := hc2 0 (by omega)
          simp only [eInt, List.getElem?_cons_zero, Nat.add_zero] at e1
          obtain ⟨x, HY⟩ : ∃ x, Hid (own[k] = x) := ⟨_, Lib.hid rfl⟩
          rw [HY.out] at e1
          have hok := HIn.out own[k] (List.getElem_mem hlt2)
          rw [HY.out] at hok
          obtain ⟨y, rfl⟩ : ∃ y : Nat, x = y := ⟨x.toNat, by have := hok.1; omega⟩
          have hyn : y < g.length := by have := hok.2; omega
          have HYn : Hid ((Dag.nn own)[k] = y) := Lib.hid (by rw [List.getElem_map, HY.out]; rfl)
          have HD0 := Lib.hid (HC.out.inner hkn)
          clear hc2 hok HC
          go_wp2_with fail
          refine (up1_any gv wr es g y _ rfl HG.out hyn (hG.ext HW.out)).mono ?_
          rintro e w3 ⟨ub, rfl, hub, hu, hb'⟩
          have hsz := HW.out.size
          have hne : ub ≠ w.heap.size := by omega
          obtain ⟨b5, HU⟩ : ∃ b5, Hid (Bl b5 ub g.length (Dag.upB g [y]) w3) := ⟨_, Lib.hid hu⟩
          have HB3 := Lib.hid (HB.out.ext hb')
          have HO3 := Lib.hid (HO.out.ext hb')
          have HW3 := Lib.hid (HW.out.trans (hb'.mono hsz))
          clear hu hb' HB HO HW hsz hub e1 hix2
          go_wp2_with fail
          go_loopw [10] (fun i wr => ∃ (n : Nat) (f : Nat → Bool), i = .int .i64 n ∧ n ≤ y ∧ Hid (Dag.HdD g (Dag.nn l) (Dag.nn own) f k n hkn) ∧ Hid (Bl w.heap.size w.heap.size g.length f wr) ∧ Hid (Bl b5 ub g.length (Dag.upB g [y]) wr) ∧ Hid (Own eInt 1 bs 3 wr ov own) ∧ Hid (Below w.heap.size w wr)) (fun i _ => y - (intOf i).toNat)
          case atStart => exact ⟨0, f, rfl, by omega, HD0, HB3, HU, HO3, HW3⟩
          case round =>
            obtain ⟨n, f, rfl, hn, HD, HB, HU, HO, HW⟩ := hrel
            obtain ⟨b2, o2, hb2, hix2, hc2⟩ := (HO.out.sl len_eInt).at (P := Try.prog) Try.underlying23 cells3 some3 hlt2
            have e1 := hc2 0 (by omega)
            simp only [eInt, List.getElem?_cons_zero, Nat.add_zero] at e1
            rw [HY.out] at e1
            clear hc2
            by_cases hlt3 : n < y
            · have hnN : n < g.length := by omega
              obtain ⟨c1, c2, c3⟩ := HB.out.cell hnN
              obtain ⟨d1, d2, d3⟩ := HU.out.cell hnN
              cases hfn : f n with
              | false =>
                rw [hfn] at c1
                have HD2 : Hid (Dag.HdD g (Dag.nn l) (Dag.nn own) (Dag.upd f n false) k (n + 1) hkn) := Lib.hid (HD.out.step (by rw [HYn.out]; exact hlt3) (by rw [HYn.out]; simp [hfn]))
                have HB2 := Lib.hid (HB.out.set n false)
                have HU2 := Lib.hid (HU.out.other hne (k := n) (.bool false))
                have HO2 := Lib.hid (Own.bl HO.out HB.out n (.bool false))
                have HW2 : Hid (Below w.heap.size w (wr.setCell ⟨w.heap.size, n, none⟩ (.bool false))) := Lib.hid (HW.out.setCell (p := ⟨w.heap.size, n, none⟩) (Nat.le_refl _) _)
                clear HD HB HU HO hfn
                go_wp2_with fail
                go_roundw
                case rel => exact ⟨n + 1, _, by go_num, by omega, HD2, HB2, HU2, HO2, HW2⟩
                case measure => simp [intOf]; omega
              | true =>
                rw [hfn] at c1
                cases hun : Dag.upB g [y] n with
                | false =>
                  rw [hun] at d1
                  have HD2 : Hid (Dag.HdD g (Dag.nn l) (Dag.nn own) (Dag.upd f n true) k (n + 1) hkn) := Lib.hid (HD.out.step (by rw [HYn.out]; exact hlt3) (by rw [HYn.out]; simp [hfn, hun]))
                  have HB2 := Lib.hid (HB.out.set n true)
                  have HU2 := Lib.hid (HU.out.other hne (k := n) (.bool true))
                  have HO2 := Lib.hid (Own.bl HO.out HB.out n (.bool true))
                  have HW2 : Hid (Below w.heap.size w (wr.setCell ⟨w.heap.size, n, none⟩ (.bool true))) := Lib.hid (HW.out.setCell (p := ⟨w.heap.size, n, none⟩) (Nat.le_refl _) _)
                  clear HD HB HU HO hfn hun
                  go_wp2_with fail
                  go_roundw
                  case rel => exact ⟨n + 1, _, by go_num, by omega, HD2, HB2, HU2, HO2, HW2⟩
                  case measure => simp [intOf]; omega
                | true =>
                  rw [hun] at d1
                  have HD2 : Hid (Dag.HdD g (Dag.nn l) (Dag.nn own) (Dag.upd f n false) k (n + 1) hkn) := Lib.hid (HD.out.step (by rw [HYn.out]; exact hlt3) (by rw [HYn.out]; simp [hfn, hun]))
                  have HB2 := Lib.hid (HB.out.set n false)
                  have HU2 := Lib.hid (HU.out.other hne (k := n) (.bool false))
                  have HO2 := Lib.hid (Own.bl HO.out HB.out n (.bool false))
                  have HW2 : Hid (Below w.heap.size w (wr.setCell ⟨w.heap.size, n, none⟩ (.bool false))) := Lib.hid (HW.out.setCell (p := ⟨w.heap.size, n, none⟩) (Nat.le_refl _) _)
                  clear HD HB HU HO hfn hun
                  go_wp2_with fail
                  go_roundw
                  case rel => exact ⟨n + 1, _, by go_num, by omega, HD2, HB2, HU2, HO2, HW2⟩
                  case measure => simp [intOf]; omega
            · have HC2 := Lib.hid (HD.out.done (by rw [HYn.out]; omega))
              go_wp2_with fail
              go_roundw
              case rel => exact ⟨k + 1, f, by go_num, by omega, HC2, HB, HO, HW⟩
              case measure => simp [intOf]; omega
        · have HX := Lib.hid (HC.out)
          go_wp2_with fail
          refine (list_any _ _ g.length f wr HB.out (by omega)).mono ?_
          rintro e w5 ⟨v5, rfl, ho, hb⟩
          have HO5 := Lib.hid ho
          have HB5 := Lib.hid hb
          clear ho hb
          go_wp2_with fail
          go_ret
          have hfin := Dag.HdC.fin HG.out HOwn.out (by
            have := HX.out
            rwa [show k = (Dag.nn own).length by simp; omega] at this)
          refine ⟨_, rfl, ?_, HW.out.trans (HB5.out.mono HW.out.size)⟩
          have e : Dag.filtN f g.length = Dag.headL g (Dag.nn l) := Dag.filtN_congr hfin
          rw [← e]
          exact HO5.out.mono HW.out.size
end Go.Proofs.Ytcpmnocknpalfaa
