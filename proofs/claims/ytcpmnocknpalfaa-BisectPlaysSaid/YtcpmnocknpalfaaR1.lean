/-
  Layer 14, the document's: a row of truths; the ancestors of some nodes; the numbers that are true. No condition besides what the arguments are.
-/
import Derived.Test.YtcpmnocknpalfaaH8
import Derived.Test.YtcpmnocknpalfaaG4
namespace Go.Proofs.Ytcpmnocknpalfaa
open Go.RowKit Go.Sl
set_option linter.unusedVariables false

def bcells (f : Nat → Bool) (N : Nat) : Array Value := ((List.range N).map fun k => Value.bool (f k)).toArray
/-- a row of N truths at block b -/
structure Bl (base b N : Nat) (f : Nat → Bool) (w : World) : Prop where
  hb : base ≤ b
  blk : w.heap[b]? = some (.cells (bcells f N) 4 (0, 0))
theorem bcells_congr {f f' : Nat → Bool} {N : Nat} (h : ∀ x, x < N → f x = f' x) : bcells f N = bcells f' N := by
  unfold bcells
  congr 1
  refine List.map_congr_left fun x hx => ?_
  rw [h x (List.mem_range.1 hx)]
theorem Bl.congr {base b N : Nat} {f f' : Nat → Bool} {w : World} (h : Bl base b N f w) (he : ∀ x, x < N → f x = f' x) : Bl base b N f' w := ⟨h.hb, by rw [← bcells_congr he]; exact h.blk⟩
theorem Bl.ext {base b N : Nat} {f : Nat → Bool} {w w' : World} (h : Bl base b N f w) (hb : Below w.heap.size w w') : Bl base b N f w' := ⟨h.hb, (hb.block _ (Array.getElem?_eq_some_iff.1 h.blk).1).trans h.blk⟩
theorem Bl.mono {base base' b N : Nat} {f : Nat → Bool} {w : World} (h : Bl base b N f w) (hb : base' ≤ base) : Bl base' b N f w := ⟨Nat.le_trans hb h.hb, h.blk⟩
theorem Bl.cell {base b N : Nat} {f : Nat → Bool} {w : World} (h : Bl base b N f w) {k : Nat} (hk : k < N) : w.cell? ⟨b, k, none⟩ = some (.bool (f k)) ∧ w.frozen? ⟨b, k, none⟩ = false ∧ b < w.heap.size := by
  refine ⟨?_, by simp [World.frozen?, h.blk], (Array.getElem?_eq_some_iff.1 h.blk).1⟩
  rw [cell_of_row w b k _ _ _ h.blk]
  simp [bcells, hk]
theorem Bl.set {base b N : Nat} {f : Nat → Bool} {w : World} (h : Bl base b N f w) (k : Nat) (v : Bool) : Bl base b N (Dag.upd f k v) (w.setCell ⟨b, k, none⟩ (.bool v)) := by
  refine ⟨h.hb, ?_⟩
  have := heap_setCell_same w b k _ _ (.bool v) h.blk
  rw [this]
  congr 2
  apply Array.ext'
  apply List.ext_getElem (by simp [bcells])
  intro n h1 h2
  simp only [bcells, Array.toList_setIfInBounds, List.getElem_set, List.getElem_map, List.getElem_range, Dag.upd]
  by_cases e : k = n
  · simp [e]
  · simp [e, Ne.symm e]
theorem Bl.len_le {base b N : Nat} {f : Nat → Bool} {w : World} (_h : Bl base b N f w) : True := trivial

theorem info4 : (Try.prog.info? 4).map (fun i => (i.zero, i.size, i.bytes)) = some (some (.bool false), 1, 1) := by kernel_rfl
theorem make_bools (n : Nat) (hn : n ≤ 800) : ∀ u : World, (Instr.makeSlice 51 (.int .i64 (n : Int)) (.int .i64 (n : Int))).run Try.prog u = .ok (.slice (some ⟨u.heap.size, 0, none⟩) n n) (u.alloc (.cells (madeCells #[.bool false] n) 4)) :=
  run_make_row' (P := Try.prog) 51 4 _ 1 Try.underlying51 info4 rfl .i64 .i64 n (by omega) (by omega)
theorem made_bcells (n : Nat) : madeCells #[Value.bool false] n = bcells (fun _ => false) n := by
  apply Array.ext'
  rw [toList_madeCells_one]
  simp [bcells, List.map_const']

set_option maxRecDepth 100000 in
set_option maxHeartbeats 1000000 in
theorem up_any (gv v : Value) (w : World) (es : List (SlV × Int)) (g : List Nd) (l : List Int) (hg : Dag.okG g) (hl : Dag.inN g.length l) (hG : Gr w gv es g) (h : Sl eInt 1 w v l) :
    Calls Try.prog 35 #[gv, v] w fun e w' => e = .returned (.slice (some ⟨w.heap.size, 0, none⟩) g.length g.length) ∧ Bl w.heap.size w.heap.size g.length (Dag.upB g (Dag.nn l)) w' ∧ Below w.heap.size w w' := by
  have hix0 := hG.run_len
  have hlen := h.run_len (P := Try.prog) Try.underlying23
  have hmax := h.len_le
  have hgl := hg.1
  have hmk := make_bools g.length (by omega)
  rw [made_bcells] at hmk
  have HB0 : Hid (Bl w.heap.size w.heap.size g.length (fun _ => false) (w.alloc (.cells (bcells (fun _ => false) g.length) 4))) := Lib.hid ⟨Nat.le_refl _, heap_new_at rfl⟩
  have HW0 := Lib.hid ((Below.refl w.heap.size w).alloc (Nat.le_refl _) (.cells (bcells (fun _ => false) g.length) 4))
  have HL := Lib.hid hl
  have HG := Lib.hid hg
  clear hl hg
  go_enter Try.func35, Try.ntmps35
  go_wp2_with fail
  go_loopw [6] (fun i wr => ∃ (k : Nat) (f : Nat → Bool), i = .int .i64 k ∧ k ≤ l.length ∧ Hid (∀ x, x < g.length → (f x = true ↔ x ∈ Dag.nn (l.take k))) ∧ Hid (Bl w.heap.size w.heap.size g.length f wr) ∧ Hid (Below w.heap.size w wr)) (fun i _ => l.length - (intOf i).toNat)
  case atStart => exact ⟨0, _, rfl, by omega, Lib.hid (fun x hx => by simp), HB0, HW0⟩
  case round =>
    obtain ⟨k, f, rfl, hk, HF, HB, HW⟩ := hrel
    by_cases hlt : k < l.length
    · obtain ⟨b2, o2, hb2, hix2, hc2⟩ := h.atB HW.out (P := Try.prog) Try.underlying23 cells3 some3 hlt
      have e1 := hc2 0 (by omega)
      simp only [eInt, List.getElem?_cons_zero, Nat.add_zero] at e1
      obtain ⟨x, HY⟩ : ∃ x, Hid (l[k] = x) := ⟨_, Lib.hid rfl⟩
      rw [HY.out] at e1
      have hok := HL.out l[k] (List.getElem_mem hlt)
      rw [HY.out] at hok
      obtain ⟨y, rfl⟩ : ∃ y : Nat, x = y := ⟨x.toNat, by have := hok.1; omega⟩
      have hyn : y < g.length := by have := hok.2; omega
      have HT : Hid (Dag.nn (l.take (k + 1)) = Dag.nn (l.take k) ++ [y]) := Lib.hid (by show List.map _ _ = _; rw [par_take hlt, HY.out]; rfl)
      obtain ⟨c1, c2, c3⟩ := HB.out.cell hyn
      have HB2 := Lib.hid (HB.out.set y true)
      have HW2 : Hid (Below w.heap.size w (wr.setCell ⟨w.heap.size, y, none⟩ (.bool true))) := Lib.hid (HW.out.setCell (p := ⟨w.heap.size, y, none⟩) (Nat.le_refl _) _)
      have HF2 : Hid (∀ x, x < g.length → (Dag.upd f y true x = true ↔ x ∈ Dag.nn (l.take (k + 1)))) := Lib.hid (fun x hx => by
        rw [Dag.upd_true, HT.out, HF.out x hx, List.mem_append, List.mem_singleton]; exact Or.comm)
      clear hc2 hok HT HF HB
      go_wp2_with fail
      go_roundw
      case rel => exact ⟨k + 1, _, by go_num, by omega, HF2, HB2, HW2⟩
      case measure => simp [intOf]; omega
    · have HE : Hid (l.take k = l) := Lib.hid (List.take_of_length_le (by omega))
      have HC : Hid (Dag.UpC g (Dag.nn l) f g.length) := Lib.hid (Dag.UpC.start (by rw [← HE.out]; exact HF.out))
      clear HF HE
      go_wp2_with fail
      go_loopw [7] (fun i wr => ∃ (B : Nat) (f : Nat → Bool), i = .int .i64 ((B : Int) - 1) ∧ B ≤ g.length ∧ Hid (Dag.UpC g (Dag.nn l) f B) ∧ Hid (Bl w.heap.size w.heap.size g.length f wr) ∧ Hid (Below w.heap.size w wr)) (fun i _ => (intOf i + 1).toNat)
      case atStart => exact ⟨g.length, f, by go_num, by omega, HC, HB, HW⟩
      case round =>
        obtain ⟨B, f, rfl, hB, HC, HB, HW⟩ := hrel
        by_cases h0 : B = 0
        · subst h0
          have d0 : decide ((0 : Int) ≤ ((0 : Nat) : Int) - 1) = false := rfl
          have HX := Lib.hid (HC.out.fin HG.out (nn_lt HL.out))
          go_wp2_with fail
          go_ret
          exact ⟨rfl, HB.out.congr HX.out, HW.out⟩
        · obtain ⟨n, rfl⟩ : ∃ n, B = n + 1 := ⟨B - 1, by omega⟩
          have hn : n < g.length := by omega
          have HI := Lib.hid HC.out.inner
          clear HC h0
          rw [show (((n + 1 : Nat) : Int) - 1) = (n : Int) by omega]
          go_wp2_with fail
          go_loopw [8] (fun i wr => ∃ (k : Nat) (f : Nat → Bool), i = .int .i64 k ∧ k ≤ (Dag.par g n).length ∧ Hid (Dag.UpD g (Dag.nn l) f n k) ∧ Hid (Bl w.heap.size w.heap.size g.length f wr) ∧ Hid (Below w.heap.size w wr)) (fun i _ => (Dag.par g n).length - (intOf i).toNat)
          case atStart => exact ⟨0, f, rfl, by omega, HI, HB, HW⟩
          case round =>
            obtain ⟨k, f, rfl, hk, HI, HB, HW⟩ := hrel
            obtain ⟨b, o, hb1, hix, P, T, a1, n1, k1, HX, HLn, q0, q1, hs1, hm1⟩ := hG.at HW.out hn
            have HPar : Hid (Dag.par g n = P.map Int.toNat) := Lib.hid (by rw [Dag.par_eq hn, HX.out])
            have HPl : Hid ((Dag.par g n).length = n1) := Lib.hid (by rw [HPar.out, List.length_map, HLn.out])
            rw [HPl.out] at hk ⊢
            have hls := hs1.run_len (P := Try.prog) Try.underlying23
            rw [HLn.out] at hls
            obtain ⟨c1, c2, c3⟩ := HB.out.cell hn
            cases hfn : f n with
            | false =>
              rw [hfn] at c1
              have HC2 := Lib.hid (HI.out.done hn (.inl hfn))
              clear hfn HI
              go_wp2_with fail
              go_roundw
              case rel => exact ⟨n, f, by go_num, by omega, HC2, HB, HW⟩
              case measure => simp [intOf]
            | true =>
              rw [hfn] at c1
              by_cases hkn : k < n1
              · have hkP : k < P.length := by rw [HLn.out]; exact hkn
                obtain ⟨b2, o2, hb2, hix2, hc2⟩ := hs1.atB HW.out (P := Try.prog) Try.underlying23 cells3 some3 hkP
                have e1 := hc2 0 (by omega)
                simp only [eInt, List.getElem?_cons_zero, Nat.add_zero] at e1
                obtain ⟨x, HY⟩ : ∃ x, Hid (P[k] = x) := ⟨_, Lib.hid rfl⟩
                rw [HY.out] at e1
                have hok : 0 ≤ x ∧ x < n := by
                  have h3 := (HG.out.2 n hn).2.2.2 k (by rw [HX.out]; exact hkP)
                  have h4 : g[n].1[k]'(by rw [HX.out]; exact hkP) = x := by rw [← HY.out]; congr 1; rw [HX.out]
                  rw [h4] at h3
                  exact ⟨h3.1, h3.2.1⟩
                obtain ⟨y, rfl⟩ : ∃ y : Nat, x = y := ⟨x.toNat, by omega⟩
                have hyn : y < g.length := by omega
                obtain ⟨c4, c5, -⟩ := HB.out.cell hyn
                have HI2 : Hid (Dag.UpD g (Dag.nn l) (Dag.upd f y true) n (k + 1)) := Lib.hid (by
                  have h3 := HI.out.step HG.out hfn (k := k) (by rw [HPl.out]; exact hkn)
                  have h4 : (Dag.par g n)[k]'(by rw [HPl.out]; exact hkn) = y := by
                    have : (P.map Int.toNat)[k]'(by simpa using hkP) = y := by rw [List.getElem_map, HY.out]; rfl
                    rw [← this]; congr 1
                  rwa [h4] at h3)
                have HB2 := Lib.hid (HB.out.set y true)
                have HW2 : Hid (Below w.heap.size w (wr.setCell ⟨w.heap.size, y, none⟩ (.bool true))) := Lib.hid (HW.out.setCell (p := ⟨w.heap.size, y, none⟩) (Nat.le_refl _) _)
                clear hc2 hok HI HB hfn
                go_wp2_with fail
                go_roundw
                case rel => exact ⟨k + 1, _, by go_num, by omega, HI2, HB2, HW2⟩
                case measure => simp [intOf]; omega
              · have HC2 := Lib.hid (HI.out.done hn (.inr (by rw [HPl.out]; omega)))
                clear hfn HI
                go_wp2_with fail
                go_roundw
                case rel => exact ⟨n, f, by go_num, by omega, HC2, HB, HW⟩
                case measure => simp [intOf]

theorem trues_snoc (f : Nat → Bool) (k : Nat) : Dag.filtN f (k + 1) = Dag.filtN f k ++ (if f k then [(k : Int)] else []) := rfl

set_option maxRecDepth 100000 in
set_option maxHeartbeats 1000000 in
theorem list_any (b0 base N : Nat) (f : Nat → Bool) (w : World) (h : Bl base b0 N f w) (hN : N ≤ 800) :
    Calls Try.prog 34 #[.slice (some ⟨b0, 0, none⟩) N N] w fun e w' => ∃ v, e = .returned v ∧ Own eInt 1 w.heap.size 3 w' v (Dag.filtN f N) ∧ Below w.heap.size w w' := by
  have HB := Lib.hid h
  have hbl := (h.cell (k := 0))
  clear hbl h
  go_enter Try.func34, Try.ntmps34
  go_wp2_with fail
  go_loopw [3, 4] (fun v i wr => ∃ (k : Nat), i = .int .i64 k ∧ k ≤ N ∧ Hid (Own eInt 1 w.heap.size 3 wr v (Dag.filtN f k)) ∧ Hid (Below w.heap.size w wr)) (fun _ i _ => N - (intOf i).toNat)
  case atStart => exact ⟨0, rfl, by omega, Lib.hid (Own.nil _ _ _ _ _), Lib.hid (Below.refl _ _)⟩
  case round =>
    obtain ⟨k, rfl, hk, HO, HW⟩ := hrel
    by_cases hlt : k < N
    · obtain ⟨c1, c2, c3⟩ := (HB.out.ext HW.out).cell hlt
      have HT := Lib.hid (trues_snoc f k)
      have hfl := Dag.filtN_len (p := f) k
      cases hfk : f k with
      | false =>
        rw [hfk] at c1 HT
        clear hfk
        go_wp2_with fail
        go_roundw
        case rel => exact ⟨k + 1, by go_num, by omega, Lib.hid (by rw [HT.out]; simpa using HO.out), HW⟩
        case measure => simp [intOf]; omega
      | true =>
        rw [hfk] at c1 HT
        clear hfk
        go_wp2_with (at_builtin; go_must (refine wpList_append1 rfl (en := eInt) (s := 1) (base := w.heap.size) (e := 3) _ _ 23 rfl (.int .i64 0) 8 Try.underlying23 info3 rfl (by decide) len_eInt one_eInt u3 _ _ k rfl (HO.out.alloc _) rfl (Sl.fresh len_eInt rfl rfl rfl (by simp [maxLen])) (by simp only [maxLen]; omega) (by omega) (by have := HW.out.size; simp; omega) ?_; intro ov' w6 hown hgr hbel hblk; have HO2 := Lib.hid hown; have HW2 := Lib.hid ((HW.out.alloc HW.out.size _).trans hbel); clear hown hgr hbel hblk))
        go_roundw
        case rel => exact ⟨k + 1, by go_num, by omega, Lib.hid (by rw [HT.out]; simpa using HO2.out), HW2⟩
        case measure => simp [intOf]; omega
    · obtain rfl : k = N := by omega
      go_wp2_with fail
      go_ret
      exact ⟨_, rfl, HO.out, HW.out⟩
end Go.Proofs.Ytcpmnocknpalfaa
