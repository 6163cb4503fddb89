/-
  Layer 16: the document's Make. No condition besides what the arguments are.
-/
import Derived.Test.YtopamnfelngkcaaP5
import Derived.Test.YtopamnfelngkcaaW6
import Derived.Test.YtopamnfelngkcaaW9
import Derived.Test.YtopamnfelngkcaaW11
namespace Go.Proofs.Ytopamnfelngkcaa
open Go.Proofs Go.RowKit Go.Shelf Go.Sl Go.Bl
set_option linter.unusedVariables false

def zb (g : List Bool) : Array Value := (g.map Value.bool).toArray
theorem info4 : (Try.prog.info? 4).map (fun i => (i.zero, i.size, i.bytes)) = some (some (.bool false), 1, 1) := by kernel_rfl
theorem make_bools (n : Nat) (hn : n ≤ 8000) : ∀ u : World, (Instr.makeSlice 39 (.int .i64 (n : Int)) (.int .i64 (n : Int))).run Try.prog u = .ok (.slice (some ⟨u.heap.size, 0, none⟩) n n) (u.alloc (.cells (madeCells #[.bool false] n) 4)) :=
  run_make_row' (P := Try.prog) 39 4 _ 1 Try.underlying39 info4 rfl .i64 .i64 n (by omega) (by omega)
theorem zb_made (n : Nat) : madeCells #[Value.bool false] n = zb (List.replicate n false) := by
  apply Array.ext'
  rw [toList_madeCells_one]
  simp [zb]
theorem zb_set (g : List Bool) (n : Nat) (c : Bool) : (zb g).setIfInBounds n (.bool c) = zb (g.set n c) := by
  unfold zb
  rw [List.setIfInBounds_toArray, List.map_set]
theorem zb_cell {W : World} {b : Nat} {g : List Bool} (h : W.heap[b]? = some (.cells (zb g) 4 (0, 0))) {i : Nat} (hi : i < g.length) : W.cell? ⟨b, i, none⟩ = some (.bool (g.getD i false)) ∧ W.frozen? ⟨b, i, none⟩ = false := by
  constructor
  · simp [World.cell?, h, zb, hi]
  · simp [World.frozen?, h]
/-- the bits set by the first k texts and the first j places of the next -/
def HitB (T : List Str) (M k : Nat) (ex : Nat → Bool) (g : List Bool) : Prop := g.length = M ∧ ∀ p, p < M → g.getD p false = ((T.take k).any (fun x => hitF x M p) || ex p)
theorem HitB.start (T : List Str) (M : Nat) : HitB T M 0 (fun _ => false) (List.replicate M false) := ⟨by simp, fun p hp => by rw [List.getD_eq_getElem?_getD, List.getElem?_replicate]; simp [hp]⟩
theorem HitB.set {T : List Str} {M k : Nat} {ex : Nat → Bool} {g : List Bool} (h : HitB T M k ex g) (q : Nat) : HitB T M k (fun p => ex p || decide (q = p)) (g.set q true) := by
  refine ⟨by rw [List.length_set]; exact h.1, fun p hp => ?_⟩
  have h1 := h.2 p hp
  rw [List.getD_eq_getElem?_getD] at h1 ⊢
  rw [List.getElem?_set]
  by_cases e : q = p
  · subst e; rw [if_pos rfl, if_pos (by rw [h.1]; exact hp)]; simp
  · rw [if_neg e, h1]
    show _ = (_ || (ex p || decide (q = p)))
    rw [decide_eq_false e, Bool.or_false]
def exJ (x : Str) (M j p : Nat) : Bool := (List.range j).any (fun i => decide (plc x M i = p))
theorem exJ_succ (x : Str) (M j p : Nat) : exJ x M (j + 1) p = (exJ x M j p || decide (plc x M j = p)) := by
  unfold exJ
  rw [List.range_succ, List.any_append]
  simp only [List.any_cons, List.any_nil, Bool.or_false]
theorem HitB.congr {T : List Str} {M k : Nat} {ex ex' : Nat → Bool} {g : List Bool} (h : HitB T M k ex g) (he : ∀ p, ex p = ex' p) : HitB T M k ex' g := ⟨h.1, fun p hp => by rw [h.2 p hp, he p]⟩
theorem exJ_seven (x : Str) (M p : Nat) : exJ x M 7 p = hitF x M p := by unfold exJ hitF; exact Eq.refl _
theorem HitB.next {T : List Str} {M k : Nat} {g : List Bool} (hk : k < T.length) (h : HitB T M k (exJ T[k] M 7) g) : HitB T M (k + 1) (fun _ => false) g := ⟨h.1, fun p hp => by
  rw [h.2 p hp, List.take_succ_eq_append_getElem hk, List.any_append, exJ_seven]
  simp only [List.any_cons, List.any_nil, Bool.or_false]⟩
theorem HitB.mk {T : List Str} {g : List Bool} {n : Nat} (h : HitB T (8 * n) T.length (fun _ => false) g) (hn : n = szF T.length) (hT : ¬ 200 < T.length) : MkF T (fB g n) := by
  unfold MkF
  rw [if_neg hT, fB_len]
  refine ⟨hn, fun p hp => ?_⟩
  rw [fB_bit hp, h.2 p hp, List.take_length, Bool.or_false]
theorem plcI7_get (x : Str) (M : Nat) {j : Nat} (hj : j < 7) (h : j < (plcI7 x M).length) : (plcI7 x M)[j] = (plc x M j : Int) := by simp [plcI7]
theorem plc_lt' (l : Str) {many : Nat} (h : 0 < many) (i : Nat) : plc l many i < many := by unfold plc; exact Nat.mod_lt _ h
/-- what stands while bits are set -/
structure MB (base sb : Nat) (w0 : World) (ov : Value) (T : List Str) (g : List Bool) (W : World) : Prop where
  blk : W.heap[sb]? = some (.cells (zb g) 4 (0, 0))
  own : Sl.Own eL 1 base 9 W ov T
  bel : Below base w0 W
  hs : base ≤ sb
  hW : base ≤ W.heap.size
theorem MB.ext {base sb : Nat} {w0 : World} {ov : Value} {T : List Str} {g : List Bool} {W W' : World} (h : MB base sb w0 ov T g W) (hb : Below W.heap.size W W') : MB base sb w0 ov T g W' :=
  ⟨(hb.block _ (Array.getElem?_eq_some_iff.1 h.blk).1).trans h.blk, h.own.ext hb, h.bel.trans (hb.mono h.hW), h.hs, Nat.le_trans h.hW hb.size⟩
theorem MB.set {base sb : Nat} {w0 : World} {ov : Value} {T : List Str} {g : List Bool} {W : World} (h : MB base sb w0 ov T g W) (i : Nat) (c : Bool) : MB base sb w0 ov T (g.set i c) (W.setCell ⟨sb, i, none⟩ (.bool c)) := by
  refine ⟨?_, Sl.Own.set_other h.own (a := ⟨sb, i, none⟩) (Sl.Own.ne_elem h.own h.blk (by decide)) _, h.bel.setCell (p := ⟨sb, i, none⟩) h.hs _, h.hs, by simpa using h.hW⟩
  rw [← zb_set]
  exact heap_setCell_same _ _ _ _ _ _ h.blk

set_option maxRecDepth 100000 in
set_option maxHeartbeats 2000000 in
theorem rmake_any (v : Value) (L : List Str) (w : World) (hv : Sl eL 1 w v L) (hL : L.length ≤ 100000) (hl : ∀ x ∈ L, x.length ≤ 100000) :
    Calls Try.prog 11 #[v] w fun e w' => ∃ (fv : Value) (T : List Str) (f : List UInt8), e = .returned fv ∧ Un L T ∧ MkF T f ∧ Sl.Own eByte 1 w.heap.size 5 w' fv f ∧ Below w.heap.size w w' := by
  have HU := Lib.hid (runlike_any v L w hv hL)
  have hxl : Hid (∀ x ∈ L, x.length ≤ 100000) := Lib.hid hl
  clear hv hl
  go_enter Try.func11, Try.ntmps11
  go_wp2_with fail
  refine HU.out.mono ?_
  rintro e w1 ⟨ov, T, rfl, hun, hown, hbel⟩
  have hlen := (hown.sl len_eL).run_len (P := Try.prog) Try.underlying26
  have hTL := hun.len
  have HUn := Lib.hid hun
  have HO := Lib.hid hown
  have HB := Lib.hid hbel
  have hsz := hbel.size
  clear hun hown hbel HU
  by_cases hT : 200 < T.length
  · have d0 : decide ((T.length : Int) > 200) = true := decide_eq_true (by omega)
    go_wp2_with fail
    go_ret
    refine ⟨_, T, [255], rfl, HUn.out, by unfold MkF; rw [if_pos hT], ?_, ?_⟩
    · exact yb_own (b := w1.heap.size) (g := [255]) (heap_alloc_new _ _) hsz (by simp)
    · exact HB.out.alloc hsz _
  · have d0 : decide ((T.length : Int) > 200) = false := decide_eq_false (by omega)
    have HT := Lib.hid hT
    have hTn : T.length ≤ 200 := by omega
    clear hT
    go_wp2_with fail
    go_loopw [4] (fun s4 wr => ∃ (n : Nat), s4 = .int .i64 n ∧ Hid (1 ≤ n ∧ (n = 1 ∨ 8 * (n - 1) < 10 * T.length)) ∧ n ≤ 1000 ∧ Hid (wr = w1)) (fun s4 _ => 2000 - (intOf s4).toNat)
    case atStart => exact ⟨1, rfl, Lib.hid ⟨by omega, .inl rfl⟩, by omega, Lib.hid rfl⟩
    case round =>
      obtain ⟨n, rfl, hn, hn2, HW⟩ := hrel
      obtain rfl := HW.out
      by_cases hlt : 8 * n < 10 * T.length
      · have d1 : decide (8 * (n : Int) < 10 * (T.length : Int)) = true := decide_eq_true (by omega)
        go_wp2_with fail
        go_roundw
        case rel => exact ⟨n + 1, by go_num, Lib.hid ⟨by omega, .inr (by omega)⟩, by omega, by first | exact Lib.hid rfl | exact Lib.hid trivial⟩
        case measure => simp [intOf]; omega
      · have d1 : decide (8 * (n : Int) < 10 * (T.length : Int)) = false := decide_eq_false (by omega)
        have hsn : Hid (n = szF T.length) := Lib.hid (by have := hn.out; unfold szF; omega)
        have hn1 : 1 ≤ n := hn.out.1
        obtain ⟨M, hM⟩ : ∃ M, M = 8 * n := ⟨_, rfl⟩
        have hmk := make_bools M (by omega)
        have h8 : 8 * (n : Int) = (M : Int) := by omega
        have hM0 : 0 < M := by omega
        have hM1 : M ≤ 8000 := by omega
        have HMB : Hid (MB w.heap.size wr.heap.size w ov T (List.replicate M false) (wr.alloc (.cells (madeCells #[.bool false] M) 4))) := Lib.hid (by
          refine ⟨?_, HO.out.alloc _, HB.out.alloc hsz _, hsz, by simp; omega⟩
          rw [← zb_made]
          exact heap_alloc_new _ _)
        have HMe := Lib.hid hM
        clear hM HW
        obtain ⟨wa, rfl⟩ : ∃ u : World, u = wr := ⟨_, rfl⟩
        go_wp2_with fail
        go_loopw [6] (fun i wr => ∃ (k : Nat) (g : List Bool), i = .int .i64 k ∧ k ≤ T.length ∧ Hid (HitB T M k (fun _ => false) g) ∧ Hid (MB w.heap.size wa.heap.size w ov T g wr)) (fun i _ => T.length - (intOf i).toNat)
        case atStart => exact ⟨0, _, rfl, by omega, Lib.hid (HitB.start T M), HMB⟩
        case round =>
          obtain ⟨wb, rfl⟩ : ∃ u : World, u = wr := ⟨_, rfl⟩
          obtain ⟨k, g, rfl, hk, HG, HM⟩ := hrel
          by_cases hkt : k < T.length
          · have d2 : decide ((k : Int) < (T.length : Int)) = true := decide_eq_true (by omega)
            obtain ⟨b5, o5, hb5, hix, hcell⟩ := (HM.out.own.sl len_eL).at (P := Try.prog) Try.underlying26 cells9 some9 hkt
            have e1 := hcell 0 (by omega)
            obtain ⟨x, hx⟩ : ∃ x, Hid (T[k] = x) := ⟨_, Lib.hid rfl⟩
            simp only [eL, List.getElem?_cons_zero, Nat.add_zero] at e1
            rw [hx.out] at e1
            have HR := Lib.hid (rplaces_any x (hxl.out _ ((HUn.out.2 _).1 (by rw [← hx.out]; exact List.getElem_mem hkt))) M hM0 (by omega) wb)
            clear hcell
            go_wp2_with fail
            refine HR.out.mono ?_
            rintro e w3 ⟨pv, rfl, hpo, hpb⟩
            have HP0 := Lib.hid hpo
            have HM3 := Lib.hid (HM.out.ext hpb)
            have hplen := (hpo.sl len_eInt).run_len (P := Try.prog) Try.underlying40
            rw [plcI7_len] at hplen
            clear hpo hpb HR
            go_wp2_with fail
            go_loopw [8] (fun s8 wr => ∃ (j : Nat) (g : List Bool), s8 = .int .i64 j ∧ j ≤ 7 ∧ Hid (HitB T M k (exJ x M j) g) ∧ Hid (MB w.heap.size wa.heap.size w ov T g wr) ∧ Hid (Sl.Own eInt 1 wb.heap.size 3 wr pv (plcI7 x M))) (fun s8 _ => 7 - (intOf s8).toNat)
            case atStart => exact ⟨0, g, rfl, by omega, Lib.hid (HG.out.congr (fun p => by unfold exJ; simp)), HM3, HP0⟩
            case round =>
              obtain ⟨j, g2, rfl, hj, HG2, HM2, HP⟩ := hrel
              by_cases hj7 : j < 7
              · have d3 : decide ((j : Int) < 7) = true := decide_eq_true (by omega)
                obtain ⟨b6, o6, hb6, hix6, hcell6⟩ := (HP.out.sl len_eInt).at (P := Try.prog) Try.underlying40 cells3 some3 (k := j) (by rw [plcI7_len]; exact hj7)
                have e6 := hcell6 0 (by omega)
                simp only [eInt, List.getElem?_cons_zero, Nat.add_zero] at e6
                rw [plcI7_get x M hj7] at e6
                have hq0 := plc_lt' x hM0 j
                have HN := Lib.hid (fun p => exJ_succ x M j p)
                obtain ⟨q, hq⟩ : ∃ q, Hid (plc x M j = q) := ⟨_, Lib.hid rfl⟩
                rw [hq.out] at e6 hq0
                obtain ⟨c5, f5⟩ := zb_cell HM2.out.blk (i := q) (by rw [HG2.out.1]; exact hq0)
                have hbl := (Array.getElem?_eq_some_iff.1 HM2.out.blk).1
                have HG4 : Hid (HitB T M k (exJ x M (j + 1)) (g2.set q true)) := Lib.hid ((HG2.out.set q).congr (fun p => by rw [HN.out p, hq.out]))
                have HP4 := Lib.hid (Sl.Own.set_other HP.out (a := ⟨wa.heap.size, q, none⟩) (Sl.Own.ne_elem HP.out HM2.out.blk (by decide)) (.bool true))
                have HM4 := Lib.hid (HM2.out.set q true)
                clear hcell6
                go_wp2_with fail
                go_roundw
                case rel => exact ⟨j + 1, _, by go_num, by omega, HG4, HM4, HP4⟩
                case measure => simp [intOf]; omega
              · obtain rfl : j = 7 := by omega
                have HG3 : Hid (HitB T M (k + 1) (fun _ => false) g2) := Lib.hid (by
                  have := HG2.out
                  rw [← hx.out] at this
                  exact HitB.next hkt this)
                go_wp2_with fail
                go_roundw
                case rel => exact ⟨k + 1, g2, by go_num, by omega, HG3, HM2⟩
                case measure => simp [intOf]; omega
          · obtain rfl : k = T.length := by omega
            have d2 : decide ((T.length : Int) < (T.length : Int)) = false := decide_eq_false (by omega)
            have hgl := HG.out.1
            go_wp2_with fail
            go_loopw [9, 10] (fun s9 i wr => ∃ (b : Nat), i = .int .i64 b ∧ b ≤ n ∧ Hid (Sl.Own eByte 1 wb.heap.size 5 wr s9 (fB g b)) ∧ Hid (Below wb.heap.size wb wr)) (fun _ i _ => n - (intOf i).toNat)
            case atStart => exact ⟨0, rfl, by omega, Lib.hid (Sl.Own.nil _ _ _ _ _), Lib.hid (Below.refl _ _)⟩
            case round =>
              obtain ⟨wc, rfl⟩ : ∃ u : World, u = wr := ⟨_, rfl⟩
              obtain ⟨b, rfl, hb, HF, HBc⟩ := hrel
              by_cases hbn : b < n
              · have d3 : decide ((b : Int) < (n : Int)) = true := decide_eq_true (by omega)
                have HZ : Hid (wc.heap[wa.heap.size]? = some (.cells (zb g) 4 (0, 0))) := Lib.hid ((HBc.out.block _ (Array.getElem?_eq_some_iff.1 HM.out.blk).1).trans HM.out.blk)
                obtain ⟨F, hF⟩ : ∃ F : Nat → Bool, Hid (F = fun k => g.getD (8 * b + k) false) := ⟨_, Lib.hid rfl⟩
                go_wp2_with fail
                go_loopw [11, 12] (fun s11 s12 wr => ∃ (t m : Nat) (i : Int), s11 = .int .i64 m ∧ s12 = .int .i64 i ∧ Hid (i = 7 - (t : Int)) ∧ t ≤ 8 ∧ Hid (valB F t = m) ∧ m < 256 ∧ Hid (wr = wc)) (fun _ s12 _ => (intOf s12 + 1).toNat)
                case atStart => exact ⟨0, 0, 7, rfl, rfl, Lib.hid (by omega), by omega, Lib.hid rfl, by omega, Lib.hid rfl⟩
                case round =>
                  obtain ⟨t, m, i, rfl, rfl, hi, ht, hm, hm256, HW⟩ := hrel
                  obtain rfl := HW.out
                  by_cases ht8 : t < 8
                  · have d4 : decide (0 ≤ i) = true := decide_eq_true (by have := hi.out; omega)
                    have hi0 : 0 ≤ i ∧ i ≤ 7 := by have := hi.out; omega
                    obtain ⟨q, hq⟩ : ∃ q : Nat, 8 * (b : Int) + i = (q : Int) := ⟨(8 * (b : Int) + i).toNat, by omega⟩
                    have hqM : q < M := by have := HMe.out; omega
                    obtain ⟨c5, f5⟩ := zb_cell HZ.out (i := q) (by rw [hgl]; exact hqM)
                    have hbl := (Array.getElem?_eq_some_iff.1 HZ.out).1
                    have hFt : Hid (F (7 - t) = g.getD q false) := Lib.hid (by
                      rw [hF.out]
                      show g.getD (8 * b + (7 - t)) false = _
                      congr 1
                      have := hi.out
                      omega)
                    have hi2 : Hid (i - 1 = 7 - ((t + 1 : Nat) : Int)) := Lib.hid (by have := hi.out; omega)
                    have hle := valB_le F (t := t + 1) (by omega)
                    have hs : Hid (valB F (t + 1) = 2 * m + (if g.getD q false then 1 else 0)) := Lib.hid (by
                      show 2 * valB F t + (if F (7 - t) then 1 else 0) = _
                      rw [hm.out, hFt.out])
                    cases hbb : g.getD q false with
                    | true =>
                      rw [hbb] at c5
                      have hs2 : Hid (valB F (t + 1) = 2 * m + 1) := Lib.hid (by rw [hs.out, hbb]; rfl)
                      have hm3 : 2 * m + 1 < 256 := by rw [← hs2.out]; exact hle
                      clear hbb hs hle
                      go_wp2_with fail
                      go_roundw
                      case rel => exact ⟨t + 1, 2 * m + 1, i - 1, by go_num, rfl, hi2, by omega, hs2, hm3, by first | exact Lib.hid rfl | exact Lib.hid trivial⟩
                      case measure => simp [intOf]; omega
                    | false =>
                      rw [hbb] at c5
                      have hs2 : Hid (valB F (t + 1) = 2 * m) := Lib.hid (by rw [hs.out, hbb]; rfl)
                      have hm3 : 2 * m < 256 := by rw [← hs2.out]; exact hle
                      clear hbb hs hle
                      go_wp2_with fail
                      go_roundw
                      case rel => exact ⟨t + 1, 2 * m, i - 1, by go_num, rfl, hi2, by omega, hs2, hm3, by first | exact Lib.hid rfl | exact Lib.hid trivial⟩
                      case measure => simp [intOf]; omega
                  · obtain rfl : t = 8 := by omega
                    have d4 : decide (0 ≤ i) = false := decide_eq_false (by have := hi.out; omega)
                    obtain ⟨cb, hcb⟩ : ∃ cb, Hid (byB g b = cb) := ⟨_, Lib.hid rfl⟩
                    have hmc : m = cb.toNat := by rw [← hcb.out, byB_toNat, ← hm.out, hF.out]
                    subst hmc
                    have hm2 : (cb.toNat : Int) % 256 = (cb.toNat : Int) := by omega
                    have hfl := fB_len g b
                    have HFs := Lib.hid (fB_succ g b)
                    obtain ⟨X, hX⟩ : ∃ X, Hid (fB g b = X) := ⟨_, Lib.hid rfl⟩
                    rw [hX.out] at hfl
                    have HF2 : Hid (Sl.Own eByte 1 wb.heap.size 5 wr u9 X) := Lib.hid (by rw [← hX.out]; exact HF.out)
                    clear d3
                    go_wp2_with (at_builtin; go_must (refine wpList_append1 rfl (en := eByte) (s := 1) (base := wb.heap.size) (e := 5) _ _ 28 rfl (.int .u8 0) 1 Try.underlying28 info5 rfl (by decide) len_eByte one_eByte _ _ X cb rfl (HF2.out.alloc _) rfl (Sl.fresh len_eByte rfl rfl rfl (by simp [maxLen])) (by simp only [maxLen]; omega) (by omega) (by have := HBc.out.size; simp; omega) ?_; intro ov' w6 hown hgr hbel hblk; have HF3 := Lib.hid hown; have HB3 := Lib.hid ((HBc.out.alloc HBc.out.size _).trans hbel); clear hown hgr hbel hblk))
                    go_roundw
                    case rel => exact ⟨b + 1, by go_num, by omega, Lib.hid (by rw [HFs.out, hX.out, hcb.out]; exact HF3.out), HB3⟩
                    case measure => simp [intOf]; omega
              · obtain rfl : b = n := by omega
                have d3 : decide ((b : Int) < (b : Int)) = false := decide_eq_false (by omega)
                have HMk : Hid (MkF T (fB g b)) := Lib.hid (by
                  have := HG.out
                  rw [HMe.out] at this
                  exact this.mk hsn.out HT.out)
                go_wp2_with fail
                go_ret
                exact ⟨_, T, fB g b, rfl, HUn.out, HMk.out, HF.out.mono HM.out.hW, HM.out.bel.trans (HBc.out.mono HM.out.hW)⟩
end Go.Proofs.Ytopamnfelngkcaa
