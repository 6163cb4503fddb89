/-
  Walks of layer 21: Common, the reference's. No condition.
-/
import Derived.Test.YtdlmdjhnigbfpaaC1
namespace Go.Proofs.Ytdlmdjhnigbfpaa
open Go.RowKit Go.Sl Go.Scr

theorem drop_cons' {α : Type} (l : List α) (k : Nat) (h : k < l.length) : l.drop k = l[k] :: l.drop (k + 1) := List.drop_eq_getElem_cons h

theorem lcs_drop {a b : List Int} {k j : Nat} {x y : Int} {p q r : Nat} (hk : k < a.length) (hj : j < b.length) (hx : a[k] = x) (hy : b[j] = y)
    (hp : lcs (a.drop (k + 1)) (b.drop j) = p) (hq : lcs (a.drop k) (b.drop (j + 1)) = q) (hr : lcs (a.drop (k + 1)) (b.drop (j + 1)) = r) :
    lcs (a.drop k) (b.drop j) = max (max p q) (if x = y then r + 1 else 0) := by
  subst hp hq hr
  conv => lhs; rw [drop_cons' a k hk, drop_cons' b j hj, hx, hy, lcs_ref]
  rw [← hx, ← hy, ← drop_cons' a k hk, ← drop_cons' b j hj]

set_option maxRecDepth 100000 in
set_option maxHeartbeats 2000000 in
theorem rcommon_any (va vb : Value) (a b : List Int) (w : World) (ha : Sl eInt 1 w va a) (hb : Sl eInt 1 w vb b) (hla : a.length ≤ 800) (hlb : b.length ≤ 800) :
    Calls Try.prog 10 #[va, vb] w fun e w' => e = .returned (.int .i64 (lcs a b : Nat)) ∧ Below w.heap.size w w' := by
  have hlen1 := ha.run_len (P := Try.prog) Try.underlying22
  have hlen2 := hb.run_len (P := Try.prog) Try.underlying22
  have hmk := make_ints b.length hlb
  go_enter Try.func10, Try.ntmps10
  go_wp2_with fail
  go_loopw [5, 6] (fun s i wr => ∃ (k g : Nat), k ≤ a.length ∧ Down k i ∧ s = .slice (some ⟨g, 0, none⟩) (b.length + 1) (b.length + 1) ∧ w.heap.size ≤ g ∧
      Hid (wr.rowIs g 3 (b.length + 1) (fun j => .int .i64 (lcs (a.drop k) (b.drop j) : Nat))) ∧ Hid (Below w.heap.size w wr) ∧ w.heap.size ≤ wr.heap.size) (fun _ i _ => (intOf i + 1).toNat)
  case atStart => exact ⟨a.length, _, by omega, Down.of _, rfl, by omega, Lib.hid ((World.rowIs_made w _ _ 3).congr fun j _ => by simp [lcs_nil]), Lib.hid ((Below.refl _ _).alloc (Nat.le_refl _) _), by simp⟩
  case round =>
    obtain ⟨k, g, hk, hd, rfl, hg, HG, HB, hsz⟩ := hrel
    rcases hd with ⟨q, rfl, rfl⟩ | ⟨rfl, rfl⟩
    · obtain ⟨wo, rfl⟩ : ∃ wo : World, wo = wr := ⟨_, rfl⟩
      have hgl := HG.out.lt
      go_wp2_with fail
      go_loopw [8] (fun i wr => ∃ (j : Nat) (F : Nat → Value), j ≤ b.length ∧ Down j i ∧ 
          Hid (wr.rowIs g 3 (b.length + 1) (fun j => .int .i64 (lcs (a.drop (q + 1)) (b.drop j) : Nat))) ∧ Hid (wr.rowIs wo.heap.size 3 (b.length + 1) F) ∧ Hid (∀ m, j ≤ m → m ≤ b.length → F m = .int .i64 (lcs (a.drop q) (b.drop m) : Nat)) ∧ Hid (Below w.heap.size w wr) ∧ w.heap.size ≤ wr.heap.size) (fun i _ => (intOf i + 1).toNat)
      case atStart => exact ⟨b.length, _, by omega, Down.of _, Lib.hid (HG.out.alloc _), Lib.hid (World.rowIs_made wo _ _ 3), Lib.hid (fun m h1 h2 => by rw [show m = b.length by omega]; simp [lcs_nil']), Lib.hid (HB.out.alloc hsz _), by simp; omega⟩
      case round =>
        obtain ⟨k2, F, hk2, hd2, HG2, HH2, HF2, HB2, hsz2⟩ := hrel
        rcases hd2 with ⟨j, rfl, rfl⟩ | ⟨rfl, rfl⟩
        · obtain ⟨b1, o1, hb1, hix1, hc1⟩ := ha.atB HB2.out (P := Try.prog) Try.underlying22 cells3 some3 (k := q) (by omega)
          have hx := hc1 0 (by omega)
          simp only [eInt, List.getElem?_cons_zero, Nat.add_zero] at hx
          obtain ⟨x, HX⟩ : ∃ x, Hid (a[q]'(by omega) = x) := ⟨_, Lib.hid rfl⟩
          rw [HX.out] at hx
          obtain ⟨b2, o2, hb2, hix2, hc2⟩ := hb.atB HB2.out (P := Try.prog) Try.underlying22 cells3 some3 (k := j) (by omega)
          have hy := hc2 0 (by omega)
          simp only [eInt, List.getElem?_cons_zero, Nat.add_zero] at hy
          obtain ⟨y, HY⟩ : ∃ y, Hid (b[j]'(by omega) = y) := ⟨_, Lib.hid rfl⟩
          rw [HY.out] at hy
          clear hc1 hc2
          have e1 : wr.cell? ⟨g, j, none⟩ = _ := HG2.out.cell (i := j) (by omega)
          have e2 : wr.cell? ⟨g, j + 1, none⟩ = _ := HG2.out.cell (i := j + 1) (by omega)
          have e3 : wr.cell? ⟨wo.heap.size, j, none⟩ = _ := HH2.out.cell (i := j) (by omega)
          have e4 : wr.cell? ⟨wo.heap.size, j + 1, none⟩ = _ := HH2.out.cell (i := j + 1) (by omega)
          have e5 := HH2.out.frozen j
          rw [HF2.out (j + 1) (Nat.le_refl _) (by omega)] at e4
          obtain ⟨p, HP⟩ : ∃ p, Hid (lcs (a.drop (q + 1)) (b.drop j) = p) := ⟨_, Lib.hid rfl⟩
          obtain ⟨s, HS⟩ : ∃ p, Hid (lcs (a.drop q) (b.drop (j + 1)) = p) := ⟨_, Lib.hid rfl⟩
          obtain ⟨r, HR⟩ : ∃ p, Hid (lcs (a.drop (q + 1)) (b.drop (j + 1)) = p) := ⟨_, Lib.hid rfl⟩
          rw [HP.out] at e1
          rw [HS.out] at e4
          rw [HR.out] at e2
          have l1 : p ≤ 800 := by have := lcs_len (a.drop (q + 1)) (b.drop j); rw [HP.out] at this; simp at this; omega
          have l2 : s ≤ 800 := by have := lcs_len (a.drop q) (b.drop (j + 1)); rw [HS.out] at this; simp at this; omega
          have l3 : r ≤ 800 := by have := lcs_len (a.drop (q + 1)) (b.drop (j + 1)); rw [HR.out] at this; simp at this; omega
          have HFin := Lib.hid (lcs_drop (by omega) (by omega) HX.out HY.out HP.out HS.out HR.out)
          have hgh : g ≠ wo.heap.size := by omega
          have hn1 : b1 ≠ wo.heap.size := by omega
          have hn2 : b2 ≠ wo.heap.size := by omega
          by_cases hps : p < s
          · by_cases hxy : x = y
            · have hxb : (x == y) = true := by simpa using hxy
              by_cases hr : s < r + 1
              · have hri : (s : Int) < r + 1 := by omega
                have HVal := Lib.hid (show Value.int .i64 ((r : Int) + 1) = .int .i64 (lcs (a.drop q) (b.drop j) : Nat) from by rw [HFin.out, if_pos hxy]; congr 1; omega)
                clear hxy
                go_wp2_with fail
                go_quiet (fail)
                go_wp2_with fail
                go_quiet (fail)
                go_wp2_with fail
                go_roundw
                case rel =>
                  refine ⟨j, _, by omega, Down.of _, Lib.hid ?_, Lib.hid (World.rowIs.set (rowIs_drewN (World.rowIs.set (rowIs_drewN (HH2.out.set j _) _) j _) _) j _), Lib.hid (row_down (row_over (row_over HF2.out)) HVal.out), Lib.hid ?_, by simpa using hsz2⟩
                  · repeat (first | exact HG2.out | refine rowIs_drewN ?_ _ | refine World.rowIs.setOther ?_ hgh _)
                  · repeat (first | exact HB2.out | refine below_drewN ?_ _ | refine Below.setCell ?_ hsz _)
                case measure => simp [intOf]
              · have hri : ¬ (s : Int) < r + 1 := by omega
                have HVal := Lib.hid (show Value.int .i64 ((s : Int)) = .int .i64 (lcs (a.drop q) (b.drop j) : Nat) from by rw [HFin.out, if_pos hxy]; congr 1; omega)
                clear hxy
                go_wp2_with fail
                go_quiet (fail)
                go_wp2_with fail
                go_quiet (fail)
                go_wp2_with fail
                go_roundw
                case rel =>
                  refine ⟨j, _, by omega, Down.of _, Lib.hid ?_, Lib.hid (rowIs_drewN (World.rowIs.set (rowIs_drewN (HH2.out.set j _) _) j _) _), Lib.hid (row_down (row_over HF2.out) HVal.out), Lib.hid ?_, by simpa using hsz2⟩
                  · repeat (first | exact HG2.out | refine rowIs_drewN ?_ _ | refine World.rowIs.setOther ?_ hgh _)
                  · repeat (first | exact HB2.out | refine below_drewN ?_ _ | refine Below.setCell ?_ hsz _)
                case measure => simp [intOf]
            · have hxb : (x == y) = false := by simpa using hxy
              have HVal := Lib.hid (show Value.int .i64 ((s : Int)) = .int .i64 (lcs (a.drop q) (b.drop j) : Nat) from by rw [HFin.out, if_neg hxy]; congr 1; omega)
              clear hxy
              go_wp2_with fail
              go_quiet (fail)
              go_wp2_with fail
              go_quiet (fail)
              go_wp2_with fail
              go_roundw
              case rel =>
                refine ⟨j, _, by omega, Down.of _, Lib.hid ?_, Lib.hid (rowIs_drewN (World.rowIs.set (rowIs_drewN (HH2.out.set j _) _) j _) _), Lib.hid (row_down (row_over HF2.out) HVal.out), Lib.hid ?_, by simpa using hsz2⟩
                · repeat (first | exact HG2.out | refine rowIs_drewN ?_ _ | refine World.rowIs.setOther ?_ hgh _)
                · repeat (first | exact HB2.out | refine below_drewN ?_ _ | refine Below.setCell ?_ hsz _)
              case measure => simp [intOf]
          · by_cases hxy : x = y
            · have hxb : (x == y) = true := by simpa using hxy
              by_cases hr : p < r + 1
              · have hri : (p : Int) < r + 1 := by omega
                have HVal := Lib.hid (show Value.int .i64 ((r : Int) + 1) = .int .i64 (lcs (a.drop q) (b.drop j) : Nat) from by rw [HFin.out, if_pos hxy]; congr 1; omega)
                clear hxy
                go_wp2_with fail
                go_quiet (fail)
                go_wp2_with fail
                go_quiet (fail)
                go_wp2_with fail
                go_roundw
                case rel =>
                  refine ⟨j, _, by omega, Down.of _, Lib.hid ?_, Lib.hid (World.rowIs.set (rowIs_drewN (HH2.out.set j _) _) j _), Lib.hid (row_down (row_over HF2.out) HVal.out), Lib.hid ?_, by simpa using hsz2⟩
                  · repeat (first | exact HG2.out | refine rowIs_drewN ?_ _ | refine World.rowIs.setOther ?_ hgh _)
                  · repeat (first | exact HB2.out | refine below_drewN ?_ _ | refine Below.setCell ?_ hsz _)
                case measure => simp [intOf]
              · have hri : ¬ (p : Int) < r + 1 := by omega
                have HVal := Lib.hid (show Value.int .i64 ((p : Int)) = .int .i64 (lcs (a.drop q) (b.drop j) : Nat) from by rw [HFin.out, if_pos hxy]; congr 1; omega)
                clear hxy
                go_wp2_with fail
                go_quiet (fail)
                go_wp2_with fail
                go_quiet (fail)
                go_wp2_with fail
                go_roundw
                case rel =>
                  refine ⟨j, _, by omega, Down.of _, Lib.hid ?_, Lib.hid (rowIs_drewN (HH2.out.set j _) _), Lib.hid (row_down HF2.out HVal.out), Lib.hid ?_, by simpa using hsz2⟩
                  · repeat (first | exact HG2.out | refine rowIs_drewN ?_ _ | refine World.rowIs.setOther ?_ hgh _)
                  · repeat (first | exact HB2.out | refine below_drewN ?_ _ | refine Below.setCell ?_ hsz _)
                case measure => simp [intOf]
            · have hxb : (x == y) = false := by simpa using hxy
              have HVal := Lib.hid (show Value.int .i64 ((p : Int)) = .int .i64 (lcs (a.drop q) (b.drop j) : Nat) from by rw [HFin.out, if_neg hxy]; congr 1; omega)
              clear hxy
              go_wp2_with fail
              go_quiet (fail)
              go_wp2_with fail
              go_quiet (fail)
              go_wp2_with fail
              go_roundw
              case rel =>
                refine ⟨j, _, by omega, Down.of _, Lib.hid ?_, Lib.hid (rowIs_drewN (HH2.out.set j _) _), Lib.hid (row_down HF2.out HVal.out), Lib.hid ?_, by simpa using hsz2⟩
                · repeat (first | exact HG2.out | refine rowIs_drewN ?_ _ | refine World.rowIs.setOther ?_ hgh _)
                · repeat (first | exact HB2.out | refine below_drewN ?_ _ | refine Below.setCell ?_ hsz _)
              case measure => simp [intOf]
        · go_wp2_with fail
          go_roundw
          case rel =>
            exact ⟨q, wo.heap.size, by omega, Down.of _, rfl, by omega, Lib.hid (HH2.out.congr fun m hm => HF2.out m (by omega) (by omega)), HB2, hsz2⟩
          case measure => simp [intOf]
    · have e1 : wr.cell? ⟨g, 0, none⟩ = _ := HG.out.cell (i := 0) (by omega)
      rw [List.drop_zero, List.drop_zero] at e1
      go_wp2_with fail
      go_ret
      exact ⟨rfl, HB.out⟩
end Go.Proofs.Ytdlmdjhnigbfpaa
