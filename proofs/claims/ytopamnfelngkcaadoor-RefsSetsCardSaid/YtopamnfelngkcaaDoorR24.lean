/-
  Layer 12: slices.Delete of one ref of an own table. No condition besides what the arguments are.
-/
import Derived.Test.YtopamnfelngkcaaDoorR23
namespace Go.Proofs.YtopamnfelngkcaaDoor.Rf
open Go.Proofs Go.RowKit Go.Shelf Go.Sl Go.Route Go.Refs
set_option linter.unusedVariables false

theorem zeroV43 (w : World) : (zeroValue 43).run Tryd.prog w = .ok (vRf zRf) w := (zero_of_info zero43).1 w
theorem zeros1 : (Builtin.zeroCells (vRf zRf).cells 1).toList = eRf zRf := by kernel_rfl
theorem flat_cut {l : List Go.Sl.Rf} {i : Nat} : (l.take i ++ l.drop (i + 1)).flatMap eRf = (l.take i).flatMap eRf ++ (l.drop (i + 1)).flatMap eRf := List.flatMap_append

set_option maxRecDepth 100000 in
set_option maxHeartbeats 2000000 in
theorem delete_row (g cap p i : Nat) (cur : Array Value) (l : List Go.Sl.Rf) (w : World) (base : Nat) (hb : base ≤ g) (hg : w.heap[g]? = some (.cells cur 43 (0, 0))) (hn : l.length = p + 1) (hnc : p + 1 ≤ cap) (hm : cap ≤ maxLen) (hs : cur.size = cap * 33) (ht : cur.toList.take ((p + 1) * 33) = l.flatMap eRf) (hi : i ≤ p) :
    Calls Tryd.prog 92 #[.slice (some ⟨g, 0, none⟩) (p + 1) cap, .int .i64 i, .int .i64 ((i : Int) + 1)] w fun e w' => ∃ ov, e = .returned ov ∧ Sl.Own eRf 33 base 43 w' ov (l.take i ++ l.drop (i + 1)) ∧ Below base w w' := by
  have hm2 : cap ≤ 9223372036854775807 := by simpa [maxLen] using hm
  obtain ⟨D, hD⟩ : ∃ D, Hid ((l.drop (i + 1)).flatMap eRf = D) := ⟨_, Lib.hid rfl⟩
  have hDl : D.length = (p - i) * 33 := by rw [← hD.out, flat_len len_eRf, List.length_drop, hn]; congr 1; omega
  have hDc : (cur.toList.drop ((i + 1) * 33)).take D.length = D := by
    rw [hDl, show (p - i) * 33 = (p + 1) * 33 - (i + 1) * 33 by omega, ← hD.out, ← flat_drop len_eRf, ← ht, List.drop_take]
  have hcl : cur.toList.length = cap * 33 := by simpa using hs
  have hfit : i * 33 + D.length ≤ cur.size := by rw [hDl, hs]; omega
  obtain ⟨C1, hC1⟩ : ∃ C, Hid ((over cur.toList (i * 33) D).toArray = C) := ⟨_, Lib.hid rfl⟩
  have hC1s : C1.size = cap * 33 := by rw [← hC1.out]; simp only [List.size_toArray]; rw [over_len (by rw [hcl]; omega), hcl]
  have hzl : (eRf zRf).length = 33 := len_eRf zRf
  obtain ⟨C2, hC2⟩ : ∃ C, Hid ((over C1.toList (p * 33) (eRf zRf)).toArray = C) := ⟨_, Lib.hid rfl⟩
  have hfit2 : p * 33 + (eRf zRf).length ≤ C1.toList.length := by rw [hzl, Array.length_toList, hC1s]; omega
  have hC2s : C2.size = cap * 33 := by rw [← hC2.out]; simp only [List.size_toArray]; rw [over_len hfit2]; simpa using hC1s
  have HT : Hid (C2.toList.take (p * 33) = (l.take i ++ l.drop (i + 1)).flatMap eRf) := Lib.hid (by
    rw [← hC2.out]
    simp only []
    rw [over_take hfit2 (Nat.le_refl _), ← hC1.out]
    simp only []
    rw [show p * 33 = i * 33 + D.length by rw [hDl]; omega, take_two, over_mid (by rw [hcl]; omega), over_take (by rw [hcl]; omega) (Nat.le_refl _), flat_cut, hD.out]
    congr 1
    rw [← flat_take len_eRf, ← ht, List.take_take]; congr 1; omega)
  obtain ⟨A, hA, hsrc⟩ : ∃ A : Addr, (∀ (ik : IntKind) (u : World), (Instr.slice 37 (.slice (some ⟨g, 0, none⟩) (p + 1) cap) (some (.int ik ((i : Int) + 1))) none none).run Tryd.prog u = .ok (.slice (some A) (p - i) (cap - (i + 1))) u) ∧ Hid (∀ t u, D[t]? = some u → w.drew.cell? (A.add t) = some u) := by
    by_cases h : cap = i + 1
    · refine ⟨⟨g, 0, none⟩, fun ik u => ?_, Lib.hid (fun t u hu => ?_)⟩
      · have := run_slice_l u 37 (some ⟨g, 0, none⟩) (p + 1) cap (P := Tryd.prog) (by rw [elem37]; exact Tryd.underlying37) ik ((i : Int) + 1) (by omega) (by omega)
        rw [this, elem37, sz43]
        have e1 : ((i : Int) + 1).toNat = i + 1 := by omega
        simp [sliced, e1, h, show p + 1 - (i + 1) = p - i by omega]
      · have : D.length = 0 := by rw [hDl]; omega
        rw [List.length_eq_zero_iff.1 this] at hu; simp at hu
    · refine ⟨⟨g, (i + 1) * 33, none⟩, fun ik u => ?_, Lib.hid (cells_in (w := w.drew) hg hDc)⟩
      have := cut_from (g := g) (o := 0) (n := p + 1) (cap := cap) (lo := i + 1) (by omega) h ik u
      rw [Nat.zero_add, show p + 1 - (i + 1) = p - i by omega] at this; exact this
  have hone : Hid (∀ u ∈ D, u.oneCell' = true) := Lib.hid (by rw [← hD.out]; exact one_flat _)
  have hsp : Hid (∀ j, j < D.length → (w.drew.cell? ⟨g, 0 + i * 33 + j, none⟩).isSome = true ∧ w.drew.frozen? ⟨g, 0 + i * 33 + j, none⟩ = false) := Lib.hid (fun j hj => by
    have hk : 0 + i * 33 + j < cur.size := by omega
    have hgd : w.drew.heap[g]? = some (.cells cur 43 (0, 0)) := hg
    have hk2 : i * 33 + j < cur.size := by omega
    exact ⟨by simp [World.cell?, hgd, hk2], by simp [World.frozen?, hgd]⟩)
  obtain ⟨W1, hW1⟩ : ∃ W1, Hid (w.drew.setCells g (0 + i * 33) D = W1) := ⟨_, Lib.hid rfl⟩
  have hW1' : W1 = w.drew.setRow g C1 := by
    rw [← hW1.out, Nat.zero_add, setCells_row g 43 D (i * 33) cur w.drew hg hfit, hC1.out]
  have HC1 : Hid (W1.heap[g]? = some (.cells C1 43 (0, 0))) := Lib.hid (by rw [hW1']; exact setRow_heap w.drew g cur C1 43 (0, 0) hg)
  have HB1 : Hid (Below base w W1) := Lib.hid (by rw [hW1']; exact below_setRow (Below.refl base w).drew hb _)
  obtain ⟨i0, hi0, hzs⟩ : ∃ i0, Tryd.prog.info? 43 = some i0 ∧ i0.size = 33 := by
    have := info33
    cases hq : Tryd.prog.info? 43 with
    | none => rw [hq] at this; simp at this
    | some i0 => rw [hq] at this; exact ⟨i0, rfl, by simpa using this⟩
  have hcl2 : ∀ ty, (Builtin.clear_ #[37] ty #[.slice (some ⟨g, p * 33, none⟩) 1 (cap - p)]).run Tryd.prog W1 = .ok (.tuple #[]) (W1.setRow g C2) := fun ty => by
    rw [run_clearS ty 1 (cap - p) (vRf zRf) 43 (eRf zRf) Tryd.underlying37 zeroV43 (by omega) HC1.out zeros1 (by simpa using hfit2) (fun v hv => one_eRf zRf v hv), hC2.out]
  have u37 := run_underlying (P := Tryd.prog) Tryd.underlying37
  have hip : i + (p - i) = p := by omega
  have sM : ∀ (ik ik' ik'' : IntKind) (u : World), ∃ q, (Instr.slice 37 (.slice (some ⟨g, 0, none⟩) (p + 1) cap) (some (.int ik (i : Int))) (some (.int ik' ((i : Int) + 1))) (some (.int ik'' ((p : Int) + 1)))).run Tryd.prog u = .ok q u := fun ik ik' ik'' u => ⟨_, by
    rw [run_slice_lhm u 37 (some ⟨g, 0, none⟩) (p + 1) cap (P := Tryd.prog) (by rw [elem37]; exact Tryd.underlying37) ik ik' ik'' _ _ _ (by omega) (by omega) (by omega) (by omega), elem37, sz43]; rfl⟩
  have s43 := sz43
  have e37 := elem37
  have sB : ∀ (ik : IntKind) (u : World), (Instr.slice 37 (.slice (some ⟨g, 0, none⟩) (p + 1) cap) none (some (.int ik (i : Int))) none).run Tryd.prog u = .ok (.slice (some ⟨g, 0, none⟩) i cap) u := fun ik u => cut_upto (g := g) (o := 0) (n := p + 1) (cap := cap) (hi := i) (by omega) ik u
  have sE : ∀ (ik ik' : IntKind) (u : World), (Instr.slice 37 (.slice (some ⟨g, 0, none⟩) p cap) (some (.int ik (p : Int))) (some (.int ik' ((p : Int) + 1))) none).run Tryd.prog u = .ok (.slice (some ⟨g, p * 33, none⟩) 1 (cap - p)) u := fun ik ik' u => by
    rw [run_slice_lh u 37 (some ⟨g, 0, none⟩) p cap (P := Tryd.prog) (by rw [elem37]; exact Tryd.underlying37) ik ik' _ _ (by omega) (by omega) (by omega), elem37, sz43]
    have e1 : ((p : Int) + 1).toNat = p + 1 := by omega
    have e2 : ¬ cap = p := by omega
    simp [sliced, e1, e2, Addr.add_lit]
  have dn : ((i : Int) == (i : Int) + 1) = false := by rw [beq_eq_false_iff_ne]; omega
  have dn2 : ¬ (i : Int) = (i : Int) + 1 := by omega
  have mixed : Tryd.prog.follows Departure.mixedOrders = true := by kernel_rfl
  have HG := Lib.hid hg
  clear hg ht hfit hDc hD hcl hC1 hC2 hW1' hfit2
  go_enter Tryd.func92, Tryd.ntmps92
  go_wp2_with fail
  go_region_law_o (refine step_append_room rfl (.tmp 22) (.tmp 25) 37 rfl 43 i0 33 Tryd.underlying37 hi0 hzs g 0 i cap (by simp [Act.eval, Act.put]) A (p - i) (cap - (i + 1)) D (by simp [Act.eval, Act.put]) hDl hsrc.out hone.out (by omega) hsp.out ?_; rw [hW1.out, hip])
  go_wp2_with (refine wpList_clearR W1 rfl _ 37 rfl _ rfl (hcl2 _) ?_)
  go_ret
  exact ⟨_, rfl, own_row hb (setRow_heap _ _ _ _ _ _ HC1.out) (by simp; omega) (by omega) hm hC2s HT.out, below_setRow HB1.out hb _⟩

/-- slices.Delete of one ref of an own table -/
theorem delete_any (v : Value) (i : Nat) (l : List Go.Sl.Rf) (w : World) (base : Nat) (hv : Sl.Own eRf 33 base 43 w v l) (hi : i < l.length) :
    Calls Tryd.prog 92 #[v, .int .i64 i, .int .i64 ((i : Int) + 1)] w fun e w' => ∃ ov, e = .returned ov ∧ Sl.Own eRf 33 base 43 w' ov (l.take i ++ l.drop (i + 1)) ∧ Below base w w' := by
  rcases hv.2 with ⟨_, h0⟩ | ⟨g, cap, cur, rfl, h1, h2, h3, h4, h5, h6⟩
  · omega
  · obtain ⟨p, hp⟩ : ∃ p, l.length = p + 1 := ⟨l.length - 1, by omega⟩
    rw [hp] at h3 h6 ⊢
    exact delete_row g cap p i cur l w base h1 h2 hp h3 h4 h5 h6 (by omega)
end Go.Proofs.YtopamnfelngkcaaDoor.Rf
