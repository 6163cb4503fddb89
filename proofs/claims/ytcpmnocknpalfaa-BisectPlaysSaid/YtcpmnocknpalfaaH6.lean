/-
  Layer 14: a sweep's state: what the painter knows, and what has been told. No condition besides what the arguments are.
-/
import Derived.Test.YtcpmnocknpalfaaH5
namespace Go.Proofs.Ytcpmnocknpalfaa
open Go.RowKit Go.Sl

structure Sw (hd : Nat → Nat → Nat) (f0 : Nat) (seed : Nat → Nat → Prop) (g : List Nd) (base pb mb : Nat) (gv qv : Value) (q : List Int) (B : Nat) (ms : List Nat) (ov : Value) (w wr : World) : Prop where
  pt : Pt base pb mb gv qv q B ms wr
  fix : Dag.Fix (Dag.par g) hd seed g.length B ms
  own : Own eInt 1 base 3 wr ov (Dag.told (Dag.em f0 ms) B g.length)
  apart : Apart ov qv
  bel : Below base w wr

section
variable {hd : Nat → Nat → Nat} {f0 : Nat} {seed : Nat → Nat → Prop} {g : List Nd} {base pb mb B : Nat} {gv qv ov : Value} {q : List Int} {ms : List Nat} {w wr : World}

theorem apart_none (v : Value) : Apart (.slice none 0 0) v := .inl rfl

theorem Sw.start {ms : List Nat} {w1 wr : World} {qv0 : Value} (h : PtN base pb mb gv qv0 g.length ms w1 wr) (hl : ms.length = g.length) (hb : Below base w w1) :
    ∃ qv q, Sw hd f0 (fun x b => Dag.bit ms x b = true) g base pb mb gv qv q g.length ms (.slice none 0 0) w wr := by
  obtain ⟨qv, q, h1, h2, h3⟩ := h
  exact ⟨qv, q, h1, Dag.Fix.start hl, by rw [Dag.told_start]; exact Own.nil _ _ _ _ _, apart_none _, hb.trans h3⟩

theorem Sw.fin (hg : Dag.okG g) (s : Sw hd f0 seed g base pb mb gv qv q B ms ov w wr) {n : Nat} (hn : n < B) (hN : n < g.length) (hq : Dag.bit ms n 3 = true) (hm : ∀ m, n < m → m < B → Dag.bit ms m 3 = false)
    {ov' qv1 : Value} {q1 : List Int} {w2 w3 : World} {L : List Int}
    (hL : L = if Dag.fl ms n = f0 then Dag.told (Dag.em f0 ms) B g.length ++ [(n : Int)] else Dag.told (Dag.em f0 ms) B g.length)
    (own2 : Own eInt 1 base 3 w2 ov' L) (ap2 : Apart ov' qv1) (b2 : Below base w w2) (_pt2 : Pt base pb mb gv qv1 q1 n ms w2)
    (h3 : PtN base pb mb gv qv1 n (Dag.mks ms (Dag.par g n) (hd n (Dag.fl ms n))) w2 w3) :
    ∃ qv' q', Sw hd f0 seed g base pb mb gv qv' q' n (Dag.mks ms (Dag.par g n) (hd n (Dag.fl ms n))) ov' w w3 := by
  obtain ⟨qv', q', k1, k2, k3⟩ := h3
  obtain ⟨o1, o2⟩ := k2 _ _ own2 ap2
  have hlt := Dag.par_lt hg
  have hsame : ∀ m, n ≤ m → Dag.em f0 (Dag.mks ms (Dag.par g n) (hd n (Dag.fl ms n))) m = Dag.em f0 ms m := fun m hnm => Dag.em_same (Dag.mks_getD_ne _ (fun hx => by have := hlt _ _ hx; omega))
  have hno : ∀ m, n < m → m < B → Dag.em f0 ms m = false := fun m h1 h2 => by unfold Dag.em; rw [hm m h1 h2]; rfl
  refine ⟨qv', q', k1, s.fix.next hlt hn hN hq hm, ?_, o2, b2.trans k3⟩
  have e : L = Dag.told (Dag.em f0 (Dag.mks ms (Dag.par g n) (hd n (Dag.fl ms n)))) n g.length := by
    rw [hL]
    by_cases hf : Dag.fl ms n = f0
    · rw [if_pos hf, Dag.told_yes hn hN hno hsame (by unfold Dag.em; rw [hq, hf]; simp)]
    · rw [if_neg hf, Dag.told_no hn hno hsame (by unfold Dag.em; simp [hf])]
  rw [← e]; exact o1

/-- behind the next one -/
theorem Sw.next {n : Nat} (s : Sw hd f0 seed g base pb mb gv qv q B ms ov w wr) {w1 : World} (h : PtN base pb mb gv qv n ms wr w1) :
    ∃ qv1 q1, Pt base pb mb gv qv1 q1 n ms w1 ∧ Own eInt 1 base 3 w1 ov (Dag.told (Dag.em f0 ms) B g.length) ∧ Apart ov qv1 ∧ Below base w w1 := by
  obtain ⟨qv1, q1, k1, k2, k3⟩ := h
  obtain ⟨o1, o2⟩ := k2 _ _ s.own s.apart
  exact ⟨qv1, q1, k1, o1, o2, s.bel.trans k3⟩

/-- the painter behind an append to what has been told -/
theorem Pt.append {base pb mb n : Nat} {gv qv1 ov ov' : Value} {q1 l : List Int} {ms : List Nat} {w1 w2 : World} (h : Pt base pb mb gv qv1 q1 n ms w1) (ho : Own eInt 1 base 3 w1 ov l) (ha : Apart ov qv1) (o : Obj)
    (hg : (w1.alloc o).grownBy w2 ov.ownBlock) (hb : ov'.ownBlock = ov.ownBlock ∨ ov'.ownBlock = some (w1.heap.size + 1)) : Pt base pb mb gv qv1 q1 n ms w2 ∧ Apart ov' qv1 := by
  have hblk := grown_heap hg (heap_keep (p := o) h.blk) (ho.ne_elem h.blk (by decide))
  have hmks := grown_heap hg (heap_keep (p := o) h.mks) (ho.ne_elem h.mks (by decide))
  have hown := (h.own.alloc o).kept hg (by
    rcases ha with ha | ha
    · rw [ha]; cases qv1.ownBlock <;> simp
    · exact .inr (fun e => ha e.symm))
  refine ⟨⟨h.hpb, h.hmb, hblk, hmks, hown, h.heap, h.nodup, h.mem, h.small, h.len⟩, ?_⟩
  rcases hb with hb | hb
  · unfold Apart; rw [hb]; exact ha
  · right; rw [hb]
    intro e
    have := (h.own.lt _ e.symm).2
    omega

/-- what is told at the end -/
theorem Sw.done (s : Sw hd f0 seed g base pb mb gv qv [] B ms ov w wr) :
    Dag.Fix (Dag.par g) hd seed g.length 0 ms ∧ Own eInt 1 base 3 wr ov (Dag.filtN (Dag.em f0 ms) g.length).reverse ∧ Below base w wr := by
  have hno : ∀ m, m < B → Dag.bit ms m 3 = false := fun m hm => by
    cases e : Dag.bit ms m 3
    · rfl
    · have hml : m < ms.length := by
        apply Classical.byContradiction
        intro hc
        unfold Dag.bit at e
        simp [List.getD_eq_getElem?_getD, Nat.le_of_not_lt hc] at e
      have := (s.pt.mem (m : Int)).2 ⟨m, hm, hml, e, rfl⟩
      simp at this
  refine ⟨s.fix.done hno, ?_, s.bel⟩
  rw [← Dag.told_done (p := Dag.em f0 ms) (B := B) (fun m hm => by unfold Dag.em; rw [hno m hm]; rfl), List.reverse_reverse]
  exact s.own
end

theorem bit_lt {ms : List Nat} {x b : Nat} (h : Dag.bit ms x b = true) : x < ms.length := by
  apply Classical.byContradiction
  intro hc
  unfold Dag.bit at h
  simp [List.getD_eq_getElem?_getD, Nat.le_of_not_lt hc] at h
theorem bit_zero (N x b : Nat) : Dag.bit (List.replicate N 0) x b = false := by
  unfold Dag.bit
  by_cases h : x < N <;> simp [List.getD_eq_getElem?_getD, h]
end Go.Proofs.Ytcpmnocknpalfaa
