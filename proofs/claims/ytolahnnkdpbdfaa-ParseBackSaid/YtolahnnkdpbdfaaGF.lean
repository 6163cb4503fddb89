/-
  Layer 28: what stands while the document's parser reads an item. No condition besides what lies where.
  Layer 28: an item that must follow, the document's walk. No condition besides what lies where.
-/
import Derived.Test.YtolahnnkdpbdfaaGE
namespace Go.Proofs.Ytolahnnkdpbdfaa
open Go.Proofs Go.RowKit Go.Shelf Go.Sl Go.Prs
abbrev z98 : Obj := .cells #[.int .i64 0, .string .empty, .slice none 0 0, .string .empty, .slice none 0 0, .bool false] 98 (0, 0)
structure ItD (b : Nat) (w : World) (L : List Lex.Tok) (nots : Nat) (p : Nat) (bad : Bool) (k : Int) (ab : List UInt8) (av : Value) (bb : List UInt8) (bv : Value) (nt : Bool) (wr : World) : Prop where
  res : wr.heap[w.heap.size]? = some z98
  it : wr.heap[w.heap.size + 1]? = some (.cells #[.int .i64 k, .string (bstr ab), av, .string (bstr bb), bv, .bool nt] 98 (0, 0))
  ds : Ds b wr L p bad nots
  gr : w.grownBy wr (some b)
section
variable {b : Nat} {w : World} {L : List Lex.Tok} {nots p : Nat} {bad : Bool} {k : Int} {ab : List UInt8} {av : Value} {bb : List UInt8} {bv : Value} {nt : Bool} {wr : World}
theorem ItD.par (h : ItD b w L nots p bad k ab av bb bv nt wr) (hbw : b < w.heap.size) {w' : World} (hg : wr.grownBy w' (some b)) {p' : Nat} {bad' : Bool} (hd : Ds b w' L p' bad' nots) : ItD b w L nots p' bad' k ab av bb bv nt w' :=
  ⟨grown_heap hg h.res (by intro e; have := Option.some.inj e; omega), grown_heap hg h.it (by intro e; have := Option.some.inj e; omega), hd, grown_trans h.gr hg⟩
theorem ItD.ext (h : ItD b w L nots p bad k ab av bb bv nt wr) (hbw : b < w.heap.size) {w' : World} (hb : Below wr.heap.size wr w') : ItD b w L nots p bad k ab av bb bv nt w' := h.par hbw (grown_below hb) (h.ds.ext hb)
theorem ItD.next (h : ItD b w L nots p bad k ab av bb bv nt wr) (hbw : b < w.heap.size) : ItD b w L nots (p + 1) bad k ab av bb bv nt (wr.setCell ⟨b, 1, none⟩ (.int .i64 ((p : Int) + 1))) := h.par hbw (grown_set wr ⟨b, 1, none⟩ _) h.ds.next
theorem ItD.bk (h : ItD b w L nots p bad k ab av bb bv nt wr) : Bk wr 98 (w.heap.size + 1) := ⟨_, h.it⟩
theorem ItD.set (h : ItD b w L nots p bad k ab av bb bv nt wr) (o : Nat) (u : Value) {k' : Int} {ab' : List UInt8} {av' : Value} {bb' : List UInt8} {bv' : Value} {nt' : Bool} (hu : (#[.int .i64 k, .string (bstr ab), av, .string (bstr bb), bv, .bool nt] : Array Value).set! o u = #[.int .i64 k', .string (bstr ab'), av', .string (bstr bb'), bv', .bool nt']) :
    ItD b w L nots p bad k' ab' av' bb' bv' nt' (wr.setCell ⟨w.heap.size + 1, o, none⟩ u) := by
  refine ⟨heap_set_keep h.res (by simp only []; omega), ?_, h.ds.set h.bk (by decide) (by decide) o u, grown_over h.gr (grown_set wr ⟨w.heap.size + 1, o, none⟩ u) (by simp only []; omega)⟩
  rw [heap_setCell_same _ _ _ _ _ _ h.it]
  simp only [Array.set!_eq_setIfInBounds] at hu
  rw [hu]
theorem ItD.setK (h : ItD b w L nots p bad k ab av bb bv nt wr) (k' : Int) : ItD b w L nots p bad k' ab av bb bv nt (wr.setCell ⟨w.heap.size + 1, 0, none⟩ (.int .i64 k')) := h.set 0 _ rfl
theorem ItD.setN (h : ItD b w L nots p bad k ab av bb bv nt wr) (nt' : Bool) : ItD b w L nots p bad k ab av bb bv nt' (wr.setCell ⟨w.heap.size + 1, 5, none⟩ (.bool nt')) := h.set 5 _ rfl
theorem ItD.setA (h : ItD b w L nots p bad k ab av bb bv nt wr) (a' : List UInt8) (v' : Value) : ItD b w L nots p bad k a' v' bb bv nt ((wr.setCell ⟨w.heap.size + 1, 1, none⟩ (.string (bstr a'))).setCell ⟨w.heap.size + 1, 2, none⟩ v') := (h.set 1 (.string (bstr a')) (ab' := a') rfl).set 2 v' rfl
theorem ItD.setB (h : ItD b w L nots p bad k ab av bb bv nt wr) (a' : List UInt8) (v' : Value) : ItD b w L nots p bad k ab av a' v' nt ((wr.setCell ⟨w.heap.size + 1, 3, none⟩ (.string (bstr a'))).setCell ⟨w.heap.size + 1, 4, none⟩ v') := (h.set 3 (.string (bstr a')) (bb' := a') rfl).set 4 v' rfl
theorem ItD.setAH (h : ItD b w L nots p bad k ab av bb bv nt wr) : ItD b w L nots p bad k [64] (.slice none 0 0) bb bv nt ((wr.setCell ⟨w.heap.size + 1, 1, none⟩ (.string ⟨#[64]⟩)).setCell ⟨w.heap.size + 1, 2, none⟩ (.slice none 0 0)) := h.setA [64] (.slice none 0 0)
theorem ItD.setBH (h : ItD b w L nots p bad k ab av bb bv nt wr) : ItD b w L nots p bad k ab av [64] (.slice none 0 0) nt ((wr.setCell ⟨w.heap.size + 1, 3, none⟩ (.string ⟨#[64]⟩)).setCell ⟨w.heap.size + 1, 4, none⟩ (.slice none 0 0)) := h.setB [64] (.slice none 0 0)
theorem ItD.own2 (h : ItD b w L nots p bad k ab av bb bv nt wr) {N : Nat} {v : Value} {x : List St} (ho : Own eSt 3 N 118 wr v x) (i j : Nat) (u u' : Value) : Own eSt 3 N 118 ((wr.setCell ⟨w.heap.size + 1, i, none⟩ u).setCell ⟨w.heap.size + 1, j, none⟩ u') v x :=
  Own.set_bk (Own.set_bk ho h.bk (by decide) i u) (h.bk.set _ _ _) (by decide) j u'
theorem ItD.own (h : ItD b w L nots p bad k ab av bb bv nt wr) {N : Nat} {v : Value} {x : List St} (ho : Own eSt 3 N 118 wr v x) (i : Nat) (u : Value) : Own eSt 3 N 118 (wr.setCell ⟨w.heap.size + 1, i, none⟩ u) v x := Own.set_bk ho h.bk (by decide) i u
theorem ItD.ownp (h : ItD b w L nots p bad k ab av bb bv nt wr) {w' : World} (hg : wr.grownBy w' (some b)) {N : Nat} {v : Value} {x : List St} (ho : Own eSt 3 N 118 wr v x) : Own eSt 3 N 118 w' v x := Own.kept_bk ho hg (fun g e => by cases e; exact h.ds.bk) (by decide)
theorem ItD.fact (h : ItD b w L nots p bad k ab av bb bv nt wr) : (∀ o, wr.frozen? ⟨w.heap.size, o, none⟩ = false) ∧ (∀ o, wr.frozen? ⟨w.heap.size + 1, o, none⟩ = false) ∧
    wr.cell? ⟨w.heap.size, 0, none⟩ = some (.int .i64 0) ∧ wr.cell? ⟨w.heap.size, 1, none⟩ = some (.string .empty) ∧ wr.cell? ⟨w.heap.size, 2, none⟩ = some (.slice none 0 0) ∧ wr.cell? ⟨w.heap.size, 3, none⟩ = some (.string .empty) ∧ wr.cell? ⟨w.heap.size, 4, none⟩ = some (.slice none 0 0) ∧ wr.cell? ⟨w.heap.size, 5, none⟩ = some (.bool false) ∧
    wr.cell? ⟨w.heap.size + 1, 0, none⟩ = some (.int .i64 k) ∧ wr.cell? ⟨w.heap.size + 1, 1, none⟩ = some (.string (bstr ab)) ∧ wr.cell? ⟨w.heap.size + 1, 2, none⟩ = some av ∧ wr.cell? ⟨w.heap.size + 1, 3, none⟩ = some (.string (bstr bb)) ∧ wr.cell? ⟨w.heap.size + 1, 4, none⟩ = some bv ∧ wr.cell? ⟨w.heap.size + 1, 5, none⟩ = some (.bool nt) ∧
    wr.cell? ⟨b, 1, none⟩ = some (.int .i64 (p : Nat)) ∧ wr.cell? ⟨b, 2, none⟩ = some (.bool bad) ∧ wr.cell? ⟨b, 3, none⟩ = some (.int .i64 (nots : Nat)) ∧ (∀ o, wr.frozen? ⟨b, o, none⟩ = false) := by
  obtain ⟨_, a0, a1, a2, a3, a4, a5⟩ := six_cells h.res
  obtain ⟨_, d0, d1, d2, d3, d4, d5⟩ := six_cells h.it
  have hbk := h.ds.bk
  obtain ⟨lv, h1, _⟩ := h.ds.ex
  exact ⟨bk_frozen ⟨_, h.res⟩, bk_frozen h.bk, a0, a1, a2, a3, a4, a5, d0, d1, d2, d3, d4, d5, by simp [World.cell?, h1], by simp [World.cell?, h1], by simp [World.cell?, h1], bk_frozen hbk⟩
end
/-- an item as the document's parser hands it back -/
def ItRD (N : Nat) (x : It) (v : Value) (w' : World) : Prop := ∃ a2 n2 c2 a3 n3 c3, v = .agg #[.int .i64 x.k, .string (bstr x.a.b), .slice a2 n2 c2, .string (bstr x.b.b), .slice a3 n3 c3, .bool x.nt] ∧ Own eSt 3 N 118 w' (.slice a2 n2 c2) x.a.st ∧ Own eSt 3 N 118 w' (.slice a3 n3 c3) x.b.st
def ItRS (v : Value) (_ : World) : Prop := ∃ r : Ri, v = .agg (eRi r).toArray
theorem Ds.set6 {b : Nat} {w : World} {L : List Lex.Tok} {p : Nat} {bad : Bool} {nots : Nat} (h : Ds b w L p bad nots) {g : Nat} (hk : Bk w 98 g) (v0 v1 v2 v3 v4 v5 : Value) :
    Ds b ((((((w.setCell ⟨g, 0, none⟩ v0).setCell ⟨g, 1, none⟩ v1).setCell ⟨g, 2, none⟩ v2).setCell ⟨g, 3, none⟩ v3).setCell ⟨g, 4, none⟩ v4).setCell ⟨g, 5, none⟩ v5) L p bad nots := by
  have h0 := h.set hk (by decide) (by decide) 0 v0
  have k0 := hk.set g 0 v0
  have h1 := h0.set k0 (by decide) (by decide) 1 v1
  have k1 := k0.set g 1 v1
  have h2 := h1.set k1 (by decide) (by decide) 2 v2
  have k2 := k1.set g 2 v2
  have h3 := h2.set k2 (by decide) (by decide) 3 v3
  have k3 := k2.set g 3 v3
  have h4 := h3.set k3 (by decide) (by decide) 4 v4
  have k4 := k3.set g 4 v4
  exact h4.set k4 (by decide) (by decide) 5 v5
theorem own_set6D {w : World} {N : Nat} {v : Value} {x : List St} (h : Own eSt 3 N 118 w v x) {g : Nat} (hk : Bk w 98 g) (v0 v1 v2 v3 v4 v5 : Value) :
    Own eSt 3 N 118 ((((((w.setCell ⟨g, 0, none⟩ v0).setCell ⟨g, 1, none⟩ v1).setCell ⟨g, 2, none⟩ v2).setCell ⟨g, 3, none⟩ v3).setCell ⟨g, 4, none⟩ v4).setCell ⟨g, 5, none⟩ v5) v x := by
  have h0 := Own.set_bk h hk (by decide) 0 v0
  have k0 := hk.set g 0 v0
  have h1 := Own.set_bk h0 k0 (by decide) 1 v1
  have k1 := k0.set g 1 v1
  have h2 := Own.set_bk h1 k1 (by decide) 2 v2
  have k2 := k1.set g 2 v2
  have h3 := Own.set_bk h2 k2 (by decide) 3 v3
  have k3 := k2.set g 3 v3
  have h4 := Own.set_bk h3 k3 (by decide) 4 v4
  have k4 := k3.set g 4 v4
  exact Own.set_bk h4 k4 (by decide) 5 v5
theorem ItD.start {b : Nat} {w : World} {L : List Lex.Tok} {p nots : Nat} (h : Ds b w L p false nots) (nt : Bool) :
    ItD b w L nots p false 1 [] (.slice none 0 0) [] (.slice none 0 0) nt ((w.alloc z98).alloc (.cells #[.int .i64 1, .string (bstr []), .slice none 0 0, .string (bstr []), .slice none 0 0, .bool nt] 98)) := by
  have h1 := heap_alloc_new w z98
  have h2 := heap_alloc_new (w.alloc z98) (.cells #[.int .i64 1, .string (bstr []), .slice none 0 0, .string (bstr []), .slice none 0 0, .bool nt] 98)
  have e2 : (w.alloc z98).heap.size = w.heap.size + 1 := by simp
  rw [e2] at h2
  exact ⟨heap_keep h1, h2, (h.alloc _).alloc _, grown_alloc (grown_alloc (grown_refl _ _) _) _⟩
end Go.Proofs.Ytolahnnkdpbdfaa

namespace Go.Proofs.Ytolahnnkdpbdfaa
open Go.Proofs Go.RowKit Go.Shelf Go.Sl Go.Prs
theorem dots_of {l : List Lex.Tok} {m : Nat} (h : kd l = m) : Prs.dots l = if m = 5 then 2 else if m = 6 then 3 else 0 := by unfold Prs.dots; rw [h]
set_option maxRecDepth 100000 in
set_option maxHeartbeats 8000000 in
theorem ritem_any (b : Nat) (L : List Lex.Tok) (p nots : Nat) (nt : Bool) (hnt : nt = decide (nots % 2 = 1)) (w : World) (h : Ds b w L p false nots) (ht : Tl (L.drop p)) (hL : L.length ≤ 100) :
    Calls Try.prog 46 #[.pointer (some ⟨b, 0, none⟩)] w (DPost b w L nots (item nt (L.drop p)) (ItRD w.heap.size) ItRS) := by
  have HD0 := Lib.hid h
  have HT := Lib.hid ht
  have hbw : b < w.heap.size := h.lt
  have HIs := Lib.hid (ItD.start h nt)
  have hpl := Tl.lt ht
  have n1 : ((nots : Int).tmod 2 == 1) = nt := by
    rw [hnt, Bool.eq_iff_iff, Int.tmod_eq_emod_of_nonneg (by omega)]; simp; omega
  have n2 : ((nots : Int) % 2 == 1) = nt := by
    rw [hnt, Bool.eq_iff_iff]; simp; omega
  have hn3 : ∀ o : Obj, (w.alloc o).cell? ⟨b, 3, none⟩ = some (.int .i64 (nots : Nat)) := fun o => by
    obtain ⟨lv, h1, _⟩ := (h.alloc o).ex
    simp [World.cell?, h1]
  obtain ⟨wA, hA⟩ : ∃ x, (w.alloc (.cells #[.int .i64 0, .string ⟨#[]⟩, .slice none 0 0, .string ⟨#[]⟩, .slice none 0 0, .bool false] 98)).alloc (.cells #[.int .i64 1, .string ⟨#[]⟩, .slice none 0 0, .string ⟨#[]⟩, .slice none 0 0, .bool nt] 98) = x := ⟨_, rfl⟩
  have hA2 : (w.alloc z98).alloc (.cells #[.int .i64 1, .string (bstr []), .slice none 0 0, .string (bstr []), .slice none 0 0, .bool nt] 98) = wA := hA
  rw [hA2] at HIs
  have HA := Lib.hid hA
  clear h ht hA hA2 hnt
  obtain ⟨m, hm⟩ : ∃ m, Hid (kd (L.drop p) = m) := ⟨_, Lib.hid rfl⟩
  go_enter Try.func46, Try.ntmps46
  go_wp2_with fail
  rw [HA.out]
  clear n1 n2 hn3 HA
  by_cases h3 : m = 3
  · subst h3
    obtain ⟨f0, f1, a0, a1, a2, a3, a4, a5, d0, d1, d2, d3, d4, d5, g1, g2, g3, gf⟩ := HIs.out.fact
    go_wp2_with fail
    have HK1 := Lib.hid (HIs.out.ds.kindB HT.out.ne)
    rw [hm.out] at HK1
    refine HK1.out.mono ?_
    rintro e wk1 ⟨rfl, hb⟩
    have HI1 := Lib.hid (HIs.out.ext hbw hb)
    clear hb HK1 f0 f1 a0 a1 a2 a3 a4 a5 d0 d1 d2 d3 d4 d5 g1 g2 g3 gf
    obtain ⟨f0, f1, a0, a1, a2, a3, a4, a5, d0, d1, d2, d3, d4, d5, g1, g2, g3, gf⟩ := HI1.out.fact
    have HT1 : Hid (Tl (L.drop (p + 1))) := Lib.hid (by rw [drop_tail]; exact HT.out.tail (by rw [hm.out]; decide))
    have HI2 := Lib.hid ((HI1.out.next hbw).setN (!nt))
    clear HIs HI1
    go_wp2_with fail
    generalize hWwb : (wk1.setCell ⟨b, 1, none⟩ (.int .i64 ((p : Int) + 1))).setCell ⟨w.heap.size + 1, 5, none⟩ (.bool !nt) = wb at HI2 ⊢
    clear hWwb f0 f1 a0 a1 a2 a3 a4 a5 d0 d1 d2 d3 d4 d5 g1 g2 g3 gf
    obtain ⟨f0, f1, a0, a1, a2, a3, a4, a5, d0, d1, d2, d3, d4, d5, g1, g2, g3, gf⟩ := HI2.out.fact
    have HRv4 := Lib.hid (rrev_any b L (p + 1) nots _ HI2.out.ds HT1.out hL)
    have hsz4 := HI2.out.gr.size
    cases hst4 : Prs.rev (L.drop (p + 1)) with
    | error e0 =>
      have hD := Lib.hid (DPost.bad HRv4.out hst4)
      have HE : Hid (item nt (L.drop p) = .error e0) := Lib.hid (item_upE hm.out (by rw [← drop_tail]; exact hst4))
      clear hst4 HRv4
      refine hD.out.mono ?_
      rintro e w4 ⟨v, p4, rfl, ⟨s4, ao4, an4, ac4, rfl⟩, hd4, ht4, hpl4, hg4⟩
      have HI4 := Lib.hid (HI2.out.par hbw hg4 hd4)
      have HTe := Lib.hid ht4
      have HPl := Lib.hid (hpl4.trans rfl)
      clear hD hd4 ht4 hg4 hpl4 f0 f1 a0 a1 a2 a3 a4 a5 d0 d1 d2 d3 d4 d5 g1 g2 g3 gf
      obtain ⟨f0, f1, a0, a1, a2, a3, a4, a5, d0, d1, d2, d3, d4, d5, g1, g2, g3, gf⟩ := HI4.out.fact
      have HI5 := Lib.hid (HI4.out.setA s4 (.slice ao4 an4 ac4))
      have HB := Lib.hid (show Bk _ 98 w.heap.size from ⟨_, HI5.out.res⟩)
      go_wp2_with fail
      refine bodyPost_ret (v := .agg #[.int .i64 1, .string (bstr s4), .slice ao4 an4 ac4, .string (bstr []), .slice none 0 0, .bool !nt]) ?_ rfl ?_
      · simp [results, Try.results46, go_sem, a0, a1, a2, a3, a4, a5]; try rfl
      · exact DPost.no HE.out (grown_set6 HI5.out.gr (Nat.le_refl _) _ _ _ _ _ _) ⟨⟨1, s4, (ao4, an4, ac4), [], (none, 0, 0), !nt⟩, rfl⟩ (HI5.out.ds.set6 HB.out _ _ _ _ _ _) HTe.out HPl.out
    | ok x =>
      obtain ⟨x4, r4⟩ := x
      have hD := Lib.hid (DPost.ok HRv4.out hst4)
      have HST4 := Lib.hid hst4
      clear hst4 HRv4
      refine hD.out.mono ?_
      rintro e w4 ⟨v, p4, rfl, ⟨ao4, an4, ac4, rfl, ho4⟩, hd4, hdr4, ht4, hg4⟩
      have HI4 := Lib.hid (HI2.out.par hbw hg4 hd4)
      have HO4 : Hid (Own eSt 3 w.heap.size 118 w4 (.slice ao4 an4 ac4) x4.st) := Lib.hid (ho4.mono hsz4)
      have HTr4 := Lib.hid ht4
      have HDr4 := Lib.hid hdr4
      clear hD ho4 hd4 hdr4 ht4 hg4 f0 f1 a0 a1 a2 a3 a4 a5 d0 d1 d2 d3 d4 d5 g1 g2 g3 gf
      obtain ⟨f0, f1, a0, a1, a2, a3, a4, a5, d0, d1, d2, d3, d4, d5, g1, g2, g3, gf⟩ := HI4.out.fact
      have HI5 := Lib.hid (HI4.out.setA x4.b (.slice ao4 an4 ac4))
      have HO5 := Lib.hid (HI4.out.own2 HO4.out 1 2 (.string (bstr x4.b)) (.slice ao4 an4 ac4))
      have HE : Hid (item nt (L.drop p) = .ok (⟨1, x4, zRv, !nt⟩, r4)) := Lib.hid (item_up hm.out (by rw [← drop_tail]; exact HST4.out))
      have HB := Lib.hid (show Bk _ 98 w.heap.size from ⟨_, HI5.out.res⟩)
      go_wp2_with fail
      refine bodyPost_ret (v := .agg #[.int .i64 1, .string (bstr x4.b), .slice ao4 an4 ac4, .string (bstr []), .slice none 0 0, .bool !nt]) ?_ rfl ?_
      · simp [results, Try.results46, go_sem, a0, a1, a2, a3, a4, a5]; try rfl
      · exact DPost.is HE.out (grown_set6 HI5.out.gr (Nat.le_refl _) _ _ _ _ _ _) ⟨_, _, _, _, _, _, rfl, own_set6D HO5.out HB.out _ _ _ _ _ _, own_set6D (Own.nil _ _ _ _ _) HB.out _ _ _ _ _ _⟩ (HI5.out.ds.set6 HB.out _ _ _ _ _ _) HDr4.out HTr4.out
  · have q3 : ((m : Int) == 3) = false := by rw [beq_eq_false_iff_ne]; omega
    have H3 : Hid (kd (L.drop p) ≠ 3) := Lib.hid (by rw [hm.out]; exact h3)
    clear h3
    obtain ⟨f0, f1, a0, a1, a2, a3, a4, a5, d0, d1, d2, d3, d4, d5, g1, g2, g3, gf⟩ := HIs.out.fact
    go_wp2_with fail
    have HK2 := Lib.hid (HIs.out.ds.kindB HT.out.ne)
    rw [hm.out] at HK2
    refine HK2.out.mono ?_
    rintro e wk2 ⟨rfl, hb⟩
    have HI1 := Lib.hid (HIs.out.ext hbw hb)
    clear hb HK2 f0 f1 a0 a1 a2 a3 a4 a5 d0 d1 d2 d3 d4 d5 g1 g2 g3 gf
    obtain ⟨f0, f1, a0, a1, a2, a3, a4, a5, d0, d1, d2, d3, d4, d5, g1, g2, g3, gf⟩ := HI1.out.fact
    by_cases h5 : m = 5
    · subst h5
      have Hdk : Hid (Prs.dots (L.drop p) = 2) := Lib.hid (by rw [dots_of hm.out]; rfl)
      have Hr0 : Hid (Prs.dots (L.drop p) ≠ 0) := Lib.hid (by rw [Hdk.out]; decide)
      go_wp2_with fail
      have HK3 := Lib.hid (HI1.out.ds.kindB HT.out.ne)
      rw [hm.out] at HK3
      refine HK3.out.mono ?_
      rintro e wk3 ⟨rfl, hb⟩
      have HI2 := Lib.hid (HI1.out.ext hbw hb)
      clear hb HK3 f0 f1 a0 a1 a2 a3 a4 a5 d0 d1 d2 d3 d4 d5 g1 g2 g3 gf
      obtain ⟨f0, f1, a0, a1, a2, a3, a4, a5, d0, d1, d2, d3, d4, d5, g1, g2, g3, gf⟩ := HI2.out.fact
      have HI3 := Lib.hid (HI2.out.setAH)
      go_wp2_with fail
      generalize hWwd : ((wk3.setCell ⟨w.heap.size + 1, 1, none⟩ (.string ⟨#[64]⟩)).setCell ⟨w.heap.size + 1, 2, none⟩ (.slice none 0 0)) = wd at HI3 ⊢
      clear hWwd f0 f1 a0 a1 a2 a3 a4 a5 d0 d1 d2 d3 d4 d5 g1 g2 g3 gf
      obtain ⟨f0, f1, a0, a1, a2, a3, a4, a5, d0, d1, d2, d3, d4, d5, g1, g2, g3, gf⟩ := HI3.out.fact
      have HK4 := Lib.hid (HI3.out.ds.kindB HT.out.ne)
      rw [hm.out] at HK4
      refine HK4.out.mono ?_
      rintro e wk4 ⟨rfl, hb⟩
      have HI4 := Lib.hid (HI3.out.ext hbw hb)
      clear hb HK4 f0 f1 a0 a1 a2 a3 a4 a5 d0 d1 d2 d3 d4 d5 g1 g2 g3 gf
      obtain ⟨f0, f1, a0, a1, a2, a3, a4, a5, d0, d1, d2, d3, d4, d5, g1, g2, g3, gf⟩ := HI4.out.fact
      go_wp2_with fail
      have HK5 := Lib.hid (HI4.out.ds.kindB HT.out.ne)
      rw [hm.out] at HK5
      refine HK5.out.mono ?_
      rintro e wk5 ⟨rfl, hb⟩
      have HIq := Lib.hid (HI4.out.ext hbw hb)
      clear hb HK5 f0 f1 a0 a1 a2 a3 a4 a5 d0 d1 d2 d3 d4 d5 g1 g2 g3 gf
      obtain ⟨f0, f1, a0, a1, a2, a3, a4, a5, d0, d1, d2, d3, d4, d5, g1, g2, g3, gf⟩ := HIq.out.fact
      have HTn : Hid (Tl (L.drop (p + 1))) := Lib.hid (by rw [drop_tail]; exact HT.out.tail (by rw [hm.out]; decide))
      have HIa := Lib.hid (HIq.out.setK 2)
      have HIb := Lib.hid (HIa.out.next hbw)
      have HIc := Lib.hid (HIb.out.setBH)
      clear HIa HIb HIq
      go_wp2_with fail
      generalize hWwc : (((wk5.setCell ⟨w.heap.size + 1, 0, none⟩ (.int .i64 2)).setCell ⟨b, 1, none⟩ (.int .i64 (((p : Nat) : Int) + 1))).setCell ⟨w.heap.size + 1, 3, none⟩ (.string ⟨#[64]⟩)).setCell ⟨w.heap.size + 1, 4, none⟩ (.slice none 0 0) = wc at HIc ⊢
      clear hWwc f0 f1 a0 a1 a2 a3 a4 a5 d0 d1 d2 d3 d4 d5 g1 g2 g3 gf
      obtain ⟨f0, f1, a0, a1, a2, a3, a4, a5, d0, d1, d2, d3, d4, d5, g1, g2, g3, gf⟩ := HIc.out.fact
      obtain ⟨m5, hm5⟩ : ∃ m, Hid (kd (L.drop (p + 1)) = m) := ⟨_, Lib.hid rfl⟩
      have HK6 := Lib.hid (HIc.out.ds.kindB HTn.out.ne)
      rw [hm5.out] at HK6
      refine HK6.out.mono ?_
      rintro e wk6 ⟨rfl, hb⟩
      have HId := Lib.hid (HIc.out.ext hbw hb)
      clear hb HK6 f0 f1 a0 a1 a2 a3 a4 a5 d0 d1 d2 d3 d4 d5 g1 g2 g3 gf
      obtain ⟨f0, f1, a0, a1, a2, a3, a4, a5, d0, d1, d2, d3, d4, d5, g1, g2, g3, gf⟩ := HId.out.fact
      by_cases h51 : m5 = 1
      · subst h51
        go_wp2_with fail
        have HRv8 := Lib.hid (rrev_any b L (p + 1) nots _ HId.out.ds HTn.out hL)
        have hsz8 := HId.out.gr.size
        cases hst8 : Prs.rev (L.drop (p + 1)) with
        | error e0 =>
          have hD := Lib.hid (DPost.bad HRv8.out hst8)
          have HE : Hid (item nt (L.drop p) = .error e0) := Lib.hid (item_fromE H3.out Hr0.out (by rw [← drop_tail]; exact hst8))
          clear hst8 HRv8
          refine hD.out.mono ?_
          rintro e w8 ⟨v, p8, rfl, ⟨s8, ao8, an8, ac8, rfl⟩, hd8, ht8, hpl8, hg8⟩
          have HI8 := Lib.hid (HId.out.par hbw hg8 hd8)
          have HTe := Lib.hid ht8
          have HPl := Lib.hid (hpl8.trans rfl)
          clear hD hd8 ht8 hg8 hpl8 f0 f1 a0 a1 a2 a3 a4 a5 d0 d1 d2 d3 d4 d5 g1 g2 g3 gf
          obtain ⟨f0, f1, a0, a1, a2, a3, a4, a5, d0, d1, d2, d3, d4, d5, g1, g2, g3, gf⟩ := HI8.out.fact
          have HI9 := Lib.hid (HI8.out.setB s8 (.slice ao8 an8 ac8))
          have HB := Lib.hid (show Bk _ 98 w.heap.size from ⟨_, HI9.out.res⟩)
          go_wp2_with fail
          refine bodyPost_ret (v := .agg #[.int .i64 2, .string (bstr [64]), .slice none 0 0, .string (bstr s8), .slice ao8 an8 ac8, .bool nt]) ?_ rfl ?_
          · simp [results, Try.results46, go_sem, a0, a1, a2, a3, a4, a5]; try rfl
          · exact DPost.no HE.out (grown_set6 HI9.out.gr (Nat.le_refl _) _ _ _ _ _ _) ⟨⟨2, [64], (none, 0, 0), s8, (ao8, an8, ac8), nt⟩, rfl⟩ (HI9.out.ds.set6 HB.out _ _ _ _ _ _) HTe.out HPl.out
        | ok x =>
          obtain ⟨x8, r8⟩ := x
          have hD := Lib.hid (DPost.ok HRv8.out hst8)
          have HST8 := Lib.hid hst8
          clear hst8 HRv8
          refine hD.out.mono ?_
          rintro e w8 ⟨v, p8, rfl, ⟨ao8, an8, ac8, rfl, ho8⟩, hd8, hdr8, ht8, hg8⟩
          have HI8 := Lib.hid (HId.out.par hbw hg8 hd8)
          have HO8 : Hid (Own eSt 3 w.heap.size 118 w8 (.slice ao8 an8 ac8) x8.st) := Lib.hid (ho8.mono hsz8)
          have HTr8 := Lib.hid ht8
          have HDr8 := Lib.hid hdr8
          clear hD ho8 hd8 hdr8 ht8 hg8 f0 f1 a0 a1 a2 a3 a4 a5 d0 d1 d2 d3 d4 d5 g1 g2 g3 gf
          obtain ⟨f0, f1, a0, a1, a2, a3, a4, a5, d0, d1, d2, d3, d4, d5, g1, g2, g3, gf⟩ := HI8.out.fact
          have HI9 := Lib.hid (HI8.out.setB x8.b (.slice ao8 an8 ac8))
          have HP9 := Lib.hid (HI8.out.own2 HO8.out 3 4 (.string (bstr x8.b)) (.slice ao8 an8 ac8))
          have HE : Hid (item nt (L.drop p) = .ok (⟨2, here, x8, nt⟩, r8)) := Lib.hid (by rw [item_from H3.out Hr0.out (by rw [← drop_tail]; exact HST8.out), Hdk.out]; rfl)
          have HB := Lib.hid (show Bk _ 98 w.heap.size from ⟨_, HI9.out.res⟩)
          go_wp2_with fail
          refine bodyPost_ret (v := .agg #[.int .i64 2, .string (bstr [64]), .slice none 0 0, .string (bstr x8.b), .slice ao8 an8 ac8, .bool nt]) ?_ rfl ?_
          · simp [results, Try.results46, go_sem, a0, a1, a2, a3, a4, a5]; try rfl
          · exact DPost.is HE.out (grown_set6 HI9.out.gr (Nat.le_refl _) _ _ _ _ _ _) ⟨_, _, _, _, _, _, rfl, own_set6D (Own.nil _ _ _ _ _) HB.out _ _ _ _ _ _, own_set6D HP9.out HB.out _ _ _ _ _ _⟩ (HI9.out.ds.set6 HB.out _ _ _ _ _ _) HDr8.out HTr8.out
      · have m5b : ((m5 : Int) == 1) = false := by rw [beq_eq_false_iff_ne]; omega
        clear h51
        go_wp2_with fail
        have HRv8 := Lib.hid (rrev_any b L (p + 1) nots _ HId.out.ds HTn.out hL)
        have hsz8 := HId.out.gr.size
        cases hst8 : Prs.rev (L.drop (p + 1)) with
        | error e0 =>
          have hD := Lib.hid (DPost.bad HRv8.out hst8)
          have HE : Hid (item nt (L.drop p) = .error e0) := Lib.hid (item_fromE H3.out Hr0.out (by rw [← drop_tail]; exact hst8))
          clear hst8 HRv8
          refine hD.out.mono ?_
          rintro e w8 ⟨v, p8, rfl, ⟨s8, ao8, an8, ac8, rfl⟩, hd8, ht8, hpl8, hg8⟩
          have HI8 := Lib.hid (HId.out.par hbw hg8 hd8)
          have HTe := Lib.hid ht8
          have HPl := Lib.hid (hpl8.trans rfl)
          clear hD hd8 ht8 hg8 hpl8 f0 f1 a0 a1 a2 a3 a4 a5 d0 d1 d2 d3 d4 d5 g1 g2 g3 gf
          obtain ⟨f0, f1, a0, a1, a2, a3, a4, a5, d0, d1, d2, d3, d4, d5, g1, g2, g3, gf⟩ := HI8.out.fact
          have HI9 := Lib.hid (HI8.out.setB s8 (.slice ao8 an8 ac8))
          have HB := Lib.hid (show Bk _ 98 w.heap.size from ⟨_, HI9.out.res⟩)
          go_wp2_with fail
          refine bodyPost_ret (v := .agg #[.int .i64 2, .string (bstr [64]), .slice none 0 0, .string (bstr s8), .slice ao8 an8 ac8, .bool nt]) ?_ rfl ?_
          · simp [results, Try.results46, go_sem, a0, a1, a2, a3, a4, a5]; try rfl
          · exact DPost.no HE.out (grown_set6 HI9.out.gr (Nat.le_refl _) _ _ _ _ _ _) ⟨⟨2, [64], (none, 0, 0), s8, (ao8, an8, ac8), nt⟩, rfl⟩ (HI9.out.ds.set6 HB.out _ _ _ _ _ _) HTe.out HPl.out
        | ok x =>
          obtain ⟨x8, r8⟩ := x
          have hD := Lib.hid (DPost.ok HRv8.out hst8)
          have HST8 := Lib.hid hst8
          clear hst8 HRv8
          refine hD.out.mono ?_
          rintro e w8 ⟨v, p8, rfl, ⟨ao8, an8, ac8, rfl, ho8⟩, hd8, hdr8, ht8, hg8⟩
          have HI8 := Lib.hid (HId.out.par hbw hg8 hd8)
          have HO8 : Hid (Own eSt 3 w.heap.size 118 w8 (.slice ao8 an8 ac8) x8.st) := Lib.hid (ho8.mono hsz8)
          have HTr8 := Lib.hid ht8
          have HDr8 := Lib.hid hdr8
          clear hD ho8 hd8 hdr8 ht8 hg8 f0 f1 a0 a1 a2 a3 a4 a5 d0 d1 d2 d3 d4 d5 g1 g2 g3 gf
          obtain ⟨f0, f1, a0, a1, a2, a3, a4, a5, d0, d1, d2, d3, d4, d5, g1, g2, g3, gf⟩ := HI8.out.fact
          have HI9 := Lib.hid (HI8.out.setB x8.b (.slice ao8 an8 ac8))
          have HP9 := Lib.hid (HI8.out.own2 HO8.out 3 4 (.string (bstr x8.b)) (.slice ao8 an8 ac8))
          have HE : Hid (item nt (L.drop p) = .ok (⟨2, here, x8, nt⟩, r8)) := Lib.hid (by rw [item_from H3.out Hr0.out (by rw [← drop_tail]; exact HST8.out), Hdk.out]; rfl)
          have HB := Lib.hid (show Bk _ 98 w.heap.size from ⟨_, HI9.out.res⟩)
          go_wp2_with fail
          refine bodyPost_ret (v := .agg #[.int .i64 2, .string (bstr [64]), .slice none 0 0, .string (bstr x8.b), .slice ao8 an8 ac8, .bool nt]) ?_ rfl ?_
          · simp [results, Try.results46, go_sem, a0, a1, a2, a3, a4, a5]; try rfl
          · exact DPost.is HE.out (grown_set6 HI9.out.gr (Nat.le_refl _) _ _ _ _ _ _) ⟨_, _, _, _, _, _, rfl, own_set6D (Own.nil _ _ _ _ _) HB.out _ _ _ _ _ _, own_set6D HP9.out HB.out _ _ _ _ _ _⟩ (HI9.out.ds.set6 HB.out _ _ _ _ _ _) HDr8.out HTr8.out
    · have q5 : ((m : Int) != 5) = true := by rw [bne_iff_ne]; omega
      by_cases h6 : m = 6
      · subst h6
        clear h5
        have Hdk : Hid (Prs.dots (L.drop p) = 3) := Lib.hid (by rw [dots_of hm.out]; rfl)
        have Hr0 : Hid (Prs.dots (L.drop p) ≠ 0) := Lib.hid (by rw [Hdk.out]; decide)
        go_wp2_with fail
        have HK7 := Lib.hid (HI1.out.ds.kindB HT.out.ne)
        rw [hm.out] at HK7
        refine HK7.out.mono ?_
        rintro e wk7 ⟨rfl, hb⟩
        have HI2 := Lib.hid (HI1.out.ext hbw hb)
        clear hb HK7 f0 f1 a0 a1 a2 a3 a4 a5 d0 d1 d2 d3 d4 d5 g1 g2 g3 gf
        obtain ⟨f0, f1, a0, a1, a2, a3, a4, a5, d0, d1, d2, d3, d4, d5, g1, g2, g3, gf⟩ := HI2.out.fact
        go_wp2_with fail
        have HK8 := Lib.hid (HI2.out.ds.kindB HT.out.ne)
        rw [hm.out] at HK8
        refine HK8.out.mono ?_
        rintro e wk8 ⟨rfl, hb⟩
        have HI2b := Lib.hid (HI2.out.ext hbw hb)
        clear hb HK8 f0 f1 a0 a1 a2 a3 a4 a5 d0 d1 d2 d3 d4 d5 g1 g2 g3 gf
        obtain ⟨f0, f1, a0, a1, a2, a3, a4, a5, d0, d1, d2, d3, d4, d5, g1, g2, g3, gf⟩ := HI2b.out.fact
        have HI3 := Lib.hid (HI2b.out.setAH)
        go_wp2_with fail
        generalize hWwd : ((wk8.setCell ⟨w.heap.size + 1, 1, none⟩ (.string ⟨#[64]⟩)).setCell ⟨w.heap.size + 1, 2, none⟩ (.slice none 0 0)) = wd at HI3 ⊢
        clear hWwd f0 f1 a0 a1 a2 a3 a4 a5 d0 d1 d2 d3 d4 d5 g1 g2 g3 gf
        obtain ⟨f0, f1, a0, a1, a2, a3, a4, a5, d0, d1, d2, d3, d4, d5, g1, g2, g3, gf⟩ := HI3.out.fact
        have HK9 := Lib.hid (HI3.out.ds.kindB HT.out.ne)
        rw [hm.out] at HK9
        refine HK9.out.mono ?_
        rintro e wk9 ⟨rfl, hb⟩
        have HI4 := Lib.hid (HI3.out.ext hbw hb)
        clear hb HK9 f0 f1 a0 a1 a2 a3 a4 a5 d0 d1 d2 d3 d4 d5 g1 g2 g3 gf
        obtain ⟨f0, f1, a0, a1, a2, a3, a4, a5, d0, d1, d2, d3, d4, d5, g1, g2, g3, gf⟩ := HI4.out.fact
        go_wp2_with fail
        have HK10 := Lib.hid (HI4.out.ds.kindB HT.out.ne)
        rw [hm.out] at HK10
        refine HK10.out.mono ?_
        rintro e wk10 ⟨rfl, hb⟩
        have HI5 := Lib.hid (HI4.out.ext hbw hb)
        clear hb HK10 f0 f1 a0 a1 a2 a3 a4 a5 d0 d1 d2 d3 d4 d5 g1 g2 g3 gf
        obtain ⟨f0, f1, a0, a1, a2, a3, a4, a5, d0, d1, d2, d3, d4, d5, g1, g2, g3, gf⟩ := HI5.out.fact
        go_wp2_with fail
        have HK11 := Lib.hid (HI5.out.ds.kindB HT.out.ne)
        rw [hm.out] at HK11
        refine HK11.out.mono ?_
        rintro e wk11 ⟨rfl, hb⟩
        have HIq := Lib.hid (HI5.out.ext hbw hb)
        clear hb HK11 f0 f1 a0 a1 a2 a3 a4 a5 d0 d1 d2 d3 d4 d5 g1 g2 g3 gf
        obtain ⟨f0, f1, a0, a1, a2, a3, a4, a5, d0, d1, d2, d3, d4, d5, g1, g2, g3, gf⟩ := HIq.out.fact
        have HTn : Hid (Tl (L.drop (p + 1))) := Lib.hid (by rw [drop_tail]; exact HT.out.tail (by rw [hm.out]; decide))
        have HIa := Lib.hid (HIq.out.setK 3)
        have HIb := Lib.hid (HIa.out.next hbw)
        have HIc := Lib.hid (HIb.out.setBH)
        clear HIa HIb HIq
        go_wp2_with fail
        generalize hWwc : (((wk11.setCell ⟨w.heap.size + 1, 0, none⟩ (.int .i64 3)).setCell ⟨b, 1, none⟩ (.int .i64 (((p : Nat) : Int) + 1))).setCell ⟨w.heap.size + 1, 3, none⟩ (.string ⟨#[64]⟩)).setCell ⟨w.heap.size + 1, 4, none⟩ (.slice none 0 0) = wc at HIc ⊢
        clear hWwc f0 f1 a0 a1 a2 a3 a4 a5 d0 d1 d2 d3 d4 d5 g1 g2 g3 gf
        obtain ⟨f0, f1, a0, a1, a2, a3, a4, a5, d0, d1, d2, d3, d4, d5, g1, g2, g3, gf⟩ := HIc.out.fact
        obtain ⟨m5, hm5⟩ : ∃ m, Hid (kd (L.drop (p + 1)) = m) := ⟨_, Lib.hid rfl⟩
        have HK12 := Lib.hid (HIc.out.ds.kindB HTn.out.ne)
        rw [hm5.out] at HK12
        refine HK12.out.mono ?_
        rintro e wk12 ⟨rfl, hb⟩
        have HId := Lib.hid (HIc.out.ext hbw hb)
        clear hb HK12 f0 f1 a0 a1 a2 a3 a4 a5 d0 d1 d2 d3 d4 d5 g1 g2 g3 gf
        obtain ⟨f0, f1, a0, a1, a2, a3, a4, a5, d0, d1, d2, d3, d4, d5, g1, g2, g3, gf⟩ := HId.out.fact
        by_cases h51 : m5 = 1
        · subst h51
          go_wp2_with fail
          have HRv8 := Lib.hid (rrev_any b L (p + 1) nots _ HId.out.ds HTn.out hL)
          have hsz8 := HId.out.gr.size
          cases hst8 : Prs.rev (L.drop (p + 1)) with
          | error e0 =>
            have hD := Lib.hid (DPost.bad HRv8.out hst8)
            have HE : Hid (item nt (L.drop p) = .error e0) := Lib.hid (item_fromE H3.out Hr0.out (by rw [← drop_tail]; exact hst8))
            clear hst8 HRv8
            refine hD.out.mono ?_
            rintro e w8 ⟨v, p8, rfl, ⟨s8, ao8, an8, ac8, rfl⟩, hd8, ht8, hpl8, hg8⟩
            have HI8 := Lib.hid (HId.out.par hbw hg8 hd8)
            have HTe := Lib.hid ht8
            have HPl := Lib.hid (hpl8.trans rfl)
            clear hD hd8 ht8 hg8 hpl8 f0 f1 a0 a1 a2 a3 a4 a5 d0 d1 d2 d3 d4 d5 g1 g2 g3 gf
            obtain ⟨f0, f1, a0, a1, a2, a3, a4, a5, d0, d1, d2, d3, d4, d5, g1, g2, g3, gf⟩ := HI8.out.fact
            have HI9 := Lib.hid (HI8.out.setB s8 (.slice ao8 an8 ac8))
            have HB := Lib.hid (show Bk _ 98 w.heap.size from ⟨_, HI9.out.res⟩)
            go_wp2_with fail
            refine bodyPost_ret (v := .agg #[.int .i64 3, .string (bstr [64]), .slice none 0 0, .string (bstr s8), .slice ao8 an8 ac8, .bool nt]) ?_ rfl ?_
            · simp [results, Try.results46, go_sem, a0, a1, a2, a3, a4, a5]; try rfl
            · exact DPost.no HE.out (grown_set6 HI9.out.gr (Nat.le_refl _) _ _ _ _ _ _) ⟨⟨3, [64], (none, 0, 0), s8, (ao8, an8, ac8), nt⟩, rfl⟩ (HI9.out.ds.set6 HB.out _ _ _ _ _ _) HTe.out HPl.out
          | ok x =>
            obtain ⟨x8, r8⟩ := x
            have hD := Lib.hid (DPost.ok HRv8.out hst8)
            have HST8 := Lib.hid hst8
            clear hst8 HRv8
            refine hD.out.mono ?_
            rintro e w8 ⟨v, p8, rfl, ⟨ao8, an8, ac8, rfl, ho8⟩, hd8, hdr8, ht8, hg8⟩
            have HI8 := Lib.hid (HId.out.par hbw hg8 hd8)
            have HO8 : Hid (Own eSt 3 w.heap.size 118 w8 (.slice ao8 an8 ac8) x8.st) := Lib.hid (ho8.mono hsz8)
            have HTr8 := Lib.hid ht8
            have HDr8 := Lib.hid hdr8
            clear hD ho8 hd8 hdr8 ht8 hg8 f0 f1 a0 a1 a2 a3 a4 a5 d0 d1 d2 d3 d4 d5 g1 g2 g3 gf
            obtain ⟨f0, f1, a0, a1, a2, a3, a4, a5, d0, d1, d2, d3, d4, d5, g1, g2, g3, gf⟩ := HI8.out.fact
            have HI9 := Lib.hid (HI8.out.setB x8.b (.slice ao8 an8 ac8))
            have HP9 := Lib.hid (HI8.out.own2 HO8.out 3 4 (.string (bstr x8.b)) (.slice ao8 an8 ac8))
            have HE : Hid (item nt (L.drop p) = .ok (⟨3, here, x8, nt⟩, r8)) := Lib.hid (by rw [item_from H3.out Hr0.out (by rw [← drop_tail]; exact HST8.out), Hdk.out]; rfl)
            have HB := Lib.hid (show Bk _ 98 w.heap.size from ⟨_, HI9.out.res⟩)
            go_wp2_with fail
            refine bodyPost_ret (v := .agg #[.int .i64 3, .string (bstr [64]), .slice none 0 0, .string (bstr x8.b), .slice ao8 an8 ac8, .bool nt]) ?_ rfl ?_
            · simp [results, Try.results46, go_sem, a0, a1, a2, a3, a4, a5]; try rfl
            · exact DPost.is HE.out (grown_set6 HI9.out.gr (Nat.le_refl _) _ _ _ _ _ _) ⟨_, _, _, _, _, _, rfl, own_set6D (Own.nil _ _ _ _ _) HB.out _ _ _ _ _ _, own_set6D HP9.out HB.out _ _ _ _ _ _⟩ (HI9.out.ds.set6 HB.out _ _ _ _ _ _) HDr8.out HTr8.out
        · have m5b : ((m5 : Int) == 1) = false := by rw [beq_eq_false_iff_ne]; omega
          clear h51
          go_wp2_with fail
          have HRv8 := Lib.hid (rrev_any b L (p + 1) nots _ HId.out.ds HTn.out hL)
          have hsz8 := HId.out.gr.size
          cases hst8 : Prs.rev (L.drop (p + 1)) with
          | error e0 =>
            have hD := Lib.hid (DPost.bad HRv8.out hst8)
            have HE : Hid (item nt (L.drop p) = .error e0) := Lib.hid (item_fromE H3.out Hr0.out (by rw [← drop_tail]; exact hst8))
            clear hst8 HRv8
            refine hD.out.mono ?_
            rintro e w8 ⟨v, p8, rfl, ⟨s8, ao8, an8, ac8, rfl⟩, hd8, ht8, hpl8, hg8⟩
            have HI8 := Lib.hid (HId.out.par hbw hg8 hd8)
            have HTe := Lib.hid ht8
            have HPl := Lib.hid (hpl8.trans rfl)
            clear hD hd8 ht8 hg8 hpl8 f0 f1 a0 a1 a2 a3 a4 a5 d0 d1 d2 d3 d4 d5 g1 g2 g3 gf
            obtain ⟨f0, f1, a0, a1, a2, a3, a4, a5, d0, d1, d2, d3, d4, d5, g1, g2, g3, gf⟩ := HI8.out.fact
            have HI9 := Lib.hid (HI8.out.setB s8 (.slice ao8 an8 ac8))
            have HB := Lib.hid (show Bk _ 98 w.heap.size from ⟨_, HI9.out.res⟩)
            go_wp2_with fail
            refine bodyPost_ret (v := .agg #[.int .i64 3, .string (bstr [64]), .slice none 0 0, .string (bstr s8), .slice ao8 an8 ac8, .bool nt]) ?_ rfl ?_
            · simp [results, Try.results46, go_sem, a0, a1, a2, a3, a4, a5]; try rfl
            · exact DPost.no HE.out (grown_set6 HI9.out.gr (Nat.le_refl _) _ _ _ _ _ _) ⟨⟨3, [64], (none, 0, 0), s8, (ao8, an8, ac8), nt⟩, rfl⟩ (HI9.out.ds.set6 HB.out _ _ _ _ _ _) HTe.out HPl.out
          | ok x =>
            obtain ⟨x8, r8⟩ := x
            have hD := Lib.hid (DPost.ok HRv8.out hst8)
            have HST8 := Lib.hid hst8
            clear hst8 HRv8
            refine hD.out.mono ?_
            rintro e w8 ⟨v, p8, rfl, ⟨ao8, an8, ac8, rfl, ho8⟩, hd8, hdr8, ht8, hg8⟩
            have HI8 := Lib.hid (HId.out.par hbw hg8 hd8)
            have HO8 : Hid (Own eSt 3 w.heap.size 118 w8 (.slice ao8 an8 ac8) x8.st) := Lib.hid (ho8.mono hsz8)
            have HTr8 := Lib.hid ht8
            have HDr8 := Lib.hid hdr8
            clear hD ho8 hd8 hdr8 ht8 hg8 f0 f1 a0 a1 a2 a3 a4 a5 d0 d1 d2 d3 d4 d5 g1 g2 g3 gf
            obtain ⟨f0, f1, a0, a1, a2, a3, a4, a5, d0, d1, d2, d3, d4, d5, g1, g2, g3, gf⟩ := HI8.out.fact
            have HI9 := Lib.hid (HI8.out.setB x8.b (.slice ao8 an8 ac8))
            have HP9 := Lib.hid (HI8.out.own2 HO8.out 3 4 (.string (bstr x8.b)) (.slice ao8 an8 ac8))
            have HE : Hid (item nt (L.drop p) = .ok (⟨3, here, x8, nt⟩, r8)) := Lib.hid (by rw [item_from H3.out Hr0.out (by rw [← drop_tail]; exact HST8.out), Hdk.out]; rfl)
            have HB := Lib.hid (show Bk _ 98 w.heap.size from ⟨_, HI9.out.res⟩)
            go_wp2_with fail
            refine bodyPost_ret (v := .agg #[.int .i64 3, .string (bstr [64]), .slice none 0 0, .string (bstr x8.b), .slice ao8 an8 ac8, .bool nt]) ?_ rfl ?_
            · simp [results, Try.results46, go_sem, a0, a1, a2, a3, a4, a5]; try rfl
            · exact DPost.is HE.out (grown_set6 HI9.out.gr (Nat.le_refl _) _ _ _ _ _ _) ⟨_, _, _, _, _, _, rfl, own_set6D (Own.nil _ _ _ _ _) HB.out _ _ _ _ _ _, own_set6D HP9.out HB.out _ _ _ _ _ _⟩ (HI9.out.ds.set6 HB.out _ _ _ _ _ _) HDr8.out HTr8.out
      · have q6 : ((m : Int) != 6) = true := by rw [bne_iff_ne]; omega
        have Hd0 : Hid (Prs.dots (L.drop p) = 0) := Lib.hid (by rw [dots_of hm.out, if_neg h5, if_neg h6])
        clear h5 h6
        go_wp2_with fail
        have HK13 := Lib.hid (HI1.out.ds.kindB HT.out.ne)
        rw [hm.out] at HK13
        refine HK13.out.mono ?_
        rintro e wk13 ⟨rfl, hb⟩
        have HI2 := Lib.hid (HI1.out.ext hbw hb)
        clear hb HK13 f0 f1 a0 a1 a2 a3 a4 a5 d0 d1 d2 d3 d4 d5 g1 g2 g3 gf
        obtain ⟨f0, f1, a0, a1, a2, a3, a4, a5, d0, d1, d2, d3, d4, d5, g1, g2, g3, gf⟩ := HI2.out.fact
        go_wp2_with fail
        have HK14 := Lib.hid (HI2.out.ds.kindB HT.out.ne)
        rw [hm.out] at HK14
        refine HK14.out.mono ?_
        rintro e wk14 ⟨rfl, hb⟩
        have HI2b := Lib.hid (HI2.out.ext hbw hb)
        clear hb HK14 f0 f1 a0 a1 a2 a3 a4 a5 d0 d1 d2 d3 d4 d5 g1 g2 g3 gf
        obtain ⟨f0, f1, a0, a1, a2, a3, a4, a5, d0, d1, d2, d3, d4, d5, g1, g2, g3, gf⟩ := HI2b.out.fact
        have HI3 := Lib.hid (HI2b.out.setAH)
        go_wp2_with fail
        generalize hWwd : ((wk14.setCell ⟨w.heap.size + 1, 1, none⟩ (.string ⟨#[64]⟩)).setCell ⟨w.heap.size + 1, 2, none⟩ (.slice none 0 0)) = wd at HI3 ⊢
        clear hWwd f0 f1 a0 a1 a2 a3 a4 a5 d0 d1 d2 d3 d4 d5 g1 g2 g3 gf
        obtain ⟨f0, f1, a0, a1, a2, a3, a4, a5, d0, d1, d2, d3, d4, d5, g1, g2, g3, gf⟩ := HI3.out.fact
        have HRv4 := Lib.hid (rrev_any b L (p) nots _ HI3.out.ds HT.out hL)
        have hsz4 := HI3.out.gr.size
        cases hst4 : Prs.rev (L.drop (p)) with
        | error e0 =>
          have hD := Lib.hid (DPost.bad HRv4.out hst4)
          have HE : Hid (item nt (L.drop p) = .error e0) := Lib.hid (item_1E H3.out Hd0.out hst4)
          clear hst4 HRv4
          refine hD.out.mono ?_
          rintro e w4 ⟨v, p4, rfl, ⟨s4, ao4, an4, ac4, rfl⟩, hd4, ht4, hpl4, hg4⟩
          have HI4 := Lib.hid (HI3.out.par hbw hg4 hd4)
          have HTe := Lib.hid ht4
          have HPl := Lib.hid (hpl4.trans rfl)
          clear hD hd4 ht4 hg4 hpl4 f0 f1 a0 a1 a2 a3 a4 a5 d0 d1 d2 d3 d4 d5 g1 g2 g3 gf
          obtain ⟨f0, f1, a0, a1, a2, a3, a4, a5, d0, d1, d2, d3, d4, d5, g1, g2, g3, gf⟩ := HI4.out.fact
          have HI5 := Lib.hid (HI4.out.setA s4 (.slice ao4 an4 ac4))
          have HB := Lib.hid (show Bk _ 98 w.heap.size from ⟨_, HI5.out.res⟩)
          go_wp2_with fail
          refine bodyPost_ret (v := .agg #[.int .i64 1, .string (bstr s4), .slice ao4 an4 ac4, .string (bstr []), .slice none 0 0, .bool nt]) ?_ rfl ?_
          · simp [results, Try.results46, go_sem, a0, a1, a2, a3, a4, a5]; try rfl
          · exact DPost.no HE.out (grown_set6 HI5.out.gr (Nat.le_refl _) _ _ _ _ _ _) ⟨⟨1, s4, (ao4, an4, ac4), [], (none, 0, 0), nt⟩, rfl⟩ (HI5.out.ds.set6 HB.out _ _ _ _ _ _) HTe.out HPl.out
        | ok x =>
          obtain ⟨x4, r4⟩ := x
          have hD := Lib.hid (DPost.ok HRv4.out hst4)
          have HST4 := Lib.hid hst4
          clear hst4 HRv4
          refine hD.out.mono ?_
          rintro e w4 ⟨v, p4, rfl, ⟨ao4, an4, ac4, rfl, ho4⟩, hd4, hdr4, ht4, hg4⟩
          have HI4 := Lib.hid (HI3.out.par hbw hg4 hd4)
          have HO4 : Hid (Own eSt 3 w.heap.size 118 w4 (.slice ao4 an4 ac4) x4.st) := Lib.hid (ho4.mono hsz4)
          have HTr4 := Lib.hid ht4
          have HDr4 := Lib.hid hdr4
          clear hD ho4 hd4 hdr4 ht4 hg4 f0 f1 a0 a1 a2 a3 a4 a5 d0 d1 d2 d3 d4 d5 g1 g2 g3 gf
          obtain ⟨f0, f1, a0, a1, a2, a3, a4, a5, d0, d1, d2, d3, d4, d5, g1, g2, g3, gf⟩ := HI4.out.fact
          have HI5 := Lib.hid (HI4.out.setA x4.b (.slice ao4 an4 ac4))
          have HO5 := Lib.hid (HI4.out.own2 HO4.out 1 2 (.string (bstr x4.b)) (.slice ao4 an4 ac4))
          have HTp : Hid (Tl (L.drop p4)) := Lib.hid (by rw [HDr4.out]; exact HTr4.out)
          have hp4 := Tl.lt HTp.out
          obtain ⟨mr, hmr⟩ : ∃ m, Hid (kd (L.drop p4) = m) := ⟨_, Lib.hid rfl⟩
          go_wp2_with fail
          generalize hWwe : ((w4.setCell ⟨w.heap.size + 1, 1, none⟩ (.string (bstr x4.b))).setCell ⟨w.heap.size + 1, 2, none⟩ (.slice ao4 an4 ac4)) = we at HI5 HO5 ⊢
          clear hWwe f0 f1 a0 a1 a2 a3 a4 a5 d0 d1 d2 d3 d4 d5 g1 g2 g3 gf
          obtain ⟨f0, f1, a0, a1, a2, a3, a4, a5, d0, d1, d2, d3, d4, d5, g1, g2, g3, gf⟩ := HI5.out.fact
          have HK15 := Lib.hid (HI5.out.ds.kindB HTp.out.ne)
          rw [hmr.out] at HK15
          refine HK15.out.mono ?_
          rintro e wk15 ⟨rfl, hb⟩
          have HI6 := Lib.hid (HI5.out.ext hbw hb)
          have HO6 := Lib.hid (HO5.out.ext hb)
          clear hb HK15 f0 f1 a0 a1 a2 a3 a4 a5 d0 d1 d2 d3 d4 d5 g1 g2 g3 gf
          obtain ⟨f0, f1, a0, a1, a2, a3, a4, a5, d0, d1, d2, d3, d4, d5, g1, g2, g3, gf⟩ := HI6.out.fact
          by_cases hr5 : mr = 5
          · subst hr5
            have Hdk : Hid (Prs.dots r4 = 2) := Lib.hid (by rw [← HDr4.out, dots_of hmr.out]; rfl)
            have Hr0 : Hid (Prs.dots r4 ≠ 0) := Lib.hid (by rw [Hdk.out]; decide)
            go_wp2_with fail
            have HK16 := Lib.hid (HI6.out.ds.kindB HTp.out.ne)
            rw [hmr.out] at HK16
            refine HK16.out.mono ?_
            rintro e wk16 ⟨rfl, hb⟩
            have HIq := Lib.hid (HI6.out.ext hbw hb)
            have HOq := Lib.hid (HO6.out.ext hb)
            clear hb HK16 f0 f1 a0 a1 a2 a3 a4 a5 d0 d1 d2 d3 d4 d5 g1 g2 g3 gf
            obtain ⟨f0, f1, a0, a1, a2, a3, a4, a5, d0, d1, d2, d3, d4, d5, g1, g2, g3, gf⟩ := HIq.out.fact
            have HTn : Hid (Tl (L.drop (p4 + 1))) := Lib.hid (by rw [drop_tail]; exact HTp.out.tail (by rw [hmr.out]; decide))
            have HIa := Lib.hid (HIq.out.setK 2)
            have HIb := Lib.hid (HIa.out.next hbw)
            have HIc := Lib.hid (HIb.out.setBH)
            have HOa := Lib.hid (HIq.out.own HOq.out 0 (.int .i64 2))
            have HOb := Lib.hid (Own.set_bk HOa.out HIa.out.ds.bk (by decide) 1 (.int .i64 ((p4 : Nat) + 1 : Int)))
            have HOc := Lib.hid (HIb.out.own2 HOb.out 3 4 (.string ⟨#[64]⟩) (.slice none 0 0))
            clear HOa HOb HOq
            clear HIa HIb HIq
            go_wp2_with fail
            generalize hWwc : (((wk16.setCell ⟨w.heap.size + 1, 0, none⟩ (.int .i64 2)).setCell ⟨b, 1, none⟩ (.int .i64 (((p4 : Nat) : Int) + 1))).setCell ⟨w.heap.size + 1, 3, none⟩ (.string ⟨#[64]⟩)).setCell ⟨w.heap.size + 1, 4, none⟩ (.slice none 0 0) = wc at HIc HOc ⊢
            clear hWwc f0 f1 a0 a1 a2 a3 a4 a5 d0 d1 d2 d3 d4 d5 g1 g2 g3 gf
            obtain ⟨f0, f1, a0, a1, a2, a3, a4, a5, d0, d1, d2, d3, d4, d5, g1, g2, g3, gf⟩ := HIc.out.fact
            obtain ⟨m5, hm5⟩ : ∃ m, Hid (kd (L.drop (p4 + 1)) = m) := ⟨_, Lib.hid rfl⟩
            have HK17 := Lib.hid (HIc.out.ds.kindB HTn.out.ne)
            rw [hm5.out] at HK17
            refine HK17.out.mono ?_
            rintro e wk17 ⟨rfl, hb⟩
            have HId := Lib.hid (HIc.out.ext hbw hb)
            have HOd := Lib.hid (HOc.out.ext hb)
            clear hb HK17 f0 f1 a0 a1 a2 a3 a4 a5 d0 d1 d2 d3 d4 d5 g1 g2 g3 gf
            obtain ⟨f0, f1, a0, a1, a2, a3, a4, a5, d0, d1, d2, d3, d4, d5, g1, g2, g3, gf⟩ := HId.out.fact
            by_cases h51 : m5 = 1
            · subst h51
              go_wp2_with fail
              have HRv8 := Lib.hid (rrev_any b L (p4 + 1) nots _ HId.out.ds HTn.out hL)
              have hsz8 := HId.out.gr.size
              cases hst8 : Prs.rev (L.drop (p4 + 1)) with
              | error e0 =>
                have hD := Lib.hid (DPost.bad HRv8.out hst8)
                have HE : Hid (item nt (L.drop p) = .error e0) := Lib.hid (item_twoE H3.out Hd0.out HST4.out Hr0.out (by rw [← HDr4.out, ← drop_tail]; exact hm5.out) (by rw [← HDr4.out, ← drop_tail]; exact hst8))
                clear hst8 HRv8
                refine hD.out.mono ?_
                rintro e w8 ⟨v, p8, rfl, ⟨s8, ao8, an8, ac8, rfl⟩, hd8, ht8, hpl8, hg8⟩
                have HI8 := Lib.hid (HId.out.par hbw hg8 hd8)
                have HTe := Lib.hid ht8
                have HPl := Lib.hid (hpl8.trans rfl)
                clear hD hd8 ht8 hg8 hpl8 f0 f1 a0 a1 a2 a3 a4 a5 d0 d1 d2 d3 d4 d5 g1 g2 g3 gf
                obtain ⟨f0, f1, a0, a1, a2, a3, a4, a5, d0, d1, d2, d3, d4, d5, g1, g2, g3, gf⟩ := HI8.out.fact
                have HI9 := Lib.hid (HI8.out.setB s8 (.slice ao8 an8 ac8))
                have HB := Lib.hid (show Bk _ 98 w.heap.size from ⟨_, HI9.out.res⟩)
                go_wp2_with fail
                refine bodyPost_ret (v := .agg #[.int .i64 2, .string (bstr x4.b), .slice ao4 an4 ac4, .string (bstr s8), .slice ao8 an8 ac8, .bool nt]) ?_ rfl ?_
                · simp [results, Try.results46, go_sem, a0, a1, a2, a3, a4, a5]; try rfl
                · exact DPost.no HE.out (grown_set6 HI9.out.gr (Nat.le_refl _) _ _ _ _ _ _) ⟨⟨2, x4.b, (ao4, an4, ac4), s8, (ao8, an8, ac8), nt⟩, rfl⟩ (HI9.out.ds.set6 HB.out _ _ _ _ _ _) HTe.out HPl.out
              | ok x =>
                obtain ⟨x8, r8⟩ := x
                have hD := Lib.hid (DPost.ok HRv8.out hst8)
                have HST8 := Lib.hid hst8
                clear hst8 HRv8
                refine hD.out.mono ?_
                rintro e w8 ⟨v, p8, rfl, ⟨ao8, an8, ac8, rfl, ho8⟩, hd8, hdr8, ht8, hg8⟩
                have HI8 := Lib.hid (HId.out.par hbw hg8 hd8)
                have HO8 : Hid (Own eSt 3 w.heap.size 118 w8 (.slice ao8 an8 ac8) x8.st) := Lib.hid (ho8.mono hsz8)
                have HOk := Lib.hid (HId.out.ownp hg8 HOd.out)
                have HTr8 := Lib.hid ht8
                have HDr8 := Lib.hid hdr8
                clear hD ho8 hd8 hdr8 ht8 hg8 f0 f1 a0 a1 a2 a3 a4 a5 d0 d1 d2 d3 d4 d5 g1 g2 g3 gf
                obtain ⟨f0, f1, a0, a1, a2, a3, a4, a5, d0, d1, d2, d3, d4, d5, g1, g2, g3, gf⟩ := HI8.out.fact
                have HI9 := Lib.hid (HI8.out.setB x8.b (.slice ao8 an8 ac8))
                have HP9 := Lib.hid (HI8.out.own2 HO8.out 3 4 (.string (bstr x8.b)) (.slice ao8 an8 ac8))
                have HO9 := Lib.hid (HI8.out.own2 HOk.out 3 4 (.string (bstr x8.b)) (.slice ao8 an8 ac8))
                have HE : Hid (item nt (L.drop p) = .ok (⟨2, x4, x8, nt⟩, r8)) := Lib.hid (by rw [item_two H3.out Hd0.out HST4.out Hr0.out (by rw [← HDr4.out, ← drop_tail]; exact hm5.out) (by rw [← HDr4.out, ← drop_tail]; exact HST8.out), Hdk.out]; rfl)
                have HB := Lib.hid (show Bk _ 98 w.heap.size from ⟨_, HI9.out.res⟩)
                go_wp2_with fail
                refine bodyPost_ret (v := .agg #[.int .i64 2, .string (bstr x4.b), .slice ao4 an4 ac4, .string (bstr x8.b), .slice ao8 an8 ac8, .bool nt]) ?_ rfl ?_
                · simp [results, Try.results46, go_sem, a0, a1, a2, a3, a4, a5]; try rfl
                · exact DPost.is HE.out (grown_set6 HI9.out.gr (Nat.le_refl _) _ _ _ _ _ _) ⟨_, _, _, _, _, _, rfl, own_set6D HO9.out HB.out _ _ _ _ _ _, own_set6D HP9.out HB.out _ _ _ _ _ _⟩ (HI9.out.ds.set6 HB.out _ _ _ _ _ _) HDr8.out HTr8.out
            · have m5b : ((m5 : Int) == 1) = false := by rw [beq_eq_false_iff_ne]; omega
              have HE : Hid (item nt (L.drop p) = .ok (⟨2, x4, here, nt⟩, L.drop (p4 + 1))) := Lib.hid (by rw [item_twoH H3.out Hd0.out HST4.out Hr0.out (by rw [← HDr4.out, ← drop_tail, hm5.out]; exact h51), Hdk.out, ← HDr4.out, ← drop_tail]; rfl)
              clear h51
              have HB := Lib.hid (show Bk _ 98 w.heap.size from ⟨_, HId.out.res⟩)
              go_wp2_with fail
              refine bodyPost_ret (v := .agg #[.int .i64 2, .string (bstr x4.b), .slice ao4 an4 ac4, .string (bstr [64]), .slice none 0 0, .bool nt]) ?_ rfl ?_
              · simp [results, Try.results46, go_sem, a0, a1, a2, a3, a4, a5]; try rfl
              · exact DPost.is HE.out (grown_set6 HId.out.gr (Nat.le_refl _) _ _ _ _ _ _) ⟨_, _, _, _, _, _, rfl, own_set6D HOd.out HB.out _ _ _ _ _ _, own_set6D (Own.nil _ _ _ _ _) HB.out _ _ _ _ _ _⟩ (HId.out.ds.set6 HB.out _ _ _ _ _ _) rfl HTn.out
          · have r5 : ((mr : Int) != 5) = true := by rw [bne_iff_ne]; omega
            by_cases hr6 : mr = 6
            · subst hr6
              clear hr5
              have Hdk : Hid (Prs.dots r4 = 3) := Lib.hid (by rw [← HDr4.out, dots_of hmr.out]; rfl)
              have Hr0 : Hid (Prs.dots r4 ≠ 0) := Lib.hid (by rw [Hdk.out]; decide)
              go_wp2_with fail
              have HK18 := Lib.hid (HI6.out.ds.kindB HTp.out.ne)
              rw [hmr.out] at HK18
              refine HK18.out.mono ?_
              rintro e wk18 ⟨rfl, hb⟩
              have HI7 := Lib.hid (HI6.out.ext hbw hb)
              have HO7 := Lib.hid (HO6.out.ext hb)
              clear hb HK18 f0 f1 a0 a1 a2 a3 a4 a5 d0 d1 d2 d3 d4 d5 g1 g2 g3 gf
              obtain ⟨f0, f1, a0, a1, a2, a3, a4, a5, d0, d1, d2, d3, d4, d5, g1, g2, g3, gf⟩ := HI7.out.fact
              go_wp2_with fail
              have HK19 := Lib.hid (HI7.out.ds.kindB HTp.out.ne)
              rw [hmr.out] at HK19
              refine HK19.out.mono ?_
              rintro e wk19 ⟨rfl, hb⟩
              have HIq := Lib.hid (HI7.out.ext hbw hb)
              have HOq := Lib.hid (HO7.out.ext hb)
              clear hb HK19 f0 f1 a0 a1 a2 a3 a4 a5 d0 d1 d2 d3 d4 d5 g1 g2 g3 gf
              obtain ⟨f0, f1, a0, a1, a2, a3, a4, a5, d0, d1, d2, d3, d4, d5, g1, g2, g3, gf⟩ := HIq.out.fact
              have HTn : Hid (Tl (L.drop (p4 + 1))) := Lib.hid (by rw [drop_tail]; exact HTp.out.tail (by rw [hmr.out]; decide))
              have HIa := Lib.hid (HIq.out.setK 3)
              have HIb := Lib.hid (HIa.out.next hbw)
              have HIc := Lib.hid (HIb.out.setBH)
              have HOa := Lib.hid (HIq.out.own HOq.out 0 (.int .i64 3))
              have HOb := Lib.hid (Own.set_bk HOa.out HIa.out.ds.bk (by decide) 1 (.int .i64 ((p4 : Nat) + 1 : Int)))
              have HOc := Lib.hid (HIb.out.own2 HOb.out 3 4 (.string ⟨#[64]⟩) (.slice none 0 0))
              clear HOa HOb HOq
              clear HIa HIb HIq
              go_wp2_with fail
              generalize hWwc : (((wk19.setCell ⟨w.heap.size + 1, 0, none⟩ (.int .i64 3)).setCell ⟨b, 1, none⟩ (.int .i64 (((p4 : Nat) : Int) + 1))).setCell ⟨w.heap.size + 1, 3, none⟩ (.string ⟨#[64]⟩)).setCell ⟨w.heap.size + 1, 4, none⟩ (.slice none 0 0) = wc at HIc HOc ⊢
              clear hWwc f0 f1 a0 a1 a2 a3 a4 a5 d0 d1 d2 d3 d4 d5 g1 g2 g3 gf
              obtain ⟨f0, f1, a0, a1, a2, a3, a4, a5, d0, d1, d2, d3, d4, d5, g1, g2, g3, gf⟩ := HIc.out.fact
              obtain ⟨m5, hm5⟩ : ∃ m, Hid (kd (L.drop (p4 + 1)) = m) := ⟨_, Lib.hid rfl⟩
              have HK20 := Lib.hid (HIc.out.ds.kindB HTn.out.ne)
              rw [hm5.out] at HK20
              refine HK20.out.mono ?_
              rintro e wk20 ⟨rfl, hb⟩
              have HId := Lib.hid (HIc.out.ext hbw hb)
              have HOd := Lib.hid (HOc.out.ext hb)
              clear hb HK20 f0 f1 a0 a1 a2 a3 a4 a5 d0 d1 d2 d3 d4 d5 g1 g2 g3 gf
              obtain ⟨f0, f1, a0, a1, a2, a3, a4, a5, d0, d1, d2, d3, d4, d5, g1, g2, g3, gf⟩ := HId.out.fact
              by_cases h51 : m5 = 1
              · subst h51
                go_wp2_with fail
                have HRv8 := Lib.hid (rrev_any b L (p4 + 1) nots _ HId.out.ds HTn.out hL)
                have hsz8 := HId.out.gr.size
                cases hst8 : Prs.rev (L.drop (p4 + 1)) with
                | error e0 =>
                  have hD := Lib.hid (DPost.bad HRv8.out hst8)
                  have HE : Hid (item nt (L.drop p) = .error e0) := Lib.hid (item_twoE H3.out Hd0.out HST4.out Hr0.out (by rw [← HDr4.out, ← drop_tail]; exact hm5.out) (by rw [← HDr4.out, ← drop_tail]; exact hst8))
                  clear hst8 HRv8
                  refine hD.out.mono ?_
                  rintro e w8 ⟨v, p8, rfl, ⟨s8, ao8, an8, ac8, rfl⟩, hd8, ht8, hpl8, hg8⟩
                  have HI8 := Lib.hid (HId.out.par hbw hg8 hd8)
                  have HTe := Lib.hid ht8
                  have HPl := Lib.hid (hpl8.trans rfl)
                  clear hD hd8 ht8 hg8 hpl8 f0 f1 a0 a1 a2 a3 a4 a5 d0 d1 d2 d3 d4 d5 g1 g2 g3 gf
                  obtain ⟨f0, f1, a0, a1, a2, a3, a4, a5, d0, d1, d2, d3, d4, d5, g1, g2, g3, gf⟩ := HI8.out.fact
                  have HI9 := Lib.hid (HI8.out.setB s8 (.slice ao8 an8 ac8))
                  have HB := Lib.hid (show Bk _ 98 w.heap.size from ⟨_, HI9.out.res⟩)
                  go_wp2_with fail
                  refine bodyPost_ret (v := .agg #[.int .i64 3, .string (bstr x4.b), .slice ao4 an4 ac4, .string (bstr s8), .slice ao8 an8 ac8, .bool nt]) ?_ rfl ?_
                  · simp [results, Try.results46, go_sem, a0, a1, a2, a3, a4, a5]; try rfl
                  · exact DPost.no HE.out (grown_set6 HI9.out.gr (Nat.le_refl _) _ _ _ _ _ _) ⟨⟨3, x4.b, (ao4, an4, ac4), s8, (ao8, an8, ac8), nt⟩, rfl⟩ (HI9.out.ds.set6 HB.out _ _ _ _ _ _) HTe.out HPl.out
                | ok x =>
                  obtain ⟨x8, r8⟩ := x
                  have hD := Lib.hid (DPost.ok HRv8.out hst8)
                  have HST8 := Lib.hid hst8
                  clear hst8 HRv8
                  refine hD.out.mono ?_
                  rintro e w8 ⟨v, p8, rfl, ⟨ao8, an8, ac8, rfl, ho8⟩, hd8, hdr8, ht8, hg8⟩
                  have HI8 := Lib.hid (HId.out.par hbw hg8 hd8)
                  have HO8 : Hid (Own eSt 3 w.heap.size 118 w8 (.slice ao8 an8 ac8) x8.st) := Lib.hid (ho8.mono hsz8)
                  have HOk := Lib.hid (HId.out.ownp hg8 HOd.out)
                  have HTr8 := Lib.hid ht8
                  have HDr8 := Lib.hid hdr8
                  clear hD ho8 hd8 hdr8 ht8 hg8 f0 f1 a0 a1 a2 a3 a4 a5 d0 d1 d2 d3 d4 d5 g1 g2 g3 gf
                  obtain ⟨f0, f1, a0, a1, a2, a3, a4, a5, d0, d1, d2, d3, d4, d5, g1, g2, g3, gf⟩ := HI8.out.fact
                  have HI9 := Lib.hid (HI8.out.setB x8.b (.slice ao8 an8 ac8))
                  have HP9 := Lib.hid (HI8.out.own2 HO8.out 3 4 (.string (bstr x8.b)) (.slice ao8 an8 ac8))
                  have HO9 := Lib.hid (HI8.out.own2 HOk.out 3 4 (.string (bstr x8.b)) (.slice ao8 an8 ac8))
                  have HE : Hid (item nt (L.drop p) = .ok (⟨3, x4, x8, nt⟩, r8)) := Lib.hid (by rw [item_two H3.out Hd0.out HST4.out Hr0.out (by rw [← HDr4.out, ← drop_tail]; exact hm5.out) (by rw [← HDr4.out, ← drop_tail]; exact HST8.out), Hdk.out]; rfl)
                  have HB := Lib.hid (show Bk _ 98 w.heap.size from ⟨_, HI9.out.res⟩)
                  go_wp2_with fail
                  refine bodyPost_ret (v := .agg #[.int .i64 3, .string (bstr x4.b), .slice ao4 an4 ac4, .string (bstr x8.b), .slice ao8 an8 ac8, .bool nt]) ?_ rfl ?_
                  · simp [results, Try.results46, go_sem, a0, a1, a2, a3, a4, a5]; try rfl
                  · exact DPost.is HE.out (grown_set6 HI9.out.gr (Nat.le_refl _) _ _ _ _ _ _) ⟨_, _, _, _, _, _, rfl, own_set6D HO9.out HB.out _ _ _ _ _ _, own_set6D HP9.out HB.out _ _ _ _ _ _⟩ (HI9.out.ds.set6 HB.out _ _ _ _ _ _) HDr8.out HTr8.out
              · have m5b : ((m5 : Int) == 1) = false := by rw [beq_eq_false_iff_ne]; omega
                have HE : Hid (item nt (L.drop p) = .ok (⟨3, x4, here, nt⟩, L.drop (p4 + 1))) := Lib.hid (by rw [item_twoH H3.out Hd0.out HST4.out Hr0.out (by rw [← HDr4.out, ← drop_tail, hm5.out]; exact h51), Hdk.out, ← HDr4.out, ← drop_tail]; rfl)
                clear h51
                have HB := Lib.hid (show Bk _ 98 w.heap.size from ⟨_, HId.out.res⟩)
                go_wp2_with fail
                refine bodyPost_ret (v := .agg #[.int .i64 3, .string (bstr x4.b), .slice ao4 an4 ac4, .string (bstr [64]), .slice none 0 0, .bool nt]) ?_ rfl ?_
                · simp [results, Try.results46, go_sem, a0, a1, a2, a3, a4, a5]; try rfl
                · exact DPost.is HE.out (grown_set6 HId.out.gr (Nat.le_refl _) _ _ _ _ _ _) ⟨_, _, _, _, _, _, rfl, own_set6D HOd.out HB.out _ _ _ _ _ _, own_set6D (Own.nil _ _ _ _ _) HB.out _ _ _ _ _ _⟩ (HId.out.ds.set6 HB.out _ _ _ _ _ _) rfl HTn.out
            · have r6 : ((mr : Int) != 6) = true := by rw [bne_iff_ne]; omega
              have HE : Hid (item nt (L.drop p) = .ok (⟨1, x4, zRv, nt⟩, r4)) := Lib.hid (item_one H3.out Hd0.out HST4.out (by rw [← HDr4.out, dots_of hmr.out, if_neg hr5, if_neg hr6]))
              clear hr5 hr6
              go_wp2_with fail
              have HK21 := Lib.hid (HI6.out.ds.kindB HTp.out.ne)
              rw [hmr.out] at HK21
              refine HK21.out.mono ?_
              rintro e wk21 ⟨rfl, hb⟩
              have HI7 := Lib.hid (HI6.out.ext hbw hb)
              have HO7 := Lib.hid (HO6.out.ext hb)
              clear hb HK21 f0 f1 a0 a1 a2 a3 a4 a5 d0 d1 d2 d3 d4 d5 g1 g2 g3 gf
              obtain ⟨f0, f1, a0, a1, a2, a3, a4, a5, d0, d1, d2, d3, d4, d5, g1, g2, g3, gf⟩ := HI7.out.fact
              have HB := Lib.hid (show Bk _ 98 w.heap.size from ⟨_, HI7.out.res⟩)
              go_wp2_with fail
              refine bodyPost_ret (v := .agg #[.int .i64 1, .string (bstr x4.b), .slice ao4 an4 ac4, .string (bstr []), .slice none 0 0, .bool nt]) ?_ rfl ?_
              · simp [results, Try.results46, go_sem, a0, a1, a2, a3, a4, a5]; try rfl
              · exact DPost.is HE.out (grown_set6 HI7.out.gr (Nat.le_refl _) _ _ _ _ _ _) ⟨_, _, _, _, _, _, rfl, own_set6D HO7.out HB.out _ _ _ _ _ _, own_set6D (Own.nil _ _ _ _ _) HB.out _ _ _ _ _ _⟩ (HI7.out.ds.set6 HB.out _ _ _ _ _ _) HDr4.out HTr4.out
end Go.Proofs.Ytolahnnkdpbdfaa
