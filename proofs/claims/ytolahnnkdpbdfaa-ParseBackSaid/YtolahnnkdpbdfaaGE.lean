/-
  Layer 28: the document's parser as it lies; its kind. No condition besides what lies where.
  Layer 28: the document's count. No condition besides what lies where.
  Layer 28: what stands while the document's parser reads a commit. No condition besides what lies where.
  Layer 28: a commit that must follow, the document's walk. No condition besides what lies where.
-/
import Derived.Test.YtolahnnkdpbdfaaGD
import Derived.BigQuiet
import Derived.Deep.QuietTactic
import Derived.IntWalk
namespace Go.Proofs.Ytolahnnkdpbdfaa
open Go.Proofs Go.RowKit Go.Shelf Go.Sl Go.Prs
/-- the document's parser: all tokens, the place among them, the mark, how many flags turned -/
structure Ds (b : Nat) (w : World) (L : List Lex.Tok) (p : Nat) (bad : Bool) (nots : Nat) : Prop where
  ex : ∃ lv, w.heap[b]? = some (.cells #[lv, .int .i64 (p : Nat), .bool bad, .int .i64 (nots : Nat)] 92 (0, 0)) ∧ Sl eTok 3 w lv L ∧ (∀ k, lv.ownBlock = some k → Bk w 38 k)
theorem Ds.bk {b : Nat} {w : World} {L : List Lex.Tok} {p : Nat} {bad : Bool} {nots : Nat} (h : Ds b w L p bad nots) : Bk w 92 b := by
  obtain ⟨lv, h1, _⟩ := h.ex
  exact ⟨_, h1⟩
theorem Ds.lt {b : Nat} {w : World} {L : List Lex.Tok} {p : Nat} {bad : Bool} {nots : Nat} (h : Ds b w L p bad nots) : b < w.heap.size := h.bk.lt
theorem Ds.kept {b : Nat} {w w' : World} {L : List Lex.Tok} {p : Nat} {bad : Bool} {nots : Nat} (h : Ds b w L p bad nots) {row : Option Nat} (hg : w.grownBy w' row) (hne : ∀ g, Bk w 92 g ∨ Bk w 38 g → row ≠ some g) : Ds b w' L p bad nots := by
  obtain ⟨lv, h1, h2, h3⟩ := h.ex
  refine ⟨lv, grown_heap hg h1 (hne _ (.inl h.bk)), ?_, ?_⟩
  · obtain ⟨ao, cap, rfl, g1, g2, g3, g4⟩ := h2.shp
    refine ⟨ao, cap, rfl, g1, g2, g3, ?_⟩
    rcases g4 with g4 | ⟨c, off, rfl, hc, hcell⟩
    · exact .inl g4
    · refine .inr ⟨c, off, rfl, Nat.lt_of_lt_of_le hc hg.size, fun k hk j hj => ?_⟩
      rw [World.cell?_of_block (a := ⟨c, off + k * 3 + j, none⟩) (hg.block c hc (fun e => hne c (.inr (h3 c rfl)) e.symm))]
      exact hcell k hk j hj
  · intro k hk
    obtain ⟨c, hc⟩ := h3 k hk
    exact ⟨c, grown_heap hg hc (hne _ (.inr (h3 k hk)))⟩
theorem Ds.ext {b : Nat} {w w' : World} {L : List Lex.Tok} {p : Nat} {bad : Bool} {nots : Nat} (h : Ds b w L p bad nots) (hb : Below w.heap.size w w') : Ds b w' L p bad nots :=
  h.kept (row := none) ⟨hb.os, hb.tape, hb.output, hb.size, fun k hk _ => hb.block k hk⟩ (by simp)
theorem Ds.alloc {b : Nat} {w : World} {L : List Lex.Tok} {p : Nat} {bad : Bool} {nots : Nat} (h : Ds b w L p bad nots) (o : Obj) : Ds b (w.alloc o) L p bad nots := h.ext ((Below.refl _ _).alloc (Nat.le_refl _) _)
theorem Ds.drew {b : Nat} {w : World} {L : List Lex.Tok} {p : Nat} {bad : Bool} {nots : Nat} (h : Ds b w L p bad nots) : Ds b w.drew L p bad nots := h.ext (Below.refl _ _).drew
theorem Ds.set {b : Nat} {w : World} {L : List Lex.Tok} {p : Nat} {bad : Bool} {nots : Nat} (h : Ds b w L p bad nots) {g : Nat} {e : TypeId} (hk : Bk w e g) (h1 : (92 : TypeId) ≠ e) (h2 : (38 : TypeId) ≠ e) (o : Nat) (v : Value) : Ds b (w.setCell ⟨g, o, none⟩ v) L p bad nots := by
  refine h.kept (grown_set w ⟨g, o, none⟩ v) ?_
  rintro k (hg | hg)
  · exact fun e1 => hg.ne hk h1 (Option.some.inj e1).symm
  · exact fun e1 => hg.ne hk h2 (Option.some.inj e1).symm
theorem Ds.own {α : Type} {en : α → List Value} {s base : Nat} {e : TypeId} {v : Value} {x : List α} {b : Nat} {w w' : World} {L : List Lex.Tok} {p : Nat} {bad : Bool} {nots : Nat} (h : Ds b w L p bad nots) (ho : Own en s base e w v x) (hg : w.grownBy w' v.ownBlock) (h1 : (92 : TypeId) ≠ e) (h2 : (38 : TypeId) ≠ e) : Ds b w' L p bad nots := by
  refine h.kept hg ?_
  rintro g (⟨c, hc⟩ | ⟨c, hc⟩)
  · exact ho.ne_elem hc h1
  · exact ho.ne_elem hc h2
/-- its own cells are written -/
theorem Ds.put {b : Nat} {w : World} {L : List Lex.Tok} {p : Nat} {bad : Bool} {nots : Nat} (h : Ds b w L p bad nots) {p' : Nat} {bad' : Bool} {nots' : Nat} {o : Nat} {v : Value} (hv : ∀ lv : Value, (#[lv, .int .i64 (p : Nat), .bool bad, .int .i64 (nots : Nat)] : Array Value).setIfInBounds o v = #[lv, .int .i64 (p' : Nat), .bool bad', .int .i64 (nots' : Nat)]) : Ds b (w.setCell ⟨b, o, none⟩ v) L p' bad' nots' := by
  have hbk := h.bk
  obtain ⟨lv, h1, h2, h3⟩ := h.ex
  refine ⟨lv, ?_, ?_, ?_⟩
  · rw [heap_setCell_same _ _ _ _ _ _ h1, hv]
  · exact Sl_grown h2 (fun e => (h3 _ e).ne hbk (by decide) rfl) (grown_set w ⟨b, o, none⟩ v)
  · exact fun j hj => (h3 j hj).set _ _ _
theorem Ds.at_ {b : Nat} {w : World} {L : List Lex.Tok} {p : Nat} {bad : Bool} {nots : Nat} (h : Ds b w L p bad nots) (p' : Nat) : Ds b (w.setCell ⟨b, 1, none⟩ (.int .i64 (p' : Nat))) L p' bad nots := h.put fun _ => rfl
theorem Ds.bad {b : Nat} {w : World} {L : List Lex.Tok} {p : Nat} {bad : Bool} {nots : Nat} (h : Ds b w L p bad nots) : Ds b (w.setCell ⟨b, 2, none⟩ (.bool true)) L p true nots := h.put fun _ => rfl
theorem Ds.nots {b : Nat} {w : World} {L : List Lex.Tok} {p : Nat} {bad : Bool} {nots : Nat} (h : Ds b w L p bad nots) (n : Nat) : Ds b (w.setCell ⟨b, 3, none⟩ (.int .i64 (n : Nat))) L p bad n := h.put fun _ => rfl
theorem Ds.fact {b : Nat} {w : World} {L : List Lex.Tok} {p : Nat} {bad : Bool} {nots : Nat} (h : Ds b w L p bad nots) (hl : L.drop p ≠ []) : ∃ lv b5 o5, w.cell? ⟨b, 0, none⟩ = some lv ∧ w.cell? ⟨b, 1, none⟩ = some (.int .i64 (p : Nat)) ∧ w.cell? ⟨b, 2, none⟩ = some (.bool bad) ∧ w.cell? ⟨b, 3, none⟩ = some (.int .i64 (nots : Nat)) ∧ (∀ o, w.frozen? ⟨b, o, none⟩ = false) ∧
    b5 < w.heap.size ∧ (∀ (ik : IntKind) (u : World), (Instr.indexAt 27 lv (.int ik (p : Nat))).run Try.prog u = .ok (.pointer (some ⟨b5, o5, none⟩)) u) ∧ w.cell? ⟨b5, o5, none⟩ = some (.int .i64 (kd (L.drop p) : Nat)) ∧ w.cell? ⟨b5, o5 + 1, none⟩ = some (.string (bstr (tx (L.drop p)))) ∧ w.cell? ⟨b5, o5 + 2, none⟩ = some (.int .i64 (pl (L.drop p) : Nat)) := by
  have hbk := h.bk
  obtain ⟨lv, h1, h2, _⟩ := h.ex
  have hp : p < L.length := by
    rcases Nat.lt_or_ge p L.length with h | h
    · exact h
    · exact absurd (List.drop_eq_nil_of_le h) hl
  obtain ⟨b5, o5, h5, hix, hc⟩ := h2.at (P := Try.prog) Try.underlying27 cells38 some38 (k := p) hp
  have hd := List.drop_eq_getElem_cons hp
  refine ⟨lv, b5, o5, by simp [World.cell?, h1], by simp [World.cell?, h1], by simp [World.cell?, h1], by simp [World.cell?, h1], bk_frozen hbk, h5, hix, ?_, ?_, ?_⟩
  · rw [hd]; exact hc 0 (by omega)
  · rw [hd]; exact hc 1 (by omega)
  · rw [hd]; exact hc 2 (by omega)
theorem Ds.kind {b : Nat} {w : World} {L : List Lex.Tok} {p : Nat} {bad : Bool} {nots : Nat} (h : Ds b w L p bad nots) (hl : L.drop p ≠ []) : Calls Try.prog 44 #[.pointer (some ⟨b, 0, none⟩)] w fun e w' => e = .returned (.int .i64 (kd (L.drop p) : Nat)) ∧ ∃ n, w' = w.drewN n := by
  obtain ⟨lv, b5, o5, c0, c1, _, _, _, h5, hix, e0, _, _⟩ := h.fact hl
  obtain ⟨m, hm⟩ : ∃ m, Hid (kd (L.drop p) = m) := ⟨_, Lib.hid rfl⟩
  rw [hm.out] at e0 ⊢
  clear h hl
  go_enter Try.func44, Try.ntmps44
  go_wp2_with fail
  go_quiet (fail)
  go_wp2_with fail
  go_ret
  exact ⟨rfl, _, rfl⟩
theorem grown_drewN {w0 w : World} {b : Nat} (h : w0.grownBy w (some b)) (n : Nat) : w0.grownBy (w.drewN n) (some b) := ⟨h.os, h.tape, h.output, h.size, h.block⟩
theorem Ds.drewN {b : Nat} {w : World} {L : List Lex.Tok} {p : Nat} {bad : Bool} {nots : Nat} (h : Ds b w L p bad nots) (n : Nat) : Ds b (w.drewN n) L p bad nots := h.ext (below_drewN (Below.refl _ _) n)
/-- what a step of the document's parser ends with -/
def DPost {α : Type} (b : Nat) (w : World) (L : List Lex.Tok) (nots : Nat) (o : Except Nat (α × List Lex.Tok)) (R : α → Value → World → Prop) (S : Value → World → Prop) (e : Ending) (w' : World) : Prop :=
  w.grownBy w' (some b) ∧ match o with
  | .ok (x, r) => ∃ v p', e = .returned v ∧ R x v w' ∧ Ds b w' L p' false nots ∧ L.drop p' = r ∧ Tl r
  | .error p => ∃ v p', e = .returned v ∧ S v w' ∧ Ds b w' L p' true nots ∧ Tl (L.drop p') ∧ pl (L.drop p') = p
theorem DPost.is {α : Type} {b : Nat} {w w' : World} {L : List Lex.Tok} {nots : Nat} {o : Except Nat (α × List Lex.Tok)} {R : α → Value → World → Prop} {S : Value → World → Prop} {x : α} {r : List Lex.Tok} {v : Value} {p' : Nat} (ho : o = .ok (x, r)) (hg : w.grownBy w' (some b)) (h1 : R x v w') (h2 : Ds b w' L p' false nots) (h3 : L.drop p' = r) (h4 : Tl r) : DPost b w L nots o R S (.returned v) w' := by
  subst ho; exact ⟨hg, v, p', rfl, h1, h2, h3, h4⟩
theorem DPost.no {α : Type} {b : Nat} {w w' : World} {L : List Lex.Tok} {nots : Nat} {o : Except Nat (α × List Lex.Tok)} {R : α → Value → World → Prop} {S : Value → World → Prop} {p : Nat} {v : Value} {p' : Nat} (ho : o = .error p) (hg : w.grownBy w' (some b)) (h1 : S v w') (h2 : Ds b w' L p' true nots) (h3 : Tl (L.drop p')) (h4 : pl (L.drop p') = p) : DPost b w L nots o R S (.returned v) w' := by
  subst ho; exact ⟨hg, v, p', rfl, h1, h2, h3, h4⟩
theorem DPost.ok {α : Type} {b : Nat} {w : World} {L : List Lex.Tok} {nots : Nat} {o : Except Nat (α × List Lex.Tok)} {R : α → Value → World → Prop} {S : Value → World → Prop} {x : α} {r : List Lex.Tok} {f : Nat} {xs : Array Value} (h : Calls Try.prog f xs w (DPost b w L nots o R S)) (ho : o = .ok (x, r)) :
    Calls Try.prog f xs w fun e w' => ∃ v p', e = .returned v ∧ R x v w' ∧ Ds b w' L p' false nots ∧ L.drop p' = r ∧ Tl r ∧ w.grownBy w' (some b) := by
  subst ho
  refine h.mono ?_
  rintro e w' ⟨hg, v, p', h1, h2, h3, h4, h5⟩
  exact ⟨v, p', h1, h2, h3, h4, h5, hg⟩
theorem DPost.bad {α : Type} {b : Nat} {w : World} {L : List Lex.Tok} {nots : Nat} {o : Except Nat (α × List Lex.Tok)} {R : α → Value → World → Prop} {S : Value → World → Prop} {p : Nat} {f : Nat} {xs : Array Value} (h : Calls Try.prog f xs w (DPost b w L nots o R S)) (ho : o = .error p) :
    Calls Try.prog f xs w fun e w' => ∃ v p', e = .returned v ∧ S v w' ∧ Ds b w' L p' true nots ∧ Tl (L.drop p') ∧ pl (L.drop p') = p ∧ w.grownBy w' (some b) := by
  subst ho
  refine h.mono ?_
  rintro e w' ⟨hg, v, p', h1, h2, h3, h4, h5⟩
  exact ⟨v, p', h1, h2, h3, h4, h5, hg⟩
end Go.Proofs.Ytolahnnkdpbdfaa

namespace Go.Proofs.Ytolahnnkdpbdfaa
open Go.Proofs Go.RowKit Go.Shelf Go.Sl Go.Prs
theorem Ds.next {b : Nat} {w : World} {L : List Lex.Tok} {p : Nat} {bad : Bool} {nots : Nat} (h : Ds b w L p bad nots) : Ds b (w.setCell ⟨b, 1, none⟩ (.int .i64 ((p : Int) + 1))) L (p + 1) bad nots := h.at_ (p + 1)
theorem Ds.nots1 {b : Nat} {w : World} {L : List Lex.Tok} {p : Nat} {bad : Bool} {nots : Nat} (h : Ds b w L p bad nots) : Ds b (w.setCell ⟨b, 3, none⟩ (.int .i64 ((nots : Int) + 1))) L p bad (nots + 1) := h.nots (nots + 1)
theorem rcount_q (l : List UInt8) (n : Nat) (t : Bool) (hn : Lex.count l = (n, t)) (w : World) (hl : l.length ≤ 100000) : Calls Try.prog 17 #[.string (bstr l)] w fun e w' => e = .returned (.tuple #[.int .i64 (n : Nat), .bool t]) ∧ ∃ n, w' = w.drewN n :=
  (rcount_any l n t hn w hl).mono fun _ _ ⟨h1, h2⟩ => ⟨h1, 0, h2.symm⟩
theorem rbase_q (s : List UInt8) (t : Bool) (ht : Prs.base s = t) (w : World) (hl : s.length ≤ 100000) : Calls Try.prog 79 #[.string (bstr s)] w fun e w' => e = .returned (.bool t) ∧ ∃ n, w' = w.drewN n :=
  (rbase_any s t ht w hl).mono fun _ _ ⟨h1, h2⟩ => ⟨h1, 0, h2.symm⟩
theorem Ds.kindB {b : Nat} {w : World} {L : List Lex.Tok} {p : Nat} {bad : Bool} {nots : Nat} (h : Ds b w L p bad nots) (hl : L.drop p ≠ []) : Calls Try.prog 44 #[.pointer (some ⟨b, 0, none⟩)] w fun e w' => e = .returned (.int .i64 (kd (L.drop p) : Nat)) ∧ Below w.heap.size w w' :=
  (h.kind hl).mono fun _ _ ⟨h1, n, h2⟩ => ⟨h1, by subst h2; exact below_drewN (Below.refl _ _) n⟩
theorem drop_tail {α : Type} (L : List α) (p : Nat) : L.drop (p + 1) = (L.drop p).tail := by simp
set_option maxHeartbeats 1000000 in
theorem rcnt_any (b : Nat) (L : List Lex.Tok) (p nots : Nat) (w : World) (h : Ds b w L p false nots) (ht : Tl (L.drop p)) (hp : p ≤ 100) :
    Calls Try.prog 89 #[.pointer (some ⟨b, 0, none⟩)] w (DPost b w L nots (cnt (L.drop p)) (fun n v _ => v = .int .i64 (n : Nat)) (fun v _ => v = .int .i64 0)) := by
  have HD := Lib.hid h
  have HT := Lib.hid ht
  have hlen := ht.len
  have HK := Lib.hid (h.kindB ht.ne)
  obtain ⟨lv, b5, o5, c0, c1, c2, c3, cf, h5, hix, e0, e1, _⟩ := h.fact ht.ne
  obtain ⟨m, hm⟩ : ∃ m, Hid (kd (L.drop p) = m) := ⟨_, Lib.hid rfl⟩
  rw [hm.out] at HK e0
  by_cases h1 : m = 1
  · subst h1
    obtain ⟨n, hn⟩ : ∃ n, Hid ((Lex.count (tx (L.drop p))).1 = n) := ⟨_, Lib.hid rfl⟩
    obtain ⟨t, hh⟩ : ∃ n, Hid ((Lex.count (tx (L.drop p))).2 = n) := ⟨_, Lib.hid rfl⟩
    have HC := Lib.hid (fun u => rcount_q (tx (L.drop p)) n t (by rw [← hn.out, ← hh.out]) u (by omega))
    clear h ht
    cases t with
    | true =>
      have HE : Hid (cnt (L.drop p) = .ok (n, L.drop (p + 1))) := Lib.hid (by unfold cnt; rw [if_pos hm.out, if_pos hh.out, hn.out, drop_tail])
      have HT1 : Hid (Tl (L.drop (p + 1))) := Lib.hid (by rw [drop_tail]; exact HT.out.tail (by rw [hm.out]; decide))
      go_enter Try.func89, Try.ntmps89
      go_wp2_with fail
      refine HK.out.mono ?_
      rintro e w1 ⟨rfl, hb⟩
      have HD1 := Lib.hid (HD.out.ext hb)
      have HG1 := Lib.hid (grown_below (b := b) hb)
      clear hb c0 c1 c2 c3 cf h5 hix e0 e1
      obtain ⟨lv, b5, o5, c0, c1, c2, c3, cf, h5, hix, e0, e1, _⟩ := HD1.out.fact HT.out.ne
      go_wp2_with fail
      go_quiet ((go_at_call 17; exact Calls.quiet_of (HC.out _)))
      go_wp2_with fail
      go_ret
      exact DPost.is HE.out (grown_trans (grown_drewN HG1.out _) (grown_set _ ⟨b, 1, none⟩ _)) rfl (HD1.out.drewN _).next rfl HT1.out
    | false =>
      have HE : Hid (cnt (L.drop p) = .error (pl (L.drop p))) := Lib.hid (by unfold cnt; rw [if_pos hm.out, if_neg (by rw [hh.out]; simp)])
      go_enter Try.func89, Try.ntmps89
      go_wp2_with fail
      refine HK.out.mono ?_
      rintro e w1 ⟨rfl, hb⟩
      have HD1 := Lib.hid (HD.out.ext hb)
      have HG1 := Lib.hid (grown_below (b := b) hb)
      clear hb c0 c1 c2 c3 cf h5 hix e0 e1
      obtain ⟨lv, b5, o5, c0, c1, c2, c3, cf, h5, hix, e0, e1, _⟩ := HD1.out.fact HT.out.ne
      go_wp2_with fail
      go_quiet ((go_at_call 17; exact Calls.quiet_of (HC.out _)))
      go_wp2_with fail
      go_ret
      exact DPost.no HE.out (grown_trans (grown_drewN HG1.out _) (grown_set _ ⟨b, 2, none⟩ _)) rfl (HD1.out.drewN _).bad HT.out rfl
  · have HE : Hid (cnt (L.drop p) = .ok (1, L.drop p)) := Lib.hid (by unfold cnt; rw [if_neg (by rw [hm.out]; exact h1)])
    have h1b : ((m : Int) != 1) = true := by rw [bne_iff_ne]; omega
    clear h ht h1
    go_enter Try.func89, Try.ntmps89
    go_wp2_with fail
    refine HK.out.mono ?_
    rintro e w1 ⟨rfl, hb⟩
    go_wp2_with fail
    go_ret
    exact DPost.is HE.out (grown_below hb) rfl (HD.out.ext hb) rfl HT.out
end Go.Proofs.Ytolahnnkdpbdfaa

namespace Go.Proofs.Ytolahnnkdpbdfaa
open Go.Proofs Go.RowKit Go.Shelf Go.Sl Go.Prs
theorem cells118 : Try.prog.cellsOf 118 = 3 := by kernel_rfl
theorem info118 : (Try.prog.info? 118).map (fun i => (i.zero, i.size, i.bytes)) = some (some (.agg #[.int .i64 0, .int .i64 0, .string .empty]), 3, 32) := by kernel_rfl
abbrev z96 : Obj := .cells #[.string .empty, .slice none 0 0] 96 (0, 0)
/-- the result's block, the block of what is read, its steps, the parser -/
structure Rs (b : Nat) (w : World) (L : List Lex.Tok) (nots : Nat) (R : Nat) (name : List UInt8) (p : Nat) (bad : Bool) (acc : List St) (v : Value) (wr : World) : Prop where
  res : wr.heap[w.heap.size]? = some z96
  it : wr.heap[R]? = some (.cells #[.string (bstr name), v] 96 (0, 0))
  own : Own eSt 3 w.heap.size 118 wr v acc
  ds : Ds b wr L p bad nots
  gr : w.grownBy wr (some b)
  hR : w.heap.size < R
section
variable {b : Nat} {w : World} {L : List Lex.Tok} {nots R : Nat} {name : List UInt8} {p : Nat} {bad : Bool} {acc : List St} {v : Value} {wr : World}
theorem Rs.par (h : Rs b w L nots R name p bad acc v wr) (hbw : b < w.heap.size) {w' : World} (hg : wr.grownBy w' (some b)) {p' : Nat} {bad' : Bool} (hd : Ds b w' L p' bad' nots) : Rs b w L nots R name p' bad' acc v w' := by
  have hR := h.hR
  refine ⟨grown_heap hg h.res (by intro e; have := Option.some.inj e; omega), grown_heap hg h.it (by intro e; have := Option.some.inj e; omega), Own.kept_bk h.own hg (fun g e => by cases e; exact h.ds.bk) (by decide), hd, grown_trans h.gr hg, hR⟩
theorem Rs.ext (h : Rs b w L nots R name p bad acc v wr) (hbw : b < w.heap.size) {w' : World} (hb : Below wr.heap.size wr w') : Rs b w L nots R name p bad acc v w' :=
  h.par hbw (grown_below hb) (h.ds.ext hb)
theorem Rs.next (h : Rs b w L nots R name p bad acc v wr) (hbw : b < w.heap.size) : Rs b w L nots R name (p + 1) bad acc v (wr.setCell ⟨b, 1, none⟩ (.int .i64 ((p : Int) + 1))) :=
  h.par hbw (grown_set wr ⟨b, 1, none⟩ _) h.ds.next
theorem Rs.bkR (h : Rs b w L nots R name p bad acc v wr) : Bk wr 96 R := ⟨_, h.it⟩
theorem Rs.fact (h : Rs b w L nots R name p bad acc v wr) : wr.cell? ⟨R, 0, none⟩ = some (.string (bstr name)) ∧ wr.cell? ⟨R, 1, none⟩ = some v ∧ (∀ o, wr.frozen? ⟨R, o, none⟩ = false) ∧ wr.cell? ⟨w.heap.size, 0, none⟩ = some (.string .empty) ∧ wr.cell? ⟨w.heap.size, 1, none⟩ = some (.slice none 0 0) ∧ (∀ o, wr.frozen? ⟨w.heap.size, o, none⟩ = false) := by
  obtain ⟨_, a0, a1, _, _⟩ := two_cells h.it
  obtain ⟨_, c0, c1, _, _⟩ := two_cells h.res
  exact ⟨a0, a1, bk_frozen h.bkR, c0, c1, bk_frozen ⟨_, h.res⟩⟩
/-- an append has been made but not yet stored -/
theorem Rs.app4 (h : Rs b w L nots R name p bad acc v wr) (o : Obj) {w4 : World} (hgr : (wr.alloc o).grownBy w4 v.ownBlock) : w4.cell? ⟨R, 1, none⟩ = some v ∧ (∀ k, w4.frozen? ⟨R, k, none⟩ = false) := by
  have hk := heap_keep (p := o) h.it
  have h4 := grown_heap hgr hk ((h.own.alloc o).ne_elem hk (by decide))
  obtain ⟨_, a0, a1, _, _⟩ := two_cells h4
  exact ⟨a1, bk_frozen ⟨_, h4⟩⟩
theorem Rs.app (h : Rs b w L nots R name p bad acc v wr) (o : Obj) {w4 : World} {v4 : Value} {x : St} (hown : Own eSt 3 w.heap.size 118 w4 v4 (acc ++ [x])) (hgr : (wr.alloc o).grownBy w4 v.ownBlock) :
    Rs b w L nots R name p bad (acc ++ [x]) v4 (w4.setCell ⟨R, 1, none⟩ v4) := by
  have hR := h.hR
  have hk := heap_keep (p := o) h.it
  have h4 := grown_heap hgr hk ((h.own.alloc o).ne_elem hk (by decide))
  have hr := heap_keep (p := o) h.res
  have r4 := grown_heap hgr hr ((h.own.alloc o).ne_elem hr (by decide))
  have kR : Bk w4 96 R := ⟨_, h4⟩
  refine ⟨heap_set_keep r4 (by simp only []; omega), heap_setCell_same _ _ _ _ _ _ h4, Own.set_bk hown kR (by decide) 1 v4, ((h.ds.alloc o).own (h.own.alloc o) hgr (by decide) (by decide)).set kR (by decide) (by decide) 1 v4, ?_, hR⟩
  exact grown_over (grown_own (grown_alloc h.gr o) (h.own.alloc o) hgr (Nat.le_refl _)) (grown_set w4 ⟨R, 1, none⟩ v4) (by simp only []; omega)
end
/-- a commit as the document's parser hands it back -/
def RvD (N : Nat) (x : Rv) (v : Value) (w' : World) : Prop := ∃ a n c, v = .agg #[.string (bstr x.b), .slice a n c] ∧ Own eSt 3 N 118 w' (.slice a n c) x.st
def RvS (v : Value) (_ : World) : Prop := ∃ s a n c, v = .agg #[.string (bstr s), .slice a n c]
/-- the place as it lies -/
def atOf (b : Nat) (w : World) : Nat := match w.cell? ⟨b, 1, none⟩ with | some (.int _ n) => n.toNat | _ => 0
theorem Ds.atOf {b : Nat} {w : World} {L : List Lex.Tok} {p : Nat} {bad : Bool} {nots : Nat} (h : Ds b w L p bad nots) : atOf b w = p := by
  obtain ⟨lv, h1, _⟩ := h.ex
  simp [Ytolahnnkdpbdfaa.atOf, World.cell?, h1]
/-- what is left to read, as it lies -/
def mOf (b : Nat) (L : List Lex.Tok) (w : World) : Nat := match w.cell? ⟨b, 2, none⟩ with | some (.bool true) => 0 | _ => L.length - atOf b w + 1
theorem Ds.mOf {b : Nat} {w : World} {L : List Lex.Tok} {p : Nat} {bad : Bool} {nots : Nat} (h : Ds b w L p bad nots) : mOf b L w = if bad = true then 0 else L.length - p + 1 := by
  have h2 := h.atOf
  obtain ⟨lv, h1, _⟩ := h.ex
  unfold Ytolahnnkdpbdfaa.mOf
  rw [h2]
  cases bad <;> simp [World.cell?, h1]
theorem drop_len {α : Type} (L : List α) (q : Nat) : (L.drop (q + 1)).length = (L.drop q).length - 1 := by simp; omega
theorem tl_cnt_pl {L : List Lex.Tok} {e : Nat} (h : cnt L = .error e) : e = pl L := by
  unfold cnt at h
  split at h
  · split at h
    · cases h
    · cases h; rfl
  · cases h
theorem steps_pre {F f : Nat} {l l1 : List Lex.Tok} {acc : List St} {o : Except Nat (List St × List Lex.Tok)} (h : steps F l = pre acc (steps f l1)) (h2 : steps f l1 = o) : steps F l = pre acc o := by rw [h, h2]
end Go.Proofs.Ytolahnnkdpbdfaa

namespace Go.Proofs.Ytolahnnkdpbdfaa
open Go.Proofs Go.RowKit Go.Shelf Go.Sl Go.Prs
/-- what stands at the head of the loop over the steps -/
def RL (b : Nat) (w : World) (L : List Lex.Tok) (nots R : Nat) (name : List UInt8) (F : Nat) (l0 : List Lex.Tok) (wr : World) : Prop :=
  ∃ (p : Nat) (bad : Bool) (acc : List St) (v : Value), Hid (Rs b w L nots R name p bad acc v wr) ∧ p ≤ L.length ∧ Hid (Tl (L.drop p)) ∧
    ((bad = true ∧ Hid (steps F l0 = .error (pl (L.drop p)))) ∨ (bad = false ∧ acc.length + (L.drop p).length ≤ 102 ∧ ∃ f, (L.drop p).length ≤ f ∧ Hid (steps F l0 = pre acc (steps f (L.drop p)))))
theorem Tl.lt {L : List Lex.Tok} {p : Nat} (h : Tl (L.drop p)) : p < L.length := by
  rcases Nat.lt_or_ge p L.length with h1 | h1
  · exact h1
  · exact absurd (List.drop_eq_nil_of_le h1) h.ne
theorem drop_of_tail {L : List Lex.Tok} {p p' : Nat} {r : List Lex.Tok} (h : L.drop p' = r) (h2 : r.length ≤ (L.drop p).length) (h3 : Tl r) : p ≤ p' := by
  have := h3.ne
  subst h
  have h4 := List.length_pos_iff.2 this
  simp only [List.length_drop] at h2 h4
  omega
theorem grown_undrew {w w' : World} {r : Option Nat} (h : w.drew.grownBy w' r) : w.grownBy w' r := ⟨h.os, h.tape, h.output, h.size, h.block⟩
set_option maxRecDepth 100000 in
set_option maxHeartbeats 8000000 in
theorem rrev_any (b : Nat) (L : List Lex.Tok) (p nots : Nat) (w : World) (h : Ds b w L p false nots) (ht : Tl (L.drop p)) (hL : L.length ≤ 100) :
    Calls Try.prog 75 #[.pointer (some ⟨b, 0, none⟩)] w (DPost b w L nots (rev (L.drop p)) (RvD w.heap.size) RvS) := by
  have HD0 := Lib.hid h
  have HT := Lib.hid ht
  have hlen := ht.len
  have hpl := Tl.lt ht
  have hbw : b < w.heap.size := h.lt
  have HDA := Lib.hid (h.alloc z96)
  have HNA := Lib.hid (heap_alloc_new w z96)
  have HGA := Lib.hid (grown_below (b := b) ((Below.refl _ w).alloc (Nat.le_refl _) z96))
  have hsz : (w.alloc z96).heap.size = w.heap.size + 1 := by simp
  obtain ⟨wA, hA⟩ : ∃ x, w.alloc (.cells #[.string ⟨#[]⟩, .slice none 0 0] 96) = x := ⟨_, rfl⟩
  have hA2 : w.alloc z96 = wA := hA
  rw [hA2] at HDA HNA HGA hsz
  have HsA := Lib.hid hsz
  have HA := Lib.hid hA
  clear h ht hA hA2 hsz
  have HK := Lib.hid (fun n => (HDA.out.drewN n).kind HT.out.ne)
  obtain ⟨lv, b5, o5, c0, c1, c2, c3, cf, h5, hix, -, e1, -⟩ := HDA.out.fact HT.out.ne
  obtain ⟨-, n0, n1, -, -⟩ := two_cells HNA.out
  have nf := bk_frozen ⟨_, HNA.out⟩
  obtain ⟨m, hm⟩ : ∃ m, Hid (kd (L.drop p) = m) := ⟨_, Lib.hid rfl⟩
  rw [hm.out] at HK
  obtain ⟨t, htb⟩ : ∃ t, Hid (Prs.base (tx (L.drop p)) = t) := ⟨_, Lib.hid rfl⟩
  have HB := Lib.hid (fun u => rbase_q (tx (L.drop p)) t htb.out u (by omega))
  by_cases hgo : m = 1 ∧ t = true
  · obtain ⟨rfl, rfl⟩ := hgo
    go_enter Try.func75, Try.ntmps75
    go_wp2_with fail
    rw [HA.out]
    go_cut [29] (fun s wx => s = .bool false ∧ ∃ n, wx = wA.drewN n)
    case first =>
      go_quiet (first | (go_at_call 44; exact Calls.quiet_of (HK.out _)) | (go_at_call 79; exact Calls.quiet_of (HB.out _)))
      go_wp2_with fail
      go_meet
      exact ⟨rfl, _, rfl⟩
    case rest =>
      obtain ⟨w1, hw1⟩ : ∃ w1 : World, w1 = wc := ⟨_, rfl⟩
      obtain ⟨rfl, n, hwc⟩ := hcut
      have HD1 : Hid (Ds b w1 L p false nots) := Lib.hid (by rw [hw1, hwc]; exact HDA.out.drewN n)
      have HN1 : Hid (w1.heap[w.heap.size]? = some z96) := Lib.hid (by rw [hw1, hwc]; exact HNA.out)
      have HG1 : Hid (w.grownBy w1 (some b)) := Lib.hid (by rw [hw1, hwc]; exact grown_drewN HGA.out n)
      have hs1 : w1.heap.size = w.heap.size + 1 := by rw [hw1, hwc]; exact HsA.out
      rw [← hw1]
      clear hw1 hwc lv b5 o5 c0 c1 c2 c3 cf h5 hix e1 n0 n1 nf HK HB HDA HNA HGA HsA HA
      obtain ⟨lv, b5, o5, c0, c1, c2, c3, cf, h5, hix, -, e1, -⟩ := HD1.out.fact HT.out.ne
      have HS1 := Lib.hid hs1
      have hbn1 : ¬ b = w1.heap.size := by omega
      have hbn2 : ¬ b5 = w1.heap.size := by omega
      clear hs1
      go_wp2_with fail
      go_cut [3] (fun s wx => s = .pointer (some ⟨w1.heap.size, 0, none⟩) ∧ Hid (Rs b w L nots w1.heap.size (tx (L.drop p)) p false [] (.slice none 0 0) wx))
      case first =>
        have hAl : ∀ o : Obj, (w1.alloc o).cell? ⟨b, 0, none⟩ = some lv := fun o => by rw [World.cell?_alloc_lt _ _ _ (by show b < _; have := HS1.out; omega)]; exact c0
        have hAp : ∀ o : Obj, (w1.alloc o).cell? ⟨b, 1, none⟩ = some (.int .i64 (p : Nat)) := fun o => by rw [World.cell?_alloc_lt _ _ _ (by show b < _; have := HS1.out; omega)]; exact c1
        have hAe : ∀ o : Obj, (w1.alloc o).cell? ⟨b5, o5 + 1, none⟩ = some (.string (bstr (tx (L.drop p)))) := fun o => by rw [World.cell?_alloc_lt _ _ _ h5]; exact e1
        have HRs : Hid (Rs b w L nots w1.heap.size (tx (L.drop p)) p false [] (.slice none 0 0) (w1.alloc (.cells #[.string (bstr (tx (L.drop p))), .slice none 0 0] 96)).drew) := Lib.hid ⟨heap_keep HN1.out, heap_alloc_new _ _, Own.nil _ _ _ _ _, (HD1.out.alloc _).drew, grown_trans (grown_alloc HG1.out _) (grown_below (Below.refl _ _).drew), by have := HS1.out; omega⟩
        go_region_with (fail)
        all_goals
          go_wp2_with fail
          go_meet
          exact ⟨rfl, HRs⟩
      case rest =>
        obtain ⟨w2, hw2⟩ : ∃ w2 : World, w2 = wc := ⟨_, rfl⟩
        obtain ⟨rfl, HI0⟩ := hcut
        rw [← hw2] at HI0 ⊢
        clear hw2 HD1 HN1 HG1
        obtain ⟨R, hR⟩ : ∃ R, R = w1.heap.size := ⟨_, rfl⟩
        rw [← hR] at HI0 ⊢
        have hRw : w.heap.size < R := HI0.out.hR
        clear hR lv b5 o5 c0 c1 c2 c3 cf h5 hix e1 hbn1 hbn2 HS1
        have HT1 : Hid (Tl (L.drop (p + 1))) := Lib.hid (by rw [drop_tail]; exact HT.out.tail (by rw [hm.out]; decide))
        obtain ⟨lv, b5, o5, c0, c1, c2, c3, cf, h5, hix, -, -, -⟩ := HI0.out.ds.fact HT.out.ne
        have HI1 := Lib.hid (HI0.out.next hbw)
        obtain ⟨name, hname⟩ : ∃ s, Hid (tx (L.drop p) = s) := ⟨_, Lib.hid rfl⟩
        rw [hname.out] at HI1 HI0
        have HF : Hid (steps (L.drop p).length (L.drop (p + 1)) = pre [] (steps (L.drop p).length (L.drop (p + 1)))) := Lib.hid (pre_nil _).symm
        obtain ⟨l0, hl0⟩ : ∃ s, Hid (L.drop (p + 1) = s) := ⟨_, Lib.hid rfl⟩
        obtain ⟨F, hF⟩ : ∃ s, Hid ((L.drop p).length = s) := ⟨_, Lib.hid rfl⟩
        have hFl : (L.drop (p + 1)).length ≤ F := by rw [← hF.out]; simp only [List.length_drop]; omega
        rw [hF.out] at HF
        have HF2 : Hid (steps F l0 = pre [] (steps F (L.drop (p + 1)))) := Lib.hid (by rw [← hl0.out]; exact HF.out)
        have hal : 0 + (L.drop (p + 1)).length ≤ 102 := by simp; omega
        clear HF
        go_wp2_with fail
        go_loopw [] (fun wr => RL b w L nots R name F l0 wr) (fun wr => mOf b L wr)
        case atStart => exact ⟨p + 1, false, [], .slice none 0 0, HI1, by omega, HT1, .inr ⟨rfl, hal, F, hFl, HF2⟩⟩
        case round =>
          clear HI0 HI1 HT1 HF2 lv b5 o5 c0 c1 c2 c3 cf h5 hix hFl hal
          obtain ⟨q, bad, acc, v, HI, hq, HTq, hcase⟩ := hrel
          obtain ⟨wo, rfl⟩ : ∃ wo : World, wo = wr := ⟨_, rfl⟩
          obtain ⟨sa, sn, sc, rfl⟩ := HI.out.own.isSlice
          have HAt := Lib.hid HI.out.ds.mOf
          rcases hcase with ⟨rfl, HE⟩ | ⟨rfl, hal, f, hf, HS⟩
          · obtain ⟨lv, b5, o5, c0, c1, c2, c3, cf, h5, hix, -, e1, -⟩ := HI.out.ds.fact HTq.out.ne
            obtain ⟨a0, a1, af, d0, d1, df⟩ := HI.out.fact
            have HZ : Hid (rev (L.drop p) = .error (pl (L.drop q))) := Lib.hid (rev_err hm.out htb.out (by rw [hF.out, ← drop_tail, hl0.out]; exact HE.out))
            have hkN := Lib.hid (show Bk _ 96 w.heap.size from ⟨_, HI.out.res⟩)
            go_wp2_with fail
            refine bodyPost_ret (v := .agg #[.string (bstr name), .slice sa sn sc]) ?_ rfl ?_
            · simp [results, Try.results75, go_sem, d0, d1]; try rfl
            · exact DPost.no HZ.out (grown_set2 HI.out.gr (Nat.le_refl _) 0 1 _ _) ⟨_, _, _, _, rfl⟩ ((HI.out.ds.set hkN.out (by decide) (by decide) 0 _).set (hkN.out.set _ _ _) (by decide) (by decide) 1 _) HTq.out rfl
          · obtain ⟨lv, b5, o5, c0, c1, c2, c3, cf, h5, hix, -, e1, -⟩ := HI.out.ds.fact HTq.out.ne
            obtain ⟨a0, a1, af, d0, d1, df⟩ := HI.out.fact
            obtain ⟨m2, hm2⟩ : ∃ m, Hid (kd (L.drop q) = m) := ⟨_, Lib.hid rfl⟩
            have hqL := Tl.lt HTq.out
            by_cases h4 : m2 = 4
            · subst h4
              have HK3 := Lib.hid (HI.out.ds.kindB HTq.out.ne)
              rw [hm2.out] at HK3
              go_wp2_with fail
              refine HK3.out.mono ?_
              rintro e w3 ⟨rfl, hb⟩
              have HI3 := Lib.hid (HI.out.ext hbw hb)
              clear hb HK3 lv b5 o5 c0 c1 c2 c3 cf h5 hix e1 a0 a1 af d0 d1 df
              obtain ⟨lv, b5, o5, c0, c1, c2, c3, cf, h5, hix, -, e1, -⟩ := HI3.out.ds.fact HTq.out.ne
              obtain ⟨a0, a1, af, d0, d1, df⟩ := HI3.out.fact
              have HK4 := Lib.hid (HI3.out.ds.kindB HTq.out.ne)
              rw [hm2.out] at HK4
              go_wp2_with fail
              refine HK4.out.mono ?_
              rintro e w4 ⟨rfl, hb⟩
              have HI4 := Lib.hid (HI3.out.ext hbw hb)
              clear hb HK4 lv b5 o5 c0 c1 c2 c3 cf h5 hix e1 a0 a1 af d0 d1 df
              obtain ⟨lv, b5, o5, c0, c1, c2, c3, cf, h5, hix, -, e1, -⟩ := HI4.out.ds.fact HTq.out.ne
              obtain ⟨a0, a1, af, d0, d1, df⟩ := HI4.out.fact
              have HK5 := Lib.hid (HI4.out.ds.kindB HTq.out.ne)
              rw [hm2.out] at HK5
              go_wp2_with fail
              refine HK5.out.mono ?_
              rintro e w5 ⟨rfl, hb⟩
              have HI5 := Lib.hid (HI4.out.ext hbw hb)
              clear hb HK5 lv b5 o5 c0 c1 c2 c3 cf h5 hix e1 a0 a1 af d0 d1 df
              obtain ⟨lv, b5, o5, c0, c1, c2, c3, cf, h5, hix, -, e1, -⟩ := HI5.out.ds.fact HTq.out.ne
              obtain ⟨a0, a1, af, d0, d1, df⟩ := HI5.out.fact
              have HT1 : Hid (Tl (L.drop (q + 1))) := Lib.hid (by rw [drop_tail]; exact HTq.out.tail (by rw [hm2.out]; decide))
              have HIn := Lib.hid (HI5.out.next hbw)
              have Hdt := Lib.hid (drop_tail L q)
              obtain ⟨q1, hq1⟩ : ∃ x, Hid (q + 1 = x) := ⟨_, Lib.hid rfl⟩
              have hq1l : q + 1 ≤ q1 := Nat.le_of_eq hq1.out
              have hdl : (L.drop q1).length + 1 ≤ (L.drop q).length := by rw [← hq1.out]; simp only [List.length_drop]; omega
              clear HI HI5
              go_upto_region 9 with fail
              generalize hW8 : w5.setCell ⟨b, 1, none⟩ (.int .i64 ((q : Int) + 1)) = w8 at HIn ⊢
              rw [hq1.out] at HIn HT1 Hdt
              clear hW8 lv b5 o5 c0 c1 c2 c3 cf h5 hix e1 a0 a1 af d0 d1 df
              obtain ⟨lv, b5, o5, c0, c1, c2, c3, cf, h5, hix, -, e1, -⟩ := HIn.out.ds.fact HT1.out.ne
              obtain ⟨a0, a1, af, d0, d1, df⟩ := HIn.out.fact
              go_cut [5] (fun s wx => s = .string (bstr (tx (L.drop q1))) ∧ Hid (Rs b w L nots R name q1 false acc (.slice sa sn sc) wx))
              case first =>
                go_quiet (fail)
                go_wp2_with fail
                go_meet
                exact ⟨rfl, Lib.hid (HIn.out.ext hbw (below_drewN (Below.refl _ _) _))⟩
              case rest =>
                obtain ⟨w9, hw9⟩ : ∃ w9 : World, w9 = wc := ⟨_, rfl⟩
                obtain ⟨rfl, HI9⟩ := hcut
                rw [← hw9] at HI9 ⊢
                clear hw9 HIn lv b5 o5 c0 c1 c2 c3 cf h5 hix e1 a0 a1 af d0 d1 df
                obtain ⟨lv, b5, o5, c0, c1, c2, c3, cf, h5, hix, -, e1, -⟩ := HI9.out.ds.fact HT1.out.ne
                obtain ⟨a0, a1, af, d0, d1, df⟩ := HI9.out.fact
                have HC := Lib.hid (fun (u : World) (hu : Below w9.heap.size w9 u) => rcnt_any b L q1 nots u (HI9.out.ds.ext hu) HT1.out (by have := Tl.lt HT1.out; omega))
                have hcl : ∀ {n r}, cnt (L.drop q1) = .ok (n, r) → r.length ≤ (L.drop q1).length := fun h => cnt_len h
                cases hc : cnt (L.drop q1) with
                | error e0 =>
                  have HE0 : Hid (steps F l0 = .error e0) := Lib.hid (by rw [HS.out, steps_backE hf HTq.out.ne hm2.out (by rw [← Hdt.out]; exact hc)]; rfl)
                  have hD := Lib.hid (fun (u : World) (hu : Below w9.heap.size w9 u) => (DPost.bad (HC.out u hu) hc).mono (R' := fun e w' => ∃ p', e = .returned (.int .i64 0) ∧ Rs b w L nots R name p' true acc (.slice sa sn sc) w' ∧ Tl (L.drop p') ∧ pl (L.drop p') = e0) (fun e w' ⟨v, p', h1, h2, h3, h4, h5, h6⟩ => ⟨p', by rw [h1, h2], (HI9.out.ext hbw hu).par hbw h6 h3, h4, h5⟩))
                  clear hc HC
                  go_wp2_with fail
                  go_region_law (first
                    | (go_simp; go_at_call 89; refine (hD.out _ (Below.refl _ _).drew).mono ?_; rintro e w10 ⟨p', rfl, hi, htl, hpl'⟩; have HI10 := Lib.hid hi; have HTr := Lib.hid htl; have HPl := Lib.hid hpl'; clear hi htl hpl'; have a1' := HI10.out.fact.2.1; have a1A := fun o : Obj => (HI10.out.ext hbw ((Below.refl _ _).alloc (Nat.le_refl _) o)).fact.2.1; have hs10 := HI10.out.gr.size; dsimp only)
                    | (refine step_append rfl (en := eSt) (s := 3) (base := w.heap.size) (e := 118) _ _ _ (by rfl) _ 32 Try.underlying94 info118 rfl (by decide) len_eSt one_eSt _ _ acc [⟨2, 0, []⟩] (by rfl) (HI10.out.own.alloc _) (by rfl) (Sl.fresh len_eSt (by simp) rfl rfl (by simp [maxLen])) (by simp [maxLen]; omega) (by simp; omega) (by simp; omega) ?_; intro v4 w4 hown4 hgr4 hb4; obtain ⟨va, vn, vc, rfl⟩ := hown4.isSlice; have HIA := Lib.hid (HI10.out.app _ hown4 hgr4); obtain ⟨n4, f4⟩ := HI10.out.app4 _ hgr4; clear hown4 hgr4 hb4))
                  all_goals
                    clear HI10 a1' a1A n4 f4 lv b5 o5 c0 c1 c2 c3 cf h5 hix e1 a0 a1 af d0 d1 df
                    have HAt2 := Lib.hid HIA.out.ds.mOf
                    have hpp := Tl.lt HTr.out
                    go_wp2_with fail
                    go_roundw
                    case rel => exact ⟨p', true, _, _, HIA, by omega, HTr, .inl ⟨rfl, Lib.hid (by rw [HPl.out]; exact HE0.out)⟩⟩
                    case measure => rw [HAt2.out, HAt.out]; simp only [Bool.false_eq_true, if_false, if_true]; omega
                | ok x =>
                  obtain ⟨n, r⟩ := x
                  have hrl := hcl hc
                  have HE2 : Hid (steps F l0 = pre (acc ++ [⟨2, (n : Nat), []⟩]) (steps (f - 1) r)) := Lib.hid (by rw [HS.out, steps_back hf HTq.out.ne hm2.out (by rw [← Hdt.out]; exact hc), pre_cons])
                  have hD := Lib.hid (fun (u : World) (hu : Below w9.heap.size w9 u) => (DPost.ok (HC.out u hu) hc).mono (R' := fun e w' => ∃ p', e = .returned (.int .i64 (n : Nat)) ∧ Rs b w L nots R name p' false acc (.slice sa sn sc) w' ∧ L.drop p' = r ∧ Tl r) (fun e w' ⟨v, p', h1, h2, h3, h4, h5, h6⟩ => ⟨p', by rw [h1, h2], (HI9.out.ext hbw hu).par hbw h6 h3, h4, h5⟩))
                  clear hc HC
                  go_wp2_with fail
                  go_region_law (first
                    | (go_simp; go_at_call 89; refine (hD.out _ (Below.refl _ _).drew).mono ?_; rintro e w10 ⟨p', rfl, hi, hdr, htl⟩; have HI10 := Lib.hid hi; have HDr := Lib.hid hdr; have HTr := Lib.hid htl; clear hi hdr htl; have a1' := HI10.out.fact.2.1; have a1A := fun o : Obj => (HI10.out.ext hbw ((Below.refl _ _).alloc (Nat.le_refl _) o)).fact.2.1; have hs10 := HI10.out.gr.size; dsimp only)
                    | (refine step_append rfl (en := eSt) (s := 3) (base := w.heap.size) (e := 118) _ _ _ (by rfl) _ 32 Try.underlying94 info118 rfl (by decide) len_eSt one_eSt _ _ acc [⟨2, (n : Nat), []⟩] (by rfl) (HI10.out.own.alloc _) (by rfl) (Sl.fresh len_eSt (by simp) rfl rfl (by simp [maxLen])) (by simp [maxLen]; omega) (by simp; omega) (by simp; omega) ?_; intro v4 w4 hown4 hgr4 hb4; obtain ⟨va, vn, vc, rfl⟩ := hown4.isSlice; have HIA := Lib.hid (HI10.out.app _ hown4 hgr4); obtain ⟨n4, f4⟩ := HI10.out.app4 _ hgr4; clear hown4 hgr4 hb4))
                  all_goals
                    clear HI10 a1' a1A n4 f4 lv b5 o5 c0 c1 c2 c3 cf h5 hix e1 a0 a1 af d0 d1 df
                    have HAt2 := Lib.hid HIA.out.ds.mOf
                    have hpp : p' < L.length := Tl.lt (by rw [HDr.out]; exact HTr.out)
                    go_wp2_with fail
                    go_roundw
                    case rel => exact ⟨p', false, _, _, HIA, by omega, Lib.hid (by rw [HDr.out]; exact HTr.out), .inr ⟨rfl, by rw [HDr.out]; simp only [List.length_append, List.length_singleton]; omega, f - 1, by rw [HDr.out]; omega, Lib.hid (by rw [HDr.out]; exact HE2.out)⟩⟩
                    case measure => rw [HAt2.out, HAt.out]; have := drop_of_tail HDr.out hrl HTr.out; simp only [Bool.false_eq_true, if_false]; omega
            · by_cases h3 : m2 = 3
              · subst h3
                clear h4
                have HK3 := Lib.hid (HI.out.ds.kindB HTq.out.ne)
                rw [hm2.out] at HK3
                go_wp2_with fail
                refine HK3.out.mono ?_
                rintro e w3 ⟨rfl, hb⟩
                have HI3 := Lib.hid (HI.out.ext hbw hb)
                clear hb HK3 lv b5 o5 c0 c1 c2 c3 cf h5 hix e1 a0 a1 af d0 d1 df
                obtain ⟨lv, b5, o5, c0, c1, c2, c3, cf, h5, hix, -, e1, -⟩ := HI3.out.ds.fact HTq.out.ne
                obtain ⟨a0, a1, af, d0, d1, df⟩ := HI3.out.fact
                have HK5 := Lib.hid (HI3.out.ds.kindB HTq.out.ne)
                rw [hm2.out] at HK5
                go_wp2_with fail
                refine HK5.out.mono ?_
                rintro e w5 ⟨rfl, hb⟩
                have HI5 := Lib.hid (HI3.out.ext hbw hb)
                clear hb HK5 lv b5 o5 c0 c1 c2 c3 cf h5 hix e1 a0 a1 af d0 d1 df
                obtain ⟨lv, b5, o5, c0, c1, c2, c3, cf, h5, hix, -, e1, -⟩ := HI5.out.ds.fact HTq.out.ne
                obtain ⟨a0, a1, af, d0, d1, df⟩ := HI5.out.fact
                have HT1 : Hid (Tl (L.drop (q + 1))) := Lib.hid (by rw [drop_tail]; exact HTq.out.tail (by rw [hm2.out]; decide))
                have HIn := Lib.hid (HI5.out.next hbw)
                have Hdt := Lib.hid (drop_tail L q)
                obtain ⟨q1, hq1⟩ : ∃ x, Hid (q + 1 = x) := ⟨_, Lib.hid rfl⟩
                have hq1l : q + 1 ≤ q1 := Nat.le_of_eq hq1.out
                have hdl : (L.drop q1).length + 1 ≤ (L.drop q).length := by rw [← hq1.out]; simp only [List.length_drop]; omega
                clear HI HI5
                go_upto_region 9 with fail
                generalize hW8 : w5.setCell ⟨b, 1, none⟩ (.int .i64 ((q : Int) + 1)) = w8 at HIn ⊢
                rw [hq1.out] at HIn HT1 Hdt
                clear hW8 lv b5 o5 c0 c1 c2 c3 cf h5 hix e1 a0 a1 af d0 d1 df
                obtain ⟨lv, b5, o5, c0, c1, c2, c3, cf, h5, hix, -, e1, -⟩ := HIn.out.ds.fact HT1.out.ne
                obtain ⟨a0, a1, af, d0, d1, df⟩ := HIn.out.fact
                go_cut [5] (fun s wx => s = .string (bstr (tx (L.drop q1))) ∧ Hid (Rs b w L nots R name q1 false acc (.slice sa sn sc) wx))
                case first =>
                  go_quiet (fail)
                  go_wp2_with fail
                  go_meet
                  exact ⟨rfl, Lib.hid (HIn.out.ext hbw (below_drewN (Below.refl _ _) _))⟩
                case rest =>
                  obtain ⟨w9, hw9⟩ : ∃ w9 : World, w9 = wc := ⟨_, rfl⟩
                  obtain ⟨rfl, HI9⟩ := hcut
                  rw [← hw9] at HI9 ⊢
                  clear hw9 HIn lv b5 o5 c0 c1 c2 c3 cf h5 hix e1 a0 a1 af d0 d1 df
                  obtain ⟨lv, b5, o5, c0, c1, c2, c3, cf, h5, hix, -, e1, -⟩ := HI9.out.ds.fact HT1.out.ne
                  obtain ⟨a0, a1, af, d0, d1, df⟩ := HI9.out.fact
                  obtain ⟨m3, hm3⟩ : ∃ m, Hid (kd (L.drop q1) = m) := ⟨_, Lib.hid rfl⟩
                  have HK6 := Lib.hid (HI9.out.ds.kindB HT1.out.ne)
                  rw [hm3.out] at HK6
                  go_wp2_with fail
                  refine HK6.out.mono ?_
                  rintro e w6 ⟨rfl, hb⟩
                  have HI6 := Lib.hid (HI9.out.ext hbw hb)
                  clear hb HK6 lv b5 o5 c0 c1 c2 c3 cf h5 hix e1 a0 a1 af d0 d1 df
                  obtain ⟨lv, b5, o5, c0, c1, c2, c3, cf, h5, hix, -, e1, -⟩ := HI6.out.ds.fact HT1.out.ne
                  obtain ⟨a0, a1, af, d0, d1, df⟩ := HI6.out.fact
                  by_cases h7 : m3 = 7
                  · subst h7
                    have HT2 : Hid (Tl (L.drop (q1 + 1))) := Lib.hid (by rw [drop_tail]; exact HT1.out.tail (by rw [hm3.out]; decide))
                    have h2 : 2 ≤ (tx (L.drop q1)).length := HT1.out.brace hm3.out
                    have h2' : (tx (L.drop q1)).length ≤ 200 := HT1.out.len
                    have HE2 : Hid (steps F l0 = pre (acc ++ [⟨3, 0, (tx (L.drop q1)).tail.take ((tx (L.drop q1)).length - 1 - 1)⟩]) (steps (f - 1) (L.drop (q1 + 1)))) := Lib.hid (by rw [HS.out, steps_peel hf HTq.out.ne hm2.out (by rw [← Hdt.out]; exact hm3.out), pre_cons, ← Hdt.out, drop_tail, inner_eq])
                    obtain ⟨txt, htxt⟩ : ∃ s, Hid (tx (L.drop q1) = s) := ⟨_, Lib.hid rfl⟩
                    rw [htxt.out] at h2 h2' HE2 e1 ⊢
                    have hw1 : IntKind.i64.wrap ((txt.length : Int) - 1) = (txt.length : Int) - 1 := IntWalk.i64_in _ (by omega)
                    have hw2 : (0 : Int) ≤ (txt.length : Int) - 1 := by omega
                    have hw3 : ((txt.length : Int) - 1).toNat = txt.length - 1 := by omega
                    have hw4 : (1 : Int) ≤ (txt.length : Int) - 1 := by omega
                    have hw5 : (1 : Int) ≤ (txt.length : Int) := by omega
                    have hw6 : (txt.length : Int) - 1 ≤ (txt.length : Int) := by omega
                    have HSl := Lib.hid ((Sl.fresh (en := eSt) (s := 3) len_eSt (w := w6) (cs := #[.int .i64 3, .int .i64 0, .string (bstr (txt.tail.take (txt.length - 1 - 1)))]) (l := [⟨3, 0, txt.tail.take (txt.length - 1 - 1)⟩]) (m := 1) (n := w6.heap.size) (e := 118) (fr := (0, 0)) rfl rfl rfl (by simp [maxLen])).drew)
                    have hs6 := HI6.out.gr.size
                    have a1A := fun o : Obj => (HI6.out.ext hbw ((Below.refl _ _).alloc (Nat.le_refl _) o)).fact.2.1
                    go_wp2_with fail
                    go_region_law (refine step_append rfl (en := eSt) (s := 3) (base := w.heap.size) (e := 118) _ _ _ (by rfl) _ 32 Try.underlying94 info118 rfl (by decide) len_eSt one_eSt _ _ acc [⟨3, 0, txt.tail.take (txt.length - 1 - 1)⟩] (by rfl) (HI6.out.own.alloc _).drew (by rfl) HSl.out (by simp [maxLen]; omega) (by simp; omega) (by simp; omega) ?_; intro v4 w4 hown4 hgr4 hb4; obtain ⟨va, vn, vc, rfl⟩ := hown4.isSlice; have HIA := Lib.hid (HI6.out.app _ hown4 (grown_undrew hgr4)); obtain ⟨n4, f4⟩ := HI6.out.app4 _ (grown_undrew hgr4); clear hown4 hgr4 hb4)
                    all_goals
                      clear hw1 hw2 hw3 hw4 hw5 hw6 HI6 a1A n4 f4 lv b5 o5 c0 c1 c2 c3 cf h5 hix e1 a0 a1 af d0 d1 df
                      generalize hWA : w4.setCell ⟨R, 1, none⟩ (.slice va vn vc) = wb at HIA ⊢
                      clear hWA
                      obtain ⟨lv, b5, o5, c0, c1, c2, c3, cf, h5, hix, -, e1, -⟩ := HIA.out.ds.fact HT1.out.ne
                      obtain ⟨a0, a1, af, d0, d1, df⟩ := HIA.out.fact
                      have HIB := Lib.hid (HIA.out.next hbw)
                      have HAt2 := Lib.hid HIB.out.ds.mOf
                      have hpp := Tl.lt HT2.out
                      go_wp2_with fail
                      go_roundw
                      case rel => exact ⟨q1 + 1, false, _, _, HIB, by omega, HT2, .inr ⟨rfl, by simp only [List.length_append, List.length_singleton]; rw [drop_len]; omega, f - 1, by rw [drop_len]; omega, HE2⟩⟩
                      case measure => rw [HAt2.out, HAt.out]; simp only [Bool.false_eq_true, if_false]; omega
                  · have d7 : ((m3 : Int) == 7) = false := by rw [beq_eq_false_iff_ne]; omega
                    have H7 := Lib.hid (show kd (L.drop q).tail ≠ 7 by rw [← Hdt.out, hm3.out]; exact h7)
                    clear h7
                    have HC := Lib.hid (fun (u : World) (hu : Below w6.heap.size w6 u) => rcnt_any b L q1 nots u (HI6.out.ds.ext hu) HT1.out (by have := Tl.lt HT1.out; omega))
                    have hcl : ∀ {n r}, cnt (L.drop q1) = .ok (n, r) → r.length ≤ (L.drop q1).length := fun h => cnt_len h
                    cases hc : cnt (L.drop q1) with
                    | error e0 =>
                      have HE0 : Hid (steps F l0 = .error e0) := Lib.hid (by rw [HS.out, steps_upE hf HTq.out.ne hm2.out H7.out (by rw [← Hdt.out]; exact hc)]; rfl)
                      have hD := Lib.hid (fun (u : World) (hu : Below w6.heap.size w6 u) => (DPost.bad (HC.out u hu) hc).mono (R' := fun e w' => ∃ p', e = .returned (.int .i64 0) ∧ Rs b w L nots R name p' true acc (.slice sa sn sc) w' ∧ Tl (L.drop p') ∧ pl (L.drop p') = e0) (fun e w' ⟨v, p', h1, h2, h3, h4, h5, h6⟩ => ⟨p', by rw [h1, h2], (HI6.out.ext hbw hu).par hbw h6 h3, h4, h5⟩))
                      clear hc HC
                      go_wp2_with fail
                      go_region_law (first
                        | (go_simp; go_at_call 89; refine (hD.out _ (Below.refl _ _).drew).mono ?_; rintro e w10 ⟨p', rfl, hi, htl, hpl'⟩; have HI10 := Lib.hid hi; have HTr := Lib.hid htl; have HPl := Lib.hid hpl'; clear hi htl hpl'; have a1' := HI10.out.fact.2.1; have a1A := fun o : Obj => (HI10.out.ext hbw ((Below.refl _ _).alloc (Nat.le_refl _) o)).fact.2.1; have hs10 := HI10.out.gr.size; dsimp only)
                        | (refine step_append rfl (en := eSt) (s := 3) (base := w.heap.size) (e := 118) _ _ _ (by rfl) _ 32 Try.underlying94 info118 rfl (by decide) len_eSt one_eSt _ _ acc [⟨1, 0, []⟩] (by rfl) (HI10.out.own.alloc _) (by rfl) (Sl.fresh len_eSt (by simp) rfl rfl (by simp [maxLen])) (by simp [maxLen]; omega) (by simp; omega) (by simp; omega) ?_; intro v4 w4 hown4 hgr4 hb4; obtain ⟨va, vn, vc, rfl⟩ := hown4.isSlice; have HIA := Lib.hid (HI10.out.app _ hown4 hgr4); obtain ⟨n4, f4⟩ := HI10.out.app4 _ hgr4; clear hown4 hgr4 hb4))
                      all_goals
                        clear HI10 a1' a1A n4 f4 lv b5 o5 c0 c1 c2 c3 cf h5 hix e1 a0 a1 af d0 d1 df
                        have HAt2 := Lib.hid HIA.out.ds.mOf
                        have hpp := Tl.lt HTr.out
                        go_wp2_with fail
                        go_roundw
                        case rel => exact ⟨p', true, _, _, HIA, by omega, HTr, .inl ⟨rfl, Lib.hid (by rw [HPl.out]; exact HE0.out)⟩⟩
                        case measure => rw [HAt2.out, HAt.out]; simp only [Bool.false_eq_true, if_false, if_true]; omega
                    | ok x =>
                      obtain ⟨n, r⟩ := x
                      have hrl := hcl hc
                      have HE2 : Hid (steps F l0 = pre (acc ++ [⟨1, (n : Nat), []⟩]) (steps (f - 1) r)) := Lib.hid (by rw [HS.out, steps_up hf HTq.out.ne hm2.out H7.out (by rw [← Hdt.out]; exact hc), pre_cons])
                      have hD := Lib.hid (fun (u : World) (hu : Below w6.heap.size w6 u) => (DPost.ok (HC.out u hu) hc).mono (R' := fun e w' => ∃ p', e = .returned (.int .i64 (n : Nat)) ∧ Rs b w L nots R name p' false acc (.slice sa sn sc) w' ∧ L.drop p' = r ∧ Tl r) (fun e w' ⟨v, p', h1, h2, h3, h4, h5, h6⟩ => ⟨p', by rw [h1, h2], (HI6.out.ext hbw hu).par hbw h6 h3, h4, h5⟩))
                      clear hc HC
                      go_wp2_with fail
                      go_region_law (first
                        | (go_simp; go_at_call 89; refine (hD.out _ (Below.refl _ _).drew).mono ?_; rintro e w10 ⟨p', rfl, hi, hdr, htl⟩; have HI10 := Lib.hid hi; have HDr := Lib.hid hdr; have HTr := Lib.hid htl; clear hi hdr htl; have a1' := HI10.out.fact.2.1; have a1A := fun o : Obj => (HI10.out.ext hbw ((Below.refl _ _).alloc (Nat.le_refl _) o)).fact.2.1; have hs10 := HI10.out.gr.size; dsimp only)
                        | (refine step_append rfl (en := eSt) (s := 3) (base := w.heap.size) (e := 118) _ _ _ (by rfl) _ 32 Try.underlying94 info118 rfl (by decide) len_eSt one_eSt _ _ acc [⟨1, (n : Nat), []⟩] (by rfl) (HI10.out.own.alloc _) (by rfl) (Sl.fresh len_eSt (by simp) rfl rfl (by simp [maxLen])) (by simp [maxLen]; omega) (by simp; omega) (by simp; omega) ?_; intro v4 w4 hown4 hgr4 hb4; obtain ⟨va, vn, vc, rfl⟩ := hown4.isSlice; have HIA := Lib.hid (HI10.out.app _ hown4 hgr4); obtain ⟨n4, f4⟩ := HI10.out.app4 _ hgr4; clear hown4 hgr4 hb4))
                      all_goals
                        clear HI10 a1' a1A n4 f4 lv b5 o5 c0 c1 c2 c3 cf h5 hix e1 a0 a1 af d0 d1 df
                        have HAt2 := Lib.hid HIA.out.ds.mOf
                        have hpp : p' < L.length := Tl.lt (by rw [HDr.out]; exact HTr.out)
                        go_wp2_with fail
                        go_roundw
                        case rel => exact ⟨p', false, _, _, HIA, by omega, Lib.hid (by rw [HDr.out]; exact HTr.out), .inr ⟨rfl, by rw [HDr.out]; simp only [List.length_append, List.length_singleton]; omega, f - 1, by rw [HDr.out]; omega, Lib.hid (by rw [HDr.out]; exact HE2.out)⟩⟩
                        case measure => rw [HAt2.out, HAt.out]; have := drop_of_tail HDr.out hrl HTr.out; simp only [Bool.false_eq_true, if_false]; omega
              · have d3 : ((m2 : Int) == 3) = false := by rw [beq_eq_false_iff_ne]; omega
                have d4 : ((m2 : Int) == 4) = false := by rw [beq_eq_false_iff_ne]; omega
                have HZ : Hid (rev (L.drop p) = .ok (⟨name, acc⟩, L.drop q)) := Lib.hid (by rw [rev_ok hm.out htb.out (x := acc) (r := L.drop q) (by rw [hF.out, ← drop_tail, hl0.out, HS.out, steps_end (by rw [hm2.out]; exact h3) (by rw [hm2.out]; exact h4)]; simp [pre]), hname.out])
                clear h3 h4
                have HK3 := Lib.hid (HI.out.ds.kindB HTq.out.ne)
                rw [hm2.out] at HK3
                go_wp2_with fail
                refine HK3.out.mono ?_
                rintro e w3 ⟨rfl, hb⟩
                have HI3 := Lib.hid (HI.out.ext hbw hb)
                clear hb HK3 lv b5 o5 c0 c1 c2 c3 cf h5 hix e1 a0 a1 af d0 d1 df
                obtain ⟨lv, b5, o5, c0, c1, c2, c3, cf, h5, hix, -, e1, -⟩ := HI3.out.ds.fact HTq.out.ne
                obtain ⟨a0, a1, af, d0, d1, df⟩ := HI3.out.fact
                have HK4 := Lib.hid (HI3.out.ds.kindB HTq.out.ne)
                rw [hm2.out] at HK4
                go_wp2_with fail
                refine HK4.out.mono ?_
                rintro e w4 ⟨rfl, hb⟩
                have HI4 := Lib.hid (HI3.out.ext hbw hb)
                clear hb HK4 lv b5 o5 c0 c1 c2 c3 cf h5 hix e1 a0 a1 af d0 d1 df
                obtain ⟨lv, b5, o5, c0, c1, c2, c3, cf, h5, hix, -, e1, -⟩ := HI4.out.ds.fact HTq.out.ne
                obtain ⟨a0, a1, af, d0, d1, df⟩ := HI4.out.fact
                have hkN := Lib.hid (show Bk _ 96 w.heap.size from ⟨_, HI4.out.res⟩)
                go_wp2_with fail
                refine bodyPost_ret (v := .agg #[.string (bstr name), .slice sa sn sc]) ?_ rfl ?_
                · simp [results, Try.results75, go_sem, d0, d1]; try rfl
                · exact DPost.is HZ.out (grown_set2 HI4.out.gr (Nat.le_refl _) 0 1 _ _) ⟨sa, sn, sc, rfl, Own.set_bk (Own.set_bk HI4.out.own hkN.out (by decide) 0 _) (hkN.out.set _ _ _) (by decide) 1 _⟩ ((HI4.out.ds.set hkN.out (by decide) (by decide) 0 _).set (hkN.out.set _ _ _) (by decide) (by decide) 1 _) rfl HTq.out
  · have HZ : Hid (rev (L.drop p) = .error (pl (L.drop p))) := Lib.hid (rev_no (by rw [hm.out, htb.out]; exact hgo))
    have HP2 := Lib.hid hgo
    clear hgo
    have hnb : (!t || ((m : Int) != 1)) = true := by
      have := HP2.out
      cases t <;> simp at this ⊢; omega
    cases t with
    | true =>
      have hmb : ((m : Int) != 1) = true := by simpa using hnb
      clear hnb
      go_enter Try.func75, Try.ntmps75
      go_wp2_with fail
      rw [HA.out]
      go_quiet (first | (go_at_call 44; exact Calls.quiet_of (HK.out _)) | (go_at_call 79; exact Calls.quiet_of (HB.out _)))
      go_wp2_with fail
      have HDz := Lib.hid ((HDA.out.drewN nq).bad)
      have HGz := Lib.hid (grown_trans (grown_drewN HGA.out nq) (grown_set (wA.drewN nq) ⟨b, 2, none⟩ (.bool true)))
      have hNz : ((wA.drewN nq).setCell ⟨b, 2, none⟩ (.bool true)).heap[w.heap.size]? = some z96 := heap_set_keep HNA.out (by simp only []; omega)
      have hkN := Lib.hid (show Bk _ 96 w.heap.size from ⟨_, hNz⟩)
      refine bodyPost_ret (v := .agg #[.string .empty, .slice none 0 0]) ?_ rfl ?_
      · clear hNz; simp [results, Try.results75, go_sem, n0, n1]; try rfl
      · exact DPost.no HZ.out (grown_set2 HGz.out (Nat.le_refl _) 0 1 _ _) ⟨[], none, 0, 0, rfl⟩ ((HDz.out.set hkN.out (by decide) (by decide) 0 _).set (hkN.out.set _ _ _) (by decide) (by decide) 1 _) HT.out rfl
    | false =>
      clear hnb
      by_cases h1 : m = 1
      · subst h1
        go_enter Try.func75, Try.ntmps75
        go_wp2_with fail
        rw [HA.out]
        go_quiet (first | (go_at_call 44; exact Calls.quiet_of (HK.out _)) | (go_at_call 79; exact Calls.quiet_of (HB.out _)))
        go_wp2_with fail
        have HDz := Lib.hid ((HDA.out.drewN nq).bad)
        have HGz := Lib.hid (grown_trans (grown_drewN HGA.out nq) (grown_set (wA.drewN nq) ⟨b, 2, none⟩ (.bool true)))
        have hNz : ((wA.drewN nq).setCell ⟨b, 2, none⟩ (.bool true)).heap[w.heap.size]? = some z96 := heap_set_keep HNA.out (by simp only []; omega)
        have hkN := Lib.hid (show Bk _ 96 w.heap.size from ⟨_, hNz⟩)
        refine bodyPost_ret (v := .agg #[.string .empty, .slice none 0 0]) ?_ rfl ?_
        · clear hNz; simp [results, Try.results75, go_sem, n0, n1]; try rfl
        · exact DPost.no HZ.out (grown_set2 HGz.out (Nat.le_refl _) 0 1 _ _) ⟨[], none, 0, 0, rfl⟩ ((HDz.out.set hkN.out (by decide) (by decide) 0 _).set (hkN.out.set _ _ _) (by decide) (by decide) 1 _) HT.out rfl
      · have hmb : ((m : Int) != 1) = true := by rw [bne_iff_ne]; omega
        clear h1
        go_enter Try.func75, Try.ntmps75
        go_wp2_with fail
        rw [HA.out]
        go_quiet (first | (go_at_call 44; exact Calls.quiet_of (HK.out _)) | (go_at_call 79; exact Calls.quiet_of (HB.out _)))
        go_wp2_with fail
        have HDz := Lib.hid ((HDA.out.drewN nq).bad)
        have HGz := Lib.hid (grown_trans (grown_drewN HGA.out nq) (grown_set (wA.drewN nq) ⟨b, 2, none⟩ (.bool true)))
        have hNz : ((wA.drewN nq).setCell ⟨b, 2, none⟩ (.bool true)).heap[w.heap.size]? = some z96 := heap_set_keep HNA.out (by simp only []; omega)
        have hkN := Lib.hid (show Bk _ 96 w.heap.size from ⟨_, hNz⟩)
        refine bodyPost_ret (v := .agg #[.string .empty, .slice none 0 0]) ?_ rfl ?_
        · clear hNz; simp [results, Try.results75, go_sem, n0, n1]; try rfl
        · exact DPost.no HZ.out (grown_set2 HGz.out (Nat.le_refl _) 0 1 _ _) ⟨[], none, 0, 0, rfl⟩ ((HDz.out.set hkN.out (by decide) (by decide) 0 _).set (hkN.out.set _ _ _) (by decide) (by decide) 1 _) HT.out rfl
end Go.Proofs.Ytolahnnkdpbdfaa
