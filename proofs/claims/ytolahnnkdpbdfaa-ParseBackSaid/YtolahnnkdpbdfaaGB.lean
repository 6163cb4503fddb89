/-
  Layer 28: an item that must follow, behind a caret, the program's walk. No condition besides what lies where.
  Layer 28: an item that must follow, not behind a caret, the program's walk. No condition besides what lies where.
  Layer 28: both ways of an item joined; a text cut at a byte; flags in plain Lean. No condition besides what lies where.
-/
import Derived.Test.YtolahnnkdpbdfaaGA
import Derived.Deep.RegionHeld3
import Derived.Test.YtolahnnkdpbdfaaShelf3
import Derived.Lib.IndexMore
namespace Go.Proofs.Ytolahnnkdpbdfaa
open Go.RowKit Go.Sl Go.Prs
theorem bk_new (w : World) (cs : Array Value) (e : TypeId) : Bk (w.alloc (.cells cs e)) e w.heap.size := ⟨cs, heap_alloc_new _ _⟩
/-- the six cells of an item stored in a block of its own -/
theorem Pz.set6 {b : Nat} {w : World} {rest : List Value} {l : List Lex.Tok} (h : Pz b w rest l) {g : Nat} (hk : Bk w 83 g) (v0 v1 v2 v3 v4 v5 : Value) :
    Pz b ((((((w.setCell ⟨g, 0, none⟩ v0).setCell ⟨g, 1, none⟩ v1).setCell ⟨g, 2, none⟩ v2).setCell ⟨g, 3, none⟩ v3).setCell ⟨g, 4, none⟩ v4).setCell ⟨g, 5, none⟩ v5) rest l := by
  have h0 := h.set (a := ⟨g, 0, none⟩) hk v0 (by decide) (by decide)
  have k0 := hk.set g 0 v0
  have h1 := h0.set (a := ⟨g, 1, none⟩) k0 v1 (by decide) (by decide)
  have k1 := k0.set g 1 v1
  have h2 := h1.set (a := ⟨g, 2, none⟩) k1 v2 (by decide) (by decide)
  have k2 := k1.set g 2 v2
  have h3 := h2.set (a := ⟨g, 3, none⟩) k2 v3 (by decide) (by decide)
  have k3 := k2.set g 3 v3
  have h4 := h3.set (a := ⟨g, 4, none⟩) k3 v4 (by decide) (by decide)
  have k4 := k3.set g 4 v4
  exact h4.set (a := ⟨g, 5, none⟩) k4 v5 (by decide) (by decide)
theorem grown_set6 {b : Nat} {w0 w : World} (h : w0.grownBy w (some b)) {g : Nat} (hg : w0.heap.size ≤ g) (v0 v1 v2 v3 v4 v5 : Value) :
    w0.grownBy ((((((w.setCell ⟨g, 0, none⟩ v0).setCell ⟨g, 1, none⟩ v1).setCell ⟨g, 2, none⟩ v2).setCell ⟨g, 3, none⟩ v3).setCell ⟨g, 4, none⟩ v4).setCell ⟨g, 5, none⟩ v5) (some b) :=
  grown_over (grown_over (grown_over (grown_over (grown_over (grown_over h (grown_set _ ⟨g, 0, none⟩ _) hg) (grown_set _ ⟨g, 1, none⟩ _) hg) (grown_set _ ⟨g, 2, none⟩ _) hg) (grown_set _ ⟨g, 3, none⟩ _) hg) (grown_set _ ⟨g, 4, none⟩ _) hg) (grown_set _ ⟨g, 5, none⟩ _) hg
theorem own_set6 {w : World} {N : Nat} {v : Value} {x : List St} (h : Own eSt 3 N 103 w v x) {g : Nat} (hk : Bk w 83 g) (v0 v1 v2 v3 v4 v5 : Value) :
    Own eSt 3 N 103 ((((((w.setCell ⟨g, 0, none⟩ v0).setCell ⟨g, 1, none⟩ v1).setCell ⟨g, 2, none⟩ v2).setCell ⟨g, 3, none⟩ v3).setCell ⟨g, 4, none⟩ v4).setCell ⟨g, 5, none⟩ v5) v x := by
  have h0 := Own.set_bk h hk (by decide) 0 v0
  have k0 := hk.set g 0 v0
  have h1 := Own.set_bk h0 k0 (by decide) 1 v1
  have k1 := k0.set g 1 v1
  have h2 := Own.set_bk h1 k1 (by decide) 2 v2
  have k2 := k1.set g 2 v2
  have h3 := Own.set_bk h2 k2 (by decide) 3 v3
  have k3 := k2.set g 3 v3
  have h4 := Own.set_bk h3 k3 (by decide) 4 v4
  have k4 := k3.set g 4 v4
  exact Own.set_bk h4 k4 (by decide) 5 v5
abbrev z83 : Obj := .cells #[.int .i64 0, .string .empty, .slice none 0 0, .string .empty, .slice none 0 0, .bool false] 83 (0, 0)
set_option maxRecDepth 100000 in
set_option maxHeartbeats 1000000 in
theorem itemA_any (b : Nat) (rest : List Value) (nt : Bool) (hrest : rest[6]? = some (.bool nt)) (l : List Lex.Tok) (w : World) (h : Pz b w rest l) (ht : Tl l) (hl : l.length ≤ 100) (h3 : kd l = 3) :
    Calls Try.prog 73 #[.pointer (some ⟨b, 0, none⟩)] w (PPost b w rest (item nt l) (ItR w.heap.size)) := by
  have HP := Lib.hid h
  have HT := Lib.hid ht
  have H3 := Lib.hid h3
  have HR := Lib.hid hrest
  have hbw : b < w.heap.size := h.lt
  have hGA := Lib.hid (fun o : Obj => grown_below (b := b) ((Below.refl _ w).alloc (Nat.le_refl _) o))
  have HK : Hid (∀ o : Obj, Calls Try.prog 70 #[.pointer (some ⟨b, 0, none⟩)] (w.alloc o) fun e w' => e = .returned (.int .i64 (3 : Nat)) ∧ w.alloc o = w') := Lib.hid (fun o => by have := (HP.out.alloc o).kind HT.out.ne; rwa [h3] at this)
  have hNA := Lib.hid (heap_alloc_new w z83)
  clear h ht h3 hrest
  obtain ⟨t0, r0, rfl⟩ := HT.out.cons
  have HT0 : Hid (Tl r0) := Lib.hid (HT.out.tail (by rw [H3.out]; decide))
  have hr : r0.length + 1 ≤ 100 := hl
  have HTk := Lib.hid (fun o : Obj => (HP.out.alloc o).take)
  go_enter Try.func73, Try.ntmps73
  go_wp2_with fail
  refine (HK.out _).mono ?_
  rintro e w' ⟨rfl, rfl⟩
  go_wp2_with fail
  refine (HTk.out _).mono ?_
  rintro e w1 ⟨rfl, hp1, hg1⟩
  have HP1 := Lib.hid hp1
  have HG1 := Lib.hid (grown_trans (hGA.out _) hg1)
  have HN1 := Lib.hid (grown_heap hg1 hNA.out (by intro e1; have := Option.some.inj e1; omega))
  have hs1 : w.heap.size + 1 ≤ w1.heap.size := by have := hg1.size; simpa using this
  clear hp1 hg1 hNA HTk HK
  have hn7 := HP1.out.cell HR.out
  have HRv := Lib.hid (fun (u : World) (hu : Below w1.heap.size w1 u) => rev1_any b rest r0 u (HP1.out.ext hu) HT0.out (by omega))
  cases hst : rev r0 with
  | error p =>
    have HE : Hid (item nt (t0 :: r0) = .error p) := Lib.hid (item_upE H3.out hst)
    have hD := Lib.hid (fun (u : World) (hu : Below w1.heap.size w1 u) => (PPost.bad (HRv.out u hu) hst).mono (R' := fun e w' => e = .panicked (flt p) ∧ w.grownBy w' (some b)) (fun e w' ⟨q1, q2⟩ => ⟨q1, grown_trans (grown_trans HG1.out (grown_below hu)) q2⟩))
    clear hst HRv
    go_wp2_with fail
    refine wp_region_held_drew (S := fun u => u.cell? ⟨b, 7, none⟩ = some (.bool nt) ∧ Below w1.heap.size w1 u) (by kernel_rfl) ⟨hn7, (Below.refl _ _).drew⟩ (fun hHeld => ?_)
    refine wpAnyH_take (i := 0) (oi := { dst := some 11, op := Op.move (Operand.tmp 0), type := 84, pos := "parse.go:138", after := #[], guard := none }) (v := ?_) rfl (by kernel_rfl) (by kernel_rfl) (by kernel_rfl) (fun _ _ _ h => h) (Or.inl ⟨by rfl, ?_⟩) (by assumption) ?_
    rotate_left
    · intro u hSu; (try dsimp only at hSu); go_split_ands; (go_simp <;> with_reducible rfl)
    try simp only [Act.put, List.setIfInBounds_toArray, List.set_cons_zero, List.set_cons_succ]
    refine wpAnyH_take (i := 2) (oi := { dst := some 13, op := Op.move (Operand.tmp 0), type := 84, pos := "parse.go:138", after := #[], guard := none }) (v := ?_) rfl (by kernel_rfl) (by kernel_rfl) (by kernel_rfl) (fun _ _ _ h => h) (Or.inl ⟨by rfl, ?_⟩) (by assumption) ?_
    rotate_left
    · intro u hSu; (try dsimp only at hSu); go_split_ands; (go_simp <;> with_reducible rfl)
    try simp only [Act.put, List.setIfInBounds_toArray, List.set_cons_zero, List.set_cons_succ]
    refine wpAnyH_take (i := 3) (oi := { dst := some 14, op := Op.nilCheck (Operand.tmp 13), type := 0, pos := "parse.go:138", after := #[{ on := 2, ground := Ground.data }], guard := none }) (v := ?_) rfl (by kernel_rfl) (by kernel_rfl) (by kernel_rfl) (fun _ _ _ h => h) (Or.inl ⟨by rfl, ?_⟩) (by assumption) ?_
    rotate_left
    · intro u hSu; (try dsimp only at hSu); go_split_ands; (go_simp <;> with_reducible rfl)
    try simp only [Act.put, List.setIfInBounds_toArray, List.set_cons_zero, List.set_cons_succ]
    refine wpAnyH_take (i := 4) (oi := { dst := some 15, op := Op.fieldAddr 86 (Operand.tmp 14) 2, type := 0, pos := "parse.go:138", after := #[{ on := 3, ground := Ground.data }], guard := none }) (v := ?_) rfl (by kernel_rfl) (by kernel_rfl) (by kernel_rfl) (fun _ _ _ h => h) (Or.inl ⟨by rfl, ?_⟩) (by assumption) ?_
    rotate_left
    · intro u hSu; (try dsimp only at hSu); go_split_ands; (go_simp <;> with_reducible rfl)
    try simp only [Act.put, List.setIfInBounds_toArray, List.set_cons_zero, List.set_cons_succ]
    refine wpAnyH_take (i := 5) (oi := { dst := some 16, op := Op.load 4 (Operand.tmp 15), type := 4, pos := "parse.go:138", after := #[{ on := 4, ground := Ground.data }], guard := none }) (v := ?_) rfl (by kernel_rfl) (by kernel_rfl) (by kernel_rfl) (fun _ _ _ h => h) (Or.inl ⟨by rfl, ?_⟩) (by assumption) ?_
    rotate_left
    · intro u hSu; (try dsimp only at hSu); go_split_ands; (go_simp <;> with_reducible rfl)
    try simp only [Act.put, List.setIfInBounds_toArray, List.set_cons_zero, List.set_cons_succ]
    refine wpAnyH_take (i := 6) (oi := { dst := some 17, op := Op.unOp UnOp.not 4 (Operand.tmp 16), type := 4, pos := "parse.go:138", after := #[{ on := 5, ground := Ground.data }], guard := none }) (v := ?_) rfl (by kernel_rfl) (by kernel_rfl) (by kernel_rfl) (fun _ _ _ h => h) (Or.inl ⟨by rfl, ?_⟩) (by assumption) ?_
    rotate_left
    · intro u hSu; (try dsimp only at hSu); go_split_ands; (go_simp <;> with_reducible rfl)
    try simp only [Act.put, List.setIfInBounds_toArray, List.set_cons_zero, List.set_cons_succ]
    refine wpAnyH_ready (rs := [1]) (by kernel_rfl) (by simp) ?_
    refine AllReadyH.cons (o := { dst := some 12, op := Op.call { callee := Callee.value (Operand.func 87), args := #[Operand.tmp 11], argTypes := #[84] }, type := 81, pos := "parse.go:138", after := #[{ on := 0, ground := Ground.data }], guard := none }) rfl (fun K hK => ?_) AllReadyH.nil
    go_simp
    (refine (hD.out _ hHeld.2).mono ?_; rintro e w3 ⟨rfl, hg3⟩; exact ⟨rfl, PPost.no HE.out hg3⟩)

  | ok x =>
    obtain ⟨x, r⟩ := x
    have HE : Hid (item nt (t0 :: r0) = .ok (⟨1, x, zRv, !nt⟩, r)) := Lib.hid (item_up H3.out hst)
    have hD := Lib.hid (fun (u : World) (hu : Below w1.heap.size w1 u) => (PPost.ok (HRv.out u hu) hst).mono (R' := fun e w' => ∃ a3 n3 c3, e = .returned (.agg #[.string (bstr x.b), .slice a3 n3 c3]) ∧ Own eSt 3 w.heap.size 103 w' (.slice a3 n3 c3) x.st ∧ Pz b w' rest r ∧ Tl r ∧ w.grownBy w' (some b) ∧ w'.heap[w.heap.size]? = some z83) (fun e w' ⟨v, q1, ⟨v2, q2, q3⟩, q4, q5, q6⟩ => by
      obtain ⟨a3, n3, c3, rfl⟩ := q3.isSlice
      subst q2
      have hu2 := hu.size
      refine ⟨a3, n3, c3, q1, q3.mono (by omega), q4, q5, grown_trans (grown_trans HG1.out (grown_below hu)) q6, ?_⟩
      exact grown_heap q6 ((hu.block _ (by omega)).trans HN1.out) (by intro e1; have := Option.some.inj e1; omega)))
    clear hst HRv
    go_wp2_with fail
    go_region_with (go_at_call 87; go_must (refine (hD.out _ ?hu).mono ?_; (case hu => first | exact Below.refl _ _ | exact (Below.refl _ _).drew); rintro e w3 ⟨a3, n3, c3, rfl, ho3, hp3, ht3, hg3, hn3⟩; have HO3 := Lib.hid ho3; have HP3 := Lib.hid hp3; have HT3 := Lib.hid ht3; have HG3 := Lib.hid hg3; have HN3 := Lib.hid hn3; have hn7' := HP3.out.cell HR.out; obtain ⟨g0, g1, g2, g3, g4, g5, g6⟩ := six_cells HN3.out; have gf := bk_frozen ⟨_, HN3.out⟩; clear ho3 hp3 ht3 hg3 hn3))
    all_goals
      go_wp2_with fail
      have hk := Lib.hid (show Bk w3 83 w.heap.size from ⟨_, HN3.out⟩)
      exact bodyPost_ret (v := .agg #[.int .i64 1, .string (bstr x.b), .slice a3 n3 c3, .string .empty, .slice none 0 0, .bool !nt]) (by simp [results, Try.results73, go_sem, g1, g2, g3, g4, g5, g6]; try rfl) rfl
        (PPost.is HE.out ⟨a3, n3, c3, none, 0, 0, rfl, own_set6 HO3.out hk.out _ _ _ _ _ _, Own.nil _ _ _ _ _⟩ (HP3.out.set6 hk.out _ _ _ _ _ _) HT3.out (grown_set6 HG3.out (Nat.le_refl _) _ _ _ _ _ _))
end Go.Proofs.Ytolahnnkdpbdfaa

namespace Go.Proofs.Ytolahnnkdpbdfaa
open Go.RowKit Go.Sl Go.Prs
theorem Pz.set2 {b : Nat} {w : World} {rest : List Value} {l : List Lex.Tok} (h : Pz b w rest l) {g : Nat} {e : TypeId} (hk : Bk w e g) (h1 : (86 : TypeId) ≠ e) (h2 : (33 : TypeId) ≠ e) (j k : Nat) (v0 v1 : Value) :
    Pz b ((w.setCell ⟨g, j, none⟩ v0).setCell ⟨g, k, none⟩ v1) rest l :=
  (h.set (a := ⟨g, j, none⟩) hk v0 h1 h2).set (a := ⟨g, k, none⟩) (hk.set g j v0) v1 h1 h2
theorem grown_set2 {b : Nat} {w0 w : World} (h : w0.grownBy w (some b)) {g : Nat} (hg : w0.heap.size ≤ g) (j k : Nat) (v0 v1 : Value) :
    w0.grownBy ((w.setCell ⟨g, j, none⟩ v0).setCell ⟨g, k, none⟩ v1) (some b) :=
  grown_over (grown_over h (grown_set _ ⟨g, j, none⟩ _) hg) (grown_set _ ⟨g, k, none⟩ _) hg
/-- what stands when an item is begun: its result's block, the one of '@', the item's own -/
structure Itm (b : Nat) (w : World) (rest : List Value) (l : List Lex.Tok) (k : Int) (ab : List UInt8) (av : Value) (bb : List UInt8) (bv : Value) (nt : Bool) (wr : World) : Prop where
  res : wr.heap[w.heap.size]? = some z83
  at_ : wr.heap[w.heap.size + 1]? = some (.cells #[.string (bstr [64]), .slice none 0 0] 81 (0, 0))
  it : wr.heap[w.heap.size + 1 + 1]? = some (.cells #[.int .i64 k, .string (bstr ab), av, .string (bstr bb), bv, .bool nt] 83 (0, 0))
  pz : Pz b wr rest l
  tl : Tl l
  gr : w.grownBy wr (some b)
theorem Itm.start {b : Nat} {w : World} {rest : List Value} {l : List Lex.Tok} (nt : Bool) (h : Pz b w rest l) (ht : Tl l) :
    Itm b w rest l 0 [64] (.slice none 0 0) [] (.slice none 0 0) nt (((w.alloc z83).alloc (.cells #[.string (bstr [64]), .slice none 0 0] 81)).alloc (.cells #[.int .i64 0, .string (bstr [64]), .slice none 0 0, .string (bstr []), .slice none 0 0, .bool nt] 83)).drew := by
  have h1 := heap_alloc_new w z83
  have h2 := heap_alloc_new (w.alloc z83) (.cells #[.string (bstr [64]), .slice none 0 0] 81)
  have h3 := heap_alloc_new ((w.alloc z83).alloc (.cells #[.string (bstr [64]), .slice none 0 0] 81)) (.cells #[.int .i64 0, .string (bstr [64]), .slice none 0 0, .string (bstr []), .slice none 0 0, .bool nt] 83)
  have e2 : (w.alloc z83).heap.size = w.heap.size + 1 := by simp
  have e3 : ((w.alloc z83).alloc (.cells #[.string (bstr [64]), .slice none 0 0] 81)).heap.size = w.heap.size + 1 + 1 := by simp
  rw [e2] at h2
  rw [e3] at h3
  exact ⟨heap_keep (heap_keep h1), heap_keep h2, h3, (((h.alloc _).alloc _).alloc _).drew, ht, grown_trans (grown_alloc (grown_alloc (grown_alloc (grown_refl _ _) _) _) _) (grown_below (Below.refl _ _).drew)⟩
section
variable {b : Nat} {w : World} {rest : List Value} {l : List Lex.Tok} {k : Int} {ab : List UInt8} {av : Value} {bb : List UInt8} {bv : Value} {nt : Bool} {wr : World}
theorem Itm.call (h : Itm b w rest l k ab av bb bv nt wr) {w' : World} {r : List Lex.Tok} (hb : b < w.heap.size) (hg : wr.grownBy w' (some b)) (hp : Pz b w' rest r) (ht : Tl r) : Itm b w rest r k ab av bb bv nt w' :=
  ⟨grown_heap hg h.res (by intro e; have := Option.some.inj e; omega), grown_heap hg h.at_ (by intro e; have := Option.some.inj e; omega), grown_heap hg h.it (by intro e; have := Option.some.inj e; omega), hp, ht, grown_trans h.gr hg⟩
theorem Itm.bk (h : Itm b w rest l k ab av bb bv nt wr) : Bk wr 83 (w.heap.size + 1 + 1) := ⟨_, h.it⟩
theorem Itm.setA (h : Itm b w rest l k ab av bb bv nt wr) (a' : List UInt8) (v' : Value) : Itm b w rest l k a' v' bb bv nt ((wr.setCell ⟨w.heap.size + 1 + 1, 1, none⟩ (.string (bstr a'))).setCell ⟨w.heap.size + 1 + 1, 2, none⟩ v') :=
  ⟨heap_set_keep (heap_set_keep h.res (by simp only []; omega)) (by simp only []; omega), heap_set_keep (heap_set_keep h.at_ (by simp only []; omega)) (by simp only []; omega), heap_setCell_same _ _ _ _ _ _ (heap_setCell_same _ _ _ _ _ _ h.it), h.pz.set2 h.bk (by decide) (by decide) _ _ _ _, h.tl, grown_set2 h.gr (by omega) _ _ _ _⟩
theorem Itm.setB (h : Itm b w rest l k ab av bb bv nt wr) (a' : List UInt8) (v' : Value) : Itm b w rest l k ab av a' v' nt ((wr.setCell ⟨w.heap.size + 1 + 1, 3, none⟩ (.string (bstr a'))).setCell ⟨w.heap.size + 1 + 1, 4, none⟩ v') :=
  ⟨heap_set_keep (heap_set_keep h.res (by simp only []; omega)) (by simp only []; omega), heap_set_keep (heap_set_keep h.at_ (by simp only []; omega)) (by simp only []; omega), heap_setCell_same _ _ _ _ _ _ (heap_setCell_same _ _ _ _ _ _ h.it), h.pz.set2 h.bk (by decide) (by decide) _ _ _ _, h.tl, grown_set2 h.gr (by omega) _ _ _ _⟩
theorem Itm.setK (h : Itm b w rest l k ab av bb bv nt wr) (k' : Int) : Itm b w rest l k' ab av bb bv nt (wr.setCell ⟨w.heap.size + 1 + 1, 0, none⟩ (.int .i64 k')) :=
  ⟨heap_set_keep h.res (by simp only []; omega), heap_set_keep h.at_ (by simp only []; omega), heap_setCell_same _ _ _ _ _ _ h.it, h.pz.set (a := ⟨w.heap.size + 1 + 1, 0, none⟩) h.bk _ (by decide) (by decide), h.tl, grown_over h.gr (grown_set _ ⟨w.heap.size + 1 + 1, 0, none⟩ _) (by simp only []; omega)⟩
theorem Itm.own (h : Itm b w rest l k ab av bb bv nt wr) {N : Nat} {v : Value} {x : List St} (ho : Own eSt 3 N 103 wr v x) (j : Nat) (u : Value) : Own eSt 3 N 103 (wr.setCell ⟨w.heap.size + 1 + 1, j, none⟩ u) v x := Own.set_bk ho h.bk (by decide) j u
theorem Itm.own2 (h : Itm b w rest l k ab av bb bv nt wr) {N : Nat} {v : Value} {x : List St} (ho : Own eSt 3 N 103 wr v x) (i j : Nat) (u u' : Value) : Own eSt 3 N 103 ((wr.setCell ⟨w.heap.size + 1 + 1, i, none⟩ u).setCell ⟨w.heap.size + 1 + 1, j, none⟩ u') v x :=
  Own.set_bk (Own.set_bk ho h.bk (by decide) i u) (h.bk.set _ _ _) (by decide) j u'
theorem Itm.fact (h : Itm b w rest l k ab av bb bv nt wr) : (∀ o, wr.frozen? ⟨w.heap.size, o, none⟩ = false) ∧ (∀ o, wr.frozen? ⟨w.heap.size + 1 + 1, o, none⟩ = false) ∧
    wr.cell? ⟨w.heap.size, 0, none⟩ = some (.int .i64 0) ∧ wr.cell? ⟨w.heap.size, 1, none⟩ = some (.string .empty) ∧ wr.cell? ⟨w.heap.size, 2, none⟩ = some (.slice none 0 0) ∧ wr.cell? ⟨w.heap.size, 3, none⟩ = some (.string .empty) ∧ wr.cell? ⟨w.heap.size, 4, none⟩ = some (.slice none 0 0) ∧ wr.cell? ⟨w.heap.size, 5, none⟩ = some (.bool false) ∧
    wr.cell? ⟨w.heap.size + 1, 0, none⟩ = some (.string (bstr [64])) ∧ wr.cell? ⟨w.heap.size + 1, 1, none⟩ = some (.slice none 0 0) ∧
    wr.cell? ⟨w.heap.size + 1 + 1, 0, none⟩ = some (.int .i64 k) ∧ wr.cell? ⟨w.heap.size + 1 + 1, 1, none⟩ = some (.string (bstr ab)) ∧ wr.cell? ⟨w.heap.size + 1 + 1, 2, none⟩ = some av ∧ wr.cell? ⟨w.heap.size + 1 + 1, 3, none⟩ = some (.string (bstr bb)) ∧ wr.cell? ⟨w.heap.size + 1 + 1, 4, none⟩ = some bv ∧ wr.cell? ⟨w.heap.size + 1 + 1, 5, none⟩ = some (.bool nt) := by
  obtain ⟨_, a0, a1, a2, a3, a4, a5⟩ := six_cells h.res
  obtain ⟨_, c0, c1, _, _⟩ := two_cells h.at_
  obtain ⟨_, d0, d1, d2, d3, d4, d5⟩ := six_cells h.it
  exact ⟨bk_frozen ⟨_, h.res⟩, bk_frozen h.bk, a0, a1, a2, a3, a4, a5, c0, c1, d0, d1, d2, d3, d4, d5⟩
end
set_option maxRecDepth 100000 in
set_option maxHeartbeats 8000000 in
theorem itemB_any (b : Nat) (rest : List Value) (nt : Bool) (hrest : rest[6]? = some (.bool nt)) (l : List Lex.Tok) (w : World) (h : Pz b w rest l) (ht : Tl l) (hl : l.length ≤ 100) (h3 : kd l ≠ 3) :
    Calls Try.prog 73 #[.pointer (some ⟨b, 0, none⟩)] w (PPost b w rest (item nt l) (ItR w.heap.size)) := by
  have HP := Lib.hid h
  have HT := Lib.hid ht
  have H3 := Lib.hid h3
  have HR := Lib.hid hrest
  have hbw : b < w.heap.size := h.lt
  have hGA := Lib.hid (fun o : Obj => grown_below (b := b) ((Below.refl _ w).alloc (Nat.le_refl _) o))
  obtain ⟨m, hm⟩ : ∃ m, Hid (kd l = m) := ⟨_, Lib.hid rfl⟩
  have h3b : ((m : Int) == 3) = false := by rw [beq_eq_false_iff_ne]; have := hm.out; omega
  have HK : Hid (∀ o : Obj, Calls Try.prog 70 #[.pointer (some ⟨b, 0, none⟩)] (w.alloc o) fun e w' => e = .returned (.int .i64 (m : Nat)) ∧ w.alloc o = w') := Lib.hid (fun o => by have := (HP.out.alloc o).kind HT.out.ne; rwa [hm.out] at this)
  have hn7 := h.cell hrest
  have hn7A : ∀ o : Obj, (w.alloc o).cell? ⟨b, 7, none⟩ = some (.bool nt) := fun o => by rw [World.cell?_alloc_lt _ _ _ hbw]; exact hn7
  have hn7B : ∀ o o2 : Obj, ((w.alloc o).alloc o2).cell? ⟨b, 7, none⟩ = some (.bool nt) := fun o o2 => by rw [World.cell?_alloc_lt _ _ _ (by simp; omega), World.cell?_alloc_lt _ _ _ hbw]; exact hn7
  have hn7C : ∀ o o2 o3 : Obj, (((w.alloc o).alloc o2).alloc o3).cell? ⟨b, 7, none⟩ = some (.bool nt) := fun o o2 o3 => by rw [World.cell?_alloc_lt _ _ _ (by simp; omega), World.cell?_alloc_lt _ _ _ (by simp; omega), World.cell?_alloc_lt _ _ _ hbw]; exact hn7
  have hb1 : ¬ b = w.heap.size := by omega
  have hb2 : ¬ b = w.heap.size + 1 := by omega
  have hb3 : ¬ b = w.heap.size + 1 + 1 := by omega
  clear h ht h3 hrest
  go_enter Try.func73, Try.ntmps73
  go_wp2_with fail
  refine (HK.out _).mono ?_
  rintro e w' ⟨rfl, rfl⟩
  go_wp2_with fail
  go_cut [4] (fun s wx => s = .pointer (some ⟨w.heap.size + 1 + 1, 0, none⟩) ∧ Hid (Itm b w rest l 0 [64] (.slice none 0 0) [] (.slice none 0 0) nt wx))
  case first =>
    go_region_with (fail)
    all_goals
      go_wp2_with fail
      go_meet
      exact ⟨rfl, Lib.hid (Itm.start nt HP.out HT.out)⟩
  case rest =>
    obtain ⟨w5, rfl⟩ : ∃ w5 : World, w5 = wc := ⟨_, rfl⟩
    obtain ⟨rfl, HI⟩ := hcut
    clear HK hn7 hn7A hn7B hn7C h3b hGA
    have HD := Lib.hid (HI.out.pz.dots HT.out.ne)
    obtain ⟨d, hd⟩ : ∃ d, Hid (Prs.dots l = d) := ⟨_, Lib.hid rfl⟩
    rw [hd.out] at HD
    go_wp2_with fail
    refine HD.out.mono ?_
    rintro e w' ⟨rfl, rfl⟩
    by_cases h0 : d = 0
    · subst h0
      clear HD
      have HRv1 := Lib.hid (rev1_any b rest l _ HI.out.pz HI.out.tl hl)
      have hsz1 := HI.out.gr.size
      cases hst1 : rev l with
      | error p =>
        have hD := Lib.hid (PPost.bad HRv1.out hst1)
        have HE : Hid (item nt l = .error p) := Lib.hid (item_1E H3.out hd.out hst1)
        clear hst1 HRv1
        go_wp2_with fail
        refine hD.out.mono ?_
        rintro e w9 ⟨rfl, hg9⟩
        exact ⟨rfl, PPost.no HE.out (grown_trans HI.out.gr hg9)⟩
      | ok x =>
        obtain ⟨x1, r1⟩ := x
        have hD := Lib.hid (PPost.ok HRv1.out hst1)
        have hrl1 := rev_len hst1
        have HST1 := Lib.hid hst1
        clear hst1 HRv1
        go_wp2_with fail
        refine hD.out.mono ?_
        rintro e w1 ⟨v, rfl, ⟨v2, rfl, ho1⟩, hp1, ht1, hg1⟩
        obtain ⟨ao1, an1, ac1, rfl⟩ := ho1.isSlice
        have HI1 := Lib.hid (HI.out.call hbw hg1 hp1 ht1)
        have HG1 := Lib.hid hg1
        have HO1 : Hid (Own eSt 3 w.heap.size 103 w1 (.slice ao1 an1 ac1) x1.st) := Lib.hid (ho1.mono hsz1)
        clear hD ho1 hp1 ht1 hg1
        obtain ⟨f0, f1, a0, a1, a2, a3, a4, a5, c0, c1, d0, d1, d2, d3, d4, d5⟩ := HI1.out.fact
        have HIa := Lib.hid (HI1.out.setA x1.b (.slice ao1 an1 ac1))
        have HOa := Lib.hid (HI1.out.own2 HO1.out 1 2 (.string (bstr x1.b)) (.slice ao1 an1 ac1))
        clear HI1 HO1 HG1
        go_wp2_with fail
        generalize hWwa : ((w1.setCell ⟨w.heap.size + 1 + 1, 1, none⟩ (.string (bstr x1.b))).setCell ⟨w.heap.size + 1 + 1, 2, none⟩ (.slice ao1 an1 ac1)) = wa at HIa HOa ⊢
        clear hWwa f0 f1 a0 a1 a2 a3 a4 a5 c0 c1 d0 d1 d2 d3 d4 d5
        have HDr := Lib.hid (HIa.out.pz.dots HIa.out.tl.ne)
        obtain ⟨dr, hdr⟩ : ∃ d, Hid (Prs.dots r1 = d) := ⟨_, Lib.hid rfl⟩
        rw [hdr.out] at HDr
        refine HDr.out.mono ?_
        rintro e w' ⟨rfl, rfl⟩
        clear HDr
        obtain ⟨f0, f1, a0, a1, a2, a3, a4, a5, c0, c1, d0, d1, d2, d3, d4, d5⟩ := HIa.out.fact
        by_cases hr0 : dr = 0
        · have HE : Hid (item nt l = .ok (⟨1, x1, zRv, nt⟩, r1)) := Lib.hid (item_one H3.out hd.out HST1.out (by rw [hdr.out]; exact hr0))
          subst hr0
          have HIk := Lib.hid (HIa.out.setK 0)
          have HOk := Lib.hid (HIa.out.own HOa.out 0 (.int .i64 0))
          have HIz := Lib.hid (HIk.out.setK 1)
          have HOz := Lib.hid (HIk.out.own HOk.out 0 (.int .i64 1))
          have HB := Lib.hid (show Bk _ 83 w.heap.size from ⟨_, HIz.out.res⟩)
          go_wp2_with fail
          refine bodyPost_ret (v := .agg #[.int .i64 1, .string (bstr x1.b), .slice ao1 an1 ac1, .string (bstr []), .slice none 0 0, .bool nt]) ?_ rfl
            (PPost.is HE.out ⟨_, _, _, _, _, _, rfl, own_set6 HOz.out HB.out _ _ _ _ _ _, own_set6 (Own.nil _ _ _ _ _) HB.out _ _ _ _ _ _⟩ (HIz.out.pz.set6 HB.out _ _ _ _ _ _) HIz.out.tl (grown_set6 HIz.out.gr (Nat.le_refl _) _ _ _ _ _ _))
          simp [results, Try.results73, go_sem, a0, a1, a2, a3, a4, a5]
          try rfl
        · have drb : ((dr : Int) == 0) = false := by rw [beq_eq_false_iff_ne]; omega
          have HT1 : Hid (Tl r1.tail) := Lib.hid (HIa.out.tl.tail (dots9 (by rw [hdr.out]; exact hr0)))
          have Hr0 := Lib.hid (show Prs.dots r1 ≠ 0 by rw [hdr.out]; exact hr0)
          clear hr0
          obtain ⟨t1, q1, rfl⟩ := HIa.out.tl.cons
          have hq1 : q1.length + 1 + 1 ≤ l.length := hrl1
          have HIk := Lib.hid (HIa.out.setK (dr : Nat))
          have HOk := Lib.hid (HIa.out.own HOa.out 0 (.int .i64 (dr : Nat)))
          have hTk := Lib.hid HIk.out.pz.take
          go_wp2_with fail
          refine hTk.out.mono ?_
          rintro e w6 ⟨rfl, hp6, hg6⟩
          have HI6 := Lib.hid (HIk.out.call hbw hg6 hp6 HT1.out)
          have HO6 := Lib.hid (HOk.out.kept hg6 (.inr (HOk.out.ne (.inl hbw))))
          clear hp6 hg6 hTk HIk HIa HOk HOa f0 f1 a0 a1 a2 a3 a4 a5 c0 c1 d0 d1 d2 d3 d4 d5
          obtain ⟨f0, f1, a0, a1, a2, a3, a4, a5, c0, c1, d0, d1, d2, d3, d4, d5⟩ := HI6.out.fact
          have HI7 := Lib.hid (HI6.out.setB [64] (.slice none 0 0))
          have HO7 := Lib.hid (HI6.out.own2 HO6.out 3 4 (.string (bstr [64])) (.slice none 0 0))
          clear HI6 HO6
          go_wp2_with fail
          generalize hWwb : ((w6.setCell ⟨w.heap.size + 1 + 1, 3, none⟩ (.string (bstr [64]))).setCell ⟨w.heap.size + 1 + 1, 4, none⟩ (.slice none 0 0)) = wb at HI7 HO7 ⊢
          clear hWwb f0 f1 a0 a1 a2 a3 a4 a5 c0 c1 d0 d1 d2 d3 d4 d5
          have HK7 := Lib.hid (HI7.out.pz.kind HT1.out.ne)
          obtain ⟨m7, hm7⟩ : ∃ d, Hid (kd q1 = d) := ⟨_, Lib.hid rfl⟩
          rw [hm7.out] at HK7
          refine HK7.out.mono ?_
          rintro e w' ⟨rfl, rfl⟩
          clear HK7
          by_cases h71 : m7 = 1
          · subst h71
            have HRv8 := Lib.hid (rev1_any b rest q1 _ HI7.out.pz HI7.out.tl (by omega))
            have hsz8 := HI7.out.gr.size
            cases hst8 : rev q1 with
            | error p =>
              have hD := Lib.hid (PPost.bad HRv8.out hst8)
              have HE : Hid (item nt l = .error p) := Lib.hid (item_twoE H3.out hd.out HST1.out Hr0.out hm7.out hst8)
              clear hst8 HRv8
              go_wp2_with fail
              refine hD.out.mono ?_
              rintro e w9 ⟨rfl, hg9⟩
              exact ⟨rfl, PPost.no HE.out (grown_trans HI7.out.gr hg9)⟩
            | ok x =>
              obtain ⟨x8, r8⟩ := x
              have hD := Lib.hid (PPost.ok HRv8.out hst8)
              have hrl8 := rev_len hst8
              have HST8 := Lib.hid hst8
              clear hst8 HRv8
              go_wp2_with fail
              refine hD.out.mono ?_
              rintro e w8 ⟨v, rfl, ⟨v2, rfl, ho8⟩, hp8, ht8, hg8⟩
              obtain ⟨ao8, an8, ac8, rfl⟩ := ho8.isSlice
              have HI8 := Lib.hid (HI7.out.call hbw hg8 hp8 ht8)
              have HG8 := Lib.hid hg8
              have HO8 : Hid (Own eSt 3 w.heap.size 103 w8 (.slice ao8 an8 ac8) x8.st) := Lib.hid (ho8.mono hsz8)
              clear hD ho8 hp8 ht8 hg8
              obtain ⟨f0, f1, a0, a1, a2, a3, a4, a5, c0, c1, d0, d1, d2, d3, d4, d5⟩ := HI8.out.fact
              have HOk8 := Lib.hid (HO7.out.kept HG8.out (.inr (HO7.out.ne (.inl hbw))))
              have HI9 := Lib.hid (HI8.out.setB x8.b (.slice ao8 an8 ac8))
              have HO9 := Lib.hid (HI8.out.own2 HOk8.out 3 4 (.string (bstr x8.b)) (.slice ao8 an8 ac8))
              have HP9 := Lib.hid (HI8.out.own2 HO8.out 3 4 (.string (bstr x8.b)) (.slice ao8 an8 ac8))
              have HE : Hid (item nt l = .ok (⟨dr, x1, x8, nt⟩, r8)) := Lib.hid (by rw [← hdr.out]; exact item_two H3.out hd.out HST1.out Hr0.out hm7.out HST8.out)
              have HB := Lib.hid (show Bk _ 83 w.heap.size from ⟨_, HI9.out.res⟩)
              go_wp2_with fail
              refine bodyPost_ret (v := .agg #[.int .i64 (dr : Nat), .string (bstr x1.b), .slice ao1 an1 ac1, .string (bstr x8.b), .slice ao8 an8 ac8, .bool nt]) ?_ rfl
                (PPost.is HE.out ⟨_, _, _, _, _, _, rfl, own_set6 HO9.out HB.out _ _ _ _ _ _, own_set6 HP9.out HB.out _ _ _ _ _ _⟩ (HI9.out.pz.set6 HB.out _ _ _ _ _ _) HI9.out.tl (grown_set6 HI9.out.gr (Nat.le_refl _) _ _ _ _ _ _))
              simp [results, Try.results73, go_sem, a0, a1, a2, a3, a4, a5]
              try rfl
          · have m7b : ((m7 : Int) == 1) = false := by rw [beq_eq_false_iff_ne]; omega
            have HE : Hid (item nt l = .ok (⟨dr, x1, here, nt⟩, q1)) := Lib.hid (by rw [← hdr.out]; exact item_twoH H3.out hd.out HST1.out Hr0.out (by rw [show kd (t1 :: q1).tail = kd q1 from rfl, hm7.out]; exact h71))
            clear h71
            obtain ⟨f0, f1, a0, a1, a2, a3, a4, a5, c0, c1, d0, d1, d2, d3, d4, d5⟩ := HI7.out.fact
            have HB := Lib.hid (show Bk _ 83 w.heap.size from ⟨_, HI7.out.res⟩)
            go_wp2_with fail
            refine bodyPost_ret (v := .agg #[.int .i64 (dr : Nat), .string (bstr x1.b), .slice ao1 an1 ac1, .string (bstr [64]), .slice none 0 0, .bool nt]) ?_ rfl
              (PPost.is HE.out ⟨_, _, _, _, _, _, rfl, own_set6 HO7.out HB.out _ _ _ _ _ _, own_set6 (Own.nil _ _ _ _ _) HB.out _ _ _ _ _ _⟩ (HI7.out.pz.set6 HB.out _ _ _ _ _ _) HI7.out.tl (grown_set6 HI7.out.gr (Nat.le_refl _) _ _ _ _ _ _))
            simp [results, Try.results73, go_sem, a0, a1, a2, a3, a4, a5]
            try rfl
    · have db : ((d : Int) == 0) = false := by rw [beq_eq_false_iff_ne]; omega
      have H0 := Lib.hid (show Prs.dots l ≠ 0 by rw [hd.out]; exact h0)
      have HT1 : Hid (Tl l.tail) := Lib.hid (HT.out.tail (dots9 H0.out))
      clear h0
      obtain ⟨t1, q1, rfl⟩ := HT.out.cons
      have hq1 : q1.length + 1 ≤ 100 := hl
      obtain ⟨f0, f1, a0, a1, a2, a3, a4, a5, c0, c1, d0, d1, d2, d3, d4, d5⟩ := HI.out.fact
      have HIk := Lib.hid (HI.out.setK (d : Nat))
      have hTk := Lib.hid HIk.out.pz.take
      go_wp2_with fail
      refine HD.out.mono ?_
      rintro e w' ⟨rfl, rfl⟩
      go_wp2_with fail
      refine hTk.out.mono ?_
      rintro e w6 ⟨rfl, hp6, hg6⟩
      have HI6 := Lib.hid (HIk.out.call hbw hg6 hp6 HT1.out)
      clear hp6 hg6 hTk HD HIk f0 f1 a0 a1 a2 a3 a4 a5 c0 c1 d0 d1 d2 d3 d4 d5
      obtain ⟨f0, f1, a0, a1, a2, a3, a4, a5, c0, c1, d0, d1, d2, d3, d4, d5⟩ := HI6.out.fact
      have HI7 := Lib.hid (HI6.out.setB [64] (.slice none 0 0))
      clear HI6
      go_wp2_with fail
      generalize hWwb : ((w6.setCell ⟨w.heap.size + 1 + 1, 3, none⟩ (.string (bstr [64]))).setCell ⟨w.heap.size + 1 + 1, 4, none⟩ (.slice none 0 0)) = wb at HI7 ⊢
      clear hWwb f0 f1 a0 a1 a2 a3 a4 a5 c0 c1 d0 d1 d2 d3 d4 d5
      have HRv8 := Lib.hid (rev1_any b rest q1 _ HI7.out.pz HI7.out.tl (by omega))
      have hsz8 := HI7.out.gr.size
      cases hst8 : rev q1 with
      | error p =>
        have hD := Lib.hid (PPost.bad HRv8.out hst8)
        have HE : Hid (item nt (t1 :: q1) = .error p) := Lib.hid (item_fromE H3.out H0.out hst8)
        clear hst8 HRv8
        refine hD.out.mono ?_
        rintro e w9 ⟨rfl, hg9⟩
        exact ⟨rfl, PPost.no HE.out (grown_trans HI7.out.gr hg9)⟩
      | ok x =>
        obtain ⟨x8, r8⟩ := x
        have hD := Lib.hid (PPost.ok HRv8.out hst8)
        have hrl8 := rev_len hst8
        have HST8 := Lib.hid hst8
        clear hst8 HRv8
        refine hD.out.mono ?_
        rintro e w8 ⟨v, rfl, ⟨v2, rfl, ho8⟩, hp8, ht8, hg8⟩
        obtain ⟨ao8, an8, ac8, rfl⟩ := ho8.isSlice
        have HI8 := Lib.hid (HI7.out.call hbw hg8 hp8 ht8)
        have HG8 := Lib.hid hg8
        have HO8 : Hid (Own eSt 3 w.heap.size 103 w8 (.slice ao8 an8 ac8) x8.st) := Lib.hid (ho8.mono hsz8)
        clear hD ho8 hp8 ht8 hg8
        obtain ⟨f0, f1, a0, a1, a2, a3, a4, a5, c0, c1, d0, d1, d2, d3, d4, d5⟩ := HI8.out.fact
        have HI9 := Lib.hid (HI8.out.setB x8.b (.slice ao8 an8 ac8))
        have HP9 := Lib.hid (HI8.out.own2 HO8.out 3 4 (.string (bstr x8.b)) (.slice ao8 an8 ac8))
        have HE : Hid (item nt (t1 :: q1) = .ok (⟨d, here, x8, nt⟩, r8)) := Lib.hid (by rw [← hd.out]; exact item_from H3.out H0.out HST8.out)
        have HB := Lib.hid (show Bk _ 83 w.heap.size from ⟨_, HI9.out.res⟩)
        go_wp2_with fail
        refine bodyPost_ret (v := .agg #[.int .i64 (d : Nat), .string (bstr [64]), .slice none 0 0, .string (bstr x8.b), .slice ao8 an8 ac8, .bool nt]) ?_ rfl
          (PPost.is HE.out ⟨_, _, _, _, _, _, rfl, own_set6 (Own.nil _ _ _ _ _) HB.out _ _ _ _ _ _, own_set6 HP9.out HB.out _ _ _ _ _ _⟩ (HI9.out.pz.set6 HB.out _ _ _ _ _ _) HI9.out.tl (grown_set6 HI9.out.gr (Nat.le_refl _) _ _ _ _ _ _))
        simp [results, Try.results73, go_sem, a0, a1, a2, a3, a4, a5]
        try rfl
end Go.Proofs.Ytolahnnkdpbdfaa

namespace Go.Prs
open Go.Lex
theorem upto_le (l : List UInt8) : (upto61 l).length ≤ l.length := (List.takeWhile_prefix _).length_le
theorem upto_take (l : List UInt8) : upto61 l = l.take (upto61 l).length := (List.prefix_iff_eq_take.1 (List.takeWhile_prefix _))
theorem upto_all {l : List UInt8} (h : ¬ (upto61 l).length < l.length) : upto61 l = l := by
  rw [upto_take, List.take_of_length_le (by omega)]
theorem index_upto (l : List UInt8) : Lib.index l [61] = if (upto61 l).length < l.length then ((upto61 l).length : Int) else -1 := by
  induction l with
  | nil => rfl
  | cons b l ih =>
    unfold Lib.index
    by_cases hb : b = 61
    · subst hb
      rw [if_pos (by simp [List.isPrefixOf])]
      simp [upto61]
    · have e : (b != 61) = true := by simpa using hb
      have e2 : ([61].isPrefixOf (b :: l)) = false := by simp [List.isPrefixOf, Ne.symm hb]
      have e3 : upto61 (b :: l) = b :: upto61 l := by unfold upto61; rw [List.takeWhile_cons, if_pos e]
      rw [e2, ih, e3]
      simp only [Bool.false_eq_true, if_false, List.length_cons, Nat.add_lt_add_iff_right]
      by_cases h : (upto61 l).length < l.length
      · rw [if_pos h, if_pos h]
        rw [if_neg (by rw [beq_iff_eq]; omega)]; omega
      · rw [if_neg h, if_neg h]; rfl
theorem cut_hit {l : List UInt8} (h : (upto61 l).length < l.length) : Lib.cut l [61] = (upto61 l, l.drop ((upto61 l).length + 1), true) := by
  unfold Lib.cut
  rw [index_upto, if_pos h, if_pos (by omega)]
  simp only [Int.toNat_natCast, List.length_singleton]
  rw [← upto_take]
theorem cut_miss {l : List UInt8} (h : ¬ (upto61 l).length < l.length) : Lib.cut l [61] = (l, [], false) := by
  unfold Lib.cut
  rw [index_upto, if_neg h, if_neg (by omega)]
theorem cut_len (l : List UInt8) : (Lib.cut l [61]).1.length ≤ l.length ∧ (Lib.cut l [61]).2.1.length ≤ l.length := by
  by_cases h : (upto61 l).length < l.length
  · rw [cut_hit h]; exact ⟨upto_le _, by simp only [List.length_drop]; omega⟩
  · rw [cut_miss h]; exact ⟨Nat.le_refl _, by simp⟩
abbrev fMax : List UInt8 := [45, 45, 109, 97, 120]
abbrev fSkip : List UInt8 := [45, 45, 115, 107, 105, 112]
abbrev fNot : List UInt8 := [45, 45, 110, 111, 116]
abbrev fDate : List UInt8 := [45, 45, 100, 97, 116, 101]
abbrev fTopo : List UInt8 := [45, 45, 116, 111, 112, 111]
abbrev fTime : List UInt8 := [45, 45, 116, 105, 109, 101]
abbrev fFirst : List UInt8 := [45, 45, 102, 105, 114, 115, 116]
abbrev fRev : List UInt8 := [45, 45, 114, 101, 118, 101, 114, 115, 101]
/-- a flag by the parts of its text -/
theorem flg_cut {s wd dg : List UInt8} {hs is : Bool} {n : Nat} (hc : Lib.cut s [61] = (wd, dg, hs)) (hn : count dg = (n, is)) (q : Qy) (nt : Bool) :
    flg s q nt = if hs = true then (if is = true ∧ wd = fMax then some ({ q with mx := n }, nt) else if is = true ∧ wd = fSkip then some ({ q with sk := n }, nt) else none)
      else if wd = fNot then some (q, !nt) else if wd = fDate then some ({ q with od := 0 }, nt) else if wd = fTopo then some ({ q with od := 1 }, nt) else if wd = fTime then some ({ q with od := 2 }, nt)
      else if wd = fFirst then some ({ q with fi := true }, nt) else if wd = fRev then some ({ q with rv := true }, nt) else none := by
  by_cases h : (upto61 s).length < s.length
  · rw [cut_hit h] at hc
    cases hc
    rw [if_pos rfl]
    unfold flg
    rw [if_pos h, hn]
    rfl
  · rw [cut_miss h] at hc
    cases hc
    rw [if_neg (by simp)]
    unfold flg
    rw [if_neg h]
    rfl
theorem cut_no {s wd dg : List UInt8} (hc : Lib.cut s [61] = (wd, dg, false)) : count dg = (0, false) := by
  by_cases h : (upto61 s).length < s.length
  · rw [cut_hit h] at hc; cases hc
  · rw [cut_miss h] at hc; cases hc; rfl
end Go.Prs
namespace Go.Proofs.Ytolahnnkdpbdfaa
open Go.Proofs Go.RowKit Go.Shelf Go.Sl Go.Prs
theorem item_any (b : Nat) (rest : List Value) (nt : Bool) (hrest : rest[6]? = some (.bool nt)) (l : List Lex.Tok) (w : World) (h : Pz b w rest l) (ht : Tl l) (hl : l.length ≤ 100) :
    Calls Try.prog 73 #[.pointer (some ⟨b, 0, none⟩)] w (PPost b w rest (item nt l) (ItR w.heap.size)) := by
  by_cases h3 : kd l = 3
  · exact itemA_any b rest nt hrest l w h ht hl h3
  · exact itemB_any b rest nt hrest l w h ht hl h3
/-- the library's own variable holds a number -/
def Ml (w : World) : Prop := ∃ m, w.cell? ⟨0, 0, none⟩ = some (.int .i64 m)
theorem Ml.lt {w : World} (h : Ml w) : 0 < w.heap.size := by
  obtain ⟨m, hm⟩ := h
  unfold World.cell? at hm
  split at hm
  · next h0 => exact (Array.getElem?_eq_some_iff.1 h0).1
  · cases hm
theorem Ml.ext {w w' : World} (h : Ml w) (hb : Below w.heap.size w w') : Ml w' := by
  have hl := h.lt
  obtain ⟨m, hm⟩ := h
  exact ⟨m, (hb.cell (p := ⟨0, 0, none⟩) hl).trans hm⟩
theorem Ml.kept {w w' : World} (h : Ml w) {b : Nat} (hg : w.grownBy w' (some b)) (hb : b ≠ 0) : Ml w' := by
  have hl := h.lt
  obtain ⟨m, hm⟩ := h
  exact ⟨m, (World.cell?_of_block (a := ⟨0, 0, none⟩) (hg.block 0 hl (fun e => hb (Option.some.inj e).symm))).trans hm⟩
theorem cut_any (l : List UInt8) (hl : l.length ≤ 100000) (w : World) (hm : Ml w) {a c : List UInt8} {t : Bool} (hc : Lib.cut l [61] = (a, c, t)) : Calls Try.prog 86 #[.string (bstr l), .string (bstr [61])] w fun e w' => e = .returned (.tuple #[.string (bstr a), .string (bstr c), .bool t]) ∧ Below w.heap.size w w' := by
  obtain ⟨m, hm⟩ := hm
  refine (Try.strings_Cut (bstr l) (bstr [61]) m w (by rw [bstr_size]; omega) hm).mono ?_
  rintro e w' ⟨rfl, n, rfl⟩
  refine ⟨?_, below_drewN (Below.refl _ _) n⟩
  have h1 : Lib.cut (bstr l).data.toList (bstr [61]).data.toList = (a, c, t) := hc
  rw [h1]; rfl
/-- the rest of the parser's cells -/
def rst (iv : Value) (q : Qy) (nt : Bool) : List Value := [iv, .int .i64 q.mx, .int .i64 q.sk, .int .i64 q.od, .bool q.fi, .bool q.rv, .bool nt]
theorem Pz.put {b : Nat} {w : World} {rest : List Value} {l : List Lex.Tok} (h : Pz b w rest l) (k : Nat) (v : Value) : Pz b (w.setCell ⟨b, k + 1, none⟩ v) (rest.set k v) l := by
  have hbk := h.bk
  obtain ⟨lv, h1, h2, h3⟩ := h.ex
  refine ⟨lv, ?_, ?_, ?_⟩
  · rw [heap_setCell_same _ _ _ _ _ _ h1]; simp
  · exact Sl_grown h2 (fun e => (h3 _ e).ne hbk (by decide) rfl) (grown_set w ⟨b, k + 1, none⟩ v)
  · exact fun j hj => (h3 j hj).set _ _ _
/-- what a flag ends with -/
def FlP (b : Nat) (w : World) (iv : Value) (q : Qy) (nt : Bool) (l : List Lex.Tok) (e : Ending) (w' : World) : Prop :=
  w.grownBy w' (some b) ∧ match flg (tx l) q nt with
  | some (q', nt') => (∃ v, e = .returned v) ∧ Pz b w' (rst iv q' nt') l.tail ∧ Tl l.tail
  | none => e = .panicked (flt (pl l))
theorem FlP.no {b : Nat} {w w' : World} {iv : Value} {q : Qy} {nt : Bool} {l : List Lex.Tok} (h : flg (tx l) q nt = none) (hg : w.grownBy w' (some b)) : FlP b w iv q nt l (.panicked (flt (pl l))) w' := by
  unfold FlP; rw [h]; exact ⟨hg, rfl⟩
theorem FlP.is {b : Nat} {w w' : World} {iv : Value} {q q' : Qy} {nt nt' : Bool} {l : List Lex.Tok} {v : Value} (h : flg (tx l) q nt = some (q', nt')) (hg : w.grownBy w' (some b)) (hp : Pz b w' (rst iv q' nt') l.tail) (ht : Tl l.tail) : FlP b w iv q nt l (.returned v) w' := by
  unfold FlP; rw [h]; exact ⟨hg, ⟨v, rfl⟩, hp, ht⟩
theorem Pz.cells {b : Nat} {w : World} {iv : Value} {q : Qy} {nt : Bool} {l : List Lex.Tok} (h : Pz b w (rst iv q nt) l) : w.cell? ⟨b, 1, none⟩ = some iv ∧ w.cell? ⟨b, 2, none⟩ = some (.int .i64 q.mx) ∧ w.cell? ⟨b, 3, none⟩ = some (.int .i64 q.sk) ∧ w.cell? ⟨b, 4, none⟩ = some (.int .i64 q.od) ∧ w.cell? ⟨b, 5, none⟩ = some (.bool q.fi) ∧ w.cell? ⟨b, 6, none⟩ = some (.bool q.rv) ∧ w.cell? ⟨b, 7, none⟩ = some (.bool nt) :=
  ⟨h.cell (k := 0) rfl, h.cell (k := 1) rfl, h.cell (k := 2) rfl, h.cell (k := 3) rfl, h.cell (k := 4) rfl, h.cell (k := 5) rfl, h.cell (k := 6) rfl⟩
end Go.Proofs.Ytolahnnkdpbdfaa
