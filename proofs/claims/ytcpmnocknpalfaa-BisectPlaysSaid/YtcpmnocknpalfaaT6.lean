/-
  Layer 34: a row of sets; all nodes' ancestors, plain. No condition besides what the arguments are.
-/
import Derived.Deep.OwnRows
import Derived.Test.YtcpmnocknpalfaaT5
namespace Go.Proofs.Ytcpmnocknpalfaa
open Go.RowKit Go.Sl Go.B64 Go.Bis
set_option linter.unusedVariables false

def scells (F : Nat → S) (N : Nat) : Array Value := ((List.range N).flatMap fun k => eSet (F k)).toArray
theorem scells_size (F : Nat → S) (N : Nat) : (scells F N).size = N * 2 := by
  simp only [scells, List.size_toArray]
  rw [flatMap_len (s := 2) (fun _ => rfl)]; simp
theorem scells_at (F : Nat → S) {N k j : Nat} (hk : k < N) (hj : j < 2) : (scells F N)[k * 2 + j]? = (eSet (F k))[j]? := by
  have := flatMap_at (en := fun k => eSet (F k)) (s := 2) (fun _ => rfl) (List.range N) k (by simpa using hk) j hj
  simpa [scells] using this
theorem scells_ext {F : Nat → S} {N : Nat} {a : Array Value} (hs : a.size = N * 2) (h : ∀ k j, k < N → j < 2 → a[k * 2 + j]? = (eSet (F k))[j]?) : a = scells F N := by
  refine Array.ext_getElem? fun i => ?_
  by_cases hi : i < N * 2
  · have e : i = i / 2 * 2 + i % 2 := by omega
    rw [e, h _ _ (by omega) (by omega), scells_at _ (by omega) (by omega)]
  · rw [Array.getElem?_eq_none (by omega), Array.getElem?_eq_none (by rw [scells_size]; omega)]
/-- a row of N sets at block b -/
structure Bs (base b N : Nat) (F : Nat → S) (w : World) : Prop where
  hb : base ≤ b
  blk : w.heap[b]? = some (.cells (scells F N) 80 (0, 0))
section
variable {base b N : Nat} {F F' : Nat → S} {w w' : World}
theorem Bs.congr (h : Bs base b N F w) (he : ∀ x, x < N → F x = F' x) : Bs base b N F' w := by
  refine ⟨h.hb, ?_⟩
  rw [h.blk]
  congr 2
  refine scells_ext (scells_size _ _) fun k j hk hj => ?_
  rw [scells_at _ hk hj, he k hk]
theorem Bs.ext (h : Bs base b N F w) (hb : Below w.heap.size w w') : Bs base b N F w' := ⟨h.hb, (hb.block _ (Array.getElem?_eq_some_iff.1 h.blk).1).trans h.blk⟩
theorem Bs.lt (h : Bs base b N F w) : b < w.heap.size := (Array.getElem?_eq_some_iff.1 h.blk).1
theorem Bs.cell (h : Bs base b N F w) {k : Nat} (hk : k < N) : w.cell? ⟨b, k * 2, none⟩ = some (.int .u64 (u64 (wd (F k) 0))) ∧ w.cell? ⟨b, k * 2 + 1, none⟩ = some (.int .u64 (u64 (wd (F k) 1))) := by
  constructor
  · rw [cell_of_row w b _ _ _ _ h.blk]
    exact scells_at F (j := 0) hk (by omega)
  · rw [cell_of_row w b _ _ _ _ h.blk]
    exact scells_at F (j := 1) hk (by omega)
theorem Bs.fz (h : Bs base b N F w) (k : Nat) : w.frozen? ⟨b, k, none⟩ = false := by simp [World.frozen?, h.blk]
def upS (F : Nat → S) (n : Nat) (s : S) : Nat → S := fun k => if k = n then s else F k
theorem Bs.set (h : Bs base b N F w) {n : Nat} (hn : n < N) (s : S) : Bs base b N (upS F n s) ((w.setCell ⟨b, n * 2, none⟩ (.int .u64 (u64 (wd s 0)))).setCell ⟨b, n * 2 + 1, none⟩ (.int .u64 (u64 (wd s 1)))) := by
  refine ⟨h.hb, ?_⟩
  rw [Lib.heap_setCell_same (i := n * 2 + 1) (Lib.heap_setCell_same (i := n * 2) h.blk _) _]
  congr 2
  refine scells_ext (by simp [scells_size]) fun k j hk hj => ?_
  have hs := scells_size F N
  rw [Array.getElem?_setIfInBounds, Array.getElem?_setIfInBounds, scells_at _ hk hj]
  simp only [Array.size_setIfInBounds, hs, upS]
  by_cases e : k = n
  · subst e
    rcases (by omega : j = 0 ∨ j = 1) with rfl | rfl
    · rw [if_neg (by omega), if_pos (by omega), if_pos (by omega)]; simp [eSet]
    · rw [if_pos (by omega), if_pos (by omega)]; simp [eSet]
  · rw [if_neg (by omega), if_neg (by omega), if_neg e]
theorem Bs.own (h : Bs base b N F w) (hN : N ≤ 128) : Own eSet 2 base 80 w (upV b N) ((List.range N).map F) := by
  have hl : ((List.range N).map F).length = N := by simp
  refine ⟨by rw [flatMap_len len_eSet], .inr ⟨b, N, _, by rw [hl], h.hb, h.blk, by omega, by simp [maxLen]; omega, scells_size F N, ?_⟩⟩
  rw [hl, List.take_of_length_le (by have := scells_size F N; simp only [← Array.length_toList] at this; omega)]
  simp [scells, List.flatMap_map]
end
theorem info80' : (Try.prog.info? 80).map (fun i => (i.zero, i.size, i.bytes)) = some (some (.agg #[.int .u64 0, .int .u64 0]), 2, 16) := by kernel_rfl
theorem made_scells (n : Nat) : madeCells #[Value.int .u64 0, .int .u64 0] (n * 2) = scells (fun _ => 0) n := by
  refine scells_ext (by simp [size_madeCells]) fun k j hk hj => ?_
  have h1 : k * 2 + j < n * 2 := by omega
  simp only [madeCells, Array.getElem?_map, Array.getElem?_range, h1, if_true, Option.map_some, eSet, wd_zero]
  rcases (by omega : j = 0 ∨ j = 1) with rfl | rfl
  · simp; rfl
  · have : (k * 2 + 1) % 2 = 1 := by omega
    simp [this]; rfl
theorem make_sets (n : Nat) (hn : n ≤ 800) : ∀ u : World, (Instr.makeSlice 77 (.int .i64 (n : Int)) (.int .i64 (n : Int))).run Try.prog u = .ok (upV u.heap.size n) (u.alloc (.cells (scells (fun _ => 0) n) 80)) := by
  intro u
  obtain ⟨i, hi, hzz⟩ := Option.map_eq_some_iff.1 info80'
  simp only [Prod.mk.injEq] at hzz
  obtain ⟨hz, hs, hb⟩ := hzz
  have hr := run_makeSlice (P := Try.prog) (w := u) 77 80 i _ Try.underlying77 hi hz .i64 .i64 n n (by omega) (Int.le_refl _) (by rw [hs]; simp; omega) (by rw [hb]; omega) (by omega)
  simp only [Int.toNat_natCast, hs, Value.cells] at hr
  rw [made_scells] at hr
  exact hr

/-! ### plain -/
/-- a node and its first parents' ancestors -/
noncomputable def ors (A : Nat → S) (n : Nat) (l : List Nat) : S := l.foldl (fun s p => s ||| A p) (one n)
theorem mem_ors (A : Nat → S) {n : Nat} (hn : n < 128) (l : List Nat) (x : Nat) : mem (ors A n l) x = true ↔ x = n ∨ ∃ p, p ∈ l ∧ mem (A p) x = true := by
  have key : ∀ (l : List Nat) (s : S), mem (l.foldl (fun s p => s ||| A p) s) x = true ↔ mem s x = true ∨ ∃ p, p ∈ l ∧ mem (A p) x = true := by
    intro l
    induction l with
    | nil => simp
    | cons y l ih =>
      intro s
      rw [List.foldl_cons, ih, mem_or, Bool.or_eq_true]
      simp [or_assoc]
  unfold ors
  rw [key, mem_one hn]; simp
theorem ors_snoc (A : Nat → S) (n : Nat) (l : List Nat) (p : Nat) : ors A n (l ++ [p]) = ors A n l ||| A p := by simp [ors]
theorem anc_ors {g : List Nd} (hg : Dag.okG g) {n : Nat} (hn : n < g.length) : ors (anc g) n (Dag.par g n) = anc g n := by
  have h8 : n < 128 := by have := hg.1; omega
  refine B64.ext fun x _ => ?_
  rw [Bool.eq_iff_iff, mem_ors _ h8, anc_iff hg hn]
  constructor
  · rintro (rfl | ⟨p, hp, hx⟩)
    · exact .refl _
    · have := Dag.par_lt hg n p hp
      exact .step hp ((anc_iff hg (by omega)).1 hx)
  · intro h
    rcases h.first with e | ⟨p, hp, hx⟩
    · exact .inl e.symm
    · have := Dag.par_lt hg n p hp
      exact .inr ⟨p, hp, (anc_iff hg (by omega)).2 hx⟩
end Go.Proofs.Ytcpmnocknpalfaa
