/-
  A range over a function whose iterator keeps a state of its own in a cell: what the iterator itself does between two rounds ('T') is named in its contract. No program is named here.
-/
import Derived.RangeFuncWrites
import Derived.Test.YtopamnfelngkcaaDoorSl
namespace Go.Sl
open Go.RowKit
set_option linter.unusedVariables false

variable {F : Fence} {n : Nat} {P : Program}

/-- the iterator's contract: rounds that go on keep Kp; the caller's words abide the iterator's own steps T -/
def SeqT {α : Type} (F : Fence) (n : Nat) (P : Program) (g : Nat) (lb : Array Value) (encs : α → Array Value) (T Kp : World → World → Prop) (S Sp : List α → Prop) (N : Nat) (w : World) : Prop :=
  ∀ (l : Nat) (J Jx : List α → World → Prop) (W : World), Below w.heap.size w W → (∀ pre A B, J pre A → T A B → J pre B) → (∀ pre A B, Jx pre A → T A B → Jx pre B) →
    (∀ pre x W1, J pre W1 → pre.length < N → YieldAt F (n - 1) P l (encs x) W1 fun e W' =>
      (e = .returned (.bool true) ∧ J (pre ++ [x]) W' ∧ Kp W1 W') ∨ (e = .returned (.bool false) ∧ Jx (pre ++ [x]) W')) →
    J [] W →
    CallsIn F n P g (#[.func (.yield l) #[] #[]] ++ lb) W fun e W' => (∃ v, e = .returned v) ∧ ((∃ xs, S xs ∧ J xs W') ∨ (∃ pre, Sp pre ∧ Jx pre W'))

theorem wpIn_range_T {α : Type} {g : Operand} {ps : Array Tmp} {assign body : Code} {Q : Exit → Act → World → Prop} {a : Act} {w : World}
    (hro : F.round = none) (h1 : 1 ≤ n) {gf : Nat} {lb : Array Value} (hg : a.eval g = .func (.func gf) #[] lb) (hFg : F.fn gf) (eg : ∀ args w, (callFunc gf args).run P w = .ok (.enter gf args) w)
    {encs : α → Array Value} {T Kp : World → World → Prop} {S Sp : List α → Prop} {N : Nat} {w0 : World} (hseq : SeqT F (n - 1) P gf lb encs T Kp S Sp N w0)
    (hT : ∀ A B, T A B → KeepsFrom w.heap.size A B)
    (hKt : ∀ {A B C : World}, Kp A B → Kp B C → Kp A C) (hKb : ∀ (W : World) (l : Nat) (o o' : Obj), w.heap.size ≤ l → W.heap[l]? = some o → o.isCells = false → o.isWalk = false → Kp W (W.putObj l o'))
    (hb0 : Below w0.heap.size w0 w) (hps : ∀ x, (encs x).size = ps.size)
    (I : List α → World → Prop) (Ix : Code → List α → World → Prop) (hI : OwnFrom w.heap.size I) (hIx : ∀ c, OwnFrom w.heap.size (Ix c))
    (hIT : ∀ pre A B, I pre A → T A B → I pre B) (hIxT : ∀ c pre A B, Ix c pre A → T A B → Ix c pre B) (h0 : I [] w) (a₁ : α → Act)
    (hassign : ∀ (l : Nat) (x : α) (W : World) (K : Act → World → Prop), K (a₁ x) W →
      assign.wpIn (F.inRound l) (n - 1 - 1) P (Exit.then K (fun _ _ _ => False)) { tmps := (ps.zip (encs x)).foldl (fun t (p, v) => t.setIfInBounds p v) a.tmps, defers := [] } W)
    (hbody : ∀ (l : Nat) (pre : List α) (x : α) (W : World), I pre W → pre.length < N → body.wpIn (F.inRound l) (n - 1 - 1) P (ownPostG w.heap.size Kp I Ix (pre ++ [x]) W) (a₁ x) W)
    (hdone : ∀ (D : Nat) (xs : List α) (W : World), w.heap.size ≤ D → S xs → I xs W → W.heap[D]? = some (.deferred (some [])) → Q .normal { a with defers := { target := .collected D, args := #[] } :: a.defers } W)
    (hstop : ∀ (D : Nat) (c : Code) (pre : List α) (W : World), w.heap.size ≤ D → Sp pre → Ix c pre W → W.heap[D]? = some (.deferred (some [])) → c.wpIn F n P Q { a with defers := { target := .collected D, args := #[] } :: a.defers } W) :
    (Code.rangeFunc g ps assign body).wpIn F n P Q a w := by
  refine wpIn_rangeFunc fun fn hfn => ?_
  rw [hro]
  -- the loop's record, the mark's block
  obtain ⟨L, hL⟩ : ∃ L : Loop, L = { state := .ready, pending := none, fn, tmps := a.tmps, params := ps, assign, body, defers := w.heap.size } := ⟨_, rfl⟩
  have hready : L.state = .ready := by rw [hL]
  obtain ⟨W1, hW1⟩ : ∃ W1, (w.alloc (.deferred (some []))).alloc (.loop L) = W1 := ⟨_, rfl⟩
  have hsz1 : W1.heap.size = w.heap.size + 2 := by rw [← hW1]; simp
  have hbel : Below w.heap.size w W1 := by rw [← hW1]; exact ((Below.refl _ w).alloc (Nat.le_refl _) _).alloc (by simp) _
  have hrec1 : W1.heap[w.heap.size + 1]? = some (.loop L) := by rw [← hW1]; exact heap_new_at (by simp)
  have hmark1 : W1.heap[w.heap.size]? = some (.deferred (some [])) := by rw [← hW1]; exact heap_keep (heap_new_at rfl)
  have hI1 : I [] W1 := by rw [← hW1]; exact hI.alloc _ (hI.alloc _ h0)
  refine ⟨w.heap.size + 1, [{ target := .collected w.heap.size, args := #[] }], W1, { target := .fn (.func gf) lb, args := #[.func (.yield (w.heap.size + 1)) #[] #[]] }, W1, gf,
    #[.func (.yield (w.heap.size + 1)) #[] #[]] ++ lb, W1, ?_, ?_, ?_, ?_, fun _ => h1, ?_⟩
  · rw [← hW1, hL]; exact run_enterLoop_outer _ _ _ _ _
  · simp only [resolve, hg]
    simp [go_sem]
  · intro f' hf'
    simp [Target.leads] at hf'
    subst hf'; exact hFg
  · simp [invoke, go_sem, eg]
  · have keep : ∀ {A B : World} {k : Nat} {o : Obj}, T A B → w.heap.size ≤ k → A.heap[k]? = some o → o.isCells = false → B.heap[k]? = some o := fun h hk ho hc => (hT _ _ h).same _ _ hk ho hc
    refine (hseq (w.heap.size + 1)
      (fun pre W => I pre W ∧ W.heap[w.heap.size + 1]? = some (.loop L) ∧ W.heap[w.heap.size]? = some (.deferred (some [])))
      (fun pre W => ∃ c, Ix c pre W ∧ W.heap[w.heap.size + 1]? = some (.loop { L with state := .done, pending := some c }) ∧ W.heap[w.heap.size]? = some (.deferred (some [])))
      W1 (hb0.trans (hbel.mono hb0.size))
      (fun pre A B hA hAB => ⟨hIT _ _ _ hA.1 hAB, keep hAB (by omega) hA.2.1 rfl, keep hAB (Nat.le_refl _) hA.2.2 rfl⟩)
      (fun pre A B hA hAB => by
        obtain ⟨c, h2, h3, h4⟩ := hA
        exact ⟨c, hIxT _ _ _ _ h2 hAB, keep hAB (by omega) h3 rfl, keep hAB (Nat.le_refl _) h4 rfl⟩) ?_ ⟨hI1, hrec1, hmark1⟩).mono ?_
    · -- a round
      rintro pre x W ⟨hi, hr, hm⟩ hlen
      have hlt := (Array.getElem?_eq_some_iff.1 hr).1
      have hy := run_yield (P := P) (args := encs x) hr (by rw [hL]; exact hps x)
      have hassign' := hassign (w.heap.size + 1) x W
      have hparts : L.fn = fn ∧ L.tmps = a.tmps ∧ L.params = ps ∧ L.assign = assign ∧ L.body = body := by rw [hL]; exact ⟨rfl, rfl, rfl, rfl, rfl⟩
      obtain ⟨e1, e2, e3, e4, e5⟩ := hparts
      rw [e1, e2, e3, e4, e5] at hy
      refine ⟨fn, _, assign, body, hy, roundIn_of_wpIn hfn (hassign' _ ⟨_, run_beginRound hr hready, ?_⟩)⟩
      have hr2 : (W.putObj (w.heap.size + 1) (.loop { L with state := .busy })).heap[w.heap.size + 1]? = some (.loop { L with state := .busy }) := World.putObj_heap_same hlt
      have hm2 : (W.putObj (w.heap.size + 1) (.loop { L with state := .busy })).heap[w.heap.size]? = some (.deferred (some [])) := (World.putObj_heap_other (by omega)).trans hm
      have hk2 : Kp W (W.putObj (w.heap.size + 1) (.loop { L with state := .busy })) := hKb _ _ _ _ (by omega) hr rfl rfl
      -- a round's end
      have hend : ∀ (j : Option Code) (V : World), KeepsFrom w.heap.size (W.putObj (w.heap.size + 1) (.loop { L with state := .busy })) V →
          ∃ R : Loop, (R = if j.isNone then L else { L with state := .done, pending := j }) ∧
            V.heap[w.heap.size + 1]? = some (.loop { L with state := .busy }) ∧
            (Instr.endRound (w.heap.size + 1) j).run P V = .ok (.bool j.isNone) (V.putObj (w.heap.size + 1) (.loop R)) ∧
            (V.putObj (w.heap.size + 1) (.loop R)).heap[w.heap.size + 1]? = some (.loop R) ∧ (V.putObj (w.heap.size + 1) (.loop R)).heap[w.heap.size]? = some (.deferred (some [])) := by
        intro j V hV
        have h3 := hV.same _ _ (by omega) hr2 rfl
        have h4 := hV.same _ _ (Nat.le_refl _) hm2 rfl
        refine ⟨_, rfl, h3, ?_, World.putObj_heap_same (Array.getElem?_eq_some_iff.1 h3).1, (World.putObj_heap_other (by omega)).trans h4⟩
        rw [run_endRound (P := P) j h3]
        congr 3
        cases j with
        | none => rw [hL]; rfl
        | some c => rfl
      refine wpIn_mono (hbody _ pre x _ (hI.putObj _ hi (by omega) hr rfl) hlen) ?_
      rintro e a3 V hp
      cases e with
      | normal =>
        obtain ⟨p1, p2, p3⟩ := hp
        obtain ⟨R, rfl, q1, q2, q3, q4⟩ := hend none V p1
        exact ⟨_, _, q2, .inl ⟨rfl, ⟨hI.putObj _ p3 (by omega) q1 rfl, q3, q4⟩, hKt (hKt hk2 p2) (hKb _ _ _ _ (by omega) q1 rfl rfl)⟩⟩
      | ret =>
        obtain ⟨R, rfl, q1, q2, q3, q4⟩ := hend (some .ret) V hp.1
        exact ⟨_, _, q2, .inr ⟨rfl, _, (hIx _).putObj _ hp.2 (by omega) q1 rfl, q3, q4⟩⟩
      | exit id =>
        obtain ⟨R, rfl, q1, q2, q3, q4⟩ := hend (some (.exit id)) V hp.1
        exact ⟨_, _, q2, .inr ⟨rfl, _, (hIx _).putObj _ hp.2 (by omega) q1 rfl, q3, q4⟩⟩
      | goto t =>
        obtain ⟨R, rfl, q1, q2, q3, q4⟩ := hend (some (.goto t)) V hp.1
        exact ⟨_, _, q2, .inr ⟨rfl, _, (hIx _).putObj _ hp.2 (by omega) q1 rfl, q3, q4⟩⟩
      | panic ch => exact hp.elim
      | outgrown => exact hp.elim
    · -- behind the iterator
      rintro e V ⟨⟨v, rfl⟩, ⟨xs, hS, hi, hr, hm⟩ | ⟨pre, hSp, c, hi, hr, hm⟩⟩
      · refine ⟨none, _, ?_, hdone _ xs _ (Nat.le_refl _) hS (hI.putObj (.loop { L with state := .exhausted }) hi (by omega) hr rfl) ((World.putObj_heap_other (by omega)).trans hm)⟩
        have := run_endLoop (P := P) hr (by rw [hready]; simp)
        rw [this, hL]
      · refine ⟨some c, _, run_endLoop (P := P) hr (by simp), hstop _ c pre _ (Nat.le_refl _) hSp ((hIx c).putObj _ hi (by omega) hr rfl) ((World.putObj_heap_other (by omega)).trans hm)⟩
end Go.Sl
