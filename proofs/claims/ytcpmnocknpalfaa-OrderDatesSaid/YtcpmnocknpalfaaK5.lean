/-
  Layer 15, plain: a queue that holds those that may be told. No program is named here, no condition.
-/
import Derived.Test.YtcpmnocknpalfaaK4
import Derived.Test.YtcpmnocknpalfaaS2
namespace Go.Ord
open Go.Dag
set_option linter.unusedVariables false
theorem keyI_nat (bl : List Int) (n : Nat) : keyI bl n = key bl n := by unfold keyI key; rw [Int.toNat_natCast]
theorem leI_le {bl : List Int} {m n : Nat} (h : leI (keyI bl) m n) : le (key bl) m n := by
  unfold leI at h; unfold le
  rw [keyI_nat, keyI_nat] at h
  omega
structure QOk (K : Int → Int) (N : Nat) (f : Nat → Bool) (q : List Int) : Prop where
  hp : Hp.hp (leI K) q
  nd : q.Nodup
  inn : inN N q
  mem : ∀ m : Nat, m < N → ((m : Int) ∈ q ↔ f m = true)
theorem QOk.congr {K : Int → Int} {N : Nat} {f f' : Nat → Bool} {q : List Int} (h : QOk K N f q) (he : ∀ x, x < N → f x = f' x) : QOk K N f' q := ⟨h.hp, h.nd, h.inn, fun m hm => by rw [← he m hm]; exact h.mem m hm⟩
theorem QOk.len {K : Int → Int} {N : Nat} {f : Nat → Bool} {q : List Int} (h : QOk K N f q) : q.length ≤ N := by
  have := nodup_len (N := N) (nn_nodup h.nd (fun x hx => (h.inn x hx).1)) (fun x hx => by
    obtain ⟨y, hy, rfl⟩ := List.mem_map.1 hx
    have := h.inn y hy; omega)
  simpa [nn] using this
theorem QOk.nil (K : Int → Int) (N : Nat) : QOk K N (fun _ => false) [] := ⟨Hp.hp_nil, List.nodup_nil, fun x hx => by simp at hx, fun m _ => by simp⟩
theorem QOk.none {K : Int → Int} {N : Nat} {f : Nat → Bool} (h : QOk K N f []) : ∀ m, m < N → f m = false := fun m hm => by
  have := h.mem m hm
  cases hf : f m
  · rfl
  · rw [hf] at this; simp at this
theorem QOk.top {bl : List Int} {N : Nat} {f : Nat → Bool} {q : List Int} (h : QOk (keyI bl) N f q) (hq : q ≠ []) : ∃ n : Nat, Hp.ge q 0 = n ∧ n < N ∧ f n = true ∧ ∀ m, m < N → f m = true → le (key bl) m n := by
  have hl : 0 < q.length := List.length_pos_iff.2 hq
  have h0 : Hp.ge q 0 ∈ q := by simp [Hp.ge, List.getD_eq_getElem?_getD, hl]
  have h1 := h.inn _ h0
  obtain ⟨n, hn⟩ : ∃ n : Nat, Hp.ge q 0 = n := ⟨(Hp.ge q 0).toNat, by omega⟩
  rw [hn] at h0 h1
  refine ⟨n, hn, by omega, (h.mem n (by omega)).1 h0, fun m hm hf => ?_⟩
  have hm2 := (h.mem m hm).2 hf
  obtain ⟨j, hj, e⟩ := List.mem_iff_getElem.1 hm2
  have h3 := Hp.hp_max (leI_tr (keyI bl)) (fun a => .inr ⟨rfl, Int.le_refl _⟩) h.hp j hj
  have e2 : Hp.ge q j = m := by simp [Hp.ge, List.getD_eq_getElem?_getD, hj, e]
  rw [hn, e2] at h3
  exact leI_le h3
theorem QOk.cut {K : Int → Int} {N n : Nat} {f : Nat → Bool} {q q' : List Int} (h : QOk K N f q) (hq : q ≠ []) (hn : Hp.ge q 0 = n) (h1 : Hp.hp (leI K) q') (h2 : q'.Perm (Hp.cut q)) : QOk K N (upd f n false) q' := by
  have hp := Hp.cut_perm hq
  rw [hn] at hp
  have hnd : ((n : Int) :: Hp.cut q).Nodup := (hp.nodup_iff).2 h.nd
  obtain ⟨hnc, hnd2⟩ := List.nodup_cons.1 hnd
  refine ⟨h1, (h2.nodup_iff).2 hnd2, fun x hx => h.inn x (hp.mem_iff.1 (List.mem_cons_of_mem _ (h2.mem_iff.1 hx))), fun m hm => ?_⟩
  rw [h2.mem_iff]
  by_cases e : m = n
  · subst e; rw [upd_same]; simp [hnc]
  · rw [upd_ne _ _ e, ← h.mem m hm, ← hp.mem_iff, List.mem_cons]
    constructor
    · exact .inr
    · rintro (h | h)
      · omega
      · exact h
theorem QOk.put {K : Int → Int} {N n : Nat} {f : Nat → Bool} {q q' : List Int} (h : QOk K N f q) (hn : n < N) (hf : f n = false) (h1 : Hp.hp (leI K) q') (h2 : q'.Perm ((n : Int) :: q)) : QOk K N (upd f n true) q' := by
  have hnq : (n : Int) ∉ q := fun hm => by rw [(h.mem n hn).1 hm] at hf; cases hf
  refine ⟨h1, (h2.nodup_iff).2 (List.nodup_cons.2 ⟨hnq, h.nd⟩), fun x hx => ?_, fun m hm => ?_⟩
  · rcases List.mem_cons.1 (h2.mem_iff.1 hx) with rfl | hx
    · omega
    · exact h.inn x hx
  · rw [h2.mem_iff, List.mem_cons]
    by_cases e : m = n
    · subst e; rw [upd_same]; simp
    · rw [upd_ne _ _ e, ← h.mem m hm]
      constructor
      · rintro (h | h)
        · omega
        · exact h
      · exact .inr
/-- a step of telling from a queue -/
theorem seq_go {rd : (Nat → Bool) → Nat → Bool} (hrd : ∀ left x, rd left x = true → left x = true) {bl : List Int} {N B n : Nat} {left : Nat → Bool} (hn : n < N) (hf : rd left n = true) (hm : ∀ m, m < N → rd left m = true → le (key bl) m n) (hc : cnt left N ≤ B) :
    ∃ B', B = B' + 1 ∧ cnt (upd left n false) N ≤ B' ∧ seqL rd (key bl) N B left = (n : Int) :: seqL rd (key bl) N B' (upd left n false) :=
  seqL_go (yng_some hn hf hm) hc hn (hrd _ _ hf)
end Go.Ord
