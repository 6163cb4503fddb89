/-
  Layer 14, plain: what the document's functions keep while they go. No program is named here, no condition.
-/
import Derived.Test.YtcpmnocknpalfaaG3
namespace Go.Dag
def upd (f : Nat → Bool) (k : Nat) (v : Bool) : Nat → Bool := fun i => if i = k then v else f i
theorem upd_same (f : Nat → Bool) (k : Nat) (v : Bool) : upd f k v k = v := by simp [upd]
theorem upd_ne (f : Nat → Bool) {k i : Nat} (v : Bool) (h : i ≠ k) : upd f k v i = f i := by simp [upd, h]
theorem upd_true {f : Nat → Bool} {k x : Nat} : upd f k true x = true ↔ x = k ∨ f x = true := by
  unfold upd; split
  · next h => simp [h]
  · next h => simp [h]

def UpC (g : List Nd) (l : List Nat) (f : Nat → Bool) (B : Nat) : Prop := ∀ x, x < g.length → (f x = true ↔ x ∈ l ∨ ∃ m, B ≤ m ∧ m < g.length ∧ f m = true ∧ x ∈ par g m)
def UpD (g : List Nd) (l : List Nat) (f : Nat → Bool) (n k : Nat) : Prop := ∀ x, x < g.length → (f x = true ↔ (x ∈ l ∨ ∃ m, n + 1 ≤ m ∧ m < g.length ∧ f m = true ∧ x ∈ par g m) ∨ (f n = true ∧ x ∈ (par g n).take k))
theorem UpC.start {g : List Nd} {l : List Nat} {f : Nat → Bool} (h : ∀ x, x < g.length → (f x = true ↔ x ∈ l)) : UpC g l f g.length := fun x hx => by
  rw [h x hx]
  constructor
  · exact .inl
  · rintro (h1 | ⟨m, h1, h2, _⟩)
    · exact h1
    · omega
theorem UpC.inner {g : List Nd} {l : List Nat} {f : Nat → Bool} {n : Nat} (h : UpC g l f (n + 1)) : UpD g l f n 0 := fun x hx => by
  rw [h x hx]; simp
theorem UpD.step {g : List Nd} (hg : okG g) {l : List Nat} {f : Nat → Bool} {n k : Nat} (h : UpD g l f n k) (hf : f n = true) (hk : k < (par g n).length) : UpD g l (upd f (par g n)[k] true) n (k + 1) := fun x hx => by
  have hlt := par_lt hg
  have hy := hlt n _ (List.getElem_mem hk)
  have hs : ∀ m, n ≤ m → upd f (par g n)[k] true m = f m := fun m hm => upd_ne _ _ (by omega)
  rw [upd_true, h x hx, hs n (Nat.le_refl _), List.take_succ_eq_append_getElem hk, List.mem_append, List.mem_singleton]
  have e : (∃ m, n + 1 ≤ m ∧ m < g.length ∧ upd f (par g n)[k] true m = true ∧ x ∈ par g m) ↔ ∃ m, n + 1 ≤ m ∧ m < g.length ∧ f m = true ∧ x ∈ par g m := by
    refine exists_congr fun m => and_congr_right fun h1 => ?_
    rw [hs m (by omega)]
  rw [e]
  constructor
  · rintro (h1 | h1 | ⟨h1, h2⟩)
    · exact .inr ⟨hf, .inr h1⟩
    · exact .inl h1
    · exact .inr ⟨h1, .inl h2⟩
  · rintro (h1 | ⟨h1, h2 | h2⟩)
    · exact .inr (.inl h1)
    · exact .inr (.inr ⟨h1, h2⟩)
    · exact .inl h2
theorem UpD.done {g : List Nd} {l : List Nat} {f : Nat → Bool} {n k : Nat} (h : UpD g l f n k) (hn : n < g.length) (hd : f n = false ∨ (par g n).length ≤ k) : UpC g l f n := fun x hx => by
  rw [h x hx]
  constructor
  · rintro ((h1 | ⟨m, h1, h2⟩) | ⟨h1, h2⟩)
    · exact .inl h1
    · exact .inr ⟨m, by omega, h2⟩
    · exact .inr ⟨n, Nat.le_refl _, hn, h1, List.mem_of_mem_take h2⟩
  · rintro (h1 | ⟨m, h1, h2, h3, h4⟩)
    · exact .inl (.inl h1)
    · by_cases e : m = n
      · subst e
        rcases hd with hd | hd
        · rw [hd] at h3; cases h3
        · exact .inr ⟨h3, by rw [List.take_of_length_le hd]; exact h4⟩
      · exact .inl (.inr ⟨m, by omega, h2, h3, h4⟩)
theorem UpC.fin {g : List Nd} (hg : okG g) {l : List Nat} {f : Nat → Bool} (hl : ∀ x ∈ l, x < g.length) (h : UpC g l f 0) : ∀ x, x < g.length → f x = upB g l x := fun x hx => by
  have key := sol (pr := par g) (par_lt hg) (N := g.length) (S := fun x => f x = true) (seed := fun x => x ∈ l) (fun x hx => by
    rw [h x hx]
    constructor
    · rintro (h1 | ⟨m, _, h2, h3, h4⟩)
      · exact .inl h1
      · exact .inr ⟨m, h2, h3, h4⟩
    · rintro (h1 | ⟨m, h2, h3, h4⟩)
      · exact .inl h1
      · exact .inr ⟨m, Nat.zero_le _, h2, h3, h4⟩) hl x hx
  rw [Bool.eq_iff_iff, upB_iff]
  exact key

/-! ### Heads -/
/-- those that are left behind k of the own ones (own: rising, those that are asked) -/
def HdC (g : List Nd) (l : List Nat) (own : List Nat) (f : Nat → Bool) (k : Nat) : Prop := ∀ x, x < g.length → (f x = true ↔ x ∈ l ∧ ¬ ∃ j, ∃ h : j < own.length, j < k ∧ x < own[j] ∧ Anc (par g) own[j] x)
def HdD (g : List Nd) (l : List Nat) (own : List Nat) (f : Nat → Bool) (k n : Nat) (hk : k < own.length) : Prop := ∀ x, x < g.length → (f x = true ↔ (x ∈ l ∧ ¬ ∃ j, ∃ h : j < own.length, j < k ∧ x < own[j] ∧ Anc (par g) own[j] x) ∧ ¬ (x < n ∧ x < own[k] ∧ Anc (par g) own[k] x))
theorem HdC.start {g : List Nd} {l own : List Nat} {f : Nat → Bool} (h : ∀ x, x < g.length → (f x = true ↔ x ∈ l)) : HdC g l own f 0 := fun x hx => by rw [h x hx]; simp
theorem HdC.inner {g : List Nd} {l own : List Nat} {f : Nat → Bool} {k : Nat} (h : HdC g l own f k) (hk : k < own.length) : HdD g l own f k 0 hk := fun x hx => by rw [h x hx]; simp
theorem HdD.step {g : List Nd} {l own : List Nat} {f : Nat → Bool} {k n : Nat} {hk : k < own.length} (h : HdD g l own f k n hk) (hn : n < own[k]) {v : Bool}
    (hv : v = (f n && !upB g [own[k]] n)) : HdD g l own (upd f n v) k (n + 1) hk := fun x hx => by
  by_cases e : x = n
  · subst e
    rw [upd_same, hv]
    simp only [Bool.and_eq_true, Bool.not_eq_true']
    rw [h x hx]
    have e1 : upB g [own[k]] x = false ↔ ¬ Anc (par g) own[k] x := by
      rw [← Bool.not_eq_true, upB_iff]
      unfold upP
      simp
    rw [e1]
    constructor
    · rintro ⟨⟨h1, _⟩, h3⟩
      exact ⟨h1, fun hc => h3 hc.2.2⟩
    · rintro ⟨h1, h2⟩
      exact ⟨⟨h1, fun hc => by omega⟩, fun hc => h2 ⟨by omega, hn, hc⟩⟩
  · rw [upd_ne _ _ e, h x hx]
    have : (x < n ∧ x < own[k] ∧ Anc (par g) own[k] x) ↔ (x < n + 1 ∧ x < own[k] ∧ Anc (par g) own[k] x) := ⟨fun ⟨a, b⟩ => ⟨by omega, b⟩, fun ⟨a, b⟩ => ⟨by omega, b⟩⟩
    rw [this]
theorem HdD.done {g : List Nd} {l own : List Nat} {f : Nat → Bool} {k n : Nat} {hk : k < own.length} (h : HdD g l own f k n hk) (hn : own[k] ≤ n) : HdC g l own f (k + 1) := fun x hx => by
  rw [h x hx]
  constructor
  · rintro ⟨⟨h1, h2⟩, h3⟩
    refine ⟨h1, fun ⟨j, hj, h4, h5, h6⟩ => ?_⟩
    by_cases e : j = k
    · subst e; exact h3 ⟨by omega, h5, h6⟩
    · exact h2 ⟨j, hj, by omega, h5, h6⟩
  · rintro ⟨h1, h2⟩
    exact ⟨⟨h1, fun ⟨j, hj, h4, h5⟩ => h2 ⟨j, hj, by omega, h5⟩⟩, fun ⟨_, h4⟩ => h2 ⟨k, hk, by omega, h4⟩⟩
theorem HdC.fin {g : List Nd} (hg : okG g) {l own : List Nat} {f : Nat → Bool} (ho : ∀ s, s ∈ own ↔ s ∈ l) (h : HdC g l own f own.length) : ∀ x, x < g.length → f x = tt (headP g l x) := fun x hx => by
  rw [Bool.eq_iff_iff, tt_iff, h x hx]
  unfold headP
  refine and_congr_right fun _ => not_congr ?_
  constructor
  · rintro ⟨j, hj, _, h5, h6⟩
    exact ⟨own[j], by omega, (ho _).1 (List.getElem_mem hj), h6⟩
  · rintro ⟨s, h1, h2, h3⟩
    obtain ⟨j, hj, rfl⟩ := List.mem_iff_getElem.1 ((ho s).2 h2)
    have := h3.le (par_lt hg)
    exact ⟨j, hj, hj, by omega, h3⟩

/-! ### Bases -/
theorem bases_heads {g : List Nd} (hg : okG g) {a b : Nat} (ha : a < g.length) : headL g (nn (filtN (fun x => upB g [a] x && upB g [b] x) g.length)) = baseL g a b := by
  unfold headL baseL
  refine filtN_congr fun x hx => tt_congr ?_
  have hm : ∀ s, s ∈ nn (filtN (fun x => upB g [a] x && upB g [b] x) g.length) ↔ s < g.length ∧ Anc (par g) a s ∧ Anc (par g) b s := by
    intro s
    rw [List.mem_map]
    have e : ∀ c s, upB g [c] s = true ↔ Anc (par g) c s := fun c s => by rw [upB_iff]; unfold upP; simp
    constructor
    · rintro ⟨y, hy, rfl⟩
      obtain ⟨n, h1, h2, rfl⟩ := mem_filtN.1 hy
      simp only [Bool.and_eq_true, e] at h2
      exact ⟨by omega, by simpa using h2⟩
    · rintro ⟨h1, h2, h3⟩
      exact ⟨s, mem_filtN.2 ⟨s, h1, by simp only [Bool.and_eq_true, e]; exact ⟨h2, h3⟩, rfl⟩, by simp⟩
  unfold headP baseP
  rw [hm x]
  constructor
  · rintro ⟨⟨_, h1⟩, h2⟩
    refine ⟨h1, fun ⟨m, h3, h4, h5⟩ => h2 ⟨m, h3, ?_, h5⟩⟩
    have := h4.1.le (par_lt hg)
    exact (hm m).2 ⟨by omega, h4⟩
  · rintro ⟨h1, h2⟩
    exact ⟨⟨hx, h1⟩, fun ⟨s, h3, h4, h5⟩ => h2 ⟨s, h3, ((hm s).1 h4).2, h5⟩⟩
end Go.Dag
