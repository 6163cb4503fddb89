/-
  Layer 14, plain: ancestors; a sweep from the greatest node down; where two nodes meet. No program is named here, no condition.
-/
namespace Go.Dag
abbrev Nd := List Int × Int
/-- may a parent be? -/
def parOk (n : Nat) (P : List Int) (i : Nat) (x : Int) : Prop := 0 ≤ x ∧ x < n ∧ x ∉ P.take i
def nodeOk (n : Nat) (x : Nd) : Prop := x.1.length ≤ 6 ∧ 0 ≤ x.2 ∧ x.2 ≤ 1099511627776 ∧ ∀ i (h : i < x.1.length), parOk n x.1 i x.1[i]
def okG (g : List Nd) : Prop := g.length ≤ 128 ∧ ∀ n (h : n < g.length), nodeOk n g[n]
open Classical in
noncomputable def chk (g : List Nd) : Nat := if okG g then 0 else 12
open Classical in
theorem chk_ok {g : List Nd} (h : okG g) : chk g = 0 := if_pos h
open Classical in
theorem chk_bad {g : List Nd} (h : ¬ okG g) : chk g = 12 := if_neg h
theorem chk_cases (g : List Nd) : (okG g ∧ chk g = 0) ∨ (¬ okG g ∧ chk g = 12) := by
  by_cases h : okG g
  · exact .inl ⟨h, chk_ok h⟩
  · exact .inr ⟨h, chk_bad h⟩

def inN (N : Nat) (l : List Int) : Prop := ∀ x ∈ l, 0 ≤ x ∧ x < N
open Classical in
/-- a graph and numbers -/
noncomputable def nodes (g : List Nd) (l : List Int) : Nat := if okG g then (if inN g.length l then 0 else 2) else 12

def par (g : List Nd) (n : Nat) : List Nat := match g[n]? with | some x => x.1.map Int.toNat | none => []
theorem par_eq {g : List Nd} {n : Nat} (h : n < g.length) : par g n = g[n].1.map Int.toNat := by simp [par, h]
theorem par_lt {g : List Nd} (hg : okG g) (n x : Nat) (h : x ∈ par g n) : x < n := by
  unfold par at h
  split at h
  · rename_i nd hnd
    obtain ⟨hn, rfl⟩ := List.getElem?_eq_some_iff.1 hnd
    obtain ⟨y, hy, rfl⟩ := List.mem_map.1 h
    obtain ⟨i, hi, rfl⟩ := List.mem_iff_getElem.1 hy
    have := (hg.2 n hn).2.2.2 i hi
    obtain ⟨h1, h2, _⟩ := this
    omega
  · simp at h

inductive Anc (pr : Nat → List Nat) : Nat → Nat → Prop
  | refl (n : Nat) : Anc pr n n
  | step {m p n : Nat} : p ∈ pr m → Anc pr p n → Anc pr m n

section
variable {pr : Nat → List Nat}
theorem Anc.trans {a b c : Nat} (h : Anc pr a b) (h2 : Anc pr b c) : Anc pr a c := by
  induction h with
  | refl => exact h2
  | step hp _ ih => exact .step hp (ih h2)
theorem Anc.snoc {m k n : Nat} (h : Anc pr m k) (hp : n ∈ pr k) : Anc pr m n := h.trans (.step hp (.refl _))
theorem Anc.le (hlt : ∀ m x, x ∈ pr m → x < m) {m n : Nat} (h : Anc pr m n) : n ≤ m := by
  induction h with
  | refl => exact Nat.le_refl _
  | step hp _ ih => have := hlt _ _ hp; omega
theorem Anc.last {m n : Nat} (h : Anc pr m n) : m = n ∨ ∃ k, Anc pr m k ∧ n ∈ pr k := by
  induction h with
  | refl => exact .inl rfl
  | step hp h ih =>
    rcases ih with rfl | ⟨k, hk, hn⟩
    · exact .inr ⟨_, .refl _, hp⟩
    · exact .inr ⟨k, .step hp hk, hn⟩
theorem Anc.first {m n : Nat} (h : Anc pr m n) : m = n ∨ ∃ p, p ∈ pr m ∧ Anc pr p n := by
  cases h with
  | refl => exact .inl rfl
  | step hp h => exact .inr ⟨_, hp, h⟩
theorem Anc.antisymm (hlt : ∀ m x, x ∈ pr m → x < m) {m n : Nat} (h : Anc pr m n) (h2 : Anc pr n m) : m = n := by
  have := h.le hlt; have := h2.le hlt; omega

/-- what is handed down, is what the ancestors of the seeds are -/
theorem sol (hlt : ∀ m x, x ∈ pr m → x < m) {N : Nat} {S seed : Nat → Prop} (h : ∀ x, x < N → (S x ↔ seed x ∨ ∃ m, m < N ∧ S m ∧ x ∈ pr m)) (hs : ∀ x, seed x → x < N) :
    ∀ x, x < N → (S x ↔ ∃ s, seed s ∧ Anc pr s x) := by
  intro x hx
  constructor
  · have key : ∀ d x, x < N → N - x ≤ d → S x → ∃ s, seed s ∧ Anc pr s x := by
      intro d
      induction d with
      | zero => intro x hx hd; omega
      | succ d ih =>
        intro x hx hd hS
        rcases (h x hx).1 hS with h1 | ⟨m, hm, hSm, hxm⟩
        · exact ⟨x, h1, .refl _⟩
        · have := hlt _ _ hxm
          obtain ⟨s, h1, h2⟩ := ih m hm (by omega) hSm
          exact ⟨s, h1, h2.snoc hxm⟩
    exact key _ x hx (Nat.le_refl _)
  · rintro ⟨s, h1, h2⟩
    have key : ∀ {m n : Nat}, Anc pr m n → m < N → S m → S n := by
      intro m n hA
      induction hA with
      | refl => exact fun _ h => h
      | step hp _ ih =>
        intro hm hS
        have := hlt _ _ hp
        exact ih (by omega) ((h _ (by omega)).2 (.inr ⟨_, hm, hS, hp⟩))
    exact key h2 (hs s h1) ((h s (hs s h1)).2 (.inl h1))

/-! ### marks -/
def bit (ms : List Nat) (n b : Nat) : Bool := (ms.getD n 0).testBit b
def fl (ms : List Nat) (n : Nat) : Nat := ms.getD n 0 &&& 7
def mk (ms : List Nat) (n f : Nat) : List Nat := ms.set n (ms.getD n 0 ||| (f ||| 8))
def mks (ms : List Nat) (l : List Nat) (f : Nat) : List Nat := l.foldl (fun ms p => mk ms p f) ms

theorem mk_len (ms : List Nat) (n f : Nat) : (mk ms n f).length = ms.length := by simp [mk]
theorem mks_len (l : List Nat) (f : Nat) : ∀ ms : List Nat, (mks ms l f).length = ms.length := by
  induction l with
  | nil => intro ms; rfl
  | cons x l ih => intro ms; show (mks (mk ms x f) l f).length = _; rw [ih, mk_len]
theorem eight_bit (b : Nat) : (8 : Nat).testBit b = decide (b = 3) := by
  rw [show (8 : Nat) = 2 ^ 3 from rfl, Nat.testBit_two_pow]
  simp [eq_comm]
theorem bit_mk {ms : List Nat} {n f : Nat} (h : n < ms.length) (x b : Nat) : bit (mk ms n f) x b = (bit ms x b || (decide (x = n) && (decide (b = 3) || f.testBit b))) := by
  unfold bit mk
  by_cases e : x = n
  · subst e
    simp only [List.getD_eq_getElem?_getD, List.getElem?_set_self h, Option.getD_some, Nat.testBit_or, eight_bit, decide_true, Bool.true_and]
    cases (Nat.testBit _ b) <;> cases f.testBit b <;> simp
  · simp [List.getD_eq_getElem?_getD, List.getElem?_set_ne (fun h => e h.symm), e]
theorem bit_mks {f : Nat} (l : List Nat) : ∀ {ms : List Nat}, (∀ x ∈ l, x < ms.length) → ∀ x b, bit (mks ms l f) x b = (bit ms x b || (decide (x ∈ l) && (decide (b = 3) || f.testBit b))) := by
  induction l with
  | nil => intro ms _ x b; simp [mks]
  | cons y l ih =>
    intro ms h x b
    show bit (mks (mk ms y f) l f) x b = _
    rw [ih (by intro x hx; rw [mk_len]; exact h x (by simp [hx])), bit_mk (h y (by simp))]
    simp only [List.mem_cons, Bool.decide_or]
    cases bit ms x b <;> cases decide (x = y) <;> cases decide (x ∈ l) <;> simp
theorem mk_getD_ne {ms : List Nat} {n f x : Nat} (h : x ≠ n) : (mk ms n f).getD x 0 = ms.getD x 0 := by
  simp [mk, List.getD_eq_getElem?_getD, List.getElem?_set_ne (fun e => h e.symm)]
theorem mks_getD_ne {f : Nat} (l : List Nat) : ∀ {ms : List Nat} {x : Nat}, x ∉ l → (mks ms l f).getD x 0 = ms.getD x 0 := by
  induction l with
  | nil => intro ms x _; rfl
  | cons y l ih =>
    intro ms x h
    show (mks (mk ms y f) l f).getD x 0 = _
    simp only [List.mem_cons, not_or] at h
    rw [ih h.2, mk_getD_ne h.1]
theorem fl_bit (ms : List Nat) (n b : Nat) : (fl ms n).testBit b = (bit ms n b && decide (b < 3)) := by
  unfold fl bit
  rw [Nat.testBit_and, show (7 : Nat) = 2 ^ 3 - 1 from rfl, Nat.testBit_two_pow_sub_one]
theorem fl_lt (ms : List Nat) (n : Nat) : fl ms n < 8 := Nat.lt_of_le_of_lt Nat.and_le_right (by omega)
theorem lt16 {a f : Nat} (ha : a < 16) (hf : f < 8) : a ||| (f ||| 8) < 16 := by
  have h1 : f ||| 8 < 2 ^ 4 := Nat.or_lt_two_pow (by omega) (by omega)
  exact Nat.or_lt_two_pow (n := 4) ha h1
def small (ms : List Nat) : Prop := ∀ x ∈ ms, x < 16
theorem small_mk {ms : List Nat} (h : small ms) {n f : Nat} (hf : f < 8) : small (mk ms n f) := by
  intro x hx
  rcases List.mem_or_eq_of_mem_set hx with h1 | rfl
  · exact h x h1
  · refine lt16 ?_ hf
    rw [List.getD_eq_getElem?_getD]
    by_cases hn : n < ms.length
    · simp [hn]; exact h _ (List.getElem_mem hn)
    · simp [Nat.le_of_not_lt hn]

/-- the marks are what the seeds are, and what nodes from B on have handed down -/
structure Fix (pr : Nat → List Nat) (hd : Nat → Nat → Nat) (seed : Nat → Nat → Prop) (N B : Nat) (ms : List Nat) : Prop where
  len : ms.length = N
  eq : ∀ x b, x < N → (bit ms x b = true ↔ seed x b ∨ ∃ m, B ≤ m ∧ m < N ∧ bit ms m 3 = true ∧ x ∈ pr m ∧ (b = 3 ∨ (hd m (fl ms m)).testBit b = true))

theorem Fix.next (hlt : ∀ m x, x ∈ pr m → x < m) {hd : Nat → Nat → Nat} {seed : Nat → Nat → Prop} {N B n : Nat} {ms : List Nat} (h : Fix pr hd seed N B ms) (hn : n < B) (hB : n < N)
    (hq : bit ms n 3 = true) (hm : ∀ m, n < m → m < B → bit ms m 3 = false) : Fix pr hd seed N n (mks ms (pr n) (hd n (fl ms n))) := by
  have hin : ∀ x ∈ pr n, x < ms.length := fun x hx => by have := hlt _ _ hx; rw [h.len]; omega
  have hsame : ∀ m, n ≤ m → (mks ms (pr n) (hd n (fl ms n))).getD m 0 = ms.getD m 0 := fun m hm => mks_getD_ne _ (fun hx => by have := hlt _ _ hx; omega)
  have hsfl : ∀ m, n ≤ m → fl (mks ms (pr n) (hd n (fl ms n))) m = fl ms m := fun m hm => congrArg (· &&& 7) (hsame m hm)
  refine ⟨by rw [mks_len, h.len], fun x b hx => ?_⟩
  rw [bit_mks _ hin]
  simp only [Bool.or_eq_true, Bool.and_eq_true, decide_eq_true_eq]
  rw [h.eq x b hx]
  constructor
  · rintro ((h1 | ⟨m, h1, h2, h3, h4, h5⟩) | ⟨h1, h2⟩)
    · exact .inl h1
    · refine .inr ⟨m, by omega, h2, ?_, h4, ?_⟩
      · unfold bit; rw [hsame m (by omega)]; exact h3
      · rw [hsfl m (by omega)]; exact h5
    · refine .inr ⟨n, Nat.le_refl _, hB, ?_, h1, ?_⟩
      · unfold bit; rw [hsame n (Nat.le_refl _)]; exact hq
      · rw [hsfl n (Nat.le_refl _)]; exact h2
  · rintro (h1 | ⟨m, h1, h2, h3, h4, h5⟩)
    · exact .inl (.inl h1)
    · have e1 : bit ms m 3 = true := by unfold bit at h3 ⊢; rwa [hsame m h1] at h3
      rw [hsfl m h1] at h5
      by_cases e : m = n
      · subst e; exact .inr ⟨h4, h5⟩
      · by_cases hb : m < B
        · rw [hm m (by omega) hb] at e1; cases e1
        · exact .inl (.inr ⟨m, by omega, h2, e1, h4, h5⟩)

theorem Fix.done {hd : Nat → Nat → Nat} {seed : Nat → Nat → Prop} {N B : Nat} {ms : List Nat} (h : Fix pr hd seed N B ms) (hm : ∀ m, m < B → bit ms m 3 = false) : Fix pr hd seed N 0 ms := by
  refine ⟨h.len, fun x b hx => ?_⟩
  rw [h.eq x b hx]
  constructor
  · rintro (h1 | ⟨m, h1, h2⟩)
    · exact .inl h1
    · exact .inr ⟨m, by omega, h2⟩
  · rintro (h1 | ⟨m, h1, h2, h3, h4⟩)
    · exact .inl h1
    · by_cases hb : m < B
      · rw [hm m hb] at h3; cases h3
      · exact .inr ⟨m, by omega, h2, h3, h4⟩

theorem Fix.start {hd : Nat → Nat → Nat} {N : Nat} {ms : List Nat} (h : ms.length = N) : Fix pr hd (fun x b => bit ms x b = true) N N ms := by
  refine ⟨h, fun x b hx => ⟨.inl, ?_⟩⟩
  rintro (h1 | ⟨m, h1, h2, _⟩)
  · exact h1
  · omega

/-- who is queued -/
theorem Fix.qd (hlt : ∀ m x, x ∈ pr m → x < m) {hd : Nat → Nat → Nat} {seed : Nat → Nat → Prop} {N : Nat} {ms : List Nat} (h : Fix pr hd seed N 0 ms) (hs : ∀ x b, seed x b → x < N) :
    ∀ x, x < N → (bit ms x 3 = true ↔ ∃ s, seed s 3 ∧ Anc pr s x) :=
  sol hlt (S := fun x => bit ms x 3 = true) (seed := fun x => seed x 3) (fun x hx => by
    rw [h.eq x 3 hx]
    constructor
    · rintro (h1 | ⟨m, _, h2, h3, h4, _⟩)
      · exact .inl h1
      · exact .inr ⟨m, h2, h3, h4⟩
    · rintro (h1 | ⟨m, h2, h3, h4⟩)
      · exact .inl h1
      · exact .inr ⟨m, Nat.zero_le _, h2, h3, h4, .inl rfl⟩) (fun x hx => hs x 3 hx)

theorem Fix.bit3 {hd : Nat → Nat → Nat} {seed : Nat → Nat → Prop} {N : Nat} {ms : List Nat} (h : Fix pr hd seed N 0 ms) (hs : ∀ x b, seed x b → seed x 3) {x b : Nat} (hx : x < N) (hb : bit ms x b = true) : bit ms x 3 = true := by
  rcases (h.eq x b hx).1 hb with h1 | ⟨m, h1, h2, h3, h4, _⟩
  · exact (h.eq x 3 hx).2 (.inl (hs x b h1))
  · exact (h.eq x 3 hx).2 (.inr ⟨m, h1, h2, h3, h4, .inl rfl⟩)

/-- a flag that is handed down as it is -/
theorem Fix.pass (hlt : ∀ m x, x ∈ pr m → x < m) {hd : Nat → Nat → Nat} {seed : Nat → Nat → Prop} {N : Nat} {ms : List Nat} (h : Fix pr hd seed N 0 ms) (hs : ∀ x b, seed x b → x < N) (hs3 : ∀ x b, seed x b → seed x 3) {b : Nat} (hb : b < 3)
    (hp : ∀ m, m < N → (hd m (fl ms m)).testBit b = bit ms m b) : ∀ x, x < N → (bit ms x b = true ↔ ∃ s, seed s b ∧ Anc pr s x) :=
  sol hlt (S := fun x => bit ms x b = true) (seed := fun x => seed x b) (fun x hx => by
    rw [h.eq x b hx]
    constructor
    · rintro (h1 | ⟨m, _, h2, h3, h4, h5⟩)
      · exact .inl h1
      · rcases h5 with h5 | h5
        · omega
        · exact .inr ⟨m, h2, by rw [hp m h2] at h5; exact h5, h4⟩
    · rintro (h1 | ⟨m, h2, h3, h4⟩)
      · exact .inl h1
      · exact .inr ⟨m, Nat.zero_le _, h2, h.bit3 hs3 h2 h3, h4, .inr (by rw [hp m h2]; exact h3)⟩) (fun x hx => hs x b hx)

theorem small8 : ∀ v, v < 8 → (v = 1 ↔ v.testBit 0 = true ∧ v.testBit 1 = false ∧ v.testBit 2 = false) ∧ (v = 3 ↔ v.testBit 0 = true ∧ v.testBit 1 = true ∧ v.testBit 2 = false) := by decide

/-- between: the ancestors of some that are none of others -/
theorem Fix.between (hlt : ∀ m x, x ∈ pr m → x < m) {seed : Nat → Nat → Prop} {N : Nat} {ms : List Nat} (h : Fix pr (fun _ f => f) seed N 0 ms) (hs : ∀ x b, seed x b → x < N) (hs3 : ∀ x b, seed x b → seed x 3) (hs2 : ∀ x, ¬ seed x 2) :
    ∀ x, x < N → (fl ms x = 1 ↔ (∃ s, seed s 0 ∧ Anc pr s x) ∧ ¬ ∃ s, seed s 1 ∧ Anc pr s x) := by
  intro x hx
  have hp : ∀ b, b < 3 → ∀ m, m < N → (fl ms m).testBit b = bit ms m b := fun b hb m _ => by rw [fl_bit]; simp [hb]
  rw [(small8 _ (fl_lt ms x)).1, hp 0 (by omega) x hx, hp 1 (by omega) x hx, hp 2 (by omega) x hx]
  rw [h.pass hlt hs hs3 (by omega) (hp 0 (by omega)) x hx]
  have h1 := h.pass hlt hs hs3 (b := 1) (by omega) (hp 1 (by omega)) x hx
  have h2 := h.pass hlt hs hs3 (b := 2) (by omega) (hp 2 (by omega)) x hx
  constructor
  · rintro ⟨a, b, _⟩
    refine ⟨a, fun hc => ?_⟩
    rw [h1.2 hc] at b; cases b
  · rintro ⟨a, b⟩
    refine ⟨a, ?_, ?_⟩
    · cases e : bit ms x 1
      · rfl
      · exact absurd (h1.1 e) b
    · cases e : bit ms x 2
      · rfl
      · obtain ⟨s, hs', _⟩ := h2.1 e
        exact absurd hs' (hs2 s)

/-- heads: those that are no others' ancestors -/
theorem Fix.heads (hlt : ∀ m x, x ∈ pr m → x < m) {seed : Nat → Nat → Prop} {N : Nat} {ms : List Nat} (h : Fix pr (fun _ _ => 4) seed N 0 ms) (hs : ∀ x b, seed x b → x < N) (hs0 : ∀ x b, seed x b ↔ seed x 3 ∧ (b = 0 ∨ b = 3)) :
    ∀ x, x < N → (fl ms x = 1 ↔ seed x 3 ∧ ¬ ∃ s, s ≠ x ∧ seed s 3 ∧ Anc pr s x) := by
  intro x hx
  have hp : ∀ b, b < 3 → (fl ms x).testBit b = bit ms x b := fun b hb => by rw [fl_bit]; simp [hb]
  rw [(small8 _ (fl_lt ms x)).1, hp 0 (by omega), hp 1 (by omega), hp 2 (by omega)]
  have e0 : bit ms x 0 = true ↔ seed x 3 := by
    rw [h.eq x 0 hx, hs0 x 0]
    constructor
    · rintro (h1 | ⟨m, _, _, _, _, h5⟩)
      · exact h1.1
      · rcases h5 with h5 | h5
        · omega
        · exact absurd h5 (by decide)
    · intro h1; exact .inl ⟨h1, .inl rfl⟩
  have e1 : bit ms x 1 = false := by
    cases e : bit ms x 1
    · rfl
    · rcases (h.eq x 1 hx).1 e with h1 | ⟨m, _, _, _, _, h5⟩
      · have := ((hs0 x 1).1 h1).2; omega
      · rcases h5 with h5 | h5
        · omega
        · exact absurd h5 (by decide)
  have e2 : bit ms x 2 = true ↔ ∃ s, s ≠ x ∧ seed s 3 ∧ Anc pr s x := by
    rw [h.eq x 2 hx]
    constructor
    · rintro (h1 | ⟨m, _, h2, h3, h4, _⟩)
      · have := ((hs0 x 2).1 h1).2; omega
      · obtain ⟨s, h5, h6⟩ := (h.qd hlt hs m h2).1 h3
        refine ⟨s, ?_, h5, h6.snoc h4⟩
        rintro rfl
        have := h6.le hlt; have := hlt _ _ h4; omega
    · rintro ⟨s, h1, h2, h3⟩
      rcases h3.last with rfl | ⟨k, h4, h5⟩
      · exact absurd rfl h1
      · have hk : k < N := by have := h4.le hlt; have := hs s 3 h2; omega
        exact .inr ⟨k, Nat.zero_le _, hk, (h.qd hlt hs k hk).2 ⟨s, h2, h4⟩, h5, .inr (by decide)⟩
  rw [e0, e1, ← e2]
  simp

/-- where two meet -/
theorem Fix.bases (hlt : ∀ m x, x ∈ pr m → x < m) {seed : Nat → Nat → Prop} {N a b : Nat} {ms : List Nat} (h : Fix pr (fun _ f => if f = 3 then 7 else f) seed N 0 ms) (ha : a < N) (hb : b < N)
    (hs : ∀ x i, seed x i ↔ (x = a ∧ (i = 0 ∨ i = 3)) ∨ (x = b ∧ (i = 1 ∨ i = 3))) :
    ∀ x, x < N → (fl ms x = 3 ↔ (Anc pr a x ∧ Anc pr b x) ∧ ¬ ∃ m, m ≠ x ∧ (Anc pr a m ∧ Anc pr b m) ∧ Anc pr m x) := by
  intro x hx
  have hfl : ∀ m i, i < 3 → (fl ms m).testBit i = bit ms m i := fun m i hi => by rw [fl_bit]; simp [hi]
  have hsN : ∀ x i, seed x i → x < N := fun x i h => by rcases (hs x i).1 h with ⟨rfl, _⟩ | ⟨rfl, _⟩ <;> assumption
  have hs3 : ∀ x i, seed x i → seed x 3 := fun x i h => (hs x 3).2 (by rcases (hs x i).1 h with ⟨rfl, _⟩ | ⟨rfl, _⟩ <;> simp)
  have h70 : ∀ v, v < 8 → (if v = 3 then 7 else v).testBit 0 = v.testBit 0 ∧ (if v = 3 then 7 else v).testBit 1 = v.testBit 1 ∧ ((if v = 3 then 7 else v).testBit 2 = true ↔ v = 3 ∨ v.testBit 2 = true) := by decide
  have p0 := h.pass hlt hsN hs3 (b := 0) (by omega) (fun m _ => by rw [(h70 _ (fl_lt ms m)).1, hfl m 0 (by omega)])
  have p1 := h.pass hlt hsN hs3 (b := 1) (by omega) (fun m _ => by rw [(h70 _ (fl_lt ms m)).2.1, hfl m 1 (by omega)])
  have q0 : ∀ x, x < N → (bit ms x 0 = true ↔ Anc pr a x) := fun x hx => by
    rw [p0 x hx]
    constructor
    · rintro ⟨s, h1, h2⟩
      rcases (hs s 0).1 h1 with ⟨rfl, _⟩ | ⟨_, h3⟩
      · exact h2
      · omega
    · intro h1; exact ⟨a, (hs a 0).2 (.inl ⟨rfl, .inl rfl⟩), h1⟩
  have q1 : ∀ x, x < N → (bit ms x 1 = true ↔ Anc pr b x) := fun x hx => by
    rw [p1 x hx]
    constructor
    · rintro ⟨s, h1, h2⟩
      rcases (hs s 1).1 h1 with ⟨_, h3⟩ | ⟨rfl, _⟩
      · omega
      · exact h2
    · intro h1; exact ⟨b, (hs b 1).2 (.inr ⟨rfl, .inl rfl⟩), h1⟩
  have both : ∀ d x, x < N → N - x ≤ d → bit ms x 2 = true → Anc pr a x ∧ Anc pr b x := by
    intro d
    induction d with
    | zero => intro x hx hd; omega
    | succ d ih =>
      intro x hx hd h2
      rcases (h.eq x 2 hx).1 h2 with h3 | ⟨m, _, hm, _, hxm, h3⟩
      · have := (hs x 2).1 h3; omega
      · have hltm := hlt _ _ hxm
        rcases h3 with h3 | h3
        · omega
        · have hh : Anc pr a m ∧ Anc pr b m := by
            rcases (h70 _ (fl_lt ms m)).2.2.1 h3 with h4 | h4
            · have := (small8 _ (fl_lt ms m)).2.1 h4
              rw [hfl m 0 (by omega), hfl m 1 (by omega)] at this
              exact ⟨(q0 m hm).1 this.1, (q1 m hm).1 this.2.1⟩
            · rw [hfl m 2 (by omega)] at h4
              exact ih m hm (by omega) h4
          exact ⟨hh.1.snoc hxm, hh.2.snoc hxm⟩
  have e2 : bit ms x 2 = true ↔ ∃ m, m ≠ x ∧ (Anc pr a m ∧ Anc pr b m) ∧ Anc pr m x := by
    constructor
    · intro h2
      rcases (h.eq x 2 hx).1 h2 with h3 | ⟨m, _, hm, _, hxm, h3⟩
      · have := (hs x 2).1 h3; omega
      · rcases h3 with h3 | h3
        · omega
        · refine ⟨m, fun e => by have := hlt _ _ hxm; omega, ?_, .step hxm (.refl _)⟩
          rcases (h70 _ (fl_lt ms m)).2.2.1 h3 with h4 | h4
          · have := (small8 _ (fl_lt ms m)).2.1 h4
            rw [hfl m 0 (by omega), hfl m 1 (by omega)] at this
            exact ⟨(q0 m hm).1 this.1, (q1 m hm).1 this.2.1⟩
          · rw [hfl m 2 (by omega)] at h4
            exact both _ m hm (Nat.le_refl _) h4
    · rintro ⟨m, h1, ⟨h2, h3⟩, h4⟩
      rcases h4.last with rfl | ⟨k, h5, h6⟩
      · exact absurd rfl h1
      · have ka := h2.trans h5
        have kb := h3.trans h5
        have hk : k < N := by have := ka.le hlt; omega
        have b0 := (q0 k hk).2 ka
        have b1 := (q1 k hk).2 kb
        refine (h.eq x 2 hx).2 (.inr ⟨k, Nat.zero_le _, hk, h.bit3 hs3 hk b0, h6, .inr ?_⟩)
        refine (h70 _ (fl_lt ms k)).2.2.2 ?_
        cases e : bit ms k 2
        · left
          rw [(small8 _ (fl_lt ms k)).2, hfl k 0 (by omega), hfl k 1 (by omega), hfl k 2 (by omega)]
          exact ⟨b0, b1, e⟩
        · right; rw [hfl k 2 (by omega)]; exact e
  rw [(small8 _ (fl_lt ms x)).2, hfl x 0 (by omega), hfl x 1 (by omega), hfl x 2 (by omega), q0 x hx, q1 x hx, ← e2]
  simp [and_assoc]
end
end Go.Dag
