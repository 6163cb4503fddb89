import Derived.Test.YtcpmnocknpalfaaG1
/-
  Layer 14, plain: the lists that are asked for. No program is named here, no condition.
-/
namespace Go.Dag
/-- the numbers below N that are wanted, rising -/
def filtN (p : Nat → Bool) : Nat → List Int
  | 0 => []
  | n + 1 => filtN p n ++ (if p n then [(n : Int)] else [])
theorem filtN_congr {p q : Nat → Bool} : ∀ {N : Nat}, (∀ n, n < N → p n = q n) → filtN p N = filtN q N
  | 0, _ => rfl
  | N + 1, h => by
    show filtN p N ++ _ = filtN q N ++ _
    rw [filtN_congr (fun n hn => h n (by omega)), h N (by omega)]
theorem filtN_none {p : Nat → Bool} : ∀ {N : Nat}, (∀ n, n < N → p n = false) → filtN p N = []
  | 0, _ => rfl
  | N + 1, h => by
    show filtN p N ++ _ = _
    rw [filtN_none (fun n hn => h n (by omega)), h N (by omega)]; simp
theorem mem_filtN {p : Nat → Bool} {x : Int} : ∀ {N : Nat}, x ∈ filtN p N ↔ ∃ n, n < N ∧ p n = true ∧ x = n
  | 0 => by simp [filtN]
  | N + 1 => by
    show x ∈ filtN p N ++ _ ↔ _
    rw [List.mem_append, mem_filtN]
    constructor
    · rintro (⟨n, h1, h2, h3⟩ | h)
      · exact ⟨n, by omega, h2, h3⟩
      · cases hp : p N
        · simp [hp] at h
        · exact ⟨N, by omega, hp, by simpa [hp] using h⟩
    · rintro ⟨n, h1, h2, h3⟩
      by_cases e : n = N
      · subst e; right; simp [h2, h3]
      · exact .inl ⟨n, by omega, h2, h3⟩
theorem filtN_cons {p q : Nat → Bool} {n : Nat} : ∀ {N : Nat}, n < N → (∀ m, n < m → p m = q m) → (∀ m, m ≤ n → q m = false) → (∀ m, m < n → p m = false) → p n = true → filtN p N = (n : Int) :: filtN q N
  | 0, h, _, _, _, _ => by omega
  | N + 1, h, h1, h2, h3, h4 => by
    show filtN p N ++ _ = _ :: (filtN q N ++ _)
    by_cases e : n = N
    · subst e
      rw [filtN_none h3, filtN_none (fun m hm => h2 m (by omega)), h4, h2 n (Nat.le_refl _)]; simp
    · rw [filtN_cons (by omega) h1 h2 h3 h4, h1 N (by omega)]; simp
theorem filtN_len {p : Nat → Bool} : ∀ N : Nat, (filtN p N).length ≤ N
  | 0 => Nat.le_refl _
  | N + 1 => by
    show (filtN p N ++ _).length ≤ _
    have := filtN_len (p := p) N
    rw [List.length_append]; split <;> simp <;> omega
theorem filtN_all {p : Nat → Bool} {N M : Nat} (h : N ≤ M) (h2 : ∀ n, N ≤ n → p n = false) : filtN p M = filtN p N := by
  induction M with
  | zero => obtain rfl : N = 0 := by omega
            rfl
  | succ M ih =>
    by_cases e : N = M + 1
    · rw [e]
    · show filtN p M ++ _ = _
      rw [ih (by omega), h2 M (by omega)]; simp

/-! ### what a sweep tells -/
def em (f0 : Nat) (ms : List Nat) (n : Nat) : Bool := bit ms n 3 && (fl ms n == f0)
/-- told so far, the greatest first -/
def told (p : Nat → Bool) (B N : Nat) : List Int := (filtN (fun m => decide (B ≤ m) && p m) N).reverse
theorem told_start (p : Nat → Bool) (N : Nat) : told p N N = [] := by
  unfold told
  rw [filtN_none (fun n hn => by simp; omega)]; rfl
theorem told_done {p : Nat → Bool} {B N : Nat} (h : ∀ m, m < B → p m = false) : (told p B N).reverse = filtN p N := by
  unfold told
  rw [List.reverse_reverse]
  exact filtN_congr fun n _ => by
    by_cases hb : B ≤ n
    · simp [hb]
    · simp [hb, h n (by omega)]
theorem told_yes {p p' : Nat → Bool} {B N n : Nat} (hn : n < B) (hN : n < N) (hm : ∀ m, n < m → m < B → p m = false) (hs : ∀ m, n ≤ m → p' m = p m) (h : p n = true) : told p' n N = told p B N ++ [(n : Int)] := by
  unfold told
  rw [← List.reverse_cons]
  congr 1
  refine filtN_cons hN (fun m h1 => ?_) (fun m h1 => ?_) (fun m h1 => ?_) ?_
  · rw [hs m (by omega)]
    by_cases hb : B ≤ m
    · simp [hb, show n ≤ m by omega]
    · simp [hb, hm m h1 (by omega)]
  · simp; omega
  · simp; omega
  · rw [hs n (Nat.le_refl _)]; simp [h]
theorem told_no {p p' : Nat → Bool} {B N n : Nat} (hn : n < B) (hm : ∀ m, n < m → m < B → p m = false) (hs : ∀ m, n ≤ m → p' m = p m) (h : p n = false) : told p' n N = told p B N := by
  unfold told
  congr 1
  refine filtN_congr fun m _ => ?_
  by_cases hb : B ≤ m
  · simp [hb, show n ≤ m by omega, hs m (by omega)]
  · by_cases hnm : n ≤ m
    · rw [hs m hnm]
      by_cases e : m = n
      · subst e; simp [h]
      · simp [hb, hm m (by omega) (by omega)]
    · simp [hb, hnm]
theorem told_len (p : Nat → Bool) (B N : Nat) : (told p B N).length ≤ N := by unfold told; rw [List.length_reverse]; exact filtN_len _
theorem em_same {f0 : Nat} {ms ms' : List Nat} {m : Nat} (h : ms'.getD m 0 = ms.getD m 0) : em f0 ms' m = em f0 ms m := by unfold em bit fl; rw [h]

/-! ### what is asked -/
def upP (g : List Nd) (l : List Nat) (x : Nat) : Prop := ∃ s, s ∈ l ∧ Anc (par g) s x
def baseP (g : List Nd) (a b x : Nat) : Prop := (Anc (par g) a x ∧ Anc (par g) b x) ∧ ¬ ∃ m, m ≠ x ∧ (Anc (par g) a m ∧ Anc (par g) b m) ∧ Anc (par g) m x
def headP (g : List Nd) (l : List Nat) (x : Nat) : Prop := x ∈ l ∧ ¬ ∃ s, s ≠ x ∧ s ∈ l ∧ Anc (par g) s x
abbrev nn (l : List Int) : List Nat := l.map Int.toNat
open Classical in
/-- the truth of a statement -/
noncomputable def tt (P : Prop) : Bool := decide P
open Classical in
theorem tt_iff {P : Prop} : tt P = true ↔ P := by unfold tt; exact decide_eq_true_iff
open Classical in
theorem tt_no {P : Prop} : tt P = false ↔ ¬ P := by unfold tt; exact decide_eq_false_iff_not
theorem tt_congr {P Q : Prop} (h : P ↔ Q) : tt P = tt Q := by rw [propext h]
noncomputable def upB (g : List Nd) (l : List Nat) (x : Nat) : Bool := tt (upP g l x)
noncomputable def baseL (g : List Nd) (a b : Nat) : List Int := filtN (fun x => tt (baseP g a b x)) g.length
noncomputable def rangeL (g : List Nd) (l m : List Nat) : List Int := filtN (fun x => tt (upP g l x ∧ ¬ upP g m x)) g.length
noncomputable def headL (g : List Nd) (l : List Nat) : List Int := filtN (fun x => tt (headP g l x)) g.length
theorem upB_iff {g : List Nd} {l : List Nat} {x : Nat} : upB g l x = true ↔ upP g l x := tt_iff

/-! ### generations and children -/
def mx (out : List Int) (ps : List Int) : Int := ps.foldl (fun m p => max m (out.getD p.toNat 0 + 1)) 1
def gensTo (g : List Nd) : Nat → List Int
  | 0 => []
  | k + 1 => gensTo g k ++ [mx (gensTo g k) ((g[k]?.map (·.1)).getD [])]
def gensL (g : List Nd) : List Int := gensTo g g.length
theorem gensTo_len (g : List Nd) : ∀ k, (gensTo g k).length = k
  | 0 => rfl
  | k + 1 => by show (gensTo g k ++ [_]).length = _; rw [List.length_append, gensTo_len]; rfl
theorem gensTo_get (g : List Nd) {k j : Nat} (h : j < k) : (gensTo g k).getD j 0 = mx (gensTo g j) ((g[j]?.map (·.1)).getD []) := by
  induction k with
  | zero => omega
  | succ k ih =>
    show (gensTo g k ++ [_]).getD j 0 = _
    by_cases e : j = k
    · subst e; simp [List.getD_eq_getElem?_getD, gensTo_len]
    · rw [← ih (by omega)]
      simp [List.getD_eq_getElem?_getD, List.getElem?_append_left (show j < (gensTo g k).length by rw [gensTo_len]; omega)]
theorem mx_congr {o o' : List Int} (ps : List Int) (h : ∀ p ∈ ps, o.getD p.toNat 0 = o'.getD p.toNat 0) : mx o ps = mx o' ps := by
  unfold mx
  have key : ∀ (ps : List Int) (a : Int), (∀ p ∈ ps, o.getD p.toNat 0 = o'.getD p.toNat 0) → ps.foldl (fun m p => max m (o.getD p.toNat 0 + 1)) a = ps.foldl (fun m p => max m (o'.getD p.toNat 0 + 1)) a := by
    intro ps
    induction ps with
    | nil => intro a _; rfl
    | cons p ps ih =>
      intro a h
      simp only [List.foldl_cons]
      rw [h p (by simp)]
      exact ih _ (fun q hq => h q (by simp [hq]))
  exact key ps 1 h
theorem mx_ge (o : List Int) (ps : List Int) (p : Int) (h : p ∈ ps) : o.getD p.toNat 0 < mx o ps := by
  unfold mx
  have key : ∀ (ps : List Int) (a : Int), a ≤ ps.foldl (fun m p => max m (o.getD p.toNat 0 + 1)) a ∧ ∀ p ∈ ps, o.getD p.toNat 0 < ps.foldl (fun m p => max m (o.getD p.toNat 0 + 1)) a := by
    intro ps
    induction ps with
    | nil => intro a; exact ⟨Int.le_refl _, fun p h => by simp at h⟩
    | cons q ps ih =>
      intro a
      simp only [List.foldl_cons]
      obtain ⟨h1, h2⟩ := ih (max a (o.getD q.toNat 0 + 1))
      refine ⟨by omega, fun p hp => ?_⟩
      rcases List.mem_cons.1 hp with rfl | hp
      · omega
      · exact h2 p hp
  exact (key ps 1).2 p h
def gen (g : List Nd) (n : Nat) : Int := (gensL g).getD n 0
theorem gen_lt {g : List Nd} (hg : okG g) {m n : Nat} (hm : m < g.length) (h : n ∈ par g m) : gen g n < gen g m := by
  have hlt := par_lt hg m n h
  have e1 : gen g m = mx (gensTo g m) g[m].1 := by unfold gen gensL; rw [gensTo_get g hm]; simp [hm]
  have e2 : gen g n = (gensTo g m).getD n 0 := by unfold gen gensL; rw [gensTo_get g (by omega), gensTo_get g hlt]
  rw [par_eq hm] at h
  obtain ⟨p, hp, rfl⟩ := List.mem_map.1 h
  rw [e1, e2]
  exact mx_ge _ _ p hp
theorem gen_anc {g : List Nd} (hg : okG g) {m n : Nat} (hm : m < g.length) (h : Anc (par g) m n) : m = n ∨ gen g n < gen g m := by
  induction h with
  | refl => exact .inl rfl
  | step hp h ih =>
    right
    have h1 := par_lt hg _ _ hp
    have h2 := gen_lt hg hm hp
    rcases ih (by omega) with rfl | h3 <;> omega
def chTo (g : List Nd) (a : Nat) : Nat → List Int
  | 0 => []
  | n + 1 => chTo g a n ++ (((g[n]?.map (·.1)).getD []).filter (fun p => p == (a : Int))).map (fun _ => (n : Int))
def chL (g : List Nd) (a : Nat) : List Int := chTo g a g.length
end Go.Dag
