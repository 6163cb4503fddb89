/-
  Layer 34, plain: a session's sets, what is asked next, what an answer makes of them. No program is named here, no condition.
-/
import Derived.Test.YtcpmnocknpalfaaB64
import Derived.Test.YtcpmnocknpalfaaG8
namespace Go.Bis
open Go.Dag Go.B64
set_option linter.unusedVariables false

/-- a node's ancestors -/
noncomputable def anc (g : List Nd) (n : Nat) : S := setOf (fun x => decide (x < g.length) && upB g [n] x) 128
theorem mem_anc {g : List Nd} (hg : okG g) (n x : Nat) : mem (anc g n) x = (decide (x < g.length) && upB g [n] x) := by
  unfold anc
  rw [mem_setOf _ 128 (Nat.le_refl _)]
  by_cases h : x < g.length
  · have := hg.1; rw [decide_eq_true (show x < 128 by omega)]; simp
  · simp [h]
theorem upB_one {g : List Nd} {n x : Nat} : upB g [n] x = true ↔ Anc (par g) n x := by rw [upB_iff]; unfold upP; simp
theorem anc_iff {g : List Nd} (hg : okG g) {n x : Nat} (hn : n < g.length) : mem (anc g n) x = true ↔ Anc (par g) n x := by
  rw [mem_anc hg, Bool.and_eq_true, decide_eq_true_eq, upB_one]
  constructor
  · exact fun h => h.2
  · intro h
    have := h.le (par_lt hg)
    exact ⟨by omega, h⟩
theorem anc_lt {g : List Nd} (hg : okG g) {n x : Nat} (h : mem (anc g n) x = true) : x < g.length := by
  rw [mem_anc hg, Bool.and_eq_true, decide_eq_true_eq] at h
  exact h.1

/-- what a session knows -/
structure St where
  cand : S
  skip : S
  worst : Nat
  ans : Nat
def wt (U : Nat → S) (c : S) (n : Nat) : Nat := cnt (U n &&& c)
def vl (U : Nat → S) (c : S) (n : Nat) : Nat := min (wt U c n) (cnt c - wt U c n)
def opn (st : St) (n : Nat) : Bool := mem st.cand n && !mem st.skip n && !decide (n = st.worst)
abbrev Acc := Option (Nat × Nat)
def up1 (v : Nat → Nat) (a : Acc) (n : Nat) : Acc := match a with
  | none => some (n, v n)
  | some (b, x) => if x < v n then some (n, v n) else some (b, x)
def fold (v : Nat → Nat) (l : List Nat) : Acc := l.foldl (up1 v) none
theorem fold_snoc (v : Nat → Nat) (l : List Nat) (n : Nat) : fold v (l ++ [n]) = up1 v (fold v l) n := by simp [fold]
def opens (st : St) (N : Nat) : List Nat := (List.range N).filter (opn st)
theorem opens_snoc (st : St) (N : Nat) : opens st (N + 1) = opens st N ++ (if opn st N then [N] else []) := by
  unfold opens
  rw [List.range_succ, List.filter_append]
  congr 1
  cases h : opn st N <;> simp [h]
def acc (U : Nat → S) (st : St) (N : Nat) : Acc := fold (vl U st.cand) (opens st N)
theorem acc_open {U : Nat → S} {st : St} {N : Nat} (h : opn st N = true) : acc U st (N + 1) = up1 (vl U st.cand) (acc U st N) N := by
  unfold acc; rw [opens_snoc, if_pos h, fold_snoc]
theorem acc_shut {U : Nat → S} {st : St} {N : Nat} (h : opn st N = false) : acc U st (N + 1) = acc U st N := by
  unfold acc; rw [opens_snoc, if_neg (by simp [h]), List.append_nil]
theorem acc_zero (U : Nat → S) (st : St) : acc U st 0 = none := rfl
/-- the one that is asked; whether there is one -/
def nxN (a : Acc) : Nat := match a with | none => 0 | some (b, _) => b
def nxB (a : Acc) : Bool := match a with | none => false | some _ => true

theorem acc_best (U : Nat → S) (st : St) : ∀ N, (acc U st N = none ∧ ∀ m, m < N → opn st m = false) ∨ ∃ b, acc U st N = some (b, vl U st.cand b) ∧ b < N ∧ opn st b = true ∧ ∀ m, m < N → opn st m = true → vl U st.cand m ≤ vl U st.cand b ∧ (vl U st.cand m = vl U st.cand b → b ≤ m)
  | 0 => .inl ⟨rfl, fun m h => by omega⟩
  | N + 1 => by
    cases ho : opn st N
    · rw [acc_shut ho]
      rcases acc_best U st N with ⟨h1, h2⟩ | ⟨b, h1, h2, h3, h4⟩
      · refine .inl ⟨h1, fun m hm => ?_⟩
        by_cases e : m = N
        · rw [e]; exact ho
        · exact h2 m (by omega)
      · refine .inr ⟨b, h1, by omega, h3, fun m hm hmo => ?_⟩
        by_cases e : m = N
        · rw [e, ho] at hmo; cases hmo
        · exact h4 m (by omega) hmo
    · rw [acc_open ho]
      right
      rcases acc_best U st N with ⟨h1, h2⟩ | ⟨b, h1, h2, h3, h4⟩
      · refine ⟨N, by rw [h1]; rfl, by omega, ho, fun m hm hmo => ?_⟩
        by_cases e : m = N
        · subst e; exact ⟨Nat.le_refl _, fun _ => Nat.le_refl _⟩
        · rw [h2 m (by omega)] at hmo; cases hmo
      · rw [h1]
        by_cases hlt : vl U st.cand b < vl U st.cand N
        · refine ⟨N, by simp [up1, hlt], by omega, ho, fun m hm hmo => ?_⟩
          by_cases e : m = N
          · subst e; exact ⟨Nat.le_refl _, fun _ => Nat.le_refl _⟩
          · have := (h4 m (by omega) hmo).1
            exact ⟨by omega, fun h => by omega⟩
        · refine ⟨b, by simp [up1, hlt], by omega, h3, fun m hm hmo => ?_⟩
          by_cases e : m = N
          · subst e; exact ⟨by omega, fun _ => by omega⟩
          · exact h4 m (by omega) hmo
/-- beyond the graph nothing is open -/
theorem acc_ge {U : Nat → S} {st : St} {N : Nat} (h : ∀ x, mem st.cand x = true → x < N) : ∀ M, N ≤ M → acc U st M = acc U st N := by
  intro M hM
  obtain ⟨d, rfl⟩ : ∃ d, M = N + d := ⟨M - N, by omega⟩
  induction d with
  | zero => rfl
  | succ d ih =>
    rw [show N + (d + 1) = (N + d) + 1 by omega, acc_shut, ih (by omega)]
    unfold opn
    cases e : mem st.cand (N + d)
    · rfl
    · have := h _ e; omega

/-- an answer's error -/
def sayE (U : Nat → S) (N : Nat) (st : St) (what : Nat) (n : Int) : Nat :=
  if nxB (acc U st N) = false then 50
  else if (0 ≤ n ∧ n < N ∧ mem st.cand n.toNat = true ∧ n.toNat ≠ st.worst ∧ (what = 2 → mem st.skip n.toNat = false)) then 0 else 2
/-- what it makes -/
def sayD (U : Nat → S) (st : St) (what : Nat) (n : Nat) : St :=
  if what = 0 then { st with cand := st.cand &&& ~~~ U n, ans := st.ans + 1 }
  else if what = 1 then { st with cand := st.cand &&& U n, worst := n, ans := st.ans + 1 }
  else { st with skip := st.skip ||| one n, ans := st.ans + 1 }
def sayS (U : Nat → S) (N : Nat) (st : St) (what : Nat) (n : Int) : St := if sayE U N st what n = 0 then sayD U st what n.toNat else st

/-- what holds of a session -/
structure Ok (g : List Nd) (st : St) : Prop where
  wlt : st.worst < g.length
  wc : mem st.cand st.worst = true
  sub : ∀ x, mem st.cand x = true → mem (anc g st.worst) x = true
theorem Ok.lt {g : List Nd} (hg : okG g) {st : St} (h : Ok g st) {x : Nat} (hx : mem st.cand x = true) : x < g.length := anc_lt hg (h.sub x hx)
theorem Ok.first {g : List Nd} (hg : okG g) {bad : Nat} (hb : bad < g.length) {fine : S} (hf : mem fine bad = false) : Ok g ⟨anc g bad &&& ~~~ fine, 0, bad, 0⟩ :=
  ⟨hb, by rw [mem_less, hf, (anc_iff hg hb).2 (.refl _)]; rfl, fun x hx => by rw [mem_less, Bool.and_eq_true] at hx; exact hx.1⟩
theorem Ok.say {g : List Nd} (hg : okG g) {st : St} (h : Ok g st) (what : Nat) (n : Nat) (hc : mem st.cand n = true) (hw : n ≠ st.worst) : Ok g (sayD (anc g) st what n) := by
  have hn := h.lt hg hc
  have hnw : mem (anc g n) st.worst = false := by
    cases e : mem (anc g n) st.worst
    · rfl
    · have h1 := (anc_iff hg hn).1 e
      have h2 := (anc_iff hg h.wlt).1 (h.sub n hc)
      exact absurd (h1.antisymm (par_lt hg) h2) hw
  unfold sayD
  split
  · refine ⟨h.wlt, ?_, fun x hx => ?_⟩
    · show mem (st.cand &&& ~~~ anc g n) st.worst = true
      rw [mem_less, h.wc, hnw]; rfl
    · have hx : mem (st.cand &&& ~~~ anc g n) x = true := hx
      rw [mem_less, Bool.and_eq_true] at hx
      exact h.sub x hx.1
  · split
    · refine ⟨hn, ?_, fun x hx => ?_⟩
      · show mem (st.cand &&& anc g n) n = true
        rw [mem_and, hc, (anc_iff hg hn).2 (.refl _)]; rfl
      · have hx : mem (st.cand &&& anc g n) x = true := hx
        rw [mem_and, Bool.and_eq_true] at hx
        exact hx.2
    · exact ⟨h.wlt, h.wc, h.sub⟩
theorem sayE_ok {U : Nat → S} {N : Nat} {st : St} {what : Nat} {n : Int} (h : sayE U N st what n = 0) : 0 ≤ n ∧ n < N ∧ mem st.cand n.toNat = true ∧ n.toNat ≠ st.worst ∧ (what = 2 → mem st.skip n.toNat = false) := by
  unfold sayE at h
  split at h
  · cases h
  · split at h
    · assumption
    · cases h
theorem Ok.sayS {g : List Nd} (hg : okG g) {st : St} (h : Ok g st) (what : Nat) (n : Int) : Ok g (sayS (anc g) g.length st what n) := by
  unfold Bis.sayS
  split
  · rename_i e
    obtain ⟨h1, h2, h3, h4, _⟩ := sayE_ok e
    exact h.say hg what _ h3 h4
  · exact h
theorem sayS_ans {U : Nat → S} {N : Nat} {st : St} {what : Nat} {n : Int} : (sayS U N st what n).ans ≤ st.ans + 1 := by
  unfold sayS sayD
  split
  · split
    · exact Nat.le_refl _
    · split <;> exact Nat.le_refl _
  · omega

theorem cnt_pos {s : S} {n : Nat} (h : mem s n = true) : 0 < cnt s := by
  unfold cnt
  apply List.length_pos_of_mem (a := n)
  rw [List.mem_filter, List.mem_range]
  refine ⟨?_, h⟩
  cases Nat.lt_or_ge n 128 with
  | inl h => exact h
  | inr hge => rw [mem_ge _ hge] at h; cases h
theorem filter_lt {p q : Nat → Bool} (h : ∀ x, p x = true → q x = true) {n : Nat} (hq : q n = true) (hp : p n = false) : ∀ l : List Nat, n ∈ l → (l.filter p).length < (l.filter q).length := by
  have le : ∀ l : List Nat, (l.filter p).length ≤ (l.filter q).length := by
    intro l
    induction l with
    | nil => exact Nat.le_refl _
    | cons x l ih =>
      rw [List.filter_cons, List.filter_cons]
      cases e : p x
      · rw [if_neg (by simp)]
        split
        · rw [List.length_cons]; omega
        · exact ih
      · rw [if_pos rfl, if_pos (h x e), List.length_cons, List.length_cons]; omega
  intro l
  induction l with
  | nil => intro hn; simp at hn
  | cons x l ih =>
    intro hn
    rw [List.filter_cons, List.filter_cons]
    rcases List.mem_cons.1 hn with rfl | hn
    · rw [hp, hq, if_neg (by simp), if_pos rfl]
      have := le l
      simp; omega
    · have := ih hn
      cases e : p x
      · rw [if_neg (by simp)]
        split <;> simp <;> omega
      · rw [if_pos rfl, if_pos (h x e)]; simp; omega
/-- the one that is asked rules out some, whatever the answer is -/
theorem wt_bd {g : List Nd} (hg : okG g) {st : St} (h : Ok g st) {n : Nat} (ho : opn st n = true) : 0 < wt (anc g) st.cand n ∧ wt (anc g) st.cand n < cnt st.cand := by
  unfold opn at ho
  simp only [Bool.and_eq_true, Bool.not_eq_true', decide_eq_false_iff_not] at ho
  obtain ⟨⟨hc, -⟩, hw⟩ := ho
  have hn := h.lt hg hc
  refine ⟨cnt_pos (n := n) (by rw [mem_and, hc, (anc_iff hg hn).2 (.refl _)]; rfl), ?_⟩
  have hnw : mem (anc g n) st.worst = false := by
    cases e : mem (anc g n) st.worst
    · rfl
    · have h1 := (anc_iff hg hn).1 e
      have h2 := (anc_iff hg h.wlt).1 (h.sub n hc)
      exact absurd (h1.antisymm (par_lt hg) h2) hw
  unfold wt cnt
  refine filter_lt (fun x hx => by rw [mem_and, Bool.and_eq_true] at hx; exact hx.2) h.wc (by rw [mem_and, hnw]; rfl) _ ?_
  rw [List.mem_range]
  have := hg.1; have := h.wlt
  omega
theorem filtN_range (p : Nat → Bool) : ∀ N, filtN p N = ((List.range N).filter p).map (fun n : Nat => (n : Int))
  | 0 => rfl
  | N + 1 => by
    show filtN p N ++ _ = _
    rw [filtN_range p N, List.range_succ, List.filter_append, List.map_append]
    congr 1
    cases h : p N <;> simp [h]
theorem cnt_filtN {s : S} {N : Nat} (h : ∀ x, mem s x = true → x < N) (hN : N ≤ 128) : (filtN (mem s) N).length = cnt s := by
  have : filtN (mem s) 128 = filtN (mem s) N := filtN_all hN (fun n hn => by
    cases e : mem s n
    · rfl
    · have := h n e; omega)
  rw [← this, filtN_range, List.length_map]
  rfl
end Go.Bis
