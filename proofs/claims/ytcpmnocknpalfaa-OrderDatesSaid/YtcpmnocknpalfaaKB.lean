/-
  Layer 15, plain: rounds, what is told, a list without doubles. No program is named here but for the names of its texts, no condition.
-/
import Derived.Test.YtcpmnocknpalfaaK5
import Derived.Test.YtcpmnocknpalfaaQ8
import Derived.Lib.SlicesCompact
import Derived.Lib.RowBridge
namespace Go.Ord
open Go.Dag
set_option linter.unusedVariables false
/-- who is put while the nodes of a list come, the newest ahead -/
def pts (inl : Nat → Bool) (o : Nat → Nat) : List Nat → List Nat
  | [] => []
  | y :: r => pts inl o r ++ (if inl y && decide (o y = (y :: r).count y) then [y] else [])
def puts (inl : Nat → Bool) (o : Nat → Nat) (pre : List Nat) : List Nat := pts inl o pre.reverse
theorem puts_snoc (inl : Nat → Bool) (o : Nat → Nat) (pre : List Nat) (y : Nat) : puts inl o (pre ++ [y]) = puts inl o pre ++ (if inl y && decide (o y = pre.count y + 1) then [y] else []) := by
  unfold puts
  rw [List.reverse_append]
  show pts inl o (y :: pre.reverse) = _
  show _ ++ _ = _
  rw [show (y :: pre.reverse).count y = pre.count y + 1 by rw [List.count_cons_self, List.count_reverse]]
theorem pts_len (inl : Nat → Bool) (o : Nat → Nat) : ∀ l : List Nat, (pts inl o l).length ≤ l.length
  | [] => Nat.le_refl _
  | y :: r => by
    have := pts_len inl o r
    show (_ ++ _ : List Nat).length ≤ _
    rw [List.length_append, List.length_cons]
    split <;> simp <;> omega
theorem puts_len (inl : Nat → Bool) (o : Nat → Nat) (l : List Nat) : (puts inl o l).length ≤ l.length := by
  have := pts_len inl o l.reverse
  rwa [List.length_reverse] at this
theorem pts_nodup (inl : Nat → Bool) (o : Nat → Nat) : ∀ l : List Nat, l.Nodup → pts inl o l = (l.filter (fun y => inl y && decide (o y = 1))).reverse
  | [], _ => rfl
  | y :: r, h => by
    obtain ⟨h1, h2⟩ := List.nodup_cons.1 h
    show _ ++ _ = _
    rw [pts_nodup inl o r h2, List.filter_cons, List.count_cons_self, List.count_eq_zero.2 h1, Nat.zero_add]
    by_cases hc : (inl y && decide (o y = 1)) = true
    · rw [if_pos hc, if_pos hc]; simp
    · rw [if_neg hc, if_neg hc]; simp
theorem puts_nodup (inl : Nat → Bool) (o : Nat → Nat) {l : List Nat} (h : l.Nodup) : puts inl o l = l.filter (fun y => inl y && decide (o y = 1)) := by
  unfold puts
  rw [pts_nodup inl o _ (nodup_rev.2 h), List.filter_reverse, List.reverse_reverse]

/-- those told have no child that is left -/
structure Tld (g : List Nd) (inl left : Nat → Bool) : Prop where
  sub : ∀ x, left x = true → inl x = true
  told : ∀ x, inl x = true → left x = false → ∀ c, c < g.length → left c = true → x ∉ par g c
theorem Tld.start (g : List Nd) (inl : Nat → Bool) : Tld g inl inl := ⟨fun _ h => h, fun x h1 h2 => by rw [h1] at h2; cases h2⟩
theorem upd_left {left : Nat → Bool} {n c : Nat} (h : upd left n false c = true) : left c = true := by
  by_cases e : c = n
  · subst e; rw [upd_same] at h; cases h
  · rwa [upd_ne _ _ e] at h
theorem Tld.step {g : List Nd} {inl left : Nat → Bool} {n : Nat} (h : Tld g inl left) (hr : rdy g left n = true) : Tld g inl (upd left n false) := by
  refine ⟨fun x hx => h.sub x (upd_left hx), fun x h1 h2 c hc hl => ?_⟩
  by_cases e : x = n
  · subst e; exact (rdy_iff.1 hr).2 c hc (upd_left hl)
  · rw [upd_ne _ _ e] at h2; exact h.told x h1 h2 c hc (upd_left hl)
theorem Tld.puts {g : List Nd} (hg : okG g) {inl left : Nat → Bool} {n : Nat} (h : Tld g inl left) (hn : n < g.length) (hr : rdy g left n = true) :
    puts inl (opn g left) (par g n).reverse = (par g n).reverse.filter (rdy g (upd left n false)) := by
  rw [puts_nodup _ _ (nodup_rev.2 (par_nodup hg n))]
  refine List.filter_congr fun y hy => ?_
  have hy2 := List.mem_reverse.1 hy
  have hlt := par_lt hg n y hy2
  have hl := (rdy_iff.1 hr).1
  have e1 := opn_upd (x := y) hn hl
  rw [if_pos hy2] at e1
  rw [Bool.eq_iff_iff, rdy_opn, upd_ne _ _ (by omega)]
  simp only [Bool.and_eq_true, decide_eq_true_eq]
  constructor
  · rintro ⟨h1, h2⟩
    refine ⟨?_, by omega⟩
    cases hly : left y
    · exact absurd hy2 (h.told y h1 hly n hn hl)
    · rfl
  · rintro ⟨h1, h2⟩
    exact ⟨h.sub y h1, by omega⟩
theorem opn_count {g : List Nd} (hg : okG g) {left : Nat → Bool} {n : Nat} (hn : n < g.length) (hl : left n = true) (x : Nat) : (opn g left x : Int) - ((par g n).reverse.count x : Nat) = (opn g (upd left n false) x : Nat) := by
  have e1 := opn_upd (x := x) hn hl
  rw [List.count_reverse]
  by_cases h : x ∈ par g n
  · have : (par g n).count x = 1 := by
      have h1 := List.nodup_iff_count.1 (par_nodup hg n) x
      have h2 := List.count_pos_iff.2 h
      omega
    rw [if_pos h] at e1; rw [this, e1]; omega
  · rw [if_neg h] at e1; rw [List.count_eq_zero.2 h, e1]; simp
end Go.Ord
namespace Go.Proofs.Ytcpmnocknpalfaa
theorem bk_map {N : Nat} (P : List (Nod N)) : ∀ j, j ≤ P.length → (bk P j).map (fun x => x.2.1) = ((P.map (fun y => y.1)).reverse).take j
  | 0, _ => by simp [bk]
  | j + 1, h => by
    rw [bk_succ (by omega), List.map_append, bk_map P j (by omega), List.take_succ_eq_append_getElem (by simp; omega)]
    congr 1
    simp [List.getElem_reverse]
theorem bk_all {N : Nat} (P : List (Nod N)) {n1 : Nat} (h : P.length = n1) : (bk P n1).map (fun x => x.2.1) = (P.map (fun y => y.1)).reverse := by
  rw [bk_map P n1 (by omega), List.take_of_length_le (by simp; omega)]
end Go.Proofs.Ytcpmnocknpalfaa
namespace Go.Ord
open Go.Dag
set_option linter.unusedVariables false
theorem seqL_all {k : Nat → Int} {N : Nat} : ∀ (f : Nat) (left : Nat → Bool) (m : Nat), cnt left N ≤ f → m < N → left m = true → (m : Int) ∈ seqL id k N f left := by
  intro f
  induction f with
  | zero => intro left m hc hm hl; have := cnt_upd hm hl; omega
  | succ f ih =>
    intro left m hc hm hl
    rcases yng_spec (id left) k N with ⟨h1, h2⟩ | ⟨y, h1, h2, h3, _⟩
    · rw [show left m = false from h2 m hm] at hl; cases hl
    · obtain ⟨f', e, h4, h5⟩ := seqL_go h1 hc h2 h3
      obtain rfl : f = f' := by omega
      rw [h5]
      by_cases e2 : m = y
      · subst e2; simp
      · exact List.mem_cons_of_mem _ (ih _ m h4 hm (by rw [upd_ne _ _ e2]; exact hl))
theorem first_all {g : List Nd} {k : Nat → Int} {left : Nat → Bool} {m : Nat} (hm : m < g.length) : ((m : Int) ∈ first g k left) ↔ rdy g left m = true := by
  constructor
  · intro h
    obtain ⟨m', h1, _, h2⟩ := first_mem h
    obtain rfl : m = m' := by omega
    exact h2
  · intro h
    exact List.mem_reverse.2 (seqL_all _ _ m (cnt_le _ _) hm h)
theorem first_nodup (g : List Nd) (k : Nat → Int) (left : Nat → Bool) : (first g k left).Nodup := nodup_rev.2 (seqL_nodup id_rd _ _)
end Go.Ord
namespace Go.Ord
open Go.Dag
set_option linter.unusedVariables false
theorem cs_mem {l : List Nat} {m : Nat} : (m : Int) ∈ cs l ↔ m ∈ l := by
  unfold cs
  rw [List.mem_map]
  constructor
  · rintro ⟨y, hy, e⟩
    obtain rfl : y = m := by omega
    exact hy
  · exact fun h => ⟨m, h, rfl⟩
theorem cs_nodup {l : List Nat} (h : l.Nodup) : (cs l).Nodup := by
  unfold cs
  induction l with
  | nil => simp
  | cons a l ih =>
    obtain ⟨h1, h2⟩ := List.nodup_cons.1 h
    refine List.nodup_cons.2 ⟨fun hm => ?_, ih h2⟩
    obtain ⟨b, hb, e⟩ := List.mem_map.1 hm
    obtain rfl : b = a := by
      have e2 : (b : Int) = (a : Int) := e
      omega
    exact h1 hb
theorem QOk.after {g : List Nd} (hg : okG g) {K : Int → Int} {left : Nat → Bool} {n : Nat} {q q0 q2 : List Int} (h : QOk K g.length (rdy g left) q) (hq : q ≠ []) (hn : Hp.ge q 0 = n) (hlt : n < g.length) (hr : rdy g left n = true)
    (h0 : Hp.hp (leI K) q0) (hp0 : q0.Perm (Hp.cut q)) (h2 : Hp.hp (leI K) q2) (hp2 : q2.Perm (cs ((par g n).reverse.filter (rdy g (upd left n false))) ++ q0)) : QOk K g.length (rdy g (upd left n false)) q2 := by
  have hc := h.cut hq hn h0 hp0
  have hl := (rdy_iff.1 hr).1
  have hxs : ∀ y, y ∈ (par g n).reverse.filter (rdy g (upd left n false)) ↔ y ∈ par g n ∧ rdy g (upd left n false) y = true := fun y => by rw [List.mem_filter, List.mem_reverse]
  refine ⟨h2, (hp2.nodup_iff).2 (List.nodup_append.2 ⟨cs_nodup ((nodup_rev.2 (par_nodup hg n)).filter _), hc.nd, fun a ha b hb e => ?_⟩), fun x hx => ?_, fun m hm => ?_⟩
  · subst e
    obtain ⟨y, hy, rfl⟩ := List.mem_map.1 ha
    obtain ⟨hy1, hy2⟩ := (hxs y).1 hy
    have hyn := par_lt hg n y hy1
    have h3 := (hc.mem y (by omega)).1 hb
    rw [upd_ne _ _ (by omega)] at h3
    exact (rdy_iff.1 h3).2 n hlt hl hy1
  · rcases List.mem_append.1 (hp2.mem_iff.1 hx) with hx | hx
    · obtain ⟨y, hy, rfl⟩ := List.mem_map.1 hx
      have := par_lt hg n y ((hxs y).1 hy).1
      omega
    · exact hc.inn x hx
  · rw [hp2.mem_iff, List.mem_append, cs_mem, hxs, hc.mem m hm]
    constructor
    · rintro (h4 | h4)
      · exact h4.2
      · by_cases e : m = n
        · subst e; rw [upd_same] at h4; cases h4
        · rw [upd_ne _ _ e] at h4; exact rdy_mono h4 e
    · intro h4
      have hmn : m ≠ n := fun e => by
        subst e
        have := (rdy_iff.1 h4).1
        rw [upd_same] at this; cases this
      by_cases hpm : m ∈ par g n
      · exact .inl ⟨hpm, h4⟩
      · right
        rw [upd_ne _ _ hmn, rdy_opn]
        have h5 := rdy_opn.1 h4
        rw [upd_ne _ _ hmn] at h5
        have h6 := opn_upd (x := m) hlt hl
        rw [if_neg hpm] at h6
        exact ⟨h5.1, by omega⟩
end Go.Ord
namespace Go.Ord
open Go.Dag Go.Lib
set_option linter.unusedVariables false
theorem get_bang (zs : List Int) {j : Nat} (h : j < zs.length) : (zs.toArray)[j]! = zs[j] := by
  rw [getElem!_pos _ _ (by simpa using h)]; simp
theorem cup (zs : List Int) (hs : zs.Pairwise (fun x y => x ≤ y)) : ∀ m, m ≤ zs.length → (compactUpTo zs.toArray m).Nodup ∧ ∀ x, x ∈ compactUpTo zs.toArray m ↔ x ∈ zs.take m
  | 0, _ => by simp [compactUpTo]
  | m + 1, h => by
    obtain ⟨h1, h2⟩ := cup zs hs m (by omega)
    have hm : m < zs.length := by omega
    have hp := List.pairwise_iff_getElem.1 hs
    rw [compactUpTo_succ, get_bang zs hm]
    by_cases hk : keeps zs.toArray m = true
    · rw [if_pos hk]
      refine ⟨List.nodup_append.2 ⟨h1, by simp, fun a ha b hb e => ?_⟩, fun x => ?_⟩
      · rw [List.mem_singleton] at hb
        subst hb e
        obtain ⟨i, hi, e⟩ := List.mem_iff_getElem.1 ((h2 _).1 ha)
        rw [List.getElem_take] at e
        rw [List.length_take] at hi
        have hm1 : m - 1 < zs.length := by omega
        have e1 : zs[m - 1] ≤ zs[m] := hp (m - 1) m _ _ (by omega)
        have e2 : zs[i] ≤ zs[m - 1] := by
          by_cases e3 : i = m - 1
          · subst e3; exact Int.le_refl _
          · exact hp i (m - 1) _ _ (by omega)
        unfold keeps at hk
        rw [get_bang zs hm, get_bang zs hm1] at hk
        simp at hk
        omega
      · rw [List.mem_append, h2, List.mem_singleton, List.take_succ_eq_append_getElem hm, List.mem_append, List.mem_singleton]
    · rw [if_neg hk, List.append_nil]
      refine ⟨h1, fun x => ?_⟩
      rw [h2, List.take_succ_eq_append_getElem hm, List.mem_append, List.mem_singleton]
      constructor
      · exact .inl
      · rintro (h | rfl)
        · exact h
        · unfold keeps at hk
          have hm1 : m - 1 < zs.length := by omega
          rw [get_bang zs hm, get_bang zs hm1] at hk
          simp at hk
          rw [hk.2]
          refine List.mem_iff_getElem.2 ⟨m - 1, by rw [List.length_take]; omega, by rw [List.getElem_take]⟩
/-- a list's numbers, rising, each once -/
def onceL (l : List Int) : List Int := compact (l.mergeSort fun x y => decide (x ≤ y))
theorem onceL_spec (l : List Int) : (onceL l).Nodup ∧ (∀ x, x ∈ onceL l ↔ x ∈ l) ∧ (onceL l).length ≤ l.length := by
  have hs : (l.mergeSort fun x y => decide (x ≤ y)).Pairwise (fun x y => x ≤ y) := by
    have := List.pairwise_mergeSort (le := fun x y : Int => decide (x ≤ y)) (fun a b c h1 h2 => by simp at h1 h2 ⊢; omega) (fun a b => by simp; omega) l
    exact this.imp (fun h => by simpa using h)
  have hp := List.mergeSort_perm l (fun x y => decide (x ≤ y))
  obtain ⟨h1, h2⟩ := cup _ hs _ (Nat.le_refl _)
  refine ⟨h1, fun x => ?_, ?_⟩
  · show x ∈ compactUpTo _ _ ↔ _
    rw [h2, List.take_length, hp.mem_iff]
  · have := compact_length_le (l.mergeSort fun x y => decide (x ≤ y))
    rw [hp.length_eq] at this
    exact this
end Go.Ord
namespace Go.Ord
open Go.Dag
set_option linter.unusedVariables false

inductive Runs (rd : (Nat → Bool) → Nat → Bool) (N : Nat) : (Nat → Bool) → List Nat → Prop
  | done {left : Nat → Bool} (h : ∀ m, m < N → rd left m = false) : Runs rd N left []
  | step {left : Nat → Bool} {n : Nat} {L : List Nat} (h1 : n < N) (h2 : rd left n = true) (h : Runs rd N (upd left n false) L) : Runs rd N left (n :: L)
section
variable {rd : (Nat → Bool) → Nat → Bool} {N : Nat} {left : Nat → Bool} {L : List Nat}
theorem Runs.mem (hrd : ∀ left x, rd left x = true → left x = true) (h : Runs rd N left L) : ∀ x ∈ L, x < N ∧ left x = true := by
  induction h with
  | done => intro x hx; simp at hx
  | step h1 h2 _ ih =>
    intro x hx
    rcases List.mem_cons.1 hx with rfl | hx
    · exact ⟨h1, hrd _ _ h2⟩
    · exact ⟨(ih x hx).1, upd_left (ih x hx).2⟩
theorem Runs.nodup (hrd : ∀ left x, rd left x = true → left x = true) (h : Runs rd N left L) : L.Nodup := by
  induction h with
  | done => simp
  | step h1 h2 h ih =>
    refine List.nodup_cons.2 ⟨fun hm => ?_, ih⟩
    have := (h.mem hrd _ hm).2
    rw [upd_same] at this; cases this
theorem cnt_zero (h : ∀ m, m < N → left m = false) : cnt left N = 0 := by
  unfold cnt
  rw [List.countP_eq_zero]
  intro a ha
  rw [h a (List.mem_range.1 ha)]; simp
theorem Runs.len (hrd : ∀ left x, rd left x = true → left x = true) (hall : ∀ left, (∀ m, m < N → rd left m = false) → ∀ m, m < N → left m = false) (h : Runs rd N left L) : L.length = cnt left N := by
  induction h with
  | done h => rw [cnt_zero (hall _ h)]; rfl
  | step h1 h2 _ ih => rw [List.length_cons, ih, cnt_upd h1 (hrd _ _ h2)]
end
theorem Runs.order {g : List Nd} {left : Nat → Bool} {L : List Nat} (h : Runs (rdy g) g.length left L) : L.Pairwise (fun a b => a ∉ par g b) := by
  induction h with
  | done => exact List.Pairwise.nil
  | step h1 h2 h ih =>
    refine List.Pairwise.cons (fun b hb => ?_) ih
    have := h.mem (rdy_rd g) b hb
    exact (rdy_iff.1 h2).2 b this.1 (upd_left this.2)
/-- where none is ready, none is left -/
theorem rdy_all {g : List Nd} (hg : okG g) (left : Nat → Bool) (h : ∀ m, m < g.length → rdy g left m = false) : ∀ m, m < g.length → left m = false := by
  have key : ∀ d m, m < g.length → g.length - m ≤ d → left m = false := by
    intro d
    induction d with
    | zero => intro m h1 h2; omega
    | succ d ih =>
      intro m h1 h2
      cases hl : left m
      · rfl
      · have : rdy g left m = true := rdy_iff.2 ⟨hl, fun c hc hlc hm => by
          have := par_lt hg c m hm
          rw [ih c hc (by omega)] at hlc; cases hlc⟩
        rw [h m h1] at this; cases this
  exact fun m hm => key _ m hm (Nat.le_refl _)

theorem seqL_runs {rd : (Nat → Bool) → Nat → Bool} (hrd : ∀ left x, rd left x = true → left x = true) {k : Nat → Int} {N : Nat} : ∀ (f : Nat) (left : Nat → Bool), cnt left N ≤ f → ∃ L, seqL rd k N f left = cs L ∧ Runs rd N left L
  | 0, left, hc => ⟨[], rfl, .done fun m hm => by
      cases hr : rd left m
      · rfl
      · have := cnt_upd hm (hrd _ _ hr); omega⟩
  | f + 1, left, hc => by
    rcases yng_spec (rd left) k N with ⟨h1, h2⟩ | ⟨y, h1, h2, h3, _⟩
    · exact ⟨[], seqL_end h1, .done h2⟩
    · obtain ⟨f', e, h4, h5⟩ := seqL_go h1 hc h2 (hrd _ _ h3)
      obtain rfl : f = f' := by omega
      obtain ⟨L, e1, e2⟩ := seqL_runs hrd f _ h4
      exact ⟨y :: L, by rw [h5, e1]; rfl, .step h2 h3 e2⟩
theorem topoL_runs {g : List Nd} (hg : okG g) : ∀ (f : Nat) (left : Nat → Bool) (p : List Nat), cnt left g.length ≤ f → PileOk g left p → (∀ m, m < g.length → rdy g left m = true → m ∈ p) → ∃ L, topoL g f left p = cs L ∧ Runs (rdy g) g.length left L := by
  intro f
  induction f with
  | zero =>
    intro left p hc hp ha
    exact ⟨[], rfl, .done fun m hm => by
      cases hr : rdy g left m
      · rfl
      · have := cnt_upd hm (rdy_rd g _ _ hr); omega⟩
  | succ f ih =>
    intro left p hc hp ha
    rcases List.eq_nil_or_concat p with rfl | ⟨p', n, hq⟩
    · exact ⟨[], topoL_nil _ _ _, .done fun m hm => by
        cases hr : rdy g left m
        · rfl
        · exact absurd (ha m hm hr) (by simp)⟩
    · rw [List.concat_eq_append] at hq
      subst hq
      obtain ⟨h2, h3⟩ := hp.2 n (by simp)
      obtain ⟨f', e, h4, h5⟩ := topo_go hg hp hc
      obtain rfl : f = f' := by omega
      obtain ⟨L, e1, e2⟩ := ih _ _ h4 (hp.step hg) (fun m hm hr => by
        have hmn : m ≠ n := fun e => by
          subst e
          have := (rdy_iff.1 hr).1
          rw [upd_same] at this; cases this
        rw [List.mem_append]
        by_cases hpm : m ∈ par g n
        · exact .inr (List.mem_filter.2 ⟨List.mem_reverse.2 hpm, hr⟩)
        · left
          have h6 : rdy g left m = true := by
            rw [rdy_opn]
            have h7 := rdy_opn.1 hr
            rw [upd_ne _ _ hmn] at h7
            have h8 := opn_upd (x := m) h2 (rdy_iff.1 h3).1
            rw [if_neg hpm] at h8
            exact ⟨h7.1, by omega⟩
          have := ha m hm h6
          rcases List.mem_append.1 this with h | h
          · exact h
          · simp at h; exact absurd h hmn)
      exact ⟨n :: L, by rw [h5, e1]; rfl, .step h2 h3 e2⟩
theorem filtN_cnt (p : Nat → Bool) : ∀ N, (filtN p N).length = cnt p N
  | 0 => rfl
  | N + 1 => by
    show (filtN p N ++ _).length = _
    rw [List.length_append, filtN_cnt p N]
    unfold cnt
    rw [List.range_succ, List.countP_append]
    cases h : p N <;> simp [h]

/-- what the law asks of an order -/
structure Told (g : List Nd) (inl : Nat → Bool) (kids : Bool) (l : List Int) (L : List Nat) : Prop where
  eq : l = cs L
  mem : ∀ x ∈ L, x < g.length ∧ inl x = true
  nd : L.Nodup
  len : L.length = (filtN inl g.length).length
  ord : kids = true → L.Pairwise (fun a b => a ∉ par g b)
theorem told_plain (g : List Nd) (k : Nat → Int) (inl : Nat → Bool) : ∃ L, Told g inl false (seqL id k g.length g.length inl) L := by
  obtain ⟨L, h1, h2⟩ := seqL_runs (rd := id) id_rd (k := k) (N := g.length) g.length inl (cnt_le _ _)
  exact ⟨L, h1, h2.mem id_rd, h2.nodup id_rd, by rw [filtN_cnt]; exact h2.len id_rd (fun left h m hm => h m hm), fun h => by cases h⟩
theorem told_date {g : List Nd} (hg : okG g) (k : Nat → Int) (inl : Nat → Bool) : ∃ L, Told g inl true (seqL (rdy g) k g.length g.length inl) L := by
  obtain ⟨L, h1, h2⟩ := seqL_runs (rd := rdy g) (rdy_rd g) (k := k) (N := g.length) g.length inl (cnt_le _ _)
  exact ⟨L, h1, h2.mem (rdy_rd g), h2.nodup (rdy_rd g), by rw [filtN_cnt]; exact h2.len (rdy_rd g) (rdy_all hg), fun _ => h2.order⟩
theorem told_topo {g : List Nd} (hg : okG g) (k : Nat → Int) (inl : Nat → Bool) : ∃ L, Told g inl true (topoL g g.length inl (nn (first g k inl))) L := by
  obtain ⟨L, h1, h2⟩ := topoL_runs hg g.length inl (nn (first g k inl)) (cnt_le _ _) (first_ok _ _ _) (fun m hm hr => by
    have := (first_all (k := k) hm).2 hr
    exact List.mem_map.2 ⟨_, this, by simp⟩)
  exact ⟨L, h1, h2.mem (rdy_rd g), h2.nodup (rdy_rd g), by rw [filtN_cnt]; exact h2.len (rdy_rd g) (rdy_all hg), fun _ => h2.order⟩
/-- none of a node's parents has been told with it or ahead -/
theorem Told.par {g : List Nd} (hg : okG g) {inl : Nat → Bool} {l : List Int} {L : List Nat} (h : Told g inl true l L) {j : Nat} (hj : j < L.length) {p : Nat} (hp : p ∈ par g L[j]) : p ∉ L.take (j + 1) := by
  intro hm
  obtain ⟨i, hi, e⟩ := List.mem_iff_getElem.1 hm
  rw [List.length_take] at hi
  rw [List.getElem_take] at e
  by_cases hij : i = j
  · subst hij
    have := par_lt hg _ _ hp
    omega
  · have := List.pairwise_iff_getElem.1 (h.ord rfl) i j (by omega) hj (by omega)
    rw [e] at this
    exact this hp
end Go.Ord
