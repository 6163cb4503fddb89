/-
  Layer 14: the painter: begun, a node marked, the next one taken. No condition besides what the painter is.
-/
import Derived.Test.YtcpmnocknpalfaaH2
namespace Go.Proofs.Ytcpmnocknpalfaa
open Go.RowKit Go.Sl

theorem bor8 : ∀ a, a < 16 → ∀ b, b < 16 → bits .or .u8 ((a : Nat) : Int) ((b : Nat) : Int) = ((a ||| b : Nat) : Int) := by decide +kernel
theorem band8 : ∀ a, a < 16 → bits .and .u8 ((a : Nat) : Int) 8 = if a.testBit 3 then 8 else 0 := by decide +kernel
theorem bnot8 : ∀ a, a < 16 → bits .andNot .u8 ((a : Nat) : Int) 8 = ((a &&& 7 : Nat) : Int) := by decide +kernel

theorem nodup_len : ∀ (N : Nat) (l : List Int), l.Nodup → (∀ x ∈ l, ∃ n : Nat, n < N ∧ x = n) → l.length ≤ N
  | 0, l, _, h => by
    cases l with
    | nil => exact Nat.le_refl _
    | cons x l => obtain ⟨n, h1, _⟩ := h x (by simp); omega
  | N + 1, l, hd, h => by
    by_cases hm : (N : Int) ∈ l
    · have := nodup_len N (l.erase (N : Int)) (hd.erase _) (fun x hx => by
        rw [hd.mem_erase_iff] at hx
        obtain ⟨n, h1, h2⟩ := h x hx.2
        exact ⟨n, by
          by_cases e : n = N
          · subst e; exact absurd h2 hx.1
          · omega, h2⟩)
      rw [List.length_erase_of_mem hm] at this
      omega
    · have := nodup_len N l hd (fun x hx => by
        obtain ⟨n, h1, h2⟩ := h x hx
        exact ⟨n, by
          by_cases e : n = N
          · subst e; subst h2; exact absurd hx hm
          · omega, h2⟩)
      omega

/-- flags as cells -/
def fcells (ms : List Nat) : Array Value := (ms.map fun k : Nat => Value.int .u8 ((k : Nat) : Int)).toArray
/-- the painter at pb: the graph's value, the marks at mb, the queue: all nodes below B that are queued -/
structure Pt (base pb mb : Nat) (gv qv : Value) (q : List Int) (B : Nat) (ms : List Nat) (w : World) : Prop where
  hpb : base ≤ pb
  hmb : base ≤ mb
  blk : w.heap[pb]? = some (.cells #[gv, .slice (some ⟨mb, 0, none⟩) ms.length ms.length, qv] 100 (0, 0))
  mks : w.heap[mb]? = some (.cells (fcells ms) 95 (0, 0))
  own : Own eInt 1 base 3 w qv q
  heap : Hp.hp (· ≤ ·) q
  nodup : q.Nodup
  mem : ∀ x, x ∈ q ↔ ∃ n : Nat, n < B ∧ n < ms.length ∧ Dag.bit ms n 3 = true ∧ x = n
  small : Dag.small ms
  len : ms.length ≤ 128
/-- the painter behind a call -/
def PtN (base pb mb : Nat) (gv qv : Value) (B : Nat) (ms : List Nat) (w w' : World) : Prop :=
  ∃ qv' q', Pt base pb mb gv qv' q' B ms w' ∧ Mv eInt 1 base 3 qv qv' w w' ∧ Below base w w'

theorem Pt.qlen {base pb mb B : Nat} {gv qv : Value} {q : List Int} {ms : List Nat} {w : World} (h : Pt base pb mb gv qv q B ms w) : q.length ≤ 128 := by
  have := nodup_len ms.length q h.nodup (fun x hx => by obtain ⟨n, _, h2, _, h3⟩ := (h.mem x).1 hx; exact ⟨n, h2, h3⟩)
  have := h.len
  omega
theorem Pt.drewN {base pb mb B : Nat} {gv qv : Value} {q : List Int} {ms : List Nat} {w : World} (h : Pt base pb mb gv qv q B ms w) (k : Nat) : Pt base pb mb gv qv q B ms (w.drewN k) :=
  ⟨h.hpb, h.hmb, h.blk, h.mks, h.own, h.heap, h.nodup, h.mem, h.small, h.len⟩
theorem Pt.mcell {base pb mb B : Nat} {gv qv : Value} {q : List Int} {ms : List Nat} {w : World} (h : Pt base pb mb gv qv q B ms w) {n : Nat} (hn : n < ms.length) :
    w.cell? ⟨mb, n, none⟩ = some (.int .u8 ((ms.getD n 0 : Nat) : Int)) ∧ w.frozen? ⟨mb, n, none⟩ = false ∧ mb < w.heap.size := by
  refine ⟨?_, by simp [World.frozen?, h.mks], (Array.getElem?_eq_some_iff.1 h.mks).1⟩
  rw [cell_of_row w mb n _ _ _ h.mks]
  simp [fcells, List.getD_eq_getElem?_getD, hn]
theorem mcell_kt {base pb mb B : Nat} {gv qv : Value} {q : List Int} {ms : List Nat} {w w1 : World} (h : Pt base pb mb gv qv q B ms w) {n : Nat} (hn : n < ms.length) (hk : Kt 3 100 w w1) :
    w1.cell? ⟨mb, n, none⟩ = some (.int .u8 ((ms.getD n 0 : Nat) : Int)) ∧ w1.frozen? ⟨mb, n, none⟩ = false ∧ mb < w1.heap.size := by
  have hm := hk _ _ _ (by decide) (by decide) h.mks
  refine ⟨?_, by simp [World.frozen?, hm], (Array.getElem?_eq_some_iff.1 hm).1⟩
  rw [cell_of_row w1 mb n _ _ _ hm]
  simp [fcells, List.getD_eq_getElem?_getD, hn]
theorem fcells_set (ms : List Nat) (n v : Nat) : (fcells ms).setIfInBounds n (.int .u8 (v : Int)) = fcells (ms.set n v) := by
  simp [fcells, List.map_set]

/-- a mark, of one that is queued -/
theorem Pt.mark_old {base pb mb B : Nat} {gv qv : Value} {q : List Int} {ms : List Nat} {w : World} (h : Pt base pb mb gv qv q B ms w) {n f : Nat} (hn : n < ms.length) (hf : f < 8) (hb : Dag.bit ms n 3 = true) :
    PtN base pb mb gv qv B (Dag.mk ms n f) w (w.setCell ⟨mb, n, none⟩ (.int .u8 ((ms.getD n 0 ||| (f ||| 8) : Nat) : Int))) := by
  have hne : pb ≠ mb := by
    rintro rfl
    have := h.blk.symm.trans h.mks
    simp only [Option.some.injEq, Obj.cells.injEq] at this
    exact absurd this.2.1 (by decide)
  have hm := heap_setCell_same w mb n _ _ (.int .u8 ((ms.getD n 0 ||| (f ||| 8) : Nat) : Int)) h.mks
  rw [fcells_set] at hm
  refine ⟨qv, q, ⟨h.hpb, h.hmb, ?_, hm, h.own.set_other (h.own.ne_elem h.mks (by decide)) (a := ⟨mb, n, none⟩) _, h.heap, h.nodup, fun x => ?_, Dag.small_mk h.small hf, by rw [Dag.mk_len]; exact h.len⟩, Mv.set_elem (a := ⟨mb, n, none⟩) h.mks (by decide), (Below.refl _ _).setCell (p := ⟨mb, n, none⟩) h.hmb _⟩
  · rw [Dag.mk_len]; exact heap_set_keep (a := ⟨mb, n, none⟩) h.blk hne
  · rw [h.mem, Dag.mk_len]
    constructor
    · rintro ⟨m, h1, h2, h3, h4⟩
      exact ⟨m, h1, h2, by rw [Dag.bit_mk hn, h3]; rfl, h4⟩
    · rintro ⟨m, h1, h2, h3, h4⟩
      refine ⟨m, h1, h2, ?_, h4⟩
      rw [Dag.bit_mk hn] at h3
      by_cases e : m = n
      · subst e; exact hb
      · simpa [e] using h3
/-- a mark, of one that has been put into the queue for it -/
theorem Pt.mark_new {base pb mb B : Nat} {gv qv : Value} {q : List Int} {ms : List Nat} {w w1 : World} (h : Pt base pb mb gv qv q B ms w) {n f : Nat} (hn : n < ms.length) (hB : n < B) (hf : f < 8) (hb : Dag.bit ms n 3 = false)
    (hq : Queue base pb gv (.slice (some ⟨mb, 0, none⟩) ms.length ms.length) qv ((n : Int) :: q) w w1) :
    PtN base pb mb gv qv B (Dag.mk ms n f) w (w1.setCell ⟨mb, n, none⟩ (.int .u8 ((ms.getD n 0 ||| (f ||| 8) : Nat) : Int))) := by
  obtain ⟨v, q', h1, h2, h3⟩ := hq
  have hne : pb ≠ mb := by
    rintro rfl
    have := h.blk.symm.trans h.mks
    simp only [Option.some.injEq, Obj.cells.injEq] at this
    exact absurd this.2.1 (by decide)
  have hmk := h1.kt _ _ _ (by decide) (by decide) h.mks
  have hm := heap_setCell_same w1 mb n _ _ (.int .u8 ((ms.getD n 0 ||| (f ||| 8) : Nat) : Int)) hmk
  rw [fcells_set] at hm
  have hnq : (n : Int) ∉ q := fun hx => by
    obtain ⟨m, _, _, h6, h7⟩ := (h.mem _).1 hx
    obtain rfl : n = m := by omega
    rw [hb] at h6; cases h6
  refine ⟨v, q', ⟨h.hpb, h.hmb, ?_, hm, h1.own.set_other (h1.own.ne_elem hmk (by decide)) (a := ⟨mb, n, none⟩) _, h2, (h3.nodup_iff).2 (List.nodup_cons.2 ⟨hnq, h.nodup⟩), fun x => ?_, Dag.small_mk h.small hf, by rw [Dag.mk_len]; exact h.len⟩, h1.mv.trans (Mv.set_elem (a := ⟨mb, n, none⟩) hmk (by decide)), h1.bel.setCell (p := ⟨mb, n, none⟩) h.hmb _⟩
  · rw [Dag.mk_len]; exact heap_set_keep (a := ⟨mb, n, none⟩) h1.blk hne
  · rw [h3.mem_iff, List.mem_cons, h.mem, Dag.mk_len]
    constructor
    · rintro (rfl | ⟨m, h4, h5, h6, h7⟩)
      · exact ⟨n, hB, hn, by rw [Dag.bit_mk hn]; simp, rfl⟩
      · exact ⟨m, h4, h5, by rw [Dag.bit_mk hn, h6]; rfl, h7⟩
    · rintro ⟨m, h4, h5, h6, h7⟩
      by_cases e : m = n
      · subst e; exact .inl h7
      · refine .inr ⟨m, h4, h5, ?_, h7⟩
        rw [Dag.bit_mk hn] at h6
        simpa [e] using h6

theorem bit3_get {ms : List Nat} {n : Nat} : Dag.bit ms n 3 = (ms.getD n 0).testBit 3 := rfl
theorem getD_lt16 {ms : List Nat} (h : Dag.small ms) (n : Nat) : ms.getD n 0 < 16 := by
  rw [List.getD_eq_getElem?_getD]
  by_cases hn : n < ms.length
  · simp [hn]; exact h _ (List.getElem_mem hn)
  · simp [Nat.le_of_not_lt hn]

set_option maxRecDepth 100000 in
set_option maxHeartbeats 1000000 in
theorem mark_any (base pb mb B : Nat) (gv qv : Value) (q : List Int) (ms : List Nat) (n f : Nat) (nv fv : Int) (hnv : nv = n) (hfv : fv = f) (w : World) (h : Pt base pb mb gv qv q B ms w) (hn : n < ms.length) (hB : n < B) (hf : f < 8) :
    Calls Try.prog 70 #[.pointer (some ⟨pb, 0, none⟩), .int .i64 nv, .int .u8 fv] w fun e w' => e = .returned (.tuple #[]) ∧ PtN base pb mb gv qv B (Dag.mk ms n f) w w' := by
  subst hnv hfv
  have hlen := h.len
  have hsm := getD_lt16 h.small n
  obtain ⟨k, hk⟩ : ∃ k, ms.getD n 0 = k := ⟨_, rfl⟩
  obtain ⟨c0, c1, c2, c3, f1, f2, f3⟩ := three100 h.blk
  obtain ⟨m1, m2, m3⟩ := h.mcell hn
  have e1 : bits .or .u8 (f : Int) 8 = ((f ||| 8 : Nat) : Int) := bor8 f (by omega) 8 (by omega)
  rw [hk] at m1 hsm
  have e2 : bits .or .u8 (k : Int) ((f ||| 8 : Nat) : Int) = ((k ||| (f ||| 8) : Nat) : Int) := bor8 k hsm _ (by
    have : f ||| 8 < 2 ^ 4 := Nat.or_lt_two_pow (by omega) (by omega)
    exact this)
  cases hb : Dag.bit ms n 3 with
  | true =>
    have e3 : bits .and .u8 (k : Int) 8 = 8 := by rw [band8 k hsm, ← hk, ← bit3_get, hb]; rfl
    have HP := Lib.hid (h.mark_old hn hf hb)
    rw [hk] at HP
    clear hb hk h
    go_enter Try.func70, Try.ntmps70
    go_wp2_with fail
    go_end0
    exact ⟨rfl, HP.out⟩
  | false =>
    have e3 : bits .and .u8 (k : Int) 8 = 0 := by rw [band8 k hsm, ← hk, ← bit3_get, hb]; rfl
    have HC := Lib.hid (push_any base pb gv _ qv q n w h.hpb h.blk h.own h.heap (by have := h.qlen; omega))
    have HP := Lib.hid (fun w1 => h.mark_new (w1 := w1) hn hB hf hb)
    have HH := Lib.hid h
    have HK := Lib.hid hk
    rw [hk] at HP
    clear hb hk h
    go_enter Try.func70, Try.ntmps70
    go_wp2_with (go_at_call 100; go_must (refine HC.out.mono ?_; rintro e w1 ⟨rfl, hq⟩; have HF := Lib.hid (HP.out w1 hq); obtain ⟨v, q', g1, -, -⟩ := hq; obtain ⟨c0, c1, c2, c3, f1, f2, f3⟩ := three100 g1.blk; obtain ⟨m4, m5, m6⟩ := mcell_kt HH.out hn g1.kt; rw [HK.out] at m4; clear g1))
    go_end0
    exact ⟨rfl, HF.out⟩
end Go.Proofs.Ytcpmnocknpalfaa
