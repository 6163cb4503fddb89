/-
  Layer 28: a flag, the document's walk. No condition besides what lies where.
  Layer 28: what stands while the document's parser reads a question. No condition besides what lies where.
  Layer 28: the document's Parse. No condition but that a text is short.
-/
import Derived.Test.YtolahnnkdpbdfaaGF
import Derived.Test.YtolahnnkdpbdfaaQ9
import Derived.Deep.DeepCutAuto
import Derived.Deep.RegionHeld3
namespace Go.Prs
open Go.Lex
theorem flg_hit {s : List UInt8} (h : (upto61 s).length < s.length) {n : Nat} {is : Bool} (hn : count (s.drop ((upto61 s).length + 1)) = (n, is)) (q : Qy) (nt : Bool) :
    flg s q nt = if is = true ∧ upto61 s = fMax then some ({ q with mx := n }, nt) else if is = true ∧ upto61 s = fSkip then some ({ q with sk := n }, nt) else none := by
  rw [flg_cut (cut_hit h) hn, if_pos rfl]
theorem flg_miss {s : List UInt8} (h : ¬(upto61 s).length < s.length) (q : Qy) (nt : Bool) :
    flg s q nt = if s = fNot then some (q, !nt) else if s = fDate then some ({ q with od := 0 }, nt) else if s = fTopo then some ({ q with od := 1 }, nt) else if s = fTime then some ({ q with od := 2 }, nt)
      else if s = fFirst then some ({ q with fi := true }, nt) else if s = fRev then some ({ q with rv := true }, nt) else none := by
  rw [flg_cut (cut_miss h) (show count [] = (0, false) from rfl), if_neg (by simp)]
theorem upto_step {s : List UInt8} {i : Nat} (h : i < s.length) (hc : ¬s[i] = 61) : (upto61 (s.drop i)).length = (upto61 (s.drop (i + 1))).length + 1 := by
  rw [List.drop_eq_getElem_cons h, upto61, List.takeWhile_cons, if_pos (by simpa using hc)]; rfl
theorem upto_hit {s : List UInt8} {i : Nat} (h : i < s.length) (hc : s[i] = 61) : (upto61 (s.drop i)).length = 0 := by
  rw [List.drop_eq_getElem_cons h, upto61, List.takeWhile_cons, if_neg (by simp [hc])]; rfl
end Go.Prs
namespace Go.Proofs.Ytolahnnkdpbdfaa
open Go.Proofs Go.RowKit Go.Shelf Go.Sl Go.Prs
abbrev z52 : Obj := .cells #[.slice none 0 0, .int .i64 0, .int .i64 0, .int .i64 0, .bool false, .bool false] 52 (0, 0)
def qcs (iv : Value) (q : Qy) : Array Value := #[iv, .int .i64 q.mx, .int .i64 q.sk, .int .i64 q.od, .bool q.fi, .bool q.rv]
/-- the question that came, the result's block, the parser -/
structure FlS (b : Nat) (w : World) (L : List Lex.Tok) (p : Nat) (bad : Bool) (nots : Nat) (iv : Value) (q : Qy) (wr : World) : Prop where
  q_ : wr.heap[w.heap.size]? = some (.cells #[iv, .int .i64 q.mx, .int .i64 q.sk, .int .i64 q.od, .bool q.fi, .bool q.rv] 52 (0, 0))
  res : wr.heap[w.heap.size + 1]? = some z52
  ds : Ds b wr L p bad nots
  gr : w.grownBy wr (some b)
section
variable {b : Nat} {w : World} {L : List Lex.Tok} {p : Nat} {bad : Bool} {nots : Nat} {iv : Value} {q : Qy} {wr : World}
theorem FlS.start (h : Ds b w L p false nots) (iv : Value) (q : Qy) : FlS b w L p false nots iv q ((w.alloc (.cells #[iv, .int .i64 q.mx, .int .i64 q.sk, .int .i64 q.od, .bool q.fi, .bool q.rv] 52)).alloc z52) := by
  have h1 := heap_alloc_new w (.cells #[iv, .int .i64 q.mx, .int .i64 q.sk, .int .i64 q.od, .bool q.fi, .bool q.rv] 52)
  have h2 := heap_alloc_new (w.alloc (.cells #[iv, .int .i64 q.mx, .int .i64 q.sk, .int .i64 q.od, .bool q.fi, .bool q.rv] 52)) z52
  rw [show (w.alloc (.cells #[iv, .int .i64 q.mx, .int .i64 q.sk, .int .i64 q.od, .bool q.fi, .bool q.rv] 52)).heap.size = w.heap.size + 1 by simp] at h2
  exact ⟨heap_keep h1, h2, (h.alloc _).alloc _, grown_alloc (grown_alloc (grown_refl _ _) _) _⟩
theorem FlS.par (h : FlS b w L p bad nots iv q wr) (hbw : b < w.heap.size) {w' : World} (hg : wr.grownBy w' (some b)) {p' : Nat} {bad' : Bool} {nots' : Nat} (hd : Ds b w' L p' bad' nots') : FlS b w L p' bad' nots' iv q w' :=
  ⟨grown_heap hg h.q_ (by intro e; have := Option.some.inj e; omega), grown_heap hg h.res (by intro e; have := Option.some.inj e; omega), hd, grown_trans h.gr hg⟩
theorem FlS.ext (h : FlS b w L p bad nots iv q wr) (hbw : b < w.heap.size) {w' : World} (hb : Below wr.heap.size wr w') : FlS b w L p bad nots iv q w' := h.par hbw (grown_below hb) (h.ds.ext hb)
theorem FlS.bk (h : FlS b w L p bad nots iv q wr) : Bk wr 52 w.heap.size := ⟨_, h.q_⟩
theorem FlS.set (h : FlS b w L p bad nots iv q wr) (o : Nat) (u : Value) {q' : Qy} (hu : (#[iv, .int .i64 q.mx, .int .i64 q.sk, .int .i64 q.od, .bool q.fi, .bool q.rv] : Array Value).setIfInBounds o u = #[iv, .int .i64 q'.mx, .int .i64 q'.sk, .int .i64 q'.od, .bool q'.fi, .bool q'.rv]) : FlS b w L p bad nots iv q' (wr.setCell ⟨w.heap.size, o, none⟩ u) := by
  refine ⟨?_, heap_set_keep h.res (by simp only []; omega), h.ds.set h.bk (by decide) (by decide) o u, grown_over h.gr (grown_set wr ⟨w.heap.size, o, none⟩ u) (by simp only []; omega)⟩
  rw [heap_setCell_same _ _ _ _ _ _ h.q_]
  rw [hu]
theorem FlS.fact (h : FlS b w L p bad nots iv q wr) : (∀ o, wr.frozen? ⟨w.heap.size, o, none⟩ = false) ∧ (∀ o, wr.frozen? ⟨w.heap.size + 1, o, none⟩ = false) ∧ (∀ o, wr.frozen? ⟨b, o, none⟩ = false) ∧
    wr.cell? ⟨w.heap.size, 0, none⟩ = some iv ∧ wr.cell? ⟨w.heap.size, 1, none⟩ = some (.int .i64 q.mx) ∧ wr.cell? ⟨w.heap.size, 2, none⟩ = some (.int .i64 q.sk) ∧ wr.cell? ⟨w.heap.size, 3, none⟩ = some (.int .i64 q.od) ∧ wr.cell? ⟨w.heap.size, 4, none⟩ = some (.bool q.fi) ∧ wr.cell? ⟨w.heap.size, 5, none⟩ = some (.bool q.rv) ∧
    wr.cell? ⟨w.heap.size + 1, 0, none⟩ = some (.slice none 0 0) ∧ wr.cell? ⟨w.heap.size + 1, 1, none⟩ = some (.int .i64 0) ∧ wr.cell? ⟨w.heap.size + 1, 2, none⟩ = some (.int .i64 0) ∧ wr.cell? ⟨w.heap.size + 1, 3, none⟩ = some (.int .i64 0) ∧ wr.cell? ⟨w.heap.size + 1, 4, none⟩ = some (.bool false) ∧ wr.cell? ⟨w.heap.size + 1, 5, none⟩ = some (.bool false) ∧
    wr.cell? ⟨b, 2, none⟩ = some (.bool bad) ∧ wr.cell? ⟨b, 3, none⟩ = some (.int .i64 (nots : Nat)) := by
  obtain ⟨_, a0, a1, a2, a3, a4, a5⟩ := six_cells h.q_
  obtain ⟨_, d0, d1, d2, d3, d4, d5⟩ := six_cells h.res
  have hbk := h.ds.bk
  obtain ⟨lv, h1, _⟩ := h.ds.ex
  exact ⟨bk_frozen h.bk, bk_frozen ⟨_, h.res⟩, bk_frozen hbk, a0, a1, a2, a3, a4, a5, d0, d1, d2, d3, d4, d5, by simp [World.cell?, h1], by simp [World.cell?, h1]⟩
end
theorem Ds.set6q {b : Nat} {w : World} {L : List Lex.Tok} {p : Nat} {bad : Bool} {nots : Nat} (h : Ds b w L p bad nots) {g : Nat} (hk : Bk w 52 g) (v0 v1 v2 v3 v4 v5 : Value) :
    Ds b ((((((w.setCell ⟨g, 0, none⟩ v0).setCell ⟨g, 1, none⟩ v1).setCell ⟨g, 2, none⟩ v2).setCell ⟨g, 3, none⟩ v3).setCell ⟨g, 4, none⟩ v4).setCell ⟨g, 5, none⟩ v5) L p bad nots := by
  have h0 := h.set hk (by decide) (by decide) 0 v0
  have k0 := hk.set g 0 v0
  have h1 := h0.set k0 (by decide) (by decide) 1 v1
  have k1 := k0.set g 1 v1
  have h2 := h1.set k1 (by decide) (by decide) 2 v2
  have k2 := k1.set g 2 v2
  have h3 := h2.set k2 (by decide) (by decide) 3 v3
  have k3 := k2.set g 3 v3
  have h4 := h3.set k3 (by decide) (by decide) 4 v4
  have k4 := k3.set g 4 v4
  exact h4.set k4 (by decide) (by decide) 5 v5
/-- what the document's flag ends with -/
def FlD (b : Nat) (w : World) (L : List Lex.Tok) (p nots : Nat) (iv : Value) (q : Qy) (nt : Bool) (e : Ending) (w' : World) : Prop :=
  w.grownBy w' (some b) ∧ match flg (tx (L.drop p)) q nt with
  | some (q', nt') => e = .returned (qv iv q') ∧ ∃ nots', Ds b w' L p false nots' ∧ nt' = decide (nots' % 2 = 1) ∧ nots' ≤ nots + 1
  | none => e = .returned (qv iv q) ∧ Ds b w' L p true nots
theorem FlD.no {b : Nat} {w w' : World} {L : List Lex.Tok} {p nots : Nat} {iv : Value} {q : Qy} {nt : Bool} {v : Value} (h : flg (tx (L.drop p)) q nt = none) (hg : w.grownBy w' (some b)) (hv : v = qv iv q) (hd : Ds b w' L p true nots) : FlD b w L p nots iv q nt (.returned v) w' := by
  unfold FlD; rw [h]; exact ⟨hg, by rw [hv], hd⟩
theorem FlD.is {b : Nat} {w w' : World} {L : List Lex.Tok} {p nots : Nat} {iv : Value} {q q' : Qy} {nt nt' : Bool} {v : Value} {nots' : Nat} (h : flg (tx (L.drop p)) q nt = some (q', nt')) (hg : w.grownBy w' (some b)) (hv : v = qv iv q') (hd : Ds b w' L p false nots') (hn : nt' = decide (nots' % 2 = 1)) (hl : nots' ≤ nots + 1) : FlD b w L p nots iv q nt (.returned v) w' := by
  unfold FlD; rw [h]; exact ⟨hg, by rw [hv], nots', hd, hn, hl⟩
theorem ne61 {c : UInt8} (h : ¬c = 61) : ((c.toNat : Int) == 61) = false := by
  rw [beq_eq_false_iff_ne]
  intro h2
  exact h (UInt8.toNat_inj.1 (by have : c.toNat = 61 := by omega
                                 simpa using this))
theorem is61 {c : UInt8} (h : c = 61) : ((c.toNat : Int) == 61) = true := by subst h; rfl
set_option maxRecDepth 100000 in
set_option maxHeartbeats 8000000 in
theorem dflag_any (b : Nat) (L : List Lex.Tok) (p nots : Nat) (ia : Option Addr) (iN ic : Nat) (q : Qy) (nt : Bool) (hnt : nt = decide (nots % 2 = 1)) (hno : nots ≤ 1000) (w : World) (h : Ds b w L p false nots) (ht : Tl (L.drop p)) :
    Calls Try.prog 45 #[.pointer (some ⟨b, 0, none⟩), .agg #[.slice ia iN ic, .int .i64 q.mx, .int .i64 q.sk, .int .i64 q.od, .bool q.fi, .bool q.rv]] w (FlD b w L p nots (.slice ia iN ic) q nt) := by
  have HT := Lib.hid ht
  have HNt := Lib.hid hnt
  have hlen := ht.len
  have hbw : b < w.heap.size := h.lt
  have HI := Lib.hid (FlS.start h (.slice ia iN ic) q)
  have hA2 : (w.alloc (.cells #[.slice ia iN ic, .int .i64 q.mx, .int .i64 q.sk, .int .i64 q.od, .bool q.fi, .bool q.rv] 52)).alloc z52 = (w.alloc (.cells #[.slice ia iN ic, .int .i64 q.mx, .int .i64 q.sk, .int .i64 q.od, .bool q.fi, .bool q.rv] 52)).alloc z52 := rfl
  clear h ht hnt hA2
  obtain ⟨s, hs⟩ : ∃ s, Hid (tx (L.drop p) = s) := ⟨_, Lib.hid rfl⟩
  rw [hs.out] at hlen
  go_enter Try.func45, Try.ntmps45
  go_wp2_with fail
  generalize (w.alloc (.cells #[.slice ia iN ic, .int .i64 q.mx, .int .i64 q.sk, .int .i64 q.od, .bool q.fi, .bool q.rv] 52)).alloc z52 = wA at HI ⊢
  obtain ⟨lv, b5, o5, c0, c1, c2, c3, cf, h5, hix, -, e1, -⟩ := HI.out.ds.fact HT.out.ne
  rw [hs.out] at e1
  go_cut [5] (fun u wx => u = .string (bstr s) ∧ Hid (FlS b w L p false nots (.slice ia iN ic) q wx))
  case first =>
    go_quiet (fail)
    go_wp2_with fail
    go_meet
    exact ⟨rfl, Lib.hid (HI.out.ext hbw (below_drewN (Below.refl _ _) _))⟩
  case rest =>
    clear HI lv b5 o5 c0 c1 c2 c3 cf h5 hix e1
    obtain ⟨w1, rfl⟩ : ∃ w1 : World, w1 = wc := ⟨_, rfl⟩
    obtain ⟨rfl, HI⟩ := hcut
    go_wp2_with fail
    go_loop [6, 7] (fun c k => ∃ j : Nat, j ≤ s.length ∧ Down j k ∧ ∃ n : Nat, c = .int .i64 n ∧ Hid (n = j + (upto61 (s.drop j)).length)) (fun _ k => (intOf k + 1).toNat)
    case atStart => exact ⟨s.length, Nat.le_refl _, Down.of _, s.length, rfl, Lib.hid (by rw [List.drop_eq_nil_of_le (Nat.le_refl _)]; rfl)⟩
    case round =>
      obtain ⟨j, hj, hdn, n, rfl, HN⟩ := hrel
      rcases hdn with ⟨i, rfl, rfl⟩ | ⟨rfl, rfl⟩
      · have hi : i < s.length := by omega
        by_cases h61 : s[i] = 61
        · have c61 := is61 h61
          have HE : Hid (i = i + (upto61 (s.drop i)).length) := Lib.hid (by rw [upto_hit hi h61]; rfl)
          clear h61
          go_wp2_with fail
          go_round
          case rel => exact ⟨i, by omega, Down.of i, i, rfl, HE⟩
          case measure => simp [intOf]
        · have c61 := ne61 h61
          have HE : Hid (n = i + (upto61 (s.drop i)).length) := Lib.hid (by rw [upto_step hi h61, HN.out]; omega)
          clear h61
          go_wp2_with fail
          go_round
          case rel => exact ⟨i, by omega, Down.of i, n, rfl, HE⟩
          case measure => simp [intOf]
      · have hn0 : Hid (n = (upto61 s).length) := Lib.hid (by rw [HN.out, List.drop_zero]; omega)
        have HU := Lib.hid (upto_le s)
        have hnl : n ≤ s.length := by rw [hn0.out]; exact HU.out
        obtain ⟨f0, f1, f2, a0, a1, a2, a3, a4, a5, d0, d1, d2, d3, d4, d5, g2, g3⟩ := HI.out.fact
        clear HN hj
        by_cases hlt : n < s.length
        · have HL : Hid ((upto61 s).length < s.length) := Lib.hid (by rw [← hn0.out]; exact hlt)
          have hdl : n + 1 ≤ s.length := hlt
          obtain ⟨m, is, hm⟩ : ∃ m t, Lex.count (s.drop (n + 1)) = (m, t) := ⟨_, _, rfl⟩
          have HC := Lib.hid (fun u => rcount_any (s.drop (n + 1)) m is hm u (by simp only [List.length_drop]; omega))
          obtain ⟨wd, hwd⟩ : ∃ x, s.take n = x := ⟨_, rfl⟩
          have HW : Hid (upto61 s = wd) := Lib.hid (by rw [← hwd, hn0.out]; exact upto_take s)
          have HF : Hid (flg (tx (L.drop p)) q nt = if is = true ∧ wd = fMax then some ({ q with mx := m }, nt) else if is = true ∧ wd = fSkip then some ({ q with sk := m }, nt) else none) := Lib.hid (by rw [hs.out, flg_hit HL.out (n := m) (is := is) (by rw [← hn0.out]; exact hm), HW.out])
          clear hm
          have qlt : decide (n < s.length) = true := decide_eq_true hlt
          go_wp2_with fail
          with_reducible refine (HC.out _).mono ?_
          rintro e w' ⟨rfl, rfl⟩
          clear HC
          cases is with
          | false =>
            have HE : Hid (flg (tx (L.drop p)) q nt = none) := Lib.hid (by rw [HF.out]; simp)
            have HI2 := Lib.hid (HI.out.par hbw (grown_set _ ⟨b, 2, none⟩ (.bool true)) HI.out.ds.bad)
            have HB := Lib.hid (show Bk _ 52 (w.heap.size + 1) from ⟨_, HI2.out.res⟩)
            go_wp2_with fail
            refine bodyPost_ret (v := .agg #[.slice ia iN ic, .int .i64 (q).mx, .int .i64 (q).sk, .int .i64 (q).od, .bool (q).fi, .bool (q).rv]) ?_ rfl ?_
            · simp [results, Try.results45, go_sem, d0, d1, d2, d3, d4, d5]; try rfl
            · exact FlD.no HE.out (grown_set6 HI2.out.gr (by omega) _ _ _ _ _ _) rfl (HI2.out.ds.set6q HB.out _ _ _ _ _ _)
          | true =>
            by_cases hMax : wd = fMax
            · have c1 : (wd == [45, 45, 109, 97, 120]) = true := by rw [hMax]; rfl
              have HE : Hid (flg (tx (L.drop p)) q nt = some ({ q with mx := (m : Nat) }, nt)) := Lib.hid (by rw [HF.out]; simp [hMax])
              clear hMax
              have HI2 := Lib.hid (HI.out.set 1 (.int .i64 (m : Nat)) (q' := { q with mx := (m : Nat) }) rfl)
              have HB := Lib.hid (show Bk _ 52 (w.heap.size + 1) from ⟨_, HI2.out.res⟩)
              go_wp2_with fail
              refine bodyPost_ret (v := .agg #[.slice ia iN ic, .int .i64 ({ q with mx := (m : Nat) } : Qy).mx, .int .i64 ({ q with mx := (m : Nat) } : Qy).sk, .int .i64 ({ q with mx := (m : Nat) } : Qy).od, .bool ({ q with mx := (m : Nat) } : Qy).fi, .bool ({ q with mx := (m : Nat) } : Qy).rv]) ?_ rfl ?_
              · simp [results, Try.results45, go_sem, d0, d1, d2, d3, d4, d5]; try rfl
              · exact FlD.is HE.out (grown_set6 HI2.out.gr (by omega) _ _ _ _ _ _) rfl (HI2.out.ds.set6q HB.out _ _ _ _ _ _) HNt.out (by omega)
            · have c1 : (wd == [45, 45, 109, 97, 120]) = false := beq_eq_false_iff_ne.2 hMax
              by_cases hSkip : wd = fSkip
              · have c1 : (wd == [45, 45, 115, 107, 105, 112]) = true := by rw [hSkip]; rfl
                have c2 : (wd == [45, 45, 109, 97, 120]) = false := by rw [hSkip]; rfl
                have HE : Hid (flg (tx (L.drop p)) q nt = some ({ q with sk := (m : Nat) }, nt)) := Lib.hid (by rw [HF.out]; simp [hSkip])
                clear hMax hSkip
                have HI2 := Lib.hid (HI.out.set 2 (.int .i64 (m : Nat)) (q' := { q with sk := (m : Nat) }) rfl)
                have HB := Lib.hid (show Bk _ 52 (w.heap.size + 1) from ⟨_, HI2.out.res⟩)
                go_wp2_with fail
                refine bodyPost_ret (v := .agg #[.slice ia iN ic, .int .i64 ({ q with sk := (m : Nat) } : Qy).mx, .int .i64 ({ q with sk := (m : Nat) } : Qy).sk, .int .i64 ({ q with sk := (m : Nat) } : Qy).od, .bool ({ q with sk := (m : Nat) } : Qy).fi, .bool ({ q with sk := (m : Nat) } : Qy).rv]) ?_ rfl ?_
                · simp [results, Try.results45, go_sem, d0, d1, d2, d3, d4, d5]; try rfl
                · exact FlD.is HE.out (grown_set6 HI2.out.gr (by omega) _ _ _ _ _ _) rfl (HI2.out.ds.set6q HB.out _ _ _ _ _ _) HNt.out (by omega)
              · have c2 : (wd == [45, 45, 115, 107, 105, 112]) = false := beq_eq_false_iff_ne.2 hSkip
                have HE : Hid (flg (tx (L.drop p)) q nt = none) := Lib.hid (by rw [HF.out]; simp [hMax, hSkip])
                clear hMax hSkip
                have HI2 := Lib.hid (HI.out.par hbw (grown_set _ ⟨b, 2, none⟩ (.bool true)) HI.out.ds.bad)
                have HB := Lib.hid (show Bk _ 52 (w.heap.size + 1) from ⟨_, HI2.out.res⟩)
                go_wp2_with fail
                refine bodyPost_ret (v := .agg #[.slice ia iN ic, .int .i64 (q).mx, .int .i64 (q).sk, .int .i64 (q).od, .bool (q).fi, .bool (q).rv]) ?_ rfl ?_
                · simp [results, Try.results45, go_sem, d0, d1, d2, d3, d4, d5]; try rfl
                · exact FlD.no HE.out (grown_set6 HI2.out.gr (by omega) _ _ _ _ _ _) rfl (HI2.out.ds.set6q HB.out _ _ _ _ _ _)
        · have HF : Hid (flg (tx (L.drop p)) q nt = if s = fNot then some (q, !nt) else if s = fDate then some ({ q with od := 0 }, nt) else if s = fTopo then some ({ q with od := 1 }, nt) else if s = fTime then some ({ q with od := 2 }, nt) else if s = fFirst then some ({ q with fi := true }, nt) else if s = fRev then some ({ q with rv := true }, nt) else none) := Lib.hid (by rw [hs.out, flg_miss (by rw [← hn0.out]; exact hlt)])
          obtain rfl : n = s.length := by omega
          clear hlt hnl
          by_cases hn : s = fNot
          · have xn : (s == [45, 45, 110, 111, 116]) = true := by rw [hn]; rfl
            have xdn : (s == [45, 45, 100, 97, 116, 101]) = false := by rw [hn]; rfl
            have xon : (s == [45, 45, 116, 111, 112, 111]) = false := by rw [hn]; rfl
            have xin : (s == [45, 45, 116, 105, 109, 101]) = false := by rw [hn]; rfl
            have xfn : (s == [45, 45, 102, 105, 114, 115, 116]) = false := by rw [hn]; rfl
            have xrn : (s == [45, 45, 114, 101, 118, 101, 114, 115, 101]) = false := by rw [hn]; rfl
            have HE : Hid (flg (tx (L.drop p)) q nt = some (q, !nt)) := Lib.hid (by rw [HF.out]; simp [hn])
            clear hn
            have HI2 := Lib.hid (HI.out.par hbw (grown_set _ ⟨b, 3, none⟩ (.int .i64 ((nots : Int) + 1))) HI.out.ds.nots1)
            have HNn : Hid ((!nt) = decide ((nots + 1) % 2 = 1)) := Lib.hid (by rw [HNt.out, ← decide_not, decide_eq_decide]; omega)
            have HB := Lib.hid (show Bk _ 52 (w.heap.size + 1) from ⟨_, HI2.out.res⟩)
            go_wp2_with fail
            refine bodyPost_ret (v := .agg #[.slice ia iN ic, .int .i64 (q).mx, .int .i64 (q).sk, .int .i64 (q).od, .bool (q).fi, .bool (q).rv]) ?_ rfl ?_
            · simp [results, Try.results45, go_sem, d0, d1, d2, d3, d4, d5]; try rfl
            · exact FlD.is HE.out (grown_set6 HI2.out.gr (by omega) _ _ _ _ _ _) rfl (HI2.out.ds.set6q HB.out _ _ _ _ _ _) HNn.out (Nat.le_refl _)
          · have yn : (s == [45, 45, 110, 111, 116]) = false := beq_eq_false_iff_ne.2 hn
            by_cases hd : s = fDate
            · have xd : (s == [45, 45, 100, 97, 116, 101]) = true := by rw [hd]; rfl
              have xnd : (s == [45, 45, 110, 111, 116]) = false := by rw [hd]; rfl
              have xod : (s == [45, 45, 116, 111, 112, 111]) = false := by rw [hd]; rfl
              have xid : (s == [45, 45, 116, 105, 109, 101]) = false := by rw [hd]; rfl
              have xfd : (s == [45, 45, 102, 105, 114, 115, 116]) = false := by rw [hd]; rfl
              have xrd : (s == [45, 45, 114, 101, 118, 101, 114, 115, 101]) = false := by rw [hd]; rfl
              have HE : Hid (flg (tx (L.drop p)) q nt = some ({ q with od := 0 }, nt)) := Lib.hid (by rw [HF.out]; simp [hd])
              clear hn hd
              have HI2 := Lib.hid (HI.out.set 3 (.int .i64 0) (q' := { q with od := 0 }) rfl)
              have HB := Lib.hid (show Bk _ 52 (w.heap.size + 1) from ⟨_, HI2.out.res⟩)
              go_wp2_with fail
              refine bodyPost_ret (v := .agg #[.slice ia iN ic, .int .i64 ({ q with od := 0 } : Qy).mx, .int .i64 ({ q with od := 0 } : Qy).sk, .int .i64 ({ q with od := 0 } : Qy).od, .bool ({ q with od := 0 } : Qy).fi, .bool ({ q with od := 0 } : Qy).rv]) ?_ rfl ?_
              · simp [results, Try.results45, go_sem, d0, d1, d2, d3, d4, d5]; try rfl
              · exact FlD.is HE.out (grown_set6 HI2.out.gr (by omega) _ _ _ _ _ _) rfl (HI2.out.ds.set6q HB.out _ _ _ _ _ _) HNt.out (by omega)
            · have yd : (s == [45, 45, 100, 97, 116, 101]) = false := beq_eq_false_iff_ne.2 hd
              by_cases ho : s = fTopo
              · have xo : (s == [45, 45, 116, 111, 112, 111]) = true := by rw [ho]; rfl
                have xno : (s == [45, 45, 110, 111, 116]) = false := by rw [ho]; rfl
                have xdo : (s == [45, 45, 100, 97, 116, 101]) = false := by rw [ho]; rfl
                have xio : (s == [45, 45, 116, 105, 109, 101]) = false := by rw [ho]; rfl
                have xfo : (s == [45, 45, 102, 105, 114, 115, 116]) = false := by rw [ho]; rfl
                have xro : (s == [45, 45, 114, 101, 118, 101, 114, 115, 101]) = false := by rw [ho]; rfl
                have HE : Hid (flg (tx (L.drop p)) q nt = some ({ q with od := 1 }, nt)) := Lib.hid (by rw [HF.out]; simp [ho])
                clear hn hd ho
                have HI2 := Lib.hid (HI.out.set 3 (.int .i64 1) (q' := { q with od := 1 }) rfl)
                have HB := Lib.hid (show Bk _ 52 (w.heap.size + 1) from ⟨_, HI2.out.res⟩)
                go_wp2_with fail
                refine bodyPost_ret (v := .agg #[.slice ia iN ic, .int .i64 ({ q with od := 1 } : Qy).mx, .int .i64 ({ q with od := 1 } : Qy).sk, .int .i64 ({ q with od := 1 } : Qy).od, .bool ({ q with od := 1 } : Qy).fi, .bool ({ q with od := 1 } : Qy).rv]) ?_ rfl ?_
                · simp [results, Try.results45, go_sem, d0, d1, d2, d3, d4, d5]; try rfl
                · exact FlD.is HE.out (grown_set6 HI2.out.gr (by omega) _ _ _ _ _ _) rfl (HI2.out.ds.set6q HB.out _ _ _ _ _ _) HNt.out (by omega)
              · have yo : (s == [45, 45, 116, 111, 112, 111]) = false := beq_eq_false_iff_ne.2 ho
                by_cases hi : s = fTime
                · have xi : (s == [45, 45, 116, 105, 109, 101]) = true := by rw [hi]; rfl
                  have xni : (s == [45, 45, 110, 111, 116]) = false := by rw [hi]; rfl
                  have xdi : (s == [45, 45, 100, 97, 116, 101]) = false := by rw [hi]; rfl
                  have xoi : (s == [45, 45, 116, 111, 112, 111]) = false := by rw [hi]; rfl
                  have xfi : (s == [45, 45, 102, 105, 114, 115, 116]) = false := by rw [hi]; rfl
                  have xri : (s == [45, 45, 114, 101, 118, 101, 114, 115, 101]) = false := by rw [hi]; rfl
                  have HE : Hid (flg (tx (L.drop p)) q nt = some ({ q with od := 2 }, nt)) := Lib.hid (by rw [HF.out]; simp [hi])
                  clear hn hd ho hi
                  have HI2 := Lib.hid (HI.out.set 3 (.int .i64 2) (q' := { q with od := 2 }) rfl)
                  have HB := Lib.hid (show Bk _ 52 (w.heap.size + 1) from ⟨_, HI2.out.res⟩)
                  go_wp2_with fail
                  refine bodyPost_ret (v := .agg #[.slice ia iN ic, .int .i64 ({ q with od := 2 } : Qy).mx, .int .i64 ({ q with od := 2 } : Qy).sk, .int .i64 ({ q with od := 2 } : Qy).od, .bool ({ q with od := 2 } : Qy).fi, .bool ({ q with od := 2 } : Qy).rv]) ?_ rfl ?_
                  · simp [results, Try.results45, go_sem, d0, d1, d2, d3, d4, d5]; try rfl
                  · exact FlD.is HE.out (grown_set6 HI2.out.gr (by omega) _ _ _ _ _ _) rfl (HI2.out.ds.set6q HB.out _ _ _ _ _ _) HNt.out (by omega)
                · have yi : (s == [45, 45, 116, 105, 109, 101]) = false := beq_eq_false_iff_ne.2 hi
                  by_cases hf : s = fFirst
                  · have xf : (s == [45, 45, 102, 105, 114, 115, 116]) = true := by rw [hf]; rfl
                    have xnf : (s == [45, 45, 110, 111, 116]) = false := by rw [hf]; rfl
                    have xdf : (s == [45, 45, 100, 97, 116, 101]) = false := by rw [hf]; rfl
                    have xof : (s == [45, 45, 116, 111, 112, 111]) = false := by rw [hf]; rfl
                    have xif : (s == [45, 45, 116, 105, 109, 101]) = false := by rw [hf]; rfl
                    have xrf : (s == [45, 45, 114, 101, 118, 101, 114, 115, 101]) = false := by rw [hf]; rfl
                    have HE : Hid (flg (tx (L.drop p)) q nt = some ({ q with fi := true }, nt)) := Lib.hid (by rw [HF.out]; simp [hf])
                    clear hn hd ho hi hf
                    have HI2 := Lib.hid (HI.out.set 4 (.bool true) (q' := { q with fi := true }) rfl)
                    have HB := Lib.hid (show Bk _ 52 (w.heap.size + 1) from ⟨_, HI2.out.res⟩)
                    go_wp2_with fail
                    refine bodyPost_ret (v := .agg #[.slice ia iN ic, .int .i64 ({ q with fi := true } : Qy).mx, .int .i64 ({ q with fi := true } : Qy).sk, .int .i64 ({ q with fi := true } : Qy).od, .bool ({ q with fi := true } : Qy).fi, .bool ({ q with fi := true } : Qy).rv]) ?_ rfl ?_
                    · simp [results, Try.results45, go_sem, d0, d1, d2, d3, d4, d5]; try rfl
                    · exact FlD.is HE.out (grown_set6 HI2.out.gr (by omega) _ _ _ _ _ _) rfl (HI2.out.ds.set6q HB.out _ _ _ _ _ _) HNt.out (by omega)
                  · have yf : (s == [45, 45, 102, 105, 114, 115, 116]) = false := beq_eq_false_iff_ne.2 hf
                    by_cases hr : s = fRev
                    · have xr : (s == [45, 45, 114, 101, 118, 101, 114, 115, 101]) = true := by rw [hr]; rfl
                      have xnr : (s == [45, 45, 110, 111, 116]) = false := by rw [hr]; rfl
                      have xdr : (s == [45, 45, 100, 97, 116, 101]) = false := by rw [hr]; rfl
                      have xor : (s == [45, 45, 116, 111, 112, 111]) = false := by rw [hr]; rfl
                      have xir : (s == [45, 45, 116, 105, 109, 101]) = false := by rw [hr]; rfl
                      have xfr : (s == [45, 45, 102, 105, 114, 115, 116]) = false := by rw [hr]; rfl
                      have HE : Hid (flg (tx (L.drop p)) q nt = some ({ q with rv := true }, nt)) := Lib.hid (by rw [HF.out]; simp [hr])
                      clear hn hd ho hi hf hr
                      have HI2 := Lib.hid (HI.out.set 5 (.bool true) (q' := { q with rv := true }) rfl)
                      have HB := Lib.hid (show Bk _ 52 (w.heap.size + 1) from ⟨_, HI2.out.res⟩)
                      go_wp2_with fail
                      refine bodyPost_ret (v := .agg #[.slice ia iN ic, .int .i64 ({ q with rv := true } : Qy).mx, .int .i64 ({ q with rv := true } : Qy).sk, .int .i64 ({ q with rv := true } : Qy).od, .bool ({ q with rv := true } : Qy).fi, .bool ({ q with rv := true } : Qy).rv]) ?_ rfl ?_
                      · simp [results, Try.results45, go_sem, d0, d1, d2, d3, d4, d5]; try rfl
                      · exact FlD.is HE.out (grown_set6 HI2.out.gr (by omega) _ _ _ _ _ _) rfl (HI2.out.ds.set6q HB.out _ _ _ _ _ _) HNt.out (by omega)
                    · have yr : (s == [45, 45, 114, 101, 118, 101, 114, 115, 101]) = false := beq_eq_false_iff_ne.2 hr
                      have HE : Hid (flg (tx (L.drop p)) q nt = none) := Lib.hid (by rw [HF.out]; simp [hn, hd, ho, hi, hf, hr])
                      clear hn hd ho hi hf hr
                      have HI2 := Lib.hid (HI.out.par hbw (grown_set _ ⟨b, 2, none⟩ (.bool true)) HI.out.ds.bad)
                      have HB := Lib.hid (show Bk _ 52 (w.heap.size + 1) from ⟨_, HI2.out.res⟩)
                      go_wp2_with fail
                      refine bodyPost_ret (v := .agg #[.slice ia iN ic, .int .i64 (q).mx, .int .i64 (q).sk, .int .i64 (q).od, .bool (q).fi, .bool (q).rv]) ?_ rfl ?_
                      · simp [results, Try.results45, go_sem, d0, d1, d2, d3, d4, d5]; try rfl
                      · exact FlD.no HE.out (grown_set6 HI2.out.gr (by omega) _ _ _ _ _ _) rfl (HI2.out.ds.set6q HB.out _ _ _ _ _ _)
end Go.Proofs.Ytolahnnkdpbdfaa

namespace Go.Proofs.Ytolahnnkdpbdfaa
open Go.Proofs Go.RowKit Go.Shelf Go.Sl Go.Prs
theorem info98 : (Try.prog.info? 98).map (fun i => (i.zero, i.size, i.bytes)) = some (some (.agg #[.int .i64 0, .string .empty, .slice none 0 0, .string .empty, .slice none 0 0, .bool false]), 6, 96) := by kernel_rfl
/-- an item of the document as it lies -/
structure ItOD (N : Nat) (w : World) (r : Ri) (x : It) : Prop where
  k : r.k = x.k
  ab : r.ab = x.a.b
  av : Own eSt 3 N 118 w (sv r.av) x.a.st
  bb : r.bb = x.b.b
  bv : Own eSt 3 N 118 w (sv r.bv) x.b.st
  nt : r.nt = x.nt
def ItsD (N : Nat) (w : World) : List Ri → List It → Prop
  | [], [] => True
  | r :: rs, x :: xs => ItOD N w r x ∧ ItsD N w rs xs
  | _, _ => False
theorem ItsD.map {N : Nat} {w w' : World} (hk : ∀ v x, Own eSt 3 N 118 w v x → Own eSt 3 N 118 w' v x) : ∀ {rs : List Ri} {xs : List It}, ItsD N w rs xs → ItsD N w' rs xs
  | [], [], _ => trivial
  | _ :: _, _ :: _, ⟨h1, h2⟩ => ⟨⟨h1.k, h1.ab, hk _ _ h1.av, h1.bb, hk _ _ h1.bv, h1.nt⟩, ItsD.map hk h2⟩
theorem ItsD.snoc {N : Nat} {w : World} {r : Ri} {x : It} (h : ItOD N w r x) : ∀ {rs : List Ri} {xs : List It}, ItsD N w rs xs → ItsD N w (rs ++ [r]) (xs ++ [x])
  | [], [], _ => ⟨h, trivial⟩
  | _ :: _, _ :: _, ⟨h1, h2⟩ => ⟨h1, ItsD.snoc h h2⟩
theorem ItsD.len {N : Nat} {w : World} : ∀ {rs : List Ri} {xs : List It}, ItsD N w rs xs → rs.length = xs.length
  | [], [], _ => rfl
  | _ :: _, _ :: _, ⟨_, h2⟩ => by simp [ItsD.len h2]
/-- the items of the document's question as they lie -/
def QD (N : Nat) (w : World) (iv : Value) (its : List It) : Prop := ∃ rs, Own eRi 6 N 98 w iv rs ∧ ItsD N w rs its
theorem QD.nil (N : Nat) (w : World) : QD N w (.slice none 0 0) [] := ⟨[], Own.nil _ _ _ _ _, trivial⟩
theorem QD.isSlice {N : Nat} {w : World} {iv : Value} {its : List It} (h : QD N w iv its) : ∃ a n c, iv = .slice a n c := by
  obtain ⟨rs, ho, _⟩ := h
  exact ho.isSlice
theorem QD.kept {N : Nat} {w w' : World} {iv : Value} {its : List It} (h : QD N w iv its) {row : Option Nat} {e : TypeId} (hg : w.grownBy w' row) (hr : ∀ g, row = some g → Bk w e g) (h1 : e ≠ 98) (h2 : e ≠ 118) : QD N w' iv its := by
  obtain ⟨rs, ho, hi⟩ := h
  exact ⟨rs, Own.kept_bk ho hg hr h1, hi.map fun v x hv => Own.kept_bk hv hg hr h2⟩
theorem QD.ext {N : Nat} {w w' : World} {iv : Value} {its : List It} (h : QD N w iv its) (hb : Below w.heap.size w w') : QD N w' iv its :=
  h.kept (row := none) (e := 0) ⟨hb.os, hb.tape, hb.output, hb.size, fun k hk _ => hb.block k hk⟩ (fun _ e => by cases e) (by decide) (by decide)
theorem QD.set {N : Nat} {w : World} {iv : Value} {its : List It} (h : QD N w iv its) {e : TypeId} {k : Nat} (hk : Bk w e k) (h1 : e ≠ 98) (h2 : e ≠ 118) (o : Nat) (v : Value) : QD N (w.setCell ⟨k, o, none⟩ v) iv its :=
  h.kept (grown_set w ⟨k, o, none⟩ v) (fun g hg => by cases hg; exact hk) h1 h2
/-- the result's block, the question's block, the parser -/
structure PD (b Q : Nat) (w : World) (L : List Lex.Tok) (p : Nat) (bad : Bool) (nots : Nat) (iv : Value) (q : Qy) (wr : World) : Prop where
  res : wr.heap[w.heap.size]? = some z52
  qb : wr.heap[Q]? = some (.cells #[iv, .int .i64 q.mx, .int .i64 q.sk, .int .i64 q.od, .bool q.fi, .bool q.rv] 52 (0, 0))
  ds : Ds b wr L p bad nots
  qs : QD w.heap.size wr iv q.its
  bl : Below w.heap.size w wr
  lb : w.heap.size < b
  lq : w.heap.size < Q
section
variable {b Q : Nat} {w : World} {L : List Lex.Tok} {p : Nat} {bad : Bool} {nots : Nat} {iv : Value} {q : Qy} {wr : World}
theorem PD.bkQ (h : PD b Q w L p bad nots iv q wr) : Bk wr 52 Q := ⟨_, h.qb⟩
theorem PD.bkN (h : PD b Q w L p bad nots iv q wr) : Bk wr 52 w.heap.size := ⟨_, h.res⟩
theorem PD.par (h : PD b Q w L p bad nots iv q wr) {w' : World} (hg : wr.grownBy w' (some b)) {p' : Nat} {bad' : Bool} {nots' : Nat} (hd : Ds b w' L p' bad' nots') : PD b Q w L p' bad' nots' iv q w' :=
  ⟨grown_heap hg h.res (fun e => h.bkN.ne h.ds.bk (by decide) (Option.some.inj e).symm), grown_heap hg h.qb (fun e => h.bkQ.ne h.ds.bk (by decide) (Option.some.inj e).symm), hd, h.qs.kept hg (fun g e => by cases e; exact h.ds.bk) (by decide) (by decide), h.bl.grown hg h.bl.size (fun k e => by cases e; exact Nat.le_of_lt h.lb), h.lb, h.lq⟩
theorem PD.ext (h : PD b Q w L p bad nots iv q wr) {w' : World} (hb : Below wr.heap.size wr w') : PD b Q w L p bad nots iv q w' := h.par (grown_below hb) (h.ds.ext hb)
theorem PD.next (h : PD b Q w L p bad nots iv q wr) : PD b Q w L (p + 1) bad nots iv q (wr.setCell ⟨b, 1, none⟩ (.int .i64 ((p : Int) + 1))) := h.par (grown_set wr ⟨b, 1, none⟩ _) h.ds.next
theorem PD.fact (h : PD b Q w L p bad nots iv q wr) : (∀ o, wr.frozen? ⟨w.heap.size, o, none⟩ = false) ∧ (∀ o, wr.frozen? ⟨Q, o, none⟩ = false) ∧ (∀ o, wr.frozen? ⟨b, o, none⟩ = false) ∧
    wr.cell? ⟨Q, 0, none⟩ = some iv ∧ wr.cell? ⟨Q, 1, none⟩ = some (.int .i64 q.mx) ∧ wr.cell? ⟨Q, 2, none⟩ = some (.int .i64 q.sk) ∧ wr.cell? ⟨Q, 3, none⟩ = some (.int .i64 q.od) ∧ wr.cell? ⟨Q, 4, none⟩ = some (.bool q.fi) ∧ wr.cell? ⟨Q, 5, none⟩ = some (.bool q.rv) ∧
    wr.cell? ⟨w.heap.size, 0, none⟩ = some (.slice none 0 0) ∧ wr.cell? ⟨w.heap.size, 1, none⟩ = some (.int .i64 0) ∧ wr.cell? ⟨w.heap.size, 2, none⟩ = some (.int .i64 0) ∧ wr.cell? ⟨w.heap.size, 3, none⟩ = some (.int .i64 0) ∧ wr.cell? ⟨w.heap.size, 4, none⟩ = some (.bool false) ∧ wr.cell? ⟨w.heap.size, 5, none⟩ = some (.bool false) ∧
    wr.cell? ⟨b, 1, none⟩ = some (.int .i64 (p : Nat)) ∧ wr.cell? ⟨b, 2, none⟩ = some (.bool bad) := by
  obtain ⟨_, a0, a1, a2, a3, a4, a5⟩ := six_cells h.qb
  obtain ⟨_, d0, d1, d2, d3, d4, d5⟩ := six_cells h.res
  have hbk := h.ds.bk
  obtain ⟨lv, h1, _⟩ := h.ds.ex
  exact ⟨bk_frozen h.bkN, bk_frozen h.bkQ, bk_frozen hbk, a0, a1, a2, a3, a4, a5, d0, d1, d2, d3, d4, d5, by simp [World.cell?, h1], by simp [World.cell?, h1]⟩
theorem PD.set1 (h : PD b Q w L p bad nots iv q wr) (o : Nat) (u : Value) {iv' : Value} {q' : Qy} (hu : (#[iv, .int .i64 q.mx, .int .i64 q.sk, .int .i64 q.od, .bool q.fi, .bool q.rv] : Array Value).setIfInBounds o u = #[iv', .int .i64 q'.mx, .int .i64 q'.sk, .int .i64 q'.od, .bool q'.fi, .bool q'.rv])
    (hqs : QD w.heap.size (wr.setCell ⟨Q, o, none⟩ u) iv' q'.its) : PD b Q w L p bad nots iv' q' (wr.setCell ⟨Q, o, none⟩ u) := by
  have hlq := h.lq
  refine ⟨heap_set_keep h.res (by simp only []; omega), ?_, h.ds.set h.bkQ (by decide) (by decide) o u, hqs, h.bl.setCell (by simp only []; omega) u, h.lb, h.lq⟩
  rw [heap_setCell_same _ _ _ _ _ _ h.qb, hu]
/-- the whole question is stored, its items as they were -/
theorem PD.setAll (h : PD b Q w L p bad nots iv q wr) (q' : Qy) (hi : q'.its = q.its) :
    PD b Q w L p bad nots iv q' ((((((wr.setCell ⟨Q, 0, none⟩ iv).setCell ⟨Q, 1, none⟩ (.int .i64 q'.mx)).setCell ⟨Q, 2, none⟩ (.int .i64 q'.sk)).setCell ⟨Q, 3, none⟩ (.int .i64 q'.od)).setCell ⟨Q, 4, none⟩ (.bool q'.fi)).setCell ⟨Q, 5, none⟩ (.bool q'.rv)) := by
  have h0 := h.set1 0 iv (iv' := iv) (q' := q) rfl (h.qs.set h.bkQ (by decide) (by decide) _ _)
  have h1 := h0.set1 1 (.int .i64 q'.mx) (iv' := iv) (q' := { q with mx := q'.mx }) rfl (h0.qs.set h0.bkQ (by decide) (by decide) _ _)
  have h2 := h1.set1 2 (.int .i64 q'.sk) (iv' := iv) (q' := { q with mx := q'.mx, sk := q'.sk }) rfl (h1.qs.set h1.bkQ (by decide) (by decide) _ _)
  have h3 := h2.set1 3 (.int .i64 q'.od) (iv' := iv) (q' := { q with mx := q'.mx, sk := q'.sk, od := q'.od }) rfl (h2.qs.set h2.bkQ (by decide) (by decide) _ _)
  have h4 := h3.set1 4 (.bool q'.fi) (iv' := iv) (q' := { q with mx := q'.mx, sk := q'.sk, od := q'.od, fi := q'.fi }) rfl (h3.qs.set h3.bkQ (by decide) (by decide) _ _)
  have h5 := h4.set1 5 (.bool q'.rv) (iv' := iv) (q' := { q with mx := q'.mx, sk := q'.sk, od := q'.od, fi := q'.fi, rv := q'.rv }) rfl (h4.qs.set h4.bkQ (by decide) (by decide) _ _)
  have e : ({ q with mx := q'.mx, sk := q'.sk, od := q'.od, fi := q'.fi, rv := q'.rv } : Qy) = q' := by cases q; cases q'; simp at hi; simp [hi]
  rw [← e]
  exact h5
/-- an item is put behind the others -/
theorem PD.add (h : PD b Q w L p bad nots iv q wr) {rs : List Ri} (ho : Own eRi 6 w.heap.size 98 wr iv rs) (hs : ItsD w.heap.size wr rs q.its) (o o2 : Obj) {w4 : World} {v4 : Value} {x0 : Ri} {x : It}
    (hi : ItOD w.heap.size wr x0 x) (hown : Own eRi 6 w.heap.size 98 w4 v4 (rs ++ [x0])) (hgr : ((wr.alloc o).alloc o2).grownBy w4 iv.ownBlock) : PD b Q w L p bad nots v4 { q with its := q.its ++ [x] } (w4.setCell ⟨Q, 0, none⟩ v4) := by
  have hlq := h.lq
  have hoa := (ho.alloc o).alloc o2
  have r4 := grown_heap hgr (heap_keep (p := o2) (heap_keep (p := o) h.res)) (hoa.ne_elem (heap_keep (heap_keep h.res)) (by decide))
  have q4 := grown_heap hgr (heap_keep (p := o2) (heap_keep (p := o) h.qb)) (hoa.ne_elem (heap_keep (heap_keep h.qb)) (by decide))
  have d4 := ((h.ds.alloc o).alloc o2).own hoa hgr (by decide) (by decide)
  have kQ : Bk w4 52 Q := ⟨_, q4⟩
  have bl4 : Below w.heap.size w w4 := ((h.bl.alloc h.bl.size o).alloc (by have := h.bl.size; simp; omega) o2).grown hgr (by have := h.bl.size; simp; omega) (fun k e => (hoa.lt k e).1)
  have hkeep : ∀ v x, Own eSt 3 w.heap.size 118 wr v x → Own eSt 3 w.heap.size 118 (w4.setCell ⟨Q, 0, none⟩ v4) v x := fun v x hv =>
    Own.set_bk (Own.kept_bk ((hv.alloc o).alloc o2) hgr (Own.row_bk hoa) (by decide)) kQ (by decide) 0 v4
  refine ⟨heap_set_keep r4 (by simp only []; omega), heap_setCell_same _ _ _ _ _ _ q4, d4.set kQ (by decide) (by decide) 0 v4, ⟨rs ++ [x0], Own.set_bk hown kQ (by decide) 0 v4, ?_⟩, bl4.setCell (by simp only []; omega) v4, h.lb, h.lq⟩
  exact ItsD.snoc ⟨hi.k, hi.ab, hkeep _ _ hi.av, hi.bb, hkeep _ _ hi.bv, hi.nt⟩ (hs.map hkeep)
/-- where the item is not what is asked: the question is given up, only the frame counts -/
theorem PD.junk (h : PD b Q w L p bad nots iv q wr) {rs : List Ri} (ho : Own eRi 6 w.heap.size 98 wr iv rs) (o o2 : Obj) {w4 : World} {v4 : Value} (hgr : ((wr.alloc o).alloc o2).grownBy w4 iv.ownBlock) :
    (w4.setCell ⟨Q, 0, none⟩ v4).heap[w.heap.size]? = some z52 ∧ Ds b (w4.setCell ⟨Q, 0, none⟩ v4) L p bad nots ∧ Below w.heap.size w (w4.setCell ⟨Q, 0, none⟩ v4) := by
  have hlq := h.lq
  have hoa := (ho.alloc o).alloc o2
  have r4 := grown_heap hgr (heap_keep (p := o2) (heap_keep (p := o) h.res)) (hoa.ne_elem (heap_keep (heap_keep h.res)) (by decide))
  have q4 := grown_heap hgr (heap_keep (p := o2) (heap_keep (p := o) h.qb)) (hoa.ne_elem (heap_keep (heap_keep h.qb)) (by decide))
  have d4 := ((h.ds.alloc o).alloc o2).own hoa hgr (by decide) (by decide)
  have kQ : Bk w4 52 Q := ⟨_, q4⟩
  have bl4 : Below w.heap.size w w4 := ((h.bl.alloc h.bl.size o).alloc (by have := h.bl.size; simp; omega) o2).grown hgr (by have := h.bl.size; simp; omega) (fun k e => (hoa.lt k e).1)
  exact ⟨heap_set_keep r4 (by simp only []; omega), d4.set kQ (by decide) (by decide) 0 v4, bl4.setCell (by simp only []; omega) v4⟩
theorem PD.add4 (h : PD b Q w L p bad nots iv q wr) {rs : List Ri} (ho : Own eRi 6 w.heap.size 98 wr iv rs) (o o2 : Obj) {w4 : World} (hgr : ((wr.alloc o).alloc o2).grownBy w4 iv.ownBlock) : w4.cell? ⟨Q, 0, none⟩ = some iv ∧ (∀ k, w4.frozen? ⟨Q, k, none⟩ = false) := by
  have hoa := (ho.alloc o).alloc o2
  have q4 := grown_heap hgr (heap_keep (p := o2) (heap_keep (p := o) h.qb)) (hoa.ne_elem (heap_keep (heap_keep h.qb)) (by decide))
  obtain ⟨_, a0, _⟩ := six_cells q4
  exact ⟨a0, bk_frozen ⟨_, q4⟩⟩
end
theorem six_cell {W : World} {g k : Nat} (hk : k ≠ g) (o : Nat) (v0 v1 v2 v3 v4 v5 : Value) :
    ((((((W.setCell ⟨g, 0, none⟩ v0).setCell ⟨g, 1, none⟩ v1).setCell ⟨g, 2, none⟩ v2).setCell ⟨g, 3, none⟩ v3).setCell ⟨g, 4, none⟩ v4).setCell ⟨g, 5, none⟩ v5).cell? ⟨k, o, none⟩ = W.cell? ⟨k, o, none⟩ :=
  World.cell?_of_block (a := ⟨k, o, none⟩) (six_keep W hk v0 v1 v2 v3 v4 v5)
theorem six_cellD {W : World} {g k : Nat} (hk : k ≠ g) (o : Nat) (v0 v1 v2 v3 v4 v5 : Value) :
    ((((((W.setCell ⟨g, 0, none⟩ v0).setCell ⟨g, 1, none⟩ v1).setCell ⟨g, 2, none⟩ v2).setCell ⟨g, 3, none⟩ v3).setCell ⟨g, 4, none⟩ v4).setCell ⟨g, 5, none⟩ v5).drew.cell? ⟨k, o, none⟩ = W.cell? ⟨k, o, none⟩ := by
  have h := six_cell (W := W) hk o v0 v1 v2 v3 v4 v5
  generalize (((((W.setCell ⟨g, 0, none⟩ v0).setCell ⟨g, 1, none⟩ v1).setCell ⟨g, 2, none⟩ v2).setCell ⟨g, 3, none⟩ v3).setCell ⟨g, 4, none⟩ v4).setCell ⟨g, 5, none⟩ v5 = V at h ⊢
  exact h
theorem Ds.cell2 {b : Nat} {w : World} {L : List Lex.Tok} {p : Nat} {bad : Bool} {nots : Nat} (h : Ds b w L p bad nots) : w.cell? ⟨b, 2, none⟩ = some (.bool bad) := by
  obtain ⟨lv, h1, _⟩ := h.ex
  simp [World.cell?, h1]
theorem Ds.fact5 {b : Nat} {w : World} {L : List Lex.Tok} {p : Nat} {bad : Bool} {nots : Nat} (h : Ds b w L p bad nots) (hl : L.drop p ≠ []) : ∃ lv b5 o5, w.cell? ⟨b, 0, none⟩ = some lv ∧ w.cell? ⟨b, 1, none⟩ = some (.int .i64 (p : Nat)) ∧ Bk w 38 b5 ∧
    (∀ (ik : IntKind) (u : World), (Instr.indexAt 27 lv (.int ik (p : Nat))).run Try.prog u = .ok (.pointer (some ⟨b5, o5, none⟩)) u) ∧ w.cell? ⟨b5, o5 + 2, none⟩ = some (.int .i64 (pl (L.drop p) : Nat)) := by
  obtain ⟨lv, h1, h2, h3⟩ := h.ex
  have hp : p < L.length := by
    rcases Nat.lt_or_ge p L.length with h | h
    · exact h
    · exact absurd (List.drop_eq_nil_of_le h) hl
  have hix := h2.run_index (P := Try.prog) Try.underlying27 cells38 some38 hp
  obtain ⟨b5, off, e, _, ho, hc⟩ := At_eq h2 hp
  rw [e] at hix
  have hd := List.drop_eq_getElem_cons hp
  refine ⟨lv, b5, off + p * 3, by simp [World.cell?, h1], by simp [World.cell?, h1], h3 b5 ho, hix, ?_⟩
  rw [hd]; exact hc 2 (by omega)
/-- what the document's Parse ends with -/
def PdP (w : World) (o : Qy × Nat × Nat) (e : Ending) (w' : World) : Prop :=
  Below w.heap.size w w' ∧ ∃ iv, e = .returned (.tuple #[qv iv o.1, .int .i64 (o.2.1 : Nat), .int .i64 (o.2.2 : Nat)]) ∧ QD w.heap.size w' iv o.1.its
theorem PdP.mk {w w' : World} {o : Qy × Nat × Nat} {q : Qy} {p c : Nat} {iv : Value} {x y : Int} (ho : o = (q, p, c)) (hb : Below w.heap.size w w') (hq : QD w.heap.size w' iv q.its) (hx : x = p) (hy : y = c) : PdP w o (.returned (.tuple #[.agg #[iv, .int .i64 q.mx, .int .i64 q.sk, .int .i64 q.od, .bool q.fi, .bool q.rv], .int .i64 x, .int .i64 y])) w' := by
  subst ho hx hy; exact ⟨hb, iv, rfl, hq⟩
end Go.Proofs.Ytolahnnkdpbdfaa

namespace Go.Proofs.Ytolahnnkdpbdfaa
open Go.Proofs Go.RowKit Go.Shelf Go.Sl Go.Prs
def DL (b Q : Nat) (w : World) (L : List Lex.Tok) (F : Nat) (wr : World) : Prop :=
  ∃ (f p nots : Nat) (q : Qy) (iv : Value), (L.drop p).length < f ∧ p ≤ L.length ∧ q.its.length + (L.drop p).length ≤ 200 ∧ nots + (L.drop p).length ≤ 300 ∧
    Hid (quest F L nQy false = quest f (L.drop p) q (decide (nots % 2 = 1))) ∧ Hid (Tl (L.drop p)) ∧ Hid (PD b Q w L p false nots iv q wr)
theorem PD.start {w w1 : World} {L : List Lex.Tok} {r : Value} {base : Nat} (HB : Below w.heap.size w w1) (H0 : w1.heap[w.heap.size]? = some z52) (HO : Own eTok 3 base 38 w1 r L) (hs : w.heap.size + 1 ≤ w1.heap.size) :
    PD w1.heap.size (w1.heap.size + 1) w L 0 false 0 (.slice none 0 0) nQy ((w1.alloc (.cells #[r, .int .i64 0, .bool false, .int .i64 0] 92)).alloc (.cells #[.slice none 0 0, .int .i64 (-1), .int .i64 0, .int .i64 0, .bool false, .bool false] 52)) := by
  have h1 := heap_alloc_new w1 (.cells #[r, .int .i64 0, .bool false, .int .i64 0] 92)
  have h2 := heap_alloc_new (w1.alloc (.cells #[r, .int .i64 0, .bool false, .int .i64 0] 92)) (.cells #[.slice none 0 0, .int .i64 (-1), .int .i64 0, .int .i64 0, .bool false, .bool false] 52)
  rw [show (w1.alloc (.cells #[r, .int .i64 0, .bool false, .int .i64 0] 92)).heap.size = w1.heap.size + 1 by simp] at h2
  exact ⟨heap_keep (heap_keep H0), h2, ⟨r, heap_keep h1, (((HO.alloc _).alloc _).sl len_eTok), Own.row_bk ((HO.alloc _).alloc _)⟩, QD.nil _ _, (HB.alloc (by omega) _).alloc (by simp; omega) _, by omega, by omega⟩
theorem qd_set6 {N g : Nat} {w0 W : World} {iv : Value} {its : List It} (h : QD N W iv its) (hk : Bk W 52 g) (hg : N ≤ g) (hb : Below N w0 W) (v0 v1 v2 v3 v4 v5 : Value) :
    QD N ((((((W.setCell ⟨g, 0, none⟩ v0).setCell ⟨g, 1, none⟩ v1).setCell ⟨g, 2, none⟩ v2).setCell ⟨g, 3, none⟩ v3).setCell ⟨g, 4, none⟩ v4).setCell ⟨g, 5, none⟩ v5) iv its ∧ Below N w0 ((((((W.setCell ⟨g, 0, none⟩ v0).setCell ⟨g, 1, none⟩ v1).setCell ⟨g, 2, none⟩ v2).setCell ⟨g, 3, none⟩ v3).setCell ⟨g, 4, none⟩ v4).setCell ⟨g, 5, none⟩ v5) := by
  have h0 := h.set hk (by decide) (by decide) 0 v0
  have k0 := hk.set g 0 v0
  have b0 := hb.setCell (p := ⟨g, 0, none⟩) hg v0
  generalize W.setCell ⟨g, 0, none⟩ v0 = W0 at h0 k0 b0 ⊢
  have h1 := h0.set k0 (by decide) (by decide) 1 v1
  have k1 := k0.set g 1 v1
  have b1 := b0.setCell (p := ⟨g, 1, none⟩) hg v1
  generalize W0.setCell ⟨g, 1, none⟩ v1 = W1 at h1 k1 b1 ⊢
  have h2 := h1.set k1 (by decide) (by decide) 2 v2
  have k2 := k1.set g 2 v2
  have b2 := b1.setCell (p := ⟨g, 2, none⟩) hg v2
  generalize W1.setCell ⟨g, 2, none⟩ v2 = W2 at h2 k2 b2 ⊢
  have h3 := h2.set k2 (by decide) (by decide) 3 v3
  have k3 := k2.set g 3 v3
  have b3 := b2.setCell (p := ⟨g, 3, none⟩) hg v3
  generalize W2.setCell ⟨g, 3, none⟩ v3 = W3 at h3 k3 b3 ⊢
  have h4 := h3.set k3 (by decide) (by decide) 4 v4
  have k4 := k3.set g 4 v4
  have b4 := b3.setCell (p := ⟨g, 4, none⟩) hg v4
  generalize W3.setCell ⟨g, 4, none⟩ v4 = W4 at h4 k4 b4 ⊢
  exact ⟨h4.set k4 (by decide) (by decide) 5 v5, b4.setCell (p := ⟨g, 5, none⟩) hg v5⟩
set_option maxRecDepth 100000 in
set_option maxHeartbeats 8000000 in
theorem dparse_any (s : List UInt8) (w : World) (hl : s.length ≤ 100000) : Calls Try.prog 24 #[.string (bstr s)] w (PdP w (Prs.parse s)) := by
  have HA : Hid (Below w.heap.size w (w.alloc z52)) := Lib.hid ((Below.refl _ w).alloc (Nat.le_refl _) _)
  have HTk := Lib.hid (rtokens_any s (w.alloc z52) (by omega))
  rw [← both_tokens] at HTk
  have HN0 := Lib.hid (heap_alloc_new w z52)
  have HsA := Lib.hid (show (w.alloc z52).heap.size = w.heap.size + 1 by simp)
  go_enter Try.func24, Try.ntmps24
  go_wp2_with fail
  cases htk : Lex.tokens Lex.one s with
  | error c =>
    obtain ⟨p, c⟩ := c
    have HE := Lib.hid (parse_tok htk)
    have hc0 := (Lex.tokens_err htk).1
    rw [htk] at HTk
    clear htk
    have hcb : ((c : Int) != 0) = true := by rw [bne_iff_ne]; omega
    clear hc0
    refine HTk.out.mono ?_
    rintro e w1 ⟨hb, rfl⟩
    have HB := Lib.hid (HA.out.trans (hb.mono (by rw [HsA.out]; omega)))
    have H0 := Lib.hid ((hb.block _ (by rw [HsA.out]; omega)).trans HN0.out)
    obtain ⟨_, x0, x1, x2, x3, x4, x5⟩ := six_cells H0.out
    have xf := bk_frozen ⟨_, H0.out⟩
    clear hb HTk
    go_wp2_with fail
    refine bodyPost_ret (v := .tuple #[.agg #[.slice none 0 0, .int .i64 0, .int .i64 0, .int .i64 0, .bool false, .bool false], .int .i64 p, .int .i64 c]) ?_ rfl ?_
    · simp [results, Try.results24, go_sem, x0, x1, x2, x3, x4, x5]; try rfl
    · refine PdP.mk (q := zQy) HE.out ?_ (QD.nil _ _) rfl rfl
      iterate 6 (refine Below.setCell ?_ (by simp only []; omega) _)
      exact HB.out
  | ok L =>
    have HTl := Lib.hid (tokens_tl htk)
    have hln := Lex.tokens_len htk
    have HT := Lib.hid htk
    rw [htk] at HTk
    clear htk
    refine HTk.out.mono ?_
    rintro e w1 ⟨hb, r, rfl, ho⟩
    have HB := Lib.hid (HA.out.trans (hb.mono (by rw [HsA.out]; omega)))
    have H0 := Lib.hid ((hb.block _ (by rw [HsA.out]; omega)).trans HN0.out)
    obtain ⟨ra, rn, rc, rfl⟩ := ho.isSlice
    have hs1 : w.heap.size + 1 ≤ w1.heap.size := by have := hb.size; rw [HsA.out] at this; omega
    have HP := Lib.hid (PD.start HB.out H0.out ho hs1)
    clear hb HTk ho HB H0 HA HN0 HsA
    go_wp2_with fail
    generalize (w1.alloc (.cells #[.slice ra rn rc, .int .i64 0, .bool false, .int .i64 0] 92)).alloc (.cells #[.slice none 0 0, .int .i64 (-1), .int .i64 0, .int .i64 0, .bool false, .bool false] 52) = W at HP ⊢
    generalize w1.heap.size + 1 = Q at HP ⊢
    generalize w1.heap.size = b at HP hs1 ⊢
    have hbw : w.heap.size < b := HP.out.lb
    have hQw : w.heap.size < Q := HP.out.lq
    have hQb : ¬ Q = b := fun e => HP.out.bkQ.ne HP.out.ds.bk (by decide) e
    go_loopw [] (fun wr => DL b Q w L (L.length + 1) wr) (fun wr => mOf b L wr)
    case atStart => exact ⟨L.length + 1, 0, 0, nQy, _, by simp, by omega, by simp [nQy]; omega, by simp; omega, Lib.hid rfl, HTl, HP⟩
    case round =>
      clear HP
      obtain ⟨f, p, nots, q, iv, hf, hpl, hM, hno, HS, HTp, HI⟩ := hrel
      obtain ⟨wo, rfl⟩ : ∃ wo : World, wo = wr := ⟨_, rfl⟩
      obtain ⟨ia, iN, ic, rfl⟩ := HI.out.qs.isSlice
      have HAt := Lib.hid HI.out.ds.mOf
      have hplt := Tl.lt HTp.out
      obtain ⟨m, hm⟩ : ∃ m, Hid (kd (L.drop p) = m) := ⟨_, Lib.hid rfl⟩
      obtain ⟨nt, hnt⟩ : ∃ b, Hid (decide (nots % 2 = 1) = b) := ⟨_, Lib.hid rfl⟩
      rw [hnt.out] at HS
      obtain ⟨f0, f1, f2, a0, a1, a2, a3, a4, a5, d0, d1, d2, d3, d4, d5, g1, g2⟩ := HI.out.fact
      go_wp2_with fail
      have HK1 := Lib.hid (HI.out.ds.kindB HTp.out.ne)
      rw [hm.out] at HK1
      refine HK1.out.mono ?_
      rintro e wk1 ⟨rfl, hb⟩
      have HI1 := Lib.hid (HI.out.ext hb)
      clear hb HK1 f0 f1 f2 a0 a1 a2 a3 a4 a5 d0 d1 d2 d3 d4 d5 g1 g2
      obtain ⟨f0, f1, f2, a0, a1, a2, a3, a4, a5, d0, d1, d2, d3, d4, d5, g1, g2⟩ := HI1.out.fact
      go_upto_if 28 with (fail)
      go_cut [] (fun wx => ∃ p2 : Nat, Hid (PD b Q w L p2 false nots (.slice ia iN ic) q wx) ∧ Hid (skipGap (L.drop p) = L.drop p2) ∧ p ≤ p2 ∧ Hid (Tl (L.drop p2)))
      case first =>
        by_cases h8 : m = 8
        · subst h8
          have hsk : Hid (skipGap (L.drop p) = L.drop (p + 1)) := Lib.hid (by unfold skipGap; rw [if_pos hm.out, drop_tail])
          have HT1 : Hid (Tl (L.drop (p + 1))) := Lib.hid (by rw [drop_tail]; exact HTp.out.tail (by rw [hm.out]; decide))
          have HIn := Lib.hid HI1.out.next
          go_wp2_with fail
          go_meet
          exact ⟨p + 1, HIn, hsk, by omega, HT1⟩
        · have hsk : Hid (skipGap (L.drop p) = L.drop p) := Lib.hid (by unfold skipGap; rw [if_neg (by rw [hm.out]; exact h8)])
          have h8b : ((m : Int) == 8) = false := by rw [beq_eq_false_iff_ne]; omega
          clear h8
          go_wp2_with fail
          go_meet
          exact ⟨p, HI1, hsk, by omega, HTp⟩
      case rest =>
        clear HI HI1 f0 f1 f2 a0 a1 a2 a3 a4 a5 d0 d1 d2 d3 d4 d5 g1 g2
        obtain ⟨wp, hwp⟩ : ∃ wp : World, wp = wc := ⟨_, rfl⟩
        rw [← hwp] at hcut ⊢
        clear hwp
        obtain ⟨p2, HI, hsk, hpp, HT2⟩ := hcut
        have hp2 := Tl.lt HT2.out
        have hdl : (L.drop p2).length ≤ (L.drop p).length := by simp only [List.length_drop]; omega
        obtain ⟨m2, hm2⟩ : ∃ m, Hid (kd (L.drop p2) = m) := ⟨_, Lib.hid rfl⟩
        obtain ⟨f0, f1, f2, a0, a1, a2, a3, a4, a5, d0, d1, d2, d3, d4, d5, g1, g2⟩ := HI.out.fact
        go_wp2_with fail
        have HK2 := Lib.hid (HI.out.ds.kindB HT2.out.ne)
        rw [hm2.out] at HK2
        refine HK2.out.mono ?_
        rintro e wk2 ⟨rfl, hb⟩
        have HI2 := Lib.hid (HI.out.ext hb)
        clear hb HK2 f0 f1 f2 a0 a1 a2 a3 a4 a5 d0 d1 d2 d3 d4 d5 g1 g2
        obtain ⟨f0, f1, f2, a0, a1, a2, a3, a4, a5, d0, d1, d2, d3, d4, d5, g1, g2⟩ := HI2.out.fact
        by_cases h9 : m2 = 9
        · subst h9
          have HE := Lib.hid (parse_ok HT.out (show quest (L.length + 1) L nQy false = .ok q by rw [HS.out, quest_end hf (by rw [hsk.out]; exact hm2.out)]))
          have HQ2 := Lib.hid HI2.out.qs
          have HB2 := Lib.hid HI2.out.bl
          have HkN := Lib.hid HI2.out.bkN
          go_wp2_with fail
          refine bodyPost_ret (v := .tuple #[.agg #[.slice ia iN ic, .int .i64 q.mx, .int .i64 q.sk, .int .i64 q.od, .bool q.fi, .bool q.rv], .int .i64 0, .int .i64 0]) ?_ rfl ?_
          · simp [results, Try.results24, go_sem, d0, d1, d2, d3, d4, d5]; try rfl
          · exact PdP.mk HE.out (qd_set6 HQ2.out HkN.out (Nat.le_refl _) HB2.out _ _ _ _ _ _).2 (qd_set6 HQ2.out HkN.out (Nat.le_refl _) HB2.out _ _ _ _ _ _).1 rfl rfl
        · have h9b : ((m2 : Int) == 9) = false := by rw [beq_eq_false_iff_ne]; omega
          have H9 : Hid (kd (skipGap (L.drop p)) ≠ 9) := Lib.hid (by rw [hsk.out, hm2.out]; exact h9)
          clear h9
          go_wp2_with fail
          have HK3 := Lib.hid (HI2.out.ds.kindB HT2.out.ne)
          rw [hm2.out] at HK3
          refine HK3.out.mono ?_
          rintro e wk3 ⟨rfl, hb⟩
          have HI3 := Lib.hid (HI2.out.ext hb)
          clear hb HK3 f0 f1 f2 a0 a1 a2 a3 a4 a5 d0 d1 d2 d3 d4 d5 g1 g2
          obtain ⟨f0, f1, f2, a0, a1, a2, a3, a4, a5, d0, d1, d2, d3, d4, d5, g1, g2⟩ := HI3.out.fact
          by_cases h2 : m2 = 2
          · subst h2
            have HFl := Lib.hid (dflag_any b L p2 nots ia iN ic q nt hnt.out.symm (by omega) wk3 HI3.out.ds HT2.out)
            cases hfl : flg (tx (L.drop p2)) q nt with
            | none =>
              have HE := Lib.hid (parse_bad HT.out (show quest (L.length + 1) L nQy false = .error (pl (L.drop p2)) by rw [HS.out, quest_err hf H9.out (by rw [hsk.out]; exact round_flagE hm2.out hfl)]))
              have hD := Lib.hid (HFl.out.mono (R' := fun e w' => e = .returned (.agg #[.slice ia iN ic, .int .i64 q.mx, .int .i64 q.sk, .int .i64 q.od, .bool q.fi, .bool q.rv]) ∧ PD b Q w L p2 true nots (.slice ia iN ic) q w') (fun e w' hh => by unfold FlD at hh; rw [hfl] at hh; exact ⟨hh.2.1, HI3.out.par hh.1 hh.2.2⟩))
              clear hfl HFl
              go_wp2_with fail
              refine hD.out.mono ?_
              rintro e w3 ⟨rfl, hq3⟩
              have HI4 := Lib.hid hq3
              clear hq3 hD f0 f1 f2 a0 a1 a2 a3 a4 a5 d0 d1 d2 d3 d4 d5 g1 g2
              obtain ⟨f0, f1, f2, a0, a1, a2, a3, a4, a5, d0, d1, d2, d3, d4, d5, g1, g2⟩ := HI4.out.fact
              have HI5 := Lib.hid (HI4.out.setAll q rfl)
              go_upto_region 12 with fail
              generalize ((((((w3.setCell ⟨Q, 0, none⟩ (.slice ia iN ic)).setCell ⟨Q, 1, none⟩ (.int .i64 q.mx)).setCell ⟨Q, 2, none⟩ (.int .i64 q.sk)).setCell ⟨Q, 3, none⟩ (.int .i64 q.od)).setCell ⟨Q, 4, none⟩ (.bool q.fi)).setCell ⟨Q, 5, none⟩ (.bool q.rv)) = wz at HI5 ⊢
              clear HI4 f0 f1 f2 a0 a1 a2 a3 a4 a5 d0 d1 d2 d3 d4 d5 g1 g2
              obtain ⟨f0, f1, f2, a0, a1, a2, a3, a4, a5, d0, d1, d2, d3, d4, d5, g1, g2⟩ := HI5.out.fact
              obtain ⟨lv, b5, o5, c0, c1, k5, hix, e2⟩ := HI5.out.ds.fact5 HT2.out.ne
              have gB := HI5.out.ds.cell2
              have HRs := Lib.hid (HI5.out.res)
              obtain ⟨_, x0, x1, x2, x3, x4, x5⟩ := six_cells HRs.out
              have xf := bk_frozen ⟨_, HRs.out⟩
              have hn5 : b5 ≠ w.heap.size := k5.ne (show Bk _ 52 w.heap.size from ⟨_, HRs.out⟩) (by decide)
              have hnb : b ≠ w.heap.size := by omega
              have HBl := Lib.hid (HI5.out.bl)
              go_wp2_with fail
              go_region_held3 (fun u => u.cell? ⟨b, 0, none⟩ = some lv ∧ u.cell? ⟨b, 1, none⟩ = some (.int .i64 ((p2 : Nat) : Int)) ∧ u.cell? ⟨b5, o5 + 2, none⟩ = some (.int .i64 ((pl (L.drop (p2)) : Nat) : Int)))
                (first
                  | (rw [six_cellD hnb, six_cellD hnb, six_cellD hn5]; with_reducible exact ⟨c0, c1, e2⟩)
                  | exact ⟨c0, c1, e2⟩)
                (fail)
              all_goals
                go_wp2_with fail
                refine bodyPost_ret (v := .tuple #[.agg #[.slice none 0 0, .int .i64 0, .int .i64 0, .int .i64 0, .bool false, .bool false], .int .i64 ((pl (L.drop (p2)) : Nat) : Int), .int .i64 41]) ?_ rfl ?_
                rotate_left
                · refine PdP.mk (q := zQy) HE.out ?_ (QD.nil _ _) rfl rfl
                  refine Below.drew ?_
                  iterate 6 (refine Below.setCell ?_ (by simp only []; omega) _)
                  exact HBl.out
                · simp [results, Try.results24, go_sem, x0, x1, x2, x3, x4, x5]; try rfl
            | some x =>
              obtain ⟨q2, nt2⟩ := x
              have HT3 : Hid (Tl (L.drop (p2 + 1))) := Lib.hid (by rw [drop_tail]; exact HT2.out.tail (by rw [hm2.out]; decide))
              have HR := Lib.hid (show round (skipGap (L.drop p)) q nt = .ok (q2, nt2, L.drop (p2 + 1)) by rw [hsk.out, drop_tail]; exact round_flag hm2.out hfl)
              have hits : q2.its.length ≤ q.its.length := by rw [flg_its hfl]; exact Nat.le_refl _
              have hitq := Lib.hid (flg_its hfl)
              have hD := Lib.hid (HFl.out.mono (R' := fun e w' => e = .returned (.agg #[.slice ia iN ic, .int .i64 q2.mx, .int .i64 q2.sk, .int .i64 q2.od, .bool q2.fi, .bool q2.rv]) ∧ ∃ nots', PD b Q w L p2 false nots' (.slice ia iN ic) q w' ∧ nt2 = decide (nots' % 2 = 1) ∧ nots' ≤ nots + 1) (fun e w' hh => by
                unfold FlD at hh; rw [hfl] at hh
                obtain ⟨hg, he, nots', h1, h2, h3⟩ := hh
                exact ⟨he, nots', HI3.out.par hg h1, h2, h3⟩))
              clear hfl HFl
              go_wp2_with fail
              refine hD.out.mono ?_
              rintro e w3 ⟨rfl, nots2, hq3, hn2, hn3⟩
              have HI4 := Lib.hid hq3
              have Hn2 := Lib.hid hn2
              clear hq3 hn2 hD f0 f1 f2 a0 a1 a2 a3 a4 a5 d0 d1 d2 d3 d4 d5 g1 g2
              obtain ⟨f0, f1, f2, a0, a1, a2, a3, a4, a5, d0, d1, d2, d3, d4, d5, g1, g2⟩ := HI4.out.fact
              have HI5 := Lib.hid (HI4.out.setAll q2 hitq.out)
              go_upto_region 12 with fail
              generalize ((((((w3.setCell ⟨Q, 0, none⟩ (.slice ia iN ic)).setCell ⟨Q, 1, none⟩ (.int .i64 q2.mx)).setCell ⟨Q, 2, none⟩ (.int .i64 q2.sk)).setCell ⟨Q, 3, none⟩ (.int .i64 q2.od)).setCell ⟨Q, 4, none⟩ (.bool q2.fi)).setCell ⟨Q, 5, none⟩ (.bool q2.rv)) = wz at HI5 ⊢
              clear HI4 f0 f1 f2 a0 a1 a2 a3 a4 a5 d0 d1 d2 d3 d4 d5 g1 g2
              obtain ⟨f0, f1, f2, a0, a1, a2, a3, a4, a5, d0, d1, d2, d3, d4, d5, g1, g2⟩ := HI5.out.fact
              have HI6 := Lib.hid HI5.out.next
              obtain ⟨p3, hp3e⟩ : ∃ x, Hid (p2 + 1 = x) := ⟨_, Lib.hid rfl⟩
              have hp3l : p2 + 1 ≤ p3 := Nat.le_of_eq hp3e.out
              have hdl3 : (L.drop (p2 + 1)).length + 1 ≤ (L.drop p2).length := by simp only [List.length_drop]; omega
              go_upto_region 16 with fail
              generalize wz.setCell ⟨b, 1, none⟩ (.int .i64 ((p2 : Int) + 1)) = wy at HI6 ⊢
              clear HI5 f0 f1 f2 a0 a1 a2 a3 a4 a5 d0 d1 d2 d3 d4 d5 g1 g2
              rw [hp3e.out] at HI6 HT3 HR hdl3
              obtain ⟨f0, f1, f2, a0, a1, a2, a3, a4, a5, d0, d1, d2, d3, d4, d5, g1, g2⟩ := HI6.out.fact
              obtain ⟨m3, hm3⟩ : ∃ m, Hid (kd (L.drop (p3)) = m) := ⟨_, Lib.hid rfl⟩
              have hpL := Tl.lt HT3.out
              go_wp2_with fail
              have HK4 := Lib.hid (HI6.out.ds.kindB HT3.out.ne)
              rw [hm3.out] at HK4
              refine HK4.out.mono ?_
              rintro e wk4 ⟨rfl, hb⟩
              have HJ1 := Lib.hid (HI6.out.ext hb)
              clear hb HK4 f0 f1 f2 a0 a1 a2 a3 a4 a5 d0 d1 d2 d3 d4 d5 g1 g2
              obtain ⟨f0, f1, f2, a0, a1, a2, a3, a4, a5, d0, d1, d2, d3, d4, d5, g1, g2⟩ := HJ1.out.fact
              by_cases h38 : m3 = 8
              · have HG : Hid (quest (L.length + 1) L nQy false = quest (f - 1) (L.drop (p3)) (q2) (nt2)) := Lib.hid (by rw [HS.out, quest_go hf H9.out HR.out (.inl (by rw [hm3.out]; exact h38))])
                subst h38
                have HAt2 := Lib.hid HJ1.out.ds.mOf
                go_wp2_with fail
                go_roundw
                case rel => exact ⟨f - 1, p3, nots2, _, _, by omega, by omega, by omega, by omega, Lib.hid (by rw [← Hn2.out]; exact HG.out), HT3, HJ1⟩
                case measure => rw [HAt2.out, HAt.out]; simp only [Bool.false_eq_true, if_false]; omega
              · have n38 : ((m3 : Int) != 8) = true := by rw [bne_iff_ne]; omega
                go_wp2_with fail
                have HK5 := Lib.hid (HJ1.out.ds.kindB HT3.out.ne)
                rw [hm3.out] at HK5
                refine HK5.out.mono ?_
                rintro e wk5 ⟨rfl, hb⟩
                have HJ2 := Lib.hid (HJ1.out.ext hb)
                clear hb HK5 f0 f1 f2 a0 a1 a2 a3 a4 a5 d0 d1 d2 d3 d4 d5 g1 g2
                obtain ⟨f0, f1, f2, a0, a1, a2, a3, a4, a5, d0, d1, d2, d3, d4, d5, g1, g2⟩ := HJ2.out.fact
                by_cases h39 : m3 = 9
                · have HG : Hid (quest (L.length + 1) L nQy false = quest (f - 1) (L.drop (p3)) (q2) (nt2)) := Lib.hid (by rw [HS.out, quest_go hf H9.out HR.out (.inr (by rw [hm3.out]; exact h39))])
                  subst h39
                  clear h38
                  have HAt2 := Lib.hid HJ2.out.ds.mOf
                  go_wp2_with fail
                  go_roundw
                  case rel => exact ⟨f - 1, p3, nots2, _, _, by omega, by omega, by omega, by omega, Lib.hid (by rw [← Hn2.out]; exact HG.out), HT3, HJ2⟩
                  case measure => rw [HAt2.out, HAt.out]; simp only [Bool.false_eq_true, if_false]; omega
                · have n39 : ((m3 : Int) != 9) = true := by rw [bne_iff_ne]; omega
                  have HE := Lib.hid (parse_bad HT.out (show quest (L.length + 1) L nQy false = .error (pl (L.drop (p3))) by rw [HS.out, quest_bad hf H9.out HR.out (by rw [hm3.out]; omega)]))
                  clear h38 h39
                  obtain ⟨lv, b5, o5, c0, c1, k5, hix, e2⟩ := HJ2.out.ds.fact5 HT3.out.ne
                  have gB := HJ2.out.ds.cell2
                  have HRs := Lib.hid (HJ2.out.res)
                  obtain ⟨_, x0, x1, x2, x3, x4, x5⟩ := six_cells HRs.out
                  have xf := bk_frozen ⟨_, HRs.out⟩
                  have hn5 : b5 ≠ w.heap.size := k5.ne (show Bk _ 52 w.heap.size from ⟨_, HRs.out⟩) (by decide)
                  have hnb : b ≠ w.heap.size := by omega
                  have HBl := Lib.hid (HJ2.out.bl)
                  go_wp2_with fail
                  go_region_held3 (fun u => u.cell? ⟨b, 0, none⟩ = some lv ∧ u.cell? ⟨b, 1, none⟩ = some (.int .i64 ((p3 : Nat) : Int)) ∧ u.cell? ⟨b5, o5 + 2, none⟩ = some (.int .i64 ((pl (L.drop (p3)) : Nat) : Int)))
                    (first
                      | (rw [six_cellD hnb, six_cellD hnb, six_cellD hn5]; with_reducible exact ⟨c0, c1, e2⟩)
                      | exact ⟨c0, c1, e2⟩)
                    (fail)
                  all_goals
                    go_wp2_with fail
                    refine bodyPost_ret (v := .tuple #[.agg #[.slice none 0 0, .int .i64 0, .int .i64 0, .int .i64 0, .bool false, .bool false], .int .i64 ((pl (L.drop (p3)) : Nat) : Int), .int .i64 41]) ?_ rfl ?_
                    rotate_left
                    · refine PdP.mk (q := zQy) HE.out ?_ (QD.nil _ _) rfl rfl
                      refine Below.drew ?_
                      iterate 6 (refine Below.setCell ?_ (by simp only []; omega) _)
                      exact HBl.out
                    · simp [results, Try.results24, go_sem, x0, x1, x2, x3, x4, x5]; try rfl
          · have h2b : ((m2 : Int) == 2) = false := by rw [beq_eq_false_iff_ne]; omega
            have H2 : Hid (kd (L.drop p2) ≠ 2) := Lib.hid (by rw [hm2.out]; exact h2)
            clear h2
            have HIt := Lib.hid (ritem_any b L p2 nots nt hnt.out.symm wk3 HI3.out.ds HT2.out (by omega))
            have hs3 := HI3.out.bl.size
            cases hit : item nt (L.drop p2) with
            | error e0 =>
              have HE := Lib.hid (parse_bad HT.out (show quest (L.length + 1) L nQy false = .error e0 by rw [HS.out, quest_err hf H9.out (by rw [hsk.out]; exact round_itemE H2.out hit)]))
              have hD := Lib.hid ((DPost.bad HIt.out hit).mono (R' := fun e w' => ∃ (x0 : Ri) (rs : List Ri) (p' : Nat), e = .returned (.agg #[.int .i64 x0.k, .string (bstr x0.ab), .slice x0.av.1 x0.av.2.1 x0.av.2.2, .string (bstr x0.bb), .slice x0.bv.1 x0.bv.2.1 x0.bv.2.2, .bool x0.nt]) ∧ Own eRi 6 w.heap.size 98 w' (.slice ia iN ic) rs ∧ rs.length ≤ 200 ∧ PD b Q w L p' true nots (.slice ia iN ic) q w' ∧ Tl (L.drop p') ∧ pl (L.drop p') = e0) (fun e w' ⟨v, p', h1, ⟨x0, hx⟩, h3, h4, h5, h6⟩ => by
                have hg := HI3.out.par h6 h3
                obtain ⟨rs, hr1, hr2⟩ := hg.qs
                exact ⟨x0, rs, p', by rw [h1, hx]; rfl, hr1, by rw [hr2.len]; omega, hg, h4, h5⟩))
              clear hit HIt
              go_wp2_with fail
              refine hD.out.mono ?_
              rintro e w3 ⟨x0, rs, p', rfl, ho4, hrl, hq3, htl, hpl'⟩
              have HI4 := Lib.hid hq3
              have HO4 := Lib.hid ho4
              have HTe := Lib.hid htl
              have HPl := Lib.hid hpl'
              have hs4 := HI4.out.bl.size
              clear hq3 hD ho4 htl hpl' f0 f1 f2 a0 a1 a2 a3 a4 a5 d0 d1 d2 d3 d4 d5 g1 g2
              obtain ⟨f0, f1, f2, a0, a1, a2, a3, a4, a5, d0, d1, d2, d3, d4, d5, g1, g2⟩ := HI4.out.fact
              have a0A := fun o : Obj => (HI4.out.ext ((Below.refl _ _).alloc (Nat.le_refl _) o)).fact.2.2.2.1
              go_upto_region 16 with (at_builtin; go_must (refine wpList_append rfl (en := eRi) (s := 6) (base := w.heap.size) (e := 98) _ _ _ rfl _ 96 Try.underlying50 info98 rfl (by decide) len_eRi one_eRi _ _ rs [x0] (by rfl) ((HO4.out.alloc _).alloc _) (by rfl) (Sl.fresh len_eRi (by simp) rfl rfl (by simp [maxLen])) (by simp [maxLen]; omega) (by simp; omega) (by simp; omega) ?_; intro v4 w4 hown4 hgr4 hb4; obtain ⟨va, vn, vc, rfl⟩ := hown4.isSlice; have HJk := Lib.hid (HI4.out.junk HO4.out _ _ (v4 := .slice va vn vc) hgr4); obtain ⟨n4, f4⟩ := HI4.out.add4 HO4.out _ _ hgr4; clear hown4 hgr4 hb4))
              generalize w4.setCell ⟨Q, 0, none⟩ (.slice va vn vc) = wz at HJk ⊢
              clear HI4 HO4 n4 f4 a0A f0 f1 f2 a0 a1 a2 a3 a4 a5 d0 d1 d2 d3 d4 d5 g1 g2
              have HE2 := Lib.hid (show Prs.parse s = (zQy, pl (L.drop p'), 41) by rw [HPl.out]; exact HE.out)
              obtain ⟨lv, b5, o5, c0, c1, k5, hix, e2⟩ := HJk.out.2.1.fact5 HTe.out.ne
              have gB := HJk.out.2.1.cell2
              have HRs := Lib.hid (HJk.out.1)
              obtain ⟨_, x0, x1, x2, x3, x4, x5⟩ := six_cells HRs.out
              have xf := bk_frozen ⟨_, HRs.out⟩
              have hn5 : b5 ≠ w.heap.size := k5.ne (show Bk _ 52 w.heap.size from ⟨_, HRs.out⟩) (by decide)
              have hnb : b ≠ w.heap.size := by omega
              have HBl := Lib.hid (HJk.out.2.2)
              go_wp2_with fail
              go_region_held3 (fun u => u.cell? ⟨b, 0, none⟩ = some lv ∧ u.cell? ⟨b, 1, none⟩ = some (.int .i64 ((p' : Nat) : Int)) ∧ u.cell? ⟨b5, o5 + 2, none⟩ = some (.int .i64 ((pl (L.drop (p')) : Nat) : Int)))
                (first
                  | (rw [six_cellD hnb, six_cellD hnb, six_cellD hn5]; with_reducible exact ⟨c0, c1, e2⟩)
                  | exact ⟨c0, c1, e2⟩)
                (fail)
              all_goals
                go_wp2_with fail
                refine bodyPost_ret (v := .tuple #[.agg #[.slice none 0 0, .int .i64 0, .int .i64 0, .int .i64 0, .bool false, .bool false], .int .i64 ((pl (L.drop (p')) : Nat) : Int), .int .i64 41]) ?_ rfl ?_
                rotate_left
                · refine PdP.mk (q := zQy) HE2.out ?_ (QD.nil _ _) rfl rfl
                  refine Below.drew ?_
                  iterate 6 (refine Below.setCell ?_ (by simp only []; omega) _)
                  exact HBl.out
                · simp [results, Try.results24, go_sem, x0, x1, x2, x3, x4, x5]; try rfl
            | ok x =>
              obtain ⟨x, r⟩ := x
              have hil := item_len hit
              have HR := Lib.hid (show round (skipGap (L.drop p)) q nt = .ok ({ q with its := q.its ++ [x] }, nt, r) by rw [hsk.out]; exact round_item H2.out hit)
              have hD := Lib.hid ((DPost.ok HIt.out hit).mono (R' := fun e w' => ∃ (x0 : Ri) (rs : List Ri) (p' : Nat), e = .returned (.agg #[.int .i64 x0.k, .string (bstr x0.ab), .slice x0.av.1 x0.av.2.1 x0.av.2.2, .string (bstr x0.bb), .slice x0.bv.1 x0.bv.2.1 x0.bv.2.2, .bool x0.nt]) ∧ Own eRi 6 w.heap.size 98 w' (.slice ia iN ic) rs ∧ rs.length ≤ 200 ∧ PD b Q w L p' false nots (.slice ia iN ic) q w' ∧ Tl r ∧ L.drop p' = r ∧ ItOD w.heap.size w' x0 x ∧ ItsD w.heap.size w' rs q.its) (fun e w' ⟨v, p', h1, ⟨a2, n2, c2, a3, n3, c3, hv, ho2, ho3⟩, h3, h4, h5, h6⟩ => by
                have hg := HI3.out.par h6 h3
                obtain ⟨rs, hr1, hr2⟩ := hg.qs
                exact ⟨⟨x.k, x.a.b, (a2, n2, c2), x.b.b, (a3, n3, c3), x.nt⟩, rs, p', by rw [h1, hv], hr1, by rw [hr2.len]; omega, hg, h5, h4, ⟨rfl, rfl, ho2.mono hs3, rfl, ho3.mono hs3, rfl⟩, hr2⟩))
              clear hit HIt
              go_wp2_with fail
              refine hD.out.mono ?_
              rintro e w3 ⟨x0, rs, p', rfl, ho4, hrl, hq3, htl, hdr, hi3, his3⟩
              have HI4 := Lib.hid hq3
              have HO4 := Lib.hid ho4
              have HTe := Lib.hid htl
              have HDr := Lib.hid hdr
              have HX3 := Lib.hid hi3
              have HS3 := Lib.hid his3
              have hs4 := HI4.out.bl.size
              clear hq3 hD ho4 htl hdr hi3 his3 f0 f1 f2 a0 a1 a2 a3 a4 a5 d0 d1 d2 d3 d4 d5 g1 g2
              obtain ⟨f0, f1, f2, a0, a1, a2, a3, a4, a5, d0, d1, d2, d3, d4, d5, g1, g2⟩ := HI4.out.fact
              have a0A := fun o : Obj => (HI4.out.ext ((Below.refl _ _).alloc (Nat.le_refl _) o)).fact.2.2.2.1
              go_upto_region 16 with (at_builtin; go_must (refine wpList_append rfl (en := eRi) (s := 6) (base := w.heap.size) (e := 98) _ _ _ rfl _ 96 Try.underlying50 info98 rfl (by decide) len_eRi one_eRi _ _ rs [x0] (by rfl) ((HO4.out.alloc _).alloc _) (by rfl) (Sl.fresh len_eRi (by simp) rfl rfl (by simp [maxLen])) (by simp [maxLen]; omega) (by simp; omega) (by simp; omega) ?_; intro v4 w4 hown4 hgr4 hb4; obtain ⟨va, vn, vc, rfl⟩ := hown4.isSlice; have HJk := Lib.hid (HI4.out.add HO4.out HS3.out _ _ HX3.out hown4 hgr4); obtain ⟨n4, f4⟩ := HI4.out.add4 HO4.out _ _ hgr4; clear hown4 hgr4 hb4))
              generalize w4.setCell ⟨Q, 0, none⟩ (.slice va vn vc) = wz at HJk ⊢
              clear HI4 HO4 n4 f4 a0A HX3 HS3 f0 f1 f2 a0 a1 a2 a3 a4 a5 d0 d1 d2 d3 d4 d5 g1 g2
              have HT3 : Hid (Tl (L.drop p')) := Lib.hid (by rw [HDr.out]; exact HTe.out)
              have HRd := HR
              have hrl3 : (L.drop p').length + 1 ≤ (L.drop p2).length := by rw [HDr.out]; exact hil
              rw [← HDr.out] at HR
              clear HRd
              have hp3 := Tl.lt HT3.out
              have hpp3 : p2 + 1 ≤ p' := by simp only [List.length_drop] at hrl3; omega
              obtain ⟨f0, f1, f2, a0, a1, a2, a3, a4, a5, d0, d1, d2, d3, d4, d5, g1, g2⟩ := HJk.out.fact
              obtain ⟨m3, hm3⟩ : ∃ m, Hid (kd (L.drop (p')) = m) := ⟨_, Lib.hid rfl⟩
              have hpL := Tl.lt HT3.out
              go_wp2_with fail
              have HK6 := Lib.hid (HJk.out.ds.kindB HT3.out.ne)
              rw [hm3.out] at HK6
              refine HK6.out.mono ?_
              rintro e wk6 ⟨rfl, hb⟩
              have HJ1 := Lib.hid (HJk.out.ext hb)
              clear hb HK6 f0 f1 f2 a0 a1 a2 a3 a4 a5 d0 d1 d2 d3 d4 d5 g1 g2
              obtain ⟨f0, f1, f2, a0, a1, a2, a3, a4, a5, d0, d1, d2, d3, d4, d5, g1, g2⟩ := HJ1.out.fact
              by_cases h38 : m3 = 8
              · have HG : Hid (quest (L.length + 1) L nQy false = quest (f - 1) (L.drop (p')) ({ q with its := q.its ++ [x] }) (nt)) := Lib.hid (by rw [HS.out, quest_go hf H9.out HR.out (.inl (by rw [hm3.out]; exact h38))])
                subst h38
                have HAt2 := Lib.hid HJ1.out.ds.mOf
                go_wp2_with fail
                go_roundw
                case rel => exact ⟨f - 1, p', nots, _, _, by omega, by omega, by simp only [List.length_append, List.length_singleton]; omega, by omega, Lib.hid (by rw [hnt.out]; exact HG.out), HT3, HJ1⟩
                case measure => rw [HAt2.out, HAt.out]; simp only [Bool.false_eq_true, if_false]; omega
              · have n38 : ((m3 : Int) != 8) = true := by rw [bne_iff_ne]; omega
                go_wp2_with fail
                have HK7 := Lib.hid (HJ1.out.ds.kindB HT3.out.ne)
                rw [hm3.out] at HK7
                refine HK7.out.mono ?_
                rintro e wk7 ⟨rfl, hb⟩
                have HJ2 := Lib.hid (HJ1.out.ext hb)
                clear hb HK7 f0 f1 f2 a0 a1 a2 a3 a4 a5 d0 d1 d2 d3 d4 d5 g1 g2
                obtain ⟨f0, f1, f2, a0, a1, a2, a3, a4, a5, d0, d1, d2, d3, d4, d5, g1, g2⟩ := HJ2.out.fact
                by_cases h39 : m3 = 9
                · have HG : Hid (quest (L.length + 1) L nQy false = quest (f - 1) (L.drop (p')) ({ q with its := q.its ++ [x] }) (nt)) := Lib.hid (by rw [HS.out, quest_go hf H9.out HR.out (.inr (by rw [hm3.out]; exact h39))])
                  subst h39
                  clear h38
                  have HAt2 := Lib.hid HJ2.out.ds.mOf
                  go_wp2_with fail
                  go_roundw
                  case rel => exact ⟨f - 1, p', nots, _, _, by omega, by omega, by simp only [List.length_append, List.length_singleton]; omega, by omega, Lib.hid (by rw [hnt.out]; exact HG.out), HT3, HJ2⟩
                  case measure => rw [HAt2.out, HAt.out]; simp only [Bool.false_eq_true, if_false]; omega
                · have n39 : ((m3 : Int) != 9) = true := by rw [bne_iff_ne]; omega
                  have HE := Lib.hid (parse_bad HT.out (show quest (L.length + 1) L nQy false = .error (pl (L.drop (p'))) by rw [HS.out, quest_bad hf H9.out HR.out (by rw [hm3.out]; omega)]))
                  clear h38 h39
                  obtain ⟨lv, b5, o5, c0, c1, k5, hix, e2⟩ := HJ2.out.ds.fact5 HT3.out.ne
                  have gB := HJ2.out.ds.cell2
                  have HRs := Lib.hid (HJ2.out.res)
                  obtain ⟨_, x0, x1, x2, x3, x4, x5⟩ := six_cells HRs.out
                  have xf := bk_frozen ⟨_, HRs.out⟩
                  have hn5 : b5 ≠ w.heap.size := k5.ne (show Bk _ 52 w.heap.size from ⟨_, HRs.out⟩) (by decide)
                  have hnb : b ≠ w.heap.size := by omega
                  have HBl := Lib.hid (HJ2.out.bl)
                  go_wp2_with fail
                  go_region_held3 (fun u => u.cell? ⟨b, 0, none⟩ = some lv ∧ u.cell? ⟨b, 1, none⟩ = some (.int .i64 ((p' : Nat) : Int)) ∧ u.cell? ⟨b5, o5 + 2, none⟩ = some (.int .i64 ((pl (L.drop (p')) : Nat) : Int)))
                    (first
                      | (rw [six_cellD hnb, six_cellD hnb, six_cellD hn5]; with_reducible exact ⟨c0, c1, e2⟩)
                      | exact ⟨c0, c1, e2⟩)
                    (fail)
                  all_goals
                    go_wp2_with fail
                    refine bodyPost_ret (v := .tuple #[.agg #[.slice none 0 0, .int .i64 0, .int .i64 0, .int .i64 0, .bool false, .bool false], .int .i64 ((pl (L.drop (p')) : Nat) : Int), .int .i64 41]) ?_ rfl ?_
                    rotate_left
                    · refine PdP.mk (q := zQy) HE.out ?_ (QD.nil _ _) rfl rfl
                      refine Below.drew ?_
                      iterate 6 (refine Below.setCell ?_ (by simp only []; omega) _)
                      exact HBl.out
                    · simp [results, Try.results24, go_sem, x0, x1, x2, x3, x4, x5]; try rfl
end Go.Proofs.Ytolahnnkdpbdfaa
