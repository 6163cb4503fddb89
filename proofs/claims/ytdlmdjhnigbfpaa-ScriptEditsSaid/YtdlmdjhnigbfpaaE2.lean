/-
  Walks of layer 21: Apply, the program's. The edits' lines in are bounded.
-/
import Derived.Test.YtdlmdjhnigbfpaaE1
import Derived.Test.YtdlmdjhnigbfpaaP6
import Derived.Test.YtdlmdjhnigbfpaaStr
import Derived.Deep.DeepCutAuto
import Derived.IntWalk
namespace Go.Proofs.Ytdlmdjhnigbfpaa
open Go.RowKit Go.Sl Go.Scr

/-- a slice's value -/
structure SlV where
  a : Option Addr
  n : Nat
  c : Nat
def SlV.val (x : SlV) : Value := .slice x.a x.n x.c
def eEd (x : Int × SlV × SlV) : List Value := [.int .i64 x.1, x.2.1.val, x.2.2.val]
theorem len_eEd (x : Int × SlV × SlV) : (eEd x).length = 3 := rfl
theorem one_eEd (x : Int × SlV × SlV) : ∀ u ∈ eEd x, u.oneCell' = true := by simp [eEd, Value.oneCell', SlV.val]

/-- a slice of edits -/
structure Eds (w : World) (v : Value) (es : List (Int × SlV × SlV)) (xs : List (Ed ByteArray)) : Prop where
  outer : Sl eEd 3 w v es
  len : es.length = xs.length
  wf : ∀ x ∈ xs, x.1 ≤ 9223372036854775807
  inner : ∀ k (h : k < es.length) (h' : k < xs.length), es[k].1 = xs[k].1 ∧ Sl eStr 1 w es[k].2.1.val xs[k].2.1 ∧ Sl eStr 1 w es[k].2.2.val xs[k].2.2
theorem Eds.ext {w w' : World} {v : Value} {es : List (Int × SlV × SlV)} {xs : List (Ed ByteArray)} (h : Eds w v es xs) (hb : Below w.heap.size w w') : Eds w' v es xs :=
  ⟨h.outer.ext hb, h.len, h.wf, fun k h1 h2 => ⟨(h.inner k h1 h2).1, (h.inner k h1 h2).2.1.ext hb, (h.inner k h1 h2).2.2.ext hb⟩⟩

theorem cells52 : Try.prog.cellsOf 52 = 3 := by kernel_rfl
theorem some52 : (Try.prog.info? 52).isSome = true := by kernel_rfl

/-- an edit's cells, and its lines -/
theorem Eds.at {w wr : World} {v : Value} {es : List (Int × SlV × SlV)} {xs : List (Ed ByteArray)} (h : Eds w v es xs) (hb : Below w.heap.size w wr) {t e : TypeId} (ht : Try.prog.underlying t = some (.slice e)) (hc : Try.prog.cellsOf e = 3) (hi : (Try.prog.info? e).isSome = true) {k : Nat} (hk : k < xs.length) :
    ∃ b o, b < w.heap.size ∧ (∀ (ik : IntKind) (u : World), (Instr.indexAt t v (.int ik (k : Int))).run Try.prog u = .ok (.pointer (some ⟨b, o, none⟩)) u) ∧
      ∃ (A : Int) (lo li : List ByteArray) (a1 a2 : Option Addr) (n1 c1 n2 c2 : Nat), Hid (xs[k] = (A, lo, li)) ∧ Hid (lo.length = n1) ∧ Hid (li.length = n2) ∧ wr.cell? ⟨b, o, none⟩ = some (.int .i64 A) ∧ wr.cell? ⟨b, o + 1, none⟩ = some (.slice a1 n1 c1) ∧ wr.cell? ⟨b, o + 2, none⟩ = some (.slice a2 n2 c2) ∧
        Sl eStr 1 w (.slice a1 n1 c1) lo ∧ Sl eStr 1 w (.slice a2 n2 c2) li ∧ n1 ≤ 9223372036854775807 ∧ n2 ≤ 9223372036854775807 ∧ A ≤ 9223372036854775807 := by
  have hk' : k < es.length := by rw [h.len]; exact hk
  obtain ⟨b, o, h1, h2, h3⟩ := h.outer.atB hb ht hc hi hk'
  obtain ⟨i1, i2, i3⟩ := h.inner k hk' hk
  rcases hes : es[k] with ⟨A, s1, s2⟩
  rw [hes] at h3 i1 i2 i3
  have hwf := h.wf _ (List.getElem_mem hk)
  rcases hxs : xs[k] with ⟨A', lo, li⟩
  rw [hxs] at i1 i2 i3 hwf
  obtain rfl : A = A' := i1
  have m1 := i2.len_le
  have m2 := i3.len_le
  obtain ⟨q1, k1, hv1, _⟩ := i2.shp
  obtain ⟨q2, k2, hv2, _⟩ := i3.shp
  simp only at hv1 hv2 m1 m2
  simp only [hv1] at i2
  simp only [hv2] at i3
  refine ⟨b, o, h1, h2, A, lo, li, q1, q2, _, k1, _, k2, Lib.hid rfl, Lib.hid rfl, Lib.hid rfl, ?_, ?_, ?_, i2, i3, m1, m2, hwf⟩
  · have := h3 0 (by omega); simpa [eEd] using this
  · have := h3 1 (by omega); simpa [eEd, hv1] using this
  · have := h3 2 (by omega); simpa [eEd, hv2] using this

/-- what Apply returns -/
def ApplyPost (base : Nat) (w : World) (o : Except Int (List ByteArray)) (e : Ending) (w' : World) : Prop :=
  Below w.heap.size w w' ∧ match o with
  | .error c => e = .returned (.tuple #[.slice none 0 0, .int .i64 c])
  | .ok l => ∃ r, e = .returned (.tuple #[r, .int .i64 0]) ∧ Own eStr 1 base 9 w' r l
theorem ApplyPost.err {base : Nat} {w w' : World} {o : Except Int (List ByteArray)} {c : Int} (ho : o = .error c) (hb : Below w.heap.size w w') : ApplyPost base w o (.returned (.tuple #[.slice none 0 0, .int .i64 c])) w' := by
  subst ho; exact ⟨hb, rfl⟩
theorem ApplyPost.good {base : Nat} {w w' : World} {o : Except Int (List ByteArray)} {l : List ByteArray} {r : Value} (ho : o = .ok l) (hb : Below w.heap.size w w') (h : Own eStr 1 base 9 w' r l) : ApplyPost base w o (.returned (.tuple #[r, .int .i64 0])) w' := by
  subst ho; exact ⟨hb, _, rfl, h⟩

theorem own_drewN {α : Type} {en : α → List Value} {s base : Nat} {e : TypeId} {w : World} {v : Value} {l : List α} (h : Own en s base e w v l) (n : Nat) : Own en s base e (w.drewN n) v l := h
theorem strs_equal_of (t : Bool) (v1 v2 : Value) (l1 l2 : List ByteArray) (w : World) (h1 : Sl eStr 1 w v1 l1) (h2 : Sl eStr 1 w v2 l2) (ht : decide (l1 = l2) = t) :
    Calls Try.prog 30 #[v1, v2] w fun e w' => e = .returned (.bool t) ∧ ∃ n, w' = w.drewN n := by
  subst ht; exact strs_equal v1 v2 l1 l2 w h1 h2

theorem three_cells {w : World} {g : Nat} {a b c : Value} {e : TypeId} (h : w.heap[g]? = some (.cells #[a, b, c] e (0, 0))) :
    g < w.heap.size ∧ w.cell? ⟨g, 0, none⟩ = some a ∧ w.cell? ⟨g, 1, none⟩ = some b ∧ w.cell? ⟨g, 2, none⟩ = some c :=
  ⟨(Array.getElem?_eq_some_iff.1 h).1, by simp [World.cell?, h], by simp [World.cell?, h], by simp [World.cell?, h]⟩
theorem heap_new_drewN (w : World) (o : Obj) (n : Nat) : ((w.alloc o).drewN n).heap[w.heap.size]? = some o := heap_alloc_new w o

set_option maxRecDepth 100000 in
set_option maxHeartbeats 2000000 in
theorem apply_any (va vl : Value) (a : List ByteArray) (es : List (Int × SlV × SlV)) (xs : List (Ed ByteArray)) (w : World) (ha : Sl eStr 1 w va a) (hl : Eds w vl es xs) (hsum : a.length + insum xs ≤ 4000000) :
    Calls Try.prog 20 #[va, vl] w (ApplyPost w.heap.size w (applyF a xs)) := by
  have e1 := ha.run_len (P := Try.prog) Try.underlying47
  have e2 := hl.outer.run_len (P := Try.prog) Try.underlying48
  have hmax := hl.outer.len_le
  rw [hl.len] at e2 hmax
  go_enter Try.func20, Try.ntmps20
  go_wp2_with fail
  go_loopw [14] (fun i wr => ∃ (k : Nat), k ≤ xs.length ∧ i = .int .i64 k ∧ Hid (ordF 0 (xs.take k) = true) ∧ Hid (Below w.heap.size w wr)) (fun i _ => xs.length - (intOf i).toNat)
  case atStart => exact ⟨0, by omega, rfl, Lib.hid rfl, Lib.hid (Below.refl _ _)⟩
  case round =>
    obtain ⟨k, hk, rfl, HT, HB⟩ := hrel
    by_cases hlt : k < xs.length
    · obtain ⟨b0, o0, hb0, hix, A, lo, li, a1, a2, n1, c1, n2, c2, HX, HL1, HL2, q0, q1, q2, _, _, _, _, hAm⟩ := hl.at HB.out Try.underlying48 cells52 some52 hlt
      obtain ⟨E, HE⟩ : ∃ E, Hid (endF 0 (xs.take k) = E) := ⟨_, Lib.hid rfl⟩
      have HErr : Hid (A < E → applyF a xs = .error 18) := Lib.hid fun h => by rw [applyF, ordF_bad 0 xs k hlt (by rw [HE.out, HX.out]; exact h)]; rfl
      have HSn : Hid (¬ A < E → ordF 0 (xs.take (k + 1)) = true) := Lib.hid fun h => by rw [ordF_snoc 0 xs k hlt, HT.out, HE.out, HX.out]; simpa using h
      have hE0 : 0 ≤ E := by rw [← HE.out]; exact endF_le 0 _ (Int.le_refl _) HT.out
      by_cases hneg : A < 0
      · go_wp2_with fail
        go_quiet (fail)
        go_wp2_with fail
        go_ret2
        exact ApplyPost.err (HErr.out (by omega)) (below_drewN (HB.out.alloc HB.out.size _) _)
      · have hd0 : decide (A < 0) = false := by simpa using hneg
        by_cases h0 : k = 0
        · have hE : E = 0 := by rw [← HE.out, h0]; rfl
          have hk0 : decide (0 < k) = false := by simp; omega
          have hk1 : decide ((0 : Int) < k) = false := by simp; omega
          have HE2 := Lib.hid hE
          clear hE h0
          go_wp2_with fail
          go_quiet (fail)
          go_wp2_with fail
          go_roundw
          case rel => exact ⟨k + 1, by omega, by go_num, Lib.hid (HSn.out (by have := HE2.out; omega)), Lib.hid (below_drewN (HB.out.alloc HB.out.size _) _)⟩
          case measure => simp [intOf]; omega
        · obtain ⟨p, hp⟩ : ∃ p, k = p + 1 := ⟨k - 1, by omega⟩
          have hpl : p < xs.length := by omega
          obtain ⟨b1, o1, hb1, hix1, A1, lo1, li1, x1, x2, m1, y1, m2, y2, HX1, HM1, HM2, d0, d1, d2, _, _, hm1, _, hA1⟩ := hl.at HB.out Try.underlying48 cells52 some52 hpl
          have hA1n : 0 ≤ A1 := by have := ord_at HT.out (show p < k by omega) hpl; rwa [HX1.out] at this
          have HEq : Hid (E = A1 + m1) := Lib.hid (by rw [← HE.out, hp, List.take_succ_eq_append_getElem hpl, endF_snoc, HX1.out, ← HM1.out])
          have hk0 : decide (0 < k) = true := by simp; omega
          have hk1 : decide ((0 : Int) < k) = true := by simp; omega
          rw [show (p : Int) = (k : Int) - 1 by omega] at hix1
          clear hp h0
          have hne : b1 < wr.heap.size := by have := HB.out.size; omega
          by_cases h1 : A < A1
          · have hd1 : decide (A < A1) = true := by simpa using h1
            have hw1 : IntKind.i64.wrap ((k : Int) - 1) = (k : Int) - 1 := IntWalk.i64_in _ (by omega)
            go_wp2_with fail
            go_quiet (fail)
            clear hw1
            go_wp2_with fail
            go_ret2
            exact ApplyPost.err (HErr.out (by have := HEq.out; omega)) (below_drewN (HB.out.alloc HB.out.size _) _)
          · have hd1 : decide (A < A1) = false := by simpa using h1
            by_cases h2 : A - A1 < m1
            · have hd2 : decide (A - A1 < (m1 : Int)) = true := by simpa using h2
              have hw1 : IntKind.i64.wrap ((k : Int) - 1) = (k : Int) - 1 := IntWalk.i64_in _ (by omega)
              have hw2 : IntKind.i64.wrap (A - A1) = A - A1 := IntWalk.i64_in _ (by omega)
              go_wp2_with fail
              go_quiet (fail)
              clear hw1 hw2
              go_wp2_with fail
              go_ret2
              exact ApplyPost.err (HErr.out (by have := HEq.out; omega)) (below_drewN (HB.out.alloc HB.out.size _) _)
            · have hd2 : decide (A - A1 < (m1 : Int)) = false := by simpa using h2
              have hw1 : IntKind.i64.wrap ((k : Int) - 1) = (k : Int) - 1 := IntWalk.i64_in _ (by omega)
              have hw2 : IntKind.i64.wrap (A - A1) = A - A1 := IntWalk.i64_in _ (by omega)
              go_wp2_with fail
              go_quiet (fail)
              clear hw1 hw2
              go_wp2_with fail
              go_roundw
              case rel => exact ⟨k + 1, by omega, by go_num, Lib.hid (HSn.out (by have := HEq.out; omega)), Lib.hid (below_drewN (HB.out.alloc HB.out.size _) _)⟩
              case measure => simp [intOf]; omega
    · obtain rfl : k = xs.length := by omega
      have HOrd := HT.out
      rw [List.take_length] at HOrd
      have HAp1 : Hid (doE a 0 [] xs = none → applyF a xs = .error 2) := Lib.hid fun h => by simp [applyF, HOrd, h]
      have HAp2 : Hid (∀ r, doE a 0 [] xs = some r → applyF a xs = .ok r) := Lib.hid fun r h => by simp [applyF, HOrd, h]
      have HOR := Lib.hid HOrd
      clear HOrd HT
      go_wp2_with fail
      obtain ⟨wo, rfl⟩ : ∃ wo : World, wo = wr := ⟨_, rfl⟩
      go_loopw [8, 9, 59] (fun o q i wr => ∃ (k p : Nat) (out : List ByteArray), k ≤ xs.length ∧ i = .int .i64 k ∧ q = .int .i64 p ∧ p ≤ a.length ∧ out.length ≤ p + insum (xs.take k) ∧ Hid (endF 0 (xs.take k) = p) ∧
        Hid (doE a 0 [] xs = doE a p out (xs.drop k)) ∧ Hid (Own eStr 1 w.heap.size 9 wr o out) ∧ Hid (Below w.heap.size w wr) ∧ w.heap.size ≤ wr.heap.size) (fun _ _ i _ => xs.length - (intOf i).toNat)
      case atStart => exact ⟨0, 0, [], by omega, rfl, rfl, by omega, by simp, Lib.hid rfl, Lib.hid rfl, Lib.hid (Own.nil _ _ _ _ _), HB, HB.out.size⟩
      case round =>
        clear HB
        obtain ⟨k, p, out, hk, rfl, rfl, hp, hout, HEnd, HDo, HO, HB, hsz⟩ := hrel
        by_cases hlt : k < xs.length
        · obtain ⟨b0, o0, hb0, hix, A, lo, li, a1, a2, n1, c1, n2, c2, HX, HL1, HL2, q0, q1, q2, hs1, hs2, hm1, hm2, hAm⟩ := hl.at HB.out Try.underlying48 cells52 some52 hlt
          have hAp : (p : Int) ≤ A := by
            have h1 := HOR.out
            by_cases hh : A < p
            · rw [ordF_bad 0 xs k hlt (by rw [HEnd.out, HX.out]; exact hh)] at h1; cases h1
            · omega
          obtain ⟨q, rfl⟩ := Int.eq_ofNat_of_zero_le (show 0 ≤ A by omega)
          have HBad : Hid (unfit a (q, lo, li) = true → applyF a xs = .error 2) := Lib.hid fun h => by
            exact HAp1.out (by rw [HDo.out, drop_at xs hlt, HX.out, doE, if_pos h])
          have HSi := Lib.hid (And.intro hs1 hs2)
          have HBe : Hid (∀ X, Below w.heap.size w (wr.alloc X)) := Lib.hid fun X => HB.out.alloc hsz X
          clear hs1 hs2
          by_cases h1 : (a.length : Int) < q
          · have hd1 : decide ((a.length : Int) < q) = true := by simpa using h1
            have hd1' : decide (a.length < q) = true := by simp; omega
            go_wp2_with fail
            go_quiet (fail)
            go_wp2_with fail
            go_ret2
            exact ApplyPost.err (HBad.out (by unfold unfit; exact decide_eq_true (.inl h1))) (below_drewN (HBe.out _) _)
          · have hd1 : decide ((a.length : Int) < q) = false := by simpa using h1
            have hd1' : decide (a.length < q) = false := by simp; omega
            by_cases h2 : (a.length : Int) - q < n1
            · have hd2 : decide ((a.length : Int) - q < n1) = true := by simpa using h2
              have hw1 : IntKind.i64.wrap ((a.length : Int) - q) = (a.length : Int) - q := IntWalk.i64_in _ (by omega)
              go_wp2_with fail
              go_quiet (fail)
              clear hw1
              go_wp2_with fail
              go_ret2
              exact ApplyPost.err (HBad.out (by unfold unfit; exact decide_eq_true (.inr (.inl (by rw [HL1.out]; exact h2))))) (below_drewN (HBe.out _) _)
            · have hd2 : decide ((a.length : Int) - q < n1) = false := by simpa using h2
              obtain ⟨v1, hv1, ⟨va1, vn1, vc1, hve1⟩, HS1⟩ := ha.sub (P := Try.prog) Try.underlying47 elem47 cells9 some9 (lo := q) (hi' := q + n1) (x := (q : Int)) (y := (q : Int) + n1) rfl (by omega) (by omega) (by omega)
              rw [show q + n1 - q = n1 by omega] at HS1
              obtain ⟨v2, hv2, ⟨va2, vn2, vc2, hve2⟩, HS2⟩ := ha.sub (P := Try.prog) Try.underlying47 elem47 cells9 some9 (lo := p) (hi' := q) (x := (p : Int)) (y := (q : Int)) rfl rfl (by omega) (by omega)
              have HS1 := Lib.hid HS1
              have HS2 := Lib.hid HS2
              clear hve1 hve2
              by_cases h3 : (a.drop q).take n1 = lo
              · have ht : decide ((a.drop q).take n1 = lo) = true := by simpa using h3
                have HT3 := Lib.hid ht
                have H3 := Lib.hid h3
                have hw1 : IntKind.i64.wrap ((a.length : Int) - q) = (a.length : Int) - q := IntWalk.i64_in _ (by omega)
                have hw2 : IntKind.i64.wrap ((q : Int) + n1) = (q : Int) + n1 := IntWalk.i64_in _ (by omega)
                clear ht h3
                go_wp2_with fail
                go_quiet ((go_at_call 30; exact Calls.quiet_of (strs_equal_of true _ _ _ _ _ (HS1.out.ext (below_drewN (HBe.out _) _)) (HSi.out.1.ext (below_drewN (HBe.out _) _)) HT3.out)))
                clear hw1 hw2
                have HBx := Lib.hid (below_drewN (HBe.out (.cells #[.int .i64 (q : Int), .slice a1 n1 c1, .slice a2 n2 c2] 52)) nq)
                have HOx := Lib.hid (own_drewN (HO.out.alloc (.cells #[.int .i64 (q : Int), .slice a1 n1 c1, .slice a2 n2 c2] 52)) nq)
                have hbl := insum_snoc xs k hlt
                have hbt := insum_take xs (k + 1)
                rw [hbl, HX.out] at hbt
                simp only [HL2.out] at hbt
                have HBl := Lib.hid hbl
                clear hbl
                obtain ⟨sub, HSub⟩ : ∃ l, Hid ((a.drop p).take (q - p) = l) := ⟨_, Lib.hid rfl⟩
                have hsub : sub.length = q - p := by rw [← HSub.out]; simp; omega
                have HSl := Lib.hid hsub
                have hsub2 : sub.length ≤ q - p := by omega
                have hli : li.length ≤ n2 := by rw [HL2.out]; omega
                clear hsub
                have HS2' : Hid (Sl eStr 1 w v2 sub) := Lib.hid (HSub.out ▸ HS2.out)
                clear HS2
                have HXb := Lib.hid (heap_new_drewN wr (.cells #[.int .i64 (q : Int), .slice a1 n1 c1, .slice a2 n2 c2] 52) nq)
                go_wp2_with (first
                  | (at_builtin; have _g := HO1.out; go_must (refine wpList_append rfl _ _ _ rfl (.string .empty) 16 Try.underlying47 info9 rfl (by omega) len_eStr one_eStr _ _ (out ++ sub) li (by rfl) HO1.out (by rfl) (HSi.out.2.ext HB1.out) (by simp only [maxLen, List.length_append]; omega) (by simp only [List.length_append]; omega) HB1.out.size ?_; intro w3 w4 hown2 hgr2 hb2; have HO2 := Lib.hid hown2; have HB2 := Lib.hid (HB1.out.trans hb2); have HXb2 := Lib.hid (grown_heap hgr2 HXb.out (HO1.out.ne_elem HXb.out (by decide))); obtain ⟨_, y0, y1, y2⟩ := three_cells HXb2.out; clear hown2 hb2 hgr2))
                  | (at_builtin; go_must (refine wpList_append rfl _ _ _ rfl (.string .empty) 16 Try.underlying47 info9 rfl (by omega) len_eStr one_eStr _ _ out sub (by rfl) HOx.out (by rfl) (HS2'.out.ext HBx.out) (by simp only [maxLen]; omega) (by omega) HBx.out.size ?_; intro w1 w2 hown1 hgr1 hb1; have HO1 := Lib.hid hown1; have HB1 := Lib.hid (HBx.out.trans hb1); have HXb := Lib.hid (grown_heap hgr1 HXb.out (HOx.out.ne_elem HXb.out (by decide))); obtain ⟨_, y0, y1, y2⟩ := three_cells HXb.out; clear hown1 hb1 hgr1)))
                go_roundw
                case rel =>
                  have hfit : unfit a ((q : Int), lo, li) = false := by
                    unfold unfit
                    simp only [HL1.out]
                    refine decide_eq_false ?_
                    rintro (e | e | e)
                    · omega
                    · omega
                    · exact e (by simpa using H3.out)
                  have hsl := HSl.out
                  refine ⟨k + 1, q + n1, _, by omega, by go_num, by go_num, by omega, ?_, Lib.hid ?_, Lib.hid ?_, HO2, HB2, HB2.out.size⟩
                  · rw [HBl.out, HX.out]; simp only [List.length_append, HL2.out]; omega
                  · rw [List.take_succ_eq_append_getElem hlt, endF_snoc, HX.out]; simp only [HL1.out]; omega
                  · rw [HDo.out, drop_at xs hlt, HX.out, doE, if_neg (by rw [hfit]; simp)]
                    simp only [HL1.out, Int.toNat_natCast, HSub.out]
                case measure => simp [intOf]; omega
              · have ht : decide ((a.drop q).take n1 = lo) = false := by simpa using h3
                have HT3 := Lib.hid ht
                have H3 := Lib.hid h3
                have hw1 : IntKind.i64.wrap ((a.length : Int) - q) = (a.length : Int) - q := IntWalk.i64_in _ (by omega)
                have hw2 : IntKind.i64.wrap ((q : Int) + n1) = (q : Int) + n1 := IntWalk.i64_in _ (by omega)
                clear ht h3
                go_wp2_with fail
                go_quiet ((go_at_call 30; exact Calls.quiet_of (strs_equal_of false _ _ _ _ _ (HS1.out.ext (below_drewN (HBe.out _) _)) (HSi.out.1.ext (below_drewN (HBe.out _) _)) HT3.out)))
                clear hw1 hw2
                go_wp2_with fail
                go_ret2
                exact ApplyPost.err (HBad.out (by unfold unfit; exact decide_eq_true (.inr (.inr (by rw [HL1.out]; exact H3.out))))) (below_drewN (HBe.out _) _)
        · obtain rfl : k = xs.length := by omega
          obtain ⟨v2, hv2, ⟨va2, vn2, vc2, hve2⟩, HS2⟩ := ha.from (P := Try.prog) Try.underlying47 elem47 cells9 some9 (lo := p) (by omega)
          have HS2 := Lib.hid HS2
          clear hve2
          rw [List.take_length] at hout
          have HFin : Hid (applyF a xs = .ok (out ++ a.drop p)) := Lib.hid (HAp2.out _ (by rw [HDo.out, List.drop_eq_nil_of_le (Nat.le_refl _), doE]))
          have hdl : (a.drop p).length ≤ a.length - p := by simp
          go_wp2_with (at_builtin; go_must (refine wpList_append rfl _ _ _ rfl (.string .empty) 16 Try.underlying47 info9 rfl (by omega) len_eStr one_eStr _ _ out (a.drop p) (by rfl) HO.out (by rfl) (HS2.out.ext HB.out) (by simp only [maxLen]; omega) (by omega) HB.out.size ?_; intro w1 w2 hown1 hgr1 hb1; have HO1 := Lib.hid hown1; have HB1 := Lib.hid (HB.out.trans hb1); clear hown1 hb1 hgr1))
          go_ret2
          exact ApplyPost.good HFin.out HB1.out HO1.out
end Go.Proofs.Ytdlmdjhnigbfpaa
