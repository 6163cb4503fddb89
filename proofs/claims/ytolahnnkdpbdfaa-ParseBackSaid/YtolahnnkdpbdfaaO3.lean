/-
  A question as an argument, opened. No condition.
-/
import Derived.Test.YtolahnnkdpbdfaaO1
import Derived.Test.YtolahnnkdpbdfaaGI
namespace Go.Proofs.Ytolahnnkdpbdfaa
open Go.RowKit Go.ChangeShapes Go.WideShapes Go.ChangeAt Go.Deep Go.Joins Go.Sl Go.Prs
section
variable {H : Type} {enc : TypeId × Value → H} {P : Program} {w : World} {base : Nat} {spare : Nat → Bool} {held : Bool}
theorem array6 {α : Type} {cs : Array α} (h : cs.size = 6) : ∃ c0 c1 c2 c3 c4 c5, cs = #[c0, c1, c2, c3, c4, c5] := by
  obtain ⟨l⟩ := cs
  match l, h with
  | [c0, c1, c2, c3, c4, c5], _ => exact ⟨c0, c1, c2, c3, c4, c5, rfl⟩
theorem trod_struct6 {t : TypeId} {f0 f1 f2 f3 f4 f5 : Field} {fuel : Nat} {cs : List Value} {x : DataW H × List MemPlace} (ht : P.underlying t = some (.struct #[f0, f1, f2, f3, f4, f5])) (h : DataW.trod enc P w base spare held fuel t cs = some x) :
    ∃ y0 y1 y2 y3 y4 y5 n, cs.length = P.cellsOf t ∧ DataW.trod enc P w base spare held n f0.type ((cs.drop f0.offset).take (P.cellsOf f0.type)) = some y0 ∧
      DataW.trod enc P w base spare held n f1.type ((cs.drop f1.offset).take (P.cellsOf f1.type)) = some y1 ∧ DataW.trod enc P w base spare held n f2.type ((cs.drop f2.offset).take (P.cellsOf f2.type)) = some y2 ∧
      DataW.trod enc P w base spare held n f3.type ((cs.drop f3.offset).take (P.cellsOf f3.type)) = some y3 ∧ DataW.trod enc P w base spare held n f4.type ((cs.drop f4.offset).take (P.cellsOf f4.type)) = some y4 ∧
      DataW.trod enc P w base spare held n f5.type ((cs.drop f5.offset).take (P.cellsOf f5.type)) = some y5 := by
  obtain ⟨xs, n, _, rfl, hl, hlen, hf⟩ := DataW.trod_struct ht h
  match xs, hlen with
  | [y0, y1, y2, y3, y4, y5], _ => exact ⟨y0, y1, y2, y3, y4, y5, n, hl, by simpa using hf 0 f0 rfl, by simpa using hf 1 f1 rfl, by simpa using hf 2 f2 rfl, by simpa using hf 3 f3 rfl, by simpa using hf 4 f4 rfl, by simpa using hf 5 f5 rfl⟩
theorem open_agg6 {r : Reach} {b0 : Nat} {t : TypeId} {f0 f1 f2 f3 f4 f5 : Field} {v : Value} {d : DataW H} {p : List MemPlace} (hs : P.underlying t = some (.struct #[f0, f1, f2, f3, f4, f5])) (hone : oneCellFields P #[f0, f1, f2, f3, f4, f5] = true) (hC : P.cellsOf t = 6)
    (hv : Value.okWide P w r b0 t v) (h : DataW.Trod enc P w base spare held t v d p) :
    ∃ (v0 v1 v2 v3 v4 v5 : Value) (y0 y1 y2 y3 y4 y5 : DataW H × List MemPlace) (n : Nat), v = .agg #[v0, v1, v2, v3, v4, v5] ∧
      DataW.trod enc P w base spare held n f0.type [v0] = some y0 ∧ DataW.trod enc P w base spare held n f1.type [v1] = some y1 ∧ DataW.trod enc P w base spare held n f2.type [v2] = some y2 ∧ DataW.trod enc P w base spare held n f3.type [v3] = some y3 ∧ DataW.trod enc P w base spare held n f4.type [v4] = some y4 ∧ DataW.trod enc P w base spare held n f5.type [v5] = some y5 := by
  obtain ⟨cs, rfl, hsz⟩ := okWide_struct hs hv
  obtain ⟨c0, c1, c2, c3, c4, c5, rfl⟩ := array6 (hsz.trans hC)
  obtain ⟨fuel, hf⟩ := h
  obtain ⟨y0, y1, y2, y3, y4, y5, n, _, h0, h1, h2, h3, h4, h5⟩ := trod_struct6 hs hf
  obtain ⟨o0, k0⟩ := hone_of hone 0 f0 rfl
  obtain ⟨o1, k1⟩ := hone_of hone 1 f1 rfl
  obtain ⟨o2, k2⟩ := hone_of hone 2 f2 rfl
  obtain ⟨o3, k3⟩ := hone_of hone 3 f3 rfl
  obtain ⟨o4, k4⟩ := hone_of hone 4 f4 rfl
  obtain ⟨o5, k5⟩ := hone_of hone 5 f5 rfl
  exact ⟨c0, c1, c2, c3, c4, c5, y0, y1, y2, y3, y4, y5, n, rfl, by simpa [Value.cells, o0, k0] using h0, by simpa [Value.cells, o1, k1] using h1, by simpa [Value.cells, o2, k2] using h2, by simpa [Value.cells, o3, k3] using h3, by simpa [Value.cells, o4, k4] using h4, by simpa [Value.cells, o5, k5] using h5⟩
end
section
variable {H : Type} {enc : TypeId × Value → H} {w : World} {base : Nat} {spare : Nat → Bool} {held : Bool}
set_option maxRecDepth 100000 in
theorem opn_steps {fuel : Nat} {cs : List Value} {x : DataW H × List MemPlace} (h : DataW.trod enc Try.prog w base spare held fuel 79 cs = some x) : ∃ v l, cs = [v] ∧ Sl eSt 3 w v l := by
  obtain ⟨v, l, e, s, _⟩ := opn_elems (R := fun _ => True) (en := eSt) (by omega) len_eSt Try.underlying79 cells103' (fun n cs' y hy hl => by
    obtain ⟨y0, y1, y2, m, _, _, h0, h1, h2⟩ := trod_struct3 Try.underlying103 hy
    match cs', hl with
    | [c0, c1, c2], _ =>
      obtain ⟨a, ea, _, _⟩ := DataW.trod_int (by kernel_rfl) h0
      obtain ⟨c, ec, _, _⟩ := DataW.trod_int (by kernel_rfl) h1
      obtain ⟨b, eb, _, _⟩ := DataW.trod_string (by kernel_rfl) h2
      obtain ⟨m, rfl, -⟩ := bstr_of b
      exact ⟨⟨a, c, m⟩, trivial, by
        have k : Try.prog.cellsOf 3 = 1 := by kernel_rfl
        have k9 : Try.prog.cellsOf 9 = 1 := by kernel_rfl
        have e1 : c0 = .int .i64 a := by simpa [k, k9] using ea
        have e2 : c1 = .int .i64 c := by simpa [k, k9] using ec
        have e3 : c2 = .string (bstr m) := by simpa [k, k9] using eb
        rw [e1, e2, e3]; rfl⟩) h
  exact ⟨v, l, e, s⟩
set_option maxRecDepth 100000 in
theorem opn_rev {fuel : Nat} {c0 c1 : Value} {x : DataW H × List MemPlace} (h : DataW.trod enc Try.prog w base spare held fuel 81 [c0, c1] = some x) : ∃ (b : List UInt8) (s : Sv) (l : List St), c0 = .string (bstr b) ∧ c1 = sv s ∧ Sl eSt 3 w (sv s) l := by
  obtain ⟨y0, y1, m, _, _, h0, h1⟩ := trod_struct2 Try.underlying81 h
  obtain ⟨b, eb, _, _⟩ := DataW.trod_string (by kernel_rfl) h0
  obtain ⟨m, rfl, -⟩ := bstr_of b
  obtain ⟨v, l, e, s⟩ := opn_steps h1
  have k79 : Try.prog.cellsOf 79 = 1 := by kernel_rfl
  have k9 : Try.prog.cellsOf 9 = 1 := by kernel_rfl
  have e0 : c0 = .string (bstr m) := by simpa [k9] using eb
  have e1 : c1 = v := by simpa [k79] using e
  obtain ⟨a, n, c, rfl⟩ := s.isSlice
  exact ⟨m, (a, n, c), l, e0, e1, s⟩
theorem ItsS.of : ∀ l : List (Ri × It), (∀ x ∈ l, Ra w x.1 x.2) → ItsS w (l.map (·.1)) (l.map (·.2))
  | [], _ => trivial
  | x :: l, h => ⟨h x (by simp), ItsS.of l (fun y hy => h y (by simp [hy]))⟩
theorem Sl.map_fst {α β : Type} {en : α → List Value} {s : Nat} {v : Value} {l : List (α × β)} (h : Sl (fun x : α × β => en x.1) s w v l) : Sl en s w v (l.map (·.1)) := by
  obtain ⟨ao, cap, hv, g1, g2, g3, g4⟩ := h.shp
  refine ⟨ao, cap, by simpa using hv, by simpa using g1, g2, g3, ?_⟩
  rcases g4 with rfl | ⟨b, off, g5, g6, g7⟩
  · exact .inl rfl
  · exact .inr ⟨b, off, g5, g6, fun k hk j hj => by
      have hk' : k < l.length := by simpa using hk
      rw [g7 k hk' j hj]; simp⟩
set_option maxRecDepth 100000 in
theorem opn_items {fuel : Nat} {cs : List Value} {x : DataW H × List MemPlace} (h : DataW.trod enc Try.prog w base spare held fuel 45 cs = some x) : ∃ v its, cs = [v] ∧ IS w v its := by
  obtain ⟨v, l, e, s, hr⟩ := opn_elems (R := fun x => Ra w x.1 x.2) (en := fun x : Ri × It => eRi x.1) (by omega) (fun x => len_eRi x.1) Try.underlying45 cells83 (fun n cs' y hy hl => by
    obtain ⟨y0, y1, y2, y3, m, _, _, h0, h1, h2, h3⟩ := trod_struct4 Try.underlying83 hy
    match cs', hl with
    | [c0, c1, c2, c3, c4, c5], _ =>
      obtain ⟨a, ea, _, _⟩ := DataW.trod_int (by kernel_rfl) h0
      obtain ⟨b, eb, _⟩ := DataW.trod_bool (by kernel_rfl) h3
      have k : Try.prog.cellsOf 3 = 1 := by kernel_rfl
      have k4 : Try.prog.cellsOf 4 = 1 := by kernel_rfl
      have k81 : Try.prog.cellsOf 81 = 2 := by kernel_rfl
      have e0 : c0 = .int .i64 a := by simpa [k] using ea
      have e5 : c5 = .bool b := by simpa [k4] using eb
      obtain ⟨b1, s1, l1, q1, q2, q3⟩ := opn_rev (c0 := c1) (c1 := c2) (by simpa [k81] using h1)
      obtain ⟨b2, s2, l2, q4, q5, q6⟩ := opn_rev (c0 := c3) (c1 := c4) (by simpa [k81] using h2)
      exact ⟨(⟨a, b1, s1, b2, s2, b⟩, ⟨a, ⟨b1, l1⟩, ⟨b2, l2⟩, b⟩), ⟨rfl, rfl, q3, rfl, q6, rfl⟩, by rw [e0, e5, q1, q2, q4, q5]; rfl⟩) h
  exact ⟨v, l.map (·.2), e, l.map (·.1), Sl.map_fst s, ItsS.of l hr⟩
set_option maxRecDepth 100000 in
theorem opn_query {r : Reach} {b0 : Nat} {v : Value} {d : DataW H} {p : List MemPlace} (hv : Value.okWide Try.prog w r b0 47 v) (h : DataW.Trod enc Try.prog w base spare held 47 v d p) :
    ∃ (iv : Value) (q : Qy), v = qv iv q ∧ IS w iv q.its := by
  obtain ⟨v0, v1, v2, v3, v4, v5, y0, y1, y2, y3, y4, y5, n, rfl, h0, h1, h2, h3, h4, h5⟩ := open_agg6 Try.underlying47 (by kernel_rfl) (by kernel_rfl) hv h
  obtain ⟨iv, its, e0, hi⟩ := opn_items h0
  obtain ⟨a, e1, _, _⟩ := DataW.trod_int (by kernel_rfl) h1
  obtain ⟨b, e2, _, _⟩ := DataW.trod_int (by kernel_rfl) h2
  obtain ⟨c, e3, _, _⟩ := DataW.trod_int (by kernel_rfl) h3
  obtain ⟨f, e4, _⟩ := DataW.trod_bool (by kernel_rfl) h4
  obtain ⟨g, e5, _⟩ := DataW.trod_bool (by kernel_rfl) h5
  obtain rfl : v0 = iv := by simpa using e0
  obtain rfl : v1 = .int .i64 a := by simpa using e1
  obtain rfl : v2 = .int .i64 b := by simpa using e2
  obtain rfl : v3 = .int .i64 c := by simpa using e3
  obtain rfl : v4 = .bool f := by simpa using e4
  obtain rfl : v5 = .bool g := by simpa using e5
  exact ⟨v0, ⟨its, a, b, c, f, g⟩, rfl, hi⟩
end
end Go.Proofs.Ytolahnnkdpbdfaa
