/-
  Layer 12: the document's Get. No condition besides what the arguments are.
-/
import Derived.Test.YtopamnfelngkcaaDoorR18
namespace Go.Refs
open Go.Sl Go.Route
theorem upto_of {c : UInt8} : ∀ {s : List UInt8} {m : Nat}, m ≤ s.length → (∀ j, j < m → s[j]? ≠ some c) → (m = s.length ∨ s[m]? = some c) → upto c s = s.take m := by
  intro s
  induction s with
  | nil => intro m hm _ _; simp [upto]
  | cons b s ih =>
    intro m hm h1 h2
    cases m with
    | zero =>
      rcases h2 with h2 | h2
      · simp at h2
      · have : b = c := by simpa using h2
        subst this; simp [upto]
    | succ m =>
      have hb : b ≠ c := by have := h1 0 (by omega); simpa using this
      have e : (b != c) = true := by simpa using hb
      have := ih (m := m) (by simpa using hm) (fun j hj => by have := h1 (j + 1) (by omega); simpa using this) (by simpa using h2)
      unfold upto at this ⊢
      rw [List.takeWhile_cons, if_pos e, this, List.take_succ_cons]
/-- where the line that begins at a ends -/
def Scan (b : List UInt8) (a k : Nat) : Prop := ∀ j, a ≤ j → j < k → b[j]? ≠ some 10
theorem Scan.start (b : List UInt8) (a : Nat) : Scan b a a := fun j h1 h2 => by omega
theorem Scan.step {b : List UInt8} {a k : Nat} (h : Scan b a k) (hk : k < b.length) (hc : b[k] ≠ 10) : Scan b a (k + 1) := fun j h1 h2 => by
  by_cases hj : j = k
  · subst hj; rw [List.getElem?_eq_getElem hk]; simpa using hc
  · exact h j h1 (by omega)
theorem Scan.line {b : List UInt8} {a k : Nat} (h : Scan b a k) (ha : a ≤ k) (hk : k ≤ b.length) (h2 : k = b.length ∨ b[k]? = some 10) : upto 10 (b.drop a) = (b.drop a).take (k - a) := by
  refine upto_of (by rw [List.length_drop]; omega) (fun j hj => ?_) ?_
  · rw [List.getElem?_drop]; exact h _ (by omega) (by omega)
  · rcases h2 with h2 | h2
    · left; rw [List.length_drop]; omega
    · right; rw [List.getElem?_drop, show a + (k - a) = k by omega]; exact h2
theorem drop_ne {b : List UInt8} {a : Nat} (ha : a < b.length) : b.drop a ≠ [] := by
  intro h; have := congrArg List.length h; simp at this; omega
theorem open_none {b : List UInt8} {a : Nat} (ha : a < b.length) (h : Scan b a b.length) : getG (b.drop a) = none := by
  refine getG_open (drop_ne ha) ?_
  rw [h.line (by omega) (Nat.le_refl _) (.inl rfl)]; simp
theorem short_none {b : List UInt8} {a k : Nat} (ha : a < b.length) (h : Scan b a k) (hk : k < b.length) (hak : a ≤ k) (hc : b[k] = 10) (h2 : k < a + 65) : getG (b.drop a) = none := by
  refine getG_bad (drop_ne ha) ?_
  rw [h.line hak (by omega) (.inr (by rw [List.getElem?_eq_getElem hk, hc]))]
  unfold lineR
  rw [if_neg]
  rintro ⟨h5, _⟩
  obtain ⟨hn, _⟩ := List.getElem?_eq_some_iff.1 h5
  rw [List.length_take] at hn; omega
theorem line_at {b : List UInt8} {a k : Nat} (hak : a + 65 ≤ k) (hk : k < b.length) : lineR ((b.drop a).take (k - a)) = if b[a + 64]'(by omega) = 32 ∧ (readF ((b.drop a).take 64)).2 = 0 then some ⟨(b.drop (a + 65)).take (k - (a + 65)), (readF ((b.drop a).take 64)).1⟩ else none := by
  have e1 : ((b.drop a).take (k - a)).take 64 = (b.drop a).take 64 := by rw [List.take_take, show min 64 (k - a) = 64 by omega]
  have e2 : ((b.drop a).take (k - a))[64]? = some (b[a + 64]'(by omega)) := by
    rw [List.getElem?_take, if_pos (by omega), List.getElem?_drop, List.getElem?_eq_getElem (by omega)]
  have e3 : ((b.drop a).take (k - a)).drop 65 = (b.drop (a + 65)).take (k - (a + 65)) := by
    rw [List.drop_take, List.drop_drop, show k - a - 65 = k - (a + 65) by omega]
  unfold lineR
  rw [e1, e2, e3]
  simp only [Option.some.injEq]
theorem bad_none {b : List UInt8} {a k : Nat} (ha : a < b.length) (h : Scan b a k) (hk : k < b.length) (hak : a + 65 ≤ k) (hc : b[k] = 10) (hn : ¬ (b[a + 64]'(by omega) = 32 ∧ (readF ((b.drop a).take 64)).2 = 0)) : getG (b.drop a) = none := by
  refine getG_bad (drop_ne ha) ?_
  rw [h.line (by omega) (by omega) (.inr (by rw [List.getElem?_eq_getElem hk, hc])), line_at hak hk, if_neg hn]
end Go.Refs

namespace Go.Proofs.YtopamnfelngkcaaDoor.Rf
open Go.Proofs Go.RowKit Go.Shelf Go.Sl Go.Route Go.Refs
set_option linter.unusedVariables false

theorem GI.line {b : List UInt8} {X : List Go.Sl.Rf} {a k : Nat} (h : GI b X (b.drop a)) (ha : a < b.length) (hs : Scan b a k) (hk : k < b.length) (hak : a + 65 ≤ k) (hc : b[k] = 10) (h5 : b[a + 64]'(by omega) = 32) (h6 : (readF ((b.drop a).take 64)).2 = 0) : GI b (X ++ [⟨(b.drop (a + 65)).take (k - (a + 65)), (readF ((b.drop a).take 64)).1⟩]) (b.drop (k + 1)) := by
  have e := hs.line (by omega) (by omega) (.inr (by rw [List.getElem?_eq_getElem hk, hc]))
  have el : (upto 10 (b.drop a)).length = k - a := by rw [e, List.length_take, List.length_drop]; omega
  have := h.step (drop_ne ha) (by rw [el, List.length_drop]; omega) (r := ⟨(b.drop (a + 65)).take (k - (a + 65)), (readF ((b.drop a).take 64)).1⟩) (by rw [e, line_at hak hk, if_pos ⟨h5, h6⟩])
  rw [el, List.drop_drop, show a + (k - a + 1) = k + 1 by omega] at this
  exact this

variable {o : Oper} {A : Act} {w : World} {K : Act → World → Prop} {Q : Exit → Act → World → Prop}
theorem wp_one43 (x : Operand) (ho : o.op = .buildSlice 37 1 #[(0, x)]) (r : Go.Sl.Rf) (hx : A.eval x = vRf r)
    (h : K (A.put o.dst (.slice (some ⟨w.heap.size, 0, none⟩) 1 1)) (w.alloc (.cells (eRf r).toArray 43))) : Oper.wp Tryd.prog o A w K Q := by
  have hcs : ((eRf r).toArray).size = 33 := size_eRf r
  obtain ⟨hz1, hz2⟩ := zero_of_info (h := (show (Tryd.prog.info? 43).map (fun i => (i.zero, i.size)) = some (some (vRf zRf), (eRf r).toArray.size) by rw [zero43, size_eRf]))
  have hsz : ∀ w, (sizeOf 43).run Tryd.prog w = .ok ((eRf r).toArray).size w := fun w => by
    obtain ⟨i, hi1, hi2⟩ := Option.map_eq_some_iff.1 hz2
    simp [sizeOf, typeInfo, hi1, hi2]
  unfold Oper.wp execOp
  have hn : ¬ (1 * ((eRf r).toArray).size > 2 ^ 24) := by rw [Nat.one_mul, show 2 ^ 24 = 16777216 from rfl]; omega
  have hn0 : ¬ (1 * ((eRf r).toArray).size = 0) := by omega
  have hf := fill_all (fun i => some (i * ((eRf r).toArray).size, ((eRf r).toArray).size)) ((Array.range (1 * ((eRf r).toArray).size)).map ((vRf zRf).cells[· % (vRf zRf).cells.size]!)) 0 (eRf r).toArray (by simp) (by simp)
  have hx' : A.eval x = .agg (eRf r).toArray := hx
  simp only [ho, Instr.buildSlice, Sem.run_bind, run_underlying Tryd.underlying37, Result.andThen_ok, hsz, Sem.run_ite, hn, hn0, if_false, Sem.run_pure, hz1, newRow, run_newObj, List.map_toArray, List.map_cons, List.map_nil, hx', hf]
  exact h

theorem elem34 : Tryd.prog.elem 34 = 5 := by kernel_rfl
theorem byteNe {c d : UInt8} (h : c ≠ d) : ((c.toNat : Int) == (d.toNat : Int)) = false := by
  rw [beq_eq_false_iff_ne]; intro e; exact h (UInt8.toNat_inj.1 (by omega))
theorem some5 : (Tryd.prog.info? 5).isSome = true := by kernel_rfl

set_option maxRecDepth 100000 in
set_option maxHeartbeats 2000000 in
theorem rget_any (v : Value) (b : List UInt8) (w : World) (hv : Sl eByte 1 w v b) (hb : b.length ≤ 100000) :
    Calls Tryd.prog 60 #[v] w fun e w' => ∃ ov, e = .returned (.tuple #[ov, .int .i64 (getF b).2]) ∧ Sl eRf 33 w' ov (getF b).1 ∧ Below w.heap.size w w' := by
  have hlen := hv.run_len (P := Tryd.prog) Tryd.underlying34
  have HV := Lib.hid hv
  clear hv
  go_enter Tryd.func60, Tryd.ntmps60
  go_wp2_with fail
  go_loopw [4, 5] (fun s4 s5 wr => ∃ (X : List Go.Sl.Rf) (a : Nat), s5 = .int .i64 a ∧ a ≤ b.length ∧ Hid (GI b X (b.drop a)) ∧ Hid (Sl.Own eRf 33 w.heap.size 43 wr s4 X) ∧ Hid (Below w.heap.size w wr)) (fun _ s5 _ => b.length - (intOf s5).toNat)
  case atStart => exact ⟨[], 0, rfl, by omega, Lib.hid ⟨by simp, by simp⟩, Lib.hid (Sl.Own.nil _ _ _ _ _), Lib.hid (Below.refl _ _)⟩
  case round =>
    obtain ⟨wo, rfl⟩ : ∃ u : World, u = wr := ⟨_, rfl⟩
    obtain ⟨X, a, rfl, ha, HI, HO, HW⟩ := hrel
    have hXl : X.length ≤ b.length := by have := HI.out.2; omega
    by_cases hlt : a < b.length
    · have d1 : decide ((a : Int) < (b.length : Int)) = true := decide_eq_true (by omega)
      go_wp2_with fail
      go_loopw [6] (fun s6 wr => ∃ (k : Nat), s6 = .int .i64 k ∧ a ≤ k ∧ k ≤ b.length ∧ Hid (Scan b a k) ∧ Hid (Below wo.heap.size wo wr)) (fun s6 _ => b.length - (intOf s6).toNat)
      case atStart => exact ⟨a, rfl, by omega, by omega, Lib.hid (Scan.start _ _), Lib.hid (Below.refl _ _)⟩
      case round =>
        obtain ⟨w1, rfl⟩ : ∃ u : World, u = wr := ⟨_, rfl⟩
        obtain ⟨k, rfl, hak, hk, HS, HB⟩ := hrel
        by_cases hkl : k < b.length
        · have d2 : decide ((k : Int) < (b.length : Int)) = true := decide_eq_true (by omega)
          have HW1 := Lib.hid (bthen HW.out HB.out)
          have HO1 := Lib.hid (HO.out.ext HB.out)
          obtain ⟨b5, o5, hb5, hix, hcell⟩ := HV.out.atB HW1.out (P := Tryd.prog) Tryd.underlying34 cells5 some5 hkl
          by_cases hc : b[k] = 10
          · have e0 : w1.cell? ⟨b5, o5, none⟩ = some (.int .u8 10) := by
              have := hcell 0 (by omega)
              rw [hc] at this; exact this
            have dk : ((k : Int) == (b.length : Int)) = false := by rw [beq_eq_false_iff_ne]; omega
            have HC := Lib.hid hc
            clear hc hcell
            by_cases hs : k < a + 65
            · have d3 : decide ((k : Int) < (a : Int) + 65) = true := decide_eq_true (by omega)
              have HF := Lib.hid (HI.out.none (short_none hlt HS.out hkl hak HC.out hs))
              go_wp2_with fail
              go_ret2
              rw [HF.out]
              exact ⟨_, rfl, Sl.nil _ _ _, HW1.out⟩
            · have d3 : decide ((k : Int) < (a : Int) + 65) = false := decide_eq_false (by omega)
              obtain ⟨b6, o6, hb6, hix6, hcell6⟩ := HV.out.atB HW1.out (P := Tryd.prog) Tryd.underlying34 cells5 some5 (show a + 64 < b.length by omega)
              rw [show ((a + 64 : Nat) : Int) = (a : Int) + 64 by omega] at hix6
              by_cases h32 : b[a + 64]'(by omega) = 32
              · have e6 : w1.cell? ⟨b6, o6, none⟩ = some (.int .u8 32) := by
                  have := hcell6 0 (by omega)
                  rw [h32] at this; exact this
                clear hcell6
                obtain ⟨v1, hs1, ⟨_, _, _, hv1⟩, hsl1⟩ := HV.out.sub (P := Tryd.prog) Tryd.underlying34 elem34 cells5 some5 (lo := a) (hi' := a + 64) (x := (a : Int)) (y := (a : Int) + 64) rfl (by omega) (by omega) (by omega)
                rw [show a + 64 - a = 64 by omega] at hsl1
                have hcv1 := hsl1.run_string (P := Tryd.prog) Tryd.underlying34 Tryd.underlying5 Tryd.underlying9
                obtain ⟨v2, hs2, ⟨_, _, _, hv2⟩, hsl2⟩ := HV.out.sub (P := Tryd.prog) Tryd.underlying34 elem34 cells5 some5 (lo := a + 65) (hi' := k) (x := (a : Int) + 65) (y := (k : Int)) (by omega) rfl (by omega) (by omega)
                have hcv2 : Hid (∀ u, Below w.heap.size w u → (convert 34 9 v2).run Tryd.prog u = .ok (.string (bstr ((b.drop (a + 65)).take (k - (a + 65))))) u) := Lib.hid (fun u hu => (hsl2.ext hu).run_string (P := Tryd.prog) Tryd.underlying34 Tryd.underlying5 Tryd.underlying9)
                have hcv1 := (hsl1.ext HW1.out).run_string (P := Tryd.prog) Tryd.underlying34 Tryd.underlying5 Tryd.underlying9
                subst hv1 hv2
                have HBad := Lib.hid (fun (h : ¬ (readF ((b.drop a).take 64)).2 = 0) => HI.out.none (bad_none hlt HS.out hkl (by omega) HC.out (fun h' => h h'.2)))
                have HGood := Lib.hid (HI.out.line hlt HS.out hkl (by omega) HC.out h32)
                obtain ⟨d, hd⟩ : ∃ d, Hid ((b.drop a).take 64 = d) := ⟨_, Lib.hid rfl⟩
                obtain ⟨nm, hnm⟩ : ∃ d, Hid ((b.drop (a + 65)).take (k - (a + 65)) = d) := ⟨_, Lib.hid rfl⟩
                have hdl : d.length ≤ 64 := by rw [← hd.out, List.length_take]; omega
                rw [hd.out] at hcv1 HBad HGood
                rw [hnm.out] at hcv2 HGood
                have HCR := Lib.hid (fun u => rread_any d (by omega) u)
                obtain ⟨i, hi⟩ : ∃ x, Hid ((readF d).1 = x) := ⟨_, Lib.hid rfl⟩
                obtain ⟨c, hcc⟩ : ∃ x, Hid ((readF d).2 = x) := ⟨_, Lib.hid rfl⟩
                rw [hi.out, hcc.out] at HCR HGood
                rw [hcc.out] at HBad
                clear hsl1 hsl2 h32
                go_wp2_with fail
                refine (HCR.out _).mono ?_
                rintro e w3 ⟨rfl, hb3⟩
                have HW3 := Lib.hid (bthen HW1.out hb3)
                have HO3 := Lib.hid (HO1.out.ext hb3)
                have HO4 : Hid (Sl.Own eRf 33 w.heap.size 43 (w3.alloc (.cells (eId i).toArray 39)) u4 X) := Lib.hid (HO3.out.alloc _)
                have HW4 : Hid (Below w.heap.size w (w3.alloc (.cells (eId i).toArray 39))) := Lib.hid (HW3.out.alloc HW3.out.size _)
                have HN : Hid ((w3.alloc (.cells (eId i).toArray 39)).heap[w3.heap.size]? = some (.cells (eId i).toArray 39 (0, 0))) := Lib.hid (heap_alloc_new _ _)
                have HR : Hid ((w3.alloc (.cells (eId i).toArray 39)).rangeAt w3.heap.size 0 (eId i)) := Lib.hid (range_of_heap (cs := (eId i).toArray) HN.out)
                clear hb3 HCR hcc hi hd hnm HB HO1 HW1
                by_cases hc0 : c = 0
                · subst hc0
                  have HG := Lib.hid (HGood.out rfl)
                  obtain ⟨x, hx⟩ : ∃ x : Go.Sl.Rf, Hid (⟨nm, i⟩ = x) := ⟨_, Lib.hid rfl⟩
                  rw [hx.out] at HG
                  clear HGood HBad
                  go_wp2_with (first
                    | refine new39 rfl rfl rfl _ _ rfl rfl i rfl rfl ?_)
                  have hw65 : IntKind.i64.wrap ((a : Int) + 65) = (a : Int) + 65 := by rw [IntKind.wrap_i64]; omega
                  refine wp_region_held_drew (S := fun u => u.rangeAt w3.heap.size 0 (eId i) ∧ Below w.heap.size w u) (by kernel_rfl) ⟨HR.out, HW4.out.drew⟩ (fun hHeld => ?_)
                  refine wpAnyH_take (i := 0) (oi := { dst := some 58, op := Op.move (Operand.tmp 4), type := 37, pos := "ref.go:75", after := #[], guard := none }) (v := ?_) rfl (by kernel_rfl) (by kernel_rfl) (by kernel_rfl) (fun _ _ _ h => h) (Or.inl ⟨by rfl, ?_⟩) (by assumption) ?_
                  rotate_left
                  · intro u hSu; (try dsimp only at hSu); (go_simp <;> with_reducible rfl)
                  try simp only [Act.put, List.setIfInBounds_toArray, List.set_cons_zero, List.set_cons_succ]
                  refine wpAnyH_take (i := 1) (oi := { dst := some 59, op := Op.move (Operand.tmp 0), type := 34, pos := "ref.go:75", after := #[], guard := none }) (v := ?_) rfl (by kernel_rfl) (by kernel_rfl) (by kernel_rfl) (fun _ _ _ h => h) (Or.inl ⟨by rfl, ?_⟩) (by assumption) ?_
                  rotate_left
                  · intro u hSu; (try dsimp only at hSu); (go_simp <;> with_reducible rfl)
                  try simp only [Act.put, List.setIfInBounds_toArray, List.set_cons_zero, List.set_cons_succ]
                  refine wpAnyH_take (i := 2) (oi := { dst := some 60, op := Op.move (Operand.tmp 5), type := 3, pos := "ref.go:75", after := #[], guard := none }) (v := ?_) rfl (by kernel_rfl) (by kernel_rfl) (by kernel_rfl) (fun _ _ _ h => h) (Or.inl ⟨by rfl, ?_⟩) (by assumption) ?_
                  rotate_left
                  · intro u hSu; (try dsimp only at hSu); (go_simp <;> with_reducible rfl)
                  try simp only [Act.put, List.setIfInBounds_toArray, List.set_cons_zero, List.set_cons_succ]
                  refine wpAnyH_take (i := 3) (oi := { dst := some 61, op := Op.binOp BinOp.add 3 (Operand.tmp 60) (Operand.const (Value.int IntKind.i64 65)) 3, type := 3, pos := "ref.go:75", after := #[{ on := 2, ground := Ground.data }], guard := none }) (v := ?_) rfl (by kernel_rfl) (by kernel_rfl) (by kernel_rfl) (fun _ _ _ h => h) (Or.inl ⟨by rfl, ?_⟩) (by assumption) ?_
                  rotate_left
                  · intro u hSu; (try dsimp only at hSu); (go_simp <;> with_reducible rfl)
                  try simp only [Act.put, List.setIfInBounds_toArray, List.set_cons_zero, List.set_cons_succ]
                  refine wpAnyH_take (i := 4) (oi := { dst := some 62, op := Op.move (Operand.tmp 6), type := 3, pos := "ref.go:75", after := #[], guard := none }) (v := ?_) rfl (by kernel_rfl) (by kernel_rfl) (by kernel_rfl) (fun _ _ _ h => h) (Or.inl ⟨by rfl, ?_⟩) (by assumption) ?_
                  rotate_left
                  · intro u hSu; (try dsimp only at hSu); (go_simp <;> with_reducible rfl)
                  try simp only [Act.put, List.setIfInBounds_toArray, List.set_cons_zero, List.set_cons_succ]
                  refine wpAnyH_take (i := 5) (oi := { dst := some 63, op := Op.slice 34 (Operand.tmp 59) (some (Operand.tmp 61)) (some (Operand.tmp 62)) none, type := 34, pos := "ref.go:75", after := #[{ on := 1, ground := Ground.data }, { on := 3, ground := Ground.data }, { on := 4, ground := Ground.data }], guard := none }) (v := ?_) rfl (by kernel_rfl) (by kernel_rfl) (by kernel_rfl) (fun _ _ _ h => h) (Or.inl ⟨by rfl, ?_⟩) (by assumption) ?_
                  rotate_left
                  · intro u hSu; (try dsimp only at hSu); (go_simp <;> with_reducible rfl)
                  try simp only [Act.put, List.setIfInBounds_toArray, List.set_cons_zero, List.set_cons_succ]
                  refine wpAnyH_take (i := 6) (oi := { dst := some 64, op := Op.convert 34 9 (Operand.tmp 63), type := 9, pos := "ref.go:75", after := #[{ on := 5, ground := Ground.data }], guard := none }) (v := .string (bstr nm)) rfl (by kernel_rfl) (by kernel_rfl) (by kernel_rfl) (fun _ _ _ h => h) (Or.inl ⟨by rfl, ?_⟩) (by assumption) ?_
                  · intro u hSu; have hh := hcv2.out u hSu.2; go_simp
                  try simp only [Act.put, List.setIfInBounds_toArray, List.set_cons_zero, List.set_cons_succ]
                  refine wpAnyH_take (i := 7) (oi := { dst := some 65, op := Op.load 39 (Operand.tmp 7), type := 39, pos := "ref.go:75", after := #[], guard := none }) (v := .agg (eId i).toArray) rfl (by kernel_rfl) (by kernel_rfl) (by kernel_rfl) (fun _ _ _ h => h) (yieldsIf_load_mid (by rfl) 39 _ rfl w3.heap.size 0 (by rfl) (eId i) _ (fun u hSu => hSu.1) Tryd.underlying39 rfl (by rw [size39, len_eId])) (by assumption) ?_
                  try simp only [Act.put, List.setIfInBounds_toArray, List.set_cons_zero, List.set_cons_succ]
                  refine wpAnyH_take (i := 8) (oi := { dst := some 66, op := Op.build 43 #[(0, Operand.tmp 64), (1, Operand.tmp 65)], type := 43, pos := "ref.go:75", after := #[{ on := 6, ground := Ground.data }, { on := 7, ground := Ground.data }], guard := none }) (v := vRf x) rfl (by kernel_rfl) (by kernel_rfl) (by kernel_rfl) (fun _ _ _ h => h) (Or.inl ⟨by rfl, fun u hSu => by rw [← hx.out]; exact exec_bd43 rfl rfl rfl u⟩) (by assumption) ?_
                  try simp only [Act.put, List.setIfInBounds_toArray, List.set_cons_zero, List.set_cons_succ]
                  refine wpAnyH_ready (rs := [9]) (by kernel_rfl) (by simp) ?_
                  refine AllReadyH.cons (o := { dst := some 67, op := Op.buildSlice 37 1 #[(0, Operand.tmp 66)], type := 37, pos := "ref.go:75", after := #[{ on := 8, ground := Ground.data }], guard := none }) rfl (fun K hK => ?_) AllReadyH.nil
                  rw [if_pos (by rfl)]
                  refine wp_one43 _ rfl x rfl ?_
                  refine hK.out _ _ ⟨range_of_heap (cs := (eId i).toArray) (heap_keep HN.out), HW4.out.drew.alloc HW4.out.drew.size _⟩ (fun hHeld => ?_)
                  clear hK K
                  try simp only [Act.put, List.setIfInBounds_toArray, List.set_cons_zero, List.set_cons_succ]
                  refine wpAnyH_ready (rs := [10]) (by kernel_rfl) (by simp) ?_
                  refine AllReadyH.cons (o := { dst := some 68, op := Op.call { callee := Callee.builtin Builtin.append, args := #[Operand.tmp 58, Operand.tmp 67], argTypes := #[37, 37] }, type := 37, pos := "ref.go:75", after := #[{ on := 0, ground := Ground.data }, { on := 9, ground := Ground.data }], guard := none }) rfl (fun K hK => ?_) AllReadyH.nil
                  refine step_append rfl (en := eRf) (s := 33) (base := w.heap.size) (e := 43) _ _ 37 rfl (vRf zRf) 48 Tryd.underlying37 info43 (size_eRf _) (by decide) len_eRf one_eRf _ _ X [x] rfl (HO4.out.drew.alloc _) rfl (sl_new x) (by simp only [maxLen, List.length_cons, List.length_nil]; omega) (by simp only [List.length_cons, List.length_nil]; omega) hHeld.2.size ?_
                  intro v' w' hown hgr hbel
                  have HO5 := Lib.hid hown
                  have hne5 := (HO4.out.drew.alloc (.cells (eRf x).toArray 43)).ne_elem (heap_keep HN.out) (by decide)
                  refine hK.out _ _ ⟨range_of_heap (cs := (eId i).toArray) (grown_heap hgr (heap_keep HN.out) hne5), hHeld.2.trans hbel⟩ (fun hHeld2 => ?_)
                  clear hK K hown hgr hbel hHeld hne5
                  try simp only [Act.put, List.setIfInBounds_toArray, List.set_cons_zero, List.set_cons_succ]
                  refine wpAnyH_take (i := 11) (oi := { dst := some 4, op := Op.assign (Operand.tmp 68), type := 37, pos := "ref.go:75", after := #[{ on := 10, ground := Ground.data }, { on := 10, ground := Ground.chain }, { on := 0, ground := Ground.phase }, { on := 1, ground := Ground.phase }, { on := 2, ground := Ground.phase }, { on := 3, ground := Ground.phase }, { on := 4, ground := Ground.phase }, { on := 5, ground := Ground.phase }, { on := 6, ground := Ground.phase }, { on := 7, ground := Ground.phase }, { on := 8, ground := Ground.phase }, { on := 9, ground := Ground.phase }, { on := 10, ground := Ground.phase }], guard := none }) (v := ?_) rfl (by kernel_rfl) (by kernel_rfl) (by kernel_rfl) (fun _ _ _ h => h) (Or.inl ⟨by rfl, ?_⟩) (by assumption) ?_
                  rotate_left
                  · intro u hSu; (try dsimp only at hSu); (go_simp <;> with_reducible rfl)
                  try simp only [Act.put, List.setIfInBounds_toArray, List.set_cons_zero, List.set_cons_succ]
                  refine wpAnyH_done (by kernel_rfl) ?_ _
                  have HW5 := Lib.hid hHeld2.2
                  clear hHeld2
                  go_wp2_with fail
                  go_roundw
                  case rel => exact ⟨X ++ [x], k + 1, by go_num, by omega, HG, HO5, HW5⟩
                  case measure => simp [intOf]; omega
                · have hne3 : (c == 0) = false := by rw [beq_eq_false_iff_ne]; exact hc0
                  have HF := Lib.hid (HBad.out hc0)
                  clear HGood HBad
                  go_wp2_with (refine new39 rfl rfl rfl _ _ rfl rfl i rfl rfl ?_)
                  go_ret2
                  rw [HF.out]
                  exact ⟨_, rfl, Sl.nil _ _ _, HW4.out⟩
              · have e6 : w1.cell? ⟨b6, o6, none⟩ = some (.int .u8 ((b[a + 64]'(by omega)).toNat : Int)) := hcell6 0 (by omega)
                have n6 : (((b[a + 64]'(by omega)).toNat : Int) == 32) = false := byteNe (d := 32) h32
                have HF := Lib.hid (HI.out.none (bad_none hlt HS.out hkl (by omega) HC.out (fun h => h32 h.1)))
                obtain ⟨z, hz⟩ : ∃ z : Int, Hid (((b[a + 64]'(by omega)).toNat : Int) = z) := ⟨_, Lib.hid rfl⟩
                rw [hz.out] at e6 n6
                clear hcell6 h32
                go_wp2_with fail
                go_ret2
                rw [HF.out]
                exact ⟨_, rfl, Sl.nil _ _ _, HW1.out⟩
          · have e0 : w1.cell? ⟨b5, o5, none⟩ = some (.int .u8 (b[k].toNat : Int)) := hcell 0 (by omega)
            have n0 : ((b[k].toNat : Int) == 10) = false := byteNe (d := 10) hc
            have HS2 := Lib.hid (HS.out.step hkl hc)
            obtain ⟨z, hz⟩ : ∃ z : Int, Hid ((b[k].toNat : Int) = z) := ⟨_, Lib.hid rfl⟩
            rw [hz.out] at e0 n0
            clear hcell hc
            go_wp2_with fail
            go_roundw
            case rel => exact ⟨k + 1, by go_num, by omega, by omega, HS2, HB⟩
            case measure => simp [intOf]; omega
        · obtain rfl : k = b.length := by omega
          have d2 : decide ((b.length : Int) < (b.length : Int)) = false := decide_eq_false (by omega)
          have HF := Lib.hid (HI.out.none (open_none hlt HS.out))
          have HW1 := Lib.hid (bthen HW.out HB.out)
          go_wp2_with fail
          go_ret2
          rw [HF.out]
          exact ⟨_, rfl, Sl.nil _ _ _, HW1.out⟩
    · obtain rfl : a = b.length := by omega
      have d1 : decide ((b.length : Int) < (b.length : Int)) = false := decide_eq_false (by omega)
      have HI2 : GI b X [] := by have := HI.out; rwa [List.drop_length] at this
      have HN := Lib.hid (getG_len _ _ _ (Nat.le_refl _) HI2.done)
      have HF := Lib.hid (getF_some HI2.done)
      obtain ⟨c, hc⟩ : ∃ c, Hid (chk X = c) := ⟨_, Lib.hid rfl⟩
      have HC := Lib.hid (rcheck_any u4 X wo (HO.out.sl len_eRf) (fun x hx => by have := HN.out.2 x hx; omega))
      rw [hc.out] at HC HF
      clear HI2
      go_wp2_with fail
      refine HC.out.mono ?_
      rintro e w2 ⟨rfl, hb2⟩
      have HW2 := Lib.hid (bthen HW.out hb2)
      have HO2 := Lib.hid (HO.out.ext hb2)
      clear hb2 HC
      by_cases hc0 : c = 0
      · subst hc0
        have HF2 : Hid (getF b = (X, 0)) := Lib.hid (by rw [HF.out, if_pos rfl])
        go_wp2_with fail
        go_ret2
        rw [HF2.out]
        exact ⟨_, rfl, HO2.out.sl len_eRf, HW2.out⟩
      · have hne : (c == 0) = false := by rw [beq_eq_false_iff_ne]; exact hc0
        have HF2 : Hid (getF b = ([], c)) := Lib.hid (by rw [HF.out, if_neg hc0])
        go_wp2_with fail
        go_ret2
        rw [HF2.out]
        exact ⟨_, rfl, Sl.nil _ _ _, HW2.out⟩
end Go.Proofs.YtopamnfelngkcaaDoor.Rf
