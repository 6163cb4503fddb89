/-
  Layer 12: Put. No condition besides what the arguments are.
-/
import Derived.Shelf.Strings.BuilderK
import Derived.Lib.ConvBytes
import Derived.Test.YtopamnfelngkcaaDoorR12
namespace Go.Refs
open Go.Sl
/-- a table's text -/
def lineF (r : Rf) : List UInt8 := hexF r.id ++ [32] ++ r.nm ++ [10]
def textF (l : List Rf) : List UInt8 := l.flatMap lineF
/-- what Put gives: the text and an error's number -/
def putF (l : List Rf) : List UInt8 × Int := if chk l = 0 then (textF l, 0) else ([], chk l)
theorem lineF_len (r : Rf) : (lineF r).length = 66 + r.nm.length := by unfold lineF; simp [hexF_len]; omega
theorem textF_take (l : List Rf) {k : Nat} (h : k < l.length) {x : Rf} (hx : l[k] = x) : textF (l.take (k + 1)) = textF (l.take k) ++ hexF x.id ++ [32] ++ x.nm ++ [10] := by
  rw [List.take_succ_eq_append_getElem h, hx, textF, textF, List.flatMap_append]
  simp [lineF]
theorem textF_len (l : List Rf) (h : ∀ r ∈ l, r.nm.length ≤ 120) : (textF l).length ≤ 186 * l.length := by
  induction l with
  | nil => simp [textF]
  | cons r l ih =>
    have h1 := ih (fun x hx => h x (List.mem_cons_of_mem _ hx))
    have h2 := h r List.mem_cons_self
    unfold textF at h1 ⊢
    rw [List.flatMap_cons, List.length_append, lineF_len, List.length_cons]
    omega
theorem rgt_len {s : List UInt8} (h : Go.Route.rgt s = true) : s.length ≤ 120 := by
  unfold Go.Route.rgt at h
  simp only [Bool.and_eq_true, decide_eq_true_eq] at h
  exact h.1.1.2
end Go.Refs
namespace Go.Proofs.YtopamnfelngkcaaDoor.Rf
open Go.Proofs Go.RowKit Go.Shelf Go.Sl Go.Route Go.Refs
set_option linter.unusedVariables false

/-- a builder in block b that holds l -/
def Bd (b : Nat) (l : List UInt8) (w : World) : Prop := Lib.IsBuilderF 85 5 b b (Lib.byteCells l) w
theorem at_ext {p : Value} {bs : List Value} {b : Nat} {w w' : World} (h : Lib.BuilderAtF 85 5 b b p bs w) (hb : Below w.heap.size w w') : Lib.BuilderAtF 85 5 b b p bs w' := by
  have hlt := h.lt
  obtain ⟨h1, v, h2, h3, h4⟩ := h
  exact ⟨h1, v, (hb.block _ hlt).trans h2, h3.kept (row := none) ⟨hb.os, hb.tape, hb.output, hb.size, fun k hk _ => hb.block k hk⟩ (by cases v.ownBlock <;> simp), h4⟩
theorem Bd.ext {b : Nat} {l : List UInt8} {w w' : World} (h : Bd b l w) (hb : Below w.heap.size w w') : Bd b l w' := h.elim (fun h => .inl (at_ext h hb)) (fun h => .inr (at_ext h hb))
theorem Bd.lt {b : Nat} {l : List UInt8} {w : World} (h : Bd b l w) : b < w.heap.size := h.elim (fun h => h.lt) (fun h => h.lt)
theorem Bd.start (w : World) : Bd w.heap.size [] (w.alloc (.cells #[.pointer none, .slice none 0 0] 85)) := Lib.IsBuilderF.of (Lib.fresh_isBuilder 85 5 w)
/-- a struct's block is no row of bytes and not the builder's -/
theorem kept43 {b : Nat} {w w' : World} (h : Lib.OthersKept 5 (some b) w w') {k : Nat} {c : Array Value} (hk : w.heap[k]? = some (.cells c 43 (0, 0))) (hne : k ≠ b) : w'.heap[k]? = some (.cells c 43 (0, 0)) :=
  h k _ hk (by simpa using hne) (by rintro c fz e; simp at e)
theorem Bd.write {b : Nat} {l : List UInt8} {w : World} (h : Bd b l w) (m : List UInt8) (hl : l.length + m.length ≤ 100000) : Calls Tryd.prog 79 #[.pointer (some ⟨b, 0, none⟩), .string (bstr m)] w fun e w' => e = .returned (.tuple #[.int .i64 (m.length : Nat), .nilIface]) ∧ Bd b (l ++ m) w' ∧ Below b w w' ∧ Lib.OthersKept 5 (some b) w w' :=
  (Any.Builder_WriteString_k Tryd.lays166 Tryd.Builder_Extra_166 b b _ (bstr m) w h (by rw [Lib.byteCells_length, bstr_size]; omega) (Nat.le_of_lt h.lt)).mono fun _ _ ⟨h1, h2, h3, h4⟩ => ⟨by rw [h1, bstr_size], .inr (by rw [Lib.byteCells_append]; exact h2), h3, h4⟩
theorem Bd.string {b : Nat} {l : List UInt8} {w : World} (h : Bd b l w) : Calls Tryd.prog 81 #[.pointer (some ⟨b, 0, none⟩)] w fun e w' => e = .returned (.string (bstr l)) ∧ Below b w w' :=
  (Any.Builder_String_any_k Tryd.lays169 Tryd.Builder_Extra_169 b b l w h (Nat.le_of_lt h.lt)).mono fun _ _ ⟨h1, h2, h3, h4⟩ => ⟨h1, h3⟩

/-- a string made bytes -/
theorem conv_bytes (w : World) (l : List UInt8) (hl : l.length ≤ 9223372036854775807) : ∃ cap, (convert 9 34 (.string (bstr l))).run Tryd.prog w = .ok (.slice (some ⟨w.heap.size, 0, none⟩) l.length cap) (Lib.bytesWorld w 5 (bstr l)) ∧
    Sl eByte 1 (Lib.bytesWorld w 5 (bstr l)) (.slice (some ⟨w.heap.size, 0, none⟩) l.length cap) l ∧ Below w.heap.size w (Lib.bytesWorld w 5 (bstr l)) := by
  refine ⟨grownCap w l.length 0 5, ?_, ⟨_, _, rfl, grownCap_ge _ _ _ _, grownCap_le_maxLen _ _ _ _ (by unfold maxLen; exact hl), fun h => by (cases h), .inr ⟨w.heap.size, 0, rfl, by rw [Lib.bytesWorld_size]; omega, ?_⟩⟩, ?_⟩
  · have := Lib.run_convert_string_bytes (P := Tryd.prog) w 9 34 5 (bstr l) Tryd.underlying9 Tryd.underlying34 Tryd.underlying5
    rw [bstr_size] at this
    exact this
  · intro k hk j hj
    obtain rfl : j = 0 := by omega
    have := Lib.bytesWorld_cell w 5 (bstr l) k (by rw [bstr_size]; exact hk)
    rw [Nat.zero_add, Nat.mul_one, Nat.add_zero, this]
    simp [bstr, eByte, List.getD, List.getElem?_eq_getElem hk]
  · exact ⟨rfl, rfl, rfl, by rw [Lib.bytesWorld_size]; omega, fun k hk => Lib.bytesWorld_at_old w 5 (bstr l) k hk⟩

set_option maxRecDepth 100000 in
set_option maxHeartbeats 2000000 in
theorem put_any (v : Value) (l : List Go.Sl.Rf) (w : World) (hv : Sl eRf 33 w v l) (hl : ∀ r ∈ l, r.nm.length ≤ 9223372036854775807) (hm : Ml w) :
    Calls Tryd.prog 54 #[v] w fun e w' => ∃ bv, e = .returned (.tuple #[bv, .int .i64 (putF l).2]) ∧ Sl eByte 1 w' bv (putF l).1 ∧ Below w.heap.size w w' := by
  have hlen := hv.run_len (P := Tryd.prog) Tryd.underlying37
  have HV := Lib.hid hv
  obtain ⟨c, hc⟩ : ∃ c, Hid (chk l = c) := ⟨_, Lib.hid rfl⟩
  have HC := Lib.hid (check_any v l w hv hl hm)
  rw [hc.out] at HC
  clear hv hl hm
  go_enter Tryd.func54, Tryd.ntmps54
  go_wp2_with fail
  refine HC.out.mono ?_
  rintro e w1 ⟨rfl, hb⟩
  have HW1 := Lib.hid hb
  clear hb HC
  by_cases h0 : c = 0
  · subst h0
    obtain ⟨hl64, hrg, -⟩ := chk_ok hc.out
    have HRg := Lib.hid (fun r hr => rgt_len (hrg r hr))
    have HZ : Hid (putF l = (textF l, 0)) := Lib.hid (by unfold putF; rw [if_pos hc.out])
    clear hrg
    go_wp2_with fail
    obtain ⟨w2, hw2⟩ : ∃ u, Hid (u = w1.alloc (.cells #[.pointer none, .slice none 0 0] 85)) := ⟨_, Lib.hid rfl⟩
    have HB2 : Hid (Bd w1.heap.size [] w2) := Lib.hid (by rw [hw2.out]; exact Bd.start w1)
    have HW2 : Hid (Below w1.heap.size w1 w2) := Lib.hid (by rw [hw2.out]; exact (Below.refl _ _).alloc (Nat.le_refl _) _)
    rw [← hw2.out]
    clear hw2
    obtain ⟨b, Hb⟩ : ∃ b, Hid (w1.heap.size = b) := ⟨_, Lib.hid rfl⟩
    rw [Hb.out] at HB2 ⊢
    go_loopw [15] (fun i wr => ∃ k : Nat, i = .int .i64 k ∧ k ≤ l.length ∧ Hid (Bd b (textF (l.take k)) wr) ∧ Hid (Below w1.heap.size w1 wr)) (fun i _ => l.length - (intOf i).toNat)
    case atStart => exact ⟨0, rfl, by omega, HB2, HW2⟩
    case round =>
      obtain ⟨wo, rfl⟩ : ∃ u : World, u = wr := ⟨_, rfl⟩
      obtain ⟨k, rfl, hk, HB, HW⟩ := hrel
      by_cases hlt : k < l.length
      · have d2 : decide ((k : Int) < (l.length : Int)) = true := decide_eq_true (by omega)
        obtain ⟨b5, o5, hb5, hix, hr⟩ := HV.out.rangeB len_eRf (bthen HW1.out HW.out) (P := Tryd.prog) Tryd.underlying37 cells43 some43 hlt
        obtain ⟨x, hx⟩ : ∃ x, Hid (l[k] = x) := ⟨_, Lib.hid rfl⟩
        rw [hx.out] at hr
        have HR := Lib.hid hr
        have hxl : x.nm.length ≤ 120 := HRg.out x (by rw [← hx.out]; exact List.getElem_mem hlt)
        have HT := Lib.hid (textF_take l hlt hx.out)
        obtain ⟨X, hX⟩ : ∃ X, Hid (textF (l.take k) = X) := ⟨_, Lib.hid rfl⟩
        have hXl : X.length ≤ 186 * k := by
          rw [← hX.out]
          have := textF_len (l.take k) (fun r hr => HRg.out r (List.mem_of_mem_take hr))
          rw [List.length_take] at this; omega
        rw [hX.out] at HB HT
        have hhl := hexF_len x.id
        obtain ⟨w3, hw3⟩ : ∃ u, Hid (u = wo.alloc (.cells (eRf x).toArray 43)) := ⟨_, Lib.hid rfl⟩
        have HN : Hid (w3.heap[wo.heap.size]? = some (.cells (eRf x).toArray 43 (0, 0))) := Lib.hid (by rw [hw3.out]; exact heap_alloc_new _ _)
        have HI : Hid (w3.rangeAt wo.heap.size 1 (eId x.id)) := Lib.hid (range_tail HN.out)
        have hb3 : Below wo.heap.size wo w3 := by rw [hw3.out]; exact (Below.refl _ _).alloc (Nat.le_refl _) _
        have HB3 := Lib.hid (HB.out.ext hb3)
        have HW3 := Lib.hid (bthen HW.out hb3)
        have hbo : b < wo.heap.size := HB.out.lt
        have HH := Lib.hid (hex_any x.id w3)
        clear hr hX hb3
        go_wp2_with (first
          | refine ld43 rfl _ rfl _ _ rfl x HR.out ?_
          | (refine new43 rfl rfl rfl _ _ rfl rfl x rfl rfl ?_; rw [← hw3.out])
          | refine ld39 rfl _ rfl _ _ rfl x.id HI.out ?_)
        clear hw3
        refine HH.out.mono ?_
        rintro e w4 ⟨rfl, hb4⟩
        have HN4 : Hid (w4.heap[wo.heap.size]? = some (.cells (eRf x).toArray 43 (0, 0))) := Lib.hid ((hb4.block _ (Array.getElem?_eq_some_iff.1 HN.out).1).trans HN.out)
        have HB4 := Lib.hid (HB3.out.ext hb4)
        have HW4 := Lib.hid (bthen HW3.out hb4)
        clear hb4 HH
        go_wp2_with fail
        refine (HB4.out.write (hexF x.id) (by omega)).mono ?_
        rintro e w5 ⟨rfl, h1, h2, h3⟩
        have HB5 := Lib.hid h1
        have HN5 := Lib.hid (kept43 h3 HN4.out (by omega))
        have HW5 := Lib.hid (HW4.out.trans (h2.mono (Nat.le_of_eq Hb.out)))
        clear h1 h2 h3
        have c1 : (⟨#[32]⟩ : ByteArray) = bstr [32] := rfl
        have c2 : (⟨#[10]⟩ : ByteArray) = bstr [10] := rfl
        go_wp2_with fail
        refine (HB5.out.write [32] (by rw [List.length_append]; simp; omega)).mono ?_
        rintro e w6 ⟨rfl, h1, h2, h3⟩
        have HB6 := Lib.hid h1
        have HN6 := Lib.hid (kept43 h3 HN5.out (by omega))
        have HW6 := Lib.hid (HW5.out.trans (h2.mono (Nat.le_of_eq Hb.out)))
        have e6 : w6.cell? ⟨wo.heap.size, 0, none⟩ = some (.string (bstr x.nm)) := range_nm (r := x) (range_of_heap HN6.out)
        clear h1 h2 h3
        go_wp2_with fail
        refine (HB6.out.write x.nm (by rw [List.length_append, List.length_append]; simp; omega)).mono ?_
        rintro e w7 ⟨rfl, h1, h2, h3⟩
        have HB7 := Lib.hid h1
        have HW7 := Lib.hid (HW6.out.trans (h2.mono (Nat.le_of_eq Hb.out)))
        clear h1 h2 h3 e6
        go_wp2_with fail
        refine (HB7.out.write [10] (by rw [List.length_append, List.length_append, List.length_append]; simp; omega)).mono ?_
        rintro e w8 ⟨rfl, h1, h2, h3⟩
        have HB8 : Hid (Bd b (textF (l.take (k + 1))) w8) := Lib.hid (by rw [HT.out]; exact h1)
        have HW8 := Lib.hid (HW7.out.trans (h2.mono (Nat.le_of_eq Hb.out)))
        clear h1 h2 h3 c1 c2
        go_wp2_with fail
        go_roundw
        case rel => exact ⟨k + 1, by go_num, by omega, HB8, HW8⟩
        case measure => simp [intOf]; omega
      · obtain rfl : k = l.length := by omega
        have d2 : decide ((l.length : Int) < (l.length : Int)) = false := decide_eq_false (by omega)
        have HB9 : Hid (Bd b (textF l) wo) := Lib.hid (by have := HB.out; rwa [List.take_length] at this)
        have htl := textF_len l HRg.out
        have HC := Lib.hid HB9.out.string
        go_wp2_with fail
        refine HC.out.mono ?_
        rintro e w9 ⟨rfl, hb9⟩
        have HW9 := Lib.hid (HW.out.trans (hb9.mono (Nat.le_of_eq Hb.out)))
        clear hb9 HC
        obtain ⟨cap, hcv, hsl, hbc⟩ := conv_bytes w9 (textF l) (by omega)
        have HSl := Lib.hid hsl
        have HW10 := Lib.hid (bthen (bthen HW1.out HW9.out) hbc)
        clear hsl hbc
        go_wp2_with fail
        go_ret2
        rw [HZ.out]
        exact ⟨_, rfl, HSl.out, HW10.out⟩
  · have hne : (c == 0) = false := by rw [beq_eq_false_iff_ne]; exact h0
    have HZ : Hid (putF l = ([], c)) := Lib.hid (by unfold putF; rw [if_neg (by rw [hc.out]; exact h0), hc.out])
    go_wp2_with fail
    go_ret2
    rw [HZ.out]
    exact ⟨_, rfl, Sl.nil _ _ _, HW1.out⟩

theorem run_sadd (a b : List UInt8) (h : a.length + b.length ≤ 9223372036854775807) (w : World) : (binOp .add 9 (.string (bstr a)) (.string (bstr b))).run Tryd.prog w = .ok (.string (bstr (a ++ b))) w := by
  have h2 : ¬ (((bstr a).size + (bstr b).size : Nat) : Int) > IntKind.i64.max := by
    rw [bstr_size, bstr_size]
    show ¬ _ > (9223372036854775807 : Int)
    omega
  simp only [binOp, Op.stringOp, if_neg h2, Sem.run_pure, bstr_append]

set_option maxRecDepth 100000 in
set_option maxHeartbeats 2000000 in
theorem rput_any (v : Value) (l : List Go.Sl.Rf) (w : World) (hv : Sl eRf 33 w v l) (hl : ∀ r ∈ l, r.nm.length ≤ 9223372036854775807) :
    Calls Tryd.prog 55 #[v] w fun e w' => ∃ bv, e = .returned (.tuple #[bv, .int .i64 (putF l).2]) ∧ Sl eByte 1 w' bv (putF l).1 ∧ Below w.heap.size w w' := by
  have hlen := hv.run_len (P := Tryd.prog) Tryd.underlying37
  have HV := Lib.hid hv
  obtain ⟨c, hc⟩ : ∃ c, Hid (chk l = c) := ⟨_, Lib.hid rfl⟩
  have HC := Lib.hid (rcheck_any v l w hv hl)
  rw [hc.out] at HC
  clear hv hl
  go_enter Tryd.func55, Tryd.ntmps55
  go_wp2_with fail
  refine HC.out.mono ?_
  rintro e w1 ⟨rfl, hb⟩
  have HW1 := Lib.hid hb
  clear hb HC
  by_cases h0 : c = 0
  · subst h0
    obtain ⟨hl64, hrg, -⟩ := chk_ok hc.out
    have HRg := Lib.hid (fun r hr => rgt_len (hrg r hr))
    have HZ : Hid (putF l = (textF l, 0)) := Lib.hid (by unfold putF; rw [if_pos hc.out])
    have c1 : (⟨#[32]⟩ : ByteArray) = bstr [32] := rfl
    have c2 : (⟨#[10]⟩ : ByteArray) = bstr [10] := rfl
    clear hrg
    go_wp2_with fail
    go_loopw [5, 6] (fun s5 i wr => ∃ k : Nat, s5 = .string (bstr (textF (l.take k))) ∧ i = .int .i64 k ∧ k ≤ l.length ∧ Hid (Below w1.heap.size w1 wr)) (fun _ i _ => l.length - (intOf i).toNat)
    case atStart => exact ⟨0, rfl, rfl, by omega, Lib.hid (Below.refl _ _)⟩
    case round =>
      obtain ⟨wo, rfl⟩ : ∃ u : World, u = wr := ⟨_, rfl⟩
      obtain ⟨k, rfl, rfl, hk, HW⟩ := hrel
      by_cases hlt : k < l.length
      · have d2 : decide ((k : Int) < (l.length : Int)) = true := decide_eq_true (by omega)
        obtain ⟨b5, o5, hb5, hix, hr⟩ := HV.out.rangeB len_eRf (bthen HW1.out HW.out) (P := Tryd.prog) Tryd.underlying37 cells43 some43 hlt
        obtain ⟨x, hx⟩ : ∃ x, Hid (l[k] = x) := ⟨_, Lib.hid rfl⟩
        rw [hx.out] at hr
        have hxl : x.nm.length ≤ 120 := HRg.out x (by rw [← hx.out]; exact List.getElem_mem hlt)
        have HT := Lib.hid (textF_take l hlt hx.out)
        obtain ⟨X, hX⟩ : ∃ X, Hid (textF (l.take k) = X) := ⟨_, Lib.hid rfl⟩
        have hXl : X.length ≤ 186 * k := by
          rw [← hX.out]
          have := textF_len (l.take k) (fun r hr => HRg.out r (List.mem_of_mem_take hr))
          rw [List.length_take] at this; omega
        rw [hX.out] at HT ⊢
        have hhl := hexF_len x.id
        obtain ⟨i, hi⟩ : ∃ i, Hid (x.id = i) := ⟨_, Lib.hid rfl⟩
        obtain ⟨h, hh⟩ : ∃ h, Hid (hexF i = h) := ⟨_, Lib.hid rfl⟩
        rw [hi.out, hh.out] at HT hhl
        have HS : Hid (wo.drew.rangeAt b5 (o5 + 1) (eId i) ∧ wo.drew.cell? ⟨b5, o5, none⟩ = some (.string (bstr x.nm)) ∧ Below w1.heap.size w1 wo.drew) := Lib.hid ⟨by rw [← hi.out]; exact range_id hr, range_nm hr, HW.out.drew⟩
        have HH := Lib.hid (rhex_any i)
        rw [hh.out] at HH
        have hu39 := Tryd.underlying39
        have hi39 : (Tryd.prog.info? 39).map (·.size) = some (eId i).length := by rw [size39, len_eId]
        have hb5' : b5 < w1.heap.size := Nat.lt_of_lt_of_le hb5 HW1.out.size
        have n1 : ¬ 9223372036854775807 < X.length + 64 := by omega
        have n2 : ¬ 9223372036854775807 < X.length + 64 + 1 := by omega
        have n3 : ¬ 9223372036854775807 < X.length + 65 + x.nm.length := by omega
        have n4 : ¬ 9223372036854775807 < X.length + (64 + (x.nm.length + 1)) + 1 := by omega
        have HT2 : Hid (textF (l.take (k + 1)) = X ++ (h ++ 32 :: (x.nm ++ [10]))) := Lib.hid (by rw [HT.out]; simp)
        clear hr hX
        go_wp2_with fail
        go_region_held3 (fun u => u.rangeAt b5 (o5 + 1) (eId i) ∧ u.cell? ⟨b5, o5, none⟩ = some (.string (bstr x.nm)) ∧ Below w1.heap.size w1 u)
          (first
            | exact HS.out
            | (go_split_ands; exact ⟨rangeAt_below (by assumption) (by assumption) (Nat.lt_of_lt_of_le hb5' (Below.size (by assumption))), (Below.cell (by assumption) (Nat.lt_of_lt_of_le hb5' (Below.size (by assumption)))).trans (by assumption), bthen (by assumption) (by assumption)⟩)
            | (go_split_ands; exact ⟨by assumption, by assumption, by assumption⟩))
          (first
            | (go_at_call 82; (with_reducible refine (HH.out _).mono ?_); rintro e w3 ⟨rfl, hb3⟩))
        rename_i hHeld
        have HB9 := Lib.hid hHeld.2.2
        clear hHeld
        go_wp2_with fail
        go_roundw
        case rel => exact ⟨k + 1, by rw [HT2.out], by go_num, by omega, HB9⟩
        case measure => simp [intOf]; omega
      · obtain rfl : k = l.length := by omega
        have d2 : decide ((l.length : Int) < (l.length : Int)) = false := decide_eq_false (by omega)
        have htl := textF_len l HRg.out
        have HT : Hid (textF (l.take l.length) = textF l) := Lib.hid (by rw [List.take_length])
        rw [HT.out]
        obtain ⟨cap, hcv, hsl, hbc⟩ := conv_bytes wo (textF l) (by omega)
        have HSl := Lib.hid hsl
        have HW10 := Lib.hid (bthen (bthen HW1.out HW.out) hbc)
        clear hsl hbc
        go_wp2_with fail
        go_ret2
        rw [HZ.out]
        exact ⟨_, rfl, HSl.out, HW10.out⟩
  · have hne : (c == 0) = false := by rw [beq_eq_false_iff_ne]; exact h0
    have HZ : Hid (putF l = ([], c)) := Lib.hid (by unfold putF; rw [if_neg (by rw [hc.out]; exact h0), hc.out])
    go_wp2_with fail
    go_ret2
    rw [HZ.out]
    exact ⟨_, rfl, Sl.nil _ _ _, HW1.out⟩
end Go.Proofs.YtopamnfelngkcaaDoor.Rf
