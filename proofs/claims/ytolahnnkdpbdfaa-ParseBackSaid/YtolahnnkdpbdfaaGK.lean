/-
  Layer 28: which questions may be, and their texts, in plain Lean. No program is named here.
  Layer 28: may a step be? The program's letters and Step.right. No condition.
  Layer 28: may a step be? The program's Step.right. No condition.
  Layer 28: may a rev be? The program's Rev.right. No condition besides what lies where.
  Layer 28: the first step that may not be. No condition besides what lies where.
  Layer 28: may a commit be? The program's Rev.right. No condition besides what lies where.
  Layer 28: may an item be? The program's Item.right. No condition besides what lies where.
  Layer 28: may a question be? The program's Check. No condition besides what lies where and that its words are short.
-/
import Derived.Test.YtolahnnkdpbdfaaGA
import Derived.Test.YtolahnnkdpbdfaaGD
import Derived.Test.YtolahnnkdpbdfaaGI
namespace Go.Prs
open Go.Lex
/-- may a step be? -/
def okSt (s : St) : Bool := decide (1 ≤ s.k ∧ s.k ≤ 3 ∧ 0 ≤ s.n ∧ s.n ≤ 9999 ∧ (s.k = 3 → s.n = 0) ∧ (s.k < 3 → s.w = [])) && s.w.all letter
def okRv (r : Rv) : Bool := base r.b && r.st.all okSt
def okIt (x : It) : Bool := decide (1 ≤ x.k ∧ x.k ≤ 3) && okRv x.a && (if x.k = 1 then decide (x.b = zRv) else okRv x.b)
def okQy (q : Qy) : Bool := q.its.all okIt && decide (-1 ≤ q.mx ∧ q.mx ≤ 9999 ∧ 0 ≤ q.sk ∧ q.sk ≤ 9999 ∧ 0 ≤ q.od ∧ q.od ≤ 2)
/-- a number below 10000 as text -/
def ud (k : Nat) : UInt8 := UInt8.ofNat (48 + k)
def dgN (m : Nat) : List UInt8 :=
  if m < 10 then [ud m] else if m < 100 then [ud (m / 10), ud (m % 10)] else
  if m < 1000 then [ud (m / 100), ud (m / 10 % 10), ud (m % 10)] else [ud (m / 1000), ud (m / 100 % 10), ud (m / 10 % 10), ud (m % 10)]
def dg (n : Int) : List UInt8 := dgN n.toNat
def num (n : Int) : List UInt8 := if n = 1 then [] else dg n
def stT (s : St) : List UInt8 := if s.k = 1 then 94 :: num s.n else if s.k = 2 then 126 :: num s.n else if s.k = 3 then [94, 123] ++ s.w ++ [125] else []
def rvT (r : Rv) : List UInt8 := r.b ++ (r.st.map stT).flatten
def itT (x : It) : List UInt8 :=
  if x.k = 1 then (if x.nt then 94 :: rvT x.a else rvT x.a) else
  (if x.nt then "--not ".toUTF8.data.toList else []) ++ (rvT x.a ++ ((if x.k = 2 then [46, 46] else [46, 46, 46]) ++ rvT x.b)) ++ (if x.nt then " --not".toUTF8.data.toList else [])
/-- the text with a blank ahead of each part -/
def qyT (q : Qy) : List UInt8 :=
  (if q.od = 1 then " --topo".toUTF8.data.toList else []) ++ (if q.od = 2 then " --time".toUTF8.data.toList else []) ++ (if 0 ≤ q.mx then " --max=".toUTF8.data.toList ++ dg q.mx else []) ++
  (if 0 < q.sk then " --skip=".toUTF8.data.toList ++ dg q.sk else []) ++ (if q.fi then " --first".toUTF8.data.toList else []) ++ (if q.rv then " --reverse".toUTF8.data.toList else []) ++
  (q.its.map (fun x => 32 :: itT x)).flatten
/-- the text of a question, and the error -/
def print (q : Qy) : List UInt8 × Nat :=
  if okQy q = true then (if 201 < (qyT q).length then ([], 3) else ((qyT q).tail, 0)) else ([], 2)
end Go.Prs

namespace Go.Prs
open Go.Lex
theorem while_brace : ∀ l : List UInt8, whileN letter (l ++ [125]) = whileN letter l
  | [] => by rfl
  | c :: l => by simp only [List.cons_append, whileN, while_brace l]
theorem while_all : ∀ l : List UInt8, whileN letter l = l.length ↔ l.all letter = true
  | [] => by simp [whileN]
  | c :: l => by
    have := while_all l
    simp only [whileN, List.all_cons, List.length_cons]
    by_cases h : letter c = true
    · rw [if_pos h, h, Bool.true_and, ← this]; omega
    · rw [if_neg h]; simp [h]
theorem right_brace (l : List UInt8) : right 7 (123 :: (l ++ [125])) 0 = l.all letter := by
  have h1 : one (123 :: (l ++ [125])) = (7, brace (123 :: (l ++ [125]))) := rfl
  have h2 : brace (123 :: (l ++ [125])) = if (123 :: (l ++ [125]))[whileN letter l + 1]? = some 125 then whileN letter l + 2 else 0 := by
    unfold brace
    rw [show (123 :: (l ++ [125])).drop 1 = l ++ [125] from rfl, while_brace]
  have hle := whileN_le letter l
  unfold right
  rw [Bool.eq_iff_iff, ← while_all, decide_eq_true_iff, if_neg (by simp), h1, h2]
  simp only [List.length_cons, List.length_append, List.length_nil, List.getElem?_cons_succ]
  constructor
  · rintro ⟨-, h, -⟩
    split at h <;> omega
  · intro h
    rw [h, if_pos (by simp)]
    exact ⟨by decide, by omega, rfl⟩
end Go.Prs
namespace Go.Proofs.Ytolahnnkdpbdfaa
open Go.Proofs Go.RowKit Go.Shelf Go.Sl Go.Prs
set_option maxRecDepth 100000 in
set_option maxHeartbeats 4000000 in
theorem letters1_any (l : List UInt8) (t : Bool) (ht : l.all Lex.letter = t) (w : World) (hl : l.length ≤ 9000) : Calls Try.prog 101 #[.string (bstr l)] w fun e w' => e = .returned (.bool t) ∧ Below w.heap.size w w' := by
  have hR := Lib.hid (fun u => right_any 7 (123 :: (l ++ [125])) 0 t ((right_brace l).trans ht) u (by simp; omega))
  clear ht
  go_enter Try.func101, Try.ntmps101
  go_wp2_with fail
  rw [show ((⟨#[123]⟩ : ByteArray) ++ bstr l ++ ⟨#[125]⟩) = bstr (123 :: (l ++ [125])) by show bstr [123] ++ bstr l ++ bstr [125] = _; rw [bstr_append, bstr_append]; rfl]
  refine (hR.out w).mono ?_
  rintro e w1 ⟨rfl, hb⟩
  go_wp2_with fail
  go_ret
  exact ⟨rfl, hb⟩
end Go.Proofs.Ytolahnnkdpbdfaa

namespace Go.Proofs.Ytolahnnkdpbdfaa
open Go.Proofs Go.RowKit Go.Shelf Go.Sl Go.Prs
set_option maxRecDepth 100000 in
set_option maxHeartbeats 4000000 in
theorem stepRight_any (k n : Int) (l : List UInt8) (w : World) (hl : l.length ≤ 9000) : Calls Try.prog 95 #[.agg #[.int .i64 k, .int .i64 n, .string (bstr l)]] w fun e w' => e = .returned (.bool (okSt ⟨k, n, l⟩)) ∧ Below w.heap.size w w' := by
  have hR := Lib.hid (fun u => letters1_any l _ rfl u hl)
  have hA : l.all Lex.letter = true ∨ l.all Lex.letter = false := by cases l.all Lex.letter <;> simp
  have HX : Hid (∀ t : Bool, (okSt ⟨k, n, l⟩ = t) → ∀ w', Below w.heap.size w w' → (Ending.returned (.bool t) = Ending.returned (.bool (okSt ⟨k, n, l⟩)) ∧ Below w.heap.size w w')) := Lib.hid (fun t h w' hb => ⟨by rw [h], hb⟩)
  go_enter Try.func95, Try.ntmps95
  go_wp2_with fail
  all_goals first
    | (go_ret
       refine HX.out _ ?_ _ ((Below.refl _ _).alloc (Nat.le_refl _) _)
       clear HX hR hA
       cases l <;> simp_all [okSt] <;> omega)
    | (refine (hR.out _).mono ?_
       rintro e w1 ⟨rfl, hb⟩
       go_wp2_with fail
       go_ret
       refine HX.out _ ?_ _ (((Below.refl w.heap.size w).alloc (Nat.le_refl _) _).trans (hb.mono (by simp)))
       clear HX hR hA
       simp_all [okSt])
end Go.Proofs.Ytolahnnkdpbdfaa

namespace Go.Proofs.Ytolahnnkdpbdfaa
open Go.Proofs Go.RowKit Go.Shelf Go.Sl Go.Prs
set_option maxRecDepth 100000 in
set_option maxHeartbeats 4000000 in
theorem notRight_any (k n : Int) (l : List UInt8) (w : World) (hl : l.length ≤ 9000) : Calls Try.prog 94 #[.agg #[.int .i64 k, .int .i64 n, .string (bstr l)]] w fun e w' => e = .returned (.bool (!okSt ⟨k, n, l⟩)) ∧ Below w.heap.size w w' := by
  have hR := Lib.hid (fun u => stepRight_any k n l u hl)
  go_enter Try.func94, Try.ntmps94
  go_wp2_with fail
  refine (hR.out _).mono ?_
  rintro e w1 ⟨rfl, hb⟩
  go_wp2_with fail
  go_ret
  exact ⟨rfl, ((Below.refl w.heap.size w).alloc (Nat.le_refl _) _).trans (hb.mono (by simp))⟩
end Go.Proofs.Ytolahnnkdpbdfaa

namespace Go.Proofs.Ytolahnnkdpbdfaa
open Go.Proofs Go.RowKit Go.Shelf Go.Sl Go.Prs
set_option maxRecDepth 100000 in
set_option maxHeartbeats 4000000 in
theorem indexF_any (v : Value) (l : List St) (w : World) (h : Sl eSt 3 w v l) (hw : ∀ s ∈ l, s.w.length ≤ 9000) (hl : l.length ≤ 1000) :
    Calls Try.prog 100 #[v, .func (.func 94) #[] #[]] w fun e w' => Below w.heap.size w w' ∧ ∃ i : Int, e = .returned (.int .i64 i) ∧ (l.all okSt = true → i = -1) ∧ (l.all okSt = false → 0 ≤ i) := by
  have HS := Lib.hid h
  have HWd := Lib.hid hw
  obtain ⟨ao, cap, rfl, -⟩ := h.shp
  clear h hw
  go_enter Try.func100, Try.ntmps100
  go_wp2_with fail
  go_loopw [8] (fun i wr => ∃ k : Nat, k ≤ l.length ∧ i = .int .i64 k ∧ Hid ((l.take k).all okSt = true) ∧ Hid (Below w.heap.size w wr)) (fun i _ => l.length - (intOf i).toNat)
  case atStart => exact ⟨0, by omega, rfl, Lib.hid rfl, Lib.hid (Below.refl _ _)⟩
  case round =>
    obtain ⟨k, hk, rfl, HT, HB⟩ := hrel
    by_cases hlt : k < l.length
    · obtain ⟨b5, o5, h5, hix, hc⟩ := (HS.out.ext HB.out).at (P := Try.prog) Try.underlying79 (by kernel_rfl) (by kernel_rfl) hlt
      have c0 := hc 0 (by omega)
      have c1 := hc 1 (by omega)
      have c2 := hc 2 (by omega)
      simp [eSt] at c0 c1 c2
      have hN := Lib.hid (fun u => notRight_any (l[k]).k (l[k]).n (l[k]).w u (HWd.out _ (List.getElem_mem _)))
      have hd : decide ((k : Int) < (l.length : Int)) = true := decide_eq_true (by omega)
      clear hc
      go_wp2_with fail
      refine (hN.out _).mono ?_
      rintro e w1 ⟨rfl, hb⟩
      have HB2 := Lib.hid (HB.out.trans (hb.mono HB.out.size))
      clear hb
      by_cases hq : okSt l[k] = true
      · have hq1 : okSt ⟨l[k].k, l[k].n, l[k].w⟩ = true := hq
        have HT2 : Hid ((l.take (k + 1)).all okSt = true) := Lib.hid (by rw [List.take_succ_eq_append_getElem hlt, List.all_append, HT.out]; simp [hq])
        rw [hq1]
        clear hq hq1
        go_wp2_with fail
        go_roundw
        case rel => exact ⟨k + 1, by omega, by go_num, HT2, HB2⟩
        case measure => simp [intOf]; omega
      · have hq1 : okSt ⟨l[k].k, l[k].n, l[k].w⟩ = false := by simpa using hq
        have HZ : Hid (l.all okSt = false) := Lib.hid (by
          rw [Bool.eq_false_iff]; intro h
          exact hq (List.all_eq_true.1 h _ (List.getElem_mem hlt)))
        rw [hq1]
        clear hq hq1
        go_wp2_with fail
        go_ret
        exact ⟨HB2.out, _, rfl, fun e => (by rw [HZ.out] at e; cases e), fun _ => by omega⟩
    · have hd : decide ((k : Int) < (l.length : Int)) = false := decide_eq_false (by omega)
      obtain rfl : k = l.length := by omega
      have HA := Lib.hid (show l.all okSt = true by rw [← List.take_length (l := l)]; exact HT.out)
      go_wp2_with fail
      go_ret
      exact ⟨HB.out, -1, rfl, fun _ => rfl, fun e => by rw [HA.out] at e; cases e⟩
set_option maxRecDepth 100000 in
set_option maxHeartbeats 4000000 in
theorem containsF_any (v : Value) (l : List St) (t : Bool) (ht : l.all okSt = t) (w : World) (h : Sl eSt 3 w v l) (hw : ∀ s ∈ l, s.w.length ≤ 9000) (hl : l.length ≤ 1000) :
    Calls Try.prog 93 #[v, .func (.func 94) #[] #[]] w fun e w' => e = .returned (.bool (!t)) ∧ Below w.heap.size w w' := by
  have HI := Lib.hid (indexF_any v l w h hw hl)
  have HT := Lib.hid ht
  clear h hw ht
  go_enter Try.func93, Try.ntmps93
  go_wp2_with fail
  refine HI.out.mono ?_
  rintro e w1 ⟨hb, i, rfl, h1, h2⟩
  have HB := Lib.hid hb
  have hd : decide ((0 : Int) ≤ i) = !t := by
    cases t
    · exact decide_eq_true (h2 HT.out)
    · rw [h1 HT.out]; rfl
  clear hb h1 h2
  go_wp2_with fail
  go_ret
  exact ⟨rfl, HB.out⟩
end Go.Proofs.Ytolahnnkdpbdfaa

namespace Go.Proofs.Ytolahnnkdpbdfaa
open Go.Proofs Go.RowKit Go.Shelf Go.Sl Go.Prs
/-- short words -/
def Sm (r : Rv) : Prop := r.b.length ≤ 9000 ∧ r.st.length ≤ 1000 ∧ ∀ s ∈ r.st, s.w.length ≤ 9000
set_option maxRecDepth 100000 in
set_option maxHeartbeats 4000000 in
theorem rvRight_any (r : Rv) (v : Value) (t : Bool) (ht : okRv r = t) (w : World) (h : Sl eSt 3 w v r.st) (hs : Sm r) :
    Calls Try.prog 78 #[.agg #[.string (bstr r.b), v]] w fun e w' => e = .returned (.bool t) ∧ Below w.heap.size w w' := by
  obtain ⟨b, l⟩ := r
  simp only at h hs ⊢
  have HC := Lib.hid (fun u (hu : Below w.heap.size w u) => containsF_any v l _ rfl u (h.ext hu) hs.2.2 hs.2.1)
  obtain ⟨a0, n0, c0, rfl⟩ := h.isSlice
  have hB := fun u => base_any b _ rfl u (by have := hs.1; simp only at this; omega)
  unfold okRv at ht
  simp only at ht
  have HA := Lib.hid (fun o => (Below.refl w.heap.size w).alloc (Nat.le_refl _) o)
  clear h hs
  obtain ⟨x, hx⟩ : ∃ x, base b = x := ⟨_, rfl⟩
  obtain ⟨y, hy⟩ : ∃ x, l.all okSt = x := ⟨_, rfl⟩
  rw [hx] at hB ht
  rw [hy] at HC ht
  have HBs := Lib.hid hB
  clear hx hy hB
  cases x
  · subst ht
    go_enter Try.func78, Try.ntmps78
    go_wp2_with fail
    refine (HBs.out _).mono ?_
    rintro e w1 ⟨rfl, hb⟩
    have HB1 := Lib.hid ((HA.out _).trans (hb.mono (by simp)))
    clear hb
    go_wp2_with fail
    go_ret
    exact ⟨rfl, HB1.out⟩
  · subst ht
    go_enter Try.func78, Try.ntmps78
    go_wp2_with fail
    refine (HBs.out _).mono ?_
    rintro e w1 ⟨rfl, hb⟩
    have HB1 := Lib.hid ((HA.out _).trans (hb.mono (by simp)))
    have hk := (hb.block _ (by simp)).trans (heap_alloc_new w (.cells #[.string (bstr b), .slice a0 n0 c0] 81))
    obtain ⟨_, k0, k1, _, _⟩ := two_cells hk
    have kf := bk_frozen ⟨_, hk⟩
    clear hb hk
    go_wp2_with fail
    refine (HC.out _ HB1.out).mono ?_
    rintro e w2 ⟨rfl, hb⟩
    have HB2 := Lib.hid (HB1.out.trans (hb.mono HB1.out.size))
    clear hb
    go_wp2_with fail
    go_ret
    exact ⟨by simp, HB2.out⟩
end Go.Proofs.Ytolahnnkdpbdfaa

namespace Go.Proofs.Ytolahnnkdpbdfaa
open Go.Proofs Go.RowKit Go.Shelf Go.Sl Go.Prs
theorem zrv_nil {r : Rv} (h : r.b = []) : decide (r = zRv) = ((r.st.length : Int) == 0) := by
  obtain ⟨b, l⟩ := r
  simp only at h
  subst h
  cases l
  · rfl
  · simp [zRv]; omega
theorem zrv_ne {r : Rv} (h : ¬ r.b = []) : ¬ r = zRv := fun e => h (by rw [e]; rfl)
theorem okIt_kind {x : It} (h1 : (x.k == 1) = false) (h2 : (x.k == 2) = false) (h3 : (x.k == 3) = false) : okIt x = false := by
  have e1 : x.k ≠ 1 := by simpa using h1
  have e2 : x.k ≠ 2 := by simpa using h2
  have e3 : x.k ≠ 3 := by simpa using h3
  unfold okIt
  rw [decide_eq_false (by omega)]; rfl
set_option maxRecDepth 100000 in
set_option maxHeartbeats 4000000 in
theorem itRight_any (x : It) (va vb : Value) (t : Bool) (ht : okIt x = t) (w : World) (h1 : Sl eSt 3 w va x.a.st) (h2 : Sl eSt 3 w vb x.b.st) (s1 : Sm x.a) (s2 : Sm x.b) :
    Calls Try.prog 55 #[.agg #[.int .i64 x.k, .string (bstr x.a.b), va, .string (bstr x.b.b), vb, .bool x.nt]] w fun e w' => e = .returned (.bool t) ∧ Below w.heap.size w w' := by
  have HA := Lib.hid (fun u (hu : Below w.heap.size w u) => rvRight_any x.a va _ rfl u (h1.ext hu) s1)
  have HB := Lib.hid (fun u (hu : Below w.heap.size w u) => rvRight_any x.b vb _ rfl u (h2.ext hu) s2)
  have HL := Lib.hid h2
  obtain ⟨a0, n0, c0, rfl⟩ := h1.isSlice
  obtain ⟨b0, cb, rfl, -⟩ := h2.shp
  have HS : Hid (Below w.heap.size w (w.alloc (.cells #[.int .i64 x.k, .string (bstr x.a.b), .slice a0 n0 c0, .string (bstr x.b.b), .slice b0 x.b.st.length cb, .bool x.nt] 83))) := Lib.hid ((Below.refl w.heap.size w).alloc (Nat.le_refl _) _)
  have HK := Lib.hid (heap_alloc_new w (.cells #[.int .i64 x.k, .string (bstr x.a.b), .slice a0 n0 c0, .string (bstr x.b.b), .slice b0 x.b.st.length cb, .bool x.nt] 83))
  have HX : Hid (∀ t' : Bool, okIt x = t' → ∀ w', Below w.heap.size w w' → (Ending.returned (.bool t') = Ending.returned (.bool t) ∧ Below w.heap.size w w')) := Lib.hid (fun t' h w' hb => ⟨by rw [← h, ht], hb⟩)
  clear h1 h2 s1 s2 ht
  obtain ⟨pa, hpa⟩ : ∃ p, Hid (okRv x.a = p) := ⟨_, Lib.hid rfl⟩
  obtain ⟨pb, hpb⟩ : ∃ p, Hid (okRv x.b = p) := ⟨_, Lib.hid rfl⟩
  rw [hpa.out] at HA
  rw [hpb.out] at HB
  go_enter Try.func55, Try.ntmps55
  go_wp2_with fail
  all_goals first
    | (go_ret
       refine HX.out _ ?_ _ HS.out
       exact okIt_kind (by assumption) (by assumption) (by assumption))
    | (refine (HA.out _ HS.out).mono ?_
       rintro e w1 ⟨rfl, hb⟩
       have HB1 := Lib.hid (HS.out.trans (hb.mono HS.out.size))
       have hk := (hb.block _ (by simp)).trans HK.out
       obtain ⟨_, k0, k1, k2, k3, k4, k5⟩ := six_cells hk
       have kf := bk_frozen ⟨_, hk⟩
       clear hb hk
       cases pa
       · go_wp2_with fail
         go_ret
         refine HX.out _ ?_ _ HB1.out
         have := hpa.out
         clear HX HA HB HL HS HK
         simp_all [okIt]
         done
       · go_wp2_with fail
         all_goals first
           | (refine (HB.out _ HB1.out).mono ?_
              rintro e w2 ⟨rfl, hb⟩
              have HB2 := Lib.hid (HB1.out.trans (hb.mono HB1.out.size))
              clear hb
              go_wp2_with fail
              go_ret
              refine HX.out _ ?_ _ HB2.out
              have := hpa.out
              have := hpb.out
              clear HX HA HB HL HS HK
              simp_all [okIt]
              done)
           | (go_ret
              refine HX.out _ ?_ _ HB1.out
              have := hpa.out
              clear HX HA HB HL HS HK
              first
                | (simp_all [okIt]; done)
                | (simp_all [okIt]; exact zrv_nil (by assumption))
                | (simp_all [okIt]; exact zrv_ne (by assumption))))
end Go.Proofs.Ytolahnnkdpbdfaa

namespace Go.Proofs.Ytolahnnkdpbdfaa
open Go.Proofs Go.RowKit Go.Shelf Go.Sl Go.Prs
/-- short words in all items -/
def Sms (its : List It) : Prop := its.length ≤ 1000 ∧ ∀ x ∈ its, Sm x.a ∧ Sm x.b
def okNm (q : Qy) : Bool := decide (-1 ≤ q.mx ∧ q.mx ≤ 9999 ∧ 0 ≤ q.sk ∧ q.sk ≤ 9999 ∧ 0 ≤ q.od ∧ q.od ≤ 2)
theorem okQy_eq (q : Qy) : okQy q = (q.its.all okIt && okNm q) := rfl
def ckN (q : Qy) : Int := if okQy q = true then 0 else 2
theorem ret_int28 {x y : Int} (h : x = y) : Ending.returned (.int .i64 x) = .returned (.int .i64 y) := by rw [h]
set_option maxRecDepth 100000 in
set_option maxHeartbeats 8000000 in
theorem check_no (iv : Value) (q : Qy) (w : World) (hn : okNm q = false) (hv : ∃ a n c, iv = .slice a n c) :
    Calls Try.prog 30 #[qv iv q] w fun e w' => e = .returned (.int .i64 (ckN q)) ∧ Below w.heap.size w w' := by
  have HA := Lib.hid (fun o => (Below.refl w.heap.size w).alloc (Nat.le_refl _) o)
  have HZ : Hid (ckN q = 2) := Lib.hid (by unfold ckN; rw [okQy_eq, hn, Bool.and_false]; rfl)
  have HN := Lib.hid hn
  obtain ⟨ao, an, cap, rfl⟩ := hv
  clear hn
  unfold qv
  go_enter Try.func30, Try.ntmps30
  go_wp2_with fail
  all_goals first
    | (go_ret
       exact ⟨ret_int28 HZ.out.symm, HA.out _⟩)
    | (exfalso
       have h1 := HN.out
       unfold okNm at h1
       have h2 := of_decide_eq_false h1
       omega)
set_option maxRecDepth 100000 in
set_option maxHeartbeats 8000000 in
theorem check_yes (iv : Value) (q : Qy) (w : World) (h : IS w iv q.its) (hs : Sms q.its) (hn : okNm q = true) :
    Calls Try.prog 30 #[qv iv q] w fun e w' => e = .returned (.int .i64 (ckN q)) ∧ Below w.heap.size w w' := by
  obtain ⟨rs, hsl, hra⟩ := h
  have HS := Lib.hid hsl
  have HR := Lib.hid hra
  have HSm := Lib.hid hs
  have Hlen := Lib.hid (show rs.length = q.its.length from hra.len)
  obtain ⟨ao, cap, rfl, -⟩ := hsl.shp
  have HX : Hid (∀ t' : Int, ckN q = t' → ∀ w', Below w.heap.size w w' → (Ending.returned (.int .i64 t') = Ending.returned (.int .i64 (ckN q)) ∧ Below w.heap.size w w')) := Lib.hid (fun t' h w' hb => ⟨by rw [h], hb⟩)
  have HA := Lib.hid (fun o => (Below.refl w.heap.size w).alloc (Nat.le_refl _) o)
  have HIt : Hid (∀ (k : Nat) (hk : k < rs.length) (hk2 : k < q.its.length) (u : World), Below w.heap.size w u → Calls Try.prog 55 #[.agg #[.int .i64 rs[k].k, .string (bstr rs[k].ab), sv rs[k].av, .string (bstr rs[k].bb), sv rs[k].bv, .bool rs[k].nt]] u fun e w' => e = .returned (.bool (okIt q.its[k])) ∧ Below u.heap.size u w') := Lib.hid (by
    intro k hk hk2 u hu
    have hr := HR.out.get k hk hk2
    have hm := HSm.out.2 _ (List.getElem_mem hk2)
    have := itRight_any q.its[k] (sv rs[k].av) (sv rs[k].bv) _ rfl u (hr.av.ext hu) (hr.bv.ext hu) hm.1 hm.2
    rw [hr.k, hr.ab, hr.bb, hr.nt]
    exact this)
  have hm1 := hsl.len_le
  clear hsl hra hs HR HSm
  unfold qv
  have hn2 : -1 ≤ q.mx ∧ q.mx ≤ 9999 ∧ 0 ≤ q.sk ∧ q.sk ≤ 9999 ∧ 0 ≤ q.od ∧ q.od ≤ 2 := of_decide_eq_true hn
  obtain ⟨i1, i2, i3, i4, i5, i6⟩ := hn2
  have d1 : decide (q.mx < -1) = false := decide_eq_false (by omega)
  have d2 : decide ((9999 : Int) < q.mx) = false := decide_eq_false (by omega)
  have d3 : decide (q.sk < 0) = false := decide_eq_false (by omega)
  have d4 : decide ((9999 : Int) < q.sk) = false := decide_eq_false (by omega)
  have d5 : decide (q.od < 0) = false := decide_eq_false (by omega)
  have d6 : decide ((2 : Int) < q.od) = false := decide_eq_false (by omega)
  have Hn := Lib.hid hn
  clear i1 i2 i3 i4 i5 i6 hn
  go_enter Try.func30, Try.ntmps30
  go_wp2_with fail
  clear d1 d2 d3 d4 d5 d6
  go_loopw [36] (fun i wr => ∃ k : Nat, k ≤ rs.length ∧ i = .int .i64 k ∧ Hid ((q.its.take k).all okIt = true) ∧ Hid (Below w.heap.size w wr)) (fun i _ => rs.length - (intOf i).toNat)
  case atStart => exact ⟨0, by omega, rfl, Lib.hid rfl, Lib.hid (HA.out _)⟩
  case round =>
    obtain ⟨k, hk, rfl, HT, HB⟩ := hrel
    by_cases hlt : k < rs.length
    · have hlt2 : k < q.its.length := by rw [← Hlen.out]; exact hlt
      obtain ⟨b5, o5, h5, hix, hc⟩ := (HS.out.ext HB.out).at (P := Try.prog) Try.underlying45 cells83 some83 hlt
      have c0 := hc 0 (by omega)
      have c1 := hc 1 (by omega)
      have c2 := hc 2 (by omega)
      have c3 := hc 3 (by omega)
      have c4 := hc 4 (by omega)
      have c5 := hc 5 (by omega)
      simp only [eRi, List.getElem?_cons_zero, List.getElem?_cons_succ, Nat.add_zero] at c0 c1 c2 c3 c4 c5
      have hN := Lib.hid (HIt.out k hlt hlt2)
      have hd : decide ((k : Int) < (rs.length : Int)) = true := decide_eq_true (by omega)
      obtain ⟨x, hx⟩ : ∃ x, Hid (rs[k] = x) := ⟨_, Lib.hid rfl⟩
      rw [hx.out] at c0 c1 c2 c3 c4 c5 hN
      unfold sv at c2 c4 hN
      clear hc
      go_wp2_with fail
      have HBa := Lib.hid (HB.out.alloc HB.out.size (.cells #[.int .i64 x.k, .string (bstr x.ab), .slice x.av.1 x.av.2.1 x.av.2.2, .string (bstr x.bb), .slice x.bv.1 x.bv.2.1 x.bv.2.2, .bool x.nt] 83))
      refine (hN.out _ HBa.out).mono ?_
      rintro e w1 ⟨rfl, hb⟩
      have HB2 := Lib.hid (HBa.out.trans (hb.mono HBa.out.size))
      clear hb
      by_cases hq : okIt q.its[k] = true
      · have HT2 : Hid ((q.its.take (k + 1)).all okIt = true) := Lib.hid (by rw [List.take_succ_eq_append_getElem hlt2, List.all_append, HT.out]; simp [hq])
        rw [hq]
        clear hq
        go_wp2_with fail
        go_roundw
        case rel => exact ⟨k + 1, by omega, by go_num, HT2, HB2⟩
        case measure => simp [intOf]; omega
      · have hq1 : okIt q.its[k] = false := by simpa using hq
        have HZ : Hid (ckN q = 2) := Lib.hid (by
          unfold ckN
          rw [if_neg]; intro h
          rw [okQy_eq, Bool.and_eq_true] at h
          exact hq (List.all_eq_true.1 h.1 _ (List.getElem_mem hlt2)))
        rw [hq1]
        clear hq hq1
        go_wp2_with fail
        go_ret
        exact ⟨ret_int28 HZ.out.symm, HB2.out⟩
    · have hd : decide ((k : Int) < (rs.length : Int)) = false := decide_eq_false (by omega)
      obtain rfl : k = rs.length := by omega
      have HZ : Hid (ckN q = 0) := Lib.hid (by
        unfold ckN
        rw [if_pos]
        rw [okQy_eq, Hn.out, Bool.and_true, ← List.take_length (l := q.its), ← Hlen.out]; exact HT.out)
      go_wp2_with fail
      go_ret
      exact ⟨ret_int28 HZ.out.symm, HB.out⟩
theorem check_any (iv : Value) (q : Qy) (w : World) (h : IS w iv q.its) (hs : Sms q.its) :
    Calls Try.prog 30 #[qv iv q] w fun e w' => e = .returned (.int .i64 (ckN q)) ∧ Below w.heap.size w w' := by
  cases hn : okNm q
  · exact check_no iv q w hn h.isSlice
  · exact check_yes iv q w h hs hn
end Go.Proofs.Ytolahnnkdpbdfaa
