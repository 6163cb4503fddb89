/-
  Layer 20: Numbers: the map of the lines that are known; the closure that numbers a list. No condition besides what the arguments are.
-/
import Derived.Test.YtibebmdpjaknpaaW4
import Derived.Maps.OwnOps
import Derived.Maps.OwnSet
import Derived.OwnWalk
import Derived.StringKeys
namespace Go.Proofs.Ytibebmdpjaknpaa
open Go.RowKit Go.Sl Go.Maps
set_option linter.unusedVariables false

/-- a map that gives each of ks its place -/
structure NumD (D : DataW Unit) (ks : List (List UInt8)) : Prop where
  tidy : Tidy D
  size : Maps.size D = ks.length
  has : ∀ s, Maps.has D (.string s) = decide (s ∈ ks)
  get : ∀ s ∈ ks, ∀ z, D.atKey (.string s) z = .lit (.int .i64 (Line.fst ks s : Nat))

theorem NumD.nil : NumD (.map []) [] := ⟨tidy_empty, rfl, fun s => by simp [Maps.has], fun s h => by simp at h⟩
theorem NumD.put {D : DataW Unit} {ks : List (List UInt8)} (h : NumD D ks) {s : List UInt8} (hs : ¬ s ∈ ks) : NumD (D.put (.string s) (.lit (.int .i64 (ks.length : Nat)))) (ks ++ [s]) := by
  have hk : WideAt.IsKeyLit (.string s) := trivial
  refine ⟨h.tidy.put hk _, ?_, fun t => ?_, fun t ht z => ?_⟩
  · rw [size_put h.tidy, h.has, if_neg (by simp [hs]), h.size]; simp
  · by_cases e : t = s
    · subst e; rw [has_put_same h.tidy.isMap hk]; simp
    · rw [has_put_other (by intro e2; cases e2; exact e rfl), h.has]
      simp [e]
  · by_cases e : t = s
    · subst e; rw [atKey_put_same h.tidy.isMap hk, Line.fst_snoc hs]
    · have ht2 : t ∈ ks := by
        rcases List.mem_append.1 ht with h1 | h1
        · exact h1
        · simp at h1; exact absurd h1 e
      rw [atKey_put_other (by intro e2; cases e2; exact e rfl), h.get t ht2, Line.fst_app ht2]

theorem law9 : Keyed Try.prog 9 := string_keyed Try.underlying9
theorem zero3 (w : World) : (zeroValue 3).run Try.prog w = .ok (.int .i64 0) w := by kernel_rfl

/-- a world in which but one old block has been turned, and a row beyond it -/
theorem grown_beyond {w w' w'' : World} {r : Option Nat} {row : Option Nat} (h : w.grownBy w' r) (h2 : w'.grownBy w'' row) (hr : ∀ k, row = some k → w.heap.size ≤ k) : w.grownBy w'' r :=
  ⟨h2.os.trans h.os, h2.tape.trans h.tape, h2.output.trans h.output, Nat.le_trans h.size h2.size, fun k hk hne => (h2.block k (Nat.lt_of_lt_of_le hk h.size) (fun e => by have := hr k e.symm; omega)).trans (h.block k hk hne)⟩
theorem grown_same {w w' w'' : World} {r : Option Nat} (h : w.grownBy w' r) (h2 : w'.grownBy w'' r) : w.grownBy w'' r :=
  ⟨h2.os.trans h.os, h2.tape.trans h.tape, h2.output.trans h.output, Nat.le_trans h.size h2.size, fun k hk hne => (h2.block k (Nat.lt_of_lt_of_le hk h.size) hne).trans (h.block k hk hne)⟩
theorem own_not_map {α : Type} {en : α → List Value} {s base : Nat} {e : TypeId} {v : Value} {l : List α} {W : World} {K : TypeId} {R : Value → Option (DataW Unit × List MemPlace)} {b n : Nat} {D : DataW Unit} (h : Sl.Own en s base e W v l) (hm : W.ownsMap Try.prog K R b n D) : v.ownBlock ≠ some b := by
  intro hv
  obtain ⟨es, cl, h1, _⟩ := hm
  rcases h.2 with ⟨rfl, _⟩ | ⟨g', cap, cur, rfl, _, hg', _⟩
  · cases hv
  · have : g' = b := by simpa [Value.ownBlock] using hv
    subst this
    rw [h1] at hg'
    cases hg'
def zn (l : List Nat) : List Int := l.map fun (n : Nat) => (n : Int)
theorem zn_snoc (l : List Nat) (n : Nat) : zn (l ++ [n]) = zn l ++ [(n : Int)] := by simp [zn]
theorem zn_len (l : List Nat) : (zn l).length = l.length := by simp [zn]
set_option maxRecDepth 100000 in
set_option maxHeartbeats 1000000 in
theorem number_any (v : Value) (L : List (List UInt8)) (w0 w : World) (Bk Bm nm : Nat) (D : DataW Unit) (ks : List (List UInt8)) (hv : Sl eL 1 w0 v L) (hstr : ∀ s ∈ L, (bstr s).size ≤ maxLen) (hL : L.length ≤ 1000) (hnm : nm ≤ 1000)
    (hw : Below w0.heap.size w0 w) (hBm : w0.heap.size ≤ Bm) (hk : w.heap[Bk]? = some (.cells #[.map (some Bm)] 38 (0, 0))) (hm : w.ownsMap Try.prog 9 (plainElem Try.prog 3) Bm nm D) (hD : NumD D ks) (hks : ks.length ≤ 1000) :
    Calls Try.prog 19 #[v, .pointer (some ⟨Bk, 0, none⟩)] w fun e w' => ∃ ov D', e = .returned ov ∧ Sl.Own eInt 1 w.heap.size 3 w' ov (zn (Line.nums ks L)) ∧ w'.ownsMap Try.prog 9 (plainElem Try.prog 3) Bm (nm + L.length) D' ∧ NumD D' (Line.kn ks L) ∧ w.grownBy w' (some Bm) := by
  have hlen := hv.run_len (P := Try.prog) Try.underlying22
  obtain ⟨bk1, ck, fk⟩ := one_cells hk
  have HM := Lib.hid hm
  have HD := Lib.hid hD
  have HK := Lib.hid hk
  have HV := Lib.hid hv
  have HSt := Lib.hid hstr
  have hne : Bk ≠ Bm := by
    rintro rfl
    obtain ⟨es, cl, h1, _⟩ := hm
    rw [h1] at hk
    cases hk
  have hltm := hm.lt
  obtain ⟨i0, hi, hz0, hz1, hz2⟩ := info_parts info3
  clear hm hD hk hv hstr
  go_enter Try.func19, Try.ntmps19
  go_wp2_with (at_make; refine wpList_make_own _ rfl _ _ 24 rfl w.heap.size 3 i0 (.int .i64 0) 1 Try.underlying24 hi hz0 hz1 .i64 .i64 (L.length : Int) L.length rfl rfl rfl (by rw [hz2]; omega) (by simp only [maxLen]; omega) (Nat.le_refl _) ?_; intro w1 hown hgrow)
  have HO0 : Hid (Sl.Own eInt 1 w.heap.size 3 w1 (.slice (some ⟨w.heap.size, 0, none⟩) 0 L.length) (zn (Line.nums ks (L.take 0)))) := Lib.hid hown
  have HG0 := Lib.hid (grown_beyond (World.grownBy.refl w (some Bm)) hgrow (fun k e => by cases e))
  have HM0 := Lib.hid (HM.out.kept hgrow (by simp))
  clear hown hgrow
  go_loopw [4, 14] (fun o i wr => ∃ (k : Nat) (D' : DataW Unit), i = .int .i64 k ∧ k ≤ L.length ∧ Hid (Sl.Own eInt 1 w.heap.size 3 wr o (zn (Line.nums ks (L.take k)))) ∧ Hid (wr.ownsMap Try.prog 9 (plainElem Try.prog 3) Bm (nm + k) D') ∧ Hid (NumD D' (Line.kn ks (L.take k))) ∧ Hid (w.grownBy wr (some Bm))) (fun _ i _ => L.length - (intOf i).toNat)
  case atStart => exact ⟨0, D, rfl, by omega, HO0, HM0, HD, HG0⟩
  case round =>
    obtain ⟨k, D', rfl, hk, HO, HM1, HD1, HG⟩ := hrel
    have HW : Hid (Below w0.heap.size w0 wr) := Lib.hid (hw.grown HG.out hw.size (fun j e => by cases e; exact hBm))
    by_cases hlt : k < L.length
    · obtain ⟨b2, o2, hb2, hix2, hc2⟩ := HV.out.atB HW.out (P := Try.prog) Try.underlying22 cells9 some9 hlt
      have e1 := hc2 0 (by omega)
      simp only [eL, List.getElem?_cons_zero, Nat.add_zero] at e1
      obtain ⟨s, HS⟩ : ∃ s, Hid (L[k] = s) := ⟨_, Lib.hid rfl⟩
      rw [HS.out] at e1
      have hkey : keyOf Try.prog 9 (.string (bstr s)) = some (.string s) := WideMaps.keyOf_string_mk Try.underlying9 (HSt.out s (by rw [← HS.out]; exact List.getElem_mem hlt))
      have hkbox : wr.heap[Bk]? = some (.cells #[.map (some Bm)] 38 (0, 0)) := grown_heap HG.out HK.out (by simpa using Ne.symm hne)
      obtain ⟨bk2, ck2, fk2⟩ := one_cells hkbox
      obtain ⟨KS, HKS⟩ : ∃ KS, Hid (Line.kn ks (L.take k) = KS) := ⟨_, Lib.hid rfl⟩
      have hKSl : KS.length ≤ 2000 := by
        rw [← HKS.out]
        have := Line.kn_len ks (L.take k)
        rw [List.length_take] at this
        omega
      have hhas := HD1.out.has s
      rw [HKS.out] at hhas
      have HGET := Lib.hid (HD1.out.get s)
      have HSZ := Lib.hid HD1.out.size
      rw [HKS.out] at HGET HSZ
      clear hc2 hkbox
      by_cases hs : s ∈ KS
      · rw [decide_eq_true hs] at hhas
        have HT := Lib.hid (Line.take_in hlt (by rw [HS.out, HKS.out]; exact hs))
        have HG1 := Lib.hid (HGET.out hs (.lit (.int .i64 0)))
        clear hs HGET HSZ
        go_wp2_with (first
          | (at_lookup; refine wpList_lookup_own_ok_int _ rfl _ _ 38 rfl 9 3 .i64 law9 Try.underlying38 Try.underlying3 (zero3 _) Bm (nm + k) D' rfl HM1.out _ _ rfl hkey ?_; intro c hat hwc; rw [hhas]; obtain rfl : c = (Line.fst KS s : Nat) := (by rw [HG1.out] at hat; simpa using hat.symm); clear hat hwc)
          | (at_builtin; go_must (refine wpList_append1 rfl (en := eInt) (s := 1) (base := w.heap.size) (e := 3) _ _ 24 rfl (.int .i64 0) 8 Try.underlying24 info3 rfl (by decide) len_eInt one_eInt _ _ (zn (Line.nums ks (L.take k))) ((Line.fst KS s : Nat) : Int) rfl (HO.out.alloc _) rfl (Sl.fresh len_eInt rfl rfl rfl (by simp [maxLen])) (by rw [zn_len, Line.nums_len]; simp only [maxLen]; rw [List.length_take]; omega) (by rw [zn_len, Line.nums_len, List.length_take]; omega) (by have := HG.out.size; simp; omega) ?_; intro ov' w6 hown6 hgr6 hbel6 hblk6; have HO2 := Lib.hid hown6; have HG2 := Lib.hid hgr6; clear hown6 hgr6 hbel6 hblk6)))
        have hga := grown_beyond HG.out (World.grownBy_alloc wr (.cells #[.int .i64 (Line.fst KS s : Nat)] 3) none) (fun j e => by cases e)
        have hG6 := grown_beyond hga HG2.out (fun j e => (HO.out.lt j e).1)
        have hM6 := (HM1.out.alloc (.cells #[.int .i64 (Line.fst KS s : Nat)] 3)).kept HG2.out (fun e => own_not_map HO.out HM1.out e.symm)
        go_roundw
        case rel => exact ⟨k + 1, D', by go_num, by omega, Lib.hid (by rw [HT.out.1, zn_snoc, HKS.out, HS.out]; exact HO2.out), Lib.hid (hM6.mono (by omega)), Lib.hid (by rw [HT.out.2]; exact HD1.out), Lib.hid hG6⟩
        case measure => simp [intOf]; omega
      · rw [decide_eq_false hs] at hhas
        have HT := Lib.hid (Line.take_out hlt (by rw [HS.out, HKS.out]; exact hs))
        have HD2 : Hid (NumD (D'.put (.string s) (.lit (.int .i64 (KS.length : Nat)))) (KS ++ [s])) := Lib.hid ((HKS.out ▸ HD1.out).put hs)
        have hwf : (Lit.int .i64 (KS.length : Nat)).wf = true := WalkArith.wf_i64 (by omega)
        clear hs HGET
        go_wp2_with (first
          | (at_lookup; refine wpList_lookup_own_ok_int _ rfl _ _ 38 rfl 9 3 .i64 law9 Try.underlying38 Try.underlying3 (zero3 _) Bm (nm + k) D' rfl HM1.out _ _ rfl hkey ?_; intro c hat hwc; rw [hhas]; clear hat hwc)
          | (at_len; refine wpList_len_own _ rfl _ 38 rfl 9 3 Try.underlying38 (plainElem Try.prog 3) Bm (nm + k) D' rfl HM1.out ?_; rw [HSZ.out])
          | (at_mapUpdate; refine wpList_mapUpdate_own _ rfl _ _ _ 38 rfl 9 3 law9 Try.underlying38 _ Bm (nm + k) _ rfl HM1.out (by simp only [maxLen]; omega) _ _ _ rfl rfl hkey _ [] (plainElem_int Try.underlying3 hwf) ?_; intro w3 hown3 hgrow3; have HM3 := Lib.hid hown3; have HG3 := Lib.hid (grown_same HG.out hgrow3); have HO3 := Lib.hid (HO.out.kept hgrow3 (.inr (fun e => own_not_map HO.out HM1.out e))); clear hown3 hgrow3)
          | (at_builtin; go_must (refine wpList_append1 rfl (en := eInt) (s := 1) (base := w.heap.size) (e := 3) _ _ 24 rfl (.int .i64 0) 8 Try.underlying24 info3 rfl (by decide) len_eInt one_eInt _ _ (zn (Line.nums ks (L.take k))) ((KS.length : Nat) : Int) rfl (HO3.out.alloc _) rfl (Sl.fresh len_eInt rfl rfl rfl (by simp [maxLen])) (by rw [zn_len, Line.nums_len]; simp only [maxLen]; rw [List.length_take]; omega) (by rw [zn_len, Line.nums_len, List.length_take]; omega) (by have := HG3.out.size; simp; omega) ?_; intro ov' w6 hown6 hgr6 hbel6 hblk6; have HO2 := Lib.hid hown6; have HG2 := Lib.hid hgr6; clear hown6 hgr6 hbel6 hblk6)))
        have hga := grown_beyond HG3.out (World.grownBy_alloc w3 (.cells #[.int .i64 (KS.length : Nat)] 3) none) (fun j e => by cases e)
        have hG6 := grown_beyond hga HG2.out (fun j e => (HO3.out.lt j e).1)
        have hM6 := (HM3.out.alloc (.cells #[.int .i64 (KS.length : Nat)] 3)).kept HG2.out (fun e => own_not_map HO3.out HM3.out e.symm)
        go_roundw
        case rel => exact ⟨k + 1, _, by go_num, by omega, Lib.hid (by rw [HT.out.1, zn_snoc, HKS.out]; exact HO2.out), Lib.hid hM6, Lib.hid (by rw [HT.out.2, HKS.out, HS.out]; exact HD2.out), Lib.hid hG6⟩
        case measure => simp [intOf]; omega
    · have hkk : k = L.length := by omega
      have HE : Hid (L.take k = L) := Lib.hid (List.take_of_length_le (by omega))
      rw [HE.out] at HO HD1
      go_wp2_with fail
      go_ret
      exact ⟨_, _, rfl, HO.out, HM1.out.mono (by omega), HD1.out, HG.out⟩
end Go.Proofs.Ytibebmdpjaknpaa
