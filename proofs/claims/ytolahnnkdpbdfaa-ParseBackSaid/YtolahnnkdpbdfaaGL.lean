/-
  Layer 28: a count's digits, the program's walk. No condition but that the count is below 10000.
  Layer 28: a step as text, the program's walk. No condition but that its number is below 10000 and its word short.
  Layer 28: a commit as text, the program's walk (Rev.text). Conditions: its steps may be, and it is not too long.
  Layer 28: an item as texts, the program's walk (Item.texts). Conditions: it may be, and is not too long.
  Layer 28: Print's list of texts, and the closure that puts one behind the others. No condition besides what lies where and that the texts are few.
-/
import Derived.Test.YtolahnnkdpbdfaaGK
import Derived.Test.YtolahnnkdpbdfaaJ1
import Derived.Deep.RegionLaw
namespace Go.Prs
theorem dgN_lt {m : Nat} (h : m < 10) : dgN m = [ud m] := by unfold dgN; rw [if_pos h]
theorem dgN_step {m : Nat} (h1 : ¬ m < 10) (h2 : m ≤ 9999) : dgN m = dgN (m / 10) ++ dgN (m % 10) := by
  rw [dgN_lt (show m % 10 < 10 by omega)]
  by_cases a : m < 100
  · rw [dgN_lt (show m / 10 < 10 by omega)]; unfold dgN; rw [if_neg h1, if_pos a]; rfl
  · by_cases b : m < 1000
    · unfold dgN
      rw [if_neg h1, if_neg a, if_pos b, if_neg (by omega), if_pos (by omega), show m / 10 / 10 = m / 100 by omega]; rfl
    · unfold dgN
      rw [if_neg h1, if_neg a, if_neg b, if_neg (by omega), if_neg (by omega), if_pos (by omega), show m / 10 / 100 = m / 1000 by omega, show m / 10 / 10 % 10 = m / 100 % 10 by omega]; rfl
theorem dgN_len (m : Nat) : (dgN m).length ≤ 4 := by unfold dgN; repeat' split
                                                     all_goals simp
end Go.Prs
namespace Go.Proofs.Ytolahnnkdpbdfaa
open Go.Proofs Go.RowKit Go.Shelf Go.Sl Go.Prs
theorem ret_str {x y : List UInt8} (h : x = y) : Ending.returned (.string (bstr x)) = .returned (.string (bstr y)) := by rw [h]
set_option maxRecDepth 100000 in
set_option maxHeartbeats 4000000 in
theorem digits50 (m : Nat) : m ≤ 9999 → ∀ w, Calls Try.prog 50 #[.int .i64 (m : Nat)] w fun e w' => e = .returned (.string (bstr (dgN m))) ∧ Below w.heap.size w w' := by
  induction m using Nat.strongRecOn with
  | ind m ih =>
    intro hm w
    by_cases h1 : m < 10
    · have hd : decide ((m : Int) < 10) = true := decide_eq_true (by omega)
      have hsl : Sl eByte 1 (w.alloc (.cells #[.int .u8 ((48 + (m : Int)) % 256)] 5)) (.slice (some ⟨w.heap.size, 0, none⟩) 1 1) [ud m] := Sl.fresh len_eByte rfl (by
        have : (48 + (m : Int)) % 256 = ((ud m).toNat : Int) := by
          unfold ud
          rw [UInt8.toNat_ofNat']
          omega
        rw [this]; rfl) rfl (by simp [maxLen])
      have hconv := hsl.run_string (P := Try.prog) Try.underlying70 Try.underlying5 Try.underlying9
      have HZ := Lib.hid (dgN_lt h1)
      clear ih hsl h1
      go_enter Try.func50, Try.ntmps50
      go_wp2_with fail
      go_ret
      exact ⟨ret_str HZ.out.symm, (Below.refl _ _).alloc (Nat.le_refl _) _⟩
    · have hd : decide ((m : Int) < 10) = false := decide_eq_false (by omega)
      have HQ := Lib.hid (ih (m / 10) (by omega) (by omega))
      have HR := Lib.hid (ih (m % 10) (by omega) (by omega))
      have HS := Lib.hid (dgN_step h1 hm)
      rw [show ((m / 10 : Nat) : Int) = (m : Int) / 10 by omega] at HQ
      rw [show ((m % 10 : Nat) : Int) = (m : Int) % 10 by omega] at HR
      have l1 := dgN_len (m / 10)
      have l2 := dgN_len (m % 10)
      clear ih h1
      go_enter Try.func50, Try.ntmps50
      go_wp2_with fail
      refine (HQ.out _).mono ?_
      rintro e w1 ⟨rfl, hb⟩
      have HB1 := Lib.hid hb
      clear hb
      go_wp2_with fail
      refine (HR.out _).mono ?_
      rintro e w2 ⟨rfl, hb⟩
      have HB2 := Lib.hid (HB1.out.trans (hb.mono HB1.out.size))
      clear hb
      go_wp2_with fail
      go_ret
      exact ⟨ret_str HS.out.symm, HB2.out⟩
end Go.Proofs.Ytolahnnkdpbdfaa

namespace Go.Proofs.Ytolahnnkdpbdfaa
open Go.Proofs Go.RowKit Go.Shelf Go.Sl Go.Prs
set_option maxRecDepth 100000 in
set_option maxHeartbeats 4000000 in
theorem stText_any (k : Int) (m : Nat) (l : List UInt8) (hk : 1 ≤ k ∧ k ≤ 3) (hm : m ≤ 9999) (hl : l.length ≤ 9000) (w : World) : Calls Try.prog 90 #[.agg #[.int .i64 k, .int .i64 (m : Nat), .string (bstr l)]] w fun e w' => e = .returned (.string (bstr (stT ⟨k, m, l⟩))) ∧ Below w.heap.size w w' := by
  have HD := Lib.hid (digits50 m hm)
  have hlen := dgN_len m
  have hA := Lib.hid ((Below.refl w.heap.size w).alloc (Nat.le_refl _) (.cells #[.int .i64 k, .int .i64 (m : Nat), .string (bstr l)] 103))
  have HX : Hid (∀ t : List UInt8, stT ⟨k, m, l⟩ = t → ∀ w', Below w.heap.size w w' → (Ending.returned (.string (bstr t)) = Ending.returned (.string (bstr (stT ⟨k, m, l⟩))) ∧ Below w.heap.size w w')) := Lib.hid (fun t h w' hb => ⟨by rw [h], hb⟩)
  have hN : Hid (dg (m : Nat) = dgN m) := Lib.hid (by unfold dg; rw [Int.toNat_natCast])
  have h0 := heap_alloc_new w (.cells #[.int .i64 k, .int .i64 (m : Nat), .string (bstr l)] 103)
  have HK : Hid (∀ u, Below (w.alloc (.cells #[.int .i64 k, .int .i64 (m : Nat), .string (bstr l)] 103)).heap.size (w.alloc (.cells #[.int .i64 k, .int .i64 (m : Nat), .string (bstr l)] 103)) u → u.heap[w.heap.size]? = some (.cells #[.int .i64 k, .int .i64 (m : Nat), .string (bstr l)] 103 (0, 0))) := Lib.hid (fun u hu => (hu.block _ (by simp)).trans h0)
  have hk3 : k = 1 ∨ k = 2 ∨ k = 3 := by omega
  clear h0
  go_enter Try.func90, Try.ntmps90
  go_wp2_with fail
  refine (HD.out _).mono ?_
  rintro e w1 ⟨rfl, hb⟩
  have HB1 := Lib.hid (hA.out.trans (hb.mono hA.out.size))
  obtain ⟨_, k0, k1, k2⟩ := three_cells (HK.out _ hb)
  have kf := bk_frozen ⟨_, HK.out _ hb⟩
  clear hb HK
  by_cases h1 : m = 1
  · have hN1 : Hid (num ((m : Nat) : Int) = []) := Lib.hid (by unfold num; rw [if_pos (by omega)])
    subst h1
    rcases hk3 with rfl | rfl | rfl
    · go_wp2_with fail
      go_ret
      exact HX.out [94] (by show 94 :: num _ = _; rw [hN1.out]) _ HB1.out
    · go_wp2_with fail
      go_ret
      exact HX.out [126] (by show 126 :: num _ = _; rw [hN1.out]) _ HB1.out
    · go_wp2_with fail
      go_ret
      rw [show ((⟨#[94, 123]⟩ : ByteArray) ++ bstr l ++ ⟨#[125]⟩) = bstr ([94, 123] ++ l ++ [125]) by show bstr [94, 123] ++ bstr l ++ bstr [125] = _; rw [bstr_append, bstr_append]]
      exact HX.out _ rfl _ HB1.out
  · have hq : ((m : Int) == 1) = false := by rw [beq_eq_false_iff_ne]; omega
    have hN1 : Hid (num ((m : Nat) : Int) = dgN m) := Lib.hid (by unfold num; rw [if_neg (by omega), hN.out])
    clear h1
    rcases hk3 with rfl | rfl | rfl
    · go_wp2_with fail
      go_ret
      rw [show ((⟨#[94]⟩ : ByteArray) ++ bstr (dgN m)) = bstr (94 :: dgN m) by show bstr [94] ++ bstr _ = _; rw [bstr_append]; rfl]
      exact HX.out _ (by show 94 :: num _ = _; rw [hN1.out]) _ HB1.out
    · go_wp2_with fail
      go_ret
      rw [show ((⟨#[126]⟩ : ByteArray) ++ bstr (dgN m)) = bstr (126 :: dgN m) by show bstr [126] ++ bstr _ = _; rw [bstr_append]; rfl]
      exact HX.out _ (by show 126 :: num _ = _; rw [hN1.out]) _ HB1.out
    · go_wp2_with fail
      go_ret
      rw [show ((⟨#[94, 123]⟩ : ByteArray) ++ bstr l ++ ⟨#[125]⟩) = bstr ([94, 123] ++ l ++ [125]) by show bstr [94, 123] ++ bstr l ++ bstr [125] = _; rw [bstr_append, bstr_append]]
      exact HX.out _ rfl _ HB1.out
end Go.Proofs.Ytolahnnkdpbdfaa

namespace Go.Prs
theorem okSt_n {s : St} (h : okSt s = true) : 1 ≤ s.k ∧ s.k ≤ 3 ∧ s.n.toNat ≤ 9999 ∧ s.n = ((s.n.toNat : Nat) : Int) := by
  unfold okSt at h
  rw [Bool.and_eq_true, decide_eq_true_iff] at h
  omega
def rvP (r : Rv) (k : Nat) : List UInt8 := r.b ++ ((r.st.take k).map stT).flatten
theorem rvP_all (r : Rv) : rvP r r.st.length = rvT r := by unfold rvP rvT; rw [List.take_length]
theorem rvP_step {r : Rv} {k : Nat} (h : k < r.st.length) : rvP r (k + 1) = rvP r k ++ stT r.st[k] := by
  unfold rvP; rw [List.take_succ_eq_append_getElem h, List.map_append, List.flatten_append, List.append_assoc]; simp
theorem rvP_le (r : Rv) (k : Nat) : (rvP r k).length ≤ (rvT r).length := by
  unfold rvP rvT
  have : ((r.st.map stT).flatten).length = (((r.st.take k).map stT).flatten).length + (((r.st.drop k).map stT).flatten).length := by
    rw [← List.length_append, ← List.flatten_append, ← List.map_append, List.take_append_drop]
  rw [List.length_append, List.length_append, this]; omega
end Go.Prs
namespace Go.Proofs.Ytolahnnkdpbdfaa
open Go.Proofs Go.RowKit Go.Shelf Go.Sl Go.Prs
theorem at_below {p : Value} {bs : List Value} {b : Nat} {w w' : World} (h : Lib.BuilderAt 72 5 b b p bs w) (hb : Below w.heap.size w w') : Lib.BuilderAt 72 5 b b p bs w' := by
  obtain ⟨h1, v, h2, h3, h4⟩ := h
  exact ⟨h1, v, (hb.block _ (Array.getElem?_eq_some_iff.1 h2).1).trans h2, h3.kept (grown_below (b := b) hb) (.inr h4), h4⟩
theorem Bd.ext {b : Nat} {l : List UInt8} {w w' : World} (h : Bd b l w) (hb : Below w.heap.size w w') : Bd b l w' := h.elim (fun h => .inl (at_below h hb)) (fun h => .inr (at_below h hb))
set_option maxRecDepth 100000 in
set_option maxHeartbeats 8000000 in
theorem rvText_any (r : Rv) (v : Value) (w : World) (h : Sl eSt 3 w v r.st) (ho : r.st.all okSt = true) (hw : ∀ s ∈ r.st, s.w.length ≤ 9000) (hl : (rvT r).length ≤ 90000) :
    Calls Try.prog 76 #[.agg #[.string (bstr r.b), v]] w fun e w' => e = .returned (.string (bstr (rvT r))) ∧ Below w.heap.size w w' := by
  have HS := Lib.hid h
  have HO := Lib.hid ho
  have HW := Lib.hid hw
  have HL := Lib.hid hl
  have hm1 := h.len_le
  obtain ⟨ao, cap, rfl, -⟩ := h.shp
  have H0 := Lib.hid (heap_keep (p := .cells #[.pointer none, .slice none 0 0] 72) (heap_alloc_new w (.cells #[.string (bstr r.b), .slice ao r.st.length cap] 81)))
  have HB := Lib.hid (((Below.refl w.heap.size w).alloc (Nat.le_refl _) (.cells #[.string (bstr r.b), .slice ao r.st.length cap] 81)).alloc (by simp) (.cells #[.pointer none, .slice none 0 0] 72))
  have HD := Lib.hid (Bd.start (w.alloc (.cells #[.string (bstr r.b), .slice ao r.st.length cap] 81)))
  rw [show (w.alloc (.cells #[.string (bstr r.b), .slice ao r.st.length cap] 81)).heap.size = w.heap.size + 1 by simp] at HD
  clear h ho hw hl
  go_enter Try.func76, Try.ntmps76
  go_wp2_with fail
  refine (HD.out.write r.b (by have := rvP_le r 0; have := HL.out; unfold rvP at *; simp at *; omega)).mono ?_
  rintro e w1 ⟨rfl, hbd, hb⟩
  have HB1 := Lib.hid (HB.out.trans (hb.mono (by omega)))
  have HD1 : Hid (Bd (w.heap.size + 1) (rvP r 0) w1) := Lib.hid (by unfold rvP; simpa using hbd)
  have H1 := Lib.hid ((hb.block _ (by omega)).trans H0.out)
  obtain ⟨_, k0, k1, _, _⟩ := two_cells H1.out
  clear hb hbd HB HD H0
  go_wp2_with fail
  go_loopw [12] (fun i wr => ∃ k : Nat, k ≤ r.st.length ∧ i = .int .i64 k ∧ Hid (Bd (w.heap.size + 1) (rvP r k) wr) ∧ Hid (Below w.heap.size w wr)) (fun i _ => r.st.length - (intOf i).toNat)
  case atStart => exact ⟨0, by omega, rfl, HD1, HB1⟩
  case round =>
    clear HD1 HB1 H1 k0 k1
    obtain ⟨k, hk, rfl, HD, HB⟩ := hrel
    by_cases hlt : k < r.st.length
    · obtain ⟨b5, o5, h5, hix, hc⟩ := (HS.out.ext HB.out).at (P := Try.prog) Try.underlying79 (by kernel_rfl) (by kernel_rfl) hlt
      have c0 := hc 0 (by omega)
      have c1 := hc 1 (by omega)
      have c2 := hc 2 (by omega)
      have HSt := Lib.hid (okSt_n (List.all_eq_true.1 HO.out _ (List.getElem_mem hlt)))
      have HP := Lib.hid (rvP_step hlt)
      have HWk := Lib.hid (HW.out _ (List.getElem_mem hlt))
      obtain ⟨⟨kk, n, l⟩, hx⟩ : ∃ x, Hid (r.st[k] = x) := ⟨_, Lib.hid rfl⟩
      rw [hx.out] at c0 c1 c2 HSt HP HWk
      simp only [eSt, List.getElem?_cons_zero, List.getElem?_cons_succ, Nat.add_zero] at c0 c1 c2 HSt HWk
      obtain ⟨m, hm⟩ : ∃ m, n.toNat = m := ⟨_, rfl⟩
      rw [hm] at HSt
      obtain rfl : n = (m : Int) := HSt.out.2.2.2
      have hT := Lib.hid (fun u => stText_any kk m l ⟨HSt.out.1, HSt.out.2.1⟩ HSt.out.2.2.1 HWk.out u)
      have hd : decide ((k : Int) < (r.st.length : Int)) = true := decide_eq_true (by omega)
      have HBo := Lib.hid (HB.out.alloc HB.out.size (.cells #[.int .i64 kk, .int .i64 (m : Nat), .string (bstr l)] 103))
      have HDo := Lib.hid (HD.out.alloc (.cells #[.int .i64 kk, .int .i64 (m : Nat), .string (bstr l)] 103))
      clear hc hm
      go_wp2_with fail
      refine (hT.out _).mono ?_
      rintro e w2 ⟨rfl, hb⟩
      have HB2 := Lib.hid (HBo.out.trans (hb.mono HBo.out.size))
      have HD2 := Lib.hid (HDo.out.ext hb)
      clear hb
      go_wp2_with fail
      refine (HD2.out.write _ (by have h1 := rvP_le r (k + 1); rw [HP.out, List.length_append] at h1; have := HL.out; omega)).mono ?_
      rintro e w3 ⟨rfl, hbd, hb⟩
      rw [← HP.out] at hbd
      have HD3 := Lib.hid hbd
      have HB3 := Lib.hid (HB2.out.trans (hb.mono (by omega)))
      clear hb hbd
      go_wp2_with fail
      go_roundw
      case rel => exact ⟨k + 1, by omega, by go_num, HD3, HB3⟩
      case measure => simp [intOf]; omega
    · have hd : decide ((k : Int) < (r.st.length : Int)) = false := decide_eq_false (by omega)
      obtain rfl : k = r.st.length := by omega
      rw [rvP_all] at HD
      go_wp2_with fail
      refine (HD.out.string).mono ?_
      rintro e w2 ⟨rfl, hb⟩
      have HB2 := Lib.hid (HB.out.trans (hb.mono (by omega)))
      clear hb
      go_wp2_with fail
      go_ret
      exact ⟨rfl, HB2.out⟩
end Go.Proofs.Ytolahnnkdpbdfaa

namespace Go.Prs
def bNot : List UInt8 := [45, 45, 110, 111, 116]
def itS (x : It) : List UInt8 := rvT x.a ++ ((if x.k = 3 then [46, 46, 46] else [46, 46]) ++ rvT x.b)
/-- the parts of an item's text -/
def itP (x : It) : List (List UInt8) :=
  if x.k = 1 then (if x.nt then [94 :: rvT x.a] else [rvT x.a]) else if x.nt then [bNot, itS x, bNot] else [itS x]
end Go.Prs
namespace Go.Proofs.Ytolahnnkdpbdfaa
open Go.Proofs Go.RowKit Go.Shelf Go.Sl Go.Prs
def eT (l : List UInt8) : List Value := [.string (bstr l)]
theorem len_eT (l : List UInt8) : (eT l).length = 1 := rfl
theorem one_eT (l : List UInt8) : ∀ u ∈ eT l, u.oneCell' = true := by simp [eT, Value.oneCell']
/-- not too long -/
def Tx (r : Rv) : Prop := (∀ s ∈ r.st, s.w.length ≤ 9000) ∧ (rvT r).length ≤ 90000
theorem okRv_st {r : Rv} (h : okRv r = true) : r.st.all okSt = true := by
  unfold okRv at h; rw [Bool.and_eq_true] at h; exact h.2
set_option maxRecDepth 100000 in
set_option maxHeartbeats 8000000 in
theorem itTexts_any (x : It) (va vb : Value) (w : World) (h1 : Sl eSt 3 w va x.a.st) (h2 : Sl eSt 3 w vb x.b.st) (ho : okIt x = true) (t1 : Tx x.a) (t2 : Tx x.b) :
    Calls Try.prog 51 #[.agg #[.int .i64 x.k, .string (bstr x.a.b), va, .string (bstr x.b.b), vb, .bool x.nt]] w fun e w' => ∃ a n c, e = .returned (.slice a n c) ∧ Sl eT 1 w' (.slice a n c) (itP x) ∧ Below w.heap.size w w' := by
  have hk : x.k = 1 ∨ x.k = 2 ∨ x.k = 3 := by
    unfold okIt at ho; rw [Bool.and_eq_true, Bool.and_eq_true, decide_eq_true_iff] at ho; omega
  have ha : okRv x.a = true := by
    unfold okIt at ho; rw [Bool.and_eq_true, Bool.and_eq_true] at ho; exact ho.1.2
  have hb : x.k ≠ 1 → okRv x.b = true := by
    intro h
    unfold okIt at ho; rw [Bool.and_eq_true, if_neg h] at ho; exact ho.2
  have HA := Lib.hid (fun u (hu : Below w.heap.size w u) => rvText_any x.a va u (h1.ext hu) (okRv_st ha) t1.1 t1.2)
  have HB := Lib.hid (fun u (hu : Below w.heap.size w u) (h : x.k ≠ 1) => rvText_any x.b vb u (h2.ext hu) (okRv_st (hb h)) t2.1 t2.2)
  have L1 := t1.2
  have L2 := t2.2
  obtain ⟨a0, n0, c0, rfl⟩ := h1.isSlice
  obtain ⟨b0, m0, cb, rfl⟩ := h2.isSlice
  have HS : Hid (Below w.heap.size w (w.alloc (.cells #[.int .i64 x.k, .string (bstr x.a.b), .slice a0 n0 c0, .string (bstr x.b.b), .slice b0 m0 cb, .bool x.nt] 83))) := Lib.hid ((Below.refl w.heap.size w).alloc (Nat.le_refl _) _)
  have HK := Lib.hid (heap_alloc_new w (.cells #[.int .i64 x.k, .string (bstr x.a.b), .slice a0 n0 c0, .string (bstr x.b.b), .slice b0 m0 cb, .bool x.nt] 83))
  obtain ⟨ta, hta⟩ : ∃ t, Hid (rvT x.a = t) := ⟨_, Lib.hid rfl⟩
  obtain ⟨tb, htb⟩ : ∃ t, Hid (rvT x.b = t) := ⟨_, Lib.hid rfl⟩
  rw [hta.out] at HA L1
  rw [htb.out] at HB L2
  clear h1 h2 ho t1 t2 ha hb
  obtain ⟨nt, hnt⟩ : ∃ t, x.nt = t := ⟨_, rfl⟩
  obtain ⟨kk, hkk⟩ : ∃ t, x.k = t := ⟨_, rfl⟩
  have HP := Lib.hid (show itP x = if kk = 1 then (if nt then [94 :: ta] else [ta]) else if nt then [bNot, ta ++ ((if kk = 3 then [46, 46, 46] else [46, 46]) ++ tb), bNot] else [ta ++ ((if kk = 3 then [46, 46, 46] else [46, 46]) ++ tb)] by unfold itP itS; rw [hkk, hnt, hta.out, htb.out])
  rw [hkk] at HB HS HK hk ⊢
  rw [hnt] at HS HK ⊢
  clear hkk hnt hta htb
  rcases hk with rfl | rfl | rfl
  · cases nt
    · go_enter Try.func51, Try.ntmps51
      go_wp2_with fail
      refine (HA.out _ HS.out).mono ?_
      rintro e w1 ⟨rfl, hb⟩
      have HB1 := Lib.hid (HS.out.trans (hb.mono HS.out.size))
      have hk := (hb.block _ (by simp)).trans HK.out
      obtain ⟨_, k0, k1, k2, k3, k4, k5⟩ := six_cells hk
      have kf := bk_frozen ⟨_, hk⟩
      clear hb hk
      go_wp2_with fail
      go_ret
      refine ⟨_, _, _, rfl, ?_, HB1.out.alloc HB1.out.size _⟩
      rw [HP.out]
      exact Sl.fresh len_eT rfl (rfl) rfl (by simp [maxLen])
    · go_enter Try.func51, Try.ntmps51
      go_wp2_with fail
      refine (HA.out _ HS.out).mono ?_
      rintro e w1 ⟨rfl, hb⟩
      have HB1 := Lib.hid (HS.out.trans (hb.mono HS.out.size))
      have hk := (hb.block _ (by simp)).trans HK.out
      obtain ⟨_, k0, k1, k2, k3, k4, k5⟩ := six_cells hk
      have kf := bk_frozen ⟨_, hk⟩
      clear hb hk
      go_wp2_with fail
      go_ret
      refine ⟨_, _, _, rfl, ?_, HB1.out.alloc HB1.out.size _⟩
      rw [HP.out]
      exact Sl.fresh len_eT rfl (by show [Value.string (bstr [94] ++ bstr ta)] = [Value.string (bstr (94 :: ta))]; rw [bstr_append]; rfl) rfl (by simp [maxLen])
  · have HBx := Lib.hid (fun u hu => HB.out u hu (by decide))
    have g1 : ¬ (9223372036854775807 < ta.length + 2) := by omega
    have g2 : ¬ (9223372036854775807 < ta.length + 2 + tb.length) := by omega
    have g3 : ¬ (9223372036854775807 < ta.length + 3) := by omega
    have g4 : ¬ (9223372036854775807 < ta.length + 3 + tb.length) := by omega
    cases nt
    · go_enter Try.func51, Try.ntmps51
      go_wp2_with fail
      have hsz : w.heap.size < (w.alloc (.cells #[.int .i64 2, .string (bstr x.a.b), .slice a0 n0 c0, .string (bstr x.b.b), .slice b0 m0 cb, .bool false] 83)).heap.size := by simp
      generalize w.alloc (.cells #[.int .i64 2, .string (bstr x.a.b), .slice a0 n0 c0, .string (bstr x.b.b), .slice b0 m0 cb, .bool false] 83) = W at HS HK hsz ⊢
      have HKu := Lib.hid (fun u (hu : Below W.heap.size W u) => (hu.block _ hsz).trans HK.out)
      obtain ⟨_, k0, k1, k2, k3, k4, k5⟩ := six_cells HK.out
      have kf := bk_frozen ⟨_, HK.out⟩
      clear hsz
      go_region_law (first
        | (go_simp; go_at_call 76; (have _g := HB1.out); refine (HBx.out _ (HS.out.trans (HB1.out.mono HS.out.size))).mono ?_; rintro e w2 ⟨rfl, hb⟩; have HB2 := Lib.hid (HB1.out.trans (hb.mono HB1.out.size)); clear hb; obtain ⟨-, s0, s1, s2, s3, s4, s5⟩ := six_cells (HKu.out _ HB2.out); have sf := bk_frozen ⟨_, HKu.out _ HB2.out⟩; dsimp only)
        | (go_simp; go_at_call 76; refine (HA.out _ HS.out.drew).mono ?_; rintro e w1 ⟨rfl, hb⟩; have HB1 := Lib.hid (below_undrew hb); clear hb; obtain ⟨-, t0, t1, t2, t3, t4, t5⟩ := six_cells (HKu.out _ HB1.out); have tf := bk_frozen ⟨_, HKu.out _ HB1.out⟩; dsimp only))
      all_goals
        go_wp2_with fail
        go_ret
        have HBf := HS.out.trans (HB2.out.mono HS.out.size)
        refine ⟨_, _, _, rfl, ?_, HBf.alloc HBf.size _⟩
        rw [HP.out]
        exact Sl.fresh len_eT rfl (by show [Value.string (bstr ta ++ bstr [46, 46] ++ bstr tb)] = [Value.string (bstr (ta ++ ([46, 46] ++ tb)))]; rw [bstr_append, bstr_append, List.append_assoc]) rfl (by simp [maxLen])
    · go_enter Try.func51, Try.ntmps51
      go_wp2_with fail
      have hsz : w.heap.size < (w.alloc (.cells #[.int .i64 2, .string (bstr x.a.b), .slice a0 n0 c0, .string (bstr x.b.b), .slice b0 m0 cb, .bool true] 83)).heap.size := by simp
      generalize w.alloc (.cells #[.int .i64 2, .string (bstr x.a.b), .slice a0 n0 c0, .string (bstr x.b.b), .slice b0 m0 cb, .bool true] 83) = W at HS HK hsz ⊢
      have HKu := Lib.hid (fun u (hu : Below W.heap.size W u) => (hu.block _ hsz).trans HK.out)
      obtain ⟨_, k0, k1, k2, k3, k4, k5⟩ := six_cells HK.out
      have kf := bk_frozen ⟨_, HK.out⟩
      clear hsz
      go_region_law (first
        | (go_simp; go_at_call 76; (have _g := HB1.out); refine (HBx.out _ (HS.out.trans (HB1.out.mono HS.out.size))).mono ?_; rintro e w2 ⟨rfl, hb⟩; have HB2 := Lib.hid (HB1.out.trans (hb.mono HB1.out.size)); clear hb; obtain ⟨-, s0, s1, s2, s3, s4, s5⟩ := six_cells (HKu.out _ HB2.out); have sf := bk_frozen ⟨_, HKu.out _ HB2.out⟩; dsimp only)
        | (go_simp; go_at_call 76; refine (HA.out _ HS.out.drew).mono ?_; rintro e w1 ⟨rfl, hb⟩; have HB1 := Lib.hid (below_undrew hb); clear hb; obtain ⟨-, t0, t1, t2, t3, t4, t5⟩ := six_cells (HKu.out _ HB1.out); have tf := bk_frozen ⟨_, HKu.out _ HB1.out⟩; dsimp only))
      all_goals
        go_wp2_with fail
        go_ret
        have HBf := HS.out.trans (HB2.out.mono HS.out.size)
        refine ⟨_, _, _, rfl, ?_, HBf.alloc HBf.size _⟩
        rw [HP.out]
        exact Sl.fresh len_eT rfl (by show [Value.string (bstr bNot), Value.string (bstr ta ++ bstr [46, 46] ++ bstr tb), Value.string (bstr bNot)] = [Value.string (bstr bNot), Value.string (bstr (ta ++ ([46, 46] ++ tb))), Value.string (bstr bNot)]; rw [bstr_append, bstr_append, List.append_assoc]) rfl (by simp [maxLen])
  · have HBx := Lib.hid (fun u hu => HB.out u hu (by decide))
    have g1 : ¬ (9223372036854775807 < ta.length + 2) := by omega
    have g2 : ¬ (9223372036854775807 < ta.length + 2 + tb.length) := by omega
    have g3 : ¬ (9223372036854775807 < ta.length + 3) := by omega
    have g4 : ¬ (9223372036854775807 < ta.length + 3 + tb.length) := by omega
    cases nt
    · go_enter Try.func51, Try.ntmps51
      go_wp2_with fail
      have hsz : w.heap.size < (w.alloc (.cells #[.int .i64 3, .string (bstr x.a.b), .slice a0 n0 c0, .string (bstr x.b.b), .slice b0 m0 cb, .bool false] 83)).heap.size := by simp
      generalize w.alloc (.cells #[.int .i64 3, .string (bstr x.a.b), .slice a0 n0 c0, .string (bstr x.b.b), .slice b0 m0 cb, .bool false] 83) = W at HS HK hsz ⊢
      have HKu := Lib.hid (fun u (hu : Below W.heap.size W u) => (hu.block _ hsz).trans HK.out)
      obtain ⟨_, k0, k1, k2, k3, k4, k5⟩ := six_cells HK.out
      have kf := bk_frozen ⟨_, HK.out⟩
      clear hsz
      go_region_law (first
        | (go_simp; go_at_call 76; (have _g := HB1.out); refine (HBx.out _ (HS.out.trans (HB1.out.mono HS.out.size))).mono ?_; rintro e w2 ⟨rfl, hb⟩; have HB2 := Lib.hid (HB1.out.trans (hb.mono HB1.out.size)); clear hb; obtain ⟨-, s0, s1, s2, s3, s4, s5⟩ := six_cells (HKu.out _ HB2.out); have sf := bk_frozen ⟨_, HKu.out _ HB2.out⟩; dsimp only)
        | (go_simp; go_at_call 76; refine (HA.out _ HS.out.drew).mono ?_; rintro e w1 ⟨rfl, hb⟩; have HB1 := Lib.hid (below_undrew hb); clear hb; obtain ⟨-, t0, t1, t2, t3, t4, t5⟩ := six_cells (HKu.out _ HB1.out); have tf := bk_frozen ⟨_, HKu.out _ HB1.out⟩; dsimp only))
      all_goals
        go_wp2_with fail
        go_ret
        have HBf := HS.out.trans (HB2.out.mono HS.out.size)
        refine ⟨_, _, _, rfl, ?_, HBf.alloc HBf.size _⟩
        rw [HP.out]
        exact Sl.fresh len_eT rfl (by show [Value.string (bstr ta ++ bstr [46, 46, 46] ++ bstr tb)] = [Value.string (bstr (ta ++ ([46, 46, 46] ++ tb)))]; rw [bstr_append, bstr_append, List.append_assoc]) rfl (by simp [maxLen])
    · go_enter Try.func51, Try.ntmps51
      go_wp2_with fail
      have hsz : w.heap.size < (w.alloc (.cells #[.int .i64 3, .string (bstr x.a.b), .slice a0 n0 c0, .string (bstr x.b.b), .slice b0 m0 cb, .bool true] 83)).heap.size := by simp
      generalize w.alloc (.cells #[.int .i64 3, .string (bstr x.a.b), .slice a0 n0 c0, .string (bstr x.b.b), .slice b0 m0 cb, .bool true] 83) = W at HS HK hsz ⊢
      have HKu := Lib.hid (fun u (hu : Below W.heap.size W u) => (hu.block _ hsz).trans HK.out)
      obtain ⟨_, k0, k1, k2, k3, k4, k5⟩ := six_cells HK.out
      have kf := bk_frozen ⟨_, HK.out⟩
      clear hsz
      go_region_law (first
        | (go_simp; go_at_call 76; (have _g := HB1.out); refine (HBx.out _ (HS.out.trans (HB1.out.mono HS.out.size))).mono ?_; rintro e w2 ⟨rfl, hb⟩; have HB2 := Lib.hid (HB1.out.trans (hb.mono HB1.out.size)); clear hb; obtain ⟨-, s0, s1, s2, s3, s4, s5⟩ := six_cells (HKu.out _ HB2.out); have sf := bk_frozen ⟨_, HKu.out _ HB2.out⟩; dsimp only)
        | (go_simp; go_at_call 76; refine (HA.out _ HS.out.drew).mono ?_; rintro e w1 ⟨rfl, hb⟩; have HB1 := Lib.hid (below_undrew hb); clear hb; obtain ⟨-, t0, t1, t2, t3, t4, t5⟩ := six_cells (HKu.out _ HB1.out); have tf := bk_frozen ⟨_, HKu.out _ HB1.out⟩; dsimp only))
      all_goals
        go_wp2_with fail
        go_ret
        have HBf := HS.out.trans (HB2.out.mono HS.out.size)
        refine ⟨_, _, _, rfl, ?_, HBf.alloc HBf.size _⟩
        rw [HP.out]
        exact Sl.fresh len_eT rfl (by show [Value.string (bstr bNot), Value.string (bstr ta ++ bstr [46, 46, 46] ++ bstr tb), Value.string (bstr bNot)] = [Value.string (bstr bNot), Value.string (bstr (ta ++ ([46, 46, 46] ++ tb))), Value.string (bstr bNot)]; rw [bstr_append, bstr_append, List.append_assoc]) rfl (by simp [maxLen])
end Go.Proofs.Ytolahnnkdpbdfaa

namespace Go.Proofs.Ytolahnnkdpbdfaa
open Go.Proofs Go.RowKit Go.Shelf Go.Sl Go.Prs
/-- block N holds a list of texts of its own -/
def Lb (N : Nat) (l : List (List UInt8)) (w : World) : Prop := ∃ v, w.heap[N]? = some (.cells #[v] 104 (0, 0)) ∧ Own eT 1 N 9 w v l
theorem Lb.ext {N : Nat} {l : List (List UInt8)} {w w' : World} (h : Lb N l w) (hb : Below w.heap.size w w') : Lb N l w' := by
  obtain ⟨v, h1, h2⟩ := h
  exact ⟨v, (hb.block _ (Array.getElem?_eq_some_iff.1 h1).1).trans h1, h2.ext hb⟩
theorem Lb.lt {N : Nat} {l : List (List UInt8)} {w : World} (h : Lb N l w) : N < w.heap.size := by
  obtain ⟨v, h1, h2⟩ := h
  exact (Array.getElem?_eq_some_iff.1 h1).1
theorem Lb.start (w : World) : Lb w.heap.size [] (w.alloc (.cells #[.slice none 0 0] 104)) := ⟨_, heap_alloc_new _ _, Own.nil _ _ _ _ _⟩
theorem info9T : (Try.prog.info? 9).map (fun i => (i.zero, i.size, i.bytes)) = some (some (.string .empty), 1, 16) := by kernel_rfl
/-- a text has been put behind the others -/
theorem Lb.put {N : Nat} {l m : List (List UInt8)} {w w4 : World} {v v4 : Value} (hv : w.heap[N]? = some (.cells #[v] 104 (0, 0))) (ho : Own eT 1 N 9 w v l) (hown : Own eT 1 N 9 w4 v4 (l ++ m)) (hgr : w.grownBy w4 v.ownBlock) (hb : Below N w w4) :
    Lb N (l ++ m) (w4.setCell ⟨N, 0, none⟩ v4) ∧ Below N w (w4.setCell ⟨N, 0, none⟩ v4) := by
  have i4 := grown_heap hgr hv (ho.ne_elem hv (by decide))
  exact ⟨⟨v4, heap_setCell_same _ _ _ _ _ _ i4, Own.set_bk hown ⟨_, i4⟩ (by decide) 0 v4⟩, hb.setCell (by simp only []; omega) v4⟩
theorem Lb.put4 {N : Nat} {l m : List (List UInt8)} {w w4 : World} {v v4 : Value} (o : Obj) (hv : w.heap[N]? = some (.cells #[v] 104 (0, 0))) (ho : Own eT 1 N 9 w v l) (hown : Own eT 1 N 9 w4 v4 (l ++ m)) (hgr : (w.alloc o).grownBy w4 v.ownBlock) (hb : Below N (w.alloc o) w4) :
    w4.cell? ⟨N, 0, none⟩ = some v ∧ w4.frozen? ⟨N, 0, none⟩ = false ∧ Lb N (l ++ m) (w4.setCell ⟨N, 0, none⟩ v4) ∧ Below N w (w4.setCell ⟨N, 0, none⟩ v4) := by
  have hlt := (Array.getElem?_eq_some_iff.1 hv).1
  have i4 := grown_heap hgr (heap_keep (p := o) hv) ((ho.alloc o).ne_elem (heap_keep hv) (by decide))
  obtain ⟨_, n4, f4⟩ := one_cells i4
  obtain ⟨h1, h2⟩ := Lb.put (heap_keep (p := o) hv) (ho.alloc o) hown hgr hb
  exact ⟨n4, f4, h1, ((Below.refl N w).alloc (by omega) o).trans h2⟩
set_option maxRecDepth 100000 in
set_option maxHeartbeats 4000000 in
theorem put_any (N : Nat) (l : List (List UInt8)) (is : Bool) (s : List UInt8) (w : World) (h : Lb N l w) (hl : l.length ≤ 1000) :
    Calls Try.prog 49 #[.bool is, .string (bstr s), .pointer (some ⟨N, 0, none⟩)] w fun e w' => e = .returned (.tuple #[]) ∧ Lb N (if is = true then l ++ [s] else l) w' ∧ Below N w w' := by
  obtain ⟨v, h1, h2⟩ := h
  have H1 := Lib.hid h1
  have H2 := Lib.hid h2
  obtain ⟨va, vn, vc, rfl⟩ := h2.isSlice
  obtain ⟨hlt, k0, kf⟩ := one_cells h1
  have HL := Lib.hid hl
  clear h1 h2 hl
  cases is
  · go_enter Try.func49, Try.ntmps49
    go_wp2_with fail
    refine bodyPost_end (results_none rfl _ _ _) rfl ?_
    exact ⟨rfl, ⟨_, H1.out, H2.out⟩, Below.refl _ _⟩
  · go_enter Try.func49, Try.ntmps49
    go_wp2_with (at_builtin; go_must (refine wpList_append rfl (en := eT) (s := 1) (base := N) (e := 9) _ _ _ rfl _ 16 Try.underlying104 info9T rfl (by decide) len_eT one_eT _ _ l [s] (by rfl) (H2.out.alloc _) (by rfl) (Sl.fresh len_eT rfl rfl rfl (by simp [maxLen])) (by have := HL.out; simp [maxLen]; omega) (by have := HL.out; simp; omega) (by simp; omega) ?_; intro v4 w4 hown4 hgr4 hb4; obtain ⟨wa, wn, wcp, rfl⟩ := hown4.isSlice; have HPt := Lib.hid (Lb.put4 (v4 := .slice wa wn wcp) _ H1.out H2.out hown4 hgr4 hb4); have n4 := HPt.out.1; have f4 := HPt.out.2.1; clear hown4 hgr4 hb4))
    refine bodyPost_end (results_none rfl _ _ _) rfl ?_
    exact ⟨rfl, HPt.out.2.2.1, HPt.out.2.2.2⟩
end Go.Proofs.Ytolahnnkdpbdfaa
