/-
  Layer 28: the parts of a question's text, in plain Lean. No program is named here.
  Layer 28: strings.Join on a list of texts. Conditions: what lies where, and that the texts together are not too long.
  Layer 28: a question as text, the program's walk (Print). Conditions: what lies where, and that it is not too long.
  Layer 28: a question as text, the program's walk (Print), whole. Conditions: what lies where, and that it is not too long.
-/
import Derived.Test.YtolahnnkdpbdfaaGL
import Derived.Lib.Join
import Derived.Test.YtolahnnkdpbdfaaShelf4
import Derived.Deep.DeepCutAuto
namespace Go.Prs
def add (b : Bool) (s : List UInt8) (l : List (List UInt8)) : List (List UInt8) := if b = true then l ++ [s] else l
def bTopo : List UInt8 := [45, 45, 116, 111, 112, 111]
def bTime : List UInt8 := [45, 45, 116, 105, 109, 101]
def bMax : List UInt8 := [45, 45, 109, 97, 120, 61]
def bSkip : List UInt8 := [45, 45, 115, 107, 105, 112, 61]
def bFirst : List UInt8 := [45, 45, 102, 105, 114, 115, 116]
def bRev : List UInt8 := [45, 45, 114, 101, 118, 101, 114, 115, 101]
/-- the flags ahead of the items -/
def fl (q : Qy) : List (List UInt8) :=
  add q.rv bRev (add q.fi bFirst (add (decide (0 < q.sk)) (bSkip ++ dg q.sk) (add (decide (0 ≤ q.mx)) (bMax ++ dg (max q.mx 0)) (add (q.od == 2) bTime (add (q.od == 1) bTopo [])))))
def pts (q : Qy) (k : Nat) : List (List UInt8) := fl q ++ (q.its.take k).flatMap itP
theorem pts_step {q : Qy} {k : Nat} (h : k < q.its.length) : pts q (k + 1) = pts q k ++ itP q.its[k] := by
  unfold pts; rw [List.take_succ_eq_append_getElem h, List.flatMap_append, List.append_assoc]; simp
/-- a blank ahead of each part -/
def bl (l : List (List UInt8)) : List UInt8 := (l.map (fun s => 32 :: s)).flatten
theorem bl_app (l m : List (List UInt8)) : bl (l ++ m) = bl l ++ bl m := by unfold bl; simp
theorem bl_add (b : Bool) (s : List UInt8) (l : List (List UInt8)) : bl (add b s l) = bl l ++ (if b = true then 32 :: s else []) := by
  unfold add
  cases b
  · simp
  · rw [if_pos rfl, if_pos rfl, bl_app]; simp [bl]
theorem bl_it {x : It} (h : x.k = 1 ∨ x.k = 2 ∨ x.k = 3) : bl (itP x) = 32 :: itT x := by
  unfold itP itT itS bl
  rcases h with h | h | h <;> rw [h] <;> cases x.nt <;> simp [bNot] <;> rfl
theorem bl_its : ∀ l : List It, (∀ x ∈ l, x.k = 1 ∨ x.k = 2 ∨ x.k = 3) → bl (l.flatMap itP) = (l.map (fun x => 32 :: itT x)).flatten
  | [], _ => rfl
  | x :: l, h => by
    rw [List.flatMap_cons, bl_app, bl_it (h x (by simp)), bl_its l (fun y hy => h y (by simp [hy]))]; simp
theorem max0 {m : Int} (h : 0 ≤ m) : max m 0 = m := by omega
theorem bl_fl (q : Qy) : bl (fl q) = (if q.od = 1 then " --topo".toUTF8.data.toList else []) ++ (if q.od = 2 then " --time".toUTF8.data.toList else []) ++ (if 0 ≤ q.mx then " --max=".toUTF8.data.toList ++ dg q.mx else []) ++
  (if 0 < q.sk then " --skip=".toUTF8.data.toList ++ dg q.sk else []) ++ (if q.fi then " --first".toUTF8.data.toList else []) ++ (if q.rv then " --reverse".toUTF8.data.toList else []) := by
  have e1 : " --topo".toUTF8.data.toList = 32 :: bTopo := by decide +kernel
  have e2 : " --time".toUTF8.data.toList = 32 :: bTime := by decide +kernel
  have e3 : " --max=".toUTF8.data.toList = 32 :: bMax := by decide +kernel
  have e4 : " --skip=".toUTF8.data.toList = 32 :: bSkip := by decide +kernel
  have e5 : " --first".toUTF8.data.toList = 32 :: bFirst := by decide +kernel
  have e6 : " --reverse".toUTF8.data.toList = 32 :: bRev := by decide +kernel
  rw [e1, e2, e3, e4, e5, e6]
  unfold fl
  rw [bl_add, bl_add, bl_add, bl_add, bl_add, bl_add]
  by_cases h0 : 0 ≤ q.mx
  · rw [max0 h0]
    simp [bl, h0]
  · simp [bl, h0]
theorem qyT_bl {q : Qy} (h : okQy q = true) : qyT q = bl (pts q q.its.length) := by
  unfold okQy at h
  rw [Bool.and_eq_true, decide_eq_true_iff] at h
  unfold pts qyT
  rw [List.take_length, bl_app, bl_its, bl_fl q]
  intro x hx
  have := List.all_eq_true.1 h.1 x hx
  unfold okIt at this
  rw [Bool.and_eq_true, Bool.and_eq_true, decide_eq_true_iff] at this
  omega
theorem join_bl (l : List (List UInt8)) : Go.Lib.join l [32] = (bl l).tail := by
  cases l with
  | nil => rfl
  | cons x l => rw [Go.Lib.join_cons]; rfl
theorem add_len (b : Bool) (s : List UInt8) (l : List (List UInt8)) : (add b s l).length ≤ l.length + 1 := by unfold add; split <;> simp
theorem fl_len (q : Qy) : (fl q).length ≤ 6 := by
  unfold fl
  have h1 := add_len (q.od == 1) bTopo []
  have h2 := add_len (q.od == 2) bTime (add (q.od == 1) bTopo [])
  have h3 := add_len (decide (0 ≤ q.mx)) (bMax ++ dg (max q.mx 0)) (add (q.od == 2) bTime (add (q.od == 1) bTopo []))
  have h4 := add_len (decide (0 < q.sk)) (bSkip ++ dg q.sk) (add (decide (0 ≤ q.mx)) (bMax ++ dg (max q.mx 0)) (add (q.od == 2) bTime (add (q.od == 1) bTopo [])))
  have h5 := add_len q.fi bFirst (add (decide (0 < q.sk)) (bSkip ++ dg q.sk) (add (decide (0 ≤ q.mx)) (bMax ++ dg (max q.mx 0)) (add (q.od == 2) bTime (add (q.od == 1) bTopo []))))
  have h6 := add_len q.rv bRev (add q.fi bFirst (add (decide (0 < q.sk)) (bSkip ++ dg q.sk) (add (decide (0 ≤ q.mx)) (bMax ++ dg (max q.mx 0)) (add (q.od == 2) bTime (add (q.od == 1) bTopo [])))))
  simp only [List.length_nil] at h1
  omega
theorem itP_len (x : It) : (itP x).length ≤ 3 := by unfold itP; repeat' split
                                                    all_goals simp
theorem flat_len : ∀ l : List It, (l.flatMap itP).length ≤ 3 * l.length
  | [] => by simp
  | x :: l => by have := itP_len x; have := flat_len l; simp only [List.flatMap_cons, List.length_append, List.length_cons]; omega
theorem pts_len (q : Qy) (k : Nat) : (pts q k).length ≤ 6 + 3 * q.its.length := by
  unfold pts
  have := fl_len q
  have := flat_len (q.its.take k)
  have : (q.its.take k).length ≤ q.its.length := by rw [List.length_take]; omega
  rw [List.length_append]; omega
theorem bl_pts_le (q : Qy) {k : Nat} (_h : k ≤ q.its.length) : (bl (pts q k)).length ≤ (bl (pts q q.its.length)).length := by
  unfold pts
  rw [List.take_length, bl_app, bl_app, List.length_append, List.length_append]
  have : q.its.flatMap itP = (q.its.take k).flatMap itP ++ (q.its.drop k).flatMap itP := by rw [← List.flatMap_append, List.take_append_drop]
  rw [this, bl_app, List.length_append]; omega
end Go.Prs

namespace Go.Proofs.Ytolahnnkdpbdfaa
open Go.Proofs Go.RowKit Go.Shelf Go.Sl Go.Prs
theorem join52 (l : List (List UInt8)) (v : Value) (w : World) (h : Sl eT 1 w v l) (h1 : l.length ≤ 100000) (h2 : (bl l).length ≤ 140737488355328) :
    Calls Try.prog 52 #[v, .string ⟨#[32]⟩] w fun e w' => e = .returned (.string (bstr (bl l).tail)) ∧ Below w.heap.size w w' := by
  obtain ⟨ao, cap, rfl, hc, -, -, h4⟩ := h.shp
  rcases h4 with rfl | ⟨b, o, rfl, hb, hcell⟩
  · refine (Try.strings_Join_none ao cap ⟨#[32]⟩ w).mono ?_
    rintro e w' ⟨rfl, rfl⟩
    exact ⟨rfl, Below.refl _ _⟩
  · have hmap : (l.map bstr).map (·.data.toList) = l := by rw [List.map_map]; exact List.map_id _
    have := Try.strings_Join b o cap (l.map bstr) ⟨#[32]⟩ w (by
      intro j x hj
      rw [List.getElem?_map] at hj
      obtain ⟨y, hy, rfl⟩ := Option.map_eq_some_iff.1 hj
      obtain ⟨hlt, rfl⟩ := List.getElem?_eq_some_iff.1 hy
      have := hcell j hlt 0 (by omega)
      simpa [eT] using this) hb (by simp; omega) (by simpa using hc) (by
      rw [hmap]
      show (Lib.join l [32]).length ≤ _
      rw [join_bl, List.length_tail]; omega)
    rw [hmap, List.length_map] at this
    refine this.mono ?_
    rintro e w' ⟨rfl, hb2⟩
    refine ⟨?_, hb2⟩
    show Ending.returned (.string (bstr (Lib.join l [32]))) = _
    rw [join_bl]
end Go.Proofs.Ytolahnnkdpbdfaa

namespace Go.Proofs.Ytolahnnkdpbdfaa
open Go.Proofs Go.RowKit Go.Shelf Go.Sl Go.Prs
theorem ret_pr {q : Qy} {x : List UInt8} {n : Nat} {y : ByteArray} {f : Int} (h : Prs.print q = (x, n)) (h1 : y = bstr x) (h2 : f = n) : Ending.returned (.tuple #[.string y, .int .i64 f]) = .returned (.tuple #[.string (bstr (Prs.print q).1), .int .i64 ((Prs.print q).2 : Nat)]) := by rw [h, h1, h2]
set_option maxRecDepth 100000 in
set_option maxHeartbeats 8000000 in
theorem print_ok (iv : Value) (q : Qy) (w : World) (h : IS w iv q.its) (hs : Sms q.its) (ht : ∀ x ∈ q.its, Tx x.a ∧ Tx x.b) (hbl : (bl (pts q q.its.length)).length ≤ 140737488355328) (hok : okQy q = true) :
    Calls Try.prog 28 #[qv iv q] w fun e w' => e = .returned (.tuple #[.string (bstr (Prs.print q).1), .int .i64 ((Prs.print q).2 : Nat)]) ∧ Below w.heap.size w w' := by
  have HC := Lib.hid (fun u (hu : Below w.heap.size w u) => check_any iv q u (h.ext hu) hs)
  obtain ⟨rs, hsl, hra⟩ := h
  have HSl := Lib.hid hsl
  have Hlen := Lib.hid (show rs.length = q.its.length from hra.len)
  have hm1 := hsl.len_le
  have HIt : Hid (∀ (k : Nat) (hk : k < rs.length) (hk2 : k < q.its.length) (u : World), Below w.heap.size w u → Calls Try.prog 51 #[.agg #[.int .i64 rs[k].k, .string (bstr rs[k].ab), sv rs[k].av, .string (bstr rs[k].bb), sv rs[k].bv, .bool rs[k].nt]] u fun e w' => ∃ a n c, e = .returned (.slice a n c) ∧ Sl eT 1 w' (.slice a n c) (itP q.its[k]) ∧ Below u.heap.size u w') := Lib.hid (by
    intro k hk hk2 u hu
    have hr := hra.get k hk hk2
    have hm := ht _ (List.getElem_mem hk2)
    have hq : okIt q.its[k] = true := by
      rw [okQy_eq, Bool.and_eq_true] at hok
      exact List.all_eq_true.1 hok.1 _ (List.getElem_mem hk2)
    have := itTexts_any q.its[k] (sv rs[k].av) (sv rs[k].bv) u (hr.av.ext hu) (hr.bv.ext hu) hq hm.1 hm.2
    rw [hr.k, hr.ab, hr.bb, hr.nt]
    exact this)
  have HBl := Lib.hid hbl
  have HIl := Lib.hid hs.1
  obtain ⟨ao, cap, rfl, -⟩ := hsl.shp
  clear hsl hra ht hs hbl
  have HS := Lib.hid ((Below.refl w.heap.size w).alloc (Nat.le_refl _) (.cells #[.slice ao rs.length cap, .int .i64 q.mx, .int .i64 q.sk, .int .i64 q.od, .bool q.fi, .bool q.rv] 47))
  have HK := Lib.hid (heap_alloc_new w (.cells #[.slice ao rs.length cap, .int .i64 q.mx, .int .i64 q.sk, .int .i64 q.od, .bool q.fi, .bool q.rv] 47))
  have hsz : w.heap.size < (w.alloc (.cells #[.slice ao rs.length cap, .int .i64 q.mx, .int .i64 q.sk, .int .i64 q.od, .bool q.fi, .bool q.rv] 47)).heap.size := by simp
  have hz : ckN q = 0 := by unfold ckN; rw [if_pos hok]
  rw [hz] at HC
  unfold qv at HC ⊢
  clear hz
  go_enter Try.func28, Try.ntmps28
  go_wp2_with fail
  generalize w.alloc (.cells #[.slice ao rs.length cap, .int .i64 q.mx, .int .i64 q.sk, .int .i64 q.od, .bool q.fi, .bool q.rv] 47) = W at HS HK hsz ⊢
  have HKu := Lib.hid (fun u (hu : Below W.heap.size W u) => (hu.block _ hsz).trans HK.out)
  have Hsz := Lib.hid hsz
  clear hsz
  refine (HC.out _ HS.out).mono ?_
  rintro e w1 ⟨rfl, hb⟩
  have HB1 := Lib.hid hb
  clear hb
  obtain ⟨_, k0, k1, k2, k3, k4, k5⟩ := six_cells (HKu.out _ HB1.out)
  have kf := bk_frozen ⟨_, HKu.out _ HB1.out⟩
  clear HC
  have HNu : Hid (∀ u, Below w1.heap.size w1 u → u.heap[w.heap.size]? = some (.cells #[.slice ao rs.length cap, .int .i64 q.mx, .int .i64 q.sk, .int .i64 q.od, .bool q.fi, .bool q.rv] 47 (0, 0))) := Lib.hid (fun u hu => HKu.out _ (HB1.out.trans (hu.mono HB1.out.size)))
  have HL := Lib.hid (Lb.start w1)
  have HW := Lib.hid ((Below.refl w1.heap.size w1).alloc (Nat.le_refl _) (.cells #[.slice none 0 0] 104))
  go_wp2_with fail
  refine (put_any w1.heap.size [] (q.od == 1) bTopo _ HL.out (by simp)).mono ?_
  rintro e w2 ⟨rfl, hl, hb⟩
  have HL2 : Hid (Lb w1.heap.size (add (q.od == 1) bTopo []) w2) := Lib.hid hl
  have HW2 := Lib.hid (HW.out.trans hb)
  clear hl hb HL HW k0 k1 k2 k3 k4 k5 kf
  obtain ⟨_, k0, k1, k2, k3, k4, k5⟩ := six_cells (HNu.out _ HW2.out)
  have kf := bk_frozen ⟨_, HNu.out _ HW2.out⟩
  go_wp2_with fail
  refine (put_any w1.heap.size _ (q.od == 2) bTime _ HL2.out (by have := add_len (q.od == 1) bTopo []; simp at this; omega)).mono ?_
  rintro e w3 ⟨rfl, hl, hb⟩
  have HL3 : Hid (Lb w1.heap.size (add (q.od == 2) bTime (add (q.od == 1) bTopo [])) w3) := Lib.hid hl
  have HW3 := Lib.hid (HW2.out.trans hb)
  clear hl hb HL2 HW2 k0 k1 k2 k3 k4 k5 kf
  obtain ⟨_, k0, k1, k2, k3, k4, k5⟩ := six_cells (HNu.out _ HW3.out)
  have kf := bk_frozen ⟨_, HNu.out _ HW3.out⟩
  go_upto_region 8 with fail
  go_cut [] (fun wx => Hid (Lb w1.heap.size (add (decide (0 ≤ q.mx)) (bMax ++ dg (max q.mx 0)) (add (q.od == 2) bTime (add (q.od == 1) bTopo []))) wx) ∧ Hid (Below w1.heap.size w1 wx))
  case first =>
    obtain ⟨M, hM⟩ : ∃ M : Int, max q.mx 0 = M := ⟨_, rfl⟩
    obtain ⟨D, hD⟩ : ∃ D, Hid (dg M = D) := ⟨_, Lib.hid rfl⟩
    have hM9 : 0 ≤ M ∧ M ≤ 9999 := by
      rw [okQy_eq, Bool.and_eq_true] at hok
      have := of_decide_eq_true hok.2
      omega
    have HDm : Hid (∀ u, Calls Try.prog 50 #[.int .i64 M] u fun e w' => e = .returned (.string (bstr D)) ∧ Below u.heap.size u w') := Lib.hid (fun u => by
      have := digits50 M.toNat (by omega) u
      rw [show ((M.toNat : Nat) : Int) = M by omega] at this
      rw [← hD.out]; exact this)
    have hDl : D.length ≤ 4 := by rw [← hD.out]; exact dgN_len _
    have hcat : (⟨#[45, 45, 109, 97, 120, 61]⟩ : ByteArray) ++ bstr D = bstr (bMax ++ D) := by rw [← bstr_append]; rfl
    have hg : ¬ (9223372036854775807 < 6 + D.length) := by omega
    clear hM9
    go_region_law (first
      | (go_simp; go_at_call 50; refine (HDm.out _).mono ?_; rintro e wd ⟨rfl, hbd⟩; have HBd : Hid (Below w3.heap.size w3 wd) := Lib.hid (below_undrew hbd); have HWd := Lib.hid (HW3.out.trans (HBd.out.mono (Nat.le_of_lt HL3.out.lt))); clear hbd; obtain ⟨-, s0, s1, s2, s3, s4, s5⟩ := six_cells (HNu.out _ HWd.out); have sf := bk_frozen ⟨_, HNu.out _ HWd.out⟩; dsimp only)
      | (go_simp; go_at_call 49; refine (put_any w1.heap.size _ (decide (0 ≤ q.mx)) (bMax ++ D) _ (HL3.out.ext HBd.out) (by have := add_len (q.od == 1) bTopo []; have := add_len (q.od == 2) bTime (add (q.od == 1) bTopo []); simp at *; omega)).mono ?_; rintro e w4 ⟨rfl, hl, hb⟩; have HL4 : Hid (Lb w1.heap.size (add (decide (0 ≤ q.mx)) (bMax ++ D) (add (q.od == 2) bTime (add (q.od == 1) bTopo []))) w4) := Lib.hid hl; have HW4 := Lib.hid (HWd.out.trans hb); clear hl hb; dsimp only))
    all_goals
      go_wp2_with fail
      go_meet
      exact ⟨by rw [hM, hD.out]; exact HL4, HW4⟩
  case rest =>
    obtain ⟨HL4, HW4⟩ := hcut
    clear k0 k1 k2 k3 k4 k5 kf HL3 HW3
    obtain ⟨_, k0, k1, k2, k3, k4, k5⟩ := six_cells (HNu.out _ HW4.out)
    have kf := bk_frozen ⟨_, HNu.out _ HW4.out⟩
    go_upto_region 9 with fail
    go_cut [] (fun wx => Hid (Lb w1.heap.size (add (decide (0 < q.sk)) (bSkip ++ dg q.sk) (add (decide (0 ≤ q.mx)) (bMax ++ dg (max q.mx 0)) (add (q.od == 2) bTime (add (q.od == 1) bTopo [])))) wx) ∧ Hid (Below w1.heap.size w1 wx))
    case first =>
      obtain ⟨D, hD⟩ : ∃ D, Hid (dg q.sk = D) := ⟨_, Lib.hid rfl⟩
      have hM9 : 0 ≤ q.sk ∧ q.sk ≤ 9999 := by
        rw [okQy_eq, Bool.and_eq_true] at hok
        have := of_decide_eq_true hok.2
        omega
      have HDm : Hid (∀ u, Calls Try.prog 50 #[.int .i64 q.sk] u fun e w' => e = .returned (.string (bstr D)) ∧ Below u.heap.size u w') := Lib.hid (fun u => by
        have := digits50 q.sk.toNat (by omega) u
        rw [show ((q.sk.toNat : Nat) : Int) = q.sk by omega] at this
        rw [← hD.out]; exact this)
      have hDl : D.length ≤ 4 := by rw [← hD.out]; exact dgN_len _
      have hcat : (⟨#[45, 45, 115, 107, 105, 112, 61]⟩ : ByteArray) ++ bstr D = bstr (bSkip ++ D) := by rw [← bstr_append]; rfl
      have hg : ¬ (9223372036854775807 < 7 + D.length) := by omega
      have HLn := Lib.hid (show ((add (decide (0 ≤ q.mx)) (bMax ++ dg (max q.mx 0)) (add (q.od == 2) bTime (add (q.od == 1) bTopo [])))).length ≤ 1000 by
        have h1 := add_len (q.od == 1) bTopo []
        have h2 := add_len (q.od == 2) bTime (add (q.od == 1) bTopo [])
        have h3 := add_len (decide (0 ≤ q.mx)) (bMax ++ dg (max q.mx 0)) (add (q.od == 2) bTime (add (q.od == 1) bTopo []))
        simp only [List.length_nil] at h1
        omega)
      obtain ⟨L4, hL4⟩ : ∃ L, Hid ((add (decide (0 ≤ q.mx)) (bMax ++ dg (max q.mx 0)) (add (q.od == 2) bTime (add (q.od == 1) bTopo []))) = L) := ⟨_, Lib.hid rfl⟩
      rw [hL4.out] at HL4 HLn
      clear hM9
      go_region_law (first
        | (go_simp; go_at_call 50; refine (HDm.out _).mono ?_; rintro e wd ⟨rfl, hbd⟩; have HBd : Hid (Below wc.heap.size wc wd) := Lib.hid (below_undrew hbd); have HWd := Lib.hid (HW4.out.trans (HBd.out.mono (Nat.le_of_lt HL4.out.lt))); clear hbd; obtain ⟨-, s0, s1, s2, s3, s4, s5⟩ := six_cells (HNu.out _ HWd.out); have sf := bk_frozen ⟨_, HNu.out _ HWd.out⟩; dsimp only)
        | (go_simp; go_at_call 49; refine (put_any w1.heap.size _ (decide (0 < q.sk)) (bSkip ++ D) _ (HL4.out.ext HBd.out) HLn.out).mono ?_; rintro e w4 ⟨rfl, hl, hb⟩; have HL5 : Hid (Lb w1.heap.size (add (decide (0 < q.sk)) (bSkip ++ D) L4) w4) := Lib.hid hl; have HW5 := Lib.hid (HWd.out.trans hb); clear hl hb; dsimp only))
      all_goals
        go_wp2_with fail
        go_meet
        exact ⟨by rw [hD.out, hL4.out]; exact HL5, HW5⟩
    case rest =>
      clear k0 k1 k2 k3 k4 k5 kf HL4 HW4
      obtain ⟨HL5, HW5⟩ := hcut
      obtain ⟨_, k0, k1, k2, k3, k4, k5⟩ := six_cells (HNu.out _ HW5.out)
      have kf := bk_frozen ⟨_, HNu.out _ HW5.out⟩
      have HLn := Lib.hid (fl_len q)
      have HF : Hid (fl q = add q.rv bRev (add q.fi bFirst (add (decide (0 < q.sk)) (bSkip ++ dg q.sk) (add (decide (0 ≤ q.mx)) (bMax ++ dg (max q.mx 0)) (add (q.od == 2) bTime (add (q.od == 1) bTopo [])))))) := Lib.hid rfl
      obtain ⟨L5, hL5⟩ : ∃ L, Hid ((add (decide (0 < q.sk)) (bSkip ++ dg q.sk) (add (decide (0 ≤ q.mx)) (bMax ++ dg (max q.mx 0)) (add (q.od == 2) bTime (add (q.od == 1) bTopo [])))) = L) := ⟨_, Lib.hid rfl⟩
      have HLn5 := Lib.hid (show ((add (decide (0 < q.sk)) (bSkip ++ dg q.sk) (add (decide (0 ≤ q.mx)) (bMax ++ dg (max q.mx 0)) (add (q.od == 2) bTime (add (q.od == 1) bTopo []))))).length ≤ 900 by
        have h1 := add_len (q.od == 1) bTopo []
        have h2 := add_len (q.od == 2) bTime (add (q.od == 1) bTopo [])
        have h3 := add_len (decide (0 ≤ q.mx)) (bMax ++ dg (max q.mx 0)) (add (q.od == 2) bTime (add (q.od == 1) bTopo []))
        have h4 := add_len (decide (0 < q.sk)) (bSkip ++ dg q.sk) (add (decide (0 ≤ q.mx)) (bMax ++ dg (max q.mx 0)) (add (q.od == 2) bTime (add (q.od == 1) bTopo [])))
        simp only [List.length_nil] at h1
        omega)
      rw [hL5.out] at HL5 HLn5 HF
      go_wp2_with fail
      refine (put_any w1.heap.size L5 q.fi bFirst _ HL5.out (by have := HLn5.out; omega)).mono ?_
      rintro e w6 ⟨rfl, hl, hb⟩
      have HL6 : Hid (Lb w1.heap.size (add q.fi bFirst L5) w6) := Lib.hid hl
      have HW6 := Lib.hid (HW5.out.trans hb)
      clear hl hb HL5 HW5 k0 k1 k2 k3 k4 k5 kf
      obtain ⟨_, k0, k1, k2, k3, k4, k5⟩ := six_cells (HNu.out _ HW6.out)
      have kf := bk_frozen ⟨_, HNu.out _ HW6.out⟩
      go_wp2_with fail
      refine (put_any w1.heap.size _ q.rv bRev _ HL6.out (by have := add_len q.fi bFirst L5; have := HLn5.out; omega)).mono ?_
      rintro e w7 ⟨rfl, hl, hb⟩
      have HL7 : Hid (Lb w1.heap.size (fl q) w7) := Lib.hid (by rw [HF.out]; exact hl)
      have HW7 := Lib.hid (HW6.out.trans hb)
      clear hl hb HL6 HW6 k0 k1 k2 k3 k4 k5 kf HF HLn5 hL5
      obtain ⟨_, k0, k1, k2, k3, k4, k5⟩ := six_cells (HNu.out _ HW7.out)
      have kf := bk_frozen ⟨_, HNu.out _ HW7.out⟩
      have HBw := Lib.hid (fun u (hu : Below w1.heap.size w1 u) => HS.out.trans ((HB1.out.trans (hu.mono HB1.out.size)).mono HS.out.size))
      have HL0 : Hid (Lb w1.heap.size (pts q 0) w7) := Lib.hid (by unfold pts; simpa using HL7.out)
      have hnz := Lib.hid (HW7.out.size)
      clear HL7 HKu HK Hsz
      go_wp2_with fail
      go_loopw [56] (fun i wr => ∃ k : Nat, k ≤ rs.length ∧ i = .int .i64 k ∧ Hid (Lb w1.heap.size (pts q k) wr) ∧ Hid (Below w1.heap.size w1 wr)) (fun i _ => rs.length - (intOf i).toNat)
      case atStart => exact ⟨0, by omega, rfl, HL0, HW7⟩
      case round =>
        clear HL0 HW7 k0 k1 k2 k3 k4 k5 kf
        obtain ⟨k, hk, rfl, HL, HW⟩ := hrel
        by_cases hlt : k < rs.length
        · have hlt2 : k < q.its.length := by rw [← Hlen.out]; exact hlt
          obtain ⟨b5, o5, h5, hix, hc⟩ := (HSl.out.ext (HBw.out _ HW.out)).at (P := Try.prog) Try.underlying45 cells83 some83 hlt
          have c0 := hc 0 (by omega)
          have c1 := hc 1 (by omega)
          have c2 := hc 2 (by omega)
          have c3 := hc 3 (by omega)
          have c4 := hc 4 (by omega)
          have c5 := hc 5 (by omega)
          simp only [eRi, List.getElem?_cons_zero, List.getElem?_cons_succ, Nat.add_zero] at c0 c1 c2 c3 c4 c5
          have hN := Lib.hid (HIt.out k hlt hlt2)
          have hd : decide ((k : Int) < (rs.length : Int)) = true := decide_eq_true (by omega)
          obtain ⟨x, hx⟩ : ∃ x, Hid (rs[k] = x) := ⟨_, Lib.hid rfl⟩
          rw [hx.out] at c0 c1 c2 c3 c4 c5 hN
          unfold sv at c2 c4 hN
          have HP := Lib.hid (pts_step hlt2)
          have HPl := Lib.hid (show (pts q k).length ≤ 4000 by have := pts_len q k; have := HIl.out; omega)
          have HIm := Lib.hid (itP_len q.its[k])
          obtain ⟨P, hP⟩ : ∃ P, Hid (pts q k = P) := ⟨_, Lib.hid rfl⟩
          obtain ⟨M, hM⟩ : ∃ P, Hid (itP q.its[k] = P) := ⟨_, Lib.hid rfl⟩
          rw [hP.out] at HL HP HPl
          rw [hM.out] at HP HIm hN
          clear hc
          go_upto_region 15 with fail
          have hX0 := heap_alloc_new wr (.cells #[.int .i64 x.k, .string (bstr x.ab), .slice x.av.1 x.av.2.1 x.av.2.2, .string (bstr x.bb), .slice x.bv.1 x.bv.2.1 x.bv.2.2, .bool x.nt] 83)
          have hL1 := HL.out.ext ((Below.refl wr.heap.size wr).alloc (Nat.le_refl _) (.cells #[.int .i64 x.k, .string (bstr x.ab), .slice x.av.1 x.av.2.1 x.av.2.2, .string (bstr x.bb), .slice x.bv.1 x.bv.2.1 x.bv.2.2, .bool x.nt] 83))
          have hW1 := HW.out.alloc HW.out.size (.cells #[.int .i64 x.k, .string (bstr x.ab), .slice x.av.1 x.av.2.1 x.av.2.2, .string (bstr x.bb), .slice x.bv.1 x.bv.2.1 x.bv.2.2, .bool x.nt] 83)
          generalize wr.alloc (.cells #[.int .i64 x.k, .string (bstr x.ab), .slice x.av.1 x.av.2.1 x.av.2.2, .string (bstr x.bb), .slice x.bv.1 x.bv.2.1 x.bv.2.2, .bool x.nt] 83) = Wr at hX0 hL1 hW1 ⊢
          have HW1 := Lib.hid hW1
          obtain ⟨v, hv1, hv2⟩ := hL1
          have HV1 := Lib.hid hv1
          have HV2 := Lib.hid hv2
          obtain ⟨va, vn, vc, rfl⟩ := hv2.isSlice
          obtain ⟨hNlt, n0, nf⟩ := one_cells hv1
          obtain ⟨_, y0, y1, y2, y3, y4, y5⟩ := six_cells hX0
          clear hv1 hv2 hW1 hX0 c0 c1 c2 c3 c4 c5 hix h5
          go_region_law (first
            | (go_simp; go_at_call 51; refine (hN.out _ (HBw.out _ HW1.out.drew)).mono ?_; rintro e w8 ⟨ta, tn, tc, rfl, hsl, hb⟩; have HB8 : Hid (Below Wr.heap.size Wr w8) := Lib.hid (below_undrew hb); have HSl8 := Lib.hid hsl; have HV8 := Lib.hid ((HB8.out.block _ hNlt).trans HV1.out); have HO8 := Lib.hid (HV2.out.ext HB8.out); obtain ⟨-, n8, nf8⟩ := one_cells HV8.out; clear hb hsl; dsimp only)
            | (refine step_append rfl (en := eT) (s := 1) (base := w1.heap.size) (e := 9) _ _ _ (by rfl) _ 16 Try.underlying104 info9T rfl (by decide) len_eT one_eT _ _ P M (by rfl) HO8.out (by rfl) HSl8.out (by have := HPl.out; have := HIm.out; simp [maxLen]; omega) (by have := HPl.out; have := HIm.out; omega) (Nat.le_trans HW1.out.size HB8.out.size) ?_; intro v4 w4 hown4 hgr4 hb4; obtain ⟨wa, wn, wcp, rfl⟩ := hown4.isSlice; have HPt := Lib.hid (Lb.put (v4 := .slice wa wn wcp) HV8.out HO8.out hown4 hgr4 hb4); obtain ⟨-, n4, f4⟩ := one_cells (grown_heap hgr4 HV8.out (HO8.out.ne_elem HV8.out (by decide))); clear hown4 hgr4 hb4; dsimp only))
          all_goals
            have HLn := Lib.hid (show Lb w1.heap.size (pts q (k + 1)) _ from by rw [HP.out]; exact HPt.out.1)
            have HWn := Lib.hid (HW1.out.trans ((HB8.out.mono HW1.out.size).trans HPt.out.2))
            go_wp2_with fail
            go_roundw
            case rel => exact ⟨k + 1, by omega, by go_num, HLn, HWn⟩
            case measure => simp [intOf]; omega
        · have hd : decide ((k : Int) < (rs.length : Int)) = false := decide_eq_false (by omega)
          obtain rfl : k = rs.length := by omega
          rw [Hlen.out] at HL
          obtain ⟨v, hv1, hv2⟩ := HL.out
          have HJ := Lib.hid (join52 (pts q q.its.length) v wr (hv2.sl len_eT) (by have := pts_len q q.its.length; have := HIl.out; omega) HBl.out)
          obtain ⟨va, vn, vc, rfl⟩ := hv2.isSlice
          obtain ⟨-, n0, nf⟩ := one_cells hv1
          have HY := Lib.hid (qyT_bl hok)
          obtain ⟨T, hT⟩ : ∃ T, Hid ((qyT q).tail = T) := ⟨_, Lib.hid rfl⟩
          rw [← HY.out, hT.out] at HJ
          clear hv1 hv2
          go_wp2_with fail
          refine HJ.out.mono ?_
          rintro e w8 ⟨rfl, hb⟩
          have HB8 := Lib.hid ((HBw.out _ HW.out).trans (hb.mono (HBw.out _ HW.out).size))
          have Hok := Lib.hid hok
          clear hb n0 nf
          by_cases hlong : 200 < T.length
          · have hl : decide ((200 : Int) < (T.length : Int)) = true := decide_eq_true (by omega)
            have HPr : Hid (Prs.print q = ([], 3)) := Lib.hid (by
              unfold Prs.print
              rw [if_pos Hok.out, if_pos]
              rw [← hT.out, List.length_tail] at hlong; omega)
            clear hlong
            go_wp2_with fail
            refine bodyPost_ret (v := .tuple #[.string ⟨#[]⟩, .int .i64 3]) ?_ rfl ?_
            · simp [results, Try.results28, go_sem]
            · exact ⟨ret_pr HPr.out rfl rfl, HB8.out⟩
          · have hl : decide ((200 : Int) < (T.length : Int)) = false := decide_eq_false (by omega)
            have HPr : Hid (Prs.print q = (T, 0)) := Lib.hid (by
              unfold Prs.print
              rw [if_pos Hok.out, if_neg, hT.out]
              rw [← hT.out, List.length_tail] at hlong; omega)
            clear hlong
            go_wp2_with fail
            refine bodyPost_ret (v := .tuple #[.string (bstr T), .int .i64 0]) ?_ rfl ?_
            · simp [results, Try.results28, go_sem]
            · exact ⟨ret_pr HPr.out rfl rfl, HB8.out⟩
end Go.Proofs.Ytolahnnkdpbdfaa

namespace Go.Prs
/-- not more, nor longer, parts than statements go -/
def LgR (r : Rv) : Prop := r.b.length ≤ 300 ∧ r.st.length ≤ 70 ∧ ∀ s ∈ r.st, s.w.length ≤ 300
def Lg (q : Qy) : Prop := q.its.length ≤ 70 ∧ ∀ x ∈ q.its, LgR x.a ∧ LgR x.b
theorem stT_len (s : St) (h : s.w.length ≤ 300) : (stT s).length ≤ 310 := by
  have := dgN_len s.n.toNat
  unfold stT num dg
  split
  · split <;> simp <;> omega
  · split
    · split <;> simp <;> omega
    · split
      · simp; omega
      · simp
theorem flat_le {α : Type} (f : α → List UInt8) (B : Nat) : ∀ l : List α, (∀ x ∈ l, (f x).length ≤ B) → ((l.map f).flatten).length ≤ l.length * B
  | [], _ => by simp
  | x :: l, h => by
    have h1 := flat_le f B l (fun y hy => h y (by simp [hy]))
    have h2 := h x (by simp)
    simp only [List.map_cons, List.flatten_cons, List.length_append, List.length_cons, Nat.add_mul, Nat.one_mul]
    omega
theorem rvT_len {r : Rv} (h : LgR r) : (rvT r).length ≤ 30000 := by
  obtain ⟨h1, h2, h3⟩ := h
  have := flat_le stT 310 r.st (fun s hs => stT_len s (h3 s hs))
  have : r.st.length * 310 ≤ 70 * 310 := Nat.mul_le_mul_right _ h2
  unfold rvT
  rw [List.length_append]; omega
theorem itT_len {x : It} (ha : LgR x.a) (hb : LgR x.b) : (itT x).length ≤ 70000 := by
  have := rvT_len ha
  have := rvT_len hb
  have e1 : "--not ".toUTF8.data.toList.length ≤ 10 := by decide +kernel
  have e2 : " --not".toUTF8.data.toList.length ≤ 10 := by decide +kernel
  unfold itT
  split
  · split <;> simp <;> omega
  · simp only [List.length_append]
    repeat' split
    all_goals simp only [List.length_cons, List.length_nil]
    all_goals omega
theorem bl_len : ∀ l : List (List UInt8), ∀ s ∈ l, s.length < (bl l).length
  | t :: l, s, h => by
    simp only [bl, List.map_cons, List.flatten_cons, List.length_append, List.length_cons]
    rcases List.mem_cons.1 h with rfl | h
    · omega
    · have := bl_len l s h
      simp only [bl] at this; omega
theorem fl_bl (q : Qy) : (bl (fl q)).length ≤ 200 := by
  have h1 := dgN_len (max q.mx 0).toNat
  have h2 := dgN_len q.sk.toNat
  unfold fl
  rw [bl_add, bl_add, bl_add, bl_add, bl_add, bl_add]
  simp only [List.length_append]
  repeat' split
  all_goals simp only [bl, dg, bTopo, bTime, bMax, bSkip, bFirst, bRev, List.length_cons, List.length_append, List.length_nil, List.map_nil, List.flatten_nil]
  all_goals omega
theorem itP_bl {x : It} (ha : LgR x.a) (hb : LgR x.b) : (bl (itP x)).length ≤ 70000 := by
  have := rvT_len ha
  have := rvT_len hb
  unfold itP itS bl
  repeat' split
  all_goals simp [bNot]
  all_goals omega
theorem bl_flat : ∀ l : List It, (∀ x ∈ l, LgR x.a ∧ LgR x.b) → (bl (l.flatMap itP)).length ≤ l.length * 70000
  | [], _ => by simp [bl]
  | x :: l, h => by
    have h1 := bl_flat l (fun y hy => h y (by simp [hy]))
    have h2 := itP_bl (h x (by simp)).1 (h x (by simp)).2
    rw [List.flatMap_cons, bl_app, List.length_append, List.length_cons, Nat.add_mul, Nat.one_mul]
    omega
theorem pts_bl {q : Qy} (h : Lg q) : (bl (pts q q.its.length)).length ≤ 10000000 := by
  have h1 := fl_bl q
  have h2 := bl_flat q.its h.2
  have h3 : q.its.length * 70000 ≤ 70 * 70000 := Nat.mul_le_mul_right _ h.1
  unfold pts
  rw [List.take_length, bl_app, List.length_append]; omega
end Go.Prs
namespace Go.Proofs.Ytolahnnkdpbdfaa
open Go.Proofs Go.RowKit Go.Shelf Go.Sl Go.Prs
theorem lg_sm {r : Rv} (h : LgR r) : Sm r := ⟨by have := h.1; omega, by have := h.2.1; omega, fun s hs => by have := h.2.2 s hs; omega⟩
theorem lg_tx {r : Rv} (h : LgR r) : Tx r := ⟨fun s hs => by have := h.2.2 s hs; omega, by have := rvT_len h; omega⟩
theorem lg_sms {q : Qy} (h : Lg q) : Sms q.its := ⟨by have := h.1; omega, fun x hx => ⟨lg_sm (h.2 x hx).1, lg_sm (h.2 x hx).2⟩⟩
set_option maxRecDepth 100000 in
set_option maxHeartbeats 8000000 in
theorem print_no (iv : Value) (q : Qy) (w : World) (h : IS w iv q.its) (hs : Sms q.its) (hok : okQy q = false) :
    Calls Try.prog 28 #[qv iv q] w fun e w' => e = .returned (.tuple #[.string (bstr (Prs.print q).1), .int .i64 ((Prs.print q).2 : Nat)]) ∧ Below w.heap.size w w' := by
  have HC := Lib.hid (fun u (hu : Below w.heap.size w u) => check_any iv q u (h.ext hu) hs)
  obtain ⟨ao, an, cap, rfl⟩ := h.isSlice
  have HS := Lib.hid ((Below.refl w.heap.size w).alloc (Nat.le_refl _) (.cells #[.slice ao an cap, .int .i64 q.mx, .int .i64 q.sk, .int .i64 q.od, .bool q.fi, .bool q.rv] 47))
  have HPr : Hid (Prs.print q = ([], 2)) := Lib.hid (by unfold Prs.print; rw [if_neg (by simp [hok])])
  have hz : ckN q = 2 := by unfold ckN; rw [if_neg (by simp [hok])]
  rw [hz] at HC
  unfold qv at HC ⊢
  clear hz h hs hok
  go_enter Try.func28, Try.ntmps28
  go_wp2_with fail
  refine (HC.out _ HS.out).mono ?_
  rintro e w1 ⟨rfl, hb⟩
  have HB1 := Lib.hid (HS.out.trans (hb.mono HS.out.size))
  clear hb
  go_wp2_with fail
  refine bodyPost_ret (v := .tuple #[.string ⟨#[]⟩, .int .i64 2]) ?_ rfl ?_
  · simp [results, Try.results28, go_sem]
  · exact ⟨ret_pr HPr.out rfl rfl, HB1.out⟩
theorem print_any (iv : Value) (q : Qy) (w : World) (h : IS w iv q.its) (hl : Lg q) :
    Calls Try.prog 28 #[qv iv q] w fun e w' => e = .returned (.tuple #[.string (bstr (Prs.print q).1), .int .i64 ((Prs.print q).2 : Nat)]) ∧ Below w.heap.size w w' := by
  cases hok : okQy q
  · exact print_no iv q w h (lg_sms hl) hok
  · exact print_ok iv q w h (lg_sms hl) (fun x hx => ⟨lg_tx (hl.2 x hx).1, lg_tx (hl.2 x hx).2⟩) (by have := pts_bl hl; omega) hok
end Go.Proofs.Ytolahnnkdpbdfaa
