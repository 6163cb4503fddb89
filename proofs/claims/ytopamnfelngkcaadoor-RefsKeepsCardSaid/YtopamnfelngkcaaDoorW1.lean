/-
  Layer 5: what may be vis, a text's parts, names. No condition besides what the arguments are.
-/
import Derived.WalkKit
import Derived.Test.YtopamnfelngkcaaDoorShelf
import Derived.Test.YtopamnfelngkcaaDoorP4
import Derived.Test.YtopamnfelngkcaaDoorBs
import Derived.Test.YtopamnfelngkcaaDoorSub
import Derived.Test.YtopamnfelngkcaaDoorRow
import Derived.Test.YtopamnfelngkcaaDoorAp
namespace Go.Proofs.YtopamnfelngkcaaDoor
open Go.RowKit Go.Sl Go.Route
set_option linter.unusedVariables false

theorem ret_bool {a b : Bool} (h : a = b) : Ending.returned (.bool a) = .returned (.bool b) := by rw [h]
theorem ret_int {k : IntKind} {a b : Int} (h : a = b) : Ending.returned (.int k a) = .returned (.int k b) := by rw [h]
theorem ret_str {a b : List UInt8} (h : a = b) : Ending.returned (.string (bstr a)) = .returned (.string (bstr b)) := by rw [h]
theorem cells9 : Tryd.prog.cellsOf 9 = 1 := by kernel_rfl
theorem some9 : (Tryd.prog.info? 9).isSome = true := by kernel_rfl
theorem info9 : (Tryd.prog.info? 9).map (fun i => (i.zero, i.size, i.bytes)) = some (some (.string .empty), 1, 16) := by kernel_rfl
/-- a text as a string's cell -/
def eL (x : List UInt8) : List Value := [.string (bstr x)]
theorem len_eL (x : List UInt8) : (eL x).length = 1 := rfl
theorem one_eL (x : List UInt8) : ∀ u ∈ eL x, u.oneCell' = true := by simp [eL, Value.oneCell']
theorem below_then {w w1 w2 : World} (h : Below w.heap.size w w1) (h2 : Below w1.heap.size w1 w2) : Below w.heap.size w w2 := h.trans (h2.mono h.size)

/-- the library's own variable holds a number -/
def Ml (w : World) : Prop := ∃ m, w.cell? ⟨0, 0, none⟩ = some (.int .i64 m)
theorem Ml.ext {w w' : World} (h : Ml w) (hb : Below w.heap.size w w') : Ml w' := by
  obtain ⟨m, hm⟩ := h
  refine ⟨m, (hb.cell (p := ⟨0, 0, none⟩) ?_).trans hm⟩
  unfold World.cell? at hm
  split at hm
  · next h0 => exact (Array.getElem?_eq_some_iff.1 h0).1
  · cases hm

/-! ### bytes -/
theorem byte_int {c : UInt8} {k : Nat} (hk : k < 256) : ((c.toNat : Int) = k) ↔ c = UInt8.ofNat k := by
  constructor
  · intro h
    refine UInt8.toNat_inj.1 ?_
    rw [UInt8.toNat_ofNat']; omega
  · intro h; rw [h, UInt8.toNat_ofNat']; omega

theorem vis_take (l : List UInt8) {k : Nat} (h : k < l.length) : vis (l.take (k + 1)) = (vis (l.take k) && (decide (33 ≤ l[k].toNat) && decide (l[k].toNat ≤ 126))) := by
  unfold vis; rw [List.take_succ_eq_append_getElem h, List.all_append]; simp
theorem vis_false {l : List UInt8} {k : Nat} (h : k < l.length) (hc : l[k].toNat < 33 ∨ 126 < l[k].toNat) : vis l = false := by
  unfold vis
  rw [List.all_eq_false]
  refine ⟨l[k], List.getElem_mem h, ?_⟩
  simp only [Bool.and_eq_true, decide_eq_true_eq]; omega

set_option maxRecDepth 100000 in
set_option maxHeartbeats 400000 in
theorem plain_any (l : List UInt8) (w : World) (hl : l.length ≤ 9223372036854775807) :
    Calls Tryd.prog 67 #[.string (bstr l)] w fun e w' => e = .returned (.bool (vis l)) ∧ w = w' := by
  go_enter Tryd.func67, Tryd.ntmps67
  go_wp2_with fail
  go_loop [6] (fun i => ∃ (k : Nat), k ≤ l.length ∧ i = .int .i64 k ∧ Hid (vis (l.take k) = true)) (fun i => l.length - (intOf i).toNat)
  case atStart => exact ⟨0, by omega, rfl, Lib.hid rfl⟩
  case round =>
    obtain ⟨k, hk, rfl, HT⟩ := hrel
    by_cases hlt : k < l.length
    · obtain ⟨x, HX⟩ : ∃ x : Nat, Hid (l[k].toNat = x) := ⟨_, Lib.hid rfl⟩
      by_cases h1 : x < 33
      · have d1 : decide ((l[k].toNat : Int) < 33) = true := decide_eq_true (by rw [HX.out]; omega)
        have HZ := Lib.hid (vis_false hlt (.inl (by rw [HX.out]; exact h1)))
        clear h1
        go_wp2_with fail
        go_ret
        exact ⟨ret_bool HZ.out.symm, rfl⟩
      · have d1 : decide ((l[k].toNat : Int) < 33) = false := decide_eq_false (by rw [HX.out]; omega)
        by_cases h2 : 126 < x
        · have d2 : decide ((126 : Int) < (l[k].toNat : Int)) = true := decide_eq_true (by rw [HX.out]; omega)
          have HZ := Lib.hid (vis_false hlt (.inr (by rw [HX.out]; exact h2)))
          clear h1 h2
          go_wp2_with fail
          go_ret
          exact ⟨ret_bool HZ.out.symm, rfl⟩
        · have d2 : decide ((126 : Int) < (l[k].toNat : Int)) = false := decide_eq_false (by rw [HX.out]; omega)
          have HT2 : Hid (vis (l.take (k + 1)) = true) := Lib.hid (by rw [vis_take l hlt, HT.out, HX.out, decide_eq_true (by omega), decide_eq_true (by omega)]; rfl)
          clear h1 h2
          go_wp2_with fail
          go_round
          case rel => exact ⟨k + 1, by omega, by go_num, HT2⟩
          case measure => simp [intOf]; omega
    · have HZ : Hid (vis l = true) := Lib.hid (by have := HT.out; rwa [List.take_of_length_le (by omega)] at this)
      go_wp2_with fail
      go_ret
      exact ⟨ret_bool HZ.out.symm, rfl⟩

theorem index_ge (l : List UInt8) (c : UInt8) : (0 ≤ Lib.indexByte l c) ↔ c ∈ l := by
  constructor
  · intro h
    obtain ⟨i, hi⟩ : ∃ i : Nat, Lib.indexByte l c = i := ⟨(Lib.indexByte l c).toNat, by omega⟩
    exact List.mem_of_getElem? (Lib.indexByte_some hi).1
  · intro h
    obtain ⟨k, hk, hx⟩ := List.mem_iff_getElem.1 h
    have := Lib.indexByte_ge l c
    by_cases e : Lib.indexByte l c = -1
    · exact absurd (by rw [List.getElem?_eq_getElem hk, hx]) (Lib.indexByte_none e k)
    · omega
theorem contains_any (l : List UInt8) (w : World) : Calls Tryd.prog 68 #[.string (bstr l), .string ⟨#[47]⟩] w fun e w' => e = .returned (.bool (decide ((47 : UInt8) ∈ l))) ∧ w = w' := by
  refine (Tryd.strings_Contains_one (bstr l) 47 w).mono ?_
  rintro e w' ⟨rfl, rfl⟩
  have e1 : (bstr l).data.toList = l := by simp [bstr]
  rw [e1]
  refine ⟨ret_bool ?_, rfl⟩
  rw [Bool.eq_iff_iff, decide_eq_true_iff, decide_eq_true_iff]; exact index_ge l 47

theorem split_any (l : List UInt8) (w : World) (hl : l.length ≤ 100000) (hm : Ml w) :
    Calls Tryd.prog 70 #[.string (bstr l), .string ⟨#[47]⟩] w fun e w' => ∃ v, e = .returned v ∧ Sl eL 1 w' v (spl [] l) ∧ Below w.heap.size w w' := by
  obtain ⟨m, hm⟩ := hm
  refine (Tryd.strings_Split (bstr l) ⟨#[47]⟩ m w (by rw [bstr_size]; omega) hm (by decide)).mono ?_
  rintro e w' ⟨rfl, rfl⟩
  have e1 : (bstr l).data.toList = l := by simp [bstr]
  have hd := Lib.splitB_data ⟨#[47]⟩ 0 (Lib.countB (bstr l) ⟨#[47]⟩) (bstr l)
  have hc : Lib.countB (bstr l) ⟨#[47]⟩ = Lib.count l [47] := by unfold Lib.countB; rw [e1]
  have hs : (Lib.splitB ⟨#[47]⟩ 0 (Lib.countB (bstr l) ⟨#[47]⟩) (bstr l)).map (fun s => s.data.toList) = spl [] l := by
    rw [hd, e1, hc]
    exact split_spl l
  have hlen := congrArg List.length hs
  rw [List.length_map] at hlen
  have hcnt := spl_len [] l
  have hcl := List.count_le_length (a := (47 : UInt8)) (l := l)
  rw [hc, Lib.count_one]
  rw [hc, Lib.count_one] at hs hlen
  refine ⟨_, rfl, Sl.fresh len_eL rfl ?_ (by rw [hcnt]) (by rw [hcnt]; simp only [maxLen]; omega), (Below.refl _ _).alloc (Nat.le_refl _) _⟩
  rw [← hs, List.toList_toArray, List.flatMap_map]
  have : ∀ L : List ByteArray, L.map Value.string = L.flatMap fun s => eL s.data.toList := by
    intro L
    induction L with
    | nil => rfl
    | cons s L ih =>
      have hb : bstr s.data.toList = s := by cases s; simp [bstr]
      rw [List.map_cons, List.flatMap_cons, ih]; simp [eL, hb]
  exact this _

set_option maxHeartbeats 400000 in
theorem parts_any (l : List UInt8) (w : World) (hl : l.length ≤ 100000) (hm : Ml w) :
    Calls Tryd.prog 27 #[.string (bstr l)] w fun e w' => ∃ v, e = .returned v ∧ Sl eL 1 w' v (parts l) ∧ Below w.heap.size w w' := by
  have HC := Lib.hid (split_any l w hl hm)
  by_cases h0 : l = []
  · subst h0
    go_enter Tryd.func27, Tryd.ntmps27
    go_wp2_with fail
    go_ret
    exact ⟨_, rfl, Sl.nil _ _ _, Below.refl _ _⟩
  · have h1 : (l == []) = false := by simpa using h0
    have h2 : l.isEmpty = false := by simpa using h0
    have HP : Hid (parts l = spl [] l) := Lib.hid (if_neg h0)
    clear h0
    go_enter Tryd.func27, Tryd.ntmps27
    go_wp2_with (go_at_call 70; go_must (refine HC.out.mono ?_; rintro e w2 ⟨v, rfl, hs, hb⟩; have HS := Lib.hid hs; have HB := Lib.hid hb; clear hs hb))
    go_ret
    exact ⟨_, rfl, by rw [HP.out]; exact HS.out, HB.out⟩
end Go.Proofs.YtopamnfelngkcaaDoor
