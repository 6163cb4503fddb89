/-
  Arguments of layer 12 opened: refs, an id. No condition.
-/
import Derived.Test.YtopamnfelngkcaaDoorR1
import Derived.Test.YtopamnfelngkcaaDoorOpn2
import Derived.OpenShut
namespace Go.Proofs.YtopamnfelngkcaaDoor.Rf
open Go.RowKit Go.ChangeShapes Go.WideShapes Go.ChangeAt Go.Deep Go.Joins Go.Sl
section
variable {H : Type} {enc : TypeId × Value → H} {w : World} {base : Nat} {spare : Nat → Bool} {held : Bool}

theorem cells5 : Tryd.prog.cellsOf 5 = 1 := by kernel_rfl
theorem cells39 : Tryd.prog.cellsOf 39 = 32 := by kernel_rfl
theorem cell_eq {n : Int} (h : (Lit.int .u8 n).wf = true) : Value.int .u8 n = Extern.Stop.cell (toByte n) := by
  unfold Extern.Stop.cell
  congr 1
  exact (toByte_eq h).symm
theorem opn_id {fuel : Nat} {cs : List Value} {x : DataW H × List MemPlace} (h : DataW.trod enc Tryd.prog w base spare held fuel 39 cs = some x) : ∃ i : Idb, cs = eId i := by
  obtain ⟨xs, m, _, _, hl, hn, hv⟩ := DataW.trod_array Tryd.underlying39 h
  rw [cells39] at hl
  obtain ⟨l, hll, hp⟩ := choose_list (p := fun k (b : UInt8) => cs[k]? = some (Extern.Stop.cell b)) 32 (fun k hk => by
    have h1 := hv k hk
    rw [cells5, Nat.mul_one] at h1
    obtain ⟨y, hy⟩ : ∃ y, xs[k]? = some y := ⟨xs[k]'(by omega), List.getElem?_eq_getElem _⟩
    rw [hy] at h1
    obtain ⟨n, e1, _, wf⟩ := DataW.trod_int Tryd.underlying5 h1
    refine ⟨toByte n, ?_⟩
    have e2 : ((cs.drop k).take 1)[0]? = some (.int .u8 n) := by rw [e1]; rfl
    rw [List.getElem?_take, if_pos (by omega), List.getElem?_drop, Nat.add_zero] at e2
    rw [e2, cell_eq wf])
  refine ⟨⟨l, hll⟩, ?_⟩
  apply List.ext_getElem?
  intro k
  by_cases hk : k < 32
  · rw [hp k (by omega)]
    simp only [eId, List.getElem?_map, List.getElem?_eq_getElem (show k < l.length by omega), Option.map_some]
  · rw [List.getElem?_eq_none (by omega), List.getElem?_eq_none (by rw [len_eId]; omega)]

theorem opn_refs {fuel : Nat} {cs : List Value} {x : DataW H × List MemPlace} (h : DataW.trod enc Tryd.prog w base spare held fuel 37 cs = some x) :
    ∃ v l, cs = [v] ∧ Sl eRf 33 w v l ∧ ∀ r ∈ l, r.nm.length ≤ 9223372036854775807 :=
  opn_elems (by omega) len_eRf Tryd.underlying37 cells43 (fun n cs' y hy hl => by
    obtain ⟨y0, y1, m, _, _, h0, h1⟩ := trod_struct2 Tryd.underlying43 hy
    obtain ⟨i, hi⟩ := opn_id h1
    obtain ⟨s, hs, _, ws⟩ := DataW.trod_string Tryd.underlying9 h0
    obtain ⟨n, rfl, -⟩ := bstr_of s
    rw [cells39] at hi
    rw [show Tryd.prog.cellsOf 9 = 1 from cells9] at hs
    rw [bstr_size] at ws
    refine ⟨⟨n, i⟩, ws, ?_⟩
    rcases cs' with _ | ⟨c, r⟩
    · rw [List.length_nil] at hl; omega
    · rw [List.length_cons] at hl
      have e1 : c = .string (bstr n) := by simpa using hs
      have e2 : r = eId i := by
        rw [← hi]
        simp only [List.drop_succ_cons, List.drop_zero]
        rw [List.take_of_length_le (by omega)]
      rw [e1, e2]; unfold eRf; rfl) h

theorem opn_idv {v : Value} {d : DataW H} {p : List MemPlace} (h : DataW.Trod enc Tryd.prog w base spare held 39 v d p) : ∃ i : Idb, v = vId i := by
  obtain ⟨fuel, hf⟩ := h
  obtain ⟨i, hi⟩ := opn_id hf
  refine ⟨i, ?_⟩
  have hl : v.cells.size = 32 := by rw [← Array.length_toList, hi, len_eId]
  cases v with
  | agg cs =>
    have : cs.toList = eId i := hi
    rw [vId, ← this]
  | _ => simp [Value.cells] at hl
/-- a text that comes in is no longer than memory holds -/
theorem str_bound {P : Program} {ts : List TypeId} {ds : List (DataW H)} (h : (DataW.weightsEach P ts ds).all (· ≤ reachBytes) = true) {j : Nat} {t : TypeId} {s : List UInt8} (ht : ts[j]? = some t) (hd : ds[j]? = some (.lit (.string s))) : s.length ≤ 140737488355328 := by
  induction ts generalizing ds j with
  | nil => simp at ht
  | cons t0 ts ih =>
    cases ds with
    | nil => simp at hd
    | cons d0 ds =>
      simp only [DataW.weightsEach, List.all_append, Bool.and_eq_true] at h
      cases j with
      | zero =>
        obtain rfl : d0 = .lit (.string s) := by simpa using hd
        have h1 := h.1
        simp only [DataW.weights, List.all_cons, List.all_nil, Bool.and_true, decide_eq_true_eq] at h1
        unfold reachBytes at h1
        omega
      | succ j => exact ih h.2 (by simpa using ht) (by simpa using hd)
end
end Go.Proofs.YtopamnfelngkcaaDoor.Rf
