/-
  Bytes read as a string, and an empty slice that has just been laid. No program is named here.
-/
import Derived.Test.YtolahnnkdpbdfaaSl
import Derived.Laws.BytesString
import Derived.Laws.Cells
namespace Go.Sl
open Go.RowKit

/-- bytes as a string -/
def bstr (l : List UInt8) : ByteArray := ⟨l.toArray⟩
theorem bstr_inj {l m : List UInt8} : bstr l = bstr m ↔ l = m := by
  unfold bstr
  constructor
  · intro h
    have := congrArg (fun x => x.data.toList) h
    simpa using this
  · rintro rfl; rfl

theorem fold_push (l : List UInt8) : ∀ r : ByteArray, (l.map fun b => ((b.toNat : Nat) : Int)).foldl (fun r n => r.push (UInt8.ofNat n.toNat)) r = ⟨r.data ++ l.toArray⟩ := by
  induction l with
  | nil => intro r; simp
  | cons x l ih =>
    intro r
    rw [List.map_cons, List.foldl_cons, ih]
    simp [ByteArray.push]

theorem Sl.run_string {P : Program} {w : World} {v : Value} {l : List UInt8} {t d e : TypeId} (h : Sl eByte 1 w v l) (ht : P.underlying t = some (.slice e)) (he : P.underlying e = some (.int .u8)) (hd : P.underlying d = some .string) :
    (convert t d v).run P w = .ok (.string (bstr l)) w := by
  obtain ⟨ao, cap, rfl, h1, h2, h0, h3⟩ := h.shp
  rw [run_convert_bytes_string w t d e _ _ _ ht he hd]
  cases ao with
  | none =>
    have hl : l = [] := by
      rcases h3 with h3 | ⟨b, off, hb, _⟩
      · exact h3
      · cases hb
    subst hl
    simp [Conv.bytesToString, bstr]
    rfl
  | some a =>
    have hb := run_bytesToString (P := P) w a l.length cap (l.map fun b => ((b.toNat : Nat) : Int)) (by
      have := run_loadCells_list (P := P) (w := w) a (l.map fun b => Value.int .u8 ((b.toNat : Nat) : Int)) (by
        intro j x hx
        rcases h3 with rfl | ⟨b, off, hb, hb1, hb2⟩
        · simp at hx
        · obtain rfl := Option.some.inj hb
          have hj : j < l.length := by
            have := (List.getElem?_eq_some_iff.1 hx).1
            simpa using this
          have h5 := hb2 j hj 0 (by omega)
          rw [Addr.add_lit]
          rw [show off + j * 1 + 0 = off + j by omega] at h5
          rw [h5]
          simp [List.getElem?_eq_getElem hj] at hx
          simp [eByte, hx])
      rw [List.length_map] at this
      rw [this]
      simp [Function.comp_def])
    rw [hb, fold_push]
    simp [bstr, ByteArray.empty, ByteArray.emptyWithCapacity]
    rfl

/-- an empty slice that is not nil, just laid -/
theorem Own.fresh0 {α : Type} (en : α → List Value) (s : Nat) (w : World) (e : TypeId) {n : Nat} (hn : n = w.heap.size) : Own en s w.heap.size e (w.alloc (.cells #[] e)) (.slice (some ⟨n, 0, none⟩) 0 0) [] := by
  subst hn
  exact ⟨by simp, .inr ⟨_, 0, #[], rfl, Nat.le_refl _, heap_alloc_new _ _, Nat.le_refl _, by simp [maxLen], by simp, by simp⟩⟩
end Go.Sl
