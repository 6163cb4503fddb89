/-
  A part of a slice that is read as a list. No program is named here.
-/
import Derived.Test.YtolahnnkdpbdfaaSl
import Derived.Laws.Slices
namespace Go.Sl
open Go.RowKit

section
variable {α : Type} {en : α → List Value} {s : Nat} {w : World} {v : Value} {l : List α} {P : Program} {t e : TypeId}

theorem Sl.sliced {ao : Option Addr} {n cap : Nat} (h : Sl en s w (.slice ao n cap) l) {lo hi : Nat} (h1 : lo ≤ hi) (h2 : hi ≤ l.length) :
    Sl en s w (Go.sliced ao lo hi cap s) ((l.drop lo).take (hi - lo)) := by
  obtain ⟨ao', cap', hv, hlc, hm, hn, hc⟩ := h.shp
  simp only [Value.slice.injEq] at hv
  obtain ⟨rfl, rfl, rfl⟩ := hv
  have hlen : ((l.drop lo).take (hi - lo)).length = hi - lo := by simp; omega
  by_cases hcl : cap = lo
  · have hl0 : l.length = lo := by omega
    have hnil : (l.drop lo).take (hi - lo) = [] := by
      apply List.eq_nil_of_length_eq_zero; rw [hlen]; omega
    refine ⟨ao, cap - lo, ?_, by omega, by omega, fun h => by have := hn h; omega, .inl hnil⟩
    rw [hlen]; simp [Go.sliced, hcl]
  · refine ⟨ao.map (·.add (lo * s)), cap - lo, ?_, by omega, by omega, ?_, ?_⟩
    · rw [hlen]; simp [Go.sliced, hcl]
    · intro h
      cases ao with
      | none => have := hn rfl; omega
      | some a => cases h
    · rcases hc with rfl | ⟨b, off, rfl, hb, hcell⟩
      · simp
      · refine .inr ⟨b, off + lo * s, ?_, hb, ?_⟩
        · by_cases h0 : lo * s = 0 <;> simp [Addr.add, h0]
        · intro k hk j hj
          rw [hlen] at hk
          have := hcell (lo + k) (by omega) j hj
          rw [List.getElem_take, List.getElem_drop]
          rw [← this]
          congr 2
          rw [Nat.add_mul]; omega

theorem Sl.sub (h : Sl en s w v l) (ht : P.underlying t = some (.slice e)) (he : P.elem t = e) (hs : P.cellsOf e = s) (hi : (P.info? e).isSome = true) {lo hi' : Nat} {x y : Int} (hx : x = lo) (hy : y = hi') (h1 : lo ≤ hi') (h2 : hi' ≤ l.length) :
    ∃ v', (∀ (ik ik' : IntKind) (u : World), (Instr.slice t v (some (.int ik x)) (some (.int ik' y)) none).run P u = .ok v' u) ∧ (∃ a n c, v' = .slice a n c) ∧ Sl en s w v' ((l.drop lo).take (hi' - lo)) := by
  subst hx hy
  obtain ⟨ao, cap, rfl, h3, _⟩ := h.shp
  subst he
  obtain ⟨i, hi1⟩ := Option.isSome_iff_exists.1 hi
  have hs' : i.size = s := by simpa [Program.cellsOf, hi1] using hs
  refine ⟨_, fun ik ik' u => ?_, ⟨_, _, _, rfl⟩, h.sliced h1 h2⟩
  rw [run_slice_lh u t ao l.length cap ht ik ik' lo hi' (by omega) (by omega) (by omega)]
  simp [sizeOf, typeInfo, hi1, hs', Result.andThen, Go.sliced]

theorem Sl.from (h : Sl en s w v l) (ht : P.underlying t = some (.slice e)) (he : P.elem t = e) (hs : P.cellsOf e = s) (hi : (P.info? e).isSome = true) {lo : Nat} (h1 : lo ≤ l.length) :
    ∃ v', (∀ (ik : IntKind) (u : World), (Instr.slice t v (some (.int ik (lo : Int))) none none).run P u = .ok v' u) ∧ (∃ a n c, v' = .slice a n c) ∧ Sl en s w v' (l.drop lo) := by
  obtain ⟨ao, cap, rfl, h3, _⟩ := h.shp
  subst he
  obtain ⟨i, hi1⟩ := Option.isSome_iff_exists.1 hi
  have hs' : i.size = s := by simpa [Program.cellsOf, hi1] using hs
  refine ⟨_, fun ik u => ?_, ⟨_, _, _, rfl⟩, by have := h.sliced h1 (Nat.le_refl _); rwa [List.take_of_length_le (by simp)] at this⟩
  rw [run_slice_l u t ao l.length cap ht ik lo (by omega) (by omega)]
  simp [sizeOf, typeInfo, hi1, hs', Result.andThen, Go.sliced]

theorem Sl.upto (h : Sl en s w v l) (ht : P.underlying t = some (.slice e)) (he : P.elem t = e) (hs : P.cellsOf e = s) (hi : (P.info? e).isSome = true) {hi' : Nat} (h1 : hi' ≤ l.length) :
    ∃ v', (∀ (ik : IntKind) (u : World), (Instr.slice t v none (some (.int ik (hi' : Int))) none).run P u = .ok v' u) ∧ (∃ a n c, v' = .slice a n c) ∧ Sl en s w v' (l.take hi') := by
  obtain ⟨ao, cap, rfl, h3, _⟩ := h.shp
  subst he
  obtain ⟨i, hi1⟩ := Option.isSome_iff_exists.1 hi
  have hs' : i.size = s := by simpa [Program.cellsOf, hi1] using hs
  refine ⟨_, fun ik u => ?_, ⟨_, _, _, rfl⟩, by have := h.sliced (Nat.zero_le _) h1; rwa [List.drop_zero, Nat.sub_zero] at this⟩
  rw [run_slice_h u t ao l.length cap ht ik hi' (by omega) (by omega)]
  simp [sizeOf, typeInfo, hi1, hs', Result.andThen, Go.sliced]
end
end Go.Sl
