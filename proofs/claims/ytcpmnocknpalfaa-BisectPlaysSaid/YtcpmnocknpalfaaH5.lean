/-
  Layer 14: a painter begun; a list turned round; are numbers nodes of a graph? No condition besides what the arguments are.
-/
import Derived.Test.YtcpmnocknpalfaaH4
import Derived.Deep.OwnRows
namespace Go.Proofs.Ytcpmnocknpalfaa
open Go.RowKit Go.Sl

theorem info95 : (Try.prog.info? 95).map (fun i => (i.zero, i.size, i.bytes)) = some (some (.int .u8 0), 1, 1) := by kernel_rfl
theorem make_flags (n : Nat) (hn : n ≤ 800) : ∀ u : World, (Instr.makeSlice 96 (.int .i64 (n : Int)) (.int .i64 (n : Int))).run Try.prog u = .ok (.slice (some ⟨u.heap.size, 0, none⟩) n n) (u.alloc (.cells (madeCells #[.int .u8 0] n) 95)) :=
  run_make_row' (P := Try.prog) 96 95 _ 1 Try.underlying96 info95 rfl .i64 .i64 n (by omega) (by omega)

theorem made_fcells (n : Nat) : madeCells #[Value.int .u8 0] n = fcells (List.replicate n 0) := by
  apply Array.ext'
  rw [toList_madeCells_one]
  simp [fcells]

set_option maxRecDepth 100000 in
set_option maxHeartbeats 1000000 in
theorem start_any (base : Nat) (gv : Value) (w0 w : World) (es : List (SlV × Int)) (g : List Nd) (hG : Gr w0 gv es g) (hg : Dag.okG g) (hb : base ≤ w.heap.size) :
    Calls Try.prog 69 #[gv] w fun e w' => e = .returned (.pointer (some ⟨w.heap.size + 1, 0, none⟩)) ∧ Pt base (w.heap.size + 1) w.heap.size gv (.slice none 0 0) [] g.length (List.replicate g.length 0) w' ∧ Below base w w' := by
  obtain ⟨ga, gn, gc, rfl⟩ := hG.outer.isSlice
  have hlen := hG.run_len
  have hgl := hg.1
  have hmk := make_flags g.length (by omega)
  rw [made_fcells] at hmk
  have HP : Hid (Pt base (w.heap.size + 1) w.heap.size (.slice ga gn gc) (.slice none 0 0) [] g.length (List.replicate g.length 0) ((w.alloc (.cells (fcells (List.replicate g.length 0)) 95)).alloc (.cells #[.slice ga gn gc, .slice (some ⟨w.heap.size, 0, none⟩) g.length g.length, .slice none 0 0] 100))) := Lib.hid
    ⟨by omega, hb, by rw [List.length_replicate]; exact heap_new_at (by simp), heap_keep (heap_new_at rfl), Own.nil _ _ _ _ _, Hp.hp_nil, List.nodup_nil, fun x => ⟨fun h => by simp at h, fun ⟨n, h1, _, h3, _⟩ => by unfold Dag.bit at h3; simp [List.getD_eq_getElem?_getD, h1] at h3⟩,
      fun x hx => by rw [List.eq_of_mem_replicate hx]; omega, by rw [List.length_replicate]; exact hgl⟩
  have HB := Lib.hid ((((Below.refl base w).alloc hb (.cells (fcells (List.replicate g.length 0)) 95))).alloc (by simp; omega) (.cells #[.slice ga gn gc, .slice (some ⟨w.heap.size, 0, none⟩) g.length g.length, .slice none 0 0] 100))
  go_enter Try.func69, Try.ntmps69
  go_wp2_with fail
  go_ret
  exact ⟨rfl, HP.out, HB.out⟩

theorem swap_rev {l m : List Int} {i : Nat} (h : m.length = l.length) (hi : 2 * i + 1 < l.length) (hm : ∀ k, k < l.length → Hp.ge m k = if k < i ∨ l.length ≤ k + i then Hp.ge l (l.length - 1 - k) else Hp.ge l k) :
    ∀ k, k < l.length → Hp.ge (Hp.swap m i (l.length - 1 - i)) k = if k < i + 1 ∨ l.length ≤ k + (i + 1) then Hp.ge l (l.length - 1 - k) else Hp.ge l k := by
  intro k hk
  rw [Hp.ge_swap (by omega) (by omega)]
  by_cases e1 : k = l.length - 1 - i
  · subst e1
    rw [if_pos rfl, if_pos (.inr (by omega)), hm i (by omega), if_neg (by omega)]
    congr 1; omega
  · rw [if_neg e1]
    by_cases e2 : k = i
    · subst e2
      rw [if_pos rfl, if_pos (.inl (by omega)), hm _ (by omega), if_neg (by omega)]
    · rw [if_neg e2, hm k hk]
      by_cases e3 : k < i ∨ l.length ≤ k + i
      · rw [if_pos e3, if_pos (by omega)]
      · rw [if_neg e3, if_neg (by omega)]
theorem rev_all {l m : List Int} {i : Nat} (h : m.length = l.length) (hi : l.length ≤ 2 * i + 1) (hm : ∀ k, k < l.length → Hp.ge m k = if k < i ∨ l.length ≤ k + i then Hp.ge l (l.length - 1 - k) else Hp.ge l k) : m = l.reverse := by
  apply List.ext_getElem (by simp [h])
  intro k h1 h2
  have := hm k (by omega)
  rw [List.getElem_reverse]
  have e : (if k < i ∨ l.length ≤ k + i then Hp.ge l (l.length - 1 - k) else Hp.ge l k) = Hp.ge l (l.length - 1 - k) := by
    by_cases e : k < i ∨ l.length ≤ k + i
    · rw [if_pos e]
    · rw [if_neg e]; congr 1; omega
  rw [e] at this
  have a : Hp.ge m k = m[k] := by simp [Hp.ge, List.getD_eq_getElem?_getD, h1]
  have b : Hp.ge l (l.length - 1 - k) = l[l.length - 1 - k]'(by omega) := by
    have : l.length - 1 - k < l.length := by omega
    simp [Hp.ge, List.getD_eq_getElem?_getD, this]
  rw [← a, this, b]

/-- what a call has done to an own list alone -/
def Rev (base : Nat) (v : Value) (l : List Int) (w w' : World) : Prop := Own eInt 1 base 3 w' v l ∧ Below base w w'
theorem Rev.drewN {base : Nat} {v : Value} {l : List Int} {w w' : World} (h : Rev base v l w w') (k : Nat) : Rev base v l w (w'.drewN k) := ⟨h.1, below_drewN h.2 k⟩
theorem Rev.swap {base g n cap : Nat} {l : List Int} {w wr : World} (h : Rev base (.slice (some ⟨g, 0, none⟩) n cap) l w wr) {i j : Nat} (hi : i < l.length) (hj : j < l.length) :
    Rev base (.slice (some ⟨g, 0, none⟩) n cap) (Hp.swap l i j) w ((wr.setCell ⟨g, i, none⟩ (.int .i64 (Hp.ge l j))).setCell ⟨g, j, none⟩ (.int .i64 (Hp.ge l i))) := by
  have hg := (own_cells h.1).2.1
  generalize hx : Hp.ge l j = x
  generalize hy : Hp.ge l i = y
  have e : Hp.swap l i j = (l.set i x).set j y := by rw [← hx, ← hy]; rfl
  rw [e]
  have o1 := own_set h.1 hi x
  have o2 := own_set o1 (k := j) (by simpa using hj) y
  have b1 := h.2.setCell (p := ⟨g, i, none⟩) hg (.int .i64 x)
  exact ⟨o2, b1.setCell (p := ⟨g, j, none⟩) hg (.int .i64 y)⟩

set_option maxRecDepth 100000 in
set_option maxHeartbeats 1000000 in
theorem reverse_any (base : Nat) (v : Value) (l : List Int) (w : World) (h : Own eInt 1 base 3 w v l) (hl : l.length < 1000) :
    Calls Try.prog 74 #[v] w fun e w' => e = .returned (.tuple #[]) ∧ Rev base v l.reverse w w' := by
  have hlen := (h.sl len_eInt).run_len (P := Try.prog) Try.underlying23
  by_cases h0 : l = []
  · subst h0
    have HR : Hid (Rev base v [].reverse w w) := Lib.hid ⟨h, Below.refl _ _⟩
    have d0 : decide ((0 : Int) < -1) = false := rfl
    clear h
    simp only [List.length_nil] at hlen
    go_enter Try.func74, Try.ntmps74
    go_wp2_with fail
    go_loopw [2, 3] (fun i j wr => i = .int .i64 0 ∧ j = .int .i64 (-1) ∧ wr = w) (fun _ _ _ => 0)
    case atStart => exact ⟨rfl, rfl, rfl⟩
    case round =>
      obtain ⟨rfl, rfl, rfl⟩ := hrel
      go_wp2_with fail
      go_end0
      exact ⟨rfl, HR.out⟩
  · obtain ⟨g, cap, _, rfl, -, -, hcap, -⟩ := h.block h0
    have hl0 := List.length_pos_iff.2 h0
    have HR : Hid (Rev base (.slice (some ⟨g, 0, none⟩) l.length cap) l w w) := Lib.hid ⟨h, Below.refl _ _⟩
    clear h h0
    go_enter Try.func74, Try.ntmps74
    go_wp2_with fail
    go_loopw [2, 3] (fun i j wr => ∃ (k : Nat) (m : List Int), i = .int .i64 k ∧ j = .int .i64 ((l.length : Int) - 1 - k) ∧ 2 * k ≤ l.length ∧ Hid (m.length = l.length) ∧
      Hid (∀ x, x < l.length → Hp.ge m x = if x < k ∨ l.length ≤ x + k then Hp.ge l (l.length - 1 - x) else Hp.ge l x) ∧ Hid (Rev base (.slice (some ⟨g, 0, none⟩) l.length cap) m w wr)) (fun i _ _ => l.length - (intOf i).toNat)
    case atStart => exact ⟨0, l, rfl, by go_num, by omega, Lib.hid rfl, Lib.hid (fun x hx => by rw [if_neg (by omega)]), HR⟩
    case round =>
      obtain ⟨k, m, rfl, rfl, hk, HM, HS, HR⟩ := hrel
      by_cases hlt : 2 * k + 1 < l.length
      · obtain ⟨hg1, hg2, -, hcell⟩ := own_cells HR.out.1
        obtain ⟨ck, fk⟩ := hcell k (by rw [HM.out]; omega)
        obtain ⟨cu, fu⟩ := hcell (l.length - 1 - k) (by rw [HM.out]; omega)
        clear hcell
        have hjn : ((l.length : Int) - 1 - k).toNat = l.length - 1 - k := by omega
        have hj0 : (0 : Int) ≤ (l.length : Int) - 1 - k := by omega
        have HR2 := Lib.hid (HR.out.swap (i := k) (j := l.length - 1 - k) (by rw [HM.out]; omega) (by rw [HM.out]; omega))
        have HS2 := Lib.hid (swap_rev HM.out hlt HS.out)
        have HM2 : Hid ((Hp.swap m k (l.length - 1 - k)).length = l.length) := Lib.hid (by rw [Hp.swap_len, HM.out])
        clear HR HS HM
        go_wp2_with fail
        go_region
        go_wp2_with fail
        go_roundw
        case rel => exact ⟨k + 1, _, by go_num, by go_num, by omega, HM2, HS2, Lib.hid (HR2.out.drewN 1)⟩
        case measure => simp [intOf]; omega
      · have HE := Lib.hid (rev_all HM.out (by omega) HS.out)
        go_wp2_with fail
        go_end0
        refine ⟨rfl, ?_⟩
        rw [← HE.out]; exact HR.out
end Go.Proofs.Ytcpmnocknpalfaa
