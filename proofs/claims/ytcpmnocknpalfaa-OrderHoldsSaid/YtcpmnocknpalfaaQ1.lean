/-
  Layer 15: the keys that a queue goes by; which of two is older. No condition besides what the arguments are.
-/
import Derived.Test.YtcpmnocknpalfaaH2
import Derived.Test.YtcpmnocknpalfaaS1
import Derived.Test.YtcpmnocknpalfaaK3
import Derived.BigQuiet
namespace Go.Proofs.Ytcpmnocknpalfaa
open Go.RowKit Go.Sl
set_option linter.unusedVariables false

/-- the value of times(g), its graph boxed at block cb -/
def keyV (fk cb : Nat) : Value := .func (.func fk) #[] #[.pointer (some ⟨cb, 0, none⟩)]

set_option maxRecDepth 100000 in
theorem key104 (w0 wr : World) (gv : Value) (es : List (SlV × Int)) (g : List Nd) (cb : Nat) (hc : wr.heap[cb]? = some (.cells #[gv] 22 (0, 0))) (hG : Gr w0 gv es g) (hb : Below w0.heap.size w0 wr) (x : Int) (hx : 0 ≤ x ∧ x < g.length) :
    Calls Try.prog 104 #[.int .i64 x, .pointer (some ⟨cb, 0, none⟩)] wr fun e w' => e = .returned (.int .i64 (Ord.keyI (g.map (·.2)) x)) ∧ w' = wr := by
  obtain ⟨n, rfl⟩ : ∃ n : Nat, x = n := ⟨x.toNat, by omega⟩
  have hn : n < g.length := by omega
  obtain ⟨b, o, hb1, hix, P, T, a1, n1, k1, HX, HLn, q0, q1, hs1, hm1⟩ := hG.at hb hn
  have hT : Ord.keyI (g.map (·.2)) n = T := by
    unfold Ord.keyI
    rw [Int.toNat_natCast, List.getD_eq_getElem?_getD, List.getElem?_map, List.getElem?_eq_getElem hn, HX.out]; rfl
  obtain ⟨c1, c2, c3⟩ := one_cells hc
  rw [hT]
  clear HX hc
  go_enter Try.func104, Try.ntmps104
  go_wp2_with fail
  go_ret
  exact ⟨rfl, rfl⟩
set_option maxRecDepth 100000 in
theorem key95 (w0 wr : World) (bv : Value) (bl : List Int) (cb : Nat) (hc : wr.heap[cb]? = some (.cells #[bv] 23 (0, 0))) (hB : Sl eInt 1 w0 bv bl) (hb : Below w0.heap.size w0 wr) (x : Int) (hx : 0 ≤ x ∧ x < bl.length) :
    Calls Try.prog 95 #[.int .i64 x, .pointer (some ⟨cb, 0, none⟩)] wr fun e w' => e = .returned (.int .i64 (Ord.keyI bl x)) ∧ w' = wr := by
  obtain ⟨n, rfl⟩ : ∃ n : Nat, x = n := ⟨x.toNat, by omega⟩
  have hn : n < bl.length := by omega
  obtain ⟨b2, o2, hb2, hix2, hc2⟩ := hB.atB hb (P := Try.prog) Try.underlying23 cells3 some3 hn
  have e1 := hc2 0 (by omega)
  simp only [eInt, List.getElem?_cons_zero, Nat.add_zero] at e1
  have hT : Ord.keyI bl n = bl[n] := by
    unfold Ord.keyI
    rw [Int.toNat_natCast, List.getD_eq_getElem?_getD, List.getElem?_eq_getElem hn]; rfl
  obtain ⟨c1, c2, c3⟩ := one_cells hc
  rw [hT]
  clear hc hc2
  go_enter Try.func95, Try.ntmps95
  go_wp2_with fail
  go_ret
  exact ⟨rfl, rfl⟩

theorem drewN2 (w : World) : ∀ (m n : Nat), (w.drewN m).drewN n = w.drewN (m + n) := fun _ _ => by rw [World.drewN_drewN]
/-- what older answers of a queue whose keys are K -/
def OldV (w0 : World) (cb : Nat) (bx : Value) (eb : TypeId) (fv : Value) (K : Int → Int) (N : Nat) : Prop := ∀ (wr : World), Below w0.heap.size w0 wr → wr.heap[cb]? = some (.cells #[bx] eb (0, 0)) → ∀ (qb : Nat) (qv : Value) (l : List Int) (base i j : Nat), wr.heap[qb]? = some (.cells #[qv, fv] 117 (0, 0)) → Own eInt 1 base 3 wr qv l →
  i < l.length → j < l.length → Dag.inN N l → Calls Try.prog 109 #[.pointer (some ⟨qb, 0, none⟩), .int .i64 i, .int .i64 j] wr fun e w' => e = .returned (.bool (Ord.ltB K (Hp.ge l i) (Hp.ge l j))) ∧ ∃ n, w' = wr.drewN n
theorem ge_in {N : Nat} {l : List Int} (h : Dag.inN N l) {i : Nat} (hi : i < l.length) : 0 ≤ Hp.ge l i ∧ Hp.ge l i < N := by
  have : Hp.ge l i = l[i] := by simp [Hp.ge, List.getD_eq_getElem?_getD, hi]
  rw [this]; exact h _ (List.getElem_mem hi)

set_option maxRecDepth 100000 in
set_option maxHeartbeats 1000000 in
theorem older104 (w0 : World) (gv : Value) (es : List (SlV × Int)) (g : List Nd) (cb : Nat) (hG : Gr w0 gv es g) : OldV w0 cb gv 22 (keyV 104 cb) (Ord.keyI (g.map (·.2))) g.length := by
  intro wr hb hc qb qv l base i j hq ho hi hj hN
  obtain ⟨h1, c1, c2, f1, f2⟩ := two_cells hq
  obtain ⟨gg, cap, _, rfl, -⟩ := ho.block (by intro e; rw [e] at hi; simp at hi)
  obtain ⟨g1, g2, -, hcell⟩ := own_cells ho
  obtain ⟨ci, fi⟩ := hcell i hi
  obtain ⟨cj, fj⟩ := hcell j hj
  have hki := fun n => key104 w0 (wr.drewN n) gv es g cb hc hG (below_drewN hb n) (Hp.ge l i) (ge_in hN hi)
  have hkj := fun n => key104 w0 (wr.drewN n) gv es g cb hc hG (below_drewN hb n) (Hp.ge l j) (ge_in hN hj)
  obtain ⟨li, hli⟩ : ∃ x, Hp.ge l i = x := ⟨_, rfl⟩
  obtain ⟨lj, hlj⟩ : ∃ x, Hp.ge l j = x := ⟨_, rfl⟩
  rw [hli] at ci hki ⊢
  rw [hlj] at cj hkj ⊢
  have HR : Hid (Ord.ltB (Ord.keyI (g.map (·.2))) li lj = decide (Ord.keyI (g.map (·.2)) li < Ord.keyI (g.map (·.2)) lj ∨ (Ord.keyI (g.map (·.2)) li = Ord.keyI (g.map (·.2)) lj ∧ li < lj))) := Lib.hid rfl
  obtain ⟨R, hR⟩ : ∃ R, R = Ord.ltB (Ord.keyI (g.map (·.2))) li lj := ⟨_, rfl⟩
  rw [← hR] at HR ⊢
  obtain ⟨ka, hka⟩ : ∃ x, x = Ord.keyI (g.map (·.2)) li := ⟨_, rfl⟩
  obtain ⟨kb, hkb⟩ : ∃ x, x = Ord.keyI (g.map (·.2)) lj := ⟨_, rfl⟩
  rw [← hka] at HR hki
  rw [← hkb] at HR hkj
  clear hcell hli hlj hR hka hkb hc hG hN ho
  unfold keyV at c2 hq
  go_enter Try.func109, Try.ntmps109
  go_wp2_with fail
  go_quiet (first | (go_at_call 104; exact Calls.quiet_of_same (hki _)) | (go_at_call 104; exact Calls.quiet_of_same (hkj _)))
  rcases Int.lt_trichotomy ka kb with hlt | heq | hgt
  · have HR2 : Hid (R = true) := Lib.hid (by rw [HR.out]; simp [hlt])
    have d1 := decide_eq_true hlt
    clear HR
    go_wp2_with fail
    go_quiet (fail)
    go_wp2_with fail
    go_ret
    exact ⟨by rw [HR2.out]; rfl, _, drewN2 wr _ _⟩
  · subst heq
    have d1 : decide (ka < ka) = false := by simp
    by_cases hll : li < lj
    · have HR2 : Hid (R = true) := Lib.hid (by rw [HR.out]; simp [hll])
      have d2 := decide_eq_true hll
      clear HR
      go_wp2_with fail
      go_quiet (fail)
      go_wp2_with fail
      go_ret
      exact ⟨by rw [HR2.out]; rfl, _, drewN2 wr _ _⟩
    · have HR2 : Hid (R = false) := Lib.hid (by rw [HR.out]; simp; omega)
      have d2 := decide_eq_false hll
      clear HR
      go_wp2_with fail
      go_quiet (fail)
      go_wp2_with fail
      go_ret
      exact ⟨by rw [HR2.out]; rfl, _, drewN2 wr _ _⟩
  · have HR2 : Hid (R = false) := Lib.hid (by rw [HR.out]; simp; omega)
    have d1 : decide (ka < kb) = false := decide_eq_false (by omega)
    have d2 : (ka == kb) = false := by simp; omega
    clear HR
    go_wp2_with fail
    go_quiet (fail)
    go_wp2_with fail
    go_ret
    exact ⟨by rw [HR2.out]; rfl, _, drewN2 wr _ _⟩
set_option maxRecDepth 100000 in
set_option maxHeartbeats 1000000 in
theorem older95 (w0 : World) (bv : Value) (bl : List Int) (cb : Nat) (hG : Sl eInt 1 w0 bv bl) : OldV w0 cb bv 23 (keyV 95 cb) (Ord.keyI bl) bl.length := by
  intro wr hb hc qb qv l base i j hq ho hi hj hN
  obtain ⟨h1, c1, c2, f1, f2⟩ := two_cells hq
  obtain ⟨gg, cap, _, rfl, -⟩ := ho.block (by intro e; rw [e] at hi; simp at hi)
  obtain ⟨g1, g2, -, hcell⟩ := own_cells ho
  obtain ⟨ci, fi⟩ := hcell i hi
  obtain ⟨cj, fj⟩ := hcell j hj
  have hki := fun n => key95 w0 (wr.drewN n) bv bl cb hc hG (below_drewN hb n) (Hp.ge l i) (ge_in hN hi)
  have hkj := fun n => key95 w0 (wr.drewN n) bv bl cb hc hG (below_drewN hb n) (Hp.ge l j) (ge_in hN hj)
  obtain ⟨li, hli⟩ : ∃ x, Hp.ge l i = x := ⟨_, rfl⟩
  obtain ⟨lj, hlj⟩ : ∃ x, Hp.ge l j = x := ⟨_, rfl⟩
  rw [hli] at ci hki ⊢
  rw [hlj] at cj hkj ⊢
  have HR : Hid (Ord.ltB (Ord.keyI bl) li lj = decide (Ord.keyI bl li < Ord.keyI bl lj ∨ (Ord.keyI bl li = Ord.keyI bl lj ∧ li < lj))) := Lib.hid rfl
  obtain ⟨R, hR⟩ : ∃ R, R = Ord.ltB (Ord.keyI bl) li lj := ⟨_, rfl⟩
  rw [← hR] at HR ⊢
  obtain ⟨ka, hka⟩ : ∃ x, x = Ord.keyI bl li := ⟨_, rfl⟩
  obtain ⟨kb, hkb⟩ : ∃ x, x = Ord.keyI bl lj := ⟨_, rfl⟩
  rw [← hka] at HR hki
  rw [← hkb] at HR hkj
  clear hcell hli hlj hR hka hkb hc hG hN ho
  unfold keyV at c2 hq
  go_enter Try.func109, Try.ntmps109
  go_wp2_with fail
  go_quiet (first | (go_at_call 95; exact Calls.quiet_of_same (hki _)) | (go_at_call 95; exact Calls.quiet_of_same (hkj _)))
  rcases Int.lt_trichotomy ka kb with hlt | heq | hgt
  · have HR2 : Hid (R = true) := Lib.hid (by rw [HR.out]; simp [hlt])
    have d1 := decide_eq_true hlt
    clear HR
    go_wp2_with fail
    go_quiet (fail)
    go_wp2_with fail
    go_ret
    exact ⟨by rw [HR2.out]; rfl, _, drewN2 wr _ _⟩
  · subst heq
    have d1 : decide (ka < ka) = false := by simp
    by_cases hll : li < lj
    · have HR2 : Hid (R = true) := Lib.hid (by rw [HR.out]; simp [hll])
      have d2 := decide_eq_true hll
      clear HR
      go_wp2_with fail
      go_quiet (fail)
      go_wp2_with fail
      go_ret
      exact ⟨by rw [HR2.out]; rfl, _, drewN2 wr _ _⟩
    · have HR2 : Hid (R = false) := Lib.hid (by rw [HR.out]; simp; omega)
      have d2 := decide_eq_false hll
      clear HR
      go_wp2_with fail
      go_quiet (fail)
      go_wp2_with fail
      go_ret
      exact ⟨by rw [HR2.out]; rfl, _, drewN2 wr _ _⟩
  · have HR2 : Hid (R = false) := Lib.hid (by rw [HR.out]; simp; omega)
    have d1 : decide (ka < kb) = false := decide_eq_false (by omega)
    have d2 : (ka == kb) = false := by simp; omega
    clear HR
    go_wp2_with fail
    go_quiet (fail)
    go_wp2_with fail
    go_ret
    exact ⟨by rw [HR2.out]; rfl, _, drewN2 wr _ _⟩
end Go.Proofs.Ytcpmnocknpalfaa
