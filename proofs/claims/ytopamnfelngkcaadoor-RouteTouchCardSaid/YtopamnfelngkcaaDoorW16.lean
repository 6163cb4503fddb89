/-
  Layer 5: the document's pattern, by its ends. No condition besides what the arguments are.
-/
import Derived.Test.YtopamnfelngkcaaDoorW15
import Derived.Test.YtopamnfelngkcaaDoorSub
import Derived.Deep.RegionWith
import Derived.Deep.RegionHeld3
namespace Go.Proofs.YtopamnfelngkcaaDoor
open Go.RowKit Go.Sl Go.Route
set_option linter.unusedVariables false

theorem star_cons {α : Type} (f : List α → Bool) (x : α) (l : List α) : star f (x :: l) = (f (x :: l) || star f l) := rfl
/-- a call made in any world that has only grown -/
def Any (w : World) (f : Nat) (args : Array Value) (b : Bool) : Prop := ∀ u, Below w.heap.size w u → Calls Tryd.prog f args u fun e w' => e = .returned (.bool b) ∧ Below w.heap.size w w'
theorem any_word {p x : Wd} (w : World) (hp : p.length ≤ 1000) (hx : x.length ≤ 1000) {b : Bool} (hb : glob p x = b) : Any w 97 #[.string (bstr p), .string (bstr x)] b :=
  fun u hu => (rword_any p x u hp hx).mono fun e w' ⟨h1, h2⟩ => ⟨by rw [h1, hb], below_then hu h2⟩

set_option maxRecDepth 100000 in
set_option maxHeartbeats 4000000 in
theorem rstands_any : ∀ (n : Nat) (va vb : Value) (P L : List Wd) (w : World), P.length + L.length ≤ n → Sl eL 1 w va P → Sl eL 1 w vb L → (∀ p ∈ P, p.length ≤ 1000) → (∀ p ∈ L, p.length ≤ 1000) →
    Calls Tryd.prog 71 #[va, vb] w fun e w' => e = .returned (.bool (stands P L)) ∧ Below w.heap.size w w' := by
  intro n
  induction n with
  | zero =>
    intro va vb P L w hn ha hb lP lL
    obtain rfl : P = [] := List.eq_nil_of_length_eq_zero (by omega)
    obtain rfl : L = [] := List.eq_nil_of_length_eq_zero (by simpa using hn)
    have hlen1 := ha.run_len (P := Tryd.prog) Tryd.underlying22
    have hlen2 := hb.run_len (P := Tryd.prog) Tryd.underlying22
    go_enter Tryd.func71, Tryd.ntmps71
    go_wp2_with fail
    go_ret
    exact ⟨rfl, Below.refl _ _⟩
  | succ n ih =>
    intro va vb P L w hn ha hb lP lL
    have hlen1 := ha.run_len (P := Tryd.prog) Tryd.underlying22
    have hlen2 := hb.run_len (P := Tryd.prog) Tryd.underlying22
    have HB0 : Hid (Below w.heap.size w w) := Lib.hid (Below.refl _ _)
    have HLL := hb.len_le
    have HLP := ha.len_le
    cases P with
    | nil =>
      cases L with
      | nil =>
        go_enter Tryd.func71, Tryd.ntmps71
        go_wp2_with fail
        go_ret
        exact ⟨rfl, Below.refl _ _⟩
      | cons x l =>
        have q1 : (((x :: l).length : Int) == 0) = false := by rw [beq_eq_false_iff_ne]; simp; omega
        go_enter Tryd.func71, Tryd.ntmps71
        go_wp2_with fail
        go_ret
        exact ⟨rfl, Below.refl _ _⟩
    | cons p ps =>
      obtain ⟨N1, hN1⟩ : ∃ N1, (p :: ps).length = N1 := ⟨_, rfl⟩
      have hN1' : ps.length + 1 = N1 := by rw [← hN1]; rfl
      rw [hN1] at hlen1 HLP hn
      have q1 : ((N1 : Int) == 0) = false := by rw [beq_eq_false_iff_ne]; omega
      have q1' : (N1 == 0) = false := by rw [beq_eq_false_iff_ne]; omega
      obtain ⟨vp, hxp, ⟨a2, n2, k2, rfl⟩, hsp⟩ := ha.from (P := Tryd.prog) Tryd.underlying22 (by kernel_rfl) cells9 some9 (lo := 1) (by simp)
      obtain ⟨bp, op, hbp, hixp, hcp⟩ := ha.at (P := Tryd.prog) Tryd.underlying22 cells9 some9 (k := 0) (by simp)
      have hixp0 : ∀ (ik : IntKind) (u : World), (Instr.indexAt 22 va (.int ik 0)).run Tryd.prog u = .ok (.pointer (some ⟨bp, op, none⟩)) u := hixp
      have hxp0 : ∀ (ik : IntKind) (u : World), (Instr.slice 22 va (some (.int ik 1)) none none).run Tryd.prog u = .ok (.slice a2 n2 k2) u := hxp
      clear hixp hxp
      have ep := hcp 0 (by omega)
      simp only [eL, List.getElem?_cons_zero, Nat.add_zero, List.getElem_cons_zero] at ep
      clear hcp
      have hsp' : Sl eL 1 w (.slice a2 n2 k2) ps := by simpa using hsp
      have lps : ∀ q ∈ ps, q.length ≤ 1000 := fun q hq => lP q (List.mem_cons_of_mem _ hq)
      have hpl := lP p (by simp)
      clear hsp
      have HP0 := Lib.hid ep
      by_cases hm : p = [42, 42]
      · have q2 : (p == [42, 42]) = true := by simp [hm]
        have hst : stands (p :: ps) L = star (stands ps) L := by rw [hm, stands_many]
        have h1 : Any w 71 #[.slice a2 n2 k2, vb] (stands ps L) := fun u hu => (ih _ vb ps L u (by omega) (hsp'.ext hu) (hb.ext hu) lps lL).mono fun e w' ⟨h1, h2⟩ => ⟨h1, below_then hu h2⟩
        cases hb1 : stands ps L with
        | true =>
          rw [hb1] at h1
          have H1 := Lib.hid h1
          have HZ : Hid (true = stands (p :: ps) L) := Lib.hid (by rw [hst]; cases L with
            | nil => exact hb1.symm
            | cons x l => rw [star_cons, hb1]; rfl)
          clear hb1 h1 hst ih hm
          go_enter Tryd.func71, Tryd.ntmps71
          go_wp2_with (go_at_call 71; go_must (refine (H1.out _ ?_).mono ?_; (first | exact HB0.out | exact below_drewN HB0.out _ | exact Below.drew HB0.out); rintro e w3 ⟨rfl, hb⟩; have HW3 := Lib.hid hb; clear hb))
          go_ret
          exact ⟨ret_bool HZ.out, HW3.out⟩
        | false =>
          rw [hb1] at h1
          have H1 := Lib.hid h1
          cases L with
          | nil =>
            have HZ : Hid (false = stands (p :: ps) []) := Lib.hid (by rw [hst]; exact hb1.symm)
            have d1 : decide ((0 : Int) < ([] : List Wd).length) = false := rfl
            clear hb1 h1 hst ih hm
            go_enter Tryd.func71, Tryd.ntmps71
            go_wp2_with (go_at_call 71; go_must (refine (H1.out _ ?_).mono ?_; (first | exact HB0.out | exact below_drewN HB0.out _ | exact Below.drew HB0.out); rintro e w3 ⟨rfl, hb⟩; have HW3 := Lib.hid hb; clear hb))
            go_ret
            exact ⟨ret_bool HZ.out, HW3.out⟩
          | cons x l =>
            obtain ⟨N2, hN2⟩ : ∃ N2, (x :: l).length = N2 := ⟨_, rfl⟩
            have hN2' : l.length + 1 = N2 := by rw [← hN2]; rfl
            obtain ⟨vl, hxl, ⟨a3, n3, k3, rfl⟩, hsl⟩ := hb.from (P := Tryd.prog) Tryd.underlying22 (by kernel_rfl) cells9 some9 (lo := 1) (by simp)
            have hxl0 : ∀ (ik : IntKind) (u : World), (Instr.slice 22 vb (some (.int ik 1)) none none).run Tryd.prog u = .ok (.slice a3 n3 k3) u := hxl
            clear hxl
            have hsl' : Sl eL 1 w (.slice a3 n3 k3) l := by simpa using hsl
            rw [hN2] at hlen2 HLL hn
            have d1 : decide ((0 : Int) < (N2 : Int)) = true := decide_eq_true (by omega)
            have d2 : decide (0 < N2) = true := decide_eq_true (by omega)
            have h2 : Any w 71 #[va, .slice a3 n3 k3] (stands (p :: ps) l) := fun u hu => (ih va _ (p :: ps) l u (by simp only [List.length_cons]; omega) (ha.ext hu) (hsl'.ext hu) lP (fun q hq => lL q (List.mem_cons_of_mem _ hq))).mono fun e w' ⟨h1, h2⟩ => ⟨h1, below_then hu h2⟩
            have H2 := Lib.hid h2
            have HZ : Hid (stands (p :: ps) l = stands (p :: ps) (x :: l)) := Lib.hid (by rw [hst, star_cons, hb1, hm, stands_many]; rfl)
            clear hb1 h1 h2 hst ih hm hsl hsl' hsp' ha hb
            go_enter Tryd.func71, Tryd.ntmps71
            go_wp2_with fail
            refine (H1.out _ ?_).mono ?_
            · (first | exact HB0.out | exact below_drewN HB0.out _ | exact Below.drew HB0.out)
            rintro e w3 ⟨rfl, hb⟩
            have HW3 := Lib.hid hb
            clear hb
            go_wp2_with fail
            refine (H2.out _ ?_).mono ?_
            · (first | exact HW3.out | exact below_drewN HW3.out _ | exact Below.drew HW3.out)
            rintro e w4 ⟨rfl, hb⟩
            have HW4 := Lib.hid hb
            clear hb
            go_wp2_with fail
            go_ret
            exact ⟨ret_bool HZ.out, HW4.out⟩
      · have q2 : (p == [42, 42]) = false := by simpa using hm
        cases L with
        | nil =>
          have HZ : Hid (false = stands (p :: ps) []) := Lib.hid (stands_one_nil hm ps).symm
          have d1 : decide ((0 : Int) < ([] : List Wd).length) = false := rfl
          clear ih hm hsp' ha hb
          go_enter Tryd.func71, Tryd.ntmps71
          go_wp2_with fail
          go_quiet (fail)
          go_wp2_with fail
          go_ret
          exact ⟨ret_bool HZ.out, below_drewN (Below.refl _ _) _⟩
        | cons x l =>
          obtain ⟨N2, hN2⟩ : ∃ N2, (x :: l).length = N2 := ⟨_, rfl⟩
          have hN2' : l.length + 1 = N2 := by rw [← hN2]; rfl
          obtain ⟨vl, hxl, ⟨a3, n3, k3, rfl⟩, hsl⟩ := hb.from (P := Tryd.prog) Tryd.underlying22 (by kernel_rfl) cells9 some9 (lo := 1) (by simp)
          have hxl0 : ∀ (ik : IntKind) (u : World), (Instr.slice 22 vb (some (.int ik 1)) none none).run Tryd.prog u = .ok (.slice a3 n3 k3) u := hxl
          clear hxl
          obtain ⟨bl, ol, hbl, hixl, hcl⟩ := hb.at (P := Tryd.prog) Tryd.underlying22 cells9 some9 (k := 0) (by simp)
          have hixl0 : ∀ (ik : IntKind) (u : World), (Instr.indexAt 22 vb (.int ik 0)).run Tryd.prog u = .ok (.pointer (some ⟨bl, ol, none⟩)) u := hixl
          clear hixl
          have el := hcl 0 (by omega)
          simp only [eL, List.getElem?_cons_zero, Nat.add_zero, List.getElem_cons_zero] at el
          clear hcl
          have hxl2 := lL x (by simp)
          have hsl' : Sl eL 1 w (.slice a3 n3 k3) l := by simpa using hsl
          rw [hN2] at hlen2 HLL hn
          have d1 : decide ((0 : Int) < (N2 : Int)) = true := decide_eq_true (by omega)
          have d2 : decide (0 < N2) = true := decide_eq_true (by omega)
          have hst := stands_one hm ps l x
          have h1 := any_word (p := p) (x := x) w hpl hxl2 rfl
          have h2 : Any w 71 #[.slice a2 n2 k2, .slice a3 n3 k3] (stands ps l) := fun u hu => (ih _ _ ps l u (by omega) (hsp'.ext hu) (hsl'.ext hu) lps (fun q hq => lL q (List.mem_cons_of_mem _ hq))).mono fun e w' ⟨h1, h2⟩ => ⟨h1, below_then hu h2⟩
          have H2 := Lib.hid h2
          cases hg : glob p x with
          | false =>
            rw [hg] at h1
            have H1 := Lib.hid h1
            have HZ : Hid (false = stands (p :: ps) (x :: l)) := Lib.hid (by rw [hst, hg]; rfl)
            clear h1 h2 hst ih hm hsl hsl' hsp' ha hb hg H2
            go_enter Tryd.func71, Tryd.ntmps71
            go_wp2_with fail
            refine wp_region_held_drew (S := (fun u => u.cell? ⟨bp, op, none⟩ = some (.string (bstr p)) ∧ u.cell? ⟨bl, ol, none⟩ = some (.string (bstr x)))) (by kernel_rfl) ⟨ep, el⟩ (fun hHeld => ?_)
            refine wpAnyH_take (i := 0) (oi := { dst := some 30, op := Op.move (Operand.tmp 1), type := 22, pos := "ref.go:130", after := #[], guard := none }) (v := ?_) rfl (by kernel_rfl) (by kernel_rfl) (by kernel_rfl) (fun _ _ _ h => h) (Or.inl ⟨by rfl, ?_⟩) (by assumption) ?_
            rotate_left
            · intro u hSu; (try dsimp only at hSu); (go_simp <;> with_reducible rfl)
            try simp only [Act.put, List.setIfInBounds_toArray, List.set_cons_zero, List.set_cons_succ]
            refine wpAnyH_take (i := 1) (oi := { dst := some 31, op := Op.call { callee := Callee.builtin Builtin.len, args := #[Operand.tmp 30], argTypes := #[22] }, type := 3, pos := "ref.go:130", after := #[{ on := 0, ground := Ground.data }], guard := none }) (v := ?_) rfl (by kernel_rfl) (by kernel_rfl) (by kernel_rfl) (fun _ _ _ h => h) (Or.inl ⟨by rfl, ?_⟩) (by assumption) ?_
            rotate_left
            · intro u hSu; (try dsimp only at hSu); (go_simp <;> with_reducible rfl)
            try simp only [Act.put, List.setIfInBounds_toArray, List.set_cons_zero, List.set_cons_succ]
            refine wpAnyH_take (i := 2) (oi := { dst := some 32, op := Op.binOp BinOp.gtr 3 (Operand.tmp 31) (Operand.const (Value.int IntKind.i64 0)) 3, type := 4, pos := "ref.go:130", after := #[{ on := 1, ground := Ground.data }], guard := none }) (v := ?_) rfl (by kernel_rfl) (by kernel_rfl) (by kernel_rfl) (fun _ _ _ h => h) (Or.inl ⟨by rfl, ?_⟩) (by assumption) ?_
            rotate_left
            · intro u hSu; (try dsimp only at hSu); (go_simp <;> with_reducible rfl)
            try simp only [Act.put, List.setIfInBounds_toArray, List.set_cons_zero, List.set_cons_succ]
            refine wpAnyH_take (i := 3) (oi := { dst := some 33, op := Op.move (Operand.tmp 32), type := 4, pos := "ref.go:130", after := #[{ on := 2, ground := Ground.data }], guard := none }) (v := ?_) rfl (by kernel_rfl) (by kernel_rfl) (by kernel_rfl) (fun _ _ _ h => h) (Or.inl ⟨by rfl, ?_⟩) (by assumption) ?_
            rotate_left
            · intro u hSu; (try dsimp only at hSu); (go_simp <;> with_reducible rfl)
            try simp only [Act.put, List.setIfInBounds_toArray, List.set_cons_zero, List.set_cons_succ]
            refine wpAnyH_take (i := 4) (oi := { dst := some 34, op := Op.move (Operand.tmp 0), type := 22, pos := "ref.go:130", after := #[{ on := 3, ground := Ground.guard }], guard := some (3, true) }) (v := ?_) rfl (by kernel_rfl) (by kernel_rfl) (by kernel_rfl) (fun _ _ _ h => h) (Or.inl ⟨by rfl, ?_⟩) (by assumption) ?_
            rotate_left
            · intro u hSu; (try dsimp only at hSu); (go_simp <;> with_reducible rfl)
            try simp only [Act.put, List.setIfInBounds_toArray, List.set_cons_zero, List.set_cons_succ]
            refine wpAnyH_take (i := 5) (oi := { dst := some 35, op := Op.indexAddr 22 (Operand.tmp 34) (Operand.const (Value.int IntKind.i64 0)), type := 0, pos := "ref.go:130", after := #[{ on := 4, ground := Ground.data }, { on := 3, ground := Ground.guard }], guard := some (3, true) }) (v := ?_) rfl (by kernel_rfl) (by kernel_rfl) (by kernel_rfl) (fun _ _ _ h => h) (Or.inl ⟨by rfl, ?_⟩) (by assumption) ?_
            rotate_left
            · intro u hSu; (try dsimp only at hSu); (go_simp <;> with_reducible rfl)
            try simp only [Act.put, List.setIfInBounds_toArray, List.set_cons_zero, List.set_cons_succ]
            refine wpAnyH_take (i := 6) (oi := { dst := some 36, op := Op.load 9 (Operand.tmp 35), type := 9, pos := "ref.go:130", after := #[{ on := 5, ground := Ground.data }, { on := 3, ground := Ground.guard }], guard := some (3, true) }) (v := ?_) rfl (by kernel_rfl) (by kernel_rfl) (by kernel_rfl) (fun _ _ _ h => h) (Or.inl ⟨by rfl, ?_⟩) (by assumption) ?_
            rotate_left
            · intro u hSu; (try dsimp only at hSu); (go_simp <;> with_reducible rfl)
            try simp only [Act.put, List.setIfInBounds_toArray, List.set_cons_zero, List.set_cons_succ]
            refine wpAnyH_take (i := 7) (oi := { dst := some 37, op := Op.move (Operand.tmp 1), type := 22, pos := "ref.go:130", after := #[{ on := 3, ground := Ground.guard }], guard := some (3, true) }) (v := ?_) rfl (by kernel_rfl) (by kernel_rfl) (by kernel_rfl) (fun _ _ _ h => h) (Or.inl ⟨by rfl, ?_⟩) (by assumption) ?_
            rotate_left
            · intro u hSu; (try dsimp only at hSu); (go_simp <;> with_reducible rfl)
            try simp only [Act.put, List.setIfInBounds_toArray, List.set_cons_zero, List.set_cons_succ]
            refine wpAnyH_take (i := 8) (oi := { dst := some 38, op := Op.indexAddr 22 (Operand.tmp 37) (Operand.const (Value.int IntKind.i64 0)), type := 0, pos := "ref.go:130", after := #[{ on := 7, ground := Ground.data }, { on := 3, ground := Ground.guard }], guard := some (3, true) }) (v := ?_) rfl (by kernel_rfl) (by kernel_rfl) (by kernel_rfl) (fun _ _ _ h => h) (Or.inl ⟨by rfl, ?_⟩) (by assumption) ?_
            rotate_left
            · intro u hSu; (try dsimp only at hSu); (go_simp <;> with_reducible rfl)
            try simp only [Act.put, List.setIfInBounds_toArray, List.set_cons_zero, List.set_cons_succ]
            refine wpAnyH_take (i := 9) (oi := { dst := some 39, op := Op.load 9 (Operand.tmp 38), type := 9, pos := "ref.go:130", after := #[{ on := 8, ground := Ground.data }, { on := 3, ground := Ground.guard }], guard := some (3, true) }) (v := ?_) rfl (by kernel_rfl) (by kernel_rfl) (by kernel_rfl) (fun _ _ _ h => h) (Or.inl ⟨by rfl, ?_⟩) (by assumption) ?_
            rotate_left
            · intro u hSu; (try dsimp only at hSu); (go_simp <;> with_reducible rfl)
            try simp only [Act.put, List.setIfInBounds_toArray, List.set_cons_zero, List.set_cons_succ]
            refine wpAnyH_ready (rs := [10]) (by kernel_rfl) (by simp) ?_
            refine AllReadyH.cons (o := { dst := some 40, op := Op.call { callee := Callee.value (Operand.func 97), args := #[Operand.tmp 36, Operand.tmp 39], argTypes := #[9, 9] }, type := 4, pos := "ref.go:130", after := #[{ on := 6, ground := Ground.data }, { on := 9, ground := Ground.data }, { on := 3, ground := Ground.chain }, { on := 3, ground := Ground.guard }], guard := some (3, true) }) rfl (fun K hK => ?_) AllReadyH.nil
            go_simp
            refine (H1.out _ ?_).mono ?_
            · (first | exact HB0.out | exact below_drewN HB0.out _ | exact Below.drew HB0.out)
            rintro e w3 ⟨rfl, hb⟩
            have HW3 := Lib.hid hb
            clear hb
            refine hK.out _ _ ⟨(HW3.out.cell (p := ⟨bp, op, none⟩) hbp).trans ep, (HW3.out.cell (p := ⟨bl, ol, none⟩) hbl).trans el⟩ (fun hHeld => ?_)
            clear hK K
            try simp only [Act.put, List.setIfInBounds_toArray, List.set_cons_zero, List.set_cons_succ]
            refine wpAnyH_take (i := 11) (oi := { dst := some 41, op := Op.pick (Operand.tmp 33) (Operand.tmp 40) (Operand.const (Value.bool false)), type := 4, pos := "ref.go:130", after := #[{ on := 3, ground := Ground.data }, { on := 10, ground := Ground.data }], guard := none }) (v := ?_) rfl (by kernel_rfl) (by kernel_rfl) (by kernel_rfl) (fun _ _ _ h => h) (Or.inl ⟨by rfl, ?_⟩) (by assumption) ?_
            rotate_left
            · intro u hSu; (try dsimp only at hSu); (go_simp <;> with_reducible rfl)
            try simp only [Act.put, List.setIfInBounds_toArray, List.set_cons_zero, List.set_cons_succ]
            refine wpAnyH_take (i := 12) (oi := { dst := some 42, op := Op.move (Operand.tmp 41), type := 4, pos := "ref.go:130", after := #[{ on := 11, ground := Ground.data }, { on := 10, ground := Ground.chain }], guard := none }) (v := ?_) rfl (by kernel_rfl) (by kernel_rfl) (by kernel_rfl) (fun _ _ _ h => h) (Or.inl ⟨by rfl, ?_⟩) (by assumption) ?_
            rotate_left
            · intro u hSu; (try dsimp only at hSu); (go_simp <;> with_reducible rfl)
            try simp only [Act.put, List.setIfInBounds_toArray, List.set_cons_zero, List.set_cons_succ]
            refine wpAnyH_take (i := 13) (oi := { dst := some 43, op := Op.move (Operand.tmp 0), type := 22, pos := "ref.go:130", after := #[{ on := 12, ground := Ground.guard }], guard := some (12, true) }) (v := undef) rfl (by kernel_rfl) (by kernel_rfl) (by kernel_rfl) (fun _ _ _ h => h) (Or.inr ⟨by rfl, rfl⟩) (by assumption) ?_
            try simp only [Act.put, List.setIfInBounds_toArray, List.set_cons_zero, List.set_cons_succ]
            refine wpAnyH_take (i := 14) (oi := { dst := some 44, op := Op.slice 22 (Operand.tmp 43) (some (Operand.const (Value.int IntKind.i64 1))) none none, type := 22, pos := "ref.go:130", after := #[{ on := 13, ground := Ground.data }, { on := 12, ground := Ground.guard }], guard := some (12, true) }) (v := undef) rfl (by kernel_rfl) (by kernel_rfl) (by kernel_rfl) (fun _ _ _ h => h) (Or.inr ⟨by rfl, rfl⟩) (by assumption) ?_
            try simp only [Act.put, List.setIfInBounds_toArray, List.set_cons_zero, List.set_cons_succ]
            refine wpAnyH_take (i := 15) (oi := { dst := some 45, op := Op.move (Operand.tmp 1), type := 22, pos := "ref.go:130", after := #[{ on := 12, ground := Ground.guard }], guard := some (12, true) }) (v := undef) rfl (by kernel_rfl) (by kernel_rfl) (by kernel_rfl) (fun _ _ _ h => h) (Or.inr ⟨by rfl, rfl⟩) (by assumption) ?_
            try simp only [Act.put, List.setIfInBounds_toArray, List.set_cons_zero, List.set_cons_succ]
            refine wpAnyH_take (i := 16) (oi := { dst := some 46, op := Op.slice 22 (Operand.tmp 45) (some (Operand.const (Value.int IntKind.i64 1))) none none, type := 22, pos := "ref.go:130", after := #[{ on := 15, ground := Ground.data }, { on := 12, ground := Ground.guard }], guard := some (12, true) }) (v := undef) rfl (by kernel_rfl) (by kernel_rfl) (by kernel_rfl) (fun _ _ _ h => h) (Or.inr ⟨by rfl, rfl⟩) (by assumption) ?_
            try simp only [Act.put, List.setIfInBounds_toArray, List.set_cons_zero, List.set_cons_succ]
            refine wpAnyH_take (i := 17) (oi := { dst := some 47, op := Op.call { callee := Callee.value (Operand.func 71), args := #[Operand.tmp 44, Operand.tmp 46], argTypes := #[22, 22] }, type := 4, pos := "ref.go:130", after := #[{ on := 14, ground := Ground.data }, { on := 16, ground := Ground.data }, { on := 12, ground := Ground.chain }, { on := 12, ground := Ground.guard }], guard := some (12, true) }) (v := undef) rfl (by kernel_rfl) (by kernel_rfl) (by kernel_rfl) (fun _ _ _ h => h) (Or.inr ⟨by rfl, rfl⟩) (by assumption) ?_
            try simp only [Act.put, List.setIfInBounds_toArray, List.set_cons_zero, List.set_cons_succ]
            refine wpAnyH_take (i := 18) (oi := { dst := some 48, op := Op.pick (Operand.tmp 42) (Operand.tmp 47) (Operand.const (Value.bool false)), type := 4, pos := "ref.go:130", after := #[{ on := 12, ground := Ground.data }, { on := 17, ground := Ground.data }], guard := none }) (v := ?_) rfl (by kernel_rfl) (by kernel_rfl) (by kernel_rfl) (fun _ _ _ h => h) (Or.inl ⟨by rfl, ?_⟩) (by assumption) ?_
            rotate_left
            · intro u hSu; (try dsimp only at hSu); (go_simp <;> with_reducible rfl)
            try simp only [Act.put, List.setIfInBounds_toArray, List.set_cons_zero, List.set_cons_succ]
            refine wpAnyH_take (i := 19) (oi := { dst := some 4, op := Op.assign (Operand.tmp 48), type := 4, pos := "ref.go:130", after := #[{ on := 18, ground := Ground.data }, { on := 17, ground := Ground.chain }, { on := 0, ground := Ground.phase }, { on := 1, ground := Ground.phase }, { on := 2, ground := Ground.phase }, { on := 3, ground := Ground.phase }, { on := 4, ground := Ground.phase }, { on := 5, ground := Ground.phase }, { on := 6, ground := Ground.phase }, { on := 7, ground := Ground.phase }, { on := 8, ground := Ground.phase }, { on := 9, ground := Ground.phase }, { on := 10, ground := Ground.phase }, { on := 11, ground := Ground.phase }, { on := 12, ground := Ground.phase }, { on := 13, ground := Ground.phase }, { on := 14, ground := Ground.phase }, { on := 15, ground := Ground.phase }, { on := 16, ground := Ground.phase }, { on := 17, ground := Ground.phase }, { on := 18, ground := Ground.phase }], guard := none }) (v := ?_) rfl (by kernel_rfl) (by kernel_rfl) (by kernel_rfl) (fun _ _ _ h => h) (Or.inl ⟨by rfl, ?_⟩) (by assumption) ?_
            rotate_left
            · intro u hSu; (try dsimp only at hSu); (go_simp <;> with_reducible rfl)
            try simp only [Act.put, List.setIfInBounds_toArray, List.set_cons_zero, List.set_cons_succ]
            refine wpAnyH_done (by kernel_rfl) ?_ _
            all_goals
              go_wp2_with fail
              go_ret
              exact ⟨ret_bool HZ.out, (by first | exact HW3.out | exact below_drewN HW3.out _ | exact Below.drew HW3.out)⟩
          | true =>
            rw [hg] at h1
            have H1 := Lib.hid h1
            have HZ : Hid (stands ps l = stands (p :: ps) (x :: l)) := Lib.hid (by rw [hst, hg]; rfl)
            clear h1 h2 hst ih hm hsl hsl' hsp' ha hb hg
            go_enter Tryd.func71, Tryd.ntmps71
            go_wp2_with fail
            go_region_held3 (fun u => u.cell? ⟨bp, op, none⟩ = some (.string (bstr p)) ∧ u.cell? ⟨bl, ol, none⟩ = some (.string (bstr x)))
              (first | exact ⟨ep, el⟩ | (go_split_ands; exact ⟨by assumption, by assumption⟩) | exact ⟨(HW3.out.cell (p := ⟨bp, op, none⟩) hbp).trans ep, (HW3.out.cell (p := ⟨bl, ol, none⟩) hbl).trans el⟩ | exact ⟨(HW4.out.cell (p := ⟨bp, op, none⟩) hbp).trans ep, (HW4.out.cell (p := ⟨bl, ol, none⟩) hbl).trans el⟩)
              (first | (go_at_call 97; go_must (refine (H1.out _ ?_).mono ?_; (first | exact HB0.out | exact below_drewN HB0.out _ | exact Below.drew HB0.out); rintro e w3 ⟨rfl, hb⟩; have HW3 := Lib.hid hb; clear hb)) | (go_at_call 71; go_must (refine (H2.out _ ?_).mono ?_; (first | exact HW3.out | exact below_drewN HW3.out _ | exact Below.drew HW3.out); rintro e w4 ⟨rfl, hb⟩; have HW4 := Lib.hid hb; clear hb)))
            all_goals
              go_wp2_with fail
              go_ret
              exact ⟨ret_bool HZ.out, (by first | exact HW4.out | exact below_drewN HW4.out _ | exact Below.drew HW4.out)⟩
end Go.Proofs.YtopamnfelngkcaaDoor
