/-
  Layer 15, the document's: In, Times, Ready, youngest. No condition besides what the arguments are.
-/
import Derived.Test.YtcpmnocknpalfaaH8
import Derived.Test.YtcpmnocknpalfaaR2
import Derived.Test.YtcpmnocknpalfaaK1
namespace Go.Ord
open Go.Dag
def inB (l : List Int) (x : Nat) : Bool := (nn l).contains x
theorem inB_iff {l : List Int} {x : Nat} : inB l x = true ↔ x ∈ nn l := by unfold inB; simp
/-- while Ready is reckoned: nodes below n are done, and k parents of n -/
def RdC (g : List Nd) (left f : Nat → Bool) (n : Nat) : Prop := ∀ x, x < g.length → (f x = true ↔ left x = true ∧ ∀ c, c < n → left c = true → x ∉ par g c)
def RdD (g : List Nd) (left f : Nat → Bool) (n k : Nat) : Prop := ∀ x, x < g.length → (f x = true ↔ (left x = true ∧ ∀ c, c < n → left c = true → x ∉ par g c) ∧ (left n = true → x ∉ (par g n).take k))
theorem RdC.inner {g : List Nd} {left f : Nat → Bool} {n : Nat} (h : RdC g left f n) : RdD g left f n 0 := fun x hx => by rw [h x hx]; simp
theorem RdD.step {g : List Nd} {left f : Nat → Bool} {n k : Nat} (h : RdD g left f n k) (hl : left n = true) (hk : k < (par g n).length) : RdD g left (upd f (par g n)[k] false) n (k + 1) := fun x hx => by
  by_cases e : x = (par g n)[k]
  · rw [e, upd_same]
    constructor
    · intro h; cases h
    · rintro ⟨_, h2⟩
      exact absurd (List.mem_take_iff_getElem.2 ⟨k, by omega, rfl⟩) (h2 hl)
  · rw [upd_ne _ _ e, h x hx, List.take_succ_eq_append_getElem hk]
    simp only [List.mem_append, List.mem_singleton, not_or]
    constructor
    · rintro ⟨h1, h2⟩; exact ⟨h1, fun hl => ⟨h2 hl, e⟩⟩
    · rintro ⟨h1, h2⟩; exact ⟨h1, fun hl => (h2 hl).1⟩
theorem RdD.done {g : List Nd} {left f : Nat → Bool} {n k : Nat} (h : RdD g left f n k) (hd : left n = false ∨ (par g n).length ≤ k) : RdC g left f (n + 1) := fun x hx => by
  rw [h x hx]
  constructor
  · rintro ⟨⟨h1, h2⟩, h3⟩
    refine ⟨h1, fun c hc hl => ?_⟩
    by_cases e : c = n
    · subst e
      rcases hd with hd | hd
      · rw [hd] at hl; cases hl
      · have := h3 hl
        rwa [List.take_of_length_le hd] at this
    · exact h2 c (by omega) hl
  · rintro ⟨h1, h2⟩
    exact ⟨⟨h1, fun c hc hl => h2 c (by omega) hl⟩, fun hl hm => h2 n (by omega) hl (List.mem_of_mem_take hm)⟩
theorem RdC.fin {g : List Nd} {left f : Nat → Bool} (h : RdC g left f g.length) : ∀ x, x < g.length → f x = rdy g left x := fun x hx => by
  rw [Bool.eq_iff_iff, rdy_iff, h x hx]
def key (by_ : List Int) (n : Nat) : Int := by_.getD n 0
end Go.Ord
namespace Go.Proofs.Ytcpmnocknpalfaa
open Go.RowKit Go.Sl
set_option linter.unusedVariables false

set_option maxRecDepth 100000 in
set_option maxHeartbeats 1000000 in
theorem in_any (gv v : Value) (w : World) (es : List (SlV × Int)) (g : List Nd) (l : List Int) (hgl : g.length ≤ 128) (hl : Dag.inN g.length l) (hG : Gr w gv es g) (h : Sl eInt 1 w v l) :
    Calls Try.prog 67 #[gv, v] w fun e w' => e = .returned (.slice (some ⟨w.heap.size, 0, none⟩) g.length g.length) ∧ Bl w.heap.size w.heap.size g.length (Ord.inB l) w' ∧ Below w.heap.size w w' := by
  have hix0 := hG.run_len
  have hlen := h.run_len (P := Try.prog) Try.underlying23
  have hmax := h.len_le
  have hmk := make_bools g.length (by omega)
  rw [made_bcells] at hmk
  have HB0 : Hid (Bl w.heap.size w.heap.size g.length (fun _ => false) (w.alloc (.cells (bcells (fun _ => false) g.length) 4))) := Lib.hid ⟨Nat.le_refl _, heap_new_at rfl⟩
  have HW0 := Lib.hid ((Below.refl w.heap.size w).alloc (Nat.le_refl _) (.cells (bcells (fun _ => false) g.length) 4))
  have HL := Lib.hid hl
  clear hl
  go_enter Try.func67, Try.ntmps67
  go_wp2_with fail
  go_loopw [6] (fun i wr => ∃ (k : Nat) (f : Nat → Bool), i = .int .i64 k ∧ k ≤ l.length ∧ Hid (∀ x, x < g.length → (f x = true ↔ x ∈ Dag.nn (l.take k))) ∧ Hid (Bl w.heap.size w.heap.size g.length f wr) ∧ Hid (Below w.heap.size w wr)) (fun i _ => l.length - (intOf i).toNat)
  case atStart => exact ⟨0, _, rfl, by omega, Lib.hid (fun x hx => by simp), HB0, HW0⟩
  case round =>
    obtain ⟨k, f, rfl, hk, HF, HB, HW⟩ := hrel
    by_cases hlt : k < l.length
    · obtain ⟨b2, o2, hb2, hix2, hc2⟩ := h.atB HW.out (P := Try.prog) Try.underlying23 cells3 some3 hlt
      have e1 := hc2 0 (by omega)
      simp only [eInt, List.getElem?_cons_zero, Nat.add_zero] at e1
      obtain ⟨x, HY⟩ : ∃ x, Hid (l[k] = x) := ⟨_, Lib.hid rfl⟩
      rw [HY.out] at e1
      have hok := HL.out l[k] (List.getElem_mem hlt)
      rw [HY.out] at hok
      obtain ⟨y, rfl⟩ : ∃ y : Nat, x = y := ⟨x.toNat, by have := hok.1; omega⟩
      have hyn : y < g.length := by have := hok.2; omega
      have HT : Hid (Dag.nn (l.take (k + 1)) = Dag.nn (l.take k) ++ [y]) := Lib.hid (by show List.map _ _ = _; rw [par_take hlt, HY.out]; rfl)
      obtain ⟨c1, c2, c3⟩ := HB.out.cell hyn
      have HB2 := Lib.hid (HB.out.set y true)
      have HW2 : Hid (Below w.heap.size w (wr.setCell ⟨w.heap.size, y, none⟩ (.bool true))) := Lib.hid (HW.out.setCell (p := ⟨w.heap.size, y, none⟩) (Nat.le_refl _) _)
      have HF2 : Hid (∀ x, x < g.length → (Dag.upd f y true x = true ↔ x ∈ Dag.nn (l.take (k + 1)))) := Lib.hid (fun x hx => by
        rw [Dag.upd_true, HT.out, HF.out x hx, List.mem_append, List.mem_singleton]; exact Or.comm)
      clear hc2 hok HT HF HB
      go_wp2_with fail
      go_roundw
      case rel => exact ⟨k + 1, _, by go_num, by omega, HF2, HB2, HW2⟩
      case measure => simp [intOf]; omega
    · have HX : Hid (∀ x, x < g.length → f x = Ord.inB l x) := Lib.hid (fun x hx => by
        have := HF.out x hx
        rw [List.take_of_length_le (by omega)] at this
        rw [Bool.eq_iff_iff, this, Ord.inB_iff])
      go_wp2_with fail
      go_ret
      exact ⟨rfl, HB.out.congr HX.out, HW.out⟩

set_option maxRecDepth 100000 in
set_option maxHeartbeats 1000000 in
theorem times_any (gv : Value) (w : World) (es : List (SlV × Int)) (g : List Nd) (hgl : g.length ≤ 128) (hG : Gr w gv es g) :
    Calls Try.prog 61 #[gv] w fun e w' => ∃ v, e = .returned v ∧ Own eInt 1 w.heap.size 3 w' v (g.map (·.2)) ∧ Below w.heap.size w w' := by
  have hix0 := hG.run_len
  go_enter Try.func61, Try.ntmps61
  go_wp2_with fail
  go_loopw [3, 4] (fun v i wr => ∃ (n : Nat), i = .int .i64 n ∧ n ≤ g.length ∧ Hid (Own eInt 1 w.heap.size 3 wr v ((g.take n).map (·.2))) ∧ Hid (Below w.heap.size w wr)) (fun _ i _ => g.length - (intOf i).toNat)
  case atStart => exact ⟨0, rfl, by omega, Lib.hid (Own.nil _ _ _ _ _), Lib.hid (Below.refl _ _)⟩
  case round =>
    obtain ⟨n, rfl, hn, HO, HW⟩ := hrel
    by_cases hlt : n < g.length
    · obtain ⟨b, o, hb1, hix, P, T, a1, n1, k1, HX, HLn, q0, q1, hs1, hm1⟩ := hG.at HW.out hlt
      have HT : Hid ((g.take (n + 1)).map (·.2) = (g.take n).map (·.2) ++ [T]) := Lib.hid (by rw [List.take_succ_eq_append_getElem hlt, List.map_append, HX.out]; rfl)
      have HLl : Hid (((g.take n).map (·.2)).length = n) := Lib.hid (by simp; omega)
      have hsz := HW.out.size
      go_wp2_with (at_builtin; go_must (refine wpList_append1 rfl (en := eInt) (s := 1) (base := w.heap.size) (e := 3) _ _ 23 rfl (.int .i64 0) 8 Try.underlying23 info3 rfl (by decide) len_eInt one_eInt u3 _ _ T rfl (HO.out.alloc _) rfl (Sl.fresh len_eInt rfl rfl rfl (by simp [maxLen])) (by rw [HLl.out]; simp only [maxLen]; omega) (by rw [HLl.out]; omega) (by simp; omega) ?_; intro ov' w6 hown hgr hbel hblk; have HO2 := Lib.hid hown; have HW2 := Lib.hid ((HW.out.alloc HW.out.size _).trans hbel); clear hown hgr hbel hblk))
      go_roundw
      case rel => exact ⟨n + 1, by go_num, by omega, Lib.hid (by rw [HT.out]; exact HO2.out), HW2⟩
      case measure => simp [intOf]; omega
    · have HE : Hid (Own eInt 1 w.heap.size 3 wr u3 (g.map (·.2))) := Lib.hid (by have := HO.out; rwa [List.take_of_length_le (by omega)] at this)
      go_wp2_with fail
      go_ret
      exact ⟨_, rfl, HE.out, HW.out⟩

set_option maxRecDepth 100000 in
set_option maxHeartbeats 1000000 in
theorem ready_any (gv : Value) (w : World) (es : List (SlV × Int)) (g : List Nd) (hg : Dag.okG g) (lb bs : Nat) (left : Nat → Bool) (hG : Gr w gv es g) (hl : Bl bs lb g.length left w) :
    Calls Try.prog 94 #[gv, .slice (some ⟨lb, 0, none⟩) g.length g.length] w fun e w' => e = .returned (.slice (some ⟨w.heap.size, 0, none⟩) g.length g.length) ∧ Bl w.heap.size w.heap.size g.length (Ord.rdy g left) w' ∧ Below w.heap.size w w' := by
  have hix0 := hG.run_len
  have hgl := hg.1
  have hmk := make_bools g.length (by omega)
  rw [made_bcells] at hmk
  have HB0 : Hid (Bl w.heap.size w.heap.size g.length (fun _ => false) (w.alloc (.cells (bcells (fun _ => false) g.length) 4))) := Lib.hid ⟨Nat.le_refl _, heap_new_at rfl⟩
  have HW0 := Lib.hid ((Below.refl w.heap.size w).alloc (Nat.le_refl _) (.cells (bcells (fun _ => false) g.length) 4))
  have HLf := Lib.hid hl
  have HG := Lib.hid hg
  have hlb := (Array.getElem?_eq_some_iff.1 hl.blk).1
  clear hg hl
  go_enter Try.func94, Try.ntmps94
  go_wp2_with fail
  go_loopw [6] (fun i wr => ∃ (k : Nat) (f : Nat → Bool), i = .int .i64 k ∧ k ≤ g.length ∧ Hid (∀ x, x < k → f x = left x) ∧ Hid (Bl w.heap.size w.heap.size g.length f wr) ∧ Hid (Below w.heap.size w wr)) (fun i _ => g.length - (intOf i).toNat)
  case atStart => exact ⟨0, _, rfl, by omega, Lib.hid (fun x hx => by omega), HB0, HW0⟩
  case round =>
    obtain ⟨k, f, rfl, hk, HF, HB, HW⟩ := hrel
    by_cases hlt : k < g.length
    · obtain ⟨c1, c2, c3⟩ := HB.out.cell hlt
      obtain ⟨d1, -, -⟩ := HLf.out.cell hlt
      have d2 := (HW.out.cell (p := ⟨lb, k, none⟩) hlb).trans d1
      have HB2 := Lib.hid (HB.out.set k (left k))
      have HW2 : Hid (Below w.heap.size w (wr.setCell ⟨w.heap.size, k, none⟩ (.bool (left k)))) := Lib.hid (HW.out.setCell (p := ⟨w.heap.size, k, none⟩) (Nat.le_refl _) _)
      have HF2 : Hid (∀ x, x < k + 1 → Dag.upd f k (left k) x = left x) := Lib.hid (fun x hx => by
        by_cases e : x = k
        · subst e; exact Dag.upd_same _ _ _
        · rw [Dag.upd_ne _ _ e]; exact HF.out x (by omega))
      clear HF HB
      go_wp2_with fail
      go_roundw
      case rel => exact ⟨k + 1, _, by go_num, by omega, HF2, HB2, HW2⟩
      case measure => simp [intOf]; omega
    · have HC0 : Hid (Ord.RdC g left f 0) := Lib.hid (fun x hx => by rw [HF.out x (by omega)]; simp)
      clear HF
      go_wp2_with fail
      go_loopw [7] (fun i wr => ∃ (n : Nat) (f : Nat → Bool), i = .int .i64 n ∧ n ≤ g.length ∧ Hid (Ord.RdC g left f n) ∧ Hid (Bl w.heap.size w.heap.size g.length f wr) ∧ Hid (Below w.heap.size w wr)) (fun i _ => g.length - (intOf i).toNat)
      case atStart => exact ⟨0, f, rfl, by omega, HC0, HB, HW⟩
      case round =>
        obtain ⟨n, f, rfl, hn, HC, HB, HW⟩ := hrel
        by_cases hltn : n < g.length
        · have HD := Lib.hid HC.out.inner
          clear HC
          go_wp2_with fail
          go_loopw [8] (fun i wr => ∃ (k : Nat) (f : Nat → Bool), i = .int .i64 k ∧ k ≤ (Dag.par g n).length ∧ Hid (Ord.RdD g left f n k) ∧ Hid (Bl w.heap.size w.heap.size g.length f wr) ∧ Hid (Below w.heap.size w wr)) (fun i _ => (Dag.par g n).length - (intOf i).toNat)
          case atStart => exact ⟨0, f, rfl, by omega, HD, HB, HW⟩
          case round =>
            obtain ⟨k, f, rfl, hk, HD, HB, HW⟩ := hrel
            obtain ⟨b, o, hb1, hix, P, T, a1, n1, k1, HX, HLn, q0, q1, hs1, hm1⟩ := hG.at HW.out hltn
            have HPar : Hid (Dag.par g n = P.map Int.toNat) := Lib.hid (by rw [Dag.par_eq hltn, HX.out])
            have HPl : Hid ((Dag.par g n).length = n1) := Lib.hid (by rw [HPar.out, List.length_map, HLn.out])
            rw [HPl.out] at hk ⊢
            have hls := hs1.run_len (P := Try.prog) Try.underlying23
            rw [HLn.out] at hls
            obtain ⟨d1, -, -⟩ := HLf.out.cell hltn
            have c1 := (HW.out.cell (p := ⟨lb, n, none⟩) hlb).trans d1
            cases hfn : left n with
            | false =>
              rw [hfn] at c1
              have HC2 := Lib.hid (HD.out.done (.inl hfn))
              clear hfn HD d1
              go_wp2_with fail
              go_roundw
              case rel => exact ⟨n + 1, f, by go_num, by omega, HC2, HB, HW⟩
              case measure => simp [intOf]; omega
            | true =>
              rw [hfn] at c1
              by_cases hkn : k < n1
              · have hkP : k < P.length := by rw [HLn.out]; exact hkn
                obtain ⟨b2, o2, hb2, hix2, hc2⟩ := hs1.atB HW.out (P := Try.prog) Try.underlying23 cells3 some3 hkP
                have e1 := hc2 0 (by omega)
                simp only [eInt, List.getElem?_cons_zero, Nat.add_zero] at e1
                obtain ⟨x, HY⟩ : ∃ x, Hid (P[k] = x) := ⟨_, Lib.hid rfl⟩
                rw [HY.out] at e1
                have hok : 0 ≤ x ∧ x < n := by
                  have h3 := (HG.out.2 n hltn).2.2.2 k (by rw [HX.out]; exact hkP)
                  have h4 : g[n].1[k]'(by rw [HX.out]; exact hkP) = x := by rw [← HY.out]; congr 1; rw [HX.out]
                  rw [h4] at h3
                  exact ⟨h3.1, h3.2.1⟩
                obtain ⟨y, rfl⟩ : ∃ y : Nat, x = y := ⟨x.toNat, by omega⟩
                have hyn : y < g.length := by omega
                obtain ⟨c4, c5, c6⟩ := HB.out.cell hyn
                have HD2 : Hid (Ord.RdD g left (Dag.upd f y false) n (k + 1)) := Lib.hid (by
                  have h3 := HD.out.step hfn (k := k) (by rw [HPl.out]; exact hkn)
                  have h4 : (Dag.par g n)[k]'(by rw [HPl.out]; exact hkn) = y := by
                    have : (P.map Int.toNat)[k]'(by simpa using hkP) = y := by rw [List.getElem_map, HY.out]; rfl
                    rw [← this]; congr 1
                  rwa [h4] at h3)
                have HB2 := Lib.hid (HB.out.set y false)
                have HW2 : Hid (Below w.heap.size w (wr.setCell ⟨w.heap.size, y, none⟩ (.bool false))) := Lib.hid (HW.out.setCell (p := ⟨w.heap.size, y, none⟩) (Nat.le_refl _) _)
                clear hc2 hok HD HB hfn d1
                go_wp2_with fail
                go_roundw
                case rel => exact ⟨k + 1, _, by go_num, by omega, HD2, HB2, HW2⟩
                case measure => simp [intOf]; omega
              · have HC2 := Lib.hid (HD.out.done (.inr (by rw [HPl.out]; omega)))
                clear hfn HD d1
                go_wp2_with fail
                go_roundw
                case rel => exact ⟨n + 1, f, by go_num, by omega, HC2, HB, HW⟩
                case measure => simp [intOf]; omega
        · have HX : Hid (∀ x, x < g.length → f x = Ord.rdy g left x) := Lib.hid (Ord.RdC.fin (by have := HC.out; rwa [show n = g.length by omega] at this))
          go_wp2_with fail
          go_ret
          exact ⟨rfl, HB.out.congr HX.out, HW.out⟩

set_option maxRecDepth 100000 in
set_option maxHeartbeats 1000000 in
theorem youngest_any (ib bs N : Nat) (is : Nat → Bool) (v : Value) (bl : List Int) (w : World) (hN : N ≤ 800) (hl : bl.length = N) (hi : Bl bs ib N is w) (hb : Sl eInt 1 w v bl) :
    Calls Try.prog 93 #[.slice (some ⟨ib, 0, none⟩) N N, v] w fun e w' => e = .returned (.int .i64 (Ord.yng is (Ord.key bl) N)) ∧ ∃ n, w' = w.drewN n := by
  have HI := Lib.hid hi
  have HL := Lib.hid hl
  clear hi hl
  go_enter Try.func93, Try.ntmps93
  go_wp2_with fail
  go_loopw [5, 6] (fun a i wr => ∃ (n : Nat), i = .int .i64 n ∧ n ≤ N ∧ a = .int .i64 (Ord.yng is (Ord.key bl) n) ∧ ∃ q, Hid (wr = w.drewN q)) (fun _ i _ => N - (intOf i).toNat)
  case atStart => exact ⟨0, rfl, by omega, rfl, 0, Lib.hid rfl⟩
  case round =>
    obtain ⟨n, rfl, hn, rfl, q, HW⟩ := hrel
    obtain rfl := HW.out
    clear HW
    by_cases hlt : n < N
    · obtain ⟨c1, c2, c3⟩ := HI.out.cell hlt
      have hnb : n < bl.length := by rw [HL.out]; exact hlt
      obtain ⟨b2, o2, hb2, hix2, hc2⟩ := hb.at (P := Try.prog) Try.underlying23 cells3 some3 hnb
      have e1 := hc2 0 (by omega)
      simp only [eInt, List.getElem?_cons_zero, Nat.add_zero] at e1
      obtain ⟨kn, HKn⟩ : ∃ x, Hid (bl[n] = x) := ⟨_, Lib.hid rfl⟩
      rw [HKn.out] at e1
      have HKn2 : Hid (Ord.key bl n = kn) := Lib.hid (by rw [← HKn.out]; simp [Ord.key, List.getD_eq_getElem?_getD, hnb])
      clear hc2
      cases hin : is n with
      | false =>
        have HS : Hid (Ord.yng is (Ord.key bl) (n + 1) = Ord.yng is (Ord.key bl) n) := Lib.hid (if_neg (fun h => by rw [hin] at h; exact absurd h.1 (by simp)))
        rw [hin] at c1
        clear hin
        go_wp2_with fail
        go_quiet (fail)
        go_wp2_with fail
        go_roundw
        case rel => exact ⟨n + 1, by go_num, by omega, by rw [HS.out], _, Lib.hid rfl⟩
        case measure => simp [intOf]; omega
      | true =>
        rw [hin] at c1
        rcases Ord.yng_spec is (Ord.key bl) n with ⟨h1, _⟩ | ⟨y, h1, h2, _, _⟩
        · have HS : Hid (Ord.yng is (Ord.key bl) (n + 1) = n) := Lib.hid (if_pos ⟨hin, .inl (by omega)⟩)
          rw [h1]
          clear hin h1
          go_wp2_with fail
          go_quiet (fail)
          go_wp2_with fail
          go_roundw
          case rel => exact ⟨n + 1, by go_num, by omega, by rw [HS.out], _, Lib.hid rfl⟩
          case measure => simp [intOf]; omega
        · have hyb : y < bl.length := by rw [HL.out]; omega
          obtain ⟨b3, o3, hb3, hix3, hc3⟩ := hb.at (P := Try.prog) Try.underlying23 cells3 some3 hyb
          have e3 := hc3 0 (by omega)
          simp only [eInt, List.getElem?_cons_zero, Nat.add_zero] at e3
          obtain ⟨ky, HKy⟩ : ∃ x, Hid (bl[y] = x) := ⟨_, Lib.hid rfl⟩
          rw [HKy.out] at e3
          have HKy2 : Hid (Ord.key bl y = ky) := Lib.hid (by rw [← HKy.out]; simp [Ord.key, List.getD_eq_getElem?_getD, hyb])
          clear hc3
          have hy0 : decide ((y : Int) < 0) = false := decide_eq_false (by omega)
          by_cases hle : ky ≤ kn
          · have HS : Hid (Ord.yng is (Ord.key bl) (n + 1) = n) := Lib.hid (if_pos ⟨hin, .inr (by rw [h1, HKn2.out]; show Ord.key bl (Int.toNat y) ≤ _; rw [Int.toNat_natCast, HKy2.out]; exact hle)⟩)
            have d1 := decide_eq_true hle
            rw [h1]
            clear hin h1
            go_wp2_with fail
            go_quiet (fail)
            go_wp2_with fail
            go_roundw
            case rel => exact ⟨n + 1, by go_num, by omega, by rw [HS.out], _, Lib.hid rfl⟩
            case measure => simp [intOf]; omega
          · have HS : Hid (Ord.yng is (Ord.key bl) (n + 1) = y) := Lib.hid (by
              rw [← h1]
              refine if_neg ?_
              rintro ⟨_, h5 | h5⟩
              · omega
              · rw [h1, HKn2.out] at h5
                have h6 : Ord.key bl (Int.toNat y) ≤ kn := h5
                rw [Int.toNat_natCast, HKy2.out] at h6
                exact hle h6)
            have hle2 : kn < ky := by omega
            have d1 := decide_eq_false hle
            rw [h1]
            clear hin h1 hle
            go_wp2_with fail
            go_quiet (fail)
            go_wp2_with fail
            go_roundw
            case rel => exact ⟨n + 1, by go_num, by omega, by rw [HS.out], _, Lib.hid rfl⟩
            case measure => simp [intOf]; omega
    · obtain rfl : n = N := by omega
      go_wp2_with fail
      go_ret
      exact ⟨rfl, _, rfl⟩
end Go.Proofs.Ytcpmnocknpalfaa
