/-
  Layer 14: the greatest number taken out of the queue. No condition besides what the queue is.
-/
import Derived.Test.YtcpmnocknpalfaaH1
namespace Go.Proofs.Ytcpmnocknpalfaa
open Go.RowKit Go.Sl

theorem own_heap {base g n cap : Nat} {w : World} {l : List Int} (h : Own eInt 1 base 3 w (.slice (some ⟨g, 0, none⟩) n cap) l) : ∃ cur, w.heap[g]? = some (.cells cur 3 (0, 0)) := by
  rcases h.2 with ⟨hv, _⟩ | ⟨g', cap', cur, hv, h1, h2, _⟩
  · cases hv
  · simp only [Value.slice.injEq, Option.some.injEq, Addr.mk.injEq, and_true] at hv
    obtain ⟨rfl, _, _⟩ := hv
    exact ⟨_, h2⟩
theorem own_take {base g n cap : Nat} {w : World} {l : List Int} (h : Own eInt 1 base 3 w (.slice (some ⟨g, 0, none⟩) n cap) l) {m : Nat} (hm : m ≤ l.length) : Own eInt 1 base 3 w (.slice (some ⟨g, 0, none⟩) m cap) (l.take m) := by
  rcases h.2 with ⟨hv, _⟩ | ⟨g', cap', cur, hv, h1, h2, h3, h4, h5, h6⟩
  · cases hv
  · simp only [Value.slice.injEq, Option.some.injEq, Addr.mk.injEq, and_true] at hv
    obtain ⟨rfl, rfl, rfl⟩ := hv
    have e1 : (l.take m).length = m := by simp; omega
    refine ⟨?_, .inr ⟨g, cap, cur, by rw [e1], h1, h2, by omega, h4, h5, ?_⟩⟩
    · rw [flatMap_len len_eInt]
    · have : cur.toList.take (m * 1) = (l.flatMap eInt).take (m * 1) := by rw [← h6, List.take_take]; congr 1; omega
      rw [e1, this]
      have hf : ∀ (l : List Int) (m : Nat), (l.flatMap eInt).take (m * 1) = (l.take m).flatMap eInt := by
        intro l
        induction l with
        | nil => intro m; simp
        | cons x l ih =>
          intro m
          cases m with
          | zero => simp
          | succ m =>
            have := ih m
            simp only [Nat.mul_one] at this ⊢
            simp [eInt, this]
      exact hf l m
theorem QW.put {base pb g n cap : Nat} {a b qv : Value} {l : List Int} {w wr : World} (h : QW base pb a b qv (.slice (some ⟨g, 0, none⟩) n cap) l w wr) {i : Nat} (hi : i < l.length) (x : Int) :
    QW base pb a b qv (.slice (some ⟨g, 0, none⟩) n cap) (l.set i x) w (wr.setCell ⟨g, i, none⟩ (.int .i64 x)) := by
  have o1 := own_set h.own hi x
  have hg := (own_cells h.own).2.1
  have hne := h.own.ne_elem h.blk (by decide)
  have hne' : pb ≠ g := fun e => hne (by simp [Value.ownBlock, e])
  obtain ⟨cur, hcur⟩ := own_heap h.own
  exact ⟨heap_set_keep (a := ⟨g, i, none⟩) (v := .int .i64 x) h.blk hne', o1, h.mv.trans (Mv.set (w := wr) (a := ⟨g, i, none⟩) (x := .int .i64 x) rfl), h.kt.trans (Kt.set (a := ⟨g, i, none⟩) (x := .int .i64 x) hcur (.inl rfl)), h.bel.setCell (p := ⟨g, i, none⟩) hg (.int .i64 x)⟩
theorem QW.trunc {base pb g n cap : Nat} {a b qv : Value} {l : List Int} {w wr : World} (h : QW base pb a b qv (.slice (some ⟨g, 0, none⟩) n cap) l w wr) (hpb : base ≤ pb) {m : Nat} (hm : m ≤ l.length) :
    QW base pb a b qv (.slice (some ⟨g, 0, none⟩) m cap) (l.take m) w (wr.setCell ⟨pb, 2, none⟩ (.slice (some ⟨g, 0, none⟩) m cap)) := by
  have o1 := own_take h.own hm
  have hne := h.own.ne_elem h.blk (by decide)
  have m1 : Mv eInt 1 base 3 qv (.slice (some ⟨g, 0, none⟩) m cap) w wr := fun v l h1 h2 => h.mv v l h1 h2
  exact ⟨heap_setCell_same _ _ _ _ _ _ h.blk, o1.set_other (a := ⟨pb, 2, none⟩) (o1.ne_elem h.blk (by decide)) _, m1.trans (Mv.set_elem (a := ⟨pb, 2, none⟩) h.blk (by decide)), h.kt.trans (Kt.set (a := ⟨pb, 2, none⟩) h.blk (.inr rfl)), h.bel.setCell (p := ⟨pb, 2, none⟩) hpb _⟩

/-- the greatest of a place and its first j children -/
def BG (l : List Int) (i j bg : Nat) : Prop := (bg = i ∨ (bg < l.length ∧ 0 < bg ∧ (bg - 1) / 2 = i)) ∧ Hp.ge l i ≤ Hp.ge l bg ∧ ∀ c, c < l.length → 2 * i + 1 ≤ c → c < 2 * i + 1 + j → Hp.ge l c ≤ Hp.ge l bg
theorem BG.start (l : List Int) (i : Nat) : BG l i 0 i := ⟨.inl rfl, Int.le_refl _, fun c _ h1 h2 => by omega⟩
theorem BG.keep {l : List Int} {i j bg : Nat} (h : BG l i j bg) (h2 : 2 * i + 1 + j < l.length → Hp.ge l (2 * i + 1 + j) ≤ Hp.ge l bg) : BG l i (j + 1) bg := ⟨h.1, h.2.1, fun c h3 h4 h5 => by
  by_cases e : c = 2 * i + 1 + j
  · subst e; exact h2 h3
  · exact h.2.2 c h3 h4 (by omega)⟩
theorem BG.take {l : List Int} {i j bg : Nat} (h : BG l i j bg) (hj : j < 2) (h1 : 2 * i + 1 + j < l.length) (h2 : Hp.ge l bg < Hp.ge l (2 * i + 1 + j)) : BG l i (j + 1) (2 * i + 1 + j) := ⟨.inr ⟨h1, by omega, by omega⟩, Int.le_trans h.2.1 (Int.le_of_lt h2), fun c h3 h4 h5 => by
  by_cases e : c = 2 * i + 1 + j
  · subst e; exact Int.le_refl _
  · exact Int.le_trans (h.2.2 c h3 h4 (by omega)) (Int.le_of_lt h2)⟩
theorem BG.all {l : List Int} {i bg : Nat} (h : BG l i 2 bg) : ∀ c, 0 < c → c < l.length → (c - 1) / 2 = i → Hp.ge l c ≤ Hp.ge l bg := fun c h1 h2 h3 => h.2.2 c h2 (by omega) (by omega)

set_option maxRecDepth 100000 in
set_option maxHeartbeats 1000000 in
theorem pop_any (base pb : Nat) (a b qv : Value) (q : List Int) (w : World) (hbp : base ≤ pb) (hp : w.heap[pb]? = some (.cells #[a, b, qv] 100 (0, 0))) (ho : Own eInt 1 base 3 w qv q) (hh : Hp.hp (· ≤ ·) q) (hn : q.length < 1000) (h0 : q ≠ []) :
    Calls Try.prog 101 #[.pointer (some ⟨pb, 2, none⟩)] w fun e w' => e = .returned (.int .i64 (Hp.ge q 0)) ∧ Queue base pb a b qv (Hp.cut q) w w' := by
  obtain ⟨g, cap, _, rfl, -, -, hcap, -⟩ := ho.block h0
  obtain ⟨y, r, rfl⟩ : ∃ y r, q = y :: r := by cases q with | nil => exact absurd rfl h0 | cons y r => exact ⟨y, r, rfl⟩
  simp only [List.length_cons] at hn hcap ho hp ⊢
  have HQ : Hid (QW base pb a b (.slice (some ⟨g, 0, none⟩) (r.length + 1) cap) (.slice (some ⟨g, 0, none⟩) (r.length + 1) cap) (y :: r) w w) := Lib.hid ⟨hp, ho, Mv.refl _ _, Kt.refl _ _ _, Below.refl _ _⟩
  have HH := Lib.hid hh
  clear hp ho hh h0
  obtain ⟨_, _, _, e3, _, _, f3⟩ := three100 HQ.out.blk
  obtain ⟨hg1, hg2, -, hcell⟩ := own_cells HQ.out.own
  obtain ⟨ck, fk⟩ := hcell r.length (by simp)
  obtain ⟨cu, fu⟩ := hcell 0 (by simp)
  clear hcell
  have HQ1 := HQ.out.put (i := 0) (by simp) (Hp.ge (y :: r) r.length)
  have HQ2 : Hid (QW base pb a b (.slice (some ⟨g, 0, none⟩) (r.length + 1) cap) (.slice (some ⟨g, 0, none⟩) r.length cap) (Hp.cut (y :: r)) w _) := Lib.hid (HQ1.trunc hbp (m := r.length) (by simp))
  have HD := Lib.hid (Hp.Down.start HH.out)
  have HL : Hid ((Hp.cut (y :: r)).length = r.length) := Lib.hid (Hp.cut_len (y :: r))
  obtain ⟨l0, hl0⟩ : ∃ l0, l0 = Hp.cut (y :: r) := ⟨_, rfl⟩
  rw [← hl0] at HQ2 HD HL ⊢
  clear HQ HQ1 hl0
  go_enter Try.func101, Try.ntmps101
  go_wp2_with fail
  go_region
  go_wp2_with fail
  go_loopw [5] (fun i wr => ∃ (k : Nat) (l : List Int), i = .int .i64 k ∧ k ≤ r.length ∧ Hid (l.length = r.length) ∧ Hid (Hp.Down (· ≤ ·) l k) ∧ Hid (l.Perm l0) ∧
    Hid (QW base pb a b (.slice (some ⟨g, 0, none⟩) (r.length + 1) cap) (.slice (some ⟨g, 0, none⟩) r.length cap) l w wr)) (fun i _ => r.length - (intOf i).toNat)
  case atStart => exact ⟨0, l0, rfl, by omega, HL, HD, Lib.hid (List.Perm.refl _), Lib.hid (HQ2.out.drewN 1)⟩
  case round =>
    obtain ⟨k, l, rfl, hk, HL, HD, HR, HQ⟩ := hrel
    have i0 : ∀ (x0 x1 : Value) (u : World), (Instr.index 138 (.agg #[x0, x1]) (.int .i64 0)).run Try.prog u = .ok x0 u := fun _ _ _ => by kernel_rfl
    have i1 : ∀ (x0 x1 : Value) (u : World), (Instr.index 138 (.agg #[x0, x1]) (.int .i64 1)).run Try.prog u = .ok x1 u := fun _ _ _ => by kernel_rfl
    go_wp2_with fail
    go_loopw [6, 50] (fun bgv jv wr => ∃ (bg j : Nat), bgv = .int .i64 bg ∧ jv = .int .i64 j ∧ j ≤ 2 ∧ bg ≤ r.length ∧ Hid (BG l k j bg) ∧
      Hid (QW base pb a b (.slice (some ⟨g, 0, none⟩) (r.length + 1) cap) (.slice (some ⟨g, 0, none⟩) r.length cap) l w wr)) (fun _ jv _ => 2 - (intOf jv).toNat)
    case atStart => exact ⟨k, 0, rfl, rfl, by omega, hk, Lib.hid (BG.start l k), HQ⟩
    case round =>
      obtain ⟨bg, j, rfl, rfl, hj, hbg, HG, HQ⟩ := hrel
      obtain rfl | rfl | rfl : j = 0 ∨ j = 1 ∨ j = 2 := by omega
      · have _t0 := trivial
        by_cases hc : 2 * k + 1 < r.length
        · have hci : 2 * (k : Int) + 1 < (r.length : Int) := by omega
          have hcp : (0 : Int) ≤ 2 * (k : Int) + 1 := by omega
          have hcn : (2 * (k : Int) + 1).toNat = 2 * k + 1 := by omega
          have hbl : bg < r.length := by
            rcases HG.out.1 with e | e
            · omega
            · have := e.1; rw [HL.out] at this; exact this
          obtain ⟨_, _, _, e3, _, _, f3⟩ := three100 HQ.out.blk
          obtain ⟨hg1, -, -, hcell⟩ := own_cells HQ.out.own
          obtain ⟨ck, fk⟩ := hcell (2 * k + 1) (by rw [HL.out]; omega)
          obtain ⟨cu, fu⟩ := hcell bg (by rw [HL.out]; omega)
          clear hcell
          by_cases hlt : Hp.ge l bg < Hp.ge l (2 * k + 1)
          · have d1 := decide_eq_true hlt
            have HG2 : Hid (BG l k (0 + 1) (2 * k + 1)) := Lib.hid (HG.out.take (by omega) (by rw [HL.out]; omega) hlt)
            go_wp2_with fail
            go_quiet (fail)
            go_wp2_with fail
            go_roundw
            case rel => exact ⟨2 * k + 1, 1, by go_num, by go_num, by omega, by omega, HG2, Lib.hid (HQ.out.drewN _)⟩
            case measure => simp [intOf]
          · have hle : Hp.ge l (2 * k + 1) ≤ Hp.ge l bg := by omega
            have d1 := decide_eq_false hlt
            have HG2 : Hid (BG l k (0 + 1) bg) := Lib.hid (HG.out.keep (fun _ => hle))
            clear hlt
            go_wp2_with fail
            go_quiet (fail)
            go_wp2_with fail
            go_roundw
            case rel => exact ⟨bg, 1, rfl, by go_num, by omega, by omega, HG2, Lib.hid (HQ.out.drewN _)⟩
            case measure => simp [intOf]
        · have hci : decide (2 * (k : Int) + 1 < (r.length : Int)) = false := decide_eq_false (by omega)
          have HG2 : Hid (BG l k (0 + 1) bg) := Lib.hid (HG.out.keep (fun h => absurd h (by rw [HL.out]; omega)))
          go_wp2_with fail
          go_quiet (fail)
          go_wp2_with fail
          go_roundw
          case rel => exact ⟨bg, 1, rfl, by go_num, by omega, by omega, HG2, Lib.hid (HQ.out.drewN _)⟩
          case measure => simp [intOf]
      · have _t1 := trivial
        by_cases hc : 2 * k + 2 < r.length
        · have hci : 2 * (k : Int) + 2 < (r.length : Int) := by omega
          have hcp : (0 : Int) ≤ 2 * (k : Int) + 2 := by omega
          have hcn : (2 * (k : Int) + 2).toNat = 2 * k + 2 := by omega
          have hbl : bg < r.length := by
            rcases HG.out.1 with e | e
            · omega
            · have := e.1; rw [HL.out] at this; exact this
          obtain ⟨_, _, _, e3, _, _, f3⟩ := three100 HQ.out.blk
          obtain ⟨hg1, -, -, hcell⟩ := own_cells HQ.out.own
          obtain ⟨ck, fk⟩ := hcell (2 * k + 2) (by rw [HL.out]; omega)
          obtain ⟨cu, fu⟩ := hcell bg (by rw [HL.out]; omega)
          clear hcell
          by_cases hlt : Hp.ge l bg < Hp.ge l (2 * k + 2)
          · have d1 := decide_eq_true hlt
            have HG2 : Hid (BG l k (1 + 1) (2 * k + 2)) := Lib.hid (HG.out.take (by omega) (by rw [HL.out]; omega) hlt)
            go_wp2_with fail
            go_quiet (fail)
            go_wp2_with fail
            go_roundw
            case rel => exact ⟨2 * k + 2, 2, by go_num, by go_num, by omega, by omega, HG2, Lib.hid (HQ.out.drewN _)⟩
            case measure => simp [intOf]
          · have hle : Hp.ge l (2 * k + 2) ≤ Hp.ge l bg := by omega
            have d1 := decide_eq_false hlt
            have HG2 : Hid (BG l k (1 + 1) bg) := Lib.hid (HG.out.keep (fun _ => hle))
            clear hlt
            go_wp2_with fail
            go_quiet (fail)
            go_wp2_with fail
            go_roundw
            case rel => exact ⟨bg, 2, rfl, by go_num, by omega, by omega, HG2, Lib.hid (HQ.out.drewN _)⟩
            case measure => simp [intOf]
        · have hci : decide (2 * (k : Int) + 2 < (r.length : Int)) = false := decide_eq_false (by omega)
          have HG2 : Hid (BG l k (1 + 1) bg) := Lib.hid (HG.out.keep (fun h => absurd h (by rw [HL.out]; omega)))
          go_wp2_with fail
          go_quiet (fail)
          go_wp2_with fail
          go_roundw
          case rel => exact ⟨bg, 2, rfl, by go_num, by omega, by omega, HG2, Lib.hid (HQ.out.drewN _)⟩
          case measure => simp [intOf]
      · by_cases hb : bg = k
        · subst hb
          have HS := Lib.hid (HD.out.stop HG.out.all)
          go_wp2_with fail
          go_ret
          exact ⟨rfl, _, l, HQ.out, HS.out, HR.out⟩
        · have hb1 : ((bg : Int) == k) = false := by simp; omega
          have hb2 : (bg == k) = false := by simp; omega
          have hbc : bg < r.length ∧ 0 < bg ∧ (bg - 1) / 2 = k := by have := HG.out.1.resolve_left hb; rw [HL.out] at this; exact this
          obtain ⟨hb3, hb4, hb5⟩ := hbc
          have hkr : k < r.length := by omega
          have hkb : k < bg := by omega
          obtain ⟨_, _, _, e3, _, _, f3⟩ := three100 HQ.out.blk
          obtain ⟨hg1, -, -, hcell⟩ := own_cells HQ.out.own
          obtain ⟨ck, fk⟩ := hcell bg (by rw [HL.out]; omega)
          obtain ⟨cu, fu⟩ := hcell k (by rw [HL.out]; omega)
          clear hcell
          have HS := Lib.hid (HD.out.step (by rw [HL.out]; omega) (by rw [HL.out]; omega) hb4 hb5 HG.out.2.1 HG.out.all)
          have HQ3 := Lib.hid (HQ.out.swap (i := bg) (j := k) (by rw [HL.out]; omega) (by rw [HL.out]; omega))
          have HL3 : Hid ((Hp.swap l bg k).length = r.length) := Lib.hid (by rw [Hp.swap_len, HL.out])
          have HR3 := Lib.hid ((Hp.swap_perm (l := l) (i := bg) (j := k) (by rw [HL.out]; omega) (by rw [HL.out]; omega)).trans HR.out)
          clear HQ HG hb hb5 HR HD HL
          go_wp2_with fail
          go_region
          go_wp2_with fail
          go_roundw
          case rel => exact ⟨bg, _, rfl, by omega, HL3, HS, HR3, Lib.hid (HQ3.out.drewN 1)⟩
          case measure => simp [intOf]; omega
end Go.Proofs.Ytcpmnocknpalfaa
