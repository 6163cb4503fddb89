/-
  Walks of layer 27: Tokens, the program's. No condition.
-/
import Derived.Test.YtolahnnkdpbdfaaL6
import Derived.Test.YtolahnnkdpbdfaaL7
import Derived.Test.YtolahnnkdpbdfaaRow
import Derived.Outline
namespace Go.Proofs.Ytolahnnkdpbdfaa
open Go.RowKit Go.Sl

def eTok (t : Lex.Tok) : List Value := [.int .i64 (t.1 : Nat), .string (bstr t.2.1), .int .i64 (t.2.2 : Nat)]
theorem len_eTok (t : Lex.Tok) : (eTok t).length = 3 := rfl
theorem one_eTok (t : Lex.Tok) : ∀ u ∈ eTok t, u.oneCell' = true := by simp [eTok, Value.oneCell']
theorem cells33 : Try.prog.cellsOf 33 = 3 := by kernel_rfl
theorem some33 : (Try.prog.info? 33).isSome = true := by kernel_rfl
theorem info33 : (Try.prog.info? 33).map (fun i => (i.zero, i.size, i.bytes)) = some (some (.agg #[.int .i64 0, .string .empty, .int .i64 0]), 3, 32) := by kernel_rfl
theorem three_cells {w : World} {g : Nat} {a b c : Value} {e : TypeId} (h : w.heap[g]? = some (.cells #[a, b, c] e (0, 0))) :
    g < w.heap.size ∧ w.cell? ⟨g, 0, none⟩ = some a ∧ w.cell? ⟨g, 1, none⟩ = some b ∧ w.cell? ⟨g, 2, none⟩ = some c :=
  ⟨(Array.getElem?_eq_some_iff.1 h).1, by simp [World.cell?, h], by simp [World.cell?, h], by simp [World.cell?, h]⟩

/-- what Tokens returns -/
def TokPost (t : TypeId) (w : World) (o : Except (Nat × Nat) (List Lex.Tok)) (e : Ending) (w' : World) : Prop :=
  Below w.heap.size w w' ∧ match o with
  | .error c => e = .returned (.tuple #[.slice none 0 0, .int .i64 (c.1 : Nat), .int .i64 (c.2 : Nat)])
  | .ok l => ∃ r, e = .returned (.tuple #[r, .int .i64 0, .int .i64 0]) ∧ Own eTok 3 w.heap.size t w' r l
theorem TokPost.err {t : TypeId} {w w' : World} {o : Except (Nat × Nat) (List Lex.Tok)} {p c : Nat} (ho : o = .error (p, c)) (hb : Below w.heap.size w w') {x y : Int} (hx : x = p) (hy : y = c) : TokPost t w o (.returned (.tuple #[.slice none 0 0, .int .i64 x, .int .i64 y])) w' := by
  subst ho hx hy; exact ⟨hb, rfl⟩
theorem TokPost.good {t : TypeId} {w w' : World} {o : Except (Nat × Nat) (List Lex.Tok)} {l : List Lex.Tok} {r : Value} (ho : o = .ok l) (hb : Below w.heap.size w w') (h : Own eTok 3 w.heap.size t w' r l) : TokPost t w o (.returned (.tuple #[r, .int .i64 0, .int .i64 0])) w' := by
  subst ho; exact ⟨hb, _, rfl, h⟩

set_option maxRecDepth 100000 in
set_option maxHeartbeats 2000000 in
theorem tokens_any (l : List UInt8) (w : World) (hl : l.length ≤ 9223372036854775807) : Calls Try.prog 13 #[.string (bstr l)] w (TokPost 33 w (Lex.tokens Lex.one l)) := by
  by_cases hlong : 200 < l.length
  · have HF : Hid (Lex.tokens Lex.one l = .error (0, 3)) := Lib.hid (by unfold Lex.tokens; rw [if_pos hlong])
    go_enter Try.func13, Try.ntmps13
    go_wp2_with fail
    go_ret3
    exact TokPost.err HF.out (Below.refl _ _) rfl rfl
  · have HF : Hid (Lex.tokens Lex.one l = Lex.pre [] (Lex.tkG Lex.one (l.length + 1) l 0 0)) := Lib.hid (by unfold Lex.tokens; rw [if_neg hlong, Lex.pre_nil])
    clear hl
    go_enter Try.func13, Try.ntmps13
    go_wp2_with fail
    go_loopw [5, 6] (fun o p wr => ∃ (q : Nat) (out : List Lex.Tok), q ≤ l.length ∧ p = .int .i64 q ∧ out.length ≤ 60 ∧ Hid (Lex.tokens Lex.one l = Lex.pre out (Lex.tkG Lex.one (l.length - q + 1) (l.drop q) q out.length)) ∧
      Hid (Own eTok 3 w.heap.size 33 wr o out) ∧ Hid (Below w.heap.size w wr) ∧ w.heap.size ≤ wr.heap.size) (fun _ p _ => l.length + 1 - (intOf p).toNat)
    case atStart => exact ⟨0, [], by omega, rfl, by simp, HF, Lib.hid (Own.nil _ _ _ _ _), Lib.hid (Below.refl _ _), by omega⟩
    case round =>
      obtain ⟨q, out, hq, rfl, hout, HT, HO, HB, hsz⟩ := hrel
      have hlo := (HO.out.sl len_eTok).run_len (P := Try.prog) Try.underlying23
      have HNe := Lib.hid (HO.out.ne (g := wr.heap.size) (.inr (Nat.le_refl _)))
      by_cases hlt : q < l.length
      · obtain ⟨⟨kd, n⟩, hon⟩ : ∃ x, Lex.one (l.drop q) = x := ⟨_, rfl⟩
        have hnl := Lex.one_le (l.drop q)
        have hkd := Lex.one_kind (l.drop q)
        rw [hon, List.length_drop] at hnl
        rw [hon] at hkd
        simp only at hnl hkd
        have hne : l.drop q ≠ [] := by intro h; have := congrArg List.length h; simp at this; omega
        have HC := Lib.hid (fun u => one_any (l.drop q) kd n hon u (by simp; omega) (by simp; omega))
        by_cases hn : n = 0
        · have HE : Hid (Lex.tokens Lex.one l = .error (q, 40)) := Lib.hid (by rw [HT.out, Lex.tkG_bad hne (by rw [hon, hn])]; rfl)
          have hnb : ((n : Int) == 0) = true := by simp [hn]
          have hnb2 : (n == 0) = true := by simp [hn]
          clear hn hon hne
          go_wp2_with (go_at_call 33; go_must (refine (HC.out _).mono ?_; rintro e w' ⟨rfl, rfl⟩))
          go_ret3
          exact TokPost.err HE.out (HB.out.alloc hsz _) rfl rfl
        · have hnb : ((n : Int) == 0) = false := by simp [hn]
          have hnb2 : (n == 0) = false := by simp [hn]
          by_cases h60 : out.length = 60
          · have HE : Hid (Lex.tokens Lex.one l = .error (q, 5)) := Lib.hid (by rw [HT.out, h60, Lex.tkG_full hne hon hn]; rfl)
            have h6 : ((out.length : Int) == 60) = true := by simp [h60]
            have H60 := Lib.hid h60
            clear h60 hn hon hne
            go_wp2_with (go_at_call 33; go_must (refine (HC.out _).mono ?_; rintro e w' ⟨rfl, rfl⟩))
            go_ret3
            exact TokPost.err HE.out (HB.out.alloc hsz _) rfl rfl
          · have h6 : ((out.length : Int) == 60) = false := by simp; omega
            have HG : Hid (Lex.tokens Lex.one l = Lex.pre (out ++ [(kd, (l.drop q).take n, q)]) (Lex.tkG Lex.one (l.length - (q + n) + 1) (l.drop (q + n)) (q + n) (out ++ [(kd, (l.drop q).take n, q)]).length)) := Lib.hid (by
              rw [HT.out, Lex.tkG_go hne hon hn h60, List.drop_drop, List.length_append, List.length_singleton]
              rw [Lex.tkG_fuel Lex.one (l.length - q) (l.length - (q + n) + 1) _ _ _ (by simp; omega) (by simp)])
            have hk9 : ((kd : Int) == 9) = false := by rw [beq_eq_false_iff_ne]; omega
            have hn1 : 1 ≤ n := by omega
            clear hn hon hne
            go_wp2_with (first
              | (go_at_call 33; go_must (refine (HC.out _).mono ?_; rintro e w' ⟨rfl, rfl⟩))
              | (at_builtin; go_must (refine wpList_append rfl _ _ _ rfl _ 32 Try.underlying23 info33 rfl (by omega) len_eTok one_eTok _ _ out [(kd, (l.drop q).take n, q)] (by rfl) ((HO.out.alloc _).alloc _) (by rfl) (Sl.fresh len_eTok (by simp) rfl rfl (by simp [maxLen])) (by simp only [maxLen, List.length_cons, List.length_nil]; omega) (by simp only [List.length_cons, List.length_nil]; omega) (by simp; omega) ?_; intro v1 w1 hown1 hgr1 hb1; have HO1 := Lib.hid hown1; have HB1 := Lib.hid (((HB.out.alloc hsz _).alloc (by simp; omega) _).trans hb1); have HXb := Lib.hid (grown_heap hgr1 (heap_keep (heap_alloc_new _ _)) HNe.out); obtain ⟨_, y0, y1, y2⟩ := three_cells HXb.out; clear hown1 hb1 hgr1)))
            go_roundw
            case rel =>
              refine ⟨q + n, _, by omega, ?_, ?_, HG, HO1, HB1, HB1.out.size⟩
              · congr 1; try (simp only [List.length_take, List.length_drop]; omega)
              · simp only [List.length_append, List.length_cons, List.length_nil]; rw [beq_eq_false_iff_ne] at h6; omega
            case measure => simp [intOf]; omega
      · obtain rfl : q = l.length := by omega
        have HT2 : Hid (Lex.tokens Lex.one l = Lex.pre out (if out.length = 60 then .error (l.length, 5) else .ok [(9, [], l.length)])) := Lib.hid (by
          rw [HT.out, List.drop_eq_nil_of_le (Nat.le_refl _), Lex.tkG_end])
        by_cases h60 : out.length = 60
        · have HE : Hid (Lex.tokens Lex.one l = .error (l.length, 5)) := Lib.hid (by rw [HT2.out, if_pos h60]; rfl)
          have h6 : ((out.length : Int) == 60) = true := by simp [h60]
          clear h60
          go_wp2_with fail
          go_ret3
          exact TokPost.err HE.out (HB.out.alloc hsz _) rfl rfl
        · have HE : Hid (Lex.tokens Lex.one l = .ok (out ++ [(9, [], l.length)])) := Lib.hid (by rw [HT2.out, if_neg h60]; rfl)
          have h6 : ((out.length : Int) == 60) = false := by simp; omega
          clear h60
          go_wp2_with (at_builtin; go_must (refine wpList_append rfl _ _ _ rfl _ 32 Try.underlying23 info33 rfl (by omega) len_eTok one_eTok _ _ out [(9, [], l.length)] (by rfl) ((HO.out.alloc _).alloc _) (by rfl) (Sl.fresh len_eTok (by simp) rfl rfl (by simp [maxLen])) (by simp only [maxLen, List.length_cons, List.length_nil]; omega) (by simp only [List.length_cons, List.length_nil]; omega) (by simp; omega) ?_; intro v1 w1 hown1 hgr1 hb1; have HO1 := Lib.hid hown1; have HB1 := Lib.hid (((HB.out.alloc hsz _).alloc (by simp; omega) _).trans hb1); have HXb := Lib.hid (grown_heap hgr1 (heap_keep (heap_alloc_new _ _)) HNe.out); obtain ⟨_, y0, y1, y2⟩ := three_cells HXb.out; clear hown1 hb1 hgr1))
          go_ret3
          exact TokPost.good HE.out HB1.out HO1.out
end Go.Proofs.Ytolahnnkdpbdfaa
