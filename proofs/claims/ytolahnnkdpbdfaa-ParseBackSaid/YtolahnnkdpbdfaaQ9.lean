/-
  LexCuts: what the program answers, the document's. No condition.
-/
import Derived.Test.YtolahnnkdpbdfaaQ8

namespace Go.Proofs.Ytolahnnkdpbdfaa
open Go.RowKit Go.Sl

theorem both_tokens (l : List UInt8) : Lex.tokens Lex.one l = Lex.tokens Lex.first l := Lex.tokens_same (fun r hr => Lex.one_first r hr) l

set_option maxHeartbeats 1000000 in
set_option maxRecDepth 100000 in
theorem cuts_any (s : ByteArray) (w : World) : Calls Try.prog 3 #[.string s] w fun e w' => e = .returned (.bool true) ∧ Below w.heap.size w w' := by
  obtain ⟨l, rfl, -⟩ := bstr_of s
  by_cases hlong : 400 < l.length
  · go_enter Try.func3, Try.ntmps3
    go_wp2_with (go_at_call 12; go_must (refine (works_any _).mono ?_; rintro e w' ⟨rfl, hb⟩; have HB := Lib.hid hb; clear hb))
    go_ret
    exact ⟨rfl, HB.out⟩
  · obtain ⟨o, ho⟩ : ∃ o, Lex.tokens Lex.one l = o := ⟨_, rfl⟩
    have HT1 := Lib.hid (fun u => ho ▸ tokens_any l u (by omega))
    have HT2 := Lib.hid (fun u => (both_tokens l ▸ ho) ▸ rtokens_any l u (by omega))
    clear ho
    cases o with
    | error c =>
      obtain ⟨p, c⟩ := c
      go_enter Try.func3, Try.ntmps3
      go_wp2_with (first
        | (go_at_call 13; go_must (refine (HT1.out _).mono ?_; rintro e w' ⟨hb1, rfl⟩; have HB1 := Lib.hid hb1; clear hb1))
        | (go_at_call 14; go_must (refine (HT2.out _).mono ?_; rintro e w' ⟨hb2, rfl⟩; have HB2 := Lib.hid (HB1.out.trans (hb2.mono HB1.out.size)); clear hb2))
        | (go_at_call 15; go_must (refine (same_any _ _ [] [] _ (Sl.nil _ _ _) (Sl.nil _ _ _)).mono ?_; rintro e w' ⟨rfl, n, rfl⟩))
        | (go_at_call 12; go_must (refine (works_any _).mono ?_; rintro e w' ⟨rfl, hb3⟩; have HB3 := Lib.hid hb3; clear hb3)))
      go_ret
      exact ⟨rfl, (below_drewN HB2.out n).trans (HB3.out.mono HB2.out.size)⟩
    | ok m =>
      go_enter Try.func3, Try.ntmps3
      go_wp2_with (first
        | (go_at_call 13; go_must (refine (HT1.out _).mono ?_; rintro e w' ⟨hb1, r1, rfl, ho1⟩; have HB1 := Lib.hid hb1; have HO1 := Lib.hid (ho1.sl len_eTok); clear hb1 ho1))
        | (go_at_call 14; go_must (refine (HT2.out _).mono ?_; rintro e w' ⟨hb2, r2, rfl, ho2⟩; have HS1 := Lib.hid (HO1.out.ext hb2); have HB2 := Lib.hid (HB1.out.trans (hb2.mono HB1.out.size)); have HO2 := Lib.hid (ho2.sl len_eTok); clear hb2 ho2))
        | (go_at_call 15; go_must (refine (same_any _ _ m m _ HS1.out HO2.out).mono ?_; rintro e w' ⟨rfl, n, rfl⟩))
        | (go_at_call 12; go_must (refine (works_any _).mono ?_; rintro e w' ⟨rfl, hb3⟩; have HB3 := Lib.hid hb3; clear hb3)))
      go_ret
      exact ⟨rfl, (below_drewN HB2.out n).trans (HB3.out.mono HB2.out.size)⟩
end Go.Proofs.Ytolahnnkdpbdfaa
