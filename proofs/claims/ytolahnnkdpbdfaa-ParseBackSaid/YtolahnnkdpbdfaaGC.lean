/-
  Layer 28: a flag, the program's walk. No condition besides what lies where.
  Layer 28: a question in plain Lean; how its items lie. No condition besides what lies where.
  Layer 28: a question, the program's walk. No condition besides what lies where.
-/
import Derived.Test.YtolahnnkdpbdfaaGB
import Derived.Deep.DeepCutAuto
import Derived.Deep.RegionLaw
import Derived.Deep.RegionHeld3
namespace Go.Proofs.Ytolahnnkdpbdfaa
open Go.Proofs Go.RowKit Go.Shelf Go.Sl Go.Prs
set_option maxRecDepth 100000 in
set_option maxHeartbeats 8000000 in
theorem pflag_any (b : Nat) (iv : Value) (q : Qy) (nt : Bool) (l : List Lex.Tok) (w : World) (h : Pz b w (rst iv q nt) l) (ht : Tl l) (hk : kd l ≠ 9) (hm : Ml w) :
    Calls Try.prog 72 #[.pointer (some ⟨b, 0, none⟩)] w (FlP b w iv q nt l) := by
  have HP := Lib.hid h
  have HT := Lib.hid ht
  have HT0 := Lib.hid (ht.tail hk)
  have hlen := ht.len
  obtain ⟨lv, b5, o5, hc, h5, hix, _, e1, _⟩ := h.tok ht.ne
  obtain ⟨wd, dg, hs, hcut⟩ : ∃ a c t, Lib.cut (tx l) [61] = (a, c, t) := ⟨_, _, _, rfl⟩
  have HC := Lib.hid (cut_any (tx l) (by omega) w hm hcut)
  obtain ⟨n, is, hn⟩ : ∃ n t, Lex.count dg = (n, t) := ⟨_, _, rfl⟩
  have hdl := (cut_len (tx l)).2
  rw [hcut] at hdl
  have HD := Lib.hid (fun u => count_any dg n is hn u (by have : dg.length ≤ (tx l).length := hdl; omega))
  have HF := Lib.hid (flg_cut hcut hn q nt)
  have HN := Lib.hid (fun e : hs = false => (by subst e; have := hn.symm.trans (cut_no hcut); exact (Prod.mk.inj this).2 : is = false))
  clear h ht hk hm hcut hn hdl
  obtain ⟨t0, r0, rfl⟩ := HT.out.cons
  go_enter Try.func72, Try.ntmps72
  go_wp2_with fail
  refine HC.out.mono ?_
  rintro e w1 ⟨rfl, hb⟩
  have HP1 := Lib.hid (HP.out.ext hb)
  have HG1 := Lib.hid (grown_below (b := b) hb)
  clear hb hc e1 HC
  go_wp2_with fail
  refine (HD.out _).mono ?_
  rintro e w' ⟨rfl, rfl⟩
  clear HD hix h5
  obtain ⟨g1, g2, g3, g4, g5, g6, g7⟩ := HP1.out.cells
  have gf := bk_frozen HP1.out.bk
  have HX := Lib.hid (HP1.out.fail HT.out.ne)
  cases hs with
  | true =>
    cases is with
    | true =>
      by_cases hm : wd = fMax
      · have cm : (wd == [45, 45, 109, 97, 120]) = true := by rw [hm]; rfl
        have cs : (wd == [45, 45, 115, 107, 105, 112]) = false := by rw [hm]; rfl
        have cn : (wd == [45, 45, 110, 111, 116]) = false := by rw [hm]; rfl
        have cd : (wd == [45, 45, 100, 97, 116, 101]) = false := by rw [hm]; rfl
        have co : (wd == [45, 45, 116, 111, 112, 111]) = false := by rw [hm]; rfl
        have ci : (wd == [45, 45, 116, 105, 109, 101]) = false := by rw [hm]; rfl
        have cf : (wd == [45, 45, 102, 105, 114, 115, 116]) = false := by rw [hm]; rfl
        have cr : (wd == [45, 45, 114, 101, 118, 101, 114, 115, 101]) = false := by rw [hm]; rfl
        have HE : Hid (flg (tx (t0 :: r0)) q nt = some ({ q with mx := (n : Nat) }, nt)) := Lib.hid (by rw [HF.out]; simp [hm])
        clear hm
        have HPs := Lib.hid (HP1.out.put 1 (.int .i64 (n : Nat)))
        have hTk := Lib.hid HPs.out.take
        go_wp2_with fail
        refine hTk.out.mono ?_
        rintro e w3 ⟨rfl, hp3, hg3⟩
        have HG3 := Lib.hid (grown_trans (grown_trans HG1.out (grown_set w1 ⟨b, 1 + 1, none⟩ (.int .i64 (n : Nat)))) hg3)
        have HP3 := Lib.hid hp3
        clear hp3 hg3
        go_wp2_with fail
        exact bodyPost_ret (v := .tuple #[]) (by simp [results, Try.results72, go_sem]) rfl (FlP.is HE.out HG3.out HP3.out HT0.out)
      · by_cases hs : wd = fSkip
        · have cm : (wd == [45, 45, 109, 97, 120]) = false := by rw [hs]; rfl
          have cs : (wd == [45, 45, 115, 107, 105, 112]) = true := by rw [hs]; rfl
          have cn : (wd == [45, 45, 110, 111, 116]) = false := by rw [hs]; rfl
          have cd : (wd == [45, 45, 100, 97, 116, 101]) = false := by rw [hs]; rfl
          have co : (wd == [45, 45, 116, 111, 112, 111]) = false := by rw [hs]; rfl
          have ci : (wd == [45, 45, 116, 105, 109, 101]) = false := by rw [hs]; rfl
          have cf : (wd == [45, 45, 102, 105, 114, 115, 116]) = false := by rw [hs]; rfl
          have cr : (wd == [45, 45, 114, 101, 118, 101, 114, 115, 101]) = false := by rw [hs]; rfl
          have HE : Hid (flg (tx (t0 :: r0)) q nt = some ({ q with sk := (n : Nat) }, nt)) := Lib.hid (by rw [HF.out]; simp [hs])
          clear hm hs
          have HPs := Lib.hid (HP1.out.put 2 (.int .i64 (n : Nat)))
          have hTk := Lib.hid HPs.out.take
          go_wp2_with fail
          refine hTk.out.mono ?_
          rintro e w3 ⟨rfl, hp3, hg3⟩
          have HG3 := Lib.hid (grown_trans (grown_trans HG1.out (grown_set w1 ⟨b, 2 + 1, none⟩ (.int .i64 (n : Nat)))) hg3)
          have HP3 := Lib.hid hp3
          clear hp3 hg3
          go_wp2_with fail
          exact bodyPost_ret (v := .tuple #[]) (by simp [results, Try.results72, go_sem]) rfl (FlP.is HE.out HG3.out HP3.out HT0.out)
        · have cm : (wd == [45, 45, 109, 97, 120]) = false := beq_eq_false_iff_ne.2 hm
          have cs : (wd == [45, 45, 115, 107, 105, 112]) = false := beq_eq_false_iff_ne.2 hs
          have HE : Hid (flg (tx (t0 :: r0)) q nt = none) := Lib.hid (by rw [HF.out]; simp [hm, hs])
          clear hm hs
          go_wp2_with fail
          refine HX.out.mono ?_
          rintro e w3 ⟨rfl, rfl⟩
          exact ⟨rfl, FlP.no HE.out HG1.out⟩
    | false =>
      by_cases hm : wd = fMax
      · have cm : (wd == [45, 45, 109, 97, 120]) = true := by rw [hm]; rfl
        have cs : (wd == [45, 45, 115, 107, 105, 112]) = false := by rw [hm]; rfl
        have cn : (wd == [45, 45, 110, 111, 116]) = false := by rw [hm]; rfl
        have cd : (wd == [45, 45, 100, 97, 116, 101]) = false := by rw [hm]; rfl
        have co : (wd == [45, 45, 116, 111, 112, 111]) = false := by rw [hm]; rfl
        have ci : (wd == [45, 45, 116, 105, 109, 101]) = false := by rw [hm]; rfl
        have cf : (wd == [45, 45, 102, 105, 114, 115, 116]) = false := by rw [hm]; rfl
        have cr : (wd == [45, 45, 114, 101, 118, 101, 114, 115, 101]) = false := by rw [hm]; rfl
        have HE : Hid (flg (tx (t0 :: r0)) q nt = none) := Lib.hid (by rw [HF.out]; simp [hm])
        clear hm
        go_wp2_with fail
        refine HX.out.mono ?_
        rintro e w3 ⟨rfl, rfl⟩
        exact ⟨rfl, FlP.no HE.out HG1.out⟩
      · by_cases hs : wd = fSkip
        · have cm : (wd == [45, 45, 109, 97, 120]) = false := by rw [hs]; rfl
          have cs : (wd == [45, 45, 115, 107, 105, 112]) = true := by rw [hs]; rfl
          have cn : (wd == [45, 45, 110, 111, 116]) = false := by rw [hs]; rfl
          have cd : (wd == [45, 45, 100, 97, 116, 101]) = false := by rw [hs]; rfl
          have co : (wd == [45, 45, 116, 111, 112, 111]) = false := by rw [hs]; rfl
          have ci : (wd == [45, 45, 116, 105, 109, 101]) = false := by rw [hs]; rfl
          have cf : (wd == [45, 45, 102, 105, 114, 115, 116]) = false := by rw [hs]; rfl
          have cr : (wd == [45, 45, 114, 101, 118, 101, 114, 115, 101]) = false := by rw [hs]; rfl
          have HE : Hid (flg (tx (t0 :: r0)) q nt = none) := Lib.hid (by rw [HF.out]; simp [hs])
          clear hm hs
          go_wp2_with fail
          refine HX.out.mono ?_
          rintro e w3 ⟨rfl, rfl⟩
          exact ⟨rfl, FlP.no HE.out HG1.out⟩
        · have cm : (wd == [45, 45, 109, 97, 120]) = false := beq_eq_false_iff_ne.2 hm
          have cs : (wd == [45, 45, 115, 107, 105, 112]) = false := beq_eq_false_iff_ne.2 hs
          have HE : Hid (flg (tx (t0 :: r0)) q nt = none) := Lib.hid (by rw [HF.out]; simp [hm, hs])
          clear hm hs
          go_wp2_with fail
          refine HX.out.mono ?_
          rintro e w3 ⟨rfl, rfl⟩
          exact ⟨rfl, FlP.no HE.out HG1.out⟩
  | false =>
    obtain rfl := HN.out rfl
    by_cases hm : wd = fMax
    · have cm : (wd == [45, 45, 109, 97, 120]) = true := by rw [hm]; rfl
      have cs : (wd == [45, 45, 115, 107, 105, 112]) = false := by rw [hm]; rfl
      have cn : (wd == [45, 45, 110, 111, 116]) = false := by rw [hm]; rfl
      have cd : (wd == [45, 45, 100, 97, 116, 101]) = false := by rw [hm]; rfl
      have co : (wd == [45, 45, 116, 111, 112, 111]) = false := by rw [hm]; rfl
      have ci : (wd == [45, 45, 116, 105, 109, 101]) = false := by rw [hm]; rfl
      have cf : (wd == [45, 45, 102, 105, 114, 115, 116]) = false := by rw [hm]; rfl
      have cr : (wd == [45, 45, 114, 101, 118, 101, 114, 115, 101]) = false := by rw [hm]; rfl
      have HE : Hid (flg (tx (t0 :: r0)) q nt = none) := Lib.hid (by rw [HF.out]; simp [hm])
      clear hm
      go_wp2_with fail
      refine HX.out.mono ?_
      rintro e w3 ⟨rfl, rfl⟩
      exact ⟨rfl, FlP.no HE.out HG1.out⟩
    · by_cases hs : wd = fSkip
      · have cm : (wd == [45, 45, 109, 97, 120]) = false := by rw [hs]; rfl
        have cs : (wd == [45, 45, 115, 107, 105, 112]) = true := by rw [hs]; rfl
        have cn : (wd == [45, 45, 110, 111, 116]) = false := by rw [hs]; rfl
        have cd : (wd == [45, 45, 100, 97, 116, 101]) = false := by rw [hs]; rfl
        have co : (wd == [45, 45, 116, 111, 112, 111]) = false := by rw [hs]; rfl
        have ci : (wd == [45, 45, 116, 105, 109, 101]) = false := by rw [hs]; rfl
        have cf : (wd == [45, 45, 102, 105, 114, 115, 116]) = false := by rw [hs]; rfl
        have cr : (wd == [45, 45, 114, 101, 118, 101, 114, 115, 101]) = false := by rw [hs]; rfl
        have HE : Hid (flg (tx (t0 :: r0)) q nt = none) := Lib.hid (by rw [HF.out]; simp [hs])
        clear hm hs
        go_wp2_with fail
        refine HX.out.mono ?_
        rintro e w3 ⟨rfl, rfl⟩
        exact ⟨rfl, FlP.no HE.out HG1.out⟩
      · by_cases hn : wd = fNot
        · have cm : (wd == [45, 45, 109, 97, 120]) = false := by rw [hn]; rfl
          have cs : (wd == [45, 45, 115, 107, 105, 112]) = false := by rw [hn]; rfl
          have cn : (wd == [45, 45, 110, 111, 116]) = true := by rw [hn]; rfl
          have cd : (wd == [45, 45, 100, 97, 116, 101]) = false := by rw [hn]; rfl
          have co : (wd == [45, 45, 116, 111, 112, 111]) = false := by rw [hn]; rfl
          have ci : (wd == [45, 45, 116, 105, 109, 101]) = false := by rw [hn]; rfl
          have cf : (wd == [45, 45, 102, 105, 114, 115, 116]) = false := by rw [hn]; rfl
          have cr : (wd == [45, 45, 114, 101, 118, 101, 114, 115, 101]) = false := by rw [hn]; rfl
          have HE : Hid (flg (tx (t0 :: r0)) q nt = some (q, !nt)) := Lib.hid (by rw [HF.out]; simp [hn])
          clear hm hs hn
          have HPs := Lib.hid (HP1.out.put 6 (.bool !nt))
          have hTk := Lib.hid HPs.out.take
          go_wp2_with fail
          refine hTk.out.mono ?_
          rintro e w3 ⟨rfl, hp3, hg3⟩
          have HG3 := Lib.hid (grown_trans (grown_trans HG1.out (grown_set w1 ⟨b, 6 + 1, none⟩ (.bool !nt))) hg3)
          have HP3 := Lib.hid hp3
          clear hp3 hg3
          go_wp2_with fail
          exact bodyPost_ret (v := .tuple #[]) (by simp [results, Try.results72, go_sem]) rfl (FlP.is HE.out HG3.out HP3.out HT0.out)
        · by_cases hd : wd = fDate
          · have cm : (wd == [45, 45, 109, 97, 120]) = false := by rw [hd]; rfl
            have cs : (wd == [45, 45, 115, 107, 105, 112]) = false := by rw [hd]; rfl
            have cn : (wd == [45, 45, 110, 111, 116]) = false := by rw [hd]; rfl
            have cd : (wd == [45, 45, 100, 97, 116, 101]) = true := by rw [hd]; rfl
            have co : (wd == [45, 45, 116, 111, 112, 111]) = false := by rw [hd]; rfl
            have ci : (wd == [45, 45, 116, 105, 109, 101]) = false := by rw [hd]; rfl
            have cf : (wd == [45, 45, 102, 105, 114, 115, 116]) = false := by rw [hd]; rfl
            have cr : (wd == [45, 45, 114, 101, 118, 101, 114, 115, 101]) = false := by rw [hd]; rfl
            have HE : Hid (flg (tx (t0 :: r0)) q nt = some ({ q with od := 0 }, nt)) := Lib.hid (by rw [HF.out]; simp [hd])
            clear hm hs hn hd
            have HPs := Lib.hid (HP1.out.put 3 (.int .i64 0))
            have hTk := Lib.hid HPs.out.take
            go_wp2_with fail
            refine hTk.out.mono ?_
            rintro e w3 ⟨rfl, hp3, hg3⟩
            have HG3 := Lib.hid (grown_trans (grown_trans HG1.out (grown_set w1 ⟨b, 3 + 1, none⟩ (.int .i64 0))) hg3)
            have HP3 := Lib.hid hp3
            clear hp3 hg3
            go_wp2_with fail
            exact bodyPost_ret (v := .tuple #[]) (by simp [results, Try.results72, go_sem]) rfl (FlP.is HE.out HG3.out HP3.out HT0.out)
          · by_cases ho : wd = fTopo
            · have cm : (wd == [45, 45, 109, 97, 120]) = false := by rw [ho]; rfl
              have cs : (wd == [45, 45, 115, 107, 105, 112]) = false := by rw [ho]; rfl
              have cn : (wd == [45, 45, 110, 111, 116]) = false := by rw [ho]; rfl
              have cd : (wd == [45, 45, 100, 97, 116, 101]) = false := by rw [ho]; rfl
              have co : (wd == [45, 45, 116, 111, 112, 111]) = true := by rw [ho]; rfl
              have ci : (wd == [45, 45, 116, 105, 109, 101]) = false := by rw [ho]; rfl
              have cf : (wd == [45, 45, 102, 105, 114, 115, 116]) = false := by rw [ho]; rfl
              have cr : (wd == [45, 45, 114, 101, 118, 101, 114, 115, 101]) = false := by rw [ho]; rfl
              have HE : Hid (flg (tx (t0 :: r0)) q nt = some ({ q with od := 1 }, nt)) := Lib.hid (by rw [HF.out]; simp [ho])
              clear hm hs hn hd ho
              have HPs := Lib.hid (HP1.out.put 3 (.int .i64 1))
              have hTk := Lib.hid HPs.out.take
              go_wp2_with fail
              refine hTk.out.mono ?_
              rintro e w3 ⟨rfl, hp3, hg3⟩
              have HG3 := Lib.hid (grown_trans (grown_trans HG1.out (grown_set w1 ⟨b, 3 + 1, none⟩ (.int .i64 1))) hg3)
              have HP3 := Lib.hid hp3
              clear hp3 hg3
              go_wp2_with fail
              exact bodyPost_ret (v := .tuple #[]) (by simp [results, Try.results72, go_sem]) rfl (FlP.is HE.out HG3.out HP3.out HT0.out)
            · by_cases hi : wd = fTime
              · have cm : (wd == [45, 45, 109, 97, 120]) = false := by rw [hi]; rfl
                have cs : (wd == [45, 45, 115, 107, 105, 112]) = false := by rw [hi]; rfl
                have cn : (wd == [45, 45, 110, 111, 116]) = false := by rw [hi]; rfl
                have cd : (wd == [45, 45, 100, 97, 116, 101]) = false := by rw [hi]; rfl
                have co : (wd == [45, 45, 116, 111, 112, 111]) = false := by rw [hi]; rfl
                have ci : (wd == [45, 45, 116, 105, 109, 101]) = true := by rw [hi]; rfl
                have cf : (wd == [45, 45, 102, 105, 114, 115, 116]) = false := by rw [hi]; rfl
                have cr : (wd == [45, 45, 114, 101, 118, 101, 114, 115, 101]) = false := by rw [hi]; rfl
                have HE : Hid (flg (tx (t0 :: r0)) q nt = some ({ q with od := 2 }, nt)) := Lib.hid (by rw [HF.out]; simp [hi])
                clear hm hs hn hd ho hi
                have HPs := Lib.hid (HP1.out.put 3 (.int .i64 2))
                have hTk := Lib.hid HPs.out.take
                go_wp2_with fail
                refine hTk.out.mono ?_
                rintro e w3 ⟨rfl, hp3, hg3⟩
                have HG3 := Lib.hid (grown_trans (grown_trans HG1.out (grown_set w1 ⟨b, 3 + 1, none⟩ (.int .i64 2))) hg3)
                have HP3 := Lib.hid hp3
                clear hp3 hg3
                go_wp2_with fail
                exact bodyPost_ret (v := .tuple #[]) (by simp [results, Try.results72, go_sem]) rfl (FlP.is HE.out HG3.out HP3.out HT0.out)
              · by_cases hf : wd = fFirst
                · have cm : (wd == [45, 45, 109, 97, 120]) = false := by rw [hf]; rfl
                  have cs : (wd == [45, 45, 115, 107, 105, 112]) = false := by rw [hf]; rfl
                  have cn : (wd == [45, 45, 110, 111, 116]) = false := by rw [hf]; rfl
                  have cd : (wd == [45, 45, 100, 97, 116, 101]) = false := by rw [hf]; rfl
                  have co : (wd == [45, 45, 116, 111, 112, 111]) = false := by rw [hf]; rfl
                  have ci : (wd == [45, 45, 116, 105, 109, 101]) = false := by rw [hf]; rfl
                  have cf : (wd == [45, 45, 102, 105, 114, 115, 116]) = true := by rw [hf]; rfl
                  have cr : (wd == [45, 45, 114, 101, 118, 101, 114, 115, 101]) = false := by rw [hf]; rfl
                  have HE : Hid (flg (tx (t0 :: r0)) q nt = some ({ q with fi := true }, nt)) := Lib.hid (by rw [HF.out]; simp [hf])
                  clear hm hs hn hd ho hi hf
                  have HPs := Lib.hid (HP1.out.put 4 (.bool true))
                  have hTk := Lib.hid HPs.out.take
                  go_wp2_with fail
                  refine hTk.out.mono ?_
                  rintro e w3 ⟨rfl, hp3, hg3⟩
                  have HG3 := Lib.hid (grown_trans (grown_trans HG1.out (grown_set w1 ⟨b, 4 + 1, none⟩ (.bool true))) hg3)
                  have HP3 := Lib.hid hp3
                  clear hp3 hg3
                  go_wp2_with fail
                  exact bodyPost_ret (v := .tuple #[]) (by simp [results, Try.results72, go_sem]) rfl (FlP.is HE.out HG3.out HP3.out HT0.out)
                · by_cases hr : wd = fRev
                  · have cm : (wd == [45, 45, 109, 97, 120]) = false := by rw [hr]; rfl
                    have cs : (wd == [45, 45, 115, 107, 105, 112]) = false := by rw [hr]; rfl
                    have cn : (wd == [45, 45, 110, 111, 116]) = false := by rw [hr]; rfl
                    have cd : (wd == [45, 45, 100, 97, 116, 101]) = false := by rw [hr]; rfl
                    have co : (wd == [45, 45, 116, 111, 112, 111]) = false := by rw [hr]; rfl
                    have ci : (wd == [45, 45, 116, 105, 109, 101]) = false := by rw [hr]; rfl
                    have cf : (wd == [45, 45, 102, 105, 114, 115, 116]) = false := by rw [hr]; rfl
                    have cr : (wd == [45, 45, 114, 101, 118, 101, 114, 115, 101]) = true := by rw [hr]; rfl
                    have HE : Hid (flg (tx (t0 :: r0)) q nt = some ({ q with rv := true }, nt)) := Lib.hid (by rw [HF.out]; simp [hr])
                    clear hm hs hn hd ho hi hf hr
                    have HPs := Lib.hid (HP1.out.put 5 (.bool true))
                    have hTk := Lib.hid HPs.out.take
                    go_wp2_with fail
                    refine hTk.out.mono ?_
                    rintro e w3 ⟨rfl, hp3, hg3⟩
                    have HG3 := Lib.hid (grown_trans (grown_trans HG1.out (grown_set w1 ⟨b, 5 + 1, none⟩ (.bool true))) hg3)
                    have HP3 := Lib.hid hp3
                    clear hp3 hg3
                    go_wp2_with fail
                    exact bodyPost_ret (v := .tuple #[]) (by simp [results, Try.results72, go_sem]) rfl (FlP.is HE.out HG3.out HP3.out HT0.out)
                  · have cm : (wd == [45, 45, 109, 97, 120]) = false := beq_eq_false_iff_ne.2 hm
                    have cs : (wd == [45, 45, 115, 107, 105, 112]) = false := beq_eq_false_iff_ne.2 hs
                    have cn : (wd == [45, 45, 110, 111, 116]) = false := beq_eq_false_iff_ne.2 hn
                    have cd : (wd == [45, 45, 100, 97, 116, 101]) = false := beq_eq_false_iff_ne.2 hd
                    have co : (wd == [45, 45, 116, 111, 112, 111]) = false := beq_eq_false_iff_ne.2 ho
                    have ci : (wd == [45, 45, 116, 105, 109, 101]) = false := beq_eq_false_iff_ne.2 hi
                    have cf : (wd == [45, 45, 102, 105, 114, 115, 116]) = false := beq_eq_false_iff_ne.2 hf
                    have cr : (wd == [45, 45, 114, 101, 118, 101, 114, 115, 101]) = false := beq_eq_false_iff_ne.2 hr
                    have HE : Hid (flg (tx (t0 :: r0)) q nt = none) := Lib.hid (by rw [HF.out]; simp [hn, hd, ho, hi, hf, hr])
                    clear hm hs hn hd ho hi hf hr
                    go_wp2_with fail
                    refine HX.out.mono ?_
                    rintro e w3 ⟨rfl, rfl⟩
                    exact ⟨rfl, FlP.no HE.out HG1.out⟩
end Go.Proofs.Ytolahnnkdpbdfaa

namespace Go.Prs
open Go.Lex
theorem round_flag {l : List Tok} {q : Qy} {nt : Bool} {q' : Qy} {nt' : Bool} (h : kd l = 2) (hf : flg (tx l) q nt = some (q', nt')) : round l q nt = .ok (q', nt', l.tail) := by rw [round, if_pos h, hf]
theorem round_flagE {l : List Tok} {q : Qy} {nt : Bool} (h : kd l = 2) (hf : flg (tx l) q nt = none) : round l q nt = .error (pl l) := by rw [round, if_pos h, hf]
theorem round_item {l : List Tok} {q : Qy} {nt : Bool} {x : It} {r : List Tok} (h : kd l ≠ 2) (hf : item nt l = .ok (x, r)) : round l q nt = .ok ({ q with its := q.its ++ [x] }, nt, r) := by rw [round, if_neg h, hf]
theorem round_itemE {l : List Tok} {q : Qy} {nt : Bool} {p : Nat} (h : kd l ≠ 2) (hf : item nt l = .error p) : round l q nt = .error p := by rw [round, if_neg h, hf]
theorem quest_end {f : Nat} {l : List Tok} {q : Qy} {nt : Bool} (hf : l.length < f) (h : kd (skipGap l) = 9) : quest f l q nt = .ok q := by
  obtain ⟨g, rfl⟩ : ∃ g, f = g + 1 := ⟨f - 1, by omega⟩
  rw [quest, if_pos h]
theorem quest_err {f : Nat} {l : List Tok} {q : Qy} {nt : Bool} {p : Nat} (hf : l.length < f) (h : kd (skipGap l) ≠ 9) (hr : round (skipGap l) q nt = .error p) : quest f l q nt = .error p := by
  obtain ⟨g, rfl⟩ : ∃ g, f = g + 1 := ⟨f - 1, by omega⟩
  rw [quest, if_neg h, hr]
theorem quest_bad {f : Nat} {l : List Tok} {q : Qy} {nt : Bool} {q' : Qy} {nt' : Bool} {r : List Tok} (hf : l.length < f) (h : kd (skipGap l) ≠ 9) (hr : round (skipGap l) q nt = .ok (q', nt', r)) (hk : ¬(kd r = 8 ∨ kd r = 9)) : quest f l q nt = .error (pl r) := by
  obtain ⟨g, rfl⟩ : ∃ g, f = g + 1 := ⟨f - 1, by omega⟩
  rw [quest, if_neg h, hr]; simp only [if_neg hk]
theorem quest_go {f : Nat} {l : List Tok} {q : Qy} {nt : Bool} {q' : Qy} {nt' : Bool} {r : List Tok} (hf : l.length < f) (h : kd (skipGap l) ≠ 9) (hr : round (skipGap l) q nt = .ok (q', nt', r)) (hk : kd r = 8 ∨ kd r = 9) : quest f l q nt = quest (f - 1) r q' nt' := by
  obtain ⟨g, rfl⟩ : ∃ g, f = g + 1 := ⟨f - 1, by omega⟩
  rw [quest, if_neg h, hr]; simp only [if_pos hk]; rfl
theorem item_len {nt : Bool} {l : List Tok} {x : It} {r : List Tok} (h : item nt l = .ok (x, r)) : r.length + 1 ≤ l.length := by
  unfold item at h
  have ht : l.tail.length = l.length - 1 := by simp
  split at h
  · split at h
    · cases h
    · rename_i a r1 h1; cases h; have := rev_len h1; omega
  · split at h
    · split at h
      · cases h
      · rename_i a r1 h1
        have h2 := rev_len h1
        split at h
        · cases h; exact h2
        · split at h
          · split at h
            · cases h
            · rename_i b r2 h3; cases h; have := rev_len h3; simp at this; omega
          · cases h; simp; omega
    · split at h
      · cases h
      · rename_i b r1 h1; cases h; have := rev_len h1; omega
theorem skip_len (l : List Tok) : (skipGap l).length ≤ l.length := by
  unfold skipGap; split <;> simp
theorem Tl.skip {l : List Tok} (h : Tl l) : Tl (skipGap l) := by
  unfold skipGap; split
  · exact h.tail (by omega)
  · exact h
end Go.Prs
namespace Go.Proofs.Ytolahnnkdpbdfaa
open Go.Proofs Go.RowKit Go.Shelf Go.Sl Go.Prs
theorem info83 : (Try.prog.info? 83).map (fun i => (i.zero, i.size, i.bytes)) = some (some (.agg #[.int .i64 0, .string .empty, .slice none 0 0, .string .empty, .slice none 0 0, .bool false]), 6, 96) := by kernel_rfl
theorem Own.row_bk {α : Type} {en : α → List Value} {s N : Nat} {e : TypeId} {w : World} {v : Value} {l : List α} (h : Own en s N e w v l) : ∀ g, v.ownBlock = some g → Bk w e g := by
  intro g hg
  rcases h.2 with ⟨rfl, _⟩ | ⟨g', cap, cur, rfl, _, hc, _⟩
  · cases hg
  · have : g' = g := by simpa [Value.ownBlock] using hg
    subst this; exact ⟨_, hc⟩
/-- an own slice where a block of another type may be written -/
theorem Own.kept_bk {α : Type} {en : α → List Value} {s N : Nat} {e e' : TypeId} {w w' : World} {v : Value} {l : List α} (h : Own en s N e w v l) {row : Option Nat} (hg : w.grownBy w' row) (hr : ∀ g, row = some g → Bk w e' g) (hne : e' ≠ e) : Own en s N e w' v l := by
  refine h.kept hg ?_
  cases hrow : row with
  | none => cases v.ownBlock <;> simp
  | some g =>
    right
    intro e1
    exact (hr g hrow).ne (Own.row_bk h g e1) hne rfl
/-- an item as it lies, its steps in blocks of their own -/
structure ItO (N : Nat) (w : World) (r : Ri) (x : It) : Prop where
  k : r.k = x.k
  ab : r.ab = x.a.b
  av : Own eSt 3 N 103 w (sv r.av) x.a.st
  bb : r.bb = x.b.b
  bv : Own eSt 3 N 103 w (sv r.bv) x.b.st
  nt : r.nt = x.nt
def ItsO (N : Nat) (w : World) : List Ri → List It → Prop
  | [], [] => True
  | r :: rs, x :: xs => ItO N w r x ∧ ItsO N w rs xs
  | _, _ => False
theorem ItsO.map {N : Nat} {w w' : World} (hk : ∀ v x, Own eSt 3 N 103 w v x → Own eSt 3 N 103 w' v x) : ∀ {rs : List Ri} {xs : List It}, ItsO N w rs xs → ItsO N w' rs xs
  | [], [], _ => trivial
  | _ :: _, _ :: _, ⟨h1, h2⟩ => ⟨⟨h1.k, h1.ab, hk _ _ h1.av, h1.bb, hk _ _ h1.bv, h1.nt⟩, ItsO.map hk h2⟩
theorem ItsO.snoc {N : Nat} {w : World} {r : Ri} {x : It} (h : ItO N w r x) : ∀ {rs : List Ri} {xs : List It}, ItsO N w rs xs → ItsO N w (rs ++ [r]) (xs ++ [x])
  | [], [], _ => ⟨h, trivial⟩
  | _ :: _, _ :: _, ⟨h1, h2⟩ => ⟨h1, ItsO.snoc h h2⟩
theorem ItsO.len {N : Nat} {w : World} : ∀ {rs : List Ri} {xs : List It}, ItsO N w rs xs → rs.length = xs.length
  | [], [], _ => rfl
  | _ :: _, _ :: _, ⟨_, h2⟩ => by simp [ItsO.len h2]
/-- the items of a question as they lie -/
def QSt (N : Nat) (w : World) (iv : Value) (its : List It) : Prop := ∃ rs, Own eRi 6 N 83 w iv rs ∧ ItsO N w rs its
theorem QSt.nil (N : Nat) (w : World) : QSt N w (.slice none 0 0) [] := ⟨[], Own.nil _ _ _ _ _, trivial⟩
theorem QSt.kept {N : Nat} {w w' : World} {iv : Value} {its : List It} (h : QSt N w iv its) {row : Option Nat} {e : TypeId} (hg : w.grownBy w' row) (hr : ∀ g, row = some g → Bk w e g) (h1 : e ≠ 83) (h2 : e ≠ 103) : QSt N w' iv its := by
  obtain ⟨rs, ho, hi⟩ := h
  exact ⟨rs, Own.kept_bk ho hg hr h1, hi.map fun v x hv => Own.kept_bk hv hg hr h2⟩
theorem QSt.par {N : Nat} {w w' : World} {iv : Value} {its : List It} (h : QSt N w iv its) {b : Nat} (hg : w.grownBy w' (some b)) (hb : Bk w 86 b) : QSt N w' iv its :=
  h.kept hg (fun g e => by cases e; exact hb) (by decide) (by decide)
theorem QSt.ext {N : Nat} {w w' : World} {iv : Value} {its : List It} (h : QSt N w iv its) (hb : Below w.heap.size w w') : QSt N w' iv its :=
  h.kept (row := none) (e := 0) ⟨hb.os, hb.tape, hb.output, hb.size, fun k hk _ => hb.block k hk⟩ (fun _ e => by cases e) (by decide) (by decide)
/-- what a question ends with -/
def QP (N b : Nat) (w : World) (o : Except Nat Qy) (e : Ending) (w' : World) : Prop :=
  Below N w w' ∧ match o with
  | .ok q => (∃ v, e = .returned v) ∧ ∃ iv nt l, Pz b w' (rst iv q nt) l ∧ QSt N w' iv q.its
  | .error p => e = .panicked (flt p)
theorem QP.no {N b : Nat} {w w' : World} {o : Except Nat Qy} {p : Nat} (h : o = .error p) (hb : Below N w w') : QP N b w o (.panicked (flt p)) w' := by subst h; exact ⟨hb, rfl⟩
theorem QP.is {N b : Nat} {w w' : World} {o : Except Nat Qy} {q : Qy} {v : Value} {iv : Value} {nt : Bool} {l : List Lex.Tok} (h : o = .ok q) (hb : Below N w w') (hp : Pz b w' (rst iv q nt) l) (hq : QSt N w' iv q.its) : QP N b w o (.returned v) w' := by subst h; exact ⟨hb, ⟨v, rfl⟩, iv, nt, l, hp, hq⟩
theorem below_par {N b : Nat} {w w1 w2 : World} (h : Below N w w1) (hg : w1.grownBy w2 (some b)) (hN : N ≤ w.heap.size) (hb : N ≤ b) : Below N w w2 :=
  h.grown hg (Nat.le_trans hN h.size) (fun k e => by cases e; exact hb)
/-- what stands between two parts of a question -/
structure QG (N b : Nat) (w : World) (l : List Lex.Tok) (q : Qy) (nt : Bool) (iv : Value) (wr : World) : Prop where
  pz : Pz b wr (rst iv q nt) l
  tl : Tl l
  qs : QSt N wr iv q.its
  bl : Below N w wr
  ml : Ml wr
theorem QG.par {N b : Nat} {w : World} {l : List Lex.Tok} {q : Qy} {nt : Bool} {iv : Value} {wr w' : World} (h : QG N b w l q nt iv wr) (hN : N ≤ w.heap.size) (hb : N ≤ b) (hb0 : b ≠ 0) (hg : wr.grownBy w' (some b)) {q' : Qy} {nt' : Bool} {r : List Lex.Tok} (hq : q'.its = q.its) (hp : Pz b w' (rst iv q' nt') r) (ht : Tl r) : QG N b w r q' nt' iv w' :=
  ⟨hp, ht, by rw [hq]; exact h.qs.par hg h.pz.bk, below_par h.bl hg hN hb, h.ml.kept hg hb0⟩
theorem Ml.below {w w' : World} (h : Ml w) {N : Nat} (hb : Below N w w') (hN : 0 < N) : Ml w' := by
  obtain ⟨m, hm⟩ := h
  exact ⟨m, (hb.cell (p := ⟨0, 0, none⟩) hN).trans hm⟩
theorem QG.add4 {N b : Nat} {w : World} {r : List Lex.Tok} {q : Qy} {nt : Bool} {iv : Value} {w3 w4 : World} (h : QG N b w r q nt iv w3) {rs : List Ri} (ho : Own eRi 6 N 83 w3 iv rs) (o : Obj) (hgr : (w3.alloc o).grownBy w4 iv.ownBlock) : Pz b w4 (rst iv q nt) r :=
  (h.pz.alloc o).own (ho.alloc o) hgr (by decide) (by decide)
theorem QG.add {N b : Nat} {w : World} {r : List Lex.Tok} {q : Qy} {nt : Bool} {iv : Value} {w3 w4 : World} (h : QG N b w r q nt iv w3) (hN0 : 0 < N) (hN : N ≤ w.heap.size) (hb : N ≤ b) {x0 : Ri} {x : It} {rs : List Ri} (hi : ItO N w3 x0 x) (ho : Own eRi 6 N 83 w3 iv rs) (hs : ItsO N w3 rs q.its) (o : Obj) {v4 : Value}
    (hown : Own eRi 6 N 83 w4 v4 (rs ++ [x0])) (hgr : (w3.alloc o).grownBy w4 iv.ownBlock) (hb4 : Below N (w3.alloc o) w4) : QG N b w r { q with its := q.its ++ [x] } nt v4 (w4.setCell ⟨b, 1, none⟩ v4) := by
  have hp := h.add4 ho o hgr
  have hkeep : ∀ v x, Own eSt 3 N 103 w3 v x → Own eSt 3 N 103 (w4.setCell ⟨b, 1, none⟩ v4) v x := fun v x hv =>
    Own.set_bk (Own.kept_bk (hv.alloc o) hgr (Own.row_bk (ho.alloc o)) (by decide)) hp.bk (by decide) 1 v4
  have hb3 : Below N w w4 := (h.bl.alloc (Nat.le_trans hN h.bl.size) o).trans hb4
  refine ⟨hp.put 0 v4, h.tl, ⟨rs ++ [x0], Own.set_bk hown hp.bk (by decide) 1 v4, ?_⟩, below_par hb3 (grown_set w4 ⟨b, 1, none⟩ v4) hN hb, ?_⟩
  · exact ItsO.snoc ⟨hi.k, hi.ab, hkeep _ _ hi.av, hi.bb, hkeep _ _ hi.bv, hi.nt⟩ (hs.map hkeep)
  · exact ((h.ml.ext ((Below.refl _ _).alloc (Nat.le_refl _) o)).below hb4 hN0).kept (grown_set w4 ⟨b, 1, none⟩ v4) (show b ≠ 0 by omega)
theorem Pz.len {b : Nat} {w : World} {rest : List Value} {l : List Lex.Tok} (h : Pz b w rest l) : nOf ((w.cell? ⟨b, 0, none⟩).getD undef) = l.length := by
  obtain ⟨lv, h1, h2, _⟩ := h.ex
  obtain ⟨ao, cap, rfl, _⟩ := h2.shp
  simp [World.cell?, h1, nOf]
theorem flg_its {s : List UInt8} {q q' : Qy} {nt nt' : Bool} (h : flg s q nt = some (q', nt')) : q'.its = q.its := by
  unfold flg at h
  repeat' split at h
  all_goals first | (cases h; rfl) | cases h
end Go.Proofs.Ytolahnnkdpbdfaa

namespace Go.Proofs.Ytolahnnkdpbdfaa
open Go.Proofs Go.RowKit Go.Shelf Go.Sl Go.Prs
def QL (N b : Nat) (w : World) (F : Nat) (l : List Lex.Tok) (q : Qy) (nt : Bool) (wr : World) : Prop :=
  ∃ (f : Nat) (l1 : List Lex.Tok) (q1 : Qy) (nt1 : Bool) (iv1 : Value), l1.length < f ∧ l1.length ≤ 100 ∧ q1.its.length + l1.length ≤ 200 ∧ Hid (quest F l q nt = quest f l1 q1 nt1) ∧ Hid (QG N b w l1 q1 nt1 iv1 wr)
set_option maxRecDepth 100000 in
set_option maxHeartbeats 8000000 in
theorem quest_any (N b : Nat) (iv : Value) (F : Nat) (l : List Lex.Tok) (q : Qy) (nt : Bool) (w : World) (h : Pz b w (rst iv q nt) l) (ht : Tl l) (hq : QSt N w iv q.its) (hN : N ≤ w.heap.size) (hb : N ≤ b) (hN0 : 0 < N) (hm : Ml w)
    (hF : l.length < F) (hl : l.length ≤ 100) (hM : q.its.length + l.length ≤ 200) :
    Calls Try.prog 43 #[.pointer (some ⟨b, 0, none⟩)] w (QP N b w (quest F l q nt)) := by
  have HI : Hid (QG N b w l q nt iv w) := Lib.hid ⟨h, ht, hq, Below.refl _ _, hm⟩
  have HB0 := Lib.hid (show b ≠ 0 by omega)
  clear h ht hq hm
  go_enter Try.func43, Try.ntmps43
  go_wp2_with fail
  go_loopw [] (fun wr => QL N b w F l q nt wr) (fun wr => nOf ((wr.cell? ⟨b, 0, none⟩).getD undef))
  case atStart => exact ⟨F, l, q, nt, iv, hF, hl, hM, Lib.hid rfl, HI⟩
  case round =>
    clear HI
    obtain ⟨f, l1, q1, nt1, iv1, hf, hl1, hM1, HS, HI⟩ := hrel
    obtain ⟨wo, rfl⟩ : ∃ wo : World, wo = wr := ⟨_, rfl⟩
    have HLn := Lib.hid HI.out.pz.len
    have HK := Lib.hid (HI.out.pz.kind HI.out.tl.ne)
    obtain ⟨m, hm⟩ : ∃ m, Hid (kd l1 = m) := ⟨_, Lib.hid rfl⟩
    rw [hm.out] at HK
    go_wp2_with fail
    refine HK.out.mono ?_
    rintro e w' ⟨rfl, rfl⟩
    clear HK
    go_upto_if 4 with (fail)
    go_cut [] (fun wx => Hid (QG N b w (skipGap l1) q1 nt1 iv1 wx))
    case first =>
      by_cases h8 : m = 8
      · subst h8
        have hsk : Hid (skipGap l1 = l1.tail) := Lib.hid (by unfold skipGap; rw [if_pos hm.out])
        have HT1 : Hid (Tl l1.tail) := Lib.hid (HI.out.tl.tail (by rw [hm.out]; decide))
        obtain ⟨t0, r0, rfl⟩ := HI.out.tl.cons
        have hTk := Lib.hid HI.out.pz.take
        go_wp2_with fail
        refine hTk.out.mono ?_
        rintro e w3 ⟨rfl, hp3, hg3⟩
        have HI3 : Hid (QG N b w r0 q1 nt1 iv1 w3) := Lib.hid (HI.out.par hN hb HB0.out hg3 rfl hp3 HT1.out)
        clear hp3 hg3
        go_wp2_with fail
        go_meet
        exact Lib.hid (by rw [hsk.out]; exact HI3.out)
      · have hsk : Hid (skipGap l1 = l1) := Lib.hid (by unfold skipGap; rw [if_neg (by rw [hm.out]; exact h8)])
        have h8b : ((m : Int) == 8) = false := by rw [beq_eq_false_iff_ne]; omega
        clear h8
        go_wp2_with fail
        go_meet
        exact Lib.hid (by rw [hsk.out]; exact HI.out)
    case rest =>
      clear HI
      rename_i HI0
      obtain ⟨wp, rfl⟩ : ∃ wp : World, wp = wc := ⟨_, rfl⟩
      have HI := hcut
      clear hcut
      have hsl := skip_len l1
      obtain ⟨l2, hl2⟩ : ∃ x, Hid (skipGap l1 = x) := ⟨_, Lib.hid rfl⟩
      rw [hl2.out] at HI hsl
      have HK := Lib.hid (HI.out.pz.kind HI.out.tl.ne)
      obtain ⟨m2, hm2⟩ : ∃ m, Hid (kd l2 = m) := ⟨_, Lib.hid rfl⟩
      rw [hm2.out] at HK
      go_wp2_with fail
      refine HK.out.mono ?_
      rintro e w' ⟨rfl, rfl⟩
      clear HK
      by_cases h9 : m2 = 9
      · subst h9
        have HE : Hid (quest F l q nt = .ok q1) := Lib.hid (by rw [HS.out, quest_end hf (by rw [hl2.out]; exact hm2.out)])
        go_wp2_with fail
        exact bodyPost_ret (v := .tuple #[]) (by simp [results, Try.results43, go_sem]) rfl (QP.is HE.out HI.out.bl HI.out.pz HI.out.qs)
      · have h9b : ((m2 : Int) == 9) = false := by rw [beq_eq_false_iff_ne]; omega
        have H9 : Hid (kd (skipGap l1) ≠ 9) := Lib.hid (by rw [hl2.out, hm2.out]; exact h9)
        clear h9
        by_cases h2 : m2 = 2
        · subst h2
          have HT0 : Hid (Tl l2.tail) := Lib.hid (HI.out.tl.tail (by rw [hm2.out]; decide))
          have HFl := Lib.hid (pflag_any b iv1 q1 nt1 l2 wp HI.out.pz HI.out.tl (by rw [hm2.out]; decide) HI.out.ml)
          have hlt : l2.tail.length + 1 ≤ l2.length := by have := List.length_pos_iff.2 HI.out.tl.ne; simp; omega
          cases hfl : flg (tx l2) q1 nt1 with
          | none =>
            have HE : Hid (quest F l q nt = .error (pl l2)) := Lib.hid (by rw [HS.out, quest_err hf H9.out (by rw [hl2.out]; exact round_flagE hm2.out hfl)])
            have hD := Lib.hid (HFl.out.mono (R' := fun e w' => e = .panicked (flt (pl l2)) ∧ wp.grownBy w' (some b)) (fun e w' hh => by unfold FlP at hh; rw [hfl] at hh; exact ⟨hh.2, hh.1⟩))
            clear hfl HFl
            go_wp2_with fail
            refine hD.out.mono ?_
            rintro e w3 ⟨rfl, hg3⟩
            exact ⟨rfl, QP.no HE.out (below_par HI.out.bl hg3 hN hb)⟩
          | some x =>
            obtain ⟨q2, nt2⟩ := x
            have HR := Lib.hid (show round (skipGap l1) q1 nt1 = .ok (q2, nt2, l2.tail) by rw [hl2.out]; exact round_flag hm2.out hfl)
            have hD := Lib.hid (HFl.out.mono (R' := fun e w' => ∃ v, e = .returned v ∧ QG N b w l2.tail q2 nt2 iv1 w') (fun e w' hh => by
              unfold FlP at hh; rw [hfl] at hh
              obtain ⟨hg, ⟨v, hv⟩, hp, ht⟩ := hh
              exact ⟨v, hv, HI.out.par hN hb HB0.out hg (flg_its hfl) hp ht⟩))
            have hMq : q2.its.length + l2.tail.length ≤ 200 := by rw [flg_its hfl]; omega
            clear hfl HFl
            go_wp2_with fail
            refine hD.out.mono ?_
            rintro e w3 ⟨v, rfl, hq3⟩
            have HI3 := Lib.hid hq3
            clear hq3
            have HK3 := Lib.hid (HI3.out.pz.kind HI3.out.tl.ne)
            have HX3 := Lib.hid (HI3.out.pz.fail HI3.out.tl.ne)
            have HLn3 := Lib.hid HI3.out.pz.len
            obtain ⟨m3, hm3⟩ : ∃ m, Hid (kd (l2.tail) = m) := ⟨_, Lib.hid rfl⟩
            rw [hm3.out] at HK3
            by_cases h38 : m3 = 8
            · have HG : Hid (quest F l q nt = quest (f - 1) (l2.tail) (q2) (nt2)) := Lib.hid (by rw [HS.out, quest_go hf H9.out HR.out (.inl (by rw [hm3.out]; exact h38))])
              subst h38
              go_wp2_with fail
              refine HK3.out.mono ?_
              rintro e w' ⟨rfl, rfl⟩
              go_wp2_with fail
              go_roundw
              case rel => exact ⟨f - 1, _, _, _, _, by omega, by omega, hMq, HG, HI3⟩
              case measure => rw [HLn3.out, HLn.out]; omega
            · have d38 : ((m3 : Int) == 8) = false := by rw [beq_eq_false_iff_ne]; omega
              have n38 : ((m3 : Int) != 8) = true := by rw [bne_iff_ne]; omega
              by_cases h39 : m3 = 9
              · have HG : Hid (quest F l q nt = quest (f - 1) (l2.tail) (q2) (nt2)) := Lib.hid (by rw [HS.out, quest_go hf H9.out HR.out (.inr (by rw [hm3.out]; exact h39))])
                subst h39
                clear h38
                go_wp2_with fail
                refine HK3.out.mono ?_
                rintro e w' ⟨rfl, rfl⟩
                go_wp2_with fail
                refine HK3.out.mono ?_
                rintro e w' ⟨rfl, rfl⟩
                go_wp2_with fail
                go_roundw
                case rel => exact ⟨f - 1, _, _, _, _, by omega, by omega, hMq, HG, HI3⟩
                case measure => rw [HLn3.out, HLn.out]; omega
              · have n39 : ((m3 : Int) != 9) = true := by rw [bne_iff_ne]; omega
                have HE : Hid (quest F l q nt = .error (pl (l2.tail))) := Lib.hid (by rw [HS.out, quest_bad hf H9.out HR.out (by rw [hm3.out]; omega)])
                clear h38 h39
                go_wp2_with fail
                refine HK3.out.mono ?_
                rintro e w' ⟨rfl, rfl⟩
                go_wp2_with fail
                refine HK3.out.mono ?_
                rintro e w' ⟨rfl, rfl⟩
                go_wp2_with fail
                refine HX3.out.mono ?_
                rintro e w' ⟨rfl, rfl⟩
                exact ⟨rfl, QP.no HE.out HI3.out.bl⟩
        · have h2b : ((m2 : Int) == 2) = false := by rw [beq_eq_false_iff_ne]; omega
          have H2 : Hid (kd l2 ≠ 2) := Lib.hid (by rw [hm2.out]; exact h2)
          clear h2
          have hn1 := HI.out.pz.cells.1
          have HIt := Lib.hid (fun (u : World) (hu : Below wp.heap.size wp u) => item_any b (rst iv1 q1 nt1) nt1 rfl l2 u (HI.out.pz.ext hu) HI.out.tl (by omega))
          cases hit : item nt1 l2 with
          | error p =>
            have HE : Hid (quest F l q nt = .error p) := Lib.hid (by rw [HS.out, quest_err hf H9.out (by rw [hl2.out]; exact round_itemE H2.out hit)])
            have hD := Lib.hid (fun (u : World) (hu : Below wp.heap.size wp u) => (PPost.bad (HIt.out u hu) hit).mono (R' := fun e w' => e = .panicked (flt p) ∧ Below N w w') (fun e w' ⟨h1, h2⟩ => ⟨h1, below_par (HI.out.bl.trans (hu.mono (Nat.le_trans hN HI.out.bl.size))) h2 hN hb⟩))
            clear hit HIt
            go_wp2_with fail
            refine wp_region_held_drew (S := fun u => u.cell? ⟨b, 1, none⟩ = some iv1 ∧ Below wp.heap.size wp u) (by kernel_rfl) ⟨hn1, (Below.refl _ _).drew⟩ (fun hHeld => ?_)
            refine wpAnyH_take (i := 0) (oi := { dst := some 9, op := Op.move (Operand.tmp 0), type := 84, pos := "parse.go:200", after := #[], guard := none }) (v := ?_) rfl (by kernel_rfl) (by kernel_rfl) (by kernel_rfl) (fun _ _ _ h => h) (Or.inl ⟨by rfl, ?_⟩) (by assumption) ?_
            rotate_left
            · intro u hSu; (try dsimp only at hSu); go_split_ands; (go_simp <;> with_reducible rfl)
            try simp only [Act.put, List.setIfInBounds_toArray, List.set_cons_zero, List.set_cons_succ]
            refine wpAnyH_take (i := 1) (oi := { dst := some 10, op := Op.move (Operand.tmp 0), type := 84, pos := "parse.go:200", after := #[], guard := none }) (v := ?_) rfl (by kernel_rfl) (by kernel_rfl) (by kernel_rfl) (fun _ _ _ h => h) (Or.inl ⟨by rfl, ?_⟩) (by assumption) ?_
            rotate_left
            · intro u hSu; (try dsimp only at hSu); go_split_ands; (go_simp <;> with_reducible rfl)
            try simp only [Act.put, List.setIfInBounds_toArray, List.set_cons_zero, List.set_cons_succ]
            refine wpAnyH_take (i := 2) (oi := { dst := some 11, op := Op.nilCheck (Operand.tmp 10), type := 0, pos := "parse.go:200", after := #[{ on := 1, ground := Ground.data }], guard := none }) (v := ?_) rfl (by kernel_rfl) (by kernel_rfl) (by kernel_rfl) (fun _ _ _ h => h) (Or.inl ⟨by rfl, ?_⟩) (by assumption) ?_
            rotate_left
            · intro u hSu; (try dsimp only at hSu); go_split_ands; (go_simp <;> with_reducible rfl)
            try simp only [Act.put, List.setIfInBounds_toArray, List.set_cons_zero, List.set_cons_succ]
            refine wpAnyH_take (i := 3) (oi := { dst := some 12, op := Op.fieldAddr 86 (Operand.tmp 11) 1, type := 0, pos := "parse.go:200", after := #[{ on := 2, ground := Ground.data }], guard := none }) (v := ?_) rfl (by kernel_rfl) (by kernel_rfl) (by kernel_rfl) (fun _ _ _ h => h) (Or.inl ⟨by rfl, ?_⟩) (by assumption) ?_
            rotate_left
            · intro u hSu; (try dsimp only at hSu); go_split_ands; (go_simp <;> with_reducible rfl)
            try simp only [Act.put, List.setIfInBounds_toArray, List.set_cons_zero, List.set_cons_succ]
            refine wpAnyH_take (i := 4) (oi := { dst := some 13, op := Op.fieldAddr 47 (Operand.tmp 12) 0, type := 0, pos := "parse.go:200", after := #[{ on := 3, ground := Ground.data }], guard := none }) (v := ?_) rfl (by kernel_rfl) (by kernel_rfl) (by kernel_rfl) (fun _ _ _ h => h) (Or.inl ⟨by rfl, ?_⟩) (by assumption) ?_
            rotate_left
            · intro u hSu; (try dsimp only at hSu); go_split_ands; (go_simp <;> with_reducible rfl)
            try simp only [Act.put, List.setIfInBounds_toArray, List.set_cons_zero, List.set_cons_succ]
            refine wpAnyH_take (i := 5) (oi := { dst := some 14, op := Op.load 45 (Operand.tmp 13), type := 45, pos := "parse.go:200", after := #[{ on := 4, ground := Ground.data }], guard := none }) (v := ?_) rfl (by kernel_rfl) (by kernel_rfl) (by kernel_rfl) (fun _ _ _ h => h) (Or.inl ⟨by rfl, ?_⟩) (by assumption) ?_
            rotate_left
            · intro u hSu; (try dsimp only at hSu); go_split_ands; (go_simp <;> with_reducible rfl)
            try simp only [Act.put, List.setIfInBounds_toArray, List.set_cons_zero, List.set_cons_succ]
            refine wpAnyH_take (i := 6) (oi := { dst := some 15, op := Op.move (Operand.tmp 0), type := 84, pos := "parse.go:200", after := #[], guard := none }) (v := ?_) rfl (by kernel_rfl) (by kernel_rfl) (by kernel_rfl) (fun _ _ _ h => h) (Or.inl ⟨by rfl, ?_⟩) (by assumption) ?_
            rotate_left
            · intro u hSu; (try dsimp only at hSu); go_split_ands; (go_simp <;> with_reducible rfl)
            try simp only [Act.put, List.setIfInBounds_toArray, List.set_cons_zero, List.set_cons_succ]
            refine wpAnyH_ready (rs := [7]) (by kernel_rfl) (by simp) ?_
            refine AllReadyH.cons (o := { dst := some 16, op := Op.call { callee := Callee.value (Operand.func 73), args := #[Operand.tmp 15], argTypes := #[84] }, type := 83, pos := "parse.go:200", after := #[{ on := 6, ground := Ground.data }], guard := none }) rfl (fun K hK => ?_) AllReadyH.nil
            go_simp
            (refine (hD.out _ hHeld.2).mono ?_; rintro e w3 ⟨rfl, hg3⟩; exact ⟨rfl, QP.no HE.out hg3⟩)
          | ok x =>
            obtain ⟨x, r⟩ := x
            have hil := item_len hit
            have HR := Lib.hid (show round (skipGap l1) q1 nt1 = .ok ({ q1 with its := q1.its ++ [x] }, nt1, r) by rw [hl2.out]; exact round_item H2.out hit)
            have hD := Lib.hid (fun (u : World) (hu : Below wp.heap.size wp u) => (PPost.ok (HIt.out u hu) hit).mono (R' := fun e w' => ∃ (x0 : Ri) (rs : List Ri), e = .returned (.agg #[.int .i64 x0.k, .string (bstr x0.ab), .slice x0.av.1 x0.av.2.1 x0.av.2.2, .string (bstr x0.bb), .slice x0.bv.1 x0.bv.2.1 x0.bv.2.2, .bool x0.nt]) ∧ ItO N w' x0 x ∧ Own eRi 6 N 83 w' iv1 rs ∧ ItsO N w' rs q1.its ∧ QG N b w r q1 nt1 iv1 w') (fun e w' ⟨v, h1, ⟨a2, n2, c2, a3, n3, c3, hv, ho2, ho3⟩, h3, h4, h5⟩ => by
              have hg := HI.out.par (q' := q1) (nt' := nt1) hN hb HB0.out (grown_trans (grown_below hu) h5) rfl h3 h4
              obtain ⟨rs, hr1, hr2⟩ := hg.qs
              have hNu : N ≤ u.heap.size := Nat.le_trans (Nat.le_trans hN HI.out.bl.size) hu.size
              exact ⟨⟨x.k, x.a.b, (a2, n2, c2), x.b.b, (a3, n3, c3), x.nt⟩, rs, by rw [h1, hv], ⟨rfl, rfl, ho2.mono hNu, rfl, ho3.mono hNu, rfl⟩, hr1, hr2, hg⟩))
            clear hit HIt
            have hn1d : wp.drew.cell? ⟨b, 1, none⟩ = some iv1 := hn1
            have hNw : N ≤ wp.heap.size := Nat.le_trans hN HI.out.bl.size
            go_upto_region 3 with fail
            go_region_law (first
              | (go_simp; go_at_call 73; refine (hD.out _ (Below.refl _ _).drew).mono ?_; rintro e w3 ⟨x0, rs, rfl, hi3, ho3, his3, hq3⟩; have HI3 := Lib.hid hq3; have HO3 := Lib.hid ho3; have HT3 := Lib.hid hi3; have HS3 := Lib.hid his3; have hn1' := HI3.out.pz.cells.1; have hf3 := bk_frozen HI3.out.pz.bk; have hn1A := fun o : Obj => (HI3.out.pz.alloc o).cells.1; have hrl : rs.length ≤ 200 := (by rw [his3.len]; omega); have hN3 : N ≤ w3.heap.size := Nat.le_trans hN HI3.out.bl.size; clear hi3 ho3 his3 hq3; dsimp only)
              | (refine step_append rfl (en := eRi) (s := 6) (base := N) (e := 83) _ _ _ (by rfl) _ 96 Try.underlying45 info83 rfl (by decide) len_eRi one_eRi _ _ rs [x0] (by rfl) (HO3.out.alloc _) (by rfl) (Sl.fresh len_eRi (by simp) rfl rfl (by simp [maxLen])) (by simp [maxLen]; omega) (by simp; omega) (by simp; omega) ?_; intro v4 w4 hown4 hgr4 hb4; obtain ⟨va, vn, vc, rfl⟩ := hown4.isSlice; have HW4 := Lib.hid (HI3.out.add hN0 hN hb HT3.out HO3.out HS3.out _ hown4 hgr4 hb4); have hp4 := HI3.out.add4 HO3.out _ hgr4; have hn4 := hp4.cells.1; have hf4 := bk_frozen hp4.bk; clear hp4 hown4 hgr4 hb4))
            all_goals
              have HI3' := HW4
              clear HI HI3 HO3 HT3 HS3 HW4 hn1' hf3 hn1A hn4 hf4 hn1 hn1d
              have HI3 := HI3'
              clear HI3'
              have hMq : ({ q1 with its := q1.its ++ [x] } : Qy).its.length + r.length ≤ 200 := by simp; omega
              have HK3 := Lib.hid (HI3.out.pz.kind HI3.out.tl.ne)
              have HX3 := Lib.hid (HI3.out.pz.fail HI3.out.tl.ne)
              have HLn3 := Lib.hid HI3.out.pz.len
              obtain ⟨m3, hm3⟩ : ∃ m, Hid (kd (r) = m) := ⟨_, Lib.hid rfl⟩
              rw [hm3.out] at HK3
              by_cases h38 : m3 = 8
              · have HG : Hid (quest F l q nt = quest (f - 1) (r) ({ q1 with its := q1.its ++ [x] }) (nt1)) := Lib.hid (by rw [HS.out, quest_go hf H9.out HR.out (.inl (by rw [hm3.out]; exact h38))])
                subst h38
                go_wp2_with fail
                refine HK3.out.mono ?_
                rintro e w' ⟨rfl, rfl⟩
                go_wp2_with fail
                go_roundw
                case rel => exact ⟨f - 1, _, _, _, _, by omega, by omega, hMq, HG, HI3⟩
                case measure => rw [HLn3.out, HLn.out]; omega
              · have d38 : ((m3 : Int) == 8) = false := by rw [beq_eq_false_iff_ne]; omega
                have n38 : ((m3 : Int) != 8) = true := by rw [bne_iff_ne]; omega
                by_cases h39 : m3 = 9
                · have HG : Hid (quest F l q nt = quest (f - 1) (r) ({ q1 with its := q1.its ++ [x] }) (nt1)) := Lib.hid (by rw [HS.out, quest_go hf H9.out HR.out (.inr (by rw [hm3.out]; exact h39))])
                  subst h39
                  clear h38
                  go_wp2_with fail
                  refine HK3.out.mono ?_
                  rintro e w' ⟨rfl, rfl⟩
                  go_wp2_with fail
                  refine HK3.out.mono ?_
                  rintro e w' ⟨rfl, rfl⟩
                  go_wp2_with fail
                  go_roundw
                  case rel => exact ⟨f - 1, _, _, _, _, by omega, by omega, hMq, HG, HI3⟩
                  case measure => rw [HLn3.out, HLn.out]; omega
                · have n39 : ((m3 : Int) != 9) = true := by rw [bne_iff_ne]; omega
                  have HE : Hid (quest F l q nt = .error (pl (r))) := Lib.hid (by rw [HS.out, quest_bad hf H9.out HR.out (by rw [hm3.out]; omega)])
                  clear h38 h39
                  go_wp2_with fail
                  refine HK3.out.mono ?_
                  rintro e w' ⟨rfl, rfl⟩
                  go_wp2_with fail
                  refine HK3.out.mono ?_
                  rintro e w' ⟨rfl, rfl⟩
                  go_wp2_with fail
                  refine HX3.out.mono ?_
                  rintro e w' ⟨rfl, rfl⟩
                  exact ⟨rfl, QP.no HE.out HI3.out.bl⟩
end Go.Proofs.Ytolahnnkdpbdfaa
