/-
  Layer 16: Make. No condition besides what the arguments are.
-/
import Derived.Test.YtopamnfelngkcaaDoorBW10
namespace Go.Proofs.YtopamnfelngkcaaDoor.Bm
open Go.Proofs Go.RowKit Go.Shelf Go.Sl Go.Bl
set_option linter.unusedVariables false

attribute [local go_sem] Oper.semAt_some

/-- is p a place of x? -/
def hitF (x : Str) (many p : Nat) : Bool := (List.range 7).any (fun i => decide (plc x many i = p))
/-- f is the filter of the texts T -/
def MkF (T : List Str) (f : List UInt8) : Prop := if 200 < T.length then f = [255] else f.length = szF T.length ∧ ∀ p, p < 8 * f.length → bitF f p = T.any (fun x => hitF x (8 * f.length) p)
theorem MkF.uniq {T : List Str} {f g : List UInt8} (h : MkF T f) (h' : MkF T g) : f = g := by
  unfold MkF at h h'
  by_cases hT : 200 < T.length
  · rw [if_pos hT] at h h'; rw [h, h']
  · rw [if_neg hT] at h h'
    have hl : f.length = g.length := by rw [h.1, h'.1]
    exact bits_ext hl fun p hp => by rw [h.2 p hp, h'.2 p (by rw [← hl]; exact hp), hl]
theorem szF_le {n : Nat} (h : n ≤ 200) : szF n ≤ 1000 := by unfold szF; omega
theorem pl_val (l : Str) (many : Nat) (h : 0 < many) (i : Nat) : (pl l many h i).1 = plc l many i := by unfold pl; exact Eq.refl _
theorem any_of {α : Type} (f : Nat → α) (g : α → Nat) (h : Nat → Nat) (e : ∀ i, g (f i) = h i) (r : List Nat) (p : Nat) : ((r.map f).map g).any (fun q => decide (q = p)) = r.any (fun i => decide (h i = p)) := by
  induction r with
  | nil => rfl
  | cons a r ih => simp only [List.map_cons, List.any_cons, e, ih]
theorem plcs_any {l : Str} {many : Nat} {h : 0 < many} (p : Nat) : ((plcs l many h).map (fun x => x.1)).any (fun q => decide (q = p)) = hitF l many p := by
  unfold plcs hitF
  exact any_of (pl l many h) (fun x => x.1) (plc l many) (pl_val l many h) _ p
def HitF (T : List Str) (N k : Nat) (g : List UInt8) : Prop := g.length = N ∧ ∀ p, p < 8 * N → bitF g p = (T.take k).any (fun x => hitF x (8 * N) p)
theorem HitF.start (T : List Str) (N : Nat) : HitF T N 0 (List.replicate N 0) := ⟨by simp, fun p _ => by rw [bitF_zero]; simp⟩
theorem HitF.next {T : List Str} {N k : Nat} {g : List UInt8} (h : HitF T N k g) (hN : 0 < 8 * N) (hk : k < T.length) : HitF T N (k + 1) (setAll g ((plcs T[k] (8 * N) hN).map (fun p => p.1))) := by
  refine ⟨by rw [setAll_len, h.1], fun p hp => ?_⟩
  rw [bitF_setAll (fun q hq => by
    obtain ⟨x, _, rfl⟩ := List.mem_map.1 hq
    have := x.2
    rw [h.1]; exact this), plcs_any, h.2 p hp, List.take_succ_eq_append_getElem hk, List.any_append]
  simp
theorem HitF.mk {T : List Str} {g : List UInt8} (h : HitF T (szF T.length) T.length g) (hT : ¬ 200 < T.length) : MkF T g := by
  unfold MkF
  rw [if_neg hT]
  refine ⟨h.1, fun p hp => ?_⟩
  rw [h.1] at hp ⊢
  have := h.2 p hp
  rwa [List.take_length] at this

set_option maxRecDepth 100000 in
set_option maxHeartbeats 2000000 in
theorem make_any (v : Value) (L : List Str) (w : World) (hv : Sl eL 1 w v L) (hL : L.length ≤ 100000) (hl : ∀ x ∈ L, x.length ≤ 100000) :
    Calls Tryd.prog 44 #[v] w fun e w' => ∃ (fv : Value) (T : List Str) (f : List UInt8), e = .returned fv ∧ Un L T ∧ MkF T f ∧ Sl.Own eByte 1 w.heap.size 5 w' fv f ∧ Below w.heap.size w w' := by
  have HU := unlike_any v L w hv hL hl
  have hxl : Hid (∀ x ∈ L, x.length ≤ 100000) := Lib.hid hl
  clear hv hl
  refine (callsIn_wide (n := 6)).1 ?_
  refine callsIn_of_wp_marks Tryd.func44 rfl trivial ?_ rfl
  simp only [Tryd.ntmps44, List.size_toArray, List.length_cons, List.length_nil, Nat.reduceAdd, Nat.reduceSub, Array.replicate_succ, Array.replicate_zero, List.push_toArray, List.append_toArray, List.nil_append, List.cons_append]
  gi_wp2
  refine ⟨trivial, (callsIn_wide.2 HU).mono ?_⟩
  rintro e w1 ⟨ov, T, rfl, hun, hown, hbel⟩
  have hlen := (hown.sl len_eL).run_len (P := Tryd.prog) Tryd.underlying22
  have hTL := hun.len
  have HUn := Lib.hid hun
  have HO := Lib.hid hown
  have HB := Lib.hid hbel
  have hsz := hbel.size
  clear hun hown hbel HU
  by_cases hT : 200 < T.length
  · have d0 : decide ((T.length : Int) > 200) = true := decide_eq_true (by omega)
    gi_wp2
    refine leaves_marks [] _ (by simp) List.nodup_nil ?_
    refine ⟨_, results_tmp rfl _ _ _, _, T, [255], rfl, HUn.out, by unfold MkF; rw [if_pos hT], ?_, ?_⟩
    · exact yb_own (b := w1.heap.size) (g := [255]) (heap_alloc_new _ _) hsz (by simp)
    · exact HB.out.alloc hsz _
  · have d0 : decide ((T.length : Int) > 200) = false := decide_eq_false (by omega)
    have HT := Lib.hid hT
    obtain ⟨N, hN⟩ : ∃ N, Hid (szF T.length = N) := ⟨_, Lib.hid rfl⟩
    have hmk := make_bytes (szF T.length) (szF_le (by omega))
    have hmx : max (1 : Int) ((10 * (T.length : Int) + 7) / 8) = ((szF T.length : Nat) : Int) := by unfold szF; omega
    have hN1 : 1 ≤ szF T.length := szF_pos _
    have hN2 : szF T.length ≤ 1000 := szF_le (by omega)
    have hTn : T.length ≤ 200 := by omega
    rw [hN.out] at hmk hmx hN1 hN2
    have HM0 : Hid (MI w.heap.size (w1.heap.size + 1) w1.heap.size w ov T N (List.replicate N 0) ((w1.alloc (.cells (madeCells #[.int .u8 0] N) 5)).alloc (.cells #[.slice (some ⟨w1.heap.size, 0, none⟩) N N] 34))) := Lib.hid (by
      refine ⟨heap_new_at (by simp), ?_, (HO.out.alloc _).alloc _, (HB.out.alloc hsz _).alloc (by simp; omega) _, by omega, hsz⟩
      rw [← yb_made]
      exact heap_keep (heap_new_at rfl))
    clear hT
    gi_wp2
    refine wpIn_loop (fun a' wr => ∃ (k : Nat) (Ds : List Nat) (u6 u7 u24 u25 u26 u27 u28 u29 u30 u31 u32 u33 u34 u35 u36 u37 u38 u39 u40 u41 u42 u43 u44 : Value), (∃ (g : List UInt8), k ≤ T.length ∧ Hid (HitF T N k g) ∧ Hid (MI w.heap.size (w1.heap.size + 1) w1.heap.size w ov T N g wr) ∧ Hid (w.heap.size + 2 ≤ wr.heap.size) ∧
      Hid (Ds.Nodup ∧ ∀ D ∈ Ds, w.heap.size ≤ D ∧ wr.heap[D]? = some (.deferred (some [])))) ∧ a' = { tmps := #[v, undef, .slice none 0 0, ov, .pointer (some ⟨w1.heap.size + 1, 0, none⟩), undef, u6, u7, v, ov, ov, .int .i64 T.length, .bool false, undef, ov, .int .i64 T.length, .int .i64 (10 * T.length), .int .i64 (10 * T.length + 7), .int .i64 ((10 * T.length + 7) / 8), .int .i64 N, .slice (some ⟨w1.heap.size, 0, none⟩) N N, ov, .int .i64 T.length, .int .i64 k, u24, u25, u26, u27, u28, u29, u30, u31, u32, u33, u34, u35, u36, u37, u38, u39, u40, u41, u42, u43, u44, undef], defers := marks Ds }) (fun a' _ => T.length - (intOf (a'.tmps.getD 23 undef)).toNat) ?_ ?_
    · exact ⟨0, [], _, _, _, _, _, _, _, _, _, _, _, _, _, _, _, _, _, _, _, _, _, _, _, ⟨List.replicate N 0, by omega, Lib.hid (HitF.start T N), HM0, Lib.hid (by simp; omega), Lib.hid ⟨List.nodup_nil, fun D h => by simp at h⟩⟩, rfl⟩
    · rintro _ wr ⟨k, Ds, u6, u7, u24, u25, u26, u27, u28, u29, u30, u31, u32, u33, u34, u35, u36, u37, u38, u39, u40, u41, u42, u43, u44, ⟨g, hk, HG, HM, HS, HDs⟩, rfl⟩
      obtain ⟨_, c4, f4⟩ := one_cells HM.out.c4
      by_cases hlt : k < T.length
      · have d1 : decide ((k : Int) < (T.length : Int)) = true := decide_eq_true (by omega)
        obtain ⟨b5, o5, hb5, hix, hcell⟩ := (HM.out.own.sl len_eL).at (P := Tryd.prog) Tryd.underlying22 cells9 some9 hlt
        have e1 := hcell 0 (by omega)
        obtain ⟨x, hx⟩ : ∃ x, Hid (T[k] = x) := ⟨_, Lib.hid rfl⟩
        simp only [eL, List.getElem?_cons_zero, Nat.add_zero] at e1
        rw [hx.out] at e1
        have hxl2 : x.length ≤ 100000 := hxl.out _ ((HUn.out.2 _).1 (by rw [← hx.out]; exact List.getElem_mem hlt))
        clear hcell
        gi_wp2
        refine ⟨trivial, (places25 5 _ _ _).mono ?_⟩
        rintro e w2 ⟨rfl, hw2⟩
        have hB2 : Below wr.heap.size wr w2 := by rw [hw2]; exact ((Below.refl _ wr).alloc (Nat.le_refl _) _).alloc (by simp) _
        have hsz2 : w2.heap.size = wr.heap.size + 2 := by rw [hw2]; simp
        have hkb : w2.heap[wr.heap.size]? = some (.cells #[.string (bstr x)] 9 (0, 0)) := by rw [hw2]; exact heap_keep (heap_new_at rfl)
        have hmb : w2.heap[wr.heap.size + 1]? = some (.cells #[.int .i64 ((8 * N : Nat) : Int)] 3 (0, 0)) := by rw [hw2, show ((8 * N : Nat) : Int) = 8 * (N : Int) by omega]; exact heap_new_at (by simp)
        have HI0 : Hid (IM w.heap.size (w1.heap.size + 1) w1.heap.size w2.heap.size w ov T N g Ds (8 * N) [] w2) := Lib.hid
          ⟨HM.out.ext (by have := HS.out; omega) hB2, by have := HS.out; omega, fun D hD => ⟨(HDs.out.2 D hD).1, by have := (Array.getElem?_eq_some_iff.1 (HDs.out.2 D hD).2).1; omega, (hB2.block _ (Array.getElem?_eq_some_iff.1 (HDs.out.2 D hD).2).1).trans (HDs.out.2 D hD).2⟩⟩
        have hseq := places_seq 5 (by omega) wr.heap.size (wr.heap.size + 1) w.heap.size x hxl2 (8 * N) (by omega) (by omega) w2 hkb hmb
        have hnk : w1.heap.size ≠ wr.heap.size := by have := (Array.getElem?_eq_some_iff.1 HM.out.blk).1; omega
        have hnm : w1.heap.size ≠ wr.heap.size + 1 := by have := (Array.getElem?_eq_some_iff.1 HM.out.blk).1; omega
        have HDl : Hid (∀ D ∈ Ds, D < w2.heap.size) := Lib.hid (fun D hD => (HI0.out.2.2 D hD).2.1)
        have hws : w.heap.size ≤ w2.heap.size := HI0.out.2.1
        clear hw2 hkb hmb
        gi_wp2
        refine wpIn_range_T rfl (by omega) (gf := 102) (lb := #[.pointer (some ⟨wr.heap.size, 0, none⟩), .pointer (some ⟨wr.heap.size + 1, 0, none⟩)]) rfl trivial (enters_of Tryd.func102 (by kernel_rfl) rfl) hseq (fun A B h => dn_keeps A B h) (fun h k => kpP_t h k) (kpP_b hws) (Below.refl _ _) (fun _ => rfl)
          (IM w.heap.size (w1.heap.size + 1) w1.heap.size w2.heap.size w ov T N g Ds (8 * N)) (fun _ _ _ => False) (IM.from hws) (fun _ _ _ _ _ hs _ _ => hs) IM.step (fun _ _ _ _ h _ => h) HI0.out
          (fun y => { tmps := #[v, undef, .slice none 0 0, ov, .pointer (some ⟨w1.heap.size + 1, 0, none⟩), undef, .string (bstr x), .int .i64 (y.1 : Int), v, ov, ov, .int .i64 T.length, .bool false, undef, ov, .int .i64 T.length, .int .i64 (10 * T.length), .int .i64 (10 * T.length + 7), .int .i64 ((10 * T.length + 7) / 8), .int .i64 N, .slice (some ⟨w1.heap.size, 0, none⟩) N N, ov, .int .i64 T.length, .int .i64 k, .bool true, .pointer (some ⟨b5, o5, none⟩), .string (bstr x), .string (bstr x), .slice (some ⟨w1.heap.size, 0, none⟩) N N, .int .i64 N, .int .i64 (8 * (N : Int)), .func (.func 102) #[] #[.pointer (some ⟨wr.heap.size, 0, none⟩), .pointer (some ⟨wr.heap.size + 1, 0, none⟩)], .int .i64 (y.1 : Int), u33, u34, u35, u36, u37, u38, u39, u40, u41, u42, u43, u44, undef], defers := [] }) ?assign ?body ?done ?stop
        case assign =>
          intro lp y W K hK
          simp only [encN]
          gi_wp2
          exact hK
        case body =>
          rintro lp pre ⟨y, hy⟩ W ⟨hM, hW, hD⟩ hplt
          obtain ⟨q, hq⟩ : ∃ q : Nat, Hid (y / 8 = q) := ⟨_, Lib.hid rfl⟩
          obtain ⟨r, hr⟩ : ∃ r : Nat, Hid (y % 8 = r) := ⟨_, Lib.hid rfl⟩
          have hq0 : q < N := by have := hq.out; omega
          have hr0 : r < 8 := by have := hr.out; omega
          have hq2 : (y : Int) / 8 = (q : Int) := by have := hq.out; omega
          have hr3 : (y : Int) % 8 = (r : Int) := by have := hr.out; omega
          obtain ⟨g2, hg2⟩ : ∃ g2, Hid (setAll g (pre.map (fun p => p.1)) = g2) := ⟨_, Lib.hid rfl⟩
          have hgl : g2.length = N := by rw [← hg2.out, setAll_len]; exact HG.out.1
          rw [hg2.out] at hM
          obtain ⟨_, c4, f4⟩ := one_cells hM.c4
          obtain ⟨c5, f5⟩ := yb_cell hM.blk (i := q) (by omega)
          obtain ⟨cb, hcb⟩ : ∃ cb, Hid (g2[q]'(by omega) = cb) := ⟨_, Lib.hid rfl⟩
          rw [hcb.out] at c5
          have hbl := (Array.getElem?_eq_some_iff.1 hM.blk).1
          have ho : bits .or .u8 (cb.toNat : Int) (2 ^ r % 256) = ((orB cb r).toNat : Int) := by
            rw [← Go.Bl.orI cb hr0]
            have : ∀ r : Fin 8, (2 : Int) ^ r.val % 256 = ((2 ^ r.val : Nat) : Int) := by decide
            rw [this ⟨r, hr0⟩]
          have hnx : Hid (setAll g ((pre ++ [(⟨y, hy⟩ : Pl (8 * N))]).map (fun p => p.1)) = g2.set q (orB cb r)) := Lib.hid (by
            have hgd : g2.getD q 0 = cb := by rw [List.getD_eq_getElem?_getD, List.getElem?_eq_getElem (by omega), hcb.out]; rfl
            rw [List.map_append, List.map_cons, List.map_nil, setAll_snoc, hg2.out]
            unfold setB
            rw [hq.out, hr.out, hgd])
          have HM2 := Lib.hid hM
          have HD2 := Lib.hid hD
          clear hM hD
          gi_wp2
          have hs2 := HM2.out.set q (orB cb r)
          refine ⟨(KeepsOthers.setCell _ _ _).from _, ⟨(Below.refl _ _).setCell (p := ⟨w1.heap.size, q, none⟩) hsz _, fun c hc => heap_set_keep (a := ⟨w1.heap.size, q, none⟩) hc hnk.symm, fun c hc => heap_set_keep (a := ⟨w1.heap.size, q, none⟩) hc hnm.symm⟩, ?_, ?_, fun D hD => ⟨(HD2.out D hD).1, (HD2.out D hD).2.1, heap_set_keep (a := ⟨w1.heap.size, q, none⟩) (HD2.out D hD).2.2 (fun e => ?_)⟩⟩
          · rw [hnx.out]; exact hs2
          · simpa using hW
          · have h1 := (HD2.out D hD).2.2
            rw [show D = w1.heap.size from e, HM2.out.blk] at h1
            cases h1
        case done =>
          rintro D ys W hD hys ⟨hM, hW, hDs⟩ hK
          subst hys
          have HMd := Lib.hid hM
          have HDd := Lib.hid hDs
          have HKd := Lib.hid hK
          have hDn : D ∉ Ds := fun h => by have := HDl.out D h; omega
          have HDn := Lib.hid hDn
          have HWd := Lib.hid (Array.getElem?_eq_some_iff.1 hK).1
          have HG2 : Hid (HitF T N (k + 1) (setAll g ((plcs x (8 * N) (by omega)).map (fun p => p.1)))) := Lib.hid (by
            have := HG.out.next (by omega) hlt
            rwa [hx.out] at this)
          clear hM hDs hK hDn
          gi_wp2
          refine ⟨⟨k + 1, D :: Ds, _, _, _, _, _, _, _, _, _, _, _, _, _, _, _, _, _, _, _, _, _, _, _, ⟨_, by omega, HG2, HMd, Lib.hid (by have := HWd.out; have := HS.out; omega), Lib.hid ⟨List.nodup_cons.2 ⟨HDn.out, HDs.out.1⟩, fun D' hD' => ?_⟩⟩, rfl⟩, ?_⟩
          · rcases List.mem_cons.1 hD' with rfl | hD'
            · exact ⟨by omega, HKd.out⟩
            · exact ⟨(HDd.out D' hD').1, (HDd.out D' hD').2.2⟩
          · show T.length - ((k : Int) + 1).toNat < T.length - (k : Int).toNat
            omega
        case stop =>
          rintro D c pre W _ _ h _
          exact h.elim
      · obtain rfl : k = T.length := by omega
        have d1 : decide ((T.length : Int) < (T.length : Int)) = false := decide_eq_false (by omega)
        clear hlt
        gi_wp2
        refine leaves_marks Ds _ (fun D h => (HDs.out.2 D h).2) HDs.out.1 ?_
        have hgl := HG.out.1
        refine ⟨_, results_tmp rfl _ _ _, _, T, g, rfl, HUn.out, by rw [← hN.out] at HG; exact HG.out.mk HT.out, ?_, putAll_below Ds _ (fun D h => (HDs.out.2 D h).1) (fun D h => (Array.getElem?_eq_some_iff.1 (HDs.out.2 D h).2).1) HM.out.bel⟩
        have := yb_own (putAll_heap rfl Ds _ (fun D h => (HDs.out.2 D h).2) HDs.out.1 HM.out.blk) HM.out.hf (by omega)
        rwa [hgl] at this
end Go.Proofs.YtopamnfelngkcaaDoor.Bm
