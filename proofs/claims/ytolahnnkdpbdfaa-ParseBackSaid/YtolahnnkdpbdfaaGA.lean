/-
  Layer 28: questions about commits, and how they are read from tokens, in plain Lean. No program is named here.
  Layer 28: how questions lie in memory. No condition.
  Layer 28: the parser's small steps. No condition besides what lies where.
  Layer 28: the parser goes behind a token. No condition besides what lies where.
  Layer 28: the parser as it lies. No condition besides what lies where.
  Layer 28: the parser's count. No condition besides what lies where.
  Layer 28: the steps behind a name, the program's. No condition besides what lies where.
  Layer 28: the steps behind a name, the program's walk. No condition besides what lies where.
  Layer 28: the steps behind a name, the program's walk. No condition besides what lies where.
  Layer 28: may a text be a name? Both bases. No condition but that a text is short.
  Layer 28: a commit that must follow, the program's walk. No condition besides what lies where.
  Layer 28: an item, in plain Lean; the program's dots. No condition besides what lies where.
-/
import Derived.Test.YtolahnnkdpbdfaaQ12
import Derived.Test.YtolahnnkdpbdfaaL8
import Derived.Test.YtolahnnkdpbdfaaSub
namespace Go.Prs
open Go.Lex
/-- a step: its kind, its number, its word -/
structure St where
  k : Int
  n : Int
  w : List UInt8
deriving DecidableEq
/-- a commit by a name, and steps -/
structure Rv where
  b : List UInt8
  st : List St
deriving DecidableEq
/-- what is asked for -/
structure It where
  k : Int
  a : Rv
  b : Rv
  nt : Bool
deriving DecidableEq
/-- a question -/
structure Qy where
  its : List It
  mx : Int
  sk : Int
  od : Int
  fi : Bool
  rv : Bool
deriving DecidableEq
def zRv : Rv := ⟨[], []⟩
def zQy : Qy := ⟨[], 0, 0, 0, false, false⟩
def nQy : Qy := ⟨[], -1, 0, 0, false, false⟩
def here : Rv := ⟨[64], []⟩

def kd (l : List Tok) : Nat := match l with | t :: _ => t.1 | [] => 0
def tx (l : List Tok) : List UInt8 := match l with | t :: _ => t.2.1 | [] => []
def pl (l : List Tok) : Nat := match l with | t :: _ => t.2.2 | [] => 0
/-- may a text be a name? -/
def base (s : List UInt8) : Bool := decide (s ≠ []) && decide (kind s = 1) && decide (s[0]? ≠ some 46) && decide (s[s.length - 1]? ≠ some 46)
/-- a count that may follow -/
def cnt (l : List Tok) : Except Nat (Nat × List Tok) :=
  if kd l = 1 then (if (count (tx l)).2 = true then .ok ((count (tx l)).1, l.tail) else .error (pl l)) else .ok (1, l)
def inner (s : List UInt8) : List UInt8 := (s.drop 1).take (s.length - 2)
def cons (x : St) : Except Nat (List St × List Tok) → Except Nat (List St × List Tok)
  | .ok (l, r) => .ok (x :: l, r)
  | .error e => .error e
/-- the steps that follow -/
def steps : Nat → List Tok → Except Nat (List St × List Tok)
  | 0, l => .ok ([], l)
  | f + 1, l =>
    if kd l = 3 then
      if kd l.tail = 7 then cons ⟨3, 0, inner (tx l.tail)⟩ (steps f l.tail.tail) else
      match cnt l.tail with
      | .error e => .error e
      | .ok (n, r) => cons ⟨1, n, []⟩ (steps f r)
    else if kd l = 4 then
      match cnt l.tail with
      | .error e => .error e
      | .ok (n, r) => cons ⟨2, n, []⟩ (steps f r)
    else .ok ([], l)
/-- a commit that must follow -/
def rev (l : List Tok) : Except Nat (Rv × List Tok) :=
  if kd l = 1 ∧ base (tx l) = true then
    match steps l.length l.tail with
    | .error e => .error e
    | .ok (x, r) => .ok (⟨tx l, x⟩, r)
  else .error (pl l)
def dots (l : List Tok) : Nat := if kd l = 5 then 2 else if kd l = 6 then 3 else 0
/-- one that is asked for and must follow -/
def item (nt : Bool) (l : List Tok) : Except Nat (It × List Tok) :=
  if kd l = 3 then
    match rev l.tail with
    | .error e => .error e
    | .ok (a, r) => .ok (⟨1, a, zRv, !nt⟩, r)
  else if dots l = 0 then
    match rev l with
    | .error e => .error e
    | .ok (a, r) =>
      if dots r = 0 then .ok (⟨1, a, zRv, nt⟩, r) else
      if kd r.tail = 1 then
        match rev r.tail with
        | .error e => .error e
        | .ok (b, r') => .ok (⟨dots r, a, b, nt⟩, r')
      else .ok (⟨dots r, a, here, nt⟩, r.tail)
  else
    match rev l.tail with
    | .error e => .error e
    | .ok (b, r) => .ok (⟨dots l, here, b, nt⟩, r)
def upto61 (s : List UInt8) : List UInt8 := s.takeWhile (fun c => c != 61)
/-- a flag put into a question -/
def flg (s : List UInt8) (q : Qy) (nt : Bool) : Option (Qy × Bool) :=
  if (upto61 s).length < s.length then
    if (count (s.drop ((upto61 s).length + 1))).2 = true ∧ upto61 s = "--max".toUTF8.data.toList then some ({ q with mx := (count (s.drop ((upto61 s).length + 1))).1 }, nt) else
    if (count (s.drop ((upto61 s).length + 1))).2 = true ∧ upto61 s = "--skip".toUTF8.data.toList then some ({ q with sk := (count (s.drop ((upto61 s).length + 1))).1 }, nt) else none
  else if s = "--not".toUTF8.data.toList then some (q, !nt)
  else if s = "--date".toUTF8.data.toList then some ({ q with od := 0 }, nt)
  else if s = "--topo".toUTF8.data.toList then some ({ q with od := 1 }, nt)
  else if s = "--time".toUTF8.data.toList then some ({ q with od := 2 }, nt)
  else if s = "--first".toUTF8.data.toList then some ({ q with fi := true }, nt)
  else if s = "--reverse".toUTF8.data.toList then some ({ q with rv := true }, nt)
  else none
/-- one round: a flag or an item -/
def round (l : List Tok) (q : Qy) (nt : Bool) : Except Nat (Qy × Bool × List Tok) :=
  if kd l = 2 then
    match flg (tx l) q nt with
    | some (q', nt') => .ok (q', nt', l.tail)
    | none => .error (pl l)
  else
    match item nt l with
    | .error e => .error e
    | .ok (x, r) => .ok ({ q with its := q.its ++ [x] }, nt, r)
def skipGap (l : List Tok) : List Tok := if kd l = 8 then l.tail else l
/-- all -/
def quest : Nat → List Tok → Qy → Bool → Except Nat Qy
  | 0, _, q, _ => .ok q
  | f + 1, l, q, nt =>
    if kd (skipGap l) = 9 then .ok q else
    match round (skipGap l) q nt with
    | .error e => .error e
    | .ok (q', nt', r) => if kd r = 8 ∨ kd r = 9 then quest f r q' nt' else .error (pl r)
/-- the question of a text, or the place and the error -/
def parse (s : List UInt8) : Qy × Nat × Nat :=
  match tokens one s with
  | .error (p, c) => (zQy, p, c)
  | .ok l =>
    match quest (l.length + 1) l nQy false with
    | .error p => (zQy, p, 41)
    | .ok q => (q, 0, 0)
end Go.Prs

namespace Go.Proofs.Ytolahnnkdpbdfaa
open Go.RowKit Go.Sl Go.Prs
def eSt (s : St) : List Value := [.int .i64 s.k, .int .i64 s.n, .string (bstr s.w)]
theorem len_eSt (s : St) : (eSt s).length = 3 := rfl
theorem one_eSt (s : St) : ∀ u ∈ eSt s, u.oneCell' = true := by simp [eSt, Value.oneCell']
/-- a slice's parts -/
abbrev Sv := Option Addr × Nat × Nat
def sv (x : Sv) : Value := .slice x.1 x.2.1 x.2.2
/-- an item as it lies: its steps by their slices -/
structure Ri where
  k : Int
  ab : List UInt8
  av : Sv
  bb : List UInt8
  bv : Sv
  nt : Bool
def eRi (r : Ri) : List Value := [.int .i64 r.k, .string (bstr r.ab), sv r.av, .string (bstr r.bb), sv r.bv, .bool r.nt]
theorem len_eRi (r : Ri) : (eRi r).length = 6 := rfl
theorem one_eRi (r : Ri) : ∀ u ∈ eRi r, u.oneCell' = true := by simp [eRi, sv, Value.oneCell']
/-- what lies there is the item -/
structure Ra (w : World) (r : Ri) (x : It) : Prop where
  k : r.k = x.k
  ab : r.ab = x.a.b
  av : Sl eSt 3 w (sv r.av) x.a.st
  bb : r.bb = x.b.b
  bv : Sl eSt 3 w (sv r.bv) x.b.st
  nt : r.nt = x.nt
theorem Ra.ext {w w' : World} {r : Ri} {x : It} (h : Ra w r x) (hb : Below w.heap.size w w') : Ra w' r x := ⟨h.k, h.ab, h.av.ext hb, h.bb, h.bv.ext hb, h.nt⟩
end Go.Proofs.Ytolahnnkdpbdfaa

namespace Go.Proofs.Ytolahnnkdpbdfaa
open Go.RowKit Go.Sl Go.Prs
theorem tok0 {w : World} {v : Value} {l : List Lex.Tok} (h : Sl eTok 3 w v l) (hl : l ≠ []) :
    ∃ b o, b < w.heap.size ∧ (∀ (ik : IntKind) (u : World), (Instr.indexAt 23 v (.int ik 0)).run Try.prog u = .ok (.pointer (some ⟨b, o, none⟩)) u) ∧ w.cell? ⟨b, o, none⟩ = some (.int .i64 (kd l : Nat)) ∧ w.cell? ⟨b, o + 1, none⟩ = some (.string (bstr (tx l))) ∧ w.cell? ⟨b, o + 2, none⟩ = some (.int .i64 (pl l : Nat)) := by
  cases l with
  | nil => exact absurd rfl hl
  | cons t r =>
    obtain ⟨b, o, h1, h2, h3⟩ := h.at (P := Try.prog) Try.underlying23 cells33 some33 (k := 0) (by simp)
    exact ⟨b, o, h1, h2, h3 0 (by omega), h3 1 (by omega), h3 2 (by omega)⟩
theorem kind_any (b : Nat) (lv : Value) (l : List Lex.Tok) (w : World) (hc : w.cell? ⟨b, 0, none⟩ = some lv) (h : Sl eTok 3 w lv l) (hl : l ≠ []) :
    Calls Try.prog 70 #[.pointer (some ⟨b, 0, none⟩)] w fun e w' => e = .returned (.int .i64 (kd l : Nat)) ∧ w = w' := by
  obtain ⟨b5, o5, h5, hix, e0, e1, e2⟩ := tok0 h hl
  clear h
  go_enter Try.func70, Try.ntmps70
  go_wp2_with fail
  go_ret
  exact ⟨rfl, rfl⟩
/-- the fault that stands for a place -/
def flt (n : Nat) : List PanicEntry := [{ v := .iface 88 (.agg #[.int .i64 (n : Nat)]), recovered := false }]
theorem fail_any (b : Nat) (lv : Value) (l : List Lex.Tok) (w : World) (hc : w.cell? ⟨b, 0, none⟩ = some lv) (h : Sl eTok 3 w lv l) (hl : l ≠ []) :
    Calls Try.prog 74 #[.pointer (some ⟨b, 0, none⟩)] w fun e w' => e = .panicked (flt (pl l)) ∧ w = w' := by
  obtain ⟨b5, o5, h5, hix, e0, e1, e2⟩ := tok0 h hl
  clear h
  go_enter Try.func74, Try.ntmps74
  go_wp2_with fail
  exact ⟨rfl, rfl, rfl⟩
end Go.Proofs.Ytolahnnkdpbdfaa

namespace Go.Proofs.Ytolahnnkdpbdfaa
open Go.RowKit Go.Sl Go.Prs
/-- a slice outside a block stays where only that block is written -/
theorem Sl_grown {α : Type} {en : α → List Value} {s b : Nat} {w w' : World} {v : Value} {l : List α} (h : Sl en s w v l) (hb : v.ownBlock ≠ some b) (hg : w.grownBy w' (some b)) : Sl en s w' v l := by
  obtain ⟨ao, cap, h1, h2, h3, h4, h5⟩ := h.shp
  refine ⟨ao, cap, h1, h2, h3, h4, ?_⟩
  rcases h5 with h5 | ⟨c, off, e, hc, hcell⟩
  · exact .inl h5
  · refine .inr ⟨c, off, e, Nat.lt_of_lt_of_le hc hg.size, fun k hk j hj => ?_⟩
    have hne : some c ≠ some b := by
      rintro e2
      apply hb
      rw [h1, e]
      exact e2
    rw [World.cell?_of_block (a := ⟨c, off + k * s + j, none⟩) (hg.block c hc hne)]
    exact hcell k hk j hj
theorem Sl_from {α : Type} {en : α → List Value} {s : Nat} {w : World} {v : Value} {l : List α} {P : Program} {t e : TypeId} (h : Sl en s w v l) (ht : P.underlying t = some (.slice e)) (he : P.elem t = e) (hs : P.cellsOf e = s) (hi : (P.info? e).isSome = true) {lo : Nat} (h1 : lo ≤ l.length) :
    ∃ v', (∀ (ik : IntKind) (u : World), (Instr.slice t v (some (.int ik (lo : Int))) none none).run P u = .ok v' u) ∧ (∃ a n c, v' = .slice a n c) ∧ Sl en s w v' (l.drop lo) ∧ v'.ownBlock = v.ownBlock := by
  obtain ⟨ao, cap, rfl, h3, _⟩ := h.shp
  subst he
  obtain ⟨i, hi1⟩ := Option.isSome_iff_exists.1 hi
  have hs' : i.size = s := by simpa [Program.cellsOf, hi1] using hs
  refine ⟨_, fun ik u => ?_, ⟨_, _, _, rfl⟩, by have := h.sliced h1 (Nat.le_refl _); rwa [List.take_of_length_le (by simp)] at this, ?_⟩
  · rw [run_slice_l u t ao l.length cap ht ik lo (by omega) (by omega)]
    simp [sizeOf, typeInfo, hi1, hs', Result.andThen, Go.sliced]
  · cases ao with
    | none => split <;> rfl
    | some a =>
      split
      · rfl
      · simp only [Option.map_some, Value.ownBlock]
        unfold Addr.add; split <;> rfl
theorem elem23 : Try.prog.elem 23 = 33 := by kernel_rfl
set_option maxHeartbeats 1000000 in
theorem take_any (b : Nat) (lv : Value) (l : List Lex.Tok) (t : Lex.Tok) (r : List Lex.Tok) (cs : Array Value) (w : World) (hb : w.heap[b]? = some (.cells cs 86 (0, 0))) (h0 : cs[0]? = some lv) (h : Sl eTok 3 w lv l) (hl : l = t :: r) :
    Calls Try.prog 71 #[.pointer (some ⟨b, 0, none⟩)] w fun e w' => e = .returned (.agg (eTok t).toArray) ∧ ∃ v2, Sl eTok 3 w v2 r ∧ w'.heap[b]? = some (.cells (cs.setIfInBounds 0 v2) 86 (0, 0)) ∧ w.grownBy w' (some b) ∧ v2.ownBlock = lv.ownBlock := by
  subst hl
  obtain ⟨b5, o5, h5, hix, e0, e1, e2⟩ := tok0 h (by simp)
  obtain ⟨v2, hs2, ⟨a2, n2, c2, rfl⟩, hsl, hob⟩ := Sl_from h (P := Try.prog) Try.underlying23 elem23 cells33 some33 (lo := 1) (by simp)
  have hc : w.cell? ⟨b, 0, none⟩ = some lv := by simp [World.cell?, hb, h0]
  have hs3 : ∀ (ik : IntKind) (u : World), (Instr.slice 23 lv (some (.int ik 1)) none none).run Try.prog u = .ok (.slice a2 n2 c2) u := hs2
  have hbw : b < w.heap.size := (Array.getElem?_eq_some_iff.1 hb).1
  have hne1 : ¬ b = w.heap.size := by omega
  have hne5 : ¬ b5 = w.heap.size := by omega
  have hcA : ∀ o : Obj, (w.alloc o).cell? ⟨b, 0, none⟩ = some lv := fun o => by rw [World.cell?_alloc_lt _ _ _ hbw]; exact hc
  have e0A : ∀ o : Obj, (w.alloc o).cell? ⟨b5, o5, none⟩ = some (.int .i64 (t.1 : Nat)) := fun o => by rw [World.cell?_alloc_lt _ _ _ h5]; exact e0
  have e1A : ∀ o : Obj, (w.alloc o).cell? ⟨b5, o5 + 1, none⟩ = some (.string (bstr t.2.1)) := fun o => by rw [World.cell?_alloc_lt _ _ _ h5]; exact e1
  have e2A : ∀ o : Obj, (w.alloc o).cell? ⟨b5, o5 + 2, none⟩ = some (.int .i64 (t.2.2 : Nat)) := fun o => by rw [World.cell?_alloc_lt _ _ _ h5]; exact e2
  have hfz : w.frozen? ⟨b, 0, none⟩ = false := by simp [World.frozen?, hb]
  clear h hs2
  go_enter Try.func71, Try.ntmps71
  go_wp2_with fail
  simp [bodyPost, results, Try.results71, go_sem]
  refine ⟨rfl, .slice a2 n2 c2, hsl, heap_keep (heap_keep (heap_setCell_same w b 0 cs 86 (.slice a2 n2 c2) hb)), ⟨rfl, rfl, rfl, by simp; omega, fun k hk hne => ?_⟩, hob⟩
  have hk2 : k < (w.setCell ⟨b, 0, none⟩ (.slice a2 n2 c2)).heap.size := by simpa using hk
  rw [heap_alloc_old _ _ (by simp at hk2 ⊢; omega), heap_alloc_old _ _ hk2]
  exact Below.heap_setCell _ _ _ _ (by rintro rfl; exact hne rfl)
end Go.Proofs.Ytolahnnkdpbdfaa

namespace Go.Proofs.Ytolahnnkdpbdfaa
open Go.RowKit Go.Sl Go.Prs
/-- a block of cells of a type -/
def Bk (w : World) (e : TypeId) (k : Nat) : Prop := ∃ c, w.heap[k]? = some (.cells c e (0, 0))
theorem Bk.lt {w : World} {e : TypeId} {k : Nat} (h : Bk w e k) : k < w.heap.size := by
  obtain ⟨c, hc⟩ := h
  exact (Array.getElem?_eq_some_iff.1 hc).1
theorem Bk.ne {w : World} {e e' : TypeId} {k j : Nat} (h : Bk w e k) (h' : Bk w e' j) (hne : e ≠ e') : k ≠ j := by
  rintro rfl
  obtain ⟨c, hc⟩ := h
  obtain ⟨d, hd⟩ := h'
  rw [hc] at hd
  simp only [Option.some.injEq, Obj.cells.injEq] at hd
  exact hne hd.2.1
/-- the parser's block: the tokens that are left, and the rest of its cells -/
structure Pz (b : Nat) (w : World) (rest : List Value) (l : List Lex.Tok) : Prop where
  ex : ∃ lv, w.heap[b]? = some (.cells (lv :: rest).toArray 86 (0, 0)) ∧ Sl eTok 3 w lv l ∧ (∀ k, lv.ownBlock = some k → Bk w 33 k)
theorem Pz.kind {b : Nat} {w : World} {rest : List Value} {l : List Lex.Tok} (h : Pz b w rest l) (hl : l ≠ []) : Calls Try.prog 70 #[.pointer (some ⟨b, 0, none⟩)] w fun e w' => e = .returned (.int .i64 (kd l : Nat)) ∧ w = w' := by
  obtain ⟨lv, h1, h2, _⟩ := h.ex
  exact kind_any b lv l w (by simp [World.cell?, h1]) h2 hl
theorem Pz.fail {b : Nat} {w : World} {rest : List Value} {l : List Lex.Tok} (h : Pz b w rest l) (hl : l ≠ []) : Calls Try.prog 74 #[.pointer (some ⟨b, 0, none⟩)] w fun e w' => e = .panicked (flt (pl l)) ∧ w = w' := by
  obtain ⟨lv, h1, h2, _⟩ := h.ex
  exact fail_any b lv l w (by simp [World.cell?, h1]) h2 hl
theorem Pz.bk {b : Nat} {w : World} {rest : List Value} {l : List Lex.Tok} (h : Pz b w rest l) : Bk w 86 b := by
  obtain ⟨lv, h1, _⟩ := h.ex
  exact ⟨_, h1⟩
theorem Pz.take {b : Nat} {w : World} {rest : List Value} {t : Lex.Tok} {r : List Lex.Tok} (h : Pz b w rest (t :: r)) : Calls Try.prog 71 #[.pointer (some ⟨b, 0, none⟩)] w fun e w' => e = .returned (.agg #[.int .i64 (t.1 : Nat), .string (bstr t.2.1), .int .i64 (t.2.2 : Nat)]) ∧ Pz b w' rest r ∧ w.grownBy w' (some b) := by
  obtain ⟨lv, h1, h2, h3⟩ := h.ex
  refine (take_any b lv (t :: r) t r _ w h1 (by simp) h2 rfl).mono ?_
  rintro e w' ⟨he, v2, g1, g2, g3, g4⟩
  refine ⟨he, ⟨v2, ?_, ?_, ?_⟩, g3⟩
  · rw [g2]; simp
  · exact Sl_grown g1 (by rw [g4]; exact fun e1 => (h3 _ e1).ne h.bk (by decide) rfl) g3
  · rw [g4]
    intro k hk
    obtain ⟨c, hc⟩ := h3 k hk
    exact ⟨c, (g3.block k (h3 k hk).lt (fun e1 => (h3 k hk).ne h.bk (by decide) (Option.some.inj e1))).trans hc⟩
/-- where other blocks are written -/
theorem Pz.kept {b : Nat} {w w' : World} {rest : List Value} {l : List Lex.Tok} (h : Pz b w rest l) {row : Option Nat} (hg : w.grownBy w' row) (hne : ∀ g, Bk w 86 g ∨ Bk w 33 g → row ≠ some g) : Pz b w' rest l := by
  obtain ⟨lv, h1, h2, h3⟩ := h.ex
  refine ⟨lv, grown_heap hg h1 (hne _ (.inl h.bk)), ?_, ?_⟩
  · obtain ⟨ao, cap, rfl, g1, g2, g3, g4⟩ := h2.shp
    refine ⟨ao, cap, rfl, g1, g2, g3, ?_⟩
    rcases g4 with g4 | ⟨c, off, rfl, hc, hcell⟩
    · exact .inl g4
    · refine .inr ⟨c, off, rfl, Nat.lt_of_lt_of_le hc hg.size, fun k hk j hj => ?_⟩
      rw [World.cell?_of_block (a := ⟨c, off + k * 3 + j, none⟩) (hg.block c hc (fun e => hne c (.inr (h3 c rfl)) e.symm))]
      exact hcell k hk j hj
  · intro k hk
    obtain ⟨c, hc⟩ := h3 k hk
    exact ⟨c, grown_heap hg hc (hne _ (.inr (h3 k hk)))⟩
theorem Pz.ext {b : Nat} {w w' : World} {rest : List Value} {l : List Lex.Tok} (h : Pz b w rest l) (hb : Below w.heap.size w w') : Pz b w' rest l :=
  h.kept (row := none) ⟨hb.os, hb.tape, hb.output, hb.size, fun k hk _ => hb.block k hk⟩ (by simp)
theorem Pz.lt {b : Nat} {w : World} {rest : List Value} {l : List Lex.Tok} (h : Pz b w rest l) : b < w.heap.size := h.bk.lt
theorem Pz.alloc {b : Nat} {w : World} {rest : List Value} {l : List Lex.Tok} (h : Pz b w rest l) (o : Obj) : Pz b (w.alloc o) rest l := h.ext ((Below.refl _ _).alloc (Nat.le_refl _) _)
theorem Pz.drew {b : Nat} {w : World} {rest : List Value} {l : List Lex.Tok} (h : Pz b w rest l) : Pz b w.drew rest l := h.ext (Below.refl _ _).drew
/-- where an own slice is written -/
theorem Pz.own {α : Type} {en : α → List Value} {s base : Nat} {e : TypeId} {v : Value} {x : List α} {b : Nat} {w w' : World} {rest : List Value} {l : List Lex.Tok} (h : Pz b w rest l) (ho : Own en s base e w v x) (hg : w.grownBy w' v.ownBlock) (h1 : (86 : TypeId) ≠ e) (h2 : (33 : TypeId) ≠ e) : Pz b w' rest l := by
  refine h.kept hg ?_
  rintro g (⟨c, hc⟩ | ⟨c, hc⟩)
  · exact ho.ne_elem hc h1
  · exact ho.ne_elem hc h2
end Go.Proofs.Ytolahnnkdpbdfaa

namespace Go.Prs
open Go.Lex
/-- tokens as they come: short, the last one alone an end -/
def Tl : List Tok → Prop
  | [] => False
  | t :: r => (t.2.1.length ≤ 200 ∧ (t.1 = 7 → 2 ≤ t.2.1.length)) ∧ ((t.1 = 9 ∧ r = []) ∨ (t.1 ≠ 9 ∧ Tl r))
theorem Tl.ne {l : List Tok} (h : Tl l) : l ≠ [] := by rintro rfl; exact h
theorem Tl.tail {l : List Tok} (h : Tl l) (hk : kd l ≠ 9) : Tl l.tail := by
  cases l with
  | nil => exact h.elim
  | cons t r =>
    rcases h.2 with ⟨h1, _⟩ | ⟨_, h2⟩
    · exact absurd h1 hk
    · exact h2
theorem Tl.len {l : List Tok} (h : Tl l) : (tx l).length ≤ 200 := by
  cases l with
  | nil => exact h.elim
  | cons t r => exact h.1.1
theorem Tl.brace {l : List Tok} (h : Tl l) (hk : kd l = 7) : 2 ≤ (tx l).length := by
  cases l with
  | nil => exact h.elim
  | cons t r => exact h.1.2 hk
theorem Tl.cons {l : List Tok} (h : Tl l) : ∃ t r, l = t :: r := by
  cases l with
  | nil => exact h.elim
  | cons t r => exact ⟨t, r, rfl⟩
end Go.Prs
namespace Go.Proofs.Ytolahnnkdpbdfaa
open Go.RowKit Go.Sl Go.Prs
theorem grown_refl (w : World) (b : Nat) : w.grownBy w (some b) := ⟨rfl, rfl, rfl, Nat.le_refl _, fun _ _ _ => rfl⟩
theorem grown_trans {w w' w'' : World} {b : Nat} (h : w.grownBy w' (some b)) (h2 : w'.grownBy w'' (some b)) : w.grownBy w'' (some b) :=
  ⟨h2.os.trans h.os, h2.tape.trans h.tape, h2.output.trans h.output, Nat.le_trans h.size h2.size, fun k hk hne => (h2.block k (Nat.lt_of_lt_of_le hk h.size) hne).trans (h.block k hk hne)⟩
/-- what a step of the parser ends with -/
def PPost {α : Type} (b : Nat) (w : World) (rest : List Value) (o : Except Nat (α × List Lex.Tok)) (R : α → Value → World → Prop) (e : Ending) (w' : World) : Prop :=
  w.grownBy w' (some b) ∧ match o with
  | .ok (x, r) => ∃ v, e = .returned v ∧ R x v w' ∧ Pz b w' rest r ∧ Tl r
  | .error p => e = .panicked (flt p)
set_option maxHeartbeats 1000000 in
theorem count1_any (b : Nat) (rest : List Value) (l : List Lex.Tok) (w : World) (h : Pz b w rest l) (ht : Tl l) :
    Calls Try.prog 104 #[.pointer (some ⟨b, 0, none⟩)] w (PPost b w rest (cnt l) fun n v _ => v = .int .i64 (n : Nat)) := by
  have HP := Lib.hid h
  have HT := Lib.hid ht
  have HK := Lib.hid (h.kind ht.ne)
  have HF := Lib.hid (h.fail ht.ne)
  obtain ⟨lv, h1, h2, _⟩ := h.ex
  obtain ⟨b5, o5, h5, hix, e0, e1, e2⟩ := tok0 h2 ht.ne
  have hc : w.cell? ⟨b, 0, none⟩ = some lv := by simp [World.cell?, h1]
  by_cases hk : kd l = 1
  · obtain ⟨n, hn⟩ : ∃ n, Hid ((Lex.count (tx l)).1 = n) := ⟨_, Lib.hid rfl⟩
    obtain ⟨t, hh⟩ : ∃ n, Hid ((Lex.count (tx l)).2 = n) := ⟨_, Lib.hid rfl⟩
    have HC := Lib.hid (count_any (tx l) n t (by rw [← hn.out, ← hh.out]) w (by have := ht.len; omega))
    have HK2 := Lib.hid hk
    rw [hk] at HK
    clear h ht h1 h2 hk
    go_enter Try.func104, Try.ntmps104
    go_wp2_with fail
    refine HK.out.mono ?_
    rintro e w' ⟨rfl, rfl⟩
    go_wp2_with fail
    refine HC.out.mono ?_
    rintro e w' ⟨rfl, rfl⟩
    cases t with
    | true =>
      obtain ⟨t0, r0, rfl⟩ := HT.out.cons
      have HZ : Hid (cnt (t0 :: r0) = .ok (n, r0)) := Lib.hid (by unfold cnt; rw [if_pos HK2.out, if_pos hh.out, hn.out]; rfl)
      have HTk := Lib.hid HP.out.take
      clear HC HK HF
      go_wp2_with fail
      refine HTk.out.mono ?_
      rintro e w' ⟨rfl, hp, hg⟩
      have HP2 := Lib.hid hp
      have HG := Lib.hid hg
      clear hp hg
      go_wp2_with fail
      go_ret
      refine ⟨HG.out, ?_⟩
      rw [HZ.out]
      exact ⟨_, rfl, rfl, HP2.out, HT.out.tail (by rw [HK2.out]; decide)⟩
    | false =>
      have HZ : Hid (cnt l = .error (pl l)) := Lib.hid (by unfold cnt; rw [if_pos HK2.out, if_neg (by rw [hh.out]; simp)])
      go_wp2_with fail
      refine HF.out.mono ?_
      rintro e w' ⟨rfl, rfl⟩
      refine ⟨rfl, grown_refl _ _, ?_⟩
      rw [HZ.out]
  · have HZ : Hid (cnt l = .ok (1, l)) := Lib.hid (by unfold cnt; rw [if_neg hk])
    obtain ⟨m, hm⟩ : ∃ m, Hid (kd l = m) := ⟨_, Lib.hid rfl⟩
    rw [hm.out] at hk HK
    have hk2 : ((m : Int) == 1) = false := by rw [beq_eq_false_iff_ne]; omega
    clear h ht h1 h2 e0
    go_enter Try.func104, Try.ntmps104
    go_wp2_with fail
    refine HK.out.mono ?_
    rintro e w' ⟨rfl, rfl⟩
    go_wp2_with fail
    go_ret
    refine ⟨grown_refl _ _, ?_⟩
    rw [HZ.out]
    exact ⟨_, rfl, rfl, HP.out, HT.out⟩
end Go.Proofs.Ytolahnnkdpbdfaa

namespace Go.Prs
open Go.Lex
/-- steps put ahead -/
def pre (a : List St) : Except Nat (List St × List Tok) → Except Nat (List St × List Tok)
  | .ok (l, r) => .ok (a ++ l, r)
  | .error e => .error e
theorem pre_nil (o : Except Nat (List St × List Tok)) : pre [] o = o := by rcases o with e | ⟨l, r⟩ <;> rfl
theorem pre_cons (a : List St) (x : St) (o : Except Nat (List St × List Tok)) : pre a (cons x o) = pre (a ++ [x]) o := by rcases o with e | ⟨l, r⟩ <;> simp [pre, cons]
theorem cnt_len {l : List Tok} {n : Nat} {r : List Tok} (h : cnt l = .ok (n, r)) : r.length ≤ l.length := by
  unfold cnt at h
  split at h
  · split at h
    · cases h; simp
    · cases h
  · cases h; exact Nat.le_refl _
theorem steps_fuel : ∀ (f g : Nat) (l : List Tok), l.length ≤ f → l.length ≤ g → steps f l = steps g l
  | 0, g, l, h, _ => by
    obtain rfl : l = [] := List.eq_nil_of_length_eq_zero (by omega)
    cases g <;> rfl
  | f + 1, 0, l, _, h => by
    obtain rfl : l = [] := List.eq_nil_of_length_eq_zero (by omega)
    rfl
  | f + 1, g + 1, l, h1, h2 => by
    unfold steps
    by_cases hl : l = []
    · subst hl; rfl
    · have := List.length_pos_iff.2 hl
      have ht : l.tail.length = l.length - 1 := by simp
      have ht2 : l.tail.tail.length = l.length - 2 := by simp; omega
      rw [steps_fuel f g l.tail.tail (by omega) (by omega)]
      cases hc : cnt l.tail with
      | error e => rfl
      | ok x =>
        obtain ⟨n, r⟩ := x
        have hr := cnt_len hc
        simp only [steps_fuel f g r (by omega) (by omega)]
end Go.Prs
namespace Go.Proofs.Ytolahnnkdpbdfaa
open Go.RowKit Go.Sl Go.Prs
theorem cells103 : Try.prog.cellsOf 103 = 3 := by kernel_rfl
theorem some103 : (Try.prog.info? 103).isSome = true := by kernel_rfl
theorem info103 : (Try.prog.info? 103).map (fun i => (i.zero, i.size, i.bytes)) = some (some (.agg #[.int .i64 0, .int .i64 0, .string .empty]), 3, 32) := by kernel_rfl
/-- how many elements a slice has -/
def nOf (v : Value) : Nat := match v with | .slice _ n _ => n | _ => 0
theorem Own_nOf {α : Type} {en : α → List Value} {s base : Nat} {e : TypeId} {w : World} {v : Value} {l : List α} (h : Own en s base e w v l) : nOf v = l.length := by
  rcases h.2 with ⟨rfl, h0⟩ | ⟨g, cap, cur, rfl, _⟩
  · simpa [nOf] using h0.symm
  · rfl
end Go.Proofs.Ytolahnnkdpbdfaa

namespace Go.Prs
open Go.Lex
theorem steps_peel {f : Nat} {l : List Tok} (hf : l.length ≤ f) (hl : l ≠ []) (h3 : kd l = 3) (h7 : kd l.tail = 7) : steps f l = cons ⟨3, 0, inner (tx l.tail)⟩ (steps (f - 1) l.tail.tail) := by
  have := List.length_pos_iff.2 hl
  obtain ⟨g, rfl⟩ : ∃ g, f = g + 1 := ⟨f - 1, by omega⟩
  rw [steps, if_pos h3, if_pos h7]; rfl
theorem steps_up {f : Nat} {l : List Tok} {n : Nat} {r : List Tok} (hf : l.length ≤ f) (hl : l ≠ []) (h3 : kd l = 3) (h7 : kd l.tail ≠ 7) (hc : cnt l.tail = .ok (n, r)) : steps f l = cons ⟨1, n, []⟩ (steps (f - 1) r) := by
  have := List.length_pos_iff.2 hl
  obtain ⟨g, rfl⟩ : ∃ g, f = g + 1 := ⟨f - 1, by omega⟩
  rw [steps, if_pos h3, if_neg h7, hc]; rfl
theorem steps_upE {f : Nat} {l : List Tok} {p : Nat} (hf : l.length ≤ f) (hl : l ≠ []) (h3 : kd l = 3) (h7 : kd l.tail ≠ 7) (hc : cnt l.tail = .error p) : steps f l = .error p := by
  have := List.length_pos_iff.2 hl
  obtain ⟨g, rfl⟩ : ∃ g, f = g + 1 := ⟨f - 1, by omega⟩
  rw [steps, if_pos h3, if_neg h7, hc]
theorem steps_back {f : Nat} {l : List Tok} {n : Nat} {r : List Tok} (hf : l.length ≤ f) (hl : l ≠ []) (h4 : kd l = 4) (hc : cnt l.tail = .ok (n, r)) : steps f l = cons ⟨2, n, []⟩ (steps (f - 1) r) := by
  have := List.length_pos_iff.2 hl
  obtain ⟨g, rfl⟩ : ∃ g, f = g + 1 := ⟨f - 1, by omega⟩
  rw [steps, if_neg (by omega), if_pos h4, hc]; rfl
theorem steps_backE {f : Nat} {l : List Tok} {p : Nat} (hf : l.length ≤ f) (hl : l ≠ []) (h4 : kd l = 4) (hc : cnt l.tail = .error p) : steps f l = .error p := by
  have := List.length_pos_iff.2 hl
  obtain ⟨g, rfl⟩ : ∃ g, f = g + 1 := ⟨f - 1, by omega⟩
  rw [steps, if_neg (by omega), if_pos h4, hc]
theorem steps_end {f : Nat} {l : List Tok} (h3 : kd l ≠ 3) (h4 : kd l ≠ 4) : steps f l = .ok ([], l) := by
  cases f with
  | zero => rfl
  | succ f => rw [steps, if_neg h3, if_neg h4]
end Go.Prs
namespace Go.Proofs.Ytolahnnkdpbdfaa
open Go.RowKit Go.Sl Go.Prs
theorem PPost.ok {α : Type} {b : Nat} {w : World} {rest : List Value} {o : Except Nat (α × List Lex.Tok)} {R : α → Value → World → Prop} {x : α} {r : List Lex.Tok} {f : Nat} {xs : Array Value} (h : Calls Try.prog f xs w (PPost b w rest o R)) (ho : o = .ok (x, r)) :
    Calls Try.prog f xs w fun e w' => ∃ v, e = .returned v ∧ R x v w' ∧ Pz b w' rest r ∧ Tl r ∧ w.grownBy w' (some b) := by
  subst ho
  refine h.mono ?_
  rintro e w' ⟨hg, v, h1, h2, h3, h4⟩
  exact ⟨v, h1, h2, h3, h4, hg⟩
theorem PPost.bad {α : Type} {b : Nat} {w : World} {rest : List Value} {o : Except Nat (α × List Lex.Tok)} {R : α → Value → World → Prop} {p : Nat} {f : Nat} {xs : Array Value} (h : Calls Try.prog f xs w (PPost b w rest o R)) (ho : o = .error p) :
    Calls Try.prog f xs w fun e w' => e = .panicked (flt p) ∧ w.grownBy w' (some b) := by
  subst ho
  exact h.mono fun e w' ⟨hg, h1⟩ => ⟨h1, hg⟩
theorem PPost.is {α : Type} {b : Nat} {w w' : World} {rest : List Value} {o : Except Nat (α × List Lex.Tok)} {R : α → Value → World → Prop} {x : α} {r : List Lex.Tok} {v : Value} (ho : o = .ok (x, r)) (h1 : R x v w') (h2 : Pz b w' rest r) (h3 : Tl r) (h4 : w.grownBy w' (some b)) : PPost b w rest o R (.returned v) w' := by
  subst ho; exact ⟨h4, v, rfl, h1, h2, h3⟩
theorem PPost.no {α : Type} {b : Nat} {w w' : World} {rest : List Value} {o : Except Nat (α × List Lex.Tok)} {R : α → Value → World → Prop} {p : Nat} (ho : o = .error p) (h4 : w.grownBy w' (some b)) : PPost b w rest o R (.panicked (flt p)) w' := by
  subst ho; exact ⟨h4, rfl⟩
theorem grown_below {w w' : World} {b : Nat} (h : Below w.heap.size w w') : w.grownBy w' (some b) := ⟨h.os, h.tape, h.output, h.size, fun k hk _ => h.block k hk⟩
end Go.Proofs.Ytolahnnkdpbdfaa

namespace Go.Proofs.Ytolahnnkdpbdfaa
open Go.RowKit Go.Sl Go.Prs
theorem inner_eq (s : List UInt8) : Prs.inner s = s.tail.take (s.length - 1 - 1) := by unfold Prs.inner; rw [List.drop_one, Nat.sub_sub]
theorem fld33 (a b c : Value) (u : World) : (Instr.field 33 (.agg #[a, b, c]) 1).run Try.prog u = .ok b u := by kernel_rfl
/-- what stands while steps are read -/
def StR (b : Nat) (w : World) (rest : List Value) (F : Nat) (l : List Lex.Tok) (o : Value) (wr : World) : Prop :=
  ∃ (f : Nat) (l1 : List Lex.Tok) (acc : List St), l1.length ≤ f ∧ acc.length + l1.length ≤ l.length ∧ nOf o = acc.length ∧ Hid (steps F l = pre acc (steps f l1)) ∧
    Hid (Own eSt 3 w.heap.size 103 wr o acc) ∧ Hid (Pz b wr rest l1) ∧ Hid (Tl l1) ∧ Hid (w.grownBy wr (some b)) ∧ w.heap.size ≤ wr.heap.size
theorem StR.mk {b : Nat} {w : World} {rest : List Value} {F : Nat} {l : List Lex.Tok} {o : Value} {wr : World} {f : Nat} {l1 : List Lex.Tok} {acc : List St} (h1 : l1.length ≤ f) (h2 : acc.length + l1.length ≤ l.length) (h4 : steps F l = pre acc (steps f l1)) (h5 : Own eSt 3 w.heap.size 103 wr o acc) (h6 : Pz b wr rest l1) (h7 : Tl l1) (h8 : w.grownBy wr (some b)) : StR b w rest F l o wr :=
  ⟨f, l1, acc, h1, h2, Own_nOf h5, Lib.hid h4, Lib.hid h5, Lib.hid h6, Lib.hid h7, Lib.hid h8, h8.size⟩
/-- the frame behind an append to an own slice -/
theorem grown_own {α : Type} {en : α → List Value} {s base : Nat} {e : TypeId} {v : Value} {x : List α} {w0 w w' : World} {b : Nat} (h : w0.grownBy w (some b)) (ho : Own en s base e w v x) (hg : w.grownBy w' v.ownBlock) (hb : w0.heap.size ≤ base) : w0.grownBy w' (some b) :=
  ⟨hg.os.trans h.os, hg.tape.trans h.tape, hg.output.trans h.output, Nat.le_trans h.size hg.size, fun k hk hne => (hg.block k (Nat.lt_of_lt_of_le hk h.size) (fun e1 => by have := (ho.lt _ e1.symm).1; omega)).trans (h.block k hk hne)⟩
theorem grown_alloc {w0 w : World} {b : Nat} (h : w0.grownBy w (some b)) (o : Obj) : w0.grownBy (w.alloc o) (some b) := grown_trans h (grown_below ((Below.refl _ _).alloc (Nat.le_refl _) _))
set_option maxRecDepth 100000 in
set_option maxHeartbeats 2000000 in
theorem steps1_any (b : Nat) (rest : List Value) (F : Nat) (l : List Lex.Tok) (w : World) (h : Pz b w rest l) (ht : Tl l) (hF : l.length ≤ F) (hl : l.length ≤ 100) :
    Calls Try.prog 98 #[.pointer (some ⟨b, 0, none⟩)] w (PPost b w rest (steps F l) fun x v w' => Own eSt 3 w.heap.size 103 w' v x) := by
  have HP := Lib.hid h
  have HT := Lib.hid ht
  have hbw : b < w.heap.size := h.lt
  clear h ht
  go_enter Try.func98, Try.ntmps98
  go_wp2_with fail
  go_loopw [3] (fun o wr => StR b w rest F l o wr) (fun o _ => l.length - nOf o)
  case atStart => exact StR.mk hF (by simp) (pre_nil _).symm (Own.nil _ _ _ _ _) HP.out HT.out (grown_refl _ _)
  case round =>
    clear HP HT
    obtain ⟨f, l1, acc, hf, hal, hno, HS, HO, HP, HT, HG, hsz⟩ := hrel
    have HNB := Lib.hid (HO.out.ne (g := b) (.inl hbw))
    have HNo := Lib.hid hno
    clear hno
    have HK := Lib.hid (HP.out.kind HT.out.ne)
    obtain ⟨m, hm⟩ : ∃ m, Hid (kd l1 = m) := ⟨_, Lib.hid rfl⟩
    rw [hm.out] at HK
    obtain ⟨t0, r0, rfl⟩ := HT.out.cons
    have h1 : acc.length + (r0.length + 1) ≤ l.length := hal
    have hTk := Lib.hid HP.out.take
    by_cases h3 : m = 3
    · subst h3
      have HT0 : Hid (Tl r0) := Lib.hid (HT.out.tail (by rw [hm.out]; decide))
      go_wp2_with fail
      refine HK.out.mono ?_
      rintro e w' ⟨rfl, rfl⟩
      go_wp2_with fail
      refine hTk.out.mono ?_
      rintro e w1 ⟨rfl, hp1, hg1⟩
      have HP1 := Lib.hid hp1
      have HG1 := Lib.hid (grown_trans HG.out hg1)
      have HO1 := Lib.hid (HO.out.kept hg1 (.inr HNB.out))
      clear hp1 hg1 HK hTk
      have HK1 := Lib.hid (HP1.out.kind HT0.out.ne)
      obtain ⟨m1, hm1⟩ : ∃ m, Hid (kd r0 = m) := ⟨_, Lib.hid rfl⟩
      rw [hm1.out] at HK1
      by_cases h7 : m1 = 7
      · subst h7
        obtain ⟨t1, r1, rfl⟩ := HT0.out.cons
        have hTk1 := Lib.hid HP1.out.take
        have h2 : 2 ≤ t1.2.1.length := HT0.out.brace hm1.out
        have h2' : t1.2.1.length ≤ 200 := HT0.out.len
        have HT1 : Hid (Tl r1) := Lib.hid (HT0.out.tail (by rw [hm1.out]; decide))
        go_wp2_with fail
        refine HK1.out.mono ?_
        rintro e w' ⟨rfl, rfl⟩
        go_wp2_with fail
        refine hTk1.out.mono ?_
        rintro e w2 ⟨rfl, hp2, hg2⟩
        have HP2 := Lib.hid hp2
        have HG2 := Lib.hid (grown_trans HG1.out hg2)
        have HO2 := Lib.hid (HO1.out.kept hg2 (.inr HNB.out))
        clear hp2 hg2 HK1 hTk1
        have hfd := fld33 (.int .i64 (t1.1 : Nat)) (.string (bstr t1.2.1)) (.int .i64 (t1.2.2 : Nat))
        go_wp2_with (at_builtin; go_must (refine wpList_append rfl _ _ _ rfl _ 32 Try.underlying79 info103 rfl (by omega) len_eSt one_eSt _ _ acc [⟨3, 0, t1.2.1.tail.take (t1.2.1.length - 1 - 1)⟩] (by rfl) (HO2.out.alloc _) (by rfl) (Sl.fresh len_eSt (by simp) rfl rfl (by simp [maxLen])) (by simp only [maxLen, List.length_cons, List.length_nil]; omega) (by simp only [List.length_cons, List.length_nil]; omega) (by have := HG2.out.size; simp; omega) ?_; intro v1 w1 hown1 hgr1 hb1; have HOa := Lib.hid hown1; have HGa := Lib.hid (grown_own (grown_alloc HG2.out _) (HO2.out.alloc _) hgr1 (Nat.le_refl _)); have HPa := Lib.hid ((HP2.out.alloc _).own (HO2.out.alloc _) hgr1 (by decide) (by decide)); clear hown1 hb1 hgr1))
        go_roundw
        case rel => exact StR.mk (f := f - 1) (by simp at hf; omega) (by simp; simp at h1; omega) (by rw [HS.out, steps_peel hf (by simp) hm.out hm1.out, pre_cons, show tx (t0 :: t1 :: r1).tail = t1.2.1 from rfl, inner_eq]; rfl) HOa.out HPa.out HT1.out HGa.out
        case measure => rw [Own_nOf HOa.out, HNo.out]; simp; omega
      · have h7b : ((m1 : Int) == 7) = false := by rw [beq_eq_false_iff_ne]; omega
        have H7 := Lib.hid h7
        clear h7
        have hC := Lib.hid (count1_any b rest r0 w1 HP1.out HT0.out)
        go_wp2_with fail
        refine HK1.out.mono ?_
        rintro e w' ⟨rfl, rfl⟩
        clear HK1
        cases hc : cnt r0 with
        | error p =>
          have HE : Hid (steps F l = .error p) := Lib.hid (by rw [HS.out, steps_upE hf (by simp) hm.out (by rw [show (t0 :: r0).tail = r0 from rfl, hm1.out]; exact H7.out) hc]; rfl)
          have hD := Lib.hid (PPost.bad hC.out hc)
          clear hc hC
          go_wp2_with fail
          refine hD.out.mono ?_
          rintro e w2 ⟨rfl, hg2⟩
          exact ⟨rfl, PPost.no HE.out (grown_trans HG1.out hg2)⟩
        | ok x =>
          obtain ⟨n, r⟩ := x
          have HS2 : Hid (steps f (t0 :: r0) = cons ⟨1, n, []⟩ (steps (f - 1) r)) := Lib.hid (steps_up hf (by simp) hm.out (by rw [show (t0 :: r0).tail = r0 from rfl, hm1.out]; exact H7.out) hc)
          have hrl := cnt_len hc
          have hD := Lib.hid (PPost.ok hC.out hc)
          clear hc hC
          go_wp2_with fail
          refine hD.out.mono ?_
          rintro e w2 ⟨v, rfl, rfl, hp2, ht2, hg2⟩
          have HP2 := Lib.hid hp2
          have HT2 := Lib.hid ht2
          have HG2 := Lib.hid (grown_trans HG1.out hg2)
          have HO2 := Lib.hid (HO1.out.kept hg2 (.inr HNB.out))
          clear hp2 ht2 hg2 hD
          go_wp2_with (at_builtin; go_must (refine wpList_append rfl _ _ _ rfl _ 32 Try.underlying79 info103 rfl (by omega) len_eSt one_eSt _ _ acc [⟨1, (n : Nat), []⟩] (by rfl) (HO2.out.alloc _) (by rfl) (Sl.fresh len_eSt (by simp) rfl rfl (by simp [maxLen])) (by simp only [maxLen, List.length_cons, List.length_nil]; omega) (by simp only [List.length_cons, List.length_nil]; omega) (by have := HG2.out.size; simp; omega) ?_; intro v1 w1 hown1 hgr1 hb1; have HOa := Lib.hid hown1; have HGa := Lib.hid (grown_own (grown_alloc HG2.out _) (HO2.out.alloc _) hgr1 (Nat.le_refl _)); have HPa := Lib.hid ((HP2.out.alloc _).own (HO2.out.alloc _) hgr1 (by decide) (by decide)); clear hown1 hb1 hgr1))
          go_roundw
          case rel => exact StR.mk (f := f - 1) (by simp at hf; omega) (by simp; omega) (by rw [HS.out, HS2.out, pre_cons]) HOa.out HPa.out HT2.out HGa.out
          case measure => rw [Own_nOf HOa.out, HNo.out]; simp; omega
    · have h3b : ((m : Int) == 3) = false := by rw [beq_eq_false_iff_ne]; omega
      have H3 := Lib.hid h3
      clear h3
      by_cases h4 : m = 4
      · subst h4
        have HT0 : Hid (Tl r0) := Lib.hid (HT.out.tail (by rw [hm.out]; decide))
        go_wp2_with fail
        refine HK.out.mono ?_
        rintro e w' ⟨rfl, rfl⟩
        go_wp2_with fail
        refine hTk.out.mono ?_
        rintro e w1 ⟨rfl, hp1, hg1⟩
        have HP1 := Lib.hid hp1
        have HG1 := Lib.hid (grown_trans HG.out hg1)
        have HO1 := Lib.hid (HO.out.kept hg1 (.inr HNB.out))
        clear hp1 hg1 HK hTk
        have hC := Lib.hid (count1_any b rest r0 w1 HP1.out HT0.out)
        cases hc : cnt r0 with
        | error p =>
          have HE : Hid (steps F l = .error p) := Lib.hid (by rw [HS.out, steps_backE hf (by simp) hm.out hc]; rfl)
          have hD := Lib.hid (PPost.bad hC.out hc)
          clear hc hC
          go_wp2_with fail
          refine hD.out.mono ?_
          rintro e w2 ⟨rfl, hg2⟩
          exact ⟨rfl, PPost.no HE.out (grown_trans HG1.out hg2)⟩
        | ok x =>
          obtain ⟨n, r⟩ := x
          have HS2 : Hid (steps f (t0 :: r0) = cons ⟨2, n, []⟩ (steps (f - 1) r)) := Lib.hid (steps_back hf (by simp) hm.out hc)
          have hrl := cnt_len hc
          have hD := Lib.hid (PPost.ok hC.out hc)
          clear hc hC
          go_wp2_with fail
          refine hD.out.mono ?_
          rintro e w2 ⟨v, rfl, rfl, hp2, ht2, hg2⟩
          have HP2 := Lib.hid hp2
          have HT2 := Lib.hid ht2
          have HG2 := Lib.hid (grown_trans HG1.out hg2)
          have HO2 := Lib.hid (HO1.out.kept hg2 (.inr HNB.out))
          clear hp2 ht2 hg2 hD
          go_wp2_with (at_builtin; go_must (refine wpList_append rfl _ _ _ rfl _ 32 Try.underlying79 info103 rfl (by omega) len_eSt one_eSt _ _ acc [⟨2, (n : Nat), []⟩] (by rfl) (HO2.out.alloc _) (by rfl) (Sl.fresh len_eSt (by simp) rfl rfl (by simp [maxLen])) (by simp only [maxLen, List.length_cons, List.length_nil]; omega) (by simp only [List.length_cons, List.length_nil]; omega) (by have := HG2.out.size; simp; omega) ?_; intro v1 w1 hown1 hgr1 hb1; have HOa := Lib.hid hown1; have HGa := Lib.hid (grown_own (grown_alloc HG2.out _) (HO2.out.alloc _) hgr1 (Nat.le_refl _)); have HPa := Lib.hid ((HP2.out.alloc _).own (HO2.out.alloc _) hgr1 (by decide) (by decide)); clear hown1 hb1 hgr1))
          go_roundw
          case rel => exact StR.mk (f := f - 1) (by simp at hf; omega) (by simp; omega) (by rw [HS.out, HS2.out, pre_cons]) HOa.out HPa.out HT2.out HGa.out
          case measure => rw [Own_nOf HOa.out, HNo.out]; simp; omega
      · have h4b : ((m : Int) == 4) = false := by rw [beq_eq_false_iff_ne]; omega
        have HE : Hid (steps F l = .ok (acc, t0 :: r0)) := Lib.hid (by rw [HS.out, steps_end (by rw [hm.out]; exact H3.out) (by rw [hm.out]; exact h4)]; simp [pre])
        clear h4
        go_wp2_with fail
        refine HK.out.mono ?_
        rintro e w' ⟨rfl, rfl⟩
        go_wp2_with fail
        go_ret
        exact PPost.is HE.out HO.out HP.out HT.out HG.out
end Go.Proofs.Ytolahnnkdpbdfaa

namespace Go.Prs
open Go.Lex
theorem base_of {s : List UInt8} (hp : 1 ≤ s.length) (hk : kind s = 1) : base s = (!(s[0]'hp == 46) && !(s[s.length - 1]'(by omega) == 46)) := by
  have h : s ≠ [] := by rintro rfl; simp at hp
  unfold base
  rw [List.getElem?_eq_getElem (by omega), List.getElem?_eq_getElem (by omega), decide_eq_true h, decide_eq_true hk, Bool.eq_iff_iff]
  simp
theorem base_no {s : List UInt8} (h : kind s ≠ 1) : base s = false := by unfold base; simp [h]
theorem right1 (s : List UInt8) : right 1 s 0 = decide (kind s = 1) := by
  rw [right_same, rright, decide_eq_decide]; omega
theorem kind_ne {s : List UInt8} (h : kind s = 1) : s ≠ [] := by rintro rfl; exact absurd h (by decide)
end Go.Prs
namespace Go.Proofs.Ytolahnnkdpbdfaa
theorem ne46 {c : UInt8} (h : ¬c = 46) : ((c.toNat : Int) != 46) = true := by
  rw [bne_iff_ne]
  intro h2
  exact h (UInt8.toNat_inj.1 (by have : c.toNat = 46 := by omega
                                 simpa using this))
theorem is46 {c : UInt8} (h : c = 46) : ((c.toNat : Int) != 46) = false := by subst h; rfl
open Go.RowKit Go.Sl Go.Prs
set_option maxHeartbeats 1000000 in
theorem base_any (s : List UInt8) (t : Bool) (ht : Prs.base s = t) (w : World) (hl : s.length ≤ 100000) : Calls Try.prog 92 #[.string (bstr s)] w fun e w' => e = .returned (.bool t) ∧ Below w.heap.size w w' := by
  by_cases hk : Lex.kind s = 1
  · have HR := Lib.hid (fun u => right_any 1 s 0 true (by rw [right1, decide_eq_true hk]) u hl)
    have hne := kind_ne hk
    have hp : 1 ≤ s.length := List.length_pos_iff.2 hne
    have HB := Lib.hid ((base_of hp hk).symm.trans ht)
    by_cases h0 : s[0] = 46
    · have d0 : (s[0] == 46) = true := by simp [h0]
      have c0 := is46 h0
      have HT : Hid (t = false) := Lib.hid (by rw [← HB.out, d0]; rfl)
      clear ht hne hk h0 d0
      go_enter Try.func92, Try.ntmps92
      go_wp2_with (go_at_call 18; go_must (refine (HR.out _).mono ?_; rintro e w' ⟨rfl, hb⟩; have HW := Lib.hid hb; clear hb))
      go_ret
      exact ⟨ret_bool HT.out.symm, HW.out⟩
    · have d0 : (s[0] == 46) = false := by simp [h0]
      by_cases h1 : s[s.length - 1] = 46
      · have d1 : (s[s.length - 1] == 46) = true := by simp [h1]
        have c1 := is46 h1
        have c0 := ne46 h0
        have HT : Hid (t = false) := Lib.hid (by rw [← HB.out, d1]; simp)
        clear ht hne hk h0 h1 d0 d1
        go_enter Try.func92, Try.ntmps92
        go_wp2_with (go_at_call 18; go_must (refine (HR.out _).mono ?_; rintro e w' ⟨rfl, hb⟩; have HW := Lib.hid hb; clear hb))
        go_ret
        exact ⟨ret_bool HT.out.symm, HW.out⟩
      · have d1 : (s[s.length - 1] == 46) = false := by simp [h1]
        have c0 := ne46 h0
        have c1 := ne46 h1
        have HT : Hid (t = true) := Lib.hid (by rw [← HB.out, d1, d0]; rfl)
        clear ht hne hk h0 h1 d0 d1
        go_enter Try.func92, Try.ntmps92
        go_wp2_with (go_at_call 18; go_must (refine (HR.out _).mono ?_; rintro e w' ⟨rfl, hb⟩; have HW := Lib.hid hb; clear hb))
        go_ret
        exact ⟨ret_bool HT.out.symm, HW.out⟩
  · have HR := Lib.hid (fun u => right_any 1 s 0 false (by rw [right1, decide_eq_false hk]) u hl)
    have HT : Hid (t = false) := Lib.hid (by rw [← ht, base_no hk])
    clear ht hk
    go_enter Try.func92, Try.ntmps92
    go_wp2_with (go_at_call 18; go_must (refine (HR.out _).mono ?_; rintro e w' ⟨rfl, hb⟩; have HW := Lib.hid hb; clear hb))
    go_ret
    exact ⟨ret_bool HT.out.symm, HW.out⟩
set_option maxHeartbeats 1000000 in
theorem rbase_any (s : List UInt8) (t : Bool) (ht : Prs.base s = t) (w : World) (hl : s.length ≤ 100000) : Calls Try.prog 79 #[.string (bstr s)] w fun e w' => e = .returned (.bool t) ∧ w = w' := by
  by_cases hn : s = []
  · subst hn
    have HT : Hid (t = false) := Lib.hid (by rw [← ht]; rfl)
    clear ht
    go_enter Try.func79, Try.ntmps79
    go_wp2_with fail
    go_ret
    exact ⟨ret_bool HT.out.symm, rfl⟩
  · have q0 : (s == []) = false := beq_eq_false_iff_ne.2 hn
    have q0' : s.isEmpty = false := by cases s <;> simp_all
    have hp : 1 ≤ s.length := List.length_pos_iff.2 hn
    obtain ⟨m, hm⟩ : ∃ m, Lex.kind s = m := ⟨_, rfl⟩
    have HK := Lib.hid (rkind_all s m hm w hl)
    by_cases hk : m = 1
    · subst hk
      have HB := Lib.hid ((base_of hp hm).symm.trans ht)
      by_cases h0 : s[0] = 46
      · have d0 : (s[0] == 46) = true := by simp [h0]
        have c0 := is46 h0
        have HT : Hid (t = false) := Lib.hid (by rw [← HB.out, d0]; rfl)
        clear ht hn hm h0 d0
        go_enter Try.func79, Try.ntmps79
        go_wp2_with (go_at_call 38; go_must (refine HK.out.mono ?_; rintro e w' ⟨rfl, rfl⟩))
        go_ret
        exact ⟨ret_bool HT.out.symm, rfl⟩
      · have d0 : (s[0] == 46) = false := by simp [h0]
        by_cases h1 : s[s.length - 1] = 46
        · have d1 : (s[s.length - 1] == 46) = true := by simp [h1]
          have c1 := is46 h1
          have c0 := ne46 h0
          have HT : Hid (t = false) := Lib.hid (by rw [← HB.out, d1]; simp)
          clear ht hn hm h0 h1 d0 d1
          go_enter Try.func79, Try.ntmps79
          go_wp2_with (go_at_call 38; go_must (refine HK.out.mono ?_; rintro e w' ⟨rfl, rfl⟩))
          go_ret
          exact ⟨ret_bool HT.out.symm, rfl⟩
        · have d1 : (s[s.length - 1] == 46) = false := by simp [h1]
          have c0 := ne46 h0
          have c1 := ne46 h1
          have HT : Hid (t = true) := Lib.hid (by rw [← HB.out, d1, d0]; rfl)
          clear ht hn hm h0 h1 d0 d1
          go_enter Try.func79, Try.ntmps79
          go_wp2_with (go_at_call 38; go_must (refine HK.out.mono ?_; rintro e w' ⟨rfl, rfl⟩))
          go_ret
          exact ⟨ret_bool HT.out.symm, rfl⟩
    · have HT : Hid (t = false) := Lib.hid (by rw [← ht, base_no (by rw [hm]; exact hk)])
      have dk : ((m : Int) == 1) = false := by rw [beq_eq_false_iff_ne]; omega
      clear ht hn hm hk
      go_enter Try.func79, Try.ntmps79
      go_wp2_with (go_at_call 38; go_must (refine HK.out.mono ?_; rintro e w' ⟨rfl, rfl⟩))
      go_ret
      exact ⟨ret_bool HT.out.symm, rfl⟩
end Go.Proofs.Ytolahnnkdpbdfaa

namespace Go.Prs
open Go.Lex
theorem rev_ok {l : List Tok} {x : List St} {r : List Tok} (h1 : kd l = 1) (h2 : base (tx l) = true) (hs : steps l.length l.tail = .ok (x, r)) : rev l = .ok (⟨tx l, x⟩, r) := by rw [rev, if_pos ⟨h1, h2⟩, hs]
theorem rev_err {l : List Tok} {p : Nat} (h1 : kd l = 1) (h2 : base (tx l) = true) (hs : steps l.length l.tail = .error p) : rev l = .error p := by rw [rev, if_pos ⟨h1, h2⟩, hs]
theorem rev_no {l : List Tok} (h : ¬(kd l = 1 ∧ base (tx l) = true)) : rev l = .error (pl l) := by rw [rev, if_neg h]
end Go.Prs
namespace Go.Proofs.Ytolahnnkdpbdfaa
open Go.RowKit Go.Sl Go.Prs
theorem Pz.tok {b : Nat} {w : World} {rest : List Value} {l : List Lex.Tok} (h : Pz b w rest l) (hl : l ≠ []) : ∃ lv b5 o5, w.cell? ⟨b, 0, none⟩ = some lv ∧ b5 < w.heap.size ∧ (∀ (ik : IntKind) (u : World), (Instr.indexAt 23 lv (.int ik 0)).run Try.prog u = .ok (.pointer (some ⟨b5, o5, none⟩)) u) ∧ w.cell? ⟨b5, o5, none⟩ = some (.int .i64 (kd l : Nat)) ∧ w.cell? ⟨b5, o5 + 1, none⟩ = some (.string (bstr (tx l))) ∧ w.cell? ⟨b5, o5 + 2, none⟩ = some (.int .i64 (pl l : Nat)) := by
  obtain ⟨lv, h1, h2, _⟩ := h.ex
  obtain ⟨b5, o5, h5, hix, e0, e1, e2⟩ := tok0 h2 hl
  exact ⟨lv, b5, o5, by simp [World.cell?, h1], h5, hix, e0, e1, e2⟩
theorem grown_set (w : World) (a : Addr) (v : Value) : w.grownBy (w.setCell a v) (some a.block) := ⟨rfl, rfl, rfl, by simp, fun k hk hne => Below.heap_setCell _ _ _ _ (by rintro rfl; exact hne rfl)⟩
theorem Pz.set {b : Nat} {w : World} {rest : List Value} {l : List Lex.Tok} (h : Pz b w rest l) {a : Addr} {e : TypeId} (ha : Bk w e a.block) (v : Value) (h1 : (86 : TypeId) ≠ e) (h2 : (33 : TypeId) ≠ e) : Pz b (w.setCell a v) rest l := by
  refine h.kept (grown_set w a v) ?_
  rintro g (hg | hg)
  · exact fun e1 => hg.ne ha h1 (Option.some.inj e1).symm
  · exact fun e1 => hg.ne ha h2 (Option.some.inj e1).symm
theorem Bk.set {w : World} {e : TypeId} {k : Nat} (h : Bk w e k) (j o : Nat) (v : Value) : Bk (w.setCell ⟨j, o, none⟩ v) e k := by
  obtain ⟨c, hc⟩ := h
  by_cases hj : k = j
  · subst hj
    exact ⟨_, heap_setCell_same _ _ _ _ _ _ hc⟩
  · exact ⟨c, heap_set_keep hc hj⟩
theorem Bk.kept {w w' : World} {e : TypeId} {k : Nat} (h : Bk w e k) {row : Option Nat} (hg : w.grownBy w' row) (hne : row ≠ some k) : Bk w' e k := by
  obtain ⟨c, hc⟩ := h
  exact ⟨c, grown_heap hg hc hne⟩
/-- an own slice where a block of another type is written -/
theorem Own.set_bk {α : Type} {en : α → List Value} {s base : Nat} {e e' : TypeId} {w : World} {v : Value} {l : List α} (h : Own en s base e w v l) {k : Nat} (hk : Bk w e' k) (hne : e' ≠ e) (o : Nat) (u : Value) : Own en s base e (w.setCell ⟨k, o, none⟩ u) v l := by
  obtain ⟨c, hc⟩ := hk
  exact h.set_other (h.ne_elem hc hne) u
/-- a commit as the program hands it back -/
def RvR (N : Nat) (x : Rv) (v : Value) (w' : World) : Prop := ∃ v2, v = .agg #[.string (bstr x.b), v2] ∧ Own eSt 3 N 103 w' v2 x.st
theorem grown_over {w0 w w' : World} {b k : Nat} (h : w0.grownBy w (some b)) (hg : w.grownBy w' (some k)) (hk : w0.heap.size ≤ k) : w0.grownBy w' (some b) :=
  ⟨hg.os.trans h.os, hg.tape.trans h.tape, hg.output.trans h.output, Nat.le_trans h.size hg.size, fun j hj hne => (hg.block j (Nat.lt_of_lt_of_le hj h.size) (fun e1 => by have := Option.some.inj e1; omega)).trans (h.block j hj hne)⟩
set_option maxRecDepth 100000 in
set_option maxHeartbeats 1000000 in
theorem rev1_any (b : Nat) (rest : List Value) (l : List Lex.Tok) (w : World) (h : Pz b w rest l) (ht : Tl l) (hl : l.length ≤ 100) :
    Calls Try.prog 87 #[.pointer (some ⟨b, 0, none⟩)] w (PPost b w rest (rev l) (RvR w.heap.size)) := by
  have HP := Lib.hid h
  have HT := Lib.hid ht
  have hbw : b < w.heap.size := h.lt
  have hlen := ht.len
  obtain ⟨lv, b5, o5, hc, h5, hix, e0, e1, e2⟩ := h.tok ht.ne
  have hcA : ∀ o : Obj, (w.alloc o).cell? ⟨b, 0, none⟩ = some lv := fun o => by rw [World.cell?_alloc_lt _ _ _ hbw]; exact hc
  have e1A : ∀ o : Obj, (w.alloc o).cell? ⟨b5, o5 + 1, none⟩ = some (.string (bstr (tx l))) := fun o => by rw [World.cell?_alloc_lt _ _ _ h5]; exact e1
  have hGA := Lib.hid (fun o : Obj => grown_below (b := b) ((Below.refl _ w).alloc (Nat.le_refl _) o))
  clear h ht e0 e1 e2 hc
  by_cases h1 : kd l = 1
  · have HK : Hid (∀ o : Obj, Calls Try.prog 70 #[.pointer (some ⟨b, 0, none⟩)] (w.alloc o) fun e w' => e = .returned (.int .i64 (1 : Nat)) ∧ w.alloc o = w') := Lib.hid (fun o => by have := (HP.out.alloc o).kind HT.out.ne; rwa [h1] at this)
    have H1 := Lib.hid h1
    clear h1
    obtain ⟨t, ht⟩ : ∃ t, Prs.base (tx l) = t := ⟨_, rfl⟩
    have HB := Lib.hid (fun u => base_any (tx l) t ht u (by omega))
    have HBt := Lib.hid ht
    clear ht
    cases t with
    | true =>
      obtain ⟨t0, r0, rfl⟩ := HT.out.cons
      have HT0 : Hid (Tl r0) := Lib.hid (HT.out.tail (by rw [H1.out]; decide))
      have hr : r0.length + 1 ≤ 100 := hl
      have hfd := fld33 (.int .i64 (t0.1 : Nat)) (.string (bstr t0.2.1)) (.int .i64 (t0.2.2 : Nat))
      have hNA := Lib.hid (heap_alloc_new w (.cells #[.string .empty, .slice none 0 0] 81))
      go_enter Try.func87, Try.ntmps87
      go_wp2_with fail
      refine (HK.out _).mono ?_
      rintro e w' ⟨rfl, rfl⟩
      go_wp2_with fail
      refine (HB.out _).mono ?_
      rintro e w1 ⟨rfl, hb⟩
      have HTk := Lib.hid (((HP.out.alloc _).ext hb).take)
      have HG1 := Lib.hid (grown_trans (hGA.out _) (grown_below (b := b) hb))
      have HN1 := Lib.hid ((hb.block _ (by simp)).trans hNA.out)
      have hs1 : w.heap.size + 1 ≤ w1.heap.size := by have := hb.size; simpa using this
      clear hb hNA
      go_wp2_with fail
      refine HTk.out.mono ?_
      rintro e w2 ⟨rfl, hp2, hg2⟩
      have HG2 := Lib.hid (grown_trans HG1.out hg2)
      have HN2 := Lib.hid (grown_heap hg2 HN1.out (by intro e1; have := Option.some.inj e1; omega))
      have hs2 : w.heap.size + 1 ≤ w2.heap.size := by have := hg2.size; omega
      have HSt := Lib.hid (steps1_any b rest (t0 :: r0).length r0 w2 hp2 HT0.out (by simp) (by omega))
      clear hp2 hg2 HTk HG1 HN1
      cases hst : steps (t0 :: r0).length r0 with
      | error p =>
        have HE : Hid (rev (t0 :: r0) = .error p) := Lib.hid (rev_err H1.out HBt.out hst)
        have hD := Lib.hid (PPost.bad HSt.out hst)
        clear hst HSt
        go_wp2_with fail
        refine hD.out.mono ?_
        rintro e w3 ⟨rfl, hg3⟩
        exact ⟨rfl, PPost.no HE.out (grown_trans HG2.out hg3)⟩
      | ok x =>
        obtain ⟨x, r⟩ := x
        have HE : Hid (rev (t0 :: r0) = .ok (⟨t0.2.1, x⟩, r)) := Lib.hid (rev_ok H1.out HBt.out hst)
        have hD := Lib.hid (PPost.ok HSt.out hst)
        clear hst HSt
        go_wp2_with fail
        refine hD.out.mono ?_
        rintro e w3 ⟨v, rfl, ho3, hp3, ht3, hg3⟩
        have HG3 := Lib.hid (grown_trans HG2.out hg3)
        have HN3 := Lib.hid (grown_heap hg3 HN2.out (by intro e1; have := Option.some.inj e1; omega))
        have HP3 := Lib.hid hp3
        have HT3 := Lib.hid ht3
        obtain ⟨a3, n3, c3, rfl⟩ := ho3.isSlice
        have HO3 := Lib.hid (ho3.mono (Nat.le_trans (Nat.le_succ _) hs2))
        obtain ⟨hn1, hn2, hn3, hn4, hn5⟩ := two_cells HN3.out
        clear ho3 hp3 ht3 hg3 hD HG2 HN2
        go_wp2_with fail
        have hk := Lib.hid (show Bk w3 81 w.heap.size from ⟨_, HN3.out⟩)
        clear hfd hix hcA e1A
        exact bodyPost_ret (v := .agg #[.string (bstr t0.2.1), .slice a3 n3 c3]) (by simp [results, Try.results87, go_sem, hn2, hn3]) rfl
          (PPost.is HE.out ⟨_, rfl, Own.set_bk (Own.set_bk HO3.out hk.out (by decide) _ _) (hk.out.set _ _ _) (by decide) _ _⟩ ((HP3.out.set (a := ⟨w.heap.size, 0, none⟩) hk.out _ (by decide) (by decide)).set (a := ⟨w.heap.size, 1, none⟩) (hk.out.set _ _ _) _ (by decide) (by decide)) HT3.out
            (grown_over (grown_over HG3.out (grown_set _ ⟨w.heap.size, 0, none⟩ _) (Nat.le_refl _)) (grown_set _ ⟨w.heap.size, 1, none⟩ _) (Nat.le_refl _)))
    | false =>
      have HE : Hid (rev l = .error (pl l)) := Lib.hid (rev_no (by rw [HBt.out]; simp))
      go_enter Try.func87, Try.ntmps87
      go_wp2_with fail
      refine (HK.out _).mono ?_
      rintro e w' ⟨rfl, rfl⟩
      go_wp2_with fail
      refine (HB.out _).mono ?_
      rintro e w1 ⟨rfl, hb⟩
      have HF := Lib.hid (((HP.out.alloc _).ext hb).fail HT.out.ne)
      have HG := Lib.hid (grown_trans (hGA.out _) (grown_below (b := b) hb))
      clear hb
      go_wp2_with fail
      refine HF.out.mono ?_
      rintro e w2 ⟨rfl, rfl⟩
      exact ⟨rfl, PPost.no HE.out HG.out⟩
  · have HE : Hid (rev l = .error (pl l)) := Lib.hid (rev_no (fun h => h1 h.1))
    obtain ⟨m, hm⟩ : ∃ m, Hid (kd l = m) := ⟨_, Lib.hid rfl⟩
    have h1b : ((m : Int) != 1) = true := by rw [bne_iff_ne]; have := hm.out; omega
    have HK : Hid (∀ o : Obj, Calls Try.prog 70 #[.pointer (some ⟨b, 0, none⟩)] (w.alloc o) fun e w' => e = .returned (.int .i64 (m : Nat)) ∧ w.alloc o = w') := Lib.hid (fun o => by have := (HP.out.alloc o).kind HT.out.ne; rwa [hm.out] at this)
    clear h1
    go_enter Try.func87, Try.ntmps87
    go_wp2_with fail
    refine (HK.out _).mono ?_
    rintro e w' ⟨rfl, rfl⟩
    have HF := Lib.hid (fun o : Obj => (HP.out.alloc o).fail HT.out.ne)
    go_wp2_with fail
    refine (HF.out _).mono ?_
    rintro e w2 ⟨rfl, rfl⟩
    exact ⟨rfl, PPost.no HE.out (hGA.out _)⟩
end Go.Proofs.Ytolahnnkdpbdfaa

namespace Go.Prs
open Go.Lex
theorem item_up {nt : Bool} {l : List Tok} {a : Rv} {r : List Tok} (h : kd l = 3) (hr : rev l.tail = .ok (a, r)) : item nt l = .ok (⟨1, a, zRv, !nt⟩, r) := by rw [item, if_pos h, hr]
theorem item_upE {nt : Bool} {l : List Tok} {p : Nat} (h : kd l = 3) (hr : rev l.tail = .error p) : item nt l = .error p := by rw [item, if_pos h, hr]
theorem item_1E {nt : Bool} {l : List Tok} {p : Nat} (h : kd l ≠ 3) (hd : dots l = 0) (hr : rev l = .error p) : item nt l = .error p := by rw [item, if_neg h, if_pos hd, hr]
theorem item_one {nt : Bool} {l : List Tok} {a : Rv} {r : List Tok} (h : kd l ≠ 3) (hd : dots l = 0) (hr : rev l = .ok (a, r)) (h0 : dots r = 0) : item nt l = .ok (⟨1, a, zRv, nt⟩, r) := by rw [item, if_neg h, if_pos hd, hr]; simp only [if_pos h0]
theorem item_two {nt : Bool} {l : List Tok} {a b : Rv} {r r' : List Tok} (h : kd l ≠ 3) (hd : dots l = 0) (hr : rev l = .ok (a, r)) (h0 : dots r ≠ 0) (h1 : kd r.tail = 1) (hb : rev r.tail = .ok (b, r')) : item nt l = .ok (⟨dots r, a, b, nt⟩, r') := by rw [item, if_neg h, if_pos hd, hr]; simp only [if_neg h0, if_pos h1, hb]
theorem item_twoE {nt : Bool} {l : List Tok} {a : Rv} {r : List Tok} {p : Nat} (h : kd l ≠ 3) (hd : dots l = 0) (hr : rev l = .ok (a, r)) (h0 : dots r ≠ 0) (h1 : kd r.tail = 1) (hb : rev r.tail = .error p) : item nt l = .error p := by rw [item, if_neg h, if_pos hd, hr]; simp only [if_neg h0, if_pos h1, hb]
theorem item_twoH {nt : Bool} {l : List Tok} {a : Rv} {r : List Tok} (h : kd l ≠ 3) (hd : dots l = 0) (hr : rev l = .ok (a, r)) (h0 : dots r ≠ 0) (h1 : kd r.tail ≠ 1) : item nt l = .ok (⟨dots r, a, here, nt⟩, r.tail) := by rw [item, if_neg h, if_pos hd, hr]; simp only [if_neg h0, if_neg h1]
theorem item_from {nt : Bool} {l : List Tok} {b : Rv} {r : List Tok} (h : kd l ≠ 3) (hd : dots l ≠ 0) (hr : rev l.tail = .ok (b, r)) : item nt l = .ok (⟨dots l, here, b, nt⟩, r) := by rw [item, if_neg h, if_neg hd, hr]
theorem item_fromE {nt : Bool} {l : List Tok} {p : Nat} (h : kd l ≠ 3) (hd : dots l ≠ 0) (hr : rev l.tail = .error p) : item nt l = .error p := by rw [item, if_neg h, if_neg hd, hr]
theorem steps_len : ∀ (f : Nat) (l : List Tok) {x : List St} {r : List Tok}, steps f l = .ok (x, r) → r.length ≤ l.length
  | 0, l, x, r, h => by cases h; exact Nat.le_refl _
  | f + 1, l, x, r, h => by
    have hc : ∀ {s : St} {o : Except Nat (List St × List Tok)} {x r}, cons s o = .ok (x, r) → ∃ y, o = .ok (y, r) := by
      intro s o x r h
      rcases o with e | ⟨y, q⟩
      · cases h
      · cases h; exact ⟨y, rfl⟩
    unfold steps at h
    split at h
    · split at h
      · obtain ⟨y, hy⟩ := hc h
        have := steps_len f _ hy
        simp at this; omega
      · split at h
        · cases h
        · rename_i n r1 h1
          obtain ⟨y, hy⟩ := hc h
          have := steps_len f _ hy
          have h2 := cnt_len h1
          simp at h2; omega
    · split at h
      · split at h
        · cases h
        · rename_i n r1 h1
          obtain ⟨y, hy⟩ := hc h
          have := steps_len f _ hy
          have h2 := cnt_len h1
          simp at h2; omega
      · cases h; exact Nat.le_refl _
theorem rev_len {l : List Tok} {x : Rv} {r : List Tok} (h : rev l = .ok (x, r)) : r.length + 1 ≤ l.length := by
  unfold rev at h
  split at h
  · rename_i h1
    split at h
    · cases h
    · rename_i x1 r1 hs
      cases h
      have := steps_len _ _ hs
      cases l with
      | nil => simp [kd] at h1
      | cons t l => simpa using this
  · cases h
theorem dots9 {l : List Tok} (h : dots l ≠ 0) : kd l ≠ 9 := by
  intro h9; unfold dots at h; rw [h9] at h; simp at h
end Go.Prs
namespace Go.Proofs.Ytolahnnkdpbdfaa
open Go.RowKit Go.Sl Go.Prs
theorem six_cells {w : World} {g : Nat} {a b c d e f : Value} {t : TypeId} (h : w.heap[g]? = some (.cells #[a, b, c, d, e, f] t (0, 0))) :
    g < w.heap.size ∧ w.cell? ⟨g, 0, none⟩ = some a ∧ w.cell? ⟨g, 1, none⟩ = some b ∧ w.cell? ⟨g, 2, none⟩ = some c ∧ w.cell? ⟨g, 3, none⟩ = some d ∧ w.cell? ⟨g, 4, none⟩ = some e ∧ w.cell? ⟨g, 5, none⟩ = some f :=
  ⟨(Array.getElem?_eq_some_iff.1 h).1, by simp [World.cell?, h], by simp [World.cell?, h], by simp [World.cell?, h], by simp [World.cell?, h], by simp [World.cell?, h], by simp [World.cell?, h]⟩
theorem bk_frozen {w : World} {e : TypeId} {g : Nat} (h : Bk w e g) (o : Nat) : w.frozen? ⟨g, o, none⟩ = false := by
  obtain ⟨c, hc⟩ := h
  simp [World.frozen?, hc]
theorem Pz.dots {b : Nat} {w : World} {rest : List Value} {l : List Lex.Tok} (h : Pz b w rest l) (hl : l ≠ []) : Calls Try.prog 88 #[.pointer (some ⟨b, 0, none⟩)] w fun e w' => e = .returned (.int .i64 (dots l : Nat)) ∧ w = w' := by
  obtain ⟨m, hm⟩ : ∃ m, Hid (kd l = m) := ⟨_, Lib.hid rfl⟩
  have HK := Lib.hid (h.kind hl)
  rw [hm.out] at HK
  clear h hl
  by_cases h5 : m = 5
  · subst h5
    have HZ : Hid (Prs.dots l = 2) := Lib.hid (by unfold Prs.dots; rw [if_pos hm.out])
    rw [HZ.out]
    go_enter Try.func88, Try.ntmps88
    go_wp2_with fail
    refine HK.out.mono ?_
    rintro e w' ⟨rfl, rfl⟩
    go_wp2_with fail
    go_ret
    exact ⟨rfl, rfl⟩
  · have d5 : ((m : Int) == 5) = false := by rw [beq_eq_false_iff_ne]; omega
    by_cases h6 : m = 6
    · subst h6
      have HZ : Hid (Prs.dots l = 3) := Lib.hid (by unfold Prs.dots; rw [if_neg (by rw [hm.out]; decide), if_pos hm.out])
      rw [HZ.out]
      clear h5
      go_enter Try.func88, Try.ntmps88
      go_wp2_with fail
      refine HK.out.mono ?_
      rintro e w' ⟨rfl, rfl⟩
      go_wp2_with fail
      go_ret
      exact ⟨rfl, rfl⟩
    · have d6 : ((m : Int) == 6) = false := by rw [beq_eq_false_iff_ne]; omega
      have HZ : Hid (Prs.dots l = 0) := Lib.hid (by unfold Prs.dots; rw [if_neg (by rw [hm.out]; exact h5), if_neg (by rw [hm.out]; exact h6)])
      rw [HZ.out]
      clear h5 h6
      go_enter Try.func88, Try.ntmps88
      go_wp2_with fail
      refine HK.out.mono ?_
      rintro e w' ⟨rfl, rfl⟩
      go_wp2_with fail
      go_ret
      exact ⟨rfl, rfl⟩
/-- an item as the program hands it back -/
def ItR (N : Nat) (x : It) (v : Value) (w' : World) : Prop := ∃ a2 n2 c2 a3 n3 c3, v = .agg #[.int .i64 x.k, .string (bstr x.a.b), .slice a2 n2 c2, .string (bstr x.b.b), .slice a3 n3 c3, .bool x.nt] ∧ Own eSt 3 N 103 w' (.slice a2 n2 c2) x.a.st ∧ Own eSt 3 N 103 w' (.slice a3 n3 c3) x.b.st
theorem Pz.cell {b : Nat} {w : World} {rest : List Value} {l : List Lex.Tok} (h : Pz b w rest l) {k : Nat} {v : Value} (hk : rest[k]? = some v) : w.cell? ⟨b, k + 1, none⟩ = some v := by
  obtain ⟨lv, h1, _⟩ := h.ex
  simp [World.cell?, h1, hk]
end Go.Proofs.Ytolahnnkdpbdfaa
