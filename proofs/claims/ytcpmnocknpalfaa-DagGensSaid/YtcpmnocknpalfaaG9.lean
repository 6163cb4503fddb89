/-
  Layer 14, plain: children while they are gathered. No program is named here, no condition.
-/
import Derived.Test.YtcpmnocknpalfaaG6
namespace Go.Dag
/-- node a's children, of the nodes below n, and of n by its first k parents -/
def chK (g : List Nd) (n : Nat) (P : List Int) (k : Nat) (a : Nat) : List Int := chTo g a n ++ ((P.take k).filter (fun p => p == (a : Int))).map (fun _ => (n : Int))
theorem chK_zero (g : List Nd) (n : Nat) (P : List Int) (a : Nat) : chK g n P 0 a = chTo g a n := by simp [chK]
theorem chK_hit {g : List Nd} {n : Nat} {P : List Int} {k a : Nat} (hk : k < P.length) (h : P[k] = (a : Int)) : chK g n P (k + 1) a = chK g n P k a ++ [(n : Int)] := by
  unfold chK
  rw [List.take_succ_eq_append_getElem hk, List.filter_append, List.map_append, List.append_assoc]
  simp [h]
theorem chK_miss {g : List Nd} {n : Nat} {P : List Int} {k a : Nat} (hk : k < P.length) (h : ¬ P[k] = (a : Int)) : chK g n P (k + 1) a = chK g n P k a := by
  unfold chK
  rw [List.take_succ_eq_append_getElem hk, List.filter_append, List.map_append]
  simp [h]
theorem chK_done {g : List Nd} {n : Nat} {P : List Int} (hn : n < g.length) (hP : g[n].1 = P) (a : Nat) : chK g n P P.length a = chTo g a (n + 1) := by
  unfold chK
  show _ = chTo g a n ++ _
  rw [List.take_length]
  simp [hn, hP]
theorem chK_len {g : List Nd} (hg : okG g) {n k : Nat} {P : List Int} (hP : P.length ≤ 6) (hn : n ≤ g.length) (a : Nat) : (chK g n P k a).length ≤ 6 * n + 6 := by
  have h1 : ∀ n, n ≤ g.length → (chTo g a n).length ≤ 6 * n := by
    intro n
    induction n with
    | zero => intro _; exact Nat.le_refl _
    | succ n ih =>
      intro h
      show (chTo g a n ++ _).length ≤ _
      have hl : n < g.length := by omega
      have := (hg.2 n hl).1
      rw [List.length_append, List.length_map]
      simp only [List.getElem?_eq_getElem hl, Option.map_some, Option.getD_some]
      have h2 := List.length_filter_le (fun p => p == (a : Int)) g[n].1
      have := ih (by omega)
      omega
  unfold chK
  rw [List.length_append, List.length_map]
  have h2 := List.length_filter_le (fun p => p == (a : Int)) (P.take k)
  have h3 : (P.take k).length ≤ 6 := by simp; omega
  have := h1 n hn
  omega
end Go.Dag
