/- The plain law behind TreePaths and TreeMasks: trees as numbers; ways, leaves, paths. -/
import Derived.RowKit
namespace Go.Proofs.Ytokphbpgblhakaa
open Go.RowKit

structure Nd where
  par : Int
  tok : Int
  dep : Int
  deriving DecidableEq

/-- what a node i above 0 must be -/
def okAt (T : Nat → Nd) (i : Nat) : Prop :=
  0 ≤ (T i).par ∧ (T i).par < i ∧ 1 ≤ (T i).tok ∧ (T i).dep = wrap64 ((T (T i).par.toNat).dep + 1) ∧ (T (i - 1)).dep ≤ (T i).dep ∧
    ∀ k, 1 ≤ k → k < i → ¬ ((T k).par = (T i).par ∧ (T k).tok = (T i).tok)

def okTree (T : Nat → Nd) (n : Nat) : Prop := 1 ≤ n ∧ n ≤ 32 ∧ (T 0).par = -1 ∧ (T 0).dep = 0 ∧ ∀ i, 1 ≤ i → i < n → okAt T i

/-- the places from the root down to i -/
def way (T : Nat → Nd) (i : Nat) : List Nat :=
  if _h : 0 < i ∧ (T i).par.toNat < i then way T (T i).par.toNat ++ [i] else [i]
termination_by i
decreasing_by exact _h.2

theorem way_zero (T : Nat → Nd) : way T 0 = [0] := by unfold way; simp
theorem way_succ (T : Nat → Nd) {i : Nat} (h : 0 < i) (h' : (T i).par.toNat < i) : way T i = way T (T i).par.toNat ++ [i] := by
  conv => lhs; unfold way
  rw [dif_pos ⟨h, h'⟩]

def leafAt (T : Nat → Nd) (n i : Nat) : Bool := (List.range n).all fun j => (T j).par != (i : Int)

def pathsUpTo (T : Nat → Nd) (n k : Nat) : List (List Nat) := ((List.range k).filter (leafAt T n)).map (way T)
def paths (T : Nat → Nd) (n : Nat) : List (List Nat) := pathsUpTo T n n

theorem pathsUpTo_yes (T : Nat → Nd) (n k : Nat) (h : leafAt T n k = true) : pathsUpTo T n (k + 1) = pathsUpTo T n k ++ [way T k] := by
  simp [pathsUpTo, List.range_succ, List.filter_append, h]
theorem pathsUpTo_no (T : Nat → Nd) (n k : Nat) (h : leafAt T n k = false) : pathsUpTo T n (k + 1) = pathsUpTo T n k := by
  simp [pathsUpTo, List.range_succ, List.filter_append, h]

theorem pathsUpTo_le (T : Nat → Nd) (n k : Nat) : (pathsUpTo T n k).length ≤ k := by
  unfold pathsUpTo; rw [List.length_map]; exact Nat.le_trans (List.length_filter_le _ _) (by simp)

theorem leafAt_iff (T : Nat → Nd) (n i : Nat) : leafAt T n i = true ↔ ∀ j, j < n → (T j).par ≠ (i : Int) := by
  simp [leafAt]

/-- depths of a tree are small -/
theorem dep_of (T : Nat → Nd) (n : Nat) (h : okTree T n) : ∀ i, i < n → 0 ≤ (T i).dep ∧ (T i).dep ≤ i ∧ ((way T i).length : Int) = (T i).dep + 1 := by
  intro i
  induction i using Nat.strongRecOn with
  | _ i ih =>
    intro hi
    rcases Nat.eq_zero_or_pos i with rfl | hp
    · rw [way_zero, h.2.2.2.1]; simp
    · obtain ⟨h1, h2, _, h4, _⟩ := h.2.2.2.2 i hp hi
      have hlt : (T i).par.toNat < i := by omega
      obtain ⟨a, b, c⟩ := ih _ hlt (by omega)
      have hw : wrap64 ((T (T i).par.toNat).dep + 1) = (T (T i).par.toNat).dep + 1 := by unfold wrap64; have := h.2.1; omega
      rw [hw] at h4
      rw [way_succ T hp hlt]
      simp
      omega

theorem dep_par (T : Nat → Nd) (n : Nat) (h : okTree T n) {i : Nat} (hp : 0 < i) (hi : i < n) : (T i).dep = (T (T i).par.toNat).dep + 1 ∧ 0 ≤ (T i).par ∧ (T i).par.toNat < i := by
  obtain ⟨h1, h2, _, h4, _⟩ := h.2.2.2.2 i hp hi
  have hlt : (T i).par.toNat < i := by omega
  obtain ⟨a, b, _⟩ := dep_of T n h _ (show (T i).par.toNat < n by omega)
  have hw : wrap64 ((T (T i).par.toNat).dep + 1) = (T (T i).par.toNat).dep + 1 := by unfold wrap64; have := h.2.1; omega
  rw [hw] at h4
  exact ⟨h4, h1, hlt⟩

/-- the last place of a way is its own; the way's place at a node's depth on it is that node -/
theorem way_last (T : Nat → Nd) (i : Nat) : (way T i).getLast? = some i := by
  unfold way
  split <;> simp

theorem way_dep (T : Nat → Nd) (n : Nat) (h : okTree T n) (i : Nat) (hi : i < n) : (way T i)[(T i).dep.toNat]? = some i := by
  obtain ⟨a, b, c⟩ := dep_of T n h i hi
  have := way_last T i
  rw [List.getLast?_eq_getElem?] at this
  rw [← this]
  congr 1
  omega

end Go.Proofs.Ytokphbpgblhakaa
