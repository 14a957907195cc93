/- The plain law behind TreeMasks: the sets of the ways; every node is on the way of a leaf. -/
import Derived.Test.YtokphbpgblhakaaTe
namespace Go.Proofs.Ytokphbpgblhakaa
open Go.RowKit

def bitsOf : List Nat → Nat
  | [] => 0
  | j :: l => 2 ^ j ||| bitsOf l

theorem bitsOf_append (a b : List Nat) : bitsOf (a ++ b) = bitsOf a ||| bitsOf b := by
  induction a with
  | nil => simp [bitsOf]
  | cons x a ih => simp [bitsOf, ih, Nat.or_assoc]

theorem bitsOf_snoc (a : List Nat) (j : Nat) : bitsOf (a ++ [j]) = bitsOf a ||| 2 ^ j := by
  rw [bitsOf_append]; simp [bitsOf]

theorem bitsOf_test (l : List Nat) (j : Nat) : (bitsOf l).testBit j = true ↔ j ∈ l := by
  induction l with
  | nil => simp [bitsOf]
  | cons x l ih =>
    rw [bitsOf, Nat.testBit_or, Bool.or_eq_true, ih, List.mem_cons, Nat.testBit_two_pow, decide_eq_true_iff]
    exact ⟨fun h => h.imp (fun h => h.symm) id, fun h => h.imp (fun h => h.symm) id⟩

theorem bitsOf_lt {l : List Nat} {n : Nat} (h : ∀ j ∈ l, j < n) : bitsOf l < 2 ^ n := by
  induction l with
  | nil => simp [bitsOf]; exact Nat.pow_pos (by decide)
  | cons x l ih => exact Nat.or_lt_two_pow (Nat.pow_lt_pow_right (by decide) (h x (by simp))) (ih fun j hj => h j (by simp [hj]))

theorem bitsOf_full {l : List Nat} {n : Nat} (h : ∀ j, j ∈ l ↔ j < n) : bitsOf l = 2 ^ n - 1 := by
  apply Nat.eq_of_testBit_eq
  intro j
  rw [Nat.testBit_two_pow_sub_one]
  by_cases hj : j < n
  · simp [hj, (bitsOf_test l j).2 ((h j).2 hj)]
  · have : (bitsOf l).testBit j = false := by
      cases hb : (bitsOf l).testBit j with
      | false => rfl
      | true => exact absurd ((h j).1 ((bitsOf_test l j).1 hb)) hj
    simp [hj, this]

theorem way_mem_lt {T : Nat → Nd} {n : Nat} (h : okTree T n) : ∀ i, i < n → ∀ j ∈ way T i, j ≤ i := by
  intro i
  induction i using Nat.strongRecOn with
  | _ i ih =>
    intro hi j hj
    rcases Nat.eq_zero_or_pos i with rfl | hp
    · rw [way_zero] at hj; simp at hj; omega
    · obtain ⟨_, _, h3⟩ := dep_par T n h hp hi
      rw [way_succ T hp h3] at hj
      rcases List.mem_append.1 hj with hj | hj
      · have := ih _ h3 (by omega) j hj; omega
      · simp at hj; omega

theorem way_self (T : Nat → Nd) (i : Nat) : i ∈ way T i := by
  unfold way
  split <;> simp

theorem way_par {T : Nat → Nd} {n : Nat} (h : okTree T n) {k : Nat} (hk0 : 0 < k) : ∀ i, i < n → k ∈ way T i → (T k).par.toNat ∈ way T i := by
  intro i
  induction i using Nat.strongRecOn with
  | _ i ih =>
    intro hi hj
    rcases Nat.eq_zero_or_pos i with rfl | hp
    · rw [way_zero] at hj; simp at hj; omega
    · obtain ⟨_, _, h3⟩ := dep_par T n h hp hi
      rw [way_succ T hp h3] at hj ⊢
      rcases List.mem_append.1 hj with hj | hj
      · exact List.mem_append.2 (.inl (ih _ h3 (by omega) hj))
      · simp at hj
        subst hj
        exact List.mem_append.2 (.inl (way_self T _))

theorem on_leaf {T : Nat → Nd} {n : Nat} (h : okTree T n) : ∀ d j, j < n → n - j ≤ d → ∃ x ∈ leavesL T n, j ∈ way T x := by
  intro d
  induction d with
  | zero => intro j hj hd; omega
  | succ d ih =>
    intro j hj hd
    by_cases hl : leafAt T n j = true
    · exact ⟨j, by unfold leavesL; simp [hj, hl], way_self T j⟩
    · have hl' := mt (leafAt_iff T n j).2 hl
      obtain ⟨k, hk⟩ := Classical.not_forall.1 hl'
      obtain ⟨hkn, hk⟩ := Classical.not_imp.1 hk
      have hk := Classical.not_not.1 hk
      have hk0 : 0 < k := by
        rcases Nat.eq_zero_or_pos k with rfl | hp
        · rw [h.2.2.1] at hk; omega
        · exact hp
      obtain ⟨_, _, h3⟩ := dep_par T n h hk0 hkn
      obtain ⟨x, hx, hx2⟩ := ih k hkn (by omega)
      have hxn : x < n := by unfold leavesL at hx; simp at hx; exact hx.1
      refine ⟨x, hx, ?_⟩
      have := way_par h hk0 x hxn hx2
      rw [hk] at this
      simpa using this

/-- the whole: every place is on the way of a leaf -/
theorem all_full {T : Nat → Nd} {n : Nat} (h : okTree T n) : bitsOf ((leavesL T n).flatMap (way T)) = 2 ^ n - 1 := by
  refine bitsOf_full fun j => ?_
  rw [List.mem_flatMap]
  constructor
  · rintro ⟨x, hx, hj⟩
    have hxn : x < n := by unfold leavesL at hx; simp at hx; exact hx.1
    have := way_mem_lt h x hxn j hj
    omega
  · intro hj
    obtain ⟨x, hx, hx2⟩ := on_leaf h n j hj (by omega)
    exact ⟨x, hx, hx2⟩

theorem way_head {T : Nat → Nd} {n : Nat} (h : okTree T n) : ∀ i, i < n → (way T i)[0]? = some 0 := by
  intro i
  induction i using Nat.strongRecOn with
  | _ i ih =>
    intro hi
    rcases Nat.eq_zero_or_pos i with rfl | hp
    · rw [way_zero]; rfl
    · obtain ⟨_, _, h3⟩ := dep_par T n h hp hi
      rw [way_succ T hp h3]
      have := ih _ h3 (by omega)
      rw [List.getElem?_append_left]
      · exact this
      · exact (List.getElem?_eq_some_iff.1 this).1

/-- the parent of each place of a way stands ahead of it -/
theorem way_adj {T : Nat → Nd} {n : Nat} (h : okTree T n) : ∀ i, i < n → ∀ k a, (way T i)[k + 1]? = some a → ∃ p : Nat, (way T i)[k]? = some p ∧ (T a).par = (p : Int) := by
  intro i
  induction i using Nat.strongRecOn with
  | _ i ih =>
    intro hi k a ha
    rcases Nat.eq_zero_or_pos i with rfl | hp
    · rw [way_zero] at ha; simp at ha
    · obtain ⟨h1, h2, h3⟩ := dep_par T n h hp hi
      rw [way_succ T hp h3] at ha ⊢
      by_cases hk : k + 1 < (way T (T i).par.toNat).length
      · rw [List.getElem?_append_left hk] at ha
        obtain ⟨p, hp1, hp2⟩ := ih _ h3 (by omega) k a ha
        exact ⟨p, by rw [List.getElem?_append_left (by omega)]; exact hp1, hp2⟩
      · have hl := way_last T (T i).par.toNat
        rw [List.getLast?_eq_getElem?] at hl
        have hl2 := (List.getElem?_eq_some_iff.1 hl).1
        rw [List.getElem?_append_right (by omega)] at ha
        have hk2 : k + 1 - (way T (T i).par.toNat).length = 0 := by
          have := (List.getElem?_eq_some_iff.1 ha).1
          simp at this
          omega
        rw [hk2] at ha
        simp at ha
        subst ha
        refine ⟨(T i).par.toNat, ?_, by omega⟩
        rw [List.getElem?_append_left (by omega)]
        rw [← hl]
        congr 1
        omega

/-- the set of a way -/
def wbits (T : Nat → Nd) (i : Nat) : Nat := bitsOf (way T i)
theorem wbits_zero (T : Nat → Nd) : wbits T 0 = 1 := by unfold wbits; rw [way_zero]; rfl
theorem wbits_succ {T : Nat → Nd} {n : Nat} (h : okTree T n) {i : Nat} (hp : 0 < i) (hi : i < n) : wbits T i = wbits T (T i).par.toNat ||| 2 ^ i := by
  unfold wbits
  rw [way_succ T hp (dep_par T n h hp hi).2.2, bitsOf_snoc]
theorem wbits_lt {T : Nat → Nd} {n : Nat} (h : okTree T n) {i : Nat} (hi : i < n) : wbits T i < 18446744073709551616 := by
  have h1 : wbits T i < 2 ^ n := bitsOf_lt fun j hj => by have := way_mem_lt h i hi j hj; omega
  have h2 : 2 ^ n < 2 ^ 64 := Nat.pow_lt_pow_right (by decide) (by have := h.2.1; omega)
  have : (2 : Nat) ^ 64 = 18446744073709551616 := by decide
  omega
end Go.Proofs.Ytokphbpgblhakaa
