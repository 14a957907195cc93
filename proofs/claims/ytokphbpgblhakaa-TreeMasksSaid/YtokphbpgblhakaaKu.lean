/- Words of this claim's own: which blocks may have turned between two worlds; a range over a function whose iterator makes memory of its own and whose body may own new blocks. -/
import Derived.RangeFuncNested
import Derived.RangeFuncLeaves
import Derived.RangeFuncBound
import Derived.WalkKit
import Derived.Lib.Hide
import Derived.Deep.Draws
namespace Go.Proofs.Ytokphbpgblhakaa
open Go.RowKit

/-- of the blocks that lay in w only those of S may have turned -/
structure Chg (S : Nat → Prop) (w w' : World) : Prop where
  os : w'.os = w.os
  tape : w'.tape = w.tape
  output : w'.output = w.output
  size : w.heap.size ≤ w'.heap.size
  block : ∀ k, k < w.heap.size → ¬ S k → w'.heap[k]? = w.heap[k]?

def NoB : Nat → Prop := fun _ => False

theorem Chg.refl (S : Nat → Prop) (w : World) : Chg S w w := ⟨rfl, rfl, rfl, Nat.le_refl _, fun _ _ _ => rfl⟩
theorem Chg.trans {S T U : Nat → Prop} {a b c : World} (h : Chg S a b) (k : Chg T b c) (hS : ∀ i, i < a.heap.size → S i → U i) (hT : ∀ i, i < a.heap.size → T i → U i) : Chg U a c :=
  ⟨k.os.trans h.os, k.tape.trans h.tape, k.output.trans h.output, Nat.le_trans h.size k.size, fun i hi hu =>
    (k.block i (Nat.lt_of_lt_of_le hi h.size) (fun ht => hu (hT i hi ht))).trans (h.block i hi (fun hs => hu (hS i hi hs)))⟩
theorem Chg.step {S : Nat → Prop} {a b c : World} (h : Chg S a b) (k : Chg S b c) : Chg S a c := h.trans k (fun _ _ hs => hs) (fun _ _ hs => hs)
theorem Chg.mono {S T : Nat → Prop} {a b : World} (h : Chg S a b) (hS : ∀ i, i < a.heap.size → S i → T i) : Chg T a b :=
  ⟨h.os, h.tape, h.output, h.size, fun i hi hu => h.block i hi (fun hs => hu (hS i hi hs))⟩
theorem Chg.drew {S : Nat → Prop} {a b : World} (h : Chg S a b) : Chg S a b.drew := ⟨h.os, h.tape, h.output, h.size, h.block⟩
theorem Chg.drewN {S : Nat → Prop} {a b : World} (h : Chg S a b) (n : Nat) : Chg S a (b.drewN n) := ⟨h.os, h.tape, h.output, h.size, h.block⟩
theorem Chg.alloc {S : Nat → Prop} {a b : World} (h : Chg S a b) (o : Obj) : Chg S a (b.alloc o) :=
  ⟨h.os, h.tape, h.output, Nat.le_trans h.size (by simp), fun i hi hu => (Below.heap_alloc _ _ _ (Nat.lt_of_lt_of_le hi h.size)).trans (h.block i hi hu)⟩
theorem Chg.setCell {S : Nat → Prop} {a b : World} (h : Chg S a b) {p : Addr} (hp : p.block < a.heap.size → S p.block) (u : Value) : Chg S a (b.setCell p u) :=
  ⟨h.os, h.tape, h.output, by simpa [World.setCell] using h.size, fun i hi hu => (Below.heap_setCell _ _ _ _ (by rintro rfl; exact hu (hp hi))).trans (h.block i hi hu)⟩
theorem Chg.putObj {S : Nat → Prop} {a b : World} (h : Chg S a b) {r : Nat} (hr : r < a.heap.size → S r) (o : Obj) : Chg S a (b.putObj r o) :=
  ⟨h.os, h.tape, h.output, by simpa using h.size, fun i hi hu => (World.putObj_heap_other (by rintro rfl; exact hu (hr hi))).trans (h.block i hi hu)⟩
theorem Chg.grown {S : Nat → Prop} {a b c : World} (h : Chg S a b) {row : Option Nat} (hg : b.grownBy c row) (hr : ∀ k, row = some k → k < a.heap.size → S k) : Chg S a c :=
  ⟨hg.os.trans h.os, hg.tape.trans h.tape, hg.output.trans h.output, Nat.le_trans h.size hg.size, fun i hi hu =>
    (hg.block i (Nat.lt_of_lt_of_le hi h.size) (fun e => hu (hr i e.symm hi))).trans (h.block i hi hu)⟩
theorem Chg.of_below {w w' : World} (h : Below w.heap.size w w') (S : Nat → Prop) : Chg S w w' := ⟨h.os, h.tape, h.output, h.size, fun i hi _ => h.block i hi⟩
theorem Chg.below {S : Nat → Prop} {w w' : World} (h : Chg S w w') {B : Nat} (hB : B ≤ w.heap.size) (hS : ∀ i, i < B → ¬ S i) : Below B w w' :=
  ⟨h.os, h.tape, h.output, h.size, fun i hi => h.block i (by omega) (hS i hi)⟩
theorem blk_lt {w : World} {p : Addr} {v : Value} (hc : w.cell? p = some v) : p.block < w.heap.size := by
  unfold World.cell? at hc
  rcases Nat.lt_or_ge p.block w.heap.size with h1 | h1
  · exact h1
  · rw [Array.getElem?_eq_none h1] at hc; cases hc
theorem Chg.cell {S : Nat → Prop} {w w' : World} (h : Chg S w w') {p : Addr} {v : Value} (hc : w.cell? p = some v) (hS : ¬ S p.block) : w'.cell? p = some v := by
  exact (World.cell?_of_block (w := w) (h.block p.block (blk_lt hc) hS)).trans hc
theorem Chg.heap {S : Nat → Prop} {w w' : World} (h : Chg S w w') {k : Nat} {o : Obj} (hc : w.heap[k]? = some o) (hS : ¬ S k) : w'.heap[k]? = some o :=
  (h.block k (Array.getElem?_eq_some_iff.1 hc).1 hS).trans hc

/-- block g is a row of room for cap elements of type e, the first of them xs; no cell is frozen -/
def Row (w : World) (g : Nat) (e : TypeId) (size n cap : Nat) (xs : List Value) : Prop :=
  xs.length = n * size ∧ ∃ cur, w.heap[g]? = some (.cells cur e (0, 0)) ∧ n ≤ cap ∧ cap ≤ maxLen ∧ cur.size = cap * size ∧ cur.toList.take (n * size) = xs

theorem Row.of_owns {w : World} {base g : Nat} {e : TypeId} {size n cap : Nat} {xs : List Value} (h : w.ownsRow base e size (.slice (some ⟨g, 0, none⟩) n cap) n xs) : base ≤ g ∧ Row w g e size n cap xs := by
  obtain ⟨hl, h | ⟨g', cap', cur, hv, hb, hg, h1, h2, h3, h4⟩⟩ := h
  · cases h.1
  · cases hv; exact ⟨hb, hl, cur, hg, h1, h2, h3, h4⟩
theorem Row.owns {w : World} {base g : Nat} {e : TypeId} {size n cap : Nat} {xs : List Value} (h : Row w g e size n cap xs) (hb : base ≤ g) : w.ownsRow base e size (.slice (some ⟨g, 0, none⟩) n cap) n xs := by
  obtain ⟨hl, cur, hg, h1, h2, h3, h4⟩ := h
  exact ⟨hl, .inr ⟨g, cap, cur, rfl, hb, hg, h1, h2, h3, h4⟩⟩
theorem owns_chg {S : Nat → Prop} {w w' : World} {base : Nat} {e : TypeId} {size n : Nat} {v : Value} {xs : List Value} (h : w.ownsRow base e size v n xs) (hc : Chg S w w') (hS : ∀ k, v.ownBlock = some k → ¬ S k) : w'.ownsRow base e size v n xs := by
  obtain ⟨hl, h | ⟨g, cap, cur, rfl, hb, hg, r⟩⟩ := h
  · exact ⟨hl, .inl h⟩
  · exact ⟨hl, .inr ⟨g, cap, cur, rfl, hb, hc.heap hg (hS g rfl), r⟩⟩
theorem owns_heap {w : World} {base : Nat} {e : TypeId} {size n k : Nat} {v : Value} {xs : List Value} (h : w.ownsRow base e size v n xs) (hk : v.ownBlock = some k) : base ≤ k ∧ ∃ cur, w.heap[k]? = some (.cells cur e (0, 0)) := by
  obtain ⟨hl, ⟨rfl, _⟩ | ⟨g, cap, cur, rfl, hb, hg, r⟩⟩ := h
  · cases hk
  · simp [Value.ownBlock] at hk
    subst hk
    exact ⟨hb, cur, hg⟩
theorem Chg.of_grown {w w' : World} {row : Option Nat} (hg : w.grownBy w' row) : Chg (fun k => row = some k) w w' :=
  ⟨hg.os, hg.tape, hg.output, hg.size, fun i hi hu => hg.block i hi (fun e => hu e.symm)⟩
theorem Row.lt {w : World} {g : Nat} {e : TypeId} {size n cap : Nat} {xs : List Value} (h : Row w g e size n cap xs) : g < w.heap.size := by
  obtain ⟨_, cur, hg, _⟩ := h
  exact (Array.getElem?_eq_some_iff.1 hg).1
theorem Row.chg {S : Nat → Prop} {w w' : World} {g : Nat} {e : TypeId} {size n cap : Nat} {xs : List Value} (h : Row w g e size n cap xs) (hc : Chg S w w') (hS : ¬ S g) : Row w' g e size n cap xs := by
  obtain ⟨hl, cur, hg, r⟩ := h
  exact ⟨hl, cur, hc.heap hg hS, r⟩
theorem Row.cell {w : World} {g : Nat} {e : TypeId} {size n cap : Nat} {xs : List Value} (h : Row w g e size n cap xs) {j : Nat} {v : Value} (hj : xs[j]? = some v) : w.cell? ⟨g, j, none⟩ = some v := by
  obtain ⟨hl, cur, hg, h1, h2, h3, h4⟩ := h
  have hlt := (List.getElem?_eq_some_iff.1 hj).1
  rw [← h4, List.getElem?_take_of_lt (by omega)] at hj
  unfold World.cell?
  rw [hg]
  simpa using hj
theorem Row.free {w : World} {g : Nat} {e : TypeId} {size n cap : Nat} {xs : List Value} (h : Row w g e size n cap xs) (j : Nat) : w.frozen? ⟨g, j, none⟩ = false := by
  obtain ⟨hl, cur, hg, _⟩ := h
  unfold World.frozen?
  rw [hg]
  simp
theorem Row.set_ {w : World} {g : Nat} {e : TypeId} {size n cap : Nat} {xs : List Value} (h : Row w g e size n cap xs) (j : Nat) (u : Value) : Row (w.setCell ⟨g, j, none⟩ u) g e size n cap (xs.set j u) := by
  obtain ⟨hl, cur, hg, h1, h2, h3, h4⟩ := h
  refine ⟨by simpa using hl, cur.setIfInBounds j u, ?_, h1, h2, by simpa using h3, ?_⟩
  · simp [World.setCell, Array.getElem?_modify, hg]
  · rw [Array.toList_setIfInBounds, List.take_set, h4]
theorem Row.made {w : World} {e : TypeId} {z : Value} {n : Nat} (hz : z.cells = #[z]) (hn : n ≤ maxLen) : Row (w.alloc (.cells (madeCells z.cells (n * 1)) e)) w.heap.size e 1 n n (List.replicate n z) := by
  have hl : (madeCells #[z] n).toList = List.replicate n z := toList_madeCells_one _ _
  refine ⟨by simp, madeCells z.cells (n * 1), World.alloc_heap_new w _, Nat.le_refl _, hn, ?_, ?_⟩
  · rw [Nat.mul_one, hz, ← Array.length_toList, hl]; simp
  · rw [Nat.mul_one, hz, hl]; simp
theorem Row.alloc {w : World} {g : Nat} {e : TypeId} {size n cap : Nat} {xs : List Value} (h : Row w g e size n cap xs) (o : Obj) : Row (w.alloc o) g e size n cap xs := h.chg ((Chg.refl NoB w).alloc o) (fun h => h)
theorem Row.cap {w : World} {g : Nat} {e : TypeId} {size n cap : Nat} {xs : List Value} (h : Row w g e size n cap xs) : n ≤ cap ∧ cap ≤ maxLen := by
  obtain ⟨hl, cur, hg, h1, h2, _⟩ := h
  exact ⟨h1, h2⟩

/-! ### a range over a function -/

/-- what the caller knows between two rounds stands when nothing old and nothing of its own new blocks Y turns -/
def Stb {α : Type} (B : Nat) (J : List α → (Nat → Prop) → World → Prop) : Prop :=
  ∀ pre Y A C, J pre Y A → (∀ k, Y k → k < A.heap.size) → Chg (fun k => B ≤ k ∧ ¬ Y k) A C → J pre Y C

/-- The contract of an iterator's value at the world W: R: old blocks that it reads between two rounds (the body must leave them); Gv: what it says of the element that it hands over, in the world of that round. -/
def Iter {α : Type} (P : Program) (gf : Nat) (lb : Array Value) (encs : α → Array Value) (Gv : α → World → Prop) (R : Nat → Prop) (S Sp : List α → Prop) (Ok : List α → α → Prop) (W : World) : Prop :=
  ∀ (n l : Nat) (J Jx : List α → (Nat → Prop) → World → Prop), Stb W.heap.size J → Stb W.heap.size Jx →
    (∀ pre x Y W1, J pre Y W1 → Ok pre x → Gv x W1 → W.heap.size ≤ W1.heap.size → (∀ k, Y k → W.heap.size ≤ k ∧ k < W1.heap.size) →
      YieldAt Fence.wide (n - 1) P l (encs x) W1 fun e W' =>
        Chg (fun k => (k < W.heap.size ∧ ¬ R k) ∨ Y k) W1 W' ∧ ∃ Y', (∀ k, Y' k → (Y k ∨ W1.heap.size ≤ k) ∧ k < W'.heap.size) ∧
          ((e = .returned (.bool true) ∧ J (pre ++ [x]) Y' W') ∨ (e = .returned (.bool false) ∧ Jx (pre ++ [x]) Y' W'))) →
    J [] NoB W →
    CallsIn Fence.wide n P gf (#[.func (.yield l) #[] #[]] ++ lb) W fun e W' => (∃ v, e = .returned v) ∧ ∃ Y', W.heap.size ≤ W'.heap.size ∧ (∀ k, Y' k → W.heap.size ≤ k ∧ k < W'.heap.size) ∧
      ((∃ xs, S xs ∧ J xs Y' W') ∨ (∃ pre, Sp pre ∧ Jx pre Y' W'))

/-- what the body's walk must come to -/
def RPost {α : Type} (B : Nat) (R : Nat → Prop) (I : List α → (Nat → Prop) → World → Prop) (Ix : Code → List α → (Nat → Prop) → World → Prop) (xs : List α) (Y : Nat → Prop) (W : World) : Exit → Act → World → Prop
  | .normal, _, W' => Chg (fun k => (k < B ∧ ¬ R k) ∨ Y k) W W' ∧ ∃ Y', (∀ k, Y' k → (Y k ∨ W.heap.size ≤ k) ∧ k < W'.heap.size) ∧ I xs Y' W'
  | .ret, _, W' => Chg (fun k => (k < B ∧ ¬ R k) ∨ Y k) W W' ∧ ∃ Y', (∀ k, Y' k → (Y k ∨ W.heap.size ≤ k) ∧ k < W'.heap.size) ∧ Ix .ret xs Y' W'
  | .exit id, _, W' => Chg (fun k => (k < B ∧ ¬ R k) ∨ Y k) W W' ∧ ∃ Y', (∀ k, Y' k → (Y k ∨ W.heap.size ≤ k) ∧ k < W'.heap.size) ∧ Ix (.exit id) xs Y' W'
  | _, _, _ => False

section
variable {P : Program} {n : Nat}

/-- one round, out of the walks of the assignment and of the body -/
theorem round_of {α : Type} {l : Nat} {rec : Loop} {encs : α → Array Value} {x : α} {pre : List α} {B : Nat} {R : Nat → Prop} {I : List α → (Nat → Prop) → World → Prop} {Ix : Code → List α → (Nat → Prop) → World → Prop}
    {Y : Nat → Prop} {W1 : World} (hBl : B ≤ l) (hR : ∀ k, R k → k < B) (hst : rec.state = .ready) (hps : (encs x).size = rec.params.size)
    (hl : W1.heap[l]? = some (.loop rec)) (hY : ∀ k, Y k → k ≠ l ∧ k < W1.heap.size)
    (hI : Stb B I) (hIx : ∀ c, Stb B (Ix c))
    (Ax : Act → World → Prop) (hAx : ∀ a A C, W1.heap.size ≤ A.heap.size → (∃ r, A.heap[l]? = some (.loop r)) → Ax a A → Chg (fun k => k = l) A C → Ax a C)
    (hassign : ∀ K : Act → World → Prop, (∀ a' W', Chg NoB W1 W' → Ax a' W' → K a' W') →
      rec.assign.wpIn (Fence.wide.inRound l) n P (Exit.then K (fun _ _ _ => False)) { tmps := (rec.params.zip (encs x)).foldl (fun t (p, v) => t.setIfInBounds p v) rec.tmps, defers := [] } W1)
    (hbody : ∀ a' W, W1.heap.size ≤ W.heap.size → Ax a' W → W.heap[l]? = some (.loop { rec with state := .busy }) → rec.body.wpIn (Fence.wide.inRound l) n P (RPost B R I Ix (pre ++ [x]) Y W) a' W) :
    YieldAt Fence.wide n P l (encs x) W1 fun e W' =>
      Chg (fun k => (k < B ∧ ¬ R k) ∨ k = l ∨ Y k) W1 W' ∧ ∃ Y', (∀ k, Y' k → (Y k ∨ W1.heap.size ≤ k) ∧ k < W'.heap.size) ∧
        ((e = .returned (.bool true) ∧ I (pre ++ [x]) Y' W' ∧ W'.heap[l]? = some (.loop { rec with state := .ready, pending := none })) ∨
         (e = .returned (.bool false) ∧ ∃ c, Ix c (pre ++ [x]) Y' W' ∧ W'.heap[l]? = some (.loop { rec with state := .done, pending := some c }))) := by
  have hy := run_yield (P := P) (args := encs x) hl hps
  refine ⟨_, _, _, _, hy, roundIn_of_wpIn trivial (hassign _ ?_)⟩
  intro a' Wa hca hax
  have hlR : ¬ R l := fun h => by have := hR l h; omega
  have hYl : ¬ Y l := fun h => (hY l h).1 rfl
  have hla := hca.heap hl (fun h => h)
  have hltA : l < Wa.heap.size := (Array.getElem?_eq_some_iff.1 hla).1
  refine ⟨_, run_beginRound hla hst, ?_⟩
  have hc2 : Chg (fun k => k = l) Wa (Wa.putObj l (.loop { rec with state := .busy })) := (Chg.refl (fun k => k = l) Wa).putObj (fun _ => rfl) _
  refine wpIn_mono (hbody a' _ (by simpa using hca.size) (hAx _ _ _ hca.size ⟨_, hla⟩ hax hc2) (World.putObj_heap_same hltA)) ?_
  have fin : ∀ (jump : Option Code) (W3 : World) (Y' : Nat → Prop), Chg (fun k => (k < B ∧ ¬ R k) ∨ Y k) (Wa.putObj l (.loop { rec with state := .busy })) W3 →
      (∀ k, Y' k → (Y k ∨ (Wa.putObj l (.loop { rec with state := .busy })).heap.size ≤ k) ∧ k < W3.heap.size) →
      (Instr.endRound l jump).run P W3 = .ok (.bool jump.isNone) (W3.putObj l (.loop { rec with state := if jump.isNone then .ready else .done, pending := jump })) ∧
      (W3.putObj l (.loop { rec with state := if jump.isNone then .ready else .done, pending := jump })).heap[l]? = some (.loop { rec with state := if jump.isNone then .ready else .done, pending := jump }) ∧
      Chg (fun k => (k < B ∧ ¬ R k) ∨ k = l ∨ Y k) W1 (W3.putObj l (.loop { rec with state := if jump.isNone then .ready else .done, pending := jump })) ∧
      (∀ k, Y' k → (Y k ∨ W1.heap.size ≤ k) ∧ k < (W3.putObj l (.loop { rec with state := if jump.isNone then .ready else .done, pending := jump })).heap.size) ∧
      ¬ Y' l := by
    intro jump W3 Y' hc3 hY3
    have hl2 : (Wa.putObj l (.loop { rec with state := .busy })).heap[l]? = some (.loop { rec with state := .busy }) := World.putObj_heap_same hltA
    have hl3 := hc3.heap hl2 (fun h => h.elim (fun h => by omega) hYl)
    have h1 := run_endRound (P := P) jump hl3
    refine ⟨h1, World.putObj_heap_same (Array.getElem?_eq_some_iff.1 hl3).1, ?_, ?_, ?_⟩
    · refine Chg.putObj (Chg.trans (hca.trans hc2 (U := fun k => (k < B ∧ ¬ R k) ∨ k = l ∨ Y k) (fun _ _ h => h.elim) (fun i _ h => .inr (.inl h))) hc3 (fun _ _ h => h) ?_) (fun _ => .inr (.inl rfl)) _
      rintro i hi (h | h)
      · exact .inl h
      · exact .inr (.inr h)
    · intro k hk
      have := hY3 k hk
      have h1 := hca.size
      simp only [World.putObj_size] at this ⊢
      exact ⟨this.1.imp id (fun h => by omega), this.2⟩
    · intro h
      rcases (hY3 l h).1 with h | h
      · exact hYl h
      · simp only [World.putObj_size] at h; omega
  have hbl : ∀ Y' : Nat → Prop, ¬ Y' l → ∀ (W3 : World) o, Chg (fun k => B ≤ k ∧ ¬ Y' k) W3 (W3.putObj l o) := fun Y' h W3 o => (Chg.refl _ _).putObj (fun _ => ⟨hBl, h⟩) _
  rintro e a3 W3 hp
  cases e with
  | normal =>
    obtain ⟨hc3, Y', hY', hi3⟩ := hp
    obtain ⟨hr, hl4, hc4, hY4, hl5⟩ := fin none W3 Y' hc3 hY'
    exact ⟨_, _, hr, hc4, Y', hY4, .inl ⟨rfl, hI _ _ _ _ hi3 (fun k hk => (hY' k hk).2) (hbl Y' hl5 _ _), hl4⟩⟩
  | ret =>
    obtain ⟨hc3, Y', hY', hi3⟩ := hp
    obtain ⟨hr, hl4, hc4, hY4, hl5⟩ := fin (some .ret) W3 Y' hc3 hY'
    exact ⟨_, _, hr, hc4, Y', hY4, .inr ⟨rfl, .ret, hIx _ _ _ _ _ hi3 (fun k hk => (hY' k hk).2) (hbl Y' hl5 _ _), hl4⟩⟩
  | exit id =>
    obtain ⟨hc3, Y', hY', hi3⟩ := hp
    obtain ⟨hr, hl4, hc4, hY4, hl5⟩ := fin (some (.exit id)) W3 Y' hc3 hY'
    exact ⟨_, _, hr, hc4, Y', hY4, .inr ⟨rfl, .exit id, hIx _ _ _ _ _ hi3 (fun k hk => (hY' k hk).2) (hbl Y' hl5 _ _), hl4⟩⟩
  | goto t => exact hp.elim
  | panic ch => exact hp.elim
  | outgrown => exact hp.elim

/-- **'for .. := range g { .. }' in a function's own body** (no round around it) -/
theorem range_out {α : Type} {g : Operand} {ps : Array Tmp} {assign body : Code} {Q : Exit → Act → World → Prop} {a : Act} {w : World} (R : Nat → Prop)
    {gf : Nat} {lb : Array Value} (hg : a.eval g = .func (.func gf) #[] lb) (eg : ∀ args w, (callFunc gf args).run P w = .ok (.enter gf args) w)
    {encs : α → Array Value} {Gv : α → World → Prop} {S Sp : List α → Prop} {Ok : List α → α → Prop} (hseq : ∀ o, Iter P gf lb encs Gv R S Sp Ok ((w.alloc (.deferred (some []))).alloc o))
    (hR : ∀ k, R k → k < w.heap.size) (hps : ∀ x, (encs x).size = ps.size)
    (I : List α → (Nat → Prop) → World → Prop) (Ix : Code → List α → (Nat → Prop) → World → Prop) (hI : Stb w.heap.size I) (hIx : ∀ c, Stb w.heap.size (Ix c)) (h0 : I [] NoB w)
    (Ax : List α → α → (Nat → Prop) → Act → World → Prop) (hAx : ∀ pre x Y a A C l, (∀ k, Y k → k < A.heap.size) → (∃ r, A.heap[l]? = some (.loop r)) → Ax pre x Y a A → w.heap.size ≤ l → ¬ Y l → Chg (fun k => k = l) A C → Ax pre x Y a C)
    (hassign : ∀ (l : Nat) (pre : List α) (x : α) (Y : Nat → Prop) (W : World) (K : Act → World → Prop), I pre Y W → Gv x W → Ok pre x → w.heap.size + 2 ≤ W.heap.size → (∀ k, Y k → w.heap.size + 2 ≤ k ∧ k < W.heap.size) →
      (∀ a' W', Chg NoB W W' → Ax pre x Y a' W' → K a' W') →
      assign.wpIn (Fence.wide.inRound l) (n - 1 - 1) P (Exit.then K (fun _ _ _ => False)) { tmps := (ps.zip (encs x)).foldl (fun t (p, v) => t.setIfInBounds p v) a.tmps, defers := [] } W)
    (hbody : ∀ (l : Nat) (pre : List α) (x : α) (Y : Nat → Prop) (a' : Act) (W : World), w.heap.size ≤ l → (∃ r, W.heap[l]? = some (.loop r)) → Ok pre x → w.heap.size + 2 ≤ W.heap.size → (∀ k, Y k → w.heap.size + 2 ≤ k ∧ k < W.heap.size) →
      Ax pre x Y a' W → body.wpIn (Fence.wide.inRound l) (n - 1 - 1) P (RPost w.heap.size R I Ix (pre ++ [x]) Y W) a' W)
    (hdone : ∀ (D : Nat) (xs : List α) (Y : Nat → Prop) (W : World), w.heap.size ≤ D → ¬ Y D → (∀ k, Y k → k < W.heap.size) → S xs → I xs Y W → W.heap[D]? = some (.deferred (some [])) → Q .normal { a with defers := { target := .collected D, args := #[] } :: a.defers } W)
    (hstop : ∀ (D : Nat) (c : Code) (pre : List α) (Y : Nat → Prop) (W : World), w.heap.size ≤ D → ¬ Y D → (∀ k, Y k → k < W.heap.size) → Sp pre → Ix c pre Y W → W.heap[D]? = some (.deferred (some [])) →
      c.wpIn Fence.wide n P Q { a with defers := { target := .collected D, args := #[] } :: a.defers } W) :
    (Code.rangeFunc g ps assign body).wpIn Fence.wide n P Q a w := by
  refine wpIn_rangeFunc ?_
  intro fn hfn
  obtain ⟨rec, hrec⟩ : ∃ rec : Loop, rec = { state := .ready, pending := none, fn, tmps := a.tmps, params := ps, assign, body, defers := w.heap.size } := ⟨_, rfl⟩
  obtain ⟨W1, hW1⟩ : ∃ W1, (w.alloc (.deferred (some []))).alloc (.loop rec) = W1 := ⟨_, rfl⟩
  have hs1 : W1.heap.size = w.heap.size + 2 := by rw [← hW1]; simp
  have hL1 : W1.heap[w.heap.size + 1]? = some (.loop rec) := by
    rw [← hW1]; have := World.alloc_heap_new (w.alloc (.deferred (some []))) (.loop rec); rwa [World.size_alloc] at this
  have hK1 : W1.heap[w.heap.size]? = some (.deferred (some [])) := by
    rw [← hW1]; exact (Below.heap_alloc _ _ _ (by simp)).trans (World.alloc_heap_new w _)
  have hc1 : Chg NoB w W1 := by rw [← hW1]; exact ((Chg.refl _ _).alloc _).alloc _
  refine ⟨w.heap.size + 1, [{ target := .collected w.heap.size, args := #[] }], W1, { target := .fn (.func gf) lb, args := #[.func (.yield (w.heap.size + 1)) #[] #[]] }, W1, gf,
    #[.func (.yield (w.heap.size + 1)) #[] #[]] ++ lb, W1, ?_, ?_, ?_, ?_, fun h => by simp [Fence.wide] at h, ?_⟩
  · rw [← hW1, hrec]; exact run_enterLoop_outer _ _ _ _ _
  · simp only [resolve, hg]
    simp [go_sem]
  · intro f' _; trivial
  · simp [invoke, go_sem, eg]
  · have hst : ∀ {K : List α → (Nat → Prop) → World → Prop}, Stb w.heap.size K → Stb W1.heap.size K := fun hK pre Y A C h hY hc => hK pre Y A C h hY (hc.mono (fun i _ h => ⟨by omega, h.2⟩))
    have hYl : ∀ (Y : Nat → Prop) (b : Nat), w.heap.size ≤ b → b < w.heap.size + 2 → (∀ k, Y k → W1.heap.size ≤ k) → ¬ Y b := fun Y b _ hb hY h => by have := hY b h; omega
    have hq := hseq (.loop rec)
    rw [hW1] at hq
    refine (hq (n - 1) (w.heap.size + 1)
      (fun pre Y W => I pre Y W ∧ W.heap[w.heap.size + 1]? = some (.loop rec) ∧ W.heap[w.heap.size]? = some (.deferred (some [])))
      (fun pre Y W => ∃ c, Ix c pre Y W ∧ W.heap[w.heap.size + 1]? = some (.loop { rec with state := .done, pending := some c }) ∧ W.heap[w.heap.size]? = some (.deferred (some [])))
      ?_ ?_ ?_ ?_).mono ?_
    · intro pre Y A C hs hY hc
      exact ⟨hst hI _ _ _ _ hs.1 hY hc, hc.heap hs.2.1 (fun h => by omega), hc.heap hs.2.2 (fun h => by omega)⟩
    · intro pre Y A C hs hY hc
      obtain ⟨c, h1, h2, h3⟩ := hs
      exact ⟨c, hst (hIx c) _ _ _ _ h1 hY hc, hc.heap h2 (fun h => by omega), hc.heap h3 (fun h => by omega)⟩
    · rintro pre x Y W ⟨hi, hl, hk⟩ hlen hgv hsz hY
      have hY2 : ∀ k, Y k → w.heap.size + 2 ≤ k ∧ k < W.heap.size := fun k h => by rw [← hs1]; exact hY k h
      have hnl : ¬ Y (w.heap.size + 1) := fun h => by have := hY2 _ h; omega
      refine YieldAt.mono (round_of (rec := rec) (B := w.heap.size) (R := R) (I := I) (Ix := Ix) (pre := pre) (Y := Y) (by omega) hR (by rw [hrec]) (by rw [hrec]; exact hps x) hl
        (fun k h => ⟨fun e => hnl (e ▸ h), (hY2 k h).2⟩) hI hIx (Ax pre x Y) ?_ ?_ ?_) ?_
      · intro a' A C hsA hlr hax hc
        exact hAx pre x Y a' A C _ (fun k h => by have := (hY2 k h).2; omega) hlr hax (by omega) hnl hc
      · intro K hK
        have := hassign (w.heap.size + 1) pre x Y W K hi hgv hlen (by omega) hY2 hK
        rw [hrec]
        exact this
      · intro a' Wb hsb hax hlb
        have := hbody (w.heap.size + 1) pre x Y a' Wb (by omega) ⟨_, hlb⟩ hlen (by omega) (fun k h => ⟨(hY2 k h).1, by have := (hY2 k h).2; omega⟩) hax
        rw [hrec]
        exact this
      · rintro e W' ⟨hc, Y', hY', hr⟩
        have hk' : W'.heap[w.heap.size]? = some (.deferred (some [])) := hc.heap hk (by
          rintro (⟨h, _⟩ | h | h)
          · omega
          · omega
          · have := hY2 _ h; omega)
        refine ⟨hc.mono ?_, Y', hY', ?_⟩
        · rintro i _ (⟨h, h'⟩ | h | h)
          · exact .inl ⟨by omega, h'⟩
          · exact .inl ⟨by omega, fun h' => by have := hR _ h'; omega⟩
          · exact .inr h
        · rcases hr with ⟨he, h1, h2⟩ | ⟨he, c, h1, h2⟩
          · refine .inl ⟨he, h1, ?_, hk'⟩
            rw [h2, hrec]
          · exact .inr ⟨he, c, h1, h2, hk'⟩
    · exact ⟨hI _ _ _ _ h0 (fun _ h => h.elim) (hc1.mono (fun _ _ h => h.elim)), hL1, hK1⟩
    · rintro e W2 ⟨⟨v, rfl⟩, Y', hsz, hY', (⟨xs, hS, hi, hl, hk⟩ | ⟨pre, hSp, c, hi, hl, hk⟩)⟩
      · have hnl : ¬ Y' (w.heap.size + 1) := fun h => by have := (hY' _ h).1; omega
        have hnd : ¬ Y' w.heap.size := fun h => by have := (hY' _ h).1; omega
        refine ⟨none, _, by have := run_endLoop (P := P) hl (by rw [hrec]; simp); rw [hrec] at this; exact this, hdone _ xs Y' _ (Nat.le_refl _) hnd (fun k h => by simpa using (hY' k h).2) hS ?_ ((World.putObj_heap_other (by omega)).trans hk)⟩
        exact hI _ _ _ _ hi (fun k h => (hY' k h).2) ((Chg.refl _ _).putObj (fun _ => ⟨by omega, hnl⟩) _)
      · have hnl : ¬ Y' (w.heap.size + 1) := fun h => by have := (hY' _ h).1; omega
        have hnd : ¬ Y' w.heap.size := fun h => by have := (hY' _ h).1; omega
        refine ⟨some c, _, by have := run_endLoop (P := P) hl (by rw [hrec]; simp); rw [hrec] at this; exact this, hstop _ c pre Y' _ (Nat.le_refl _) hnd (fun k h => by simpa using (hY' k h).2) hSp ?_ ((World.putObj_heap_other (by omega)).trans hk)⟩
        exact hIx c _ _ _ _ hi (fun k h => (hY' k h).2) ((Chg.refl _ _).putObj (fun _ => ⟨by omega, hnl⟩) _)

/-- **the same within a round of another loop l₀** -/
theorem range_in {α : Type} {g : Operand} {ps : Array Tmp} {assign body : Code} {Q : Exit → Act → World → Prop} {a : Act} {w : World} (R : Nat → Prop) {l₀ : Nat} {r₀ : Loop} (hl₀ : w.heap[l₀]? = some (.loop r₀))
    {gf : Nat} {lb : Array Value} (hg : a.eval g = .func (.func gf) #[] lb) (eg : ∀ args w, (callFunc gf args).run P w = .ok (.enter gf args) w)
    {encs : α → Array Value} {Gv : α → World → Prop} {S Sp : List α → Prop} {Ok : List α → α → Prop} (hseq : ∀ o, Iter P gf lb encs Gv R S Sp Ok (w.alloc o))
    (hR : ∀ k, R k → k < w.heap.size) (hps : ∀ x, (encs x).size = ps.size)
    (I : List α → (Nat → Prop) → World → Prop) (Ix : Code → List α → (Nat → Prop) → World → Prop) (hI : Stb w.heap.size I) (hIx : ∀ c, Stb w.heap.size (Ix c)) (h0 : I [] NoB w)
    (Ax : List α → α → (Nat → Prop) → Act → World → Prop) (hAx : ∀ pre x Y a A C l, (∀ k, Y k → k < A.heap.size) → (∃ r, A.heap[l]? = some (.loop r)) → Ax pre x Y a A → w.heap.size ≤ l → ¬ Y l → Chg (fun k => k = l) A C → Ax pre x Y a C)
    (hassign : ∀ (l : Nat) (pre : List α) (x : α) (Y : Nat → Prop) (W : World) (K : Act → World → Prop), I pre Y W → Gv x W → Ok pre x → w.heap.size + 1 ≤ W.heap.size → (∀ k, Y k → w.heap.size + 1 ≤ k ∧ k < W.heap.size) →
      (∀ a' W', Chg NoB W W' → Ax pre x Y a' W' → K a' W') →
      assign.wpIn (Fence.wide.inRound l) (n - 1 - 1) P (Exit.then K (fun _ _ _ => False)) { tmps := (ps.zip (encs x)).foldl (fun t (p, v) => t.setIfInBounds p v) a.tmps, defers := [] } W)
    (hbody : ∀ (l : Nat) (pre : List α) (x : α) (Y : Nat → Prop) (a' : Act) (W : World), w.heap.size ≤ l → (∃ r, W.heap[l]? = some (.loop r)) → Ok pre x → w.heap.size + 1 ≤ W.heap.size → (∀ k, Y k → w.heap.size + 1 ≤ k ∧ k < W.heap.size) →
      Ax pre x Y a' W → body.wpIn (Fence.wide.inRound l) (n - 1 - 1) P (RPost w.heap.size R I Ix (pre ++ [x]) Y W) a' W)
    (hdone : ∀ (xs : List α) (Y : Nat → Prop) (W : World), w.heap.size < W.heap.size → (∀ k, Y k → k < W.heap.size) → S xs → I xs Y W → Q .normal a W)
    (hstop : ∀ (c : Code) (pre : List α) (Y : Nat → Prop) (W : World), w.heap.size < W.heap.size → (∀ k, Y k → k < W.heap.size) → Sp pre → Ix c pre Y W → c.wpIn (Fence.wide.inRound l₀) n P Q a W) :
    (Code.rangeFunc g ps assign body).wpIn (Fence.wide.inRound l₀) n P Q a w := by
  refine wpIn_rangeFunc ?_
  intro fn hfn
  obtain ⟨rec, hrec⟩ : ∃ rec : Loop, rec = { state := .ready, pending := none, fn, tmps := a.tmps, params := ps, assign, body, defers := r₀.defers } := ⟨_, rfl⟩
  obtain ⟨W1, hW1⟩ : ∃ W1, w.alloc (.loop rec) = W1 := ⟨_, rfl⟩
  have hs1 : W1.heap.size = w.heap.size + 1 := by rw [← hW1]; simp
  have hL1 : W1.heap[w.heap.size]? = some (.loop rec) := by rw [← hW1]; exact World.alloc_heap_new w _
  have hc1 : Chg NoB w W1 := by rw [← hW1]; exact (Chg.refl _ _).alloc _
  refine ⟨w.heap.size, [], W1, { target := .fn (.func gf) lb, args := #[.func (.yield w.heap.size) #[] #[]] }, W1, gf,
    #[.func (.yield w.heap.size) #[] #[]] ++ lb, W1, ?_, ?_, ?_, ?_, fun h => by simp [Fence.wide, Fence.inRound] at h, ?_⟩
  · rw [← hW1, hrec]; exact run_enterLoop_inner hl₀ _ _ _ _ _
  · simp only [resolve, hg]
    simp [go_sem]
  · intro f' _; trivial
  · simp [invoke, go_sem, eg]
  · have hst : ∀ {K : List α → (Nat → Prop) → World → Prop}, Stb w.heap.size K → Stb W1.heap.size K := fun hK pre Y A C h hY hc => hK pre Y A C h hY (hc.mono (fun i _ h => ⟨by omega, h.2⟩))
    have hq := hseq (.loop rec)
    rw [hW1] at hq
    refine (CallsIn.inRound l₀ (hq (n - 1) w.heap.size
      (fun pre Y W => I pre Y W ∧ W.heap[w.heap.size]? = some (.loop rec))
      (fun pre Y W => ∃ c, Ix c pre Y W ∧ W.heap[w.heap.size]? = some (.loop { rec with state := .done, pending := some c }))
      ?_ ?_ ?_ ?_)).mono ?_
    · intro pre Y A C hs hY hc
      exact ⟨hst hI _ _ _ _ hs.1 hY hc, hc.heap hs.2 (fun h => by omega)⟩
    · intro pre Y A C hs hY hc
      obtain ⟨c, h1, h2⟩ := hs
      exact ⟨c, hst (hIx c) _ _ _ _ h1 hY hc, hc.heap h2 (fun h => by omega)⟩
    · rintro pre x Y W ⟨hi, hl⟩ hlen hgv hsz hY
      have hY2 : ∀ k, Y k → w.heap.size + 1 ≤ k ∧ k < W.heap.size := fun k h => by rw [← hs1]; exact hY k h
      have hnl : ¬ Y w.heap.size := fun h => by have := hY2 _ h; omega
      refine YieldAt.mono (round_of (rec := rec) (B := w.heap.size) (R := R) (I := I) (Ix := Ix) (pre := pre) (Y := Y) (by omega) hR (by rw [hrec]) (by rw [hrec]; exact hps x) hl
        (fun k h => ⟨fun e => hnl (e ▸ h), (hY2 k h).2⟩) hI hIx (Ax pre x Y) ?_ ?_ ?_) ?_
      · intro a' A C hsA hlr hax hc
        exact hAx pre x Y a' A C _ (fun k h => by have := (hY2 k h).2; omega) hlr hax (by omega) hnl hc
      · intro K hK
        have := hassign w.heap.size pre x Y W K hi hgv hlen (by omega) hY2 hK
        rw [hrec]
        exact this
      · intro a' Wb hsb hax hlb
        have := hbody w.heap.size pre x Y a' Wb (by omega) ⟨_, hlb⟩ hlen (by omega) (fun k h => ⟨(hY2 k h).1, by have := (hY2 k h).2; omega⟩) hax
        rw [hrec]
        exact this
      · rintro e W' ⟨hc, Y', hY', hr⟩
        refine ⟨hc.mono ?_, Y', hY', ?_⟩
        · rintro i _ (⟨h, h'⟩ | h | h)
          · exact .inl ⟨by omega, h'⟩
          · exact .inl ⟨by omega, fun h' => by have := hR _ h'; omega⟩
          · exact .inr h
        · rcases hr with ⟨he, h1, h2⟩ | ⟨he, c, h1, h2⟩
          · refine .inl ⟨he, h1, ?_⟩
            rw [h2, hrec]
          · exact .inr ⟨he, c, h1, h2⟩
    · exact ⟨hI _ _ _ _ h0 (fun _ h => h.elim) (hc1.mono (fun _ _ h => h.elim)), hL1⟩
    · rintro e W2 ⟨⟨v, rfl⟩, Y', hsz, hY', (⟨xs, hS, hi, hl⟩ | ⟨pre, hSp, c, hi, hl⟩)⟩
      · have hnl : ¬ Y' w.heap.size := fun h => by have := (hY' _ h).1; omega
        refine ⟨none, _, by have := run_endLoop (P := P) hl (by rw [hrec]; simp); rw [hrec] at this; exact this, hdone xs Y' _ (by simp; omega) (fun k h => by simpa using (hY' k h).2) hS ?_⟩
        exact hI _ _ _ _ hi (fun k h => (hY' k h).2) ((Chg.refl _ _).putObj (fun _ => ⟨by omega, hnl⟩) _)
      · have hnl : ¬ Y' w.heap.size := fun h => by have := (hY' _ h).1; omega
        refine ⟨some c, _, by have := run_endLoop (P := P) hl (by rw [hrec]; simp); rw [hrec] at this; exact this, hstop c pre Y' _ (by simp; omega) (fun k h => by simpa using (hY' k h).2) hSp ?_⟩
        exact hIx c _ _ _ _ hi (fun k h => (hY' k h).2) ((Chg.refl _ _).putObj (fun _ => ⟨by omega, hnl⟩) _)

/-- a round's contract at the wide fence is one in any round's frame -/
theorem roundIn_wide {n' l l' : Nat} {f : FuncId} {tmps : Array Value} {assign body : Code} {w : World} {R' : Ending → World → Prop} (h : RoundIn Fence.wide n P l f tmps assign body w R') : RoundIn (Fence.wide.inRound l') n' P l f tmps assign body w R' :=
  ⟨trivial, fun c cs _ => h.2 c cs (room_wide _)⟩

/-- a function's end: only the marks of ranges over functions are left to be taken -/
theorem leaves_marks {fn : Func} {tmps : Array Value} {R' : Ending → World → Prop} : ∀ (Ds : List Nat) (w : World), Ds.Nodup → (∀ D ∈ Ds, w.heap[D]? = some (.deferred (some []))) →
    (∀ w', Chg (fun k => k ∈ Ds) w w' → ∃ v, (results fn tmps).run P w' = .ok v w' ∧ R' (.returned v) w') →
    LeavesInM Fence.wide n P fn tmps R' (Ds.map fun D => { target := .collected D, args := #[] }) .returning w
  | [], w, _, _, h => by
    obtain ⟨v, h1, h2⟩ := h w (Chg.refl _ _)
    exact ⟨v, h1, h2⟩
  | D :: Ds, w, hn, hD, h => by
    have hd := hD D (by simp)
    obtain ⟨hn1, hn2⟩ := List.nodup_cons.1 hn
    refine ⟨by simp, .inl ⟨D, _, rfl, run_takeDeferred hd, leaves_marks Ds _ hn2 (fun D' hD' => ?_) (fun w' hc => h w' ?_)⟩⟩
    · rw [World.putObj_heap_other (by rintro rfl; exact hn1 hD')]
      exact hD D' (by simp [hD'])
    · exact Chg.trans ((Chg.refl (fun k => k = D) w).putObj (fun _ => rfl) _) hc (fun i _ e => by simp [e]) (fun i _ e => by simp [e])

end
end Go.Proofs.Ytokphbpgblhakaa
