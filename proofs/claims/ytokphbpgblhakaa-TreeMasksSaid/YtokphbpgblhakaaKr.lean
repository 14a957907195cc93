/- A word of this claim's own: a region that draws its order and only reads, within a round of a range over a function: one walk of its written order serves. -/
import Derived.Sort.QuietIn
import Derived.RangeFuncCalls
import Derived.StillTail
import Derived.StillTailTactics
namespace Go.Proofs.Ytokphbpgblhakaa
open Go.RowKit

variable {n l : Nat} {P : Program}

def noDefer (ops : List Oper) : Bool := ops.all fun o => match o.op with
  | .defer _ => false
  | _ => true

theorem noDefer_spec {ops : List Oper} (h : noDefer ops = true) {j : Nat} {o : Oper} (ho : ops[j]? = some o) : ∀ c, o.op ≠ .defer c := by
  intro c hc
  have := List.all_eq_true.1 h o (List.mem_of_getElem? ho)
  rw [hc] at this
  cases this

theorem opIn_round {o : Oper} {a : Act} {w : World} {K : Act → World → Prop} {Q : Exit → Act → World → Prop} (hd : ∀ c, o.op ≠ .defer c) (h : o.wpIn Fence.wide n P a w K Q) : o.wpIn (Fence.wide.inRound l) n P a w K Q := by
  obtain ⟨h1, h2⟩ := h
  refine ⟨h1, ?_⟩
  rw [Oper.semAt_eq _ _ _ hd] at h2 ⊢
  exact h2

theorem anyIn_round {md : Region.Mode} {ops : List Oper} {Q : Exit → Act → World → Prop} (hd : noDefer ops = true) : ∀ (fuel : Nat) (listed : Array Bool) (a : Act) (w : World), wpAnyIn Fence.wide n P md ops.toArray Q fuel listed a w → wpAnyIn (Fence.wide.inRound l) n P md ops.toArray Q fuel listed a w
  | 0, _, _, _, h => h
  | fuel + 1, listed, a, w, h => by
    refine ⟨h.1, fun i hi => ?_⟩
    have h2 := h.2 i hi
    unfold wpOpIn at h2 ⊢
    cases ho : ops.toArray[i]? with
    | none =>
      simp only [ho] at h2 ⊢
      exact anyIn_round hd fuel _ a w h2
    | some o =>
      simp only [ho] at h2 ⊢
      have hnd := noDefer_spec hd (j := i) (o := o) (by simpa using ho)
      split
      · rename_i hw
        simp only [hw, if_true] at h2
        exact opIn_round hnd (Oper.wpIn_mono (fun a w h => anyIn_round hd fuel _ a w h) h2)
      · rename_i hw
        simp only [hw] at h2
        exact ⟨h2.1, anyIn_round hd fuel _ _ w h2.2⟩

theorem quiet_round {id : Nat} {Q : Exit → Act → World → Prop} {a : Act} {w : World} {ops : List Oper} (hm : P.follows .mixedOrders = true) (hd : noDefer ops = true) (hB : Region.lexB .any ops.toArray = true)
    (h : wpQuietIn Fence.wide n P ops.toArray (fun w' => ∃ n, w' = w.drewN n) (fun a' => ∀ w', (∃ n, w' = w.drewN n) → Q .normal a' w') ops a) : (Code.region id ops.toArray true).wpIn (Fence.wide.inRound l) n P Q a w := by
  simp only [Region.lexB, Bool.and_eq_true] at hB
  refine wpIn_region_any hm (anyIn_round hd _ _ _ _ (wpAnyIn_of_quiet (C := fun w' => ∃ n, w' = w.drewN n) (Q := fun a' => ∀ w', (∃ n, w' = w.drewN n) → Q .normal a' w') rfl (fun _ w' hw' h => h w' hw') _ _ _ _ ⟨1, rfl⟩ ?_))
  have := wpAnyQIn_lex (F := Fence.wide) (n := n) (C := fun w' => ∃ n, w' = w.drewN n) (md := .any) hB.1 ops 0 (Array.replicate ops.toArray.size false) a (by simp) (by simpa using hB.2) h
  simpa using this
/-- operations that give a value or skip, never a call -/
def plainOp (o : Oper) : Bool := match o.op with
  | .move _ | .assign _ | .load _ _ | .store _ _ _ | .indexAddr _ _ _ | .convert _ _ _ | .binOp _ _ _ _ _ | .fieldAddr _ _ _ => true
  | _ => false

theorem plainOp_run {o : Oper} (h : plainOp o = true) (ρ : Operand → Value) (w w' : World) (nx : Next) (hr : (execOp ρ o).run P w = .ok nx w') : (∃ v, nx = .value v) ∨ nx = .skip := by
  have val : ∀ s : Sem Value, ((do pure (.value (← s))) : Sem Next).run P w = .ok nx w' → ∃ v, nx = .value v := fun s hs => by
    simp only [Sem.run_bind] at hs
    cases hq : s.run P w with
    | ok v w2 => rw [hq] at hs; simp at hs; exact ⟨v, hs.1.symm⟩
    | halt c w2 => rw [hq] at hs; simp at hs
  have uni : ∀ s : Sem Unit, ((do s; pure .skip) : Sem Next).run P w = .ok nx w' → nx = .skip := fun s hs => by
    simp only [Sem.run_bind] at hs
    cases hq : s.run P w with
    | ok v w2 => rw [hq] at hs; simp at hs; exact hs.1.symm
    | halt c w2 => rw [hq] at hs; simp at hs
  unfold plainOp at h
  unfold execOp at hr
  cases ho : o.op <;> rw [ho] at h hr <;> first
    | (cases h; done)
    | exact .inl (val _ hr)
    | exact .inr (uni _ hr)
    | (simp at hr; exact .inl ⟨_, hr.1.symm⟩)
theorem plainOp_noDefer {o : Oper} (h : plainOp o = true) : ∀ c, o.op ≠ .defer c := fun c hc => by
  unfold plainOp at h; rw [hc] at h; cases h

theorem opPlain_round {o : Oper} {a : Act} {w : World} {K K' : Act → World → Prop} {Q : Exit → Act → World → Prop} (hp : plainOp o = true) (hK : ∀ a w, K a w → K' a w) (h : o.wp P a w K Q) : o.wpIn (Fence.wide.inRound l) n P a w K' Q := by
  refine ⟨fun f hf => trivial, ?_⟩
  rw [Oper.semAt_eq _ _ _ (plainOp_noDefer hp)]
  unfold Oper.wp at h
  cases hr : (execOp a.eval o).run P w with
  | ok nx w2 =>
    rw [hr] at h
    rcases plainOp_run hp _ _ _ _ hr with ⟨v, rfl⟩ | rfl
    · exact hK _ _ h
    · exact hK _ _ h
  | halt c w2 =>
    rw [hr] at h
    cases c <;> first | exact h | exact h.elim

theorem any_round {md : Region.Mode} {ops : List Oper} {Q : Exit → Act → World → Prop} (hd : ops.all plainOp = true) (hQ : ¬ LetsOut Q) : ∀ (fuel : Nat) (listed : Array Bool) (a : Act) (w : World), wpAny P md ops.toArray Q fuel listed a w → wpAnyIn (Fence.wide.inRound l) n P md ops.toArray Q fuel listed a w
  | 0, _, _, _, h => h
  | fuel + 1, listed, a, w, h => by
    refine ⟨h.1, fun i hi => ?_⟩
    have h2 := h.2 i hi
    unfold wpOp at h2
    unfold wpOpIn
    cases ho : ops.toArray[i]? with
    | none =>
      simp only [ho] at h2 ⊢
      exact any_round hd hQ fuel _ a w h2
    | some o =>
      simp only [ho] at h2 ⊢
      have hp : plainOp o = true := List.all_eq_true.1 hd o (List.mem_of_getElem? (by simpa using ho))
      split
      · rename_i hw
        simp only [hw, if_true] at h2
        rcases h2 with h2 | h2
        · exact opPlain_round hp (fun a w h => any_round hd hQ fuel _ a w h) h2
        · exact absurd h2.2 hQ
      · rename_i hw
        simp only [hw] at h2
        exact ⟨fun f hf => trivial, any_round hd hQ fuel _ _ w h2⟩

/-- a drawn region of plain operations within a round, of which the first m only read and the rest come in one forced order -/
theorem still_round {id : Nat} {Q : Exit → Act → World → Prop} {a : Act} {w : World} {ops : List Oper} (m : Nat) (hm : P.follows .mixedOrders = true) (hd : ops.all plainOp = true) (hB : Region.lexTailB .any ops.toArray m = true) (hQ : ¬ LetsOut Q)
    (h : wpStill P ops.toArray w.drew (fun a' => wpList P ops.toArray Q (ops.drop m) a' w.drew) (ops.take m) a) : (Code.region id ops.toArray true).wpIn (Fence.wide.inRound l) n P Q a w := by
  simp only [Region.lexTailB, Bool.and_eq_true, decide_eq_true_eq] at hB
  obtain ⟨⟨⟨⟨h1, h2⟩, h3⟩, h4⟩, h5⟩ := hB
  have h2' : m < ops.length := by simpa using h2
  have e1 : (ops.take m).length = m := by simp; omega
  have e2 : (ops.drop m).length = ops.toArray.size - m := by simp
  refine wpIn_region_any hm (any_round hd hQ _ _ _ _ ?_)
  have hh := wpAnyL_lex (md := .any) (g := ops.toArray.size - m) h1 h3 h4 h2 (ops.take m) 0 (Array.replicate ops.toArray.size false) a
    (fun j hj => by rw [e1] at hj; simp [hj]) (by simpa using e1)
    ⟨by simp, fun j oj _ hl => (by rw [getD_replicate_false] at hl; cases hl), fun t _ ht => getD_in (by simpa using ht) (getD_replicate_false _ _)⟩ (by rw [e1]; exact h5) h
  have hk := wpAny_of_head (Q' := Q) (g := ops.toArray.size - m) (fun listed a' hL => by
    have := wpAny_of_seq (md := .any) (Q' := Q) (ops.drop m) m listed a' w.drew (fun j => by simp [List.getElem?_drop]) (by rw [e2]; exact hL.1) hL.2
    rwa [e2] at this) _ _ _ hh
  have e3 : m + (ops.toArray.size - m) = ops.toArray.size := by omega
  rw [e1, e3] at hk
  exact hk
end Go.Proofs.Ytokphbpgblhakaa
