/- Words of this claim's own: a map's block as the list of its keys and elements, whatever the elements are; what look-up, store, delete and len do to it. -/
import Derived.Maps.Keyed
import Derived.Carry
import Derived.WalkKit
import Derived.Test.YtokphbpgblhakaaKu
namespace Go.Proofs.Ytokphbpgblhakaa
open Go.RowKit Go.Maps

def KeyOk (P : Program) (k : TypeId) (v : Value) : Prop := ∃ l, keyOf P k v = some l

/-- block b is a map whose entries are m, in the order in which they were made -/
def MapIs (P : Program) (k : TypeId) (w : World) (b : Nat) (m : List (Value × Value)) : Prop :=
  ∃ es clock, w.heap[b]? = some (.map es clock) ∧ es.toList.map (fun e => (e.key, e.val)) = m ∧ (∀ p ∈ m, KeyOk P k p.1) ∧ (m.map (·.1)).Nodup ∧
    (∀ e ∈ es.toList, e.born < clock) ∧ (es.toList.map (·.born)).Nodup

section
variable {P : Program} {k e t : TypeId} {w : World} {b : Nat} {m : List (Value × Value)}

theorem MapIs.made (P : Program) (k : TypeId) (w : World) : MapIs P k (w.alloc (.map #[] 0)) w.heap.size [] :=
  ⟨#[], 0, World.alloc_heap_new w _, rfl, by simp, by simp, by simp, by simp⟩
theorem MapIs.lt (h : MapIs P k w b m) : b < w.heap.size := by
  obtain ⟨es, c, hb, _⟩ := h
  exact (Array.getElem?_eq_some_iff.1 hb).1
theorem MapIs.heap (h : MapIs P k w b m) {w' : World} (hk : w'.heap[b]? = w.heap[b]?) : MapIs P k w' b m := by
  obtain ⟨es, c, hb, r⟩ := h
  exact ⟨es, c, hk.trans hb, r⟩
theorem MapIs.chg {S : Nat → Prop} (h : MapIs P k w b m) {w' : World} (hc : Chg S w w') (hS : ¬ S b) : MapIs P k w' b m := h.heap (hc.block b h.lt hS)
theorem MapIs.alloc (h : MapIs P k w b m) (o : Obj) : MapIs P k (w.alloc o) b m := h.heap (Below.heap_alloc w o b h.lt)
theorem MapIs.setCell (h : MapIs P k w b m) {p : Addr} (hp : b ≠ p.block) (u : Value) : MapIs P k (w.setCell p u) b m := h.heap (Below.heap_setCell w p u b hp)
theorem MapIs.drew (h : MapIs P k w b m) : MapIs P k w.drew b m := h
theorem MapIs.drewN (h : MapIs P k w b m) (n : Nat) : MapIs P k (w.drewN n) b m := h

theorem run_getObj_of {o : Obj} (h : w.heap[b]? = some o) (hc : o.isCells = false) : (getObj b).run P w = .ok o w := by
  unfold getObj; cases o <;> simp_all [Sem.run, Obj.isCells]
theorem run_setObj_of {o o' : Obj} (h : w.heap[b]? = some o) (hc : o.isCells = false) : (setObj b o').run P w = .ok () (w.putObj b o') := by
  unfold setObj; cases o <;> simp_all [Sem.run, Obj.isCells, World.putObj]

theorem keys_of {es : List MapEntry} (hm : es.map (fun e => (e.key, e.val)) = m) (hk : ∀ p ∈ m, KeyOk P k p.1) : ∀ e ∈ es, ∃ l, keyOf P k e.key = some l := fun e he =>
  hk (e.key, e.val) (by rw [← hm]; exact List.mem_map.2 ⟨e, he, rfl⟩)

theorem map_erase {α β : Type} (f : α → β) : ∀ (l : List α) (i : Nat), (l.eraseIdx i).map f = (l.map f).eraseIdx i
  | [], _ => rfl
  | _ :: _, 0 => rfl
  | x :: l, i + 1 => by simp [List.eraseIdx, map_erase f l i]

theorem nodup_fst_inj : ∀ {m : List (Value × Value)}, (m.map (·.1)).Nodup → ∀ {x v v' : Value}, (x, v) ∈ m → (x, v') ∈ m → v = v'
  | [], _, _, _, _, h, _ => by cases h
  | (y, u) :: m, hn, x, v, v', h, h' => by
    simp only [List.map_cons, List.nodup_cons, List.mem_map, not_exists, not_and] at hn
    rcases List.mem_cons.1 h with h1 | h1 <;> rcases List.mem_cons.1 h' with h2 | h2
    · cases h1; cases h2; rfl
    · cases h1; exact absurd rfl (hn.1 _ h2)
    · cases h2; exact absurd rfl (hn.1 _ h1)
    · exact nodup_fst_inj hn.2 h1 h2

/-- where a key is found: there it is; where it is not found: it is not there -/
theorem MapIs.find (h : MapIs P k w b m) (K : Keyed P k) {x : Value} (hx : KeyOk P k x) :
    ∃ es clock, w.heap[b]? = some (.map es clock) ∧ es.toList.map (fun e => (e.key, e.val)) = m ∧
      (((Instr.findKey k x es.toList).run P w = .ok none w ∧ ∀ p ∈ m, p.1 ≠ x) ∨ ∃ j e, (Instr.findKey k x es.toList).run P w = .ok (some (j, e.val)) w ∧ es.toList[j]? = some e ∧ e.key = x ∧ (x, e.val) ∈ m) := by
  obtain ⟨es, c, hb, hm, hk, hn, _⟩ := h
  obtain ⟨lx, hlx⟩ := hx
  refine ⟨es, c, hb, hm, ?_⟩
  rcases K.find w hlx es.toList (keys_of hm hk) with ⟨h1, h2⟩ | ⟨j, e, h1, h2, h3⟩
  · refine .inl ⟨h1, fun p hp => ?_⟩
    rw [← hm] at hp
    obtain ⟨e, he, rfl⟩ := List.mem_map.1 hp
    exact h2 e he
  · refine .inr ⟨j, e, h1, h2, h3, ?_⟩
    rw [← hm, ← h3]
    exact List.mem_map.2 ⟨e, List.mem_of_getElem? h2, rfl⟩

theorem MapIs.lookup_hit (h : MapIs P k w b m) (K : Keyed P k) (ht : P.underlying t = some (.map k e)) {x v : Value} (hx : KeyOk P k x) (hv : (x, v) ∈ m) (c : Bool) :
    (Instr.lookup t (.map (some b)) x c).run P w = .ok (if c then .tuple #[v, .bool true] else v) w := by
  have hn := h
  obtain ⟨es, cl, hb, hm, hf⟩ := h.find K hx
  obtain ⟨lx, hlx⟩ := hx
  have hck := K.check w es.isEmpty hlx
  rcases hf with ⟨_, h2⟩ | ⟨j, e0, h1, _, _, h4⟩
  · exact absurd rfl (h2 _ hv)
  · obtain ⟨_, _, _, _, _, hnd, _⟩ := hn
    have : v = e0.val := nodup_fst_inj hnd hv h4
    subst this
    simp [Instr.lookup, run_underlying ht, run_getObj_of hb rfl, hck, h1]

theorem MapIs.lookup_miss (h : MapIs P k w b m) (K : Keyed P k) (ht : P.underlying t = some (.map k e)) {z : Value} (hz : (zeroValue e).run P w = .ok z w) {x : Value} (hx : KeyOk P k x) (hv : ∀ p ∈ m, p.1 ≠ x) (c : Bool) :
    (Instr.lookup t (.map (some b)) x c).run P w = .ok (if c then .tuple #[z, .bool false] else z) w := by
  obtain ⟨es, cl, hb, hm, hf⟩ := h.find K hx
  obtain ⟨lx, hlx⟩ := hx
  have hck := K.check w es.isEmpty hlx
  rcases hf with ⟨h1, _⟩ | ⟨j, e0, _, _, _, h4⟩
  · simp [Instr.lookup, run_underlying ht, run_getObj_of hb rfl, hck, h1, hz]
  · exact absurd rfl (hv _ h4)

theorem MapIs.put_obj {es' : Array MapEntry} {cl' : Nat} {m' : List (Value × Value)} (hlt : b < w.heap.size) (hm : es'.toList.map (fun e => (e.key, e.val)) = m') (hk : ∀ p ∈ m', KeyOk P k p.1) (hn : (m'.map (·.1)).Nodup)
    (hborn : ∀ e ∈ es'.toList, e.born < cl') (hbn : (es'.toList.map (·.born)).Nodup) : MapIs P k (w.putObj b (.map es' cl')) b m' :=
  ⟨es', cl', World.putObj_heap_same hlt, hm, hk, hn, hborn, hbn⟩

/-- 'm[x] = v' where x is not there yet -/
theorem MapIs.store_new (h : MapIs P k w b m) (K : Keyed P k) (ht : P.underlying t = some (.map k e)) {x v : Value} (hx : KeyOk P k x) (hv : ∀ p ∈ m, p.1 ≠ x) :
    ∃ w', (Instr.mapUpdate t (.map (some b)) x v).run P w = .ok () w' ∧ MapIs P k w' b (m ++ [(x, v)]) ∧ Chg (fun i => i = b) w w' := by
  obtain ⟨es, cl, hb, hm, hk, hn, hbo, hbn⟩ := h
  have hlt := (Array.getElem?_eq_some_iff.1 hb).1
  obtain ⟨es', cl', hb', hm', hf⟩ := MapIs.find ⟨es, cl, hb, hm, hk, hn, hbo, hbn⟩ K hx
  obtain ⟨lx, hlx⟩ := hx
  have hck := K.check w false hlx
  rw [hb] at hb'
  cases hb'
  rcases hf with ⟨h1, _⟩ | ⟨j, e0, _, _, _, h4⟩
  · refine ⟨w.putObj b (.map (es.push { key := x, val := v, born := cl }) (cl + 1)), ?_, MapIs.put_obj hlt ?_ ?_ ?_ ?_ ?_, (Chg.refl (fun i => i = b) w).putObj (fun _ => rfl) _⟩
    · simp [Instr.mapUpdate, run_underlying ht, run_getObj_of hb rfl, hck, h1, run_setObj_of hb rfl]
    · simp [hm]
    · intro p hp
      rcases List.mem_append.1 hp with hp | hp
      · exact hk p hp
      · simp at hp; subst hp; exact ⟨lx, hlx⟩
    · rw [List.map_append, List.nodup_append]
      refine ⟨hn, by simp, ?_⟩
      intro a ha c hc
      simp at hc
      subst hc
      obtain ⟨p, hp, rfl⟩ := List.mem_map.1 ha
      exact hv p hp
    · intro y hy
      simp at hy
      rcases hy with hy | rfl
      · have := hbo y (by simpa using hy); omega
      · simp
    · rw [Array.toList_push, List.map_append, List.nodup_append]
      refine ⟨hbn, by simp, ?_⟩
      intro a ha c hc
      simp at hc
      subst hc
      obtain ⟨y, hy, rfl⟩ := List.mem_map.1 ha
      have := hbo y hy; omega
  · exact absurd rfl (hv _ h4)

/-- the list with the element at x another -/
def setVal (m : List (Value × Value)) (j : Nat) (v : Value) : List (Value × Value) := m.modify j fun p => (p.1, v)

/-- 'm[x] = v' where x is there -/
theorem MapIs.store_old (h : MapIs P k w b m) (K : Keyed P k) (ht : P.underlying t = some (.map k e)) {x v u : Value} (hx : KeyOk P k x) {j : Nat} (hj : m[j]? = some (x, u)) :
    ∃ w', (Instr.mapUpdate t (.map (some b)) x v).run P w = .ok () w' ∧ MapIs P k w' b (setVal m j v) ∧ Chg (fun i => i = b) w w' := by
  obtain ⟨es, cl, hb, hm, hk, hn, hbo, hbn⟩ := h
  have hlt := (Array.getElem?_eq_some_iff.1 hb).1
  obtain ⟨es', cl', hb', hm', hf⟩ := MapIs.find ⟨es, cl, hb, hm, hk, hn, hbo, hbn⟩ K hx
  obtain ⟨lx, hlx⟩ := hx
  have hck := K.check w false hlx
  have hst := K.stays w hlx
  rw [hb] at hb'
  cases hb'
  rcases hf with ⟨_, h2⟩ | ⟨j', e0, h1, h2, h3, h4⟩
  · exact absurd rfl (h2 _ (List.mem_of_getElem? hj))
  · have hjj : j' = j := by
      have e1 : (m.map (·.1))[j']? = some x := by rw [← hm]; simp [h2, h3]
      have e2 : (m.map (·.1))[j]? = some x := by simp [hj]
      have hl : j' < (m.map (·.1)).length := (List.getElem?_eq_some_iff.1 e1).1
      exact (List.getElem?_inj hl hn).1 (e1.trans e2.symm)
    subst hjj
    have hjes : es[j']? = some e0 := by simpa using h2
    refine ⟨w.putObj b (.map (es.modify j' fun y => { y with key := x, val := v }) cl), ?_, MapIs.put_obj hlt ?_ ?_ ?_ ?_ ?_, (Chg.refl (fun i => i = b) w).putObj (fun _ => rfl) _⟩
    · simp [Instr.mapUpdate, run_underlying ht, run_getObj_of hb rfl, hck, h1, hjes, h3, hst, run_setObj_of hb rfl]
    · apply List.ext_getElem?
      intro i
      rw [← hm]
      simp only [setVal, List.getElem?_map, Array.toList_modify, List.getElem?_modify]
      by_cases hi : j' = i
      · subst hi; simp [hjes, h3]
      · simp [hi]
    · intro p hp
      obtain ⟨i, hi⟩ := List.getElem?_of_mem hp
      rw [setVal, List.getElem?_modify] at hi
      by_cases hji : j' = i
      · subst hji; simp [hj] at hi; subst hi; exact ⟨lx, hlx⟩
      · simp [hji] at hi; exact hk p (List.mem_of_getElem? hi)
    · have : (setVal m j' v).map (·.1) = m.map (·.1) := by
        apply List.ext_getElem?
        intro i
        simp only [setVal, List.getElem?_map, List.getElem?_modify]
        by_cases hi : j' = i
        · subst hi; simp [hj]
        · simp [hi]
      rw [this]; exact hn
    · intro y hy
      obtain ⟨i, hi⟩ := List.getElem?_of_mem hy
      rw [Array.toList_modify, List.getElem?_modify] at hi
      by_cases hji : j' = i
      · subst hji; simp [hjes] at hi; subst hi; exact hbo e0 (List.mem_of_getElem? h2)
      · simp [hji] at hi; exact hbo y (List.mem_of_getElem? (by simpa using hi))
    · have : (es.modify j' fun y => { y with key := x, val := v }).toList.map (·.born) = es.toList.map (·.born) := by
        apply List.ext_getElem?
        intro i
        simp only [List.getElem?_map, Array.toList_modify, List.getElem?_modify]
        by_cases hi : j' = i
        · subst hi; simp [hjes]
        · simp [hi]
      rw [this]; exact hbn

/-- 'delete(m, x)' where x is there -/
theorem MapIs.delete_hit (h : MapIs P k w b m) (K : Keyed P k) (ht : P.underlying t = some (.map k e)) {ty : TypeId} {x u : Value} (hx : KeyOk P k x) {j : Nat} (hj : m[j]? = some (x, u)) :
    ∃ w', (Builtin.delete_ #[t, k] ty #[.map (some b), x]).run P w = .ok (.tuple #[]) w' ∧ MapIs P k w' b (m.eraseIdx j) ∧ Chg (fun i => i = b) w w' := by
  obtain ⟨es, cl, hb, hm, hk, hn, hbo, hbn⟩ := h
  have hlt := (Array.getElem?_eq_some_iff.1 hb).1
  obtain ⟨es', cl', hb', hm', hf⟩ := MapIs.find ⟨es, cl, hb, hm, hk, hn, hbo, hbn⟩ K hx
  obtain ⟨lx, hlx⟩ := hx
  have hck := K.check w es.isEmpty hlx
  rw [hb] at hb'
  cases hb'
  rcases hf with ⟨_, h2⟩ | ⟨j', e0, h1, h2, h3, h4⟩
  · exact absurd rfl (h2 _ (List.mem_of_getElem? hj))
  · have hjj : j' = j := by
      have e1 : (m.map (·.1))[j']? = some x := by rw [← hm]; simp [h2, h3]
      have e2 : (m.map (·.1))[j]? = some x := by simp [hj]
      have hl : j' < (m.map (·.1)).length := (List.getElem?_eq_some_iff.1 e1).1
      exact (List.getElem?_inj hl hn).1 (e1.trans e2.symm)
    subst hjj
    have hls : (es.eraseIdxIfInBounds j').toList = es.toList.eraseIdx j' := by
      unfold Array.eraseIdxIfInBounds
      split
      · simp
      · rename_i hlt'
        rw [List.eraseIdx_of_length_le (by simpa using hlt')]
    refine ⟨w.putObj b (.map (es.eraseIdxIfInBounds j') cl), ?_, MapIs.put_obj hlt ?_ ?_ ?_ ?_ ?_, (Chg.refl (fun i => i = b) w).putObj (fun _ => rfl) _⟩
    · simp [Builtin.delete_, run_underlying ht, run_getObj_of hb rfl, hck, h1, run_setObj_of hb rfl]
    · rw [hls, ← hm, map_erase]
    · intro p hp; exact hk p (List.mem_of_mem_eraseIdx hp)
    · rw [map_erase]; exact hn.sublist (List.eraseIdx_sublist _ _)
    · rw [hls]; intro y hy; exact hbo y (List.mem_of_mem_eraseIdx hy)
    · rw [hls, map_erase]; exact hbn.sublist (List.eraseIdx_sublist _ _)

theorem MapIs.len (h : MapIs P k w b m) (ht : P.underlying t = some (.map k e)) {ty : TypeId} : (Builtin.len_ #[t] ty #[.map (some b)]).run P w = .ok (.int .i64 m.length) w := by
  obtain ⟨es, cl, hb, hm, _⟩ := h
  have : m.length = es.size := by rw [← hm]; simp
  simp [Builtin.len_, run_underlying ht, run_getObj_of hb rfl, this, goInt]
end
end Go.Proofs.Ytokphbpgblhakaa
