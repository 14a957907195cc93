/- PROVED: augurlaw14.TreePaths returns true whatever the input, and its input reads as it did. No condition. -/
import Derived.Test.YtokphbpgblhakaaTg
import Derived.Test.YtokphbpgblhakaaRows
import Derived.ProofKit
import Derived.SizedLaws
import Derived.OpenShut
import Derived.Below
import Derived.Deep.Slices
import Derived.Deep.Fields
import Derived.ChangeSame
namespace Go.Proofs.Ytokphbpgblhakaa.treePathsDone
open Go.ChangeShapes Go.WideShapes Go.ChangeAt Go.RowKit Go.Deep Go.Proofs.Ytokphbpgblhakaa

theorem own : ownKnob Try.prog.godebug = none := by kernel_rfl
theorem laidOut : laidOutB Try.prog = true := by kernel_rfl

section
variable {H : Type} {enc : TypeId × Value → H} {w : World} {base : Nat} {spare : Nat → Bool} {held : Bool}

/-- one node: three numbers in three cells -/
theorem open_node {a : Addr} {cs : List Value} {n : Nat} {d : DataW H} {p : List MemPlace} (hc : w.cells? base a 3 = some cs) (h : DataW.trod enc Try.prog w base spare held n 43 cs = some (d, p)) :
    ∃ x y z : Int, w.cell? a = some (.int .i64 x) ∧ w.cell? (a.add 1) = some (.int .i64 y) ∧ w.cell? (a.add 2) = some (.int .i64 z) ∧
      (-9223372036854775808 ≤ x ∧ x ≤ 9223372036854775807) ∧ (-9223372036854775808 ≤ y ∧ y ≤ 9223372036854775807) ∧ (-9223372036854775808 ≤ z ∧ z ≤ 9223372036854775807) := by
  obtain ⟨_, hlen, hat⟩ := World.cells?_some hc
  obtain ⟨c0, c1, c2, rfl⟩ : ∃ c0 c1 c2, cs = [c0, c1, c2] := by
    match cs, hlen with
    | [a, b, c], _ => exact ⟨a, b, c, rfl⟩
  obtain ⟨xs, m, _, _, _, hxl, hf⟩ := DataW.trod_struct Try.underlying43 h
  have go : ∀ (i : Nat) (t : TypeId) (v : Value), i < xs.length → Try.prog.underlying t = some (.int .i64) → DataW.trod enc Try.prog w base spare held m t [v] = xs[i]? → ∃ x : Int, v = .int .i64 x ∧ (-9223372036854775808 ≤ x ∧ x ≤ 9223372036854775807) := by
    intro i t v hi hu ht
    rw [List.getElem?_eq_getElem hi] at ht
    obtain ⟨x, hx, _, hw⟩ := DataW.trod_int hu ht
    simp only [List.cons.injEq, and_true] at hx
    refine ⟨x, hx, ?_⟩
    simp [Lit.wf] at hw
    exact ⟨hw.1, hw.2⟩
  obtain ⟨x, rfl, hx⟩ := go 0 3 c0 (by rw [hxl]; decide) Try.underlying3 (by
    have := hf 0 _ rfl
    simpa [show Try.prog.cellsOf 3 = 1 from by kernel_rfl] using this)
  obtain ⟨y, rfl, hy⟩ := go 1 3 c1 (by rw [hxl]; decide) Try.underlying3 (by
    have := hf 1 _ rfl
    simpa [show Try.prog.cellsOf 3 = 1 from by kernel_rfl] using this)
  obtain ⟨z, rfl, hz⟩ := go 2 3 c2 (by rw [hxl]; decide) Try.underlying3 (by
    have := hf 2 _ rfl
    simpa [show Try.prog.cellsOf 3 = 1 from by kernel_rfl] using this)
  have a0 := hat 0 (by omega)
  have a1 := hat 1 (by omega)
  have a2 := hat 2 (by omega)
  exact ⟨x, y, z, by simpa [Addr.add] using a0, by simpa using a1, by simpa using a2, hx, hy, hz⟩

theorem open_tree {len cap fuel : Nat} {a0 : Option Addr} {x : DataW H × List MemPlace} (h : DataW.trod enc Try.prog w base spare held fuel 22 [.slice a0 len cap] = some x) :
    ∃ T, TreeAt w a0 len T ∧ NdWf T len ∧ (len = 0 ∨ ∃ sp el, x.1 = .slice el sp ∧ el.length = len) := by
  rcases open_slice Try.underlying22 h with ⟨hcs, _⟩ | ⟨a, l, c, m, n, D, Pl, hcs, hb, hl, hm, hmm, rfl, hi⟩
  · simp at hcs
    obtain ⟨rfl, rfl, rfl⟩ := hcs
    exact ⟨fun _ => ⟨0, 0, 0⟩, fun h => absurd h (by omega), fun i hi => absurd hi (by omega), .inl rfl⟩
  · simp at hcs
    obtain ⟨rfl, rfl, rfl⟩ := hcs
    have hlm : len ≤ m := by rw [hmm]; split <;> omega
    rw [show Try.prog.cellsOf 43 = 3 from by kernel_rfl] at hi
    have hall : ∀ i, i < len → ∃ t : Nd, w.cell? (a.add (i * 3)) = some (.int .i64 t.par) ∧ w.cell? ((a.add (i * 3)).add 1) = some (.int .i64 t.tok) ∧ w.cell? ((a.add (i * 3)).add 2) = some (.int .i64 t.dep) ∧
      (-9223372036854775808 ≤ t.par ∧ t.par ≤ 9223372036854775807) ∧ (-9223372036854775808 ≤ t.tok ∧ t.tok ≤ 9223372036854775807) ∧ (-9223372036854775808 ≤ t.dep ∧ t.dep ≤ 9223372036854775807) := by
      intro i him
      obtain ⟨cs', h1, h2⟩ := hi i (by omega)
      obtain ⟨x, y, z, hh⟩ := open_node h1 h2
      exact ⟨⟨x, y, z⟩, hh⟩
    haveI : Inhabited Nd := ⟨⟨0, 0, 0⟩⟩
    obtain ⟨T, hT⟩ := choose_lt hall
    refine ⟨T, fun h0 => ?_, fun i hi => (hT i hi).2.2.2, .inr ⟨_, _, rfl, by simp⟩⟩
    obtain ⟨b, off, spot⟩ := a
    have hspot : spot = none := by simpa [Addr.add] using World.cell?_spot (hT 0 h0).1
    subst hspot
    refine ⟨b, off, rfl, fun i hi => ?_⟩
    obtain ⟨h1, h2, h3, _⟩ := hT i hi
    rw [add_add] at h2 h3
    simp only [add_plain] at h1 h2 h3
    exact ⟨h1, h2, h3⟩
end

set_option maxRecDepth 100000 in
theorem lifted (os : Os) (started : os.Started) (H : Type) (enc : TypeId × Value → H) :
    ReturnsInHanded {} Try.checked os 3 .any (Rows.treePathsSpec.pre6 enc Try.prog Try.f3 Rows.treePathsRow.domain false) (Rows.treePathsSpec.post enc Try.prog Try.f3 false true false false) := by
  refine returnsInHanded_of_change_sized (C := Try.checked) own started (by kernel_rfl) Try.func3
    (ChangeSpec.witness6 (enc := enc) (C := Try.checked) false ⟨#[], #[.slice none 0 0, .int .i64 0], []⟩ 8 (by kernel_rfl) (by kernel_rfl) (by kernel_rfl) (by kernel_rfl)) ?_
  intro W base args ds gs before hval0 hW _ hsz0 _
  have hsz : (DataW.weightsEach Try.prog (Try.f3.params.toList ++ Rows.treePathsSpec.plain.varTypes Try.prog) (ds ++ gs)).all (· ≤ reachBytes) = true := hsz0
  clear hsz0
  have hval : ∀ (j : Nat) t v, Try.f3.params[j]? = some t → args[j]? = some v → Value.okWide Try.prog W .any base t v := hval0
  have hW' := hW
  obtain ⟨p, q, hA0, hV, rfl, _, _⟩ := hW
  have hA : DataW.TrodAll enc Try.prog W 0 (fun _ => true) true Try.f3.params.toList args.toList ds p := hA0
  rw [Try.params3] at hA hval hsz
  obtain ⟨v0, v1, d0, d1, p0, p1, rfl, rfl, rfl, h0, h1⟩ := trodAll_two hA
  obtain ⟨rfl, rfl⟩ := trodVars_none hV
  obtain ⟨m, rfl, rfl, rfl, wm⟩ := open_int Try.underlying3 (hval 1 3 v1 rfl rfl) h1
  obtain ⟨a0, len, cap, rfl⟩ := okWide_slice Try.underlying22 (hval 0 22 v0 rfl rfl)
  have h0k := h0
  obtain ⟨fuel, hf⟩ := h0
  clear hA0 hval0
  have hlt : ∀ x ∈ p0, x.block < W.heap.size := fun x hx => hW'.lt x (by simpa using hx)
  obtain ⟨T, hT, hwf, hlen⟩ := open_tree hf
  have hreach : len * 24 ≤ 140737488351232 := by
    rcases hlen with h | ⟨sp, el, hd, hel⟩
    · omega
    · simp only at hd
      subst hd
      have := sized_slice hsz (j := 0) (t := 22) (e := 43) rfl rfl Try.underlying22
      rw [show Try.prog.bytesOf 43 = 24 from by kernel_rfl, hel] at this
      simp only [reachBytes] at this
      omega
  refine (treePaths_any a0 len cap T m W hreach hwf hT).mono fun e W' ⟨he, hch⟩ => ?_
  subst he
  have bel : Below W.heap.size W W' := hch.below (Nat.le_refl _) (fun _ _ h => h)
  exact ⟨_, rfl, _, _, _, [], _, [], hW', trodAll_mk1 (shut_bool Try.underlying4 _), trodAll_mk2 (Below.trod laidOut (by kernel_rfl) (of_decide_eq_true (by kernel_rfl)) h0k bel hlt) (shut_int Try.underlying3 wm), rfl, bel.frame _, fun h => by cases h⟩

theorem over : Rows.treePathsRow.holds Try.pinned (OpenSpec.ofChange Rows.treePathsSpec) :=
  OpenClaim.holds_of_wide 3 Try.f3 rfl rfl rfl rfl rfl rfl rfl ⟨rfl, rfl, rfl, rfl, rfl⟩ rfl rfl rfl rfl rfl (by kernel_rfl) Try.func3 (by kernel_rfl)
    (of_decide_eq_true (by kernel_rfl)) (by unfold Func.isWrapper; first | (rw [if_pos (by decide +kernel)]; kernel_rfl) | (rw [if_neg (by decide +kernel)]; exact ⟨rfl, rfl⟩))
    (fun os started H enc _ => lifted os started H enc)


end Go.Proofs.Ytokphbpgblhakaa.treePathsDone
namespace Go.Proofs.Ytokphbpgblhakaa
theorem treePaths_done : Rows.TreePathsSaid := treePathsDone.over
#print axioms treePaths_done
end Go.Proofs.Ytokphbpgblhakaa
