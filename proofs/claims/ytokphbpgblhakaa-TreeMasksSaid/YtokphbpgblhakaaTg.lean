/- TreePaths as a function: it returns true and turns no block that lay (function 3). -/
import Derived.Test.YtokphbpgblhakaaTf
import Derived.Deep.AppendLies
namespace Go.Proofs.Ytokphbpgblhakaa
open Go.RowKit
attribute [local go_sem] Oper.semAt_some

theorem owns_shape {w : World} {base : Nat} {e : TypeId} {size n : Nat} {v : Value} {xs : List Value} (h : w.ownsRow base e size v n xs) : ∃ X cp, v = .slice X n cp := by
  obtain ⟨_, ⟨rfl, rfl⟩ | ⟨g, cap, cur, rfl, _⟩⟩ := h
  · exact ⟨_, _, rfl⟩
  · exact ⟨_, _, rfl⟩

theorem eqlFuncNil (w : World) (fn : Fn) (a b : Array Value) : (binOp .eql 27 (.func fn a b) .nilFunc).run Try.prog w = .ok (.bool false) w := by
  have h : ∀ d : Nat, (Op.equalIn (d + 1) 27 (.func fn a b) .nilFunc).run Try.prog w = .ok false w := fun d => by
    simp [Op.equalIn, run_underlying Try.underlying27]
  simp only [binOp]
  simp [Op.equal, Op.maxDepth, h 9999]

theorem boxed_chg {S : Nat → Prop} {w w' : World} {B : Nat} {t : TypeId} {v : Value} (h : Boxed w B t v) (hc : Chg S w w') (hS : ¬ S B) : Boxed w' B t v := hc.heap h hS

theorem intsAt_of_row {w : World} {g : Nat} {l : List Nat} {cap : Nat} (h : Row w g 3 1 l.length cap (wayVals l)) : IntsAt w (some ⟨g, 0, none⟩) l.length (fun j => ((l.getD j 0 : Nat) : Int)) := fun _ =>
  ⟨g, 0, rfl, fun j hj => by
    rw [Nat.zero_add]
    exact h.cell (by simp [wayVals, hj])⟩

theorem pl_paths {T : Nat → Nd} {n : Nat} (h : okTree T n) : (pl T n).map (way T) = paths T n := by
  rw [pl, if_pos h]; rfl

set_option maxRecDepth 100000 in
theorem refPaths_any (A : Option Addr) (n c : Nat) (T : Nat → Nd) (w : World) (hn : n * 24 ≤ 140737488351232) (hA : TreeAt w A n T) :
    Calls Try.prog 6 #[.slice A n c] w fun e w' => ∃ v vals, e = .returned v ∧ w'.ownsRow w.heap.size 29 1 v (pl T n).length vals ∧ Lists w' w.heap.size vals ((pl T n).map (way T)) ∧ Chg NoB w w' := by
  by_cases hok : okTree T n
  · refine (refPaths_yes A n c T w hn hA hok).mono ?_
    rintro e w' ⟨v, vals, rfl, h1, h2, h3⟩
    rw [← pl_paths hok] at h1 h2
    rw [List.length_map] at h1
    exact ⟨v, vals, rfl, h1, h2, h3⟩
  · refine (refPaths_no A n c T w hA hok).mono ?_
    rintro e w' ⟨rfl, h3⟩
    rw [pl, if_neg hok]
    exact ⟨_, [], rfl, World.ownsRow_nil _ _ _ _, Lists.nil _ _, h3⟩

theorem peel {l : List Value} {k : Nat} (h : l.length = k + 1) : ∃ x l', l = x :: l' ∧ l'.length = k := by
  cases l with
  | nil => simp at h
  | cons x l => exact ⟨x, l, rfl, by simpa using h⟩

set_option maxRecDepth 100000 in
set_option maxHeartbeats 1000000 in
theorem lit64 (a : Act) (h : a.tmps.size = 64) : ∃ f : Nat → Value, a = { tmps := #[f 0, f 1, f 2, f 3, f 4, f 5, f 6, f 7, f 8, f 9, f 10, f 11, f 12, f 13, f 14, f 15, f 16, f 17, f 18, f 19, f 20, f 21, f 22, f 23, f 24, f 25, f 26, f 27, f 28, f 29, f 30, f 31, f 32, f 33, f 34, f 35, f 36, f 37, f 38, f 39, f 40, f 41, f 42, f 43, f 44, f 45, f 46, f 47, f 48, f 49, f 50, f 51, f 52, f 53, f 54, f 55, f 56, f 57, f 58, f 59, f 60, f 61, f 62, f 63], defers := a.defers } := by
  obtain ⟨⟨l0⟩, defers⟩ := a
  have h0 : l0.length = 64 := by simpa using h
  clear h
  obtain ⟨x0, l1, rfl, h1⟩ := peel h0
  obtain ⟨x1, l2, rfl, h2⟩ := peel h1
  obtain ⟨x2, l3, rfl, h3⟩ := peel h2
  obtain ⟨x3, l4, rfl, h4⟩ := peel h3
  obtain ⟨x4, l5, rfl, h5⟩ := peel h4
  obtain ⟨x5, l6, rfl, h6⟩ := peel h5
  obtain ⟨x6, l7, rfl, h7⟩ := peel h6
  obtain ⟨x7, l8, rfl, h8⟩ := peel h7
  obtain ⟨x8, l9, rfl, h9⟩ := peel h8
  obtain ⟨x9, l10, rfl, h10⟩ := peel h9
  obtain ⟨x10, l11, rfl, h11⟩ := peel h10
  obtain ⟨x11, l12, rfl, h12⟩ := peel h11
  obtain ⟨x12, l13, rfl, h13⟩ := peel h12
  obtain ⟨x13, l14, rfl, h14⟩ := peel h13
  obtain ⟨x14, l15, rfl, h15⟩ := peel h14
  obtain ⟨x15, l16, rfl, h16⟩ := peel h15
  obtain ⟨x16, l17, rfl, h17⟩ := peel h16
  obtain ⟨x17, l18, rfl, h18⟩ := peel h17
  obtain ⟨x18, l19, rfl, h19⟩ := peel h18
  obtain ⟨x19, l20, rfl, h20⟩ := peel h19
  obtain ⟨x20, l21, rfl, h21⟩ := peel h20
  obtain ⟨x21, l22, rfl, h22⟩ := peel h21
  obtain ⟨x22, l23, rfl, h23⟩ := peel h22
  obtain ⟨x23, l24, rfl, h24⟩ := peel h23
  obtain ⟨x24, l25, rfl, h25⟩ := peel h24
  obtain ⟨x25, l26, rfl, h26⟩ := peel h25
  obtain ⟨x26, l27, rfl, h27⟩ := peel h26
  obtain ⟨x27, l28, rfl, h28⟩ := peel h27
  obtain ⟨x28, l29, rfl, h29⟩ := peel h28
  obtain ⟨x29, l30, rfl, h30⟩ := peel h29
  obtain ⟨x30, l31, rfl, h31⟩ := peel h30
  obtain ⟨x31, l32, rfl, h32⟩ := peel h31
  obtain ⟨x32, l33, rfl, h33⟩ := peel h32
  obtain ⟨x33, l34, rfl, h34⟩ := peel h33
  obtain ⟨x34, l35, rfl, h35⟩ := peel h34
  obtain ⟨x35, l36, rfl, h36⟩ := peel h35
  obtain ⟨x36, l37, rfl, h37⟩ := peel h36
  obtain ⟨x37, l38, rfl, h38⟩ := peel h37
  obtain ⟨x38, l39, rfl, h39⟩ := peel h38
  obtain ⟨x39, l40, rfl, h40⟩ := peel h39
  obtain ⟨x40, l41, rfl, h41⟩ := peel h40
  obtain ⟨x41, l42, rfl, h42⟩ := peel h41
  obtain ⟨x42, l43, rfl, h43⟩ := peel h42
  obtain ⟨x43, l44, rfl, h44⟩ := peel h43
  obtain ⟨x44, l45, rfl, h45⟩ := peel h44
  obtain ⟨x45, l46, rfl, h46⟩ := peel h45
  obtain ⟨x46, l47, rfl, h47⟩ := peel h46
  obtain ⟨x47, l48, rfl, h48⟩ := peel h47
  obtain ⟨x48, l49, rfl, h49⟩ := peel h48
  obtain ⟨x49, l50, rfl, h50⟩ := peel h49
  obtain ⟨x50, l51, rfl, h51⟩ := peel h50
  obtain ⟨x51, l52, rfl, h52⟩ := peel h51
  obtain ⟨x52, l53, rfl, h53⟩ := peel h52
  obtain ⟨x53, l54, rfl, h54⟩ := peel h53
  obtain ⟨x54, l55, rfl, h55⟩ := peel h54
  obtain ⟨x55, l56, rfl, h56⟩ := peel h55
  obtain ⟨x56, l57, rfl, h57⟩ := peel h56
  obtain ⟨x57, l58, rfl, h58⟩ := peel h57
  obtain ⟨x58, l59, rfl, h59⟩ := peel h58
  obtain ⟨x59, l60, rfl, h60⟩ := peel h59
  obtain ⟨x60, l61, rfl, h61⟩ := peel h60
  obtain ⟨x61, l62, rfl, h62⟩ := peel h61
  obtain ⟨x62, l63, rfl, h63⟩ := peel h62
  obtain ⟨x63, l64, rfl, h64⟩ := peel h63
  obtain rfl : l64 = [] := List.eq_nil_of_length_eq_zero h64
  exact ⟨fun i => [x0, x1, x2, x3, x4, x5, x6, x7, x8, x9, x10, x11, x12, x13, x14, x15, x16, x17, x18, x19, x20, x21, x22, x23, x24, x25, x26, x27, x28, x29, x30, x31, x32, x33, x34, x35, x36, x37, x38, x39, x40, x41, x42, x43, x44, x45, x46, x47, x48, x49, x50, x51, x52, x53, x54, x55, x56, x57, x58, x59, x60, x61, x62, x63].getD i undef, rfl⟩

set_option maxRecDepth 100000 in
set_option maxHeartbeats 4000000 in
theorem treePaths_any (A : Option Addr) (n c : Nat) (T : Nat → Nd) (most : Int) (W : World) (hn : n * 24 ≤ 140737488351232) (hw : NdWf T n) (hA : TreeAt W A n T) :
    Calls Try.prog 3 #[.slice A n c, .int .i64 most] W fun e w' => e = .returned (.bool true) ∧ Chg NoB W w' := by
  have hA1 : ∀ w', Chg NoB W w' → TreeAt w' A n T := fun w' hc => hA.chg hc (fun _ _ _ h => h)
  have HA := Lib.hid hA1
  clear hA1 hA
  refine (callsIn_wide (n := 9)).1 (callsIn_of_wp_marks Try.func3 rfl trivial (wpIn_wide.2 ?_) rfl)
  simp only [Try.ntmps3, List.size_toArray, List.length_cons, List.length_nil, Nat.reduceAdd, Nat.reduceSub, Array.replicate_succ, Array.replicate_zero, List.push_toArray, List.append_toArray, List.nil_append, List.cons_append]
  go_wp2_with fail
  have hch0 : Chg NoB W ((W.alloc (.cells #[.int .i64 most] 3)).alloc (.cells #[.bool false] 4)) := ((Chg.refl _ _).alloc _).alloc _
  refine (spareNodes_any A n c T _ hn (HA.out _ hch0)).mono ?_
  rintro e w1 ⟨g, cap, rfl, hg, hrow, hc1⟩
  have hcA : Chg NoB W w1 := hch0.step hc1
  go_wp2_with fail
  refine (refPaths_any A n c T _ hn (HA.out _ hcA)).mono ?_
  rintro e w2 ⟨v, vals, rfl, hown, hls, hc2⟩
  have hcB : Chg NoB W w2 := hcA.step hc2
  obtain ⟨X, cp, rfl⟩ := owns_shape hown
  go_wp2_with fail
  refine (paths_call (some ⟨g, 0, none⟩) n cap _).mono ?_
  rintro e w3 ⟨rfl, rfl⟩
  have hfn := eqlFuncNil
  go_wp2_with fail
  -- what lies at the loop's head
  have hs2 : W.heap.size + 2 ≤ w2.heap.size := by have h1 := hc1.size; have h2 := hc2.size; simp at h1; omega
  have hgw : W.heap.size + 2 ≤ g := by simp at hg; omega
  have hgl : g < w2.heap.size := by have h1 := hrow.lt; have h2 := hc2.size; omega
  have q3 : Boxed w2 W.heap.size 3 (.int .i64 most) := boxed_chg (boxed_chg ((Boxed.new W 3 _).alloc _) hc1 (fun h => h)) hc2 (fun h => h)
  have q4 : Boxed w2 (W.heap.size + 1) 4 (.bool false) := by
    have := Boxed.new (W.alloc (.cells #[.int .i64 most] 3)) 4 (.bool false)
    rw [World.size_alloc] at this
    exact boxed_chg (boxed_chg this hc1 (fun h => h)) hc2 (fun h => h)
  have q6 := (((Boxed.new w2 24 (.slice X (pl T n).length cp)).alloc (.cells #[.slice (some ⟨g, 0, none⟩) n cap] 22)).alloc (.cells #[.int .i64 0] 3))
  have qx := ((Boxed.new (w2.alloc (.cells #[.slice X (pl T n).length cp] 24)) 22 (.slice (some ⟨g, 0, none⟩) n cap)).alloc (.cells #[.int .i64 0] 3))
  have q8 := Boxed.new ((w2.alloc (.cells #[.slice X (pl T n).length cp] 24)).alloc (.cells #[.slice (some ⟨g, 0, none⟩) n cap] 22)) 3 (.int .i64 0)
  rw [World.size_alloc] at qx
  rw [World.size_alloc, World.size_alloc] at q8
  have hc5 : Chg NoB w2 (((w2.alloc (.cells #[.slice X (pl T n).length cp] 24)).alloc (.cells #[.slice (some ⟨g, 0, none⟩) n cap] 22)).alloc (.cells #[.int .i64 0] 3)) := (((Chg.refl _ _).alloc _).alloc _).alloc _
  have hs5 : (((w2.alloc (.cells #[.slice X (pl T n).length cp] 24)).alloc (.cells #[.slice (some ⟨g, 0, none⟩) n cap] 22)).alloc (.cells #[.int .i64 0] 3)).heap.size = w2.heap.size + 3 := by simp
  generalize ((w2.alloc (.cells #[.slice X (pl T n).length cp] 24)).alloc (.cells #[.slice (some ⟨g, 0, none⟩) n cap] 22)).alloc (.cells #[.int .i64 0] 3) = W5 at *
  replace q3 := boxed_chg q3 hc5 (fun h => h)
  replace q4 := boxed_chg q4 hc5 (fun h => h)
  replace hrow := (hrow.chg hc2 (fun h => h)).chg hc5 (fun h => h)
  have Hc5 := Lib.hid hc5
  have hcC : Chg NoB W W5 := hcB.step hc5
  have hg5 : g < W5.heap.size := hrow.lt
  have hlt6 := q6.lt
  have hown1 : w1.heap.size ≤ w2.heap.size := hc2.size
  have hown2 : W.heap.size + 2 ≤ w1.heap.size := by have h1 := hc1.size; simp at h1; omega
  have Hrow := Lib.hid hrow
  have Hown := Lib.hid hown
  have Hls := Lib.hid hls
  have Q3 := Lib.hid q3
  have Q4 := Lib.hid q4
  have Q6 := Lib.hid q6
  have Qx := Lib.hid qx
  have HcC := Lib.hid hcC
  clear hrow hown hls q3 q4 q6 qx hcC hc5 hc2 hc1 hcA hcB hch0 hg
  refine wp_loop (fun a w' => ∃ (r b8 : Nat) (f : Nat → Value) (Ds : List Nat), r ≤ 3 ∧ a = { tmps := #[.slice A n c, .int .i64 most, f 2, .pointer (some ⟨W.heap.size, 0, none⟩), .pointer (some ⟨W.heap.size + 1, 0, none⟩), .slice (some ⟨g, 0, none⟩) n cap, .pointer (some ⟨w2.heap.size, 0, none⟩),
      .func (.func 16) #[] #[.pointer (some ⟨w2.heap.size + 1, 0, none⟩)], .pointer (some ⟨b8, 0, none⟩), f 9, f 10, f 11, f 12, f 13, f 14, f 15, f 16, f 17, f 18, f 19, f 20, f 21, f 22, f 23, f 24, f 25, f 26, f 27, f 28, f 29, f 30, f 31, f 32, f 33, f 34, f 35, f 36, f 37, f 38, f 39, f 40, f 41, f 42, f 43, f 44, f 45, f 46, f 47, f 48, f 49, f 50, f 51, f 52, f 53, f 54, f 55, f 56, f 57, f 58, f 59, f 60, f 61, f 62, f 63], defers := Ds.map fun D => { target := .collected D, args := #[] } } ∧
      Ds.length = r ∧ Boxed w' b8 3 (.int .i64 r) ∧ (b8 = w2.heap.size + 2 ∨ W5.heap.size ≤ b8) ∧ Chg (fun k => k = w2.heap.size + 2) W5 w' ∧ Ds.Nodup ∧ (∀ D ∈ Ds, W5.heap.size ≤ D ∧ w'.heap[D]? = some (.deferred (some []))))
    (fun a _ => 3 - a.defers.length) ?start ?round
  case start =>
    exact ⟨0, w2.heap.size + 2, fun i => #[undef, undef, undef, undef, undef, undef, undef, undef, undef, undef, undef, .slice A n c, .slice (some ⟨g, 0, none⟩) n cap, .slice A n c, .slice X (pl T n).length cp, .slice (some ⟨g, 0, none⟩) n cap, .func (.func 16) #[] #[.pointer (some ⟨w2.heap.size + 1, 0, none⟩)], .func (.func 16) #[] #[.pointer (some ⟨w2.heap.size + 1, 0, none⟩)], .bool false].getD i undef,
      [], by omega, rfl, rfl, q8, .inl rfl, Chg.refl _ _, List.nodup_nil, fun _ h => by cases h⟩
  case round =>
    rintro a w' ⟨r, b8, f, Ds, hr3, rfl, hDl, h8, h8b, hch, hnd, hDs⟩
    have H8 := Lib.hid h8
    have c8 := h8.cell
    have HDs := Lib.hid hDs
    clear h8 hDs q8
    by_cases hr : r < 3
    · have hri : (r : Int) < 3 := by omega
      go_wp2_with fail
      have h9 := Boxed.new w' 3 (.int .i64 0)
      have hch6 : Chg (fun k => k = w2.heap.size + 2) W5 (w'.alloc (.cells #[.int .i64 0] 3)) := hch.alloc _
      have hs6 : w'.heap.size < (w'.alloc (.cells #[.int .i64 0] 3)).heap.size := by simp
      have h86 := H8.out.alloc (.cells #[.int .i64 0] 3)
      have hDs6 : ∀ D ∈ Ds, W5.heap.size ≤ D ∧ (w'.alloc (.cells #[.int .i64 0] 3)).heap[D]? = some (.deferred (some [])) := fun D hD => ⟨(HDs.out D hD).1, (Below.heap_alloc _ _ _ (Array.getElem?_eq_some_iff.1 (HDs.out D hD).2).1).trans (HDs.out D hD).2⟩
      have hs5' : W5.heap.size ≤ w'.heap.size := hch.size
      have hDlt : ∀ D ∈ Ds, D < w'.heap.size := fun D hD => (Array.getElem?_eq_some_iff.1 (HDs.out D hD).2).1
      generalize w'.alloc (.cells #[.int .i64 0] 3) = w6 at *
      have hb8lt : b8 < w'.heap.size := H8.out.lt
      have Hch := Lib.hid hch
      clear hch c8
      have HDs6 := Lib.hid hDs6
      have HDlt := Lib.hid hDlt
      clear hDs6 hDlt
      have k3 := boxed_chg Q3.out hch6 (fun h => by omega)
      have k6 := boxed_chg Q6.out hch6 (fun h => by omega)
      have kx := boxed_chg Qx.out hch6 (fun h => by omega)
      have krow := Hrow.out.chg hch6 (fun h => by omega)
      have Hkx := Lib.hid kx
      have Hkrow := Lib.hid krow
      clear kx krow
      refine (wpIn_wide (n := 9)).1 ?_
      refine range_out (gf := 16) (lb := #[.pointer (some ⟨w2.heap.size + 1, 0, none⟩)]) (fun k => k = w2.heap.size + 1 ∨ k = g) rfl (enters_of Try.func16 (by kernel_rfl) rfl)
        (fun o => paths_iter (some ⟨g, 0, none⟩) n cap (w2.heap.size + 1) T _ _ hw ((boxed_chg (boxed_chg Hkx.out ((Chg.refl NoB _).alloc _) (fun h => h)) ((Chg.refl NoB _).alloc _) (fun h => h)).cell) (treeAt_of_row ((Hkrow.out.alloc _).alloc _)) (.inl rfl)
          (fun b off e => by cases e; exact .inr rfl) (fun k hk => by simp; omega))
        (fun k hk => by omega) (fun _ => rfl)
        (fun pre Y W' => Boxed W' w'.heap.size 3 (.int .i64 pre.length) ∧ Chg (fun k => k = w'.heap.size) w6 W')
        (fun c pre Y W' => c = Code.exit 2 ∧ r = 1 ∧ (pre.length : Int) = most ∧ Boxed W' w'.heap.size 3 (.int .i64 pre.length) ∧ Chg (fun k => k = w'.heap.size) w6 W')
        ?hI ?hIx ?h0
        (fun pre x Y a' W' => a' = { tmps := #[.slice A n c, .int .i64 most, f 2, .pointer (some ⟨W.heap.size, 0, none⟩), .pointer (some ⟨W.heap.size + 1, 0, none⟩), .slice (some ⟨g, 0, none⟩) n cap, .pointer (some ⟨w2.heap.size, 0, none⟩), .func (.func 16) #[] #[.pointer (some ⟨w2.heap.size + 1, 0, none⟩)], .pointer (some ⟨b8, 0, none⟩), .pointer (some ⟨w'.heap.size, 0, none⟩), .slice (some ⟨x.2.1, 0, none⟩) (way T x.1).length x.2.2, f 11, f 12, f 13, f 14, f 15, f 16, f 17, f 18, .int .i64 r, .bool true, f 21, f 22, .func (.func 16) #[] #[.pointer (some ⟨w2.heap.size + 1, 0, none⟩)], .slice (some ⟨x.2.1, 0, none⟩) (way T x.1).length x.2.2, f 25, f 26, f 27, f 28, f 29, f 30, f 31, f 32, f 33, f 34, f 35, f 36, f 37, f 38, f 39, f 40, f 41, f 42, f 43, f 44, f 45, f 46, f 47, f 48, f 49, f 50, f 51, f 52, f 53, f 54, f 55, f 56, f 57, f 58, f 59, f 60, f 61, f 62, f 63], defers := [] } ∧ gvW T x W' ∧ Boxed W' w'.heap.size 3 (.int .i64 pre.length) ∧ Chg (fun k => k = w'.heap.size) w6 W')
        ?hAx ?assign ?body ?done ?stop
      case hI =>
        rintro pre Y A' C ⟨h1, h2⟩ hYA hc
        exact ⟨boxed_chg h1 hc (fun h => by omega), h2.trans hc (fun _ _ h => h) (fun i hi h => by omega)⟩
      case hIx =>
        rintro c' pre Y A' C ⟨h0, h3, h4, h1, h2⟩ hYA hc
        exact ⟨h0, h3, h4, boxed_chg h1 hc (fun h => by omega), h2.trans hc (fun _ _ h => h) (fun i hi h => by omega)⟩
      case h0 => exact ⟨h9, Chg.refl _ _⟩
      case hAx =>
        rintro pre x Y a' A' C l' hYA ⟨rec, hlr⟩ ⟨rfl, hgv, h1, h2⟩ hl hnl hc
        refine ⟨rfl, hgv.chg hc (fun h => ?_), boxed_chg h1 hc (fun h => by omega), h2.trans hc (fun _ _ h => h) (fun i hi h => by omega)⟩
        obtain ⟨_, cur, hg', _⟩ := hgv
        rw [h, hlr] at hg'
        cases hg'
      case assign =>
        rintro l' pre x Y W' K hi hgv _ _ _ hK
        unfold encW
        gi_wp2
        exact hK _ _ (Chg.refl _ _) ⟨rfl, hgv, hi⟩
      case body =>
        rintro l' pre x Y a' W' hl _ ⟨rest, hrest⟩ hszW hYk ⟨rfl, hgv, h1, h2⟩
        have hplen : (pl T n).length = pre.length + 1 + rest.length := by rw [hrest]; simp; omega
        have hnth : ((pl T n).map (way T))[pre.length]? = some (way T x.1) := by rw [hrest]; simp
        have m3 := (boxed_chg k3 h2 (fun h => by omega)).cell
        have m6 := (boxed_chg k6 h2 (fun h => by omega)).cell
        have m8 := (boxed_chg h86 h2 (fun h => by omega)).cell
        have m9 := h1.cell
        have f9 := h1.frozen
        have hcw2 : Chg NoB w2 W' := (Hc5.out.trans hch6 (U := NoB) (fun _ _ h => h) (fun i hi h => by omega)).trans h2 (fun _ _ h => h) (fun i hi h => by omega)
        have hls' := Hls.out.chg hcw2 (fun _ _ _ _ h => h)
        have hown' := owns_chg Hown.out hcw2 (fun _ _ h => h)
        obtain ⟨gw, cw, hvw, hbw, hroww⟩ := hls'.at_ hnth
        obtain ⟨gx, cp', hX, hgx, hgx2⟩ := hown'.form (by omega)
        cases hX
        have crow := (Row.of_owns hown').2.cell hvw
        have hi1 := intsAt_of_row hgv
        have hi2 := intsAt_of_row hroww
        have hwl : (way T x.1).length * 8 ≤ 140737488355328 := by
          have hok : okTree T n := by
            apply Classical.byContradiction
            intro h
            have : pl T n = [] := if_neg h
            rw [this] at hplen
            simp at hplen
            omega
          have hxn : x.1 < n := by
            have : x.1 ∈ pl T n := by rw [hrest]; simp
            rw [pl, if_pos hok] at this
            unfold leavesL at this
            simpa using (List.mem_filter.1 this).1
          have := dep_of T n hok _ hxn
          have := hok.2.1
          omega
        have hge : decide ((pl T n).length ≤ pre.length) = false := by simp; omega
        have hpi : (pre.length : Int) < ((pl T n).length : Int) := by omega
        have hpn : (pre.length : Int) ≤ 9223372036854775806 := by
          have h4 := (Row.of_owns hown').2.cap
          unfold maxLen at h4
          omega
        have Hh1 := Lib.hid h1
        have Hh2 := Lib.hid h2
        have Hgv := Lib.hid hgv
        clear hls' hown' hrest hnth hroww hvw h1 h2 hgv hplen
        obtain ⟨x1, x2, x3⟩ := x
        simp only at hi1 hi2 hwl crow Hgv ⊢
        generalize hL : (pl T n).length = L at *
        have HL := Lib.hid hL
        clear hL
        gi_wp2_with fail
        refine ⟨trivial, CallsIn.mono (CallsIn.inRound l' (callsIn_wide.2 (eqInts_yes _ _ _ _ _ _ _ hwl hi1 hi2))) ?_⟩
        rintro e w9 ⟨rfl, hc9⟩
        replace m3 := hc9.cell m3 (fun h => h)
        replace m6 := hc9.cell m6 (fun h => h)
        replace m8 := hc9.cell m8 (fun h => h)
        have b9 := boxed_chg Hh1.out hc9 (fun h => h)
        replace m9 := b9.cell
        replace f9 := b9.frozen
        have hlt9 := b9.lt
        have hn3 : ¬ (W.heap.size = w'.heap.size) := by omega
        have hn8 : ¬ (b8 = w'.heap.size) := by omega
        have hset := b9.set (.int .i64 ((pre.length : Int) + 1))
        have hchg : Chg (fun k => (k < w6.heap.size ∧ ¬ (k = w2.heap.size + 1 ∨ k = g)) ∨ Y k) W' (w9.setCell ⟨w'.heap.size, 0, none⟩ (.int .i64 ((pre.length : Int) + 1))) :=
          (hc9.mono (fun _ _ h => h.elim)).setCell (p := ⟨w'.heap.size, 0, none⟩) (fun _ => .inl ⟨hs6, by simp; omega⟩) _
        have hYs : ∀ k, Y k → (Y k ∨ W'.heap.size ≤ k) ∧ k < (w9.setCell ⟨w'.heap.size, 0, none⟩ (.int .i64 ((pre.length : Int) + 1))).heap.size := fun k hk => ⟨.inl hk, by have h1 := (hYk k hk).2; have h2 := hc9.size; simp [World.setCell]; omega⟩
        have hch9 : Chg (fun k => k = w'.heap.size) w6 (w9.setCell ⟨w'.heap.size, 0, none⟩ (.int .i64 ((pre.length : Int) + 1))) := (Hh2.out.trans hc9 (fun _ _ h => h) (fun _ _ h => h.elim)).setCell (p := ⟨w'.heap.size, 0, none⟩) (fun _ => rfl) _
        have hsn : Boxed (w9.setCell ⟨w'.heap.size, 0, none⟩ (.int .i64 ((pre.length : Int) + 1))) w'.heap.size 3 (.int .i64 ((pre ++ [(x1, x2, x3)]).length : Int)) := by
          rw [List.length_append]; exact hset
        have Hset := Lib.hid hsn
        have Hchg := Lib.hid hchg
        have HYs := Lib.hid hYs
        have Hch9 := Lib.hid hch9
        clear hset hchg hYs hch9 hsn b9 hc9
        by_cases hr1 : r = 1
        · rw [hr1] at m8
          have Hr1 := Lib.hid hr1
          clear hr1
          by_cases hm : (pre.length : Int) + 1 = most
          · have e2 : ((pre.length : Int) + 1 == most) = true := by simpa using hm
            have Hm := Lib.hid hm
            clear hm
            gi_wp2
            exact ⟨Hchg.out, Y, HYs.out, rfl, Hr1.out, by rw [List.length_append]; exact Hm.out, Hset.out, Hch9.out⟩
          · have e2 : ((pre.length : Int) + 1 == most) = false := by simpa using hm
            have Hm := Lib.hid hm
            clear hm
            gi_wp2
            exact ⟨Hchg.out, Y, HYs.out, Hset.out, Hch9.out⟩
        · have e1 : ((r : Int) == 1) = false := by rw [beq_eq_false_iff_ne]; omega
          have Hr1 := Lib.hid hr1
          clear hr1
          gi_wp2
          exact ⟨Hchg.out, Y, HYs.out, Hset.out, Hch9.out⟩
      case done =>
        rintro D xs Y W' hD hYD hYs hS ⟨h1, h2⟩ hK
        have hlen : xs.length = (pl T n).length := by rw [← hS, List.length_map]
        rw [hlen] at h1
        have m6 := (boxed_chg k6 h2 (fun h => by omega)).cell
        have b8' := boxed_chg h86 h2 (fun h => by omega)
        have m8 := b8'.cell
        have m9 := h1.cell
        have hs1 : w6.heap.size ≤ W'.heap.size := h2.size
        have hnew := Boxed.new W' 3 (.int .i64 ((r : Int) + 1))
        have hchN : Chg (fun k => k = w2.heap.size + 2) W5 (W'.alloc (.cells #[.int .i64 ((r : Int) + 1)] 3)) := (hch6.trans h2 (fun _ _ h => h) (fun i hi h => by omega)).alloc _
        have hDN : ∀ D' ∈ D :: Ds, W5.heap.size ≤ D' ∧ (W'.alloc (.cells #[.int .i64 ((r : Int) + 1)] 3)).heap[D']? = some (.deferred (some [])) := by
          intro D' hD'
          rcases List.mem_cons.1 hD' with rfl | hD'
          · exact ⟨by omega, (Below.heap_alloc _ _ _ (Array.getElem?_eq_some_iff.1 hK).1).trans hK⟩
          · have h7 := HDlt.out D' hD'
            have h8 := h2.heap (HDs6.out D' hD').2 (fun h => by omega)
            exact ⟨(HDs6.out D' hD').1, (Below.heap_alloc _ _ _ (Array.getElem?_eq_some_iff.1 h8).1).trans h8⟩
        have hndN : (D :: Ds).Nodup := List.nodup_cons.2 ⟨fun h => by have := HDlt.out D h; omega, hnd⟩
        have Hnew := Lib.hid hnew
        have HchN := Lib.hid hchN
        have HDN := Lib.hid hDN
        clear hnew hchN hDN hS hlen h1 b8' hK
        go_wp2
        refine ⟨⟨r + 1, W'.heap.size, fun i => #[undef, undef, f 2, undef, undef, undef, undef, undef, undef, .pointer (some ⟨w'.heap.size, 0, none⟩), f 10, f 11, f 12, f 13, f 14, f 15, f 16, f 17, f 18, .int .i64 r, .bool true, .int .i64 r, .int .i64 ((r : Int) + 1), .func (.func 16) #[] #[.pointer (some ⟨w2.heap.size + 1, 0, none⟩)], f 24, f 25, f 26, f 27, f 28, f 29, f 30, f 31, f 32, f 33, f 34, f 35, f 36, f 37, f 38, f 39, f 40, f 41, f 42, f 43, f 44, f 45, f 46, .int .i64 (pl T n).length, .slice X (pl T n).length cp, .int .i64 (pl T n).length, .bool false, .bool false, undef, undef, undef, undef, undef, undef, undef, .bool false, .int .i64 r, f 61, f 62, f 63].getD i undef,
          D :: Ds, by omega, ?_, by simp [hDl], Hnew.out, .inr (by omega), HchN.out, hndN, HDN.out⟩, by simp; omega⟩
        rfl
      case stop =>
        rintro D c' pre Y W' hD hYD hYs _ ⟨rfl, h3, h4, h1, h2⟩ hK
        subst h3
        refine wpIn_wide.2 ?_
        have m3 := (boxed_chg k3 h2 (fun h => by omega)).cell
        have m6 := (boxed_chg k6 h2 (fun h => by omega)).cell
        have b8' := boxed_chg h86 h2 (fun h => by omega)
        have m8 := b8'.cell
        have m9 := h1.cell
        have hs1 : w6.heap.size ≤ W'.heap.size := h2.size
        have hnew := Boxed.new W' 3 (.int .i64 2)
        have hchN : Chg (fun k => k = w2.heap.size + 2) W5 (W'.alloc (.cells #[.int .i64 2] 3)) := (hch6.trans h2 (fun _ _ h => h) (fun i hi h => by omega)).alloc _
        have hDN : ∀ D' ∈ D :: Ds, W5.heap.size ≤ D' ∧ (W'.alloc (.cells #[.int .i64 2] 3)).heap[D']? = some (.deferred (some [])) := by
          intro D' hD'
          rcases List.mem_cons.1 hD' with rfl | hD'
          · exact ⟨by omega, (Below.heap_alloc _ _ _ (Array.getElem?_eq_some_iff.1 hK).1).trans hK⟩
          · have h7 := HDlt.out D' hD'
            have h8 := h2.heap (HDs6.out D' hD').2 (fun h => by omega)
            exact ⟨(HDs6.out D' hD').1, (Below.heap_alloc _ _ _ (Array.getElem?_eq_some_iff.1 h8).1).trans h8⟩
        have hndN : (D :: Ds).Nodup := List.nodup_cons.2 ⟨fun h => by have := HDlt.out D h; omega, hnd⟩
        have Hnew := Lib.hid hnew
        have HchN := Lib.hid hchN
        have HDN := Lib.hid hDN
        clear hnew hchN hDN h1 b8' hK
        rw [← h4] at m3
        have H4 := Lib.hid h4
        clear h4
        by_cases hpl : (pre.length : Int) = ((pl T n).length : Int)
        · have e1 : ((pre.length : Int) == ((pl T n).length : Int)) = true := by simpa using hpl
          have Hpl := Lib.hid hpl
          clear hpl
          go_wp2
          refine ⟨⟨2, W'.heap.size, fun i => #[undef, undef, f 2, undef, undef, undef, undef, undef, undef, .pointer (some ⟨w'.heap.size, 0, none⟩), f 10, f 11, f 12, f 13, f 14, f 15, f 16, f 17, f 18, .int .i64 1, .bool true, .int .i64 1, .int .i64 2, .func (.func 16) #[] #[.pointer (some ⟨w2.heap.size + 1, 0, none⟩)], f 24, f 25, f 26, f 27, f 28, f 29, f 30, f 31, f 32, f 33, f 34, f 35, f 36, f 37, f 38, f 39, f 40, f 41, f 42, f 43, f 44, f 45, f 46, .int .i64 (pl T n).length, .slice X (pl T n).length cp, .int .i64 (pl T n).length, .bool false, .bool false, undef, undef, undef, undef, undef, undef, undef, .bool false, .int .i64 1, f 61, f 62, f 63].getD i undef,
            D :: Ds, by omega, ?_, by simp [hDl], Hnew.out, .inr (by omega), HchN.out, hndN, HDN.out⟩, by simp; omega⟩
          rfl
        · have e1 : ((pre.length : Int) == ((pl T n).length : Int)) = false := by simpa using hpl
          have Hpl := Lib.hid hpl
          clear hpl
          go_wp2
          refine ⟨⟨2, W'.heap.size, fun i => #[undef, undef, f 2, undef, undef, undef, undef, undef, undef, .pointer (some ⟨w'.heap.size, 0, none⟩), f 10, f 11, f 12, f 13, f 14, f 15, f 16, f 17, f 18, .int .i64 1, .bool true, .int .i64 1, .int .i64 2, .func (.func 16) #[] #[.pointer (some ⟨w2.heap.size + 1, 0, none⟩)], f 24, f 25, f 26, f 27, f 28, f 29, f 30, f 31, f 32, f 33, f 34, f 35, f 36, f 37, f 38, f 39, f 40, f 41, f 42, f 43, f 44, f 45, f 46, .int .i64 pre.length, .slice X (pl T n).length cp, .int .i64 (pl T n).length, .bool ((pre.length : Int) != ((pl T n).length : Int)), .bool ((pre.length : Int) != ((pl T n).length : Int)), .int .i64 1, .bool false, .bool false, .int .i64 pre.length, .int .i64 pre.length, .bool false, .bool false, .bool false, .int .i64 1, f 61, f 62, f 63].getD i undef,
            D :: Ds, by omega, ?_, by simp [hDl], Hnew.out, .inr (by omega), HchN.out, hndN, HDN.out⟩, by simp; omega⟩
          rfl
    · obtain rfl : r = 3 := by omega
      have HhDl := Lib.hid hDl
      clear hDl
      go_wp2_with fail
      refine (nodesStay_yes A g n c cap T _ hn ?_ ?_).mono ?_
      · exact HA.out _ (HcC.out.trans hch (fun _ _ h => h) (fun i hi h => by have := HcC.out.size; omega))
      · exact Hrow.out.chg hch (fun h => by omega)
      rintro e w9 ⟨rfl, hc9⟩
      have q4 := boxed_chg (boxed_chg Q4.out hch (fun h => by omega)) hc9 (fun h => h)
      have hhq := q4.cell
      have hfr := q4.frozen
      go_wp2_with fail
      have hs9 : w'.heap.size ≤ w9.heap.size := hc9.size
      have hchE : Chg (fun k => k = w2.heap.size + 2 ∨ k = W.heap.size + 1) W5 (w9.setCell ⟨W.heap.size + 1, 0, none⟩ (.bool true)) := ((hch.mono (fun _ _ h => .inl h)).trans hc9 (fun _ _ h => h) (fun _ _ h => h.elim)).setCell (p := ⟨W.heap.size + 1, 0, none⟩) (fun _ => .inr rfl) _
      have q4' := q4.set (.bool true)
      have hs5w : W5.heap.size ≤ w'.heap.size := hch.size
      refine leaves_marks (P := Try.prog) Ds _ hnd (fun D hD => ?_) (fun w'' hc => ?_)
      · have h := HDs.out D hD
        have h2 := hc9.heap h.2 (fun h => h)
        exact ((Chg.refl (fun k => k = W.heap.size + 1) w9).setCell (p := ⟨W.heap.size + 1, 0, none⟩) (fun _ => rfl) _).heap h2 (fun h3 => by omega)
      · have q5 := (boxed_chg q4' hc (fun h => by have := (HDs.out _ h).1; omega)).cell
        refine ⟨.bool true, by simp [results, Try.results3, go_sem, q5], rfl, ?_⟩
        exact (HcC.out.trans hchE (U := NoB) (fun _ _ h => h) (fun i hi h => by have := HcC.out.size; omega)).trans hc (fun _ _ h => h) (fun i hi h => by have := (HDs.out _ h).1; have := HcC.out.size; omega)
end Go.Proofs.Ytokphbpgblhakaa
