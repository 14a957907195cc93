/- The iterator that Paths gives back, round by round (functions 7, 16, 18). -/
import Derived.Test.YtokphbpgblhakaaTe
import Derived.Test.YtokphbpgblhakaaTc
namespace Go.Proofs.Ytokphbpgblhakaa
open Go.RowKit

attribute [local go_sem] Oper.semAt_some

theorem leaves_call (A : Option Addr) (n c : Nat) (w : World) :
    Calls Try.prog 18 #[.slice A n c] w fun e w' => e = .returned (.func (.func 22) #[] #[.pointer (some ⟨w.heap.size, 0, none⟩)]) ∧ w' = w.alloc (.cells #[.slice A n c] 22) := by
  go_enter Try.func18, Try.ntmps18
  go_wp2
  go_ret
  exact ⟨rfl, rfl⟩

theorem paths_call (A : Option Addr) (n c : Nat) (w : World) :
    Calls Try.prog 7 #[.slice A n c] w fun e w' => e = .returned (.func (.func 16) #[] #[.pointer (some ⟨w.heap.size, 0, none⟩)]) ∧ w' = w.alloc (.cells #[.slice A n c] 22) := by
  go_enter Try.func7, Try.ntmps7
  go_wp2
  go_ret
  exact ⟨rfl, rfl⟩

theorem fill_step (T : Nat → Nd) (n : Nat) (hok : okTree T n) {a : Nat} (ha : a < n) {rest : List Nat} {cs : List Value} (hcs : cs = List.replicate (way T a).length (Value.int .i64 0) ++ wayVals rest) :
    cs.set (T a).dep.toNat (.int .i64 (a : Int)) = List.replicate ((way T a).length - 1) (Value.int .i64 0) ++ wayVals (a :: rest) := by
  obtain ⟨h1, h2, h3⟩ := dep_of T n hok a ha
  obtain ⟨d, hd⟩ : ∃ d : Nat, (T a).dep = d := ⟨(T a).dep.toNat, by omega⟩
  have hl : (way T a).length = d + 1 := by omega
  rw [hcs, hl, hd, Int.toNat_natCast, Nat.add_sub_cancel, List.replicate_succ', List.append_assoc, List.set_append_right _ _ (by simp)]
  simp [wayVals]

/-- where the filling stands: the front is still to be filled, the rest is there -/
def Filling (T : Nat → Nd) (i : Nat) (z : Int) (cs : List Value) : Prop :=
  ∃ front rest : List Nat, way T i = front ++ rest ∧ cs = List.replicate front.length (Value.int .i64 0) ++ wayVals rest ∧ ((front = [] ∧ z = -1) ∨ ∃ a : Nat, front = way T a ∧ z = (a : Int) ∧ a ≤ i)
theorem Filling.start (T : Nat → Nd) (i : Nat) : Filling T i i (List.replicate (way T i).length (Value.int .i64 0)) := ⟨way T i, [], by simp, by simp [wayVals], .inr ⟨i, rfl, rfl, Nat.le_refl _⟩⟩
theorem Filling.fin {T : Nat → Nd} {i : Nat} {cs : List Value} (h : Filling T i (-1) cs) : cs = wayVals (way T i) := by
  obtain ⟨front, rest, h1, h2, ⟨rfl, _⟩ | ⟨a, _, h3, _⟩⟩ := h
  · rw [h1, h2]; simp
  · omega
theorem Filling.next {T : Nat → Nd} {n i : Nat} (hok : okTree T n) {a : Nat} (ha : a < n) {cs : List Value} (h : Filling T i a cs) : Filling T i (T a).par (cs.set (T a).dep.toNat (.int .i64 (a : Int))) := by
  obtain ⟨front, rest, h1, h2, ⟨_, h3⟩ | ⟨b, rfl, h3, h4⟩⟩ := h
  · omega
  · obtain rfl : a = b := by omega
    rw [fill_step T n hok ha h2]
    rcases Nat.eq_zero_or_pos a with rfl | hp
    · rw [way_zero] at h1 ⊢
      exact ⟨[], 0 :: rest, by simpa using h1, by simp, .inl ⟨rfl, hok.2.2.1⟩⟩
    · obtain ⟨e1, e2, e3⟩ := dep_par T n hok hp ha
      have hw := way_succ T hp e3
      refine ⟨way T (T a).par.toNat, a :: rest, by rw [h1, hw]; simp, by rw [hw]; simp, .inr ⟨_, rfl, by omega, by omega⟩⟩

open Classical in
/-- the leaves that Paths goes through: none, if it is no tree -/
noncomputable def pl (T : Nat → Nd) (n : Nat) : List Nat := if okTree T n then leavesL T n else []

/-- a way as it is handed over: the leaf, the row's block, its room -/
def encW (T : Nat → Nd) (x : Nat × Nat × Nat) : Array Value := #[.slice (some ⟨x.2.1, 0, none⟩) (way T x.1).length x.2.2]
def gvW (T : Nat → Nd) (x : Nat × Nat × Nat) (w : World) : Prop := Row w x.2.1 3 1 (way T x.1).length x.2.2 (wayVals (way T x.1))

set_option maxRecDepth 100000 in
set_option maxHeartbeats 4000000 in
theorem paths_iter (A : Option Addr) (n c Bx : Nat) (T : Nat → Nd) (R : Nat → Prop) (W : World) (hw : NdWf T n) (hbx : W.cell? ⟨Bx, 0, none⟩ = some (.slice A n c)) (hA : TreeAt W A n T)
    (hR1 : R Bx) (hR2 : ∀ b off, A = some ⟨b, off, none⟩ → R b) (hR3 : ∀ k, R k → k < W.heap.size) :
    Iter Try.prog 16 #[.pointer (some ⟨Bx, 0, none⟩)] (encW T) (gvW T) R (fun xs => xs.map (·.1) = pl T n) (fun _ => True) (fun pre x => ∃ rest, pl T n = pre.map (·.1) ++ x.1 :: rest) W := by
  intro m l J Jx hJ hJx hY h0
  have HJ := Lib.hid hJ
  have HJx := Lib.hid hJx
  have HY := Lib.hid hY
  clear hJ hJx hY
  have hBl : Bx < W.heap.size := blk_lt hbx
  have hA1 : ∀ w', Chg NoB W w' → TreeAt w' A n T := fun w' hc => hA.chg hc (fun _ _ _ h => h)
  have HA := Lib.hid hA1
  have Hbx := Lib.hid hbx
  clear hA1 hA
  by_cases hok : okTree T n
  · have hk : chk T n = 0 := if_pos hok
    have hpl : pl T n = leavesL T n := if_pos hok
    rw [hpl] at HY ⊢
    have Hk := Lib.hid hk
    clear hk hpl
    refine callsIn_of_wp_marks Try.func16 rfl trivial (wpIn_wide.2 ?_) rfl
    simp only [Try.ntmps16, List.size_toArray, List.length_cons, List.length_nil, Nat.reduceAdd, Nat.reduceSub, Array.replicate_succ, Array.replicate_zero, List.push_toArray, List.append_toArray, List.nil_append, List.cons_append]
    go_wp2_with fail
    refine (tCheck_any A n c T _ (HA.out _ ((Chg.refl _ _).alloc _)) hw).mono ?_
    rintro e w1 ⟨rfl, hc1⟩
    rw [Hk.out]
    have hcA : Chg NoB W w1 := ((Chg.refl NoB W).alloc _).step hc1
    have hbx1 := hcA.cell Hbx.out (fun h => h)
    go_wp2_with (go_at_call 18; refine (leaves_call A n c w1).mono ?_; rintro e w2 ⟨rfl, rfl⟩)
    have hsz1 : W.heap.size + 1 ≤ w1.heap.size := by have := hc1.size; simpa using this
    have hb2 : w1.cell? ⟨W.heap.size, 0, none⟩ = some (.func (.yield l) #[] #[]) := hc1.cell (World.cell?_alloc_new _ _ _ _) (fun h => h)
    have hb2' : (w1.alloc (.cells #[.slice A n c] 22)).cell? ⟨W.heap.size, 0, none⟩ = some (.func (.yield l) #[] #[]) := by rw [World.cell?_alloc_lt _ _ _ (by simp; omega)]; exact hb2
    have hb3 : (w1.alloc (.cells #[.slice A n c] 22)).cell? ⟨w1.heap.size, 0, none⟩ = some (.slice A n c) := World.cell?_alloc_new _ _ _ _
    have hsz2 : w1.heap.size < (w1.alloc (.cells #[.slice A n c] 22)).heap.size := by simp
    have hc2 : Chg NoB W (w1.alloc (.cells #[.slice A n c] 22)) := hcA.alloc _
    have hlw : w1.heap.size ≤ (w1.alloc (.cells #[.slice A n c] 22)).heap.size := by omega
    generalize w1.alloc (.cells #[.slice A n c] 22) = W2 at *
    generalize w1.heap.size = b3 at *
    clear hb2 hbx1 hcA hc1
    refine (wpIn_wide (n := m)).1 ?_
    refine range_out (gf := 22) (lb := #[.pointer (some ⟨b3, 0, none⟩)]) NoB rfl (enters_of Try.func22 (by kernel_rfl) rfl)
      (fun o => leaves_iter A n c b3 T NoB _ hok (by rw [World.cell?_alloc_lt _ _ _ (by simp; omega), World.cell?_alloc_lt _ _ _ (by simp; omega)]; exact hb3) (HA.out _ ((hc2.alloc _).alloc _)))
      (fun _ h => h.elim) (fun _ => rfl)
      (fun pre Y W' => ∃ xs : List (Nat × Nat × Nat), xs.map (·.1) = pre ∧ J xs Y W' ∧ W.heap.size ≤ W'.heap.size ∧ (∀ k, R k → W'.heap[k]? = W.heap[k]?) ∧ W'.cell? ⟨W.heap.size, 0, none⟩ = some (.func (.yield l) #[] #[]) ∧ (∀ k, Y k → W2.heap.size ≤ k ∧ k < W'.heap.size))
      (fun c pre Y W' => c = Code.ret ∧ ∃ xs : List (Nat × Nat × Nat), Jx xs Y W' ∧ W.heap.size ≤ W'.heap.size ∧ (∀ k, Y k → W2.heap.size ≤ k ∧ k < W'.heap.size))
      ?hI ?hIx ?h0
      (fun pre x Y a' W' => a' = { tmps := #[.func (.yield l) #[] #[], .pointer (some ⟨Bx, 0, none⟩), .pointer (some ⟨W.heap.size, 0, none⟩), .int .i64 x, undef, undef, .slice A n c, .int .i64 0, .bool false, .slice A n c, .func (.func 22) #[] #[.pointer (some ⟨b3, 0, none⟩)], .int .i64 x,
          undef, undef, undef, undef, undef, undef, undef, undef, undef, undef, undef, undef, undef, undef, undef, undef, undef, undef, undef, undef, undef, undef, undef, undef, undef, undef, undef], defers := [] } ∧
        ∃ xs : List (Nat × Nat × Nat), xs.map (·.1) = pre ∧ J xs Y W' ∧ W.heap.size ≤ W'.heap.size ∧ (∀ k, R k → W'.heap[k]? = W.heap[k]?) ∧ W'.cell? ⟨W.heap.size, 0, none⟩ = some (.func (.yield l) #[] #[]) ∧ (∀ k, Y k → W2.heap.size ≤ k ∧ k < W'.heap.size))
      ?hAx ?assign ?body ?done ?stop
    case hI =>
      rintro pre Y A' C ⟨xs, h1, h2, h3, h4, h5, h6⟩ hYA hc
      exact ⟨xs, h1, HJ.out _ _ _ _ h2 hYA (hc.mono fun i _ h => ⟨by omega, h.2⟩), Nat.le_trans h3 hc.size, fun k hk => (hc.block k (by have := hR3 k hk; omega) (fun h => by have := hR3 k hk; omega)).trans (h4 k hk),
        hc.cell h5 (fun h => by have := h.1; simp at this; omega), fun k hk => ⟨(h6 k hk).1, by have := (h6 k hk).2; have := hc.size; omega⟩⟩
    case hIx =>
      rintro c' pre Y A' C ⟨hcr, xs, h2, h3, h6⟩ hYA hc
      exact ⟨hcr, xs, HJx.out _ _ _ _ h2 hYA (hc.mono fun i _ h => ⟨by omega, h.2⟩), Nat.le_trans h3 hc.size, fun k hk => ⟨(h6 k hk).1, by have := (h6 k hk).2; have := hc.size; omega⟩⟩
    case h0 =>
      exact ⟨[], rfl, HJ.out _ _ _ _ h0 (fun _ h => h.elim) (hc2.mono fun _ _ h => h.elim), hc2.size, fun k hk => hc2.block k (hR3 k hk) (fun h => h), hb2', fun _ h => h.elim⟩
    case hAx =>
      rintro pre x Y a' A' C l' hYA _ ⟨rfl, xs, h1, h2, h3, h4, h5, h6⟩ hl hnl hc
      refine ⟨rfl, xs, h1, HJ.out _ _ _ _ h2 hYA (hc.mono fun i _ h => ⟨by omega, by rw [h]; exact hnl⟩), Nat.le_trans h3 hc.size, fun k hk => (hc.block k (by have := hR3 k hk; omega) (fun h => by have := hR3 k hk; omega)).trans (h4 k hk),
        hc.cell h5 (fun h => by simp at h; omega), fun k hk => ⟨(h6 k hk).1, by have := (h6 k hk).2; have := hc.size; omega⟩⟩
    case assign =>
      rintro l' pre x Y W' K hi _ _ _ _ hK
      gi_wp2
      exact hK _ _ (Chg.refl _ _) ⟨rfl, hi⟩
    case body =>
      rintro l' pre x Y a' W' hl ⟨r, hr⟩ ⟨rest, hrest⟩ hszW hYk ⟨rfl, xs, h1, h2, h3, h4, h5, h6⟩
      have hxn : x < n := by
        have : x ∈ leavesL T n := by rw [hrest]; simp
        unfold leavesL at this
        simpa using (List.mem_filter.1 this).1
      have hA' : TreeAt W' A n T := fun hn => by
        obtain ⟨b, off, rfl, hh⟩ := (HA.out W (Chg.refl _ _)) hn
        have e := h4 b (hR2 b off rfl)
        exact ⟨b, off, rfl, fun i hi => ⟨(World.cell?_of_block (w := W) (a := ⟨b, _, none⟩) e).trans (hh i hi).1, (World.cell?_of_block (w := W) (a := ⟨b, _, none⟩) e).trans (hh i hi).2.1, (World.cell?_of_block (w := W) (a := ⟨b, _, none⟩) e).trans (hh i hi).2.2⟩⟩
      have hbx' : W'.cell? ⟨Bx, 0, none⟩ = some (.slice A n c) := (World.cell?_of_block (w := W) (a := ⟨Bx, 0, none⟩) (h4 Bx hR1)).trans Hbx.out
      obtain ⟨b, off, rfl, hc⟩ := hA' (by omega)
      obtain ⟨g1, g2, g3⟩ := dep_of T n hok x hxn
      obtain ⟨d, hd⟩ : ∃ d : Nat, (T x).dep = d := ⟨(T x).dep.toNat, by omega⟩
      have hL : (way T x).length = d + 1 := by omega
      have hb32 := hok.2.1
      have cx := (hc x hxn).2.2
      rw [hd] at cx g1 g2
      have hd31 : d ≤ 31 := by omega
      obtain ⟨i0, hi, hz0, hz1, hz2⟩ := info_parts info3
      have hmk : ∀ w : World, (Instr.makeSlice 29 (.int .i64 ((d : Int) + 1)) (.int .i64 ((d : Int) + 1))).run Try.prog w = .ok (.slice (some ⟨w.heap.size, 0, none⟩) (d + 1) (d + 1)) (w.alloc (.cells (madeCells (Value.int .i64 0).cells ((d + 1) * 1)) 3)) := fun w => by
        have := run_make (P := Try.prog) w 29 3 i0 _ Try.underlying29 hi hz0 .i64 .i64 ((d : Int) + 1) ((d : Int) + 1) (by omega) (by omega) (by rw [hz2]; omega) (by omega)
        rw [hz1] at this
        rw [this, show ((d : Int) + 1).toNat = d + 1 from by omega]
      have hxi : (x : Int) < (n : Int) := by omega
      have hbl : b < W'.heap.size := blk_lt cx
      have hBl' : Bx < W'.heap.size := blk_lt hbx'
      have Hc := Lib.hid hc
      have Hd := Lib.hid hd
      have HL := Lib.hid hL
      have H2 := Lib.hid h2
      have H4 := Lib.hid h4
      have H6 := Lib.hid h6
      have Hrest := Lib.hid hrest
      have H1 := Lib.hid h1
      clear hc hd hL h2 h4 h6 hrest h1 hA' g1 g2 g3 hi hz0 hz1 hz2 hr
      gi_wp2
      have hrow0 : Row (W'.alloc (.cells (madeCells (Value.int .i64 0).cells ((d + 1) * 1)) 3)) W'.heap.size 3 1 (d + 1) (d + 1) (List.replicate (d + 1) (Value.int .i64 0)) := Row.made rfl (by unfold maxLen; omega)
      have hfill0 : Filling T x x (List.replicate (d + 1) (Value.int .i64 0)) := by rw [← HL.out]; exact Filling.start T x
      have hchG : Chg NoB W' (W'.alloc (.cells (madeCells (Value.int .i64 0).cells ((d + 1) * 1)) 3)) := (Chg.refl _ _).alloc _
      have hgs : W'.heap.size < (W'.alloc (.cells (madeCells (Value.int .i64 0).cells ((d + 1) * 1)) 3)).heap.size := by simp
      simp only [Value.cells, Nat.mul_one] at hrow0 hchG hgs
      have Hrow0 := Lib.hid hrow0
      have Hfill0 := Lib.hid hfill0
      have HchG := Lib.hid hchG
      clear hrow0 hfill0 hchG hmk
      gi_loopw [5] (fun s5 wx => ∃ (z : Int) (cs : List Value), s5 = .int .i64 z ∧ Filling T x z cs ∧ Row wx W'.heap.size 3 1 (d + 1) (d + 1) cs ∧ Chg (fun k => k = W'.heap.size) W' wx) (fun s5 _ => (intOf s5 + 1).toNat)
      case atStart => exact ⟨x, _, rfl, Hfill0.out, Hrow0.out, HchG.out.mono (fun _ _ h => h.elim)⟩
      case round =>
        obtain ⟨z, cs, rfl, hfl, hrow, hcg⟩ := hrel
        have hbx3 := hcg.cell hbx' (fun h => by simp at h; omega)
        have hGlt : W'.heap.size < wr.heap.size := hrow.lt
        by_cases hz : z = -1
        · subst hz
          have hcs := hfl.fin
          subst hcs
          have hgW : W.heap.size ≤ W'.heap.size := h3
          have hnY : ¬ Y W'.heap.size := fun h => by have := (H6.out _ h).2; omega
          have hYlt : ∀ k, Y k → k < W'.heap.size := fun k hk => (H6.out k hk).2
          have hjr := HJ.out _ _ _ _ H2.out hYlt (hcg.mono (fun i hi h => by omega))
          have hgv : gvW T (x, W'.heap.size, d + 1) wr := by
            show Row wr W'.heap.size 3 1 (way T x).length (d + 1) (wayVals (way T x))
            rw [HL.out]; exact hrow
          have hRr : ∀ k, R k → wr.heap[k]? = W.heap[k]? := fun k hk => (hcg.block k (by have := hR3 k hk; omega) (fun h => by have := hR3 k hk; omega)).trans (H4.out k hk)
          have h5r := hcg.cell h5 (fun h => by simp at h; omega)
          obtain ⟨fn, tmps, assign, body, hy, hR⟩ := HY.out xs (x, W'.heap.size, d + 1) Y wr hjr ⟨rest, by rw [H1.out]; exact Hrest.out⟩ hgv (by omega) (fun k hk => ⟨by have := (H6.out k hk).1; have := hc2.size; omega, by have := (H6.out k hk).2; omega⟩)
          unfold encW at hy
          dsimp only at hy
          rw [HL.out] at hy
          have HR := Lib.hid hR
          have HRr := Lib.hid hRr
          have Hcg := Lib.hid hcg
          have H5r := Lib.hid h5r
          clear hR hRr hcg hrow hfl hjr hgv
          gi_wp2
          refine ⟨fun h => absurd h (by simp [Fence.wide]), RoundIn.mono (roundIn_wide HR.out) ?_⟩
          rintro e W3 ⟨hc3, Y', hY', h7⟩
          have hs3 : W'.heap.size ≤ W3.heap.size := by have := hc3.size; omega
          have hR4 : ∀ k, R k → W3.heap[k]? = W.heap[k]? := fun k hk => (hc3.block k (by have := hR3 k hk; omega) (fun h => h.elim (fun h => h.2 hk) (fun h => by have := hR3 k hk; have := (H6.out k h).1; have := hc2.size; omega))).trans (HRr.out k hk)
          have h5' := hc3.cell H5r.out (fun h => h.elim (fun h => by simp at h) (fun h => by have h9 : W2.heap.size ≤ W.heap.size := (H6.out _ h).1; omega))
          have hYn : ∀ k, Y' k → W2.heap.size ≤ k ∧ k < W3.heap.size := fun k hk => ⟨by
            rcases (hY' k hk).1 with h | h
            · exact (H6.out k h).1
            · have := hszW; omega, (hY' k hk).2⟩
          have hchR : Chg (fun k => (k < W2.heap.size ∧ ¬ NoB k) ∨ Y k) W' W3 := Hcg.out.trans hc3 (fun i hi h => by omega) (fun i hi h => h.elim (fun h => .inl ⟨by have := hc2.size; omega, fun h => h⟩) .inr)
          have hYr : ∀ k, Y' k → (Y k ∨ W'.heap.size ≤ k) ∧ k < W3.heap.size := fun k hk => ⟨(hY' k hk).1.imp id (fun h => by omega), (hY' k hk).2⟩
          have HchR := Lib.hid hchR
          have HYr := Lib.hid hYr
          have HYn := Lib.hid hYn
          have HR4 := Lib.hid hR4
          have H5' := Lib.hid h5'
          clear hchR hYr hYn hR4 h5' hc3 hY' hy
          rcases h7 with ⟨rfl, hj3⟩ | ⟨rfl, hj3⟩
          · have Hj3 := Lib.hid hj3
            clear hj3
            gi_wp2
            exact ⟨HchR.out, Y', HYr.out, xs ++ [(x, W'.heap.size, d + 1)], by rw [List.map_append, H1.out]; rfl, Hj3.out, by omega, HR4.out, H5'.out, HYn.out⟩
          · have Hj3 := Lib.hid hj3
            clear hj3
            gi_wp2
            exact ⟨HchR.out, Y', HYr.out, rfl, _, Hj3.out, by omega, HYn.out⟩
        · obtain ⟨a, rfl, hax⟩ : ∃ a : Nat, z = (a : Int) ∧ a ≤ x := by
            obtain ⟨_, _, _, _, ⟨_, h⟩ | ⟨a, _, h, h'⟩⟩ := hfl
            · exact absurd h hz
            · exact ⟨a, h, h'⟩
          have han : a < n := by omega
          obtain ⟨g1, g2, g3⟩ := dep_of T n hok a han
          obtain ⟨da, hda⟩ : ∃ da : Nat, (T a).dep = da := ⟨(T a).dep.toNat, by omega⟩
          have hnext := hfl.next hok han
          have hdl : da < d + 1 := by
            obtain ⟨front, rest', e1, _, ⟨_, h⟩ | ⟨a', rfl, h, h'⟩⟩ := hfl
            · omega
            · obtain rfl : a = a' := by omega
              have hlen := congrArg List.length e1
              rw [HL.out, List.length_append] at hlen
              omega
          have ca0 := hcg.cell (Hc.out a han).1 (fun h => by simp at h; omega)
          have ca2 := hcg.cell (Hc.out a han).2.2 (fun h => by simp at h; omega)
          rw [hda] at ca2 hnext
          rw [Int.toNat_natCast] at hnext
          obtain ⟨old, hold⟩ : ∃ v, cs[da]? = some v := ⟨cs[da]'(by have := hrow.1; omega), List.getElem?_eq_getElem _⟩
          have cold := hrow.cell hold
          have cfree := hrow.free da
          have hrow2 := hrow.set_ da (.int .i64 (a : Int))
          have hcg2 := hcg.setCell (p := ⟨W'.heap.size, da, none⟩) (fun h => absurd h (by simp)) (.int .i64 (a : Int))
          have hai : (a : Int) < (n : Int) := by omega
          have hdi : (da : Int) < (d : Int) + 1 := by omega
          have hblr : b < wr.heap.size := blk_lt ca0
          have hBlr : Bx < wr.heap.size := blk_lt hbx3
          have hpar : -1 ≤ (T a).par ∧ (T a).par < a := by
            rcases Nat.eq_zero_or_pos a with rfl | hp
            · rw [hok.2.2.1]; omega
            · have := hok.2.2.2.2 a hp han
              exact ⟨by have := this.1; omega, this.2.1⟩
          generalize (T a).par = pa at *
          have Hnext := Lib.hid hnext
          have Hrow2 := Lib.hid hrow2
          have Hcg2 := Lib.hid hcg2
          clear hnext hrow2 hcg2 hrow hcg hfl hold g1 g2 g3 hda
          obtain ⟨hp1, hp2⟩ := hpar
          gi_wp2
          go_roundw
          case rel => exact ⟨pa, _, rfl, Hnext.out, Hrow2.out, Hcg2.out⟩
          case measure => simp [intOf]; omega
    case done =>
      rintro D ys Y W' hD hYD hYs rfl ⟨xs, h1, h2, h3, h4, h5, h6⟩ hK
      have hcs := hc2.size
      refine leaves_marks (P := Try.prog) [D] W' (by simp) (by simpa using hK) (fun w' hc => ⟨_, results_none rfl _ _ _, ⟨_, rfl⟩, Y, Nat.le_trans h3 hc.size, fun k hk => ⟨by have := (h6 k hk).1; omega, by have := (h6 k hk).2; have := hc.size; omega⟩, .inl ⟨xs, h1, ?_⟩⟩)
      exact HJ.out _ _ _ _ h2 hYs (hc.mono fun i _ h => by simp at h; subst h; exact ⟨by omega, hYD⟩)
    case stop =>
      rintro D c' pre Y W' hD hYD hYs _ ⟨rfl, xs, h2, h3, h6⟩ hK
      have hcs := hc2.size
      refine wpIn_ret ?_
      refine leaves_marks (P := Try.prog) [D] W' (by simp) (by simpa using hK) (fun w' hc => ⟨_, results_none rfl _ _ _, ⟨_, rfl⟩, Y, Nat.le_trans h3 hc.size, fun k hk => ⟨by have := (h6 k hk).1; omega, by have := (h6 k hk).2; have := hc.size; omega⟩, .inr ⟨xs, trivial, ?_⟩⟩)
      exact HJx.out _ _ _ _ h2 hYs (hc.mono fun i _ h => by simp at h; subst h; exact ⟨by omega, hYD⟩)
  · have hk : chk T n = 140 := if_neg hok
    have hpl : pl T n = [] := if_neg hok
    have Hk := Lib.hid hk
    have Hpl := Lib.hid hpl
    clear hk hpl
    refine callsIn_wide.2 ?_
    go_enter Try.func16, Try.ntmps16
    go_wp2_with fail
    refine (tCheck_any A n c T _ (HA.out _ ((Chg.refl _ _).alloc _)) hw).mono ?_
    rintro e w1 ⟨rfl, hc1⟩
    rw [Hk.out]
    have hcA : Chg NoB W w1 := ((Chg.refl NoB W).alloc _).step hc1
    go_wp2
    refine bodyPost_ret (results_none rfl _ _ _) rfl ?_
    exact ⟨⟨_, rfl⟩, NoB, hcA.size, fun _ h => h.elim, .inl ⟨[], by rw [Hpl.out]; rfl, HJ.out _ _ _ _ h0 (fun _ h => h.elim) (hcA.mono fun _ _ h => h.elim)⟩⟩
end Go.Proofs.Ytokphbpgblhakaa
