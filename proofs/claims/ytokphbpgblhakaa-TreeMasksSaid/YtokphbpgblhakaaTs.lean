/- TreeMasks as a function: it returns true and turns no block that lay (function 4). -/
import Derived.Test.YtokphbpgblhakaaTr
import Derived.Test.YtokphbpgblhakaaTg
import Derived.Test.YtokphbpgblhakaaKr
namespace Go.Proofs.Ytokphbpgblhakaa
open Go.RowKit
theorem treeAt_of_owns {w : World} {base : Nat} {X : Option Addr} {n cp : Nat} {T : Nat → Nd} (h : w.ownsRow base 43 3 (.slice X n cp) n (cellsOfT T n)) : TreeAt w X n T := fun hn => by
  obtain ⟨k, rfl⟩ : ∃ k, n = k + 1 := ⟨n - 1, by omega⟩
  obtain ⟨g, cap, hv⟩ := ownsRow_succ h
  cases hv
  exact treeAt_of_row (xs := []) (by rw [List.append_nil]; exact (Row.of_owns h).2) hn
attribute [local go_sem] Oper.semAt_some

set_option maxRecDepth 100000 in
set_option maxHeartbeats 4000000 in
theorem treeMasks_no (A : Option Addr) (n c : Nat) (T : Nat → Nd) (W : World) (hn : n * 24 ≤ 140737488351232) (hw : NdWf T n) (hA : TreeAt W A n T) (hok : ¬ okTree T n) :
    Calls Try.prog 4 #[.slice A n c] W fun e w' => e = .returned (.bool true) ∧ Chg NoB W w' := by
  have hA1 : ∀ w', Chg NoB W w' → TreeAt w' A n T := fun w' hc => hA.chg hc (fun _ _ _ h => h)
  have HA := Lib.hid hA1
  clear hA1 hA
  have hk : chk T n = 140 := if_neg hok
  have Hk := Lib.hid hk
  have Hok := Lib.hid hok
  clear hk hok
  refine (callsIn_wide (n := 9)).1 (callsIn_of_wp_marks Try.func4 rfl trivial (wpIn_wide.2 ?_) rfl)
  simp only [Try.ntmps4, List.size_toArray, List.length_cons, List.length_nil, Nat.reduceAdd, Nat.reduceSub, Array.replicate_succ, Array.replicate_zero, List.push_toArray, List.append_toArray, List.nil_append, List.cons_append]
  go_wp2_with fail
  have hch0 : Chg NoB W ((W.alloc (.cells #[.slice A n c] 22)).alloc (.cells #[.bool false] 4)) := ((Chg.refl _ _).alloc _).alloc _
  have q1 : Boxed ((W.alloc (.cells #[.slice A n c] 22)).alloc (.cells #[.bool false] 4)) W.heap.size 22 (.slice A n c) := (Boxed.new W 22 _).alloc _
  have q2 : Boxed ((W.alloc (.cells #[.slice A n c] 22)).alloc (.cells #[.bool false] 4)) (W.heap.size + 1) 4 (.bool false) := by
    have := Boxed.new (W.alloc (.cells #[.slice A n c] 22)) 4 (.bool false)
    rw [World.size_alloc] at this
    exact this
  refine (lives_yes _).mono ?_
  rintro e w1 ⟨rfl, hc1⟩
  have q1 := boxed_chg q1 hc1 (fun h => h)
  have q2 := boxed_chg q2 hc1 (fun h => h)
  have hcA := hch0.step hc1
  have m1 := q1.cell
  go_wp2_with fail
  refine (copyNodes_any A n c T _ hn (HA.out _ hcA)).mono ?_
  rintro e w2 ⟨v, rfl, hown, hc2⟩
  have q1 := boxed_chg q1 hc2 (fun h => h)
  have q2 := boxed_chg q2 hc2 (fun h => h)
  have hcB := hcA.step hc2
  obtain ⟨X, cp, rfl⟩ := owns_shape hown
  have hX : TreeAt w2 X n T := treeAt_of_owns hown
  go_wp2_with fail
  refine (above_no X n cp T _ hX hw Hok.out).mono ?_
  rintro e w3 ⟨rfl, hc3⟩
  have q1 := boxed_chg q1 hc3 (fun h => h)
  have q2 := boxed_chg q2 hc3 (fun h => h)
  have hcC := hcB.step hc3
  have m1 := q1.cell
  have Q1 := Lib.hid q1
  have Q2 := Lib.hid q2
  have hlt3 := q1.lt
  go_wp2_with fail
  have hcD : Chg NoB W (w3.alloc (.cells #[.slice none 0 0] 34)) := hcC.alloc _
  refine (refCheck_any A n c T _ (HA.out _ hcD)).mono ?_
  rintro e w4 ⟨rfl, hc4⟩
  have q1 := boxed_chg ((Q1.out).alloc (.cells #[.slice none 0 0] 34)) hc4 (fun h => h)
  have q2 := boxed_chg ((Q2.out).alloc (.cells #[.slice none 0 0] 34)) hc4 (fun h => h)
  have hcE := hcD.step hc4
  have m1 := q1.cell
  rw [Hk.out]
  go_wp2_with fail
  refine (refCheck_any A n c T _ (HA.out _ hcE)).mono ?_
  rintro e w5 ⟨rfl, hc5⟩
  have q2 := boxed_chg q2 hc5 (fun h => h)
  have hcF := hcE.step hc5
  have m2 := q2.cell
  have f2 := q2.frozen
  rw [Hk.out]
  go_wp2_with fail
  have q3 := q2.set (.bool true)
  have hcG : Chg NoB W (w5.setCell ⟨W.heap.size + 1, 0, none⟩ (.bool true)) := hcF.setCell (p := ⟨W.heap.size + 1, 0, none⟩) (fun h => by simp only at h; omega) _
  exact leaves_marks (P := Try.prog) [] _ List.nodup_nil (fun D hD => by cases hD) (fun w'' hc => by
    have q4 := (boxed_chg q3 hc (fun h => by cases h)).cell
    exact ⟨.bool true, by simp [results, Try.results4, go_sem, q4], rfl, hcG.trans hc (fun _ _ h => h) (fun _ _ h => by cases h)⟩)

theorem bneBits {a b : Int} (h : a = b) : (a != b) = false := by subst h; simp

set_option maxRecDepth 100000 in
set_option maxHeartbeats 4000000 in
theorem treeMasks_yes (A : Option Addr) (n c : Nat) (T : Nat → Nd) (W : World) (hn : n * 24 ≤ 140737488351232) (hw : NdWf T n) (hA : TreeAt W A n T) (hok : okTree T n) :
    Calls Try.prog 4 #[.slice A n c] W fun e w' => e = .returned (.bool true) ∧ Chg NoB W w' := by
  have hA1 : ∀ w', Chg NoB W w' → TreeAt w' A n T := fun w' hc => hA.chg hc (fun _ _ _ h => h)
  have HA := Lib.hid hA1
  clear hA1
  have hk : chk T n = 0 := if_pos hok
  have hn1 := hok.1
  have hn32 := hok.2.1
  obtain ⟨bA, oA, rfl, hcA0⟩ := hA hn1
  have hbA : bA < W.heap.size := blk_lt (hcA0 0 hn1).1
  clear hcA0 hA
  have Hk := Lib.hid hk
  have Hok := Lib.hid hok
  clear hk hok
  refine (callsIn_wide (n := 9)).1 (callsIn_of_wp_marks Try.func4 rfl trivial (wpIn_wide.2 ?_) rfl)
  simp only [Try.ntmps4, List.size_toArray, List.length_cons, List.length_nil, Nat.reduceAdd, Nat.reduceSub, Array.replicate_succ, Array.replicate_zero, List.push_toArray, List.append_toArray, List.nil_append, List.cons_append]
  go_wp2_with fail
  have hch0 : Chg NoB W ((W.alloc (.cells #[.slice (some ⟨bA, oA, none⟩) n c] 22)).alloc (.cells #[.bool false] 4)) := ((Chg.refl _ _).alloc _).alloc _
  have q1 : Boxed ((W.alloc (.cells #[.slice (some ⟨bA, oA, none⟩) n c] 22)).alloc (.cells #[.bool false] 4)) W.heap.size 22 (.slice (some ⟨bA, oA, none⟩) n c) := (Boxed.new W 22 _).alloc _
  have q2 : Boxed ((W.alloc (.cells #[.slice (some ⟨bA, oA, none⟩) n c] 22)).alloc (.cells #[.bool false] 4)) (W.heap.size + 1) 4 (.bool false) := by
    have := Boxed.new (W.alloc (.cells #[.slice (some ⟨bA, oA, none⟩) n c] 22)) 4 (.bool false)
    rw [World.size_alloc] at this
    exact this
  refine (lives_yes _).mono ?_
  rintro e w1 ⟨rfl, hc1⟩
  have q1 := boxed_chg q1 hc1 (fun h => h)
  have q2 := boxed_chg q2 hc1 (fun h => h)
  have hcA := hch0.step hc1
  have m1 := q1.cell
  go_wp2_with fail
  refine (copyNodes_any (some ⟨bA, oA, none⟩) n c T _ hn (HA.out _ hcA)).mono ?_
  rintro e w2 ⟨v, rfl, hown, hc2⟩
  have q1 := boxed_chg q1 hc2 (fun h => h)
  have q2 := boxed_chg q2 hc2 (fun h => h)
  have hcB := hcA.step hc2
  obtain ⟨X, cp, rfl⟩ := owns_shape hown
  have hX : TreeAt w2 X n T := treeAt_of_owns hown
  go_wp2_with fail
  refine (above_yes X n cp T _ hX hw Hok.out).mono ?_
  rintro e w3 ⟨gl, rfl, hgl, hsets, hc3⟩
  have q1 := boxed_chg q1 hc3 (fun h => h)
  have q2 := boxed_chg q2 hc3 (fun h => h)
  have hcC := hcB.step hc3
  have m1 := q1.cell
  have Q1 := Lib.hid q1
  have Q2 := Lib.hid q2
  have Hs := Lib.hid hsets
  have hlt3 := q1.lt
  go_wp2_with fail
  have hcD : Chg NoB W (w3.alloc (.cells #[.slice (some ⟨gl, 0, none⟩) n n] 34)) := hcC.alloc _
  refine (refCheck_any (some ⟨bA, oA, none⟩) n c T _ (HA.out _ hcD)).mono ?_
  rintro e w4 ⟨rfl, hc4⟩
  have q1 := boxed_chg ((Q1.out).alloc (.cells #[.slice (some ⟨gl, 0, none⟩) n n] 34)) hc4 (fun h => h)
  have q2 := boxed_chg ((Q2.out).alloc (.cells #[.slice (some ⟨gl, 0, none⟩) n n] 34)) hc4 (fun h => h)
  have q4 := boxed_chg (Boxed.new w3 34 (.slice (some ⟨gl, 0, none⟩) n n)) hc4 (fun h => h)
  have hs4 := (Hs.out.chg ((Chg.refl NoB _).alloc (.cells #[.slice (some ⟨gl, 0, none⟩) n n] 34)) (fun h => h)).chg hc4 (fun h => h)
  have hcE := hcD.step hc4
  have m1 := q1.cell
  have m4 := q4.cell
  have s0 := hs4.cell hn1
  rw [wbits_zero] at s0
  have heq := eq41
  have Hs4 := Lib.hid hs4
  have HcE := Lib.hid hcE
  have hsz3 : W.heap.size + 2 ≤ w3.heap.size := by have h1 := hc1.size; have h2 := hc2.size; have h3 := hc3.size; simp at h1; omega
  have hglt : gl < w3.heap.size := hsets.lt
  have hsz4 : w3.heap.size < w4.heap.size := q4.lt
  rw [Hk.out]
  clear Hs hsets hc1 hc2 hc3 hc4 hcA hcB hcC hcD hcE hch0 hX hown hs4
  generalize w3.heap.size = b4 at *
  go_wp2
  have Q1 := Lib.hid q1
  have Q2 := Lib.hid q2
  have Q4 := Lib.hid q4
  clear q1 q2 q4 m1 m4 s0
  go_loopw [6] (fun s6 wr => ∃ i : Nat, 1 ≤ i ∧ i ≤ n ∧ s6 = .int .i64 i ∧ Chg NoB w4 wr) (fun s6 _ => n - (intOf s6).toNat)
  case atStart => exact ⟨1, by omega, hn1, rfl, Chg.refl _ _⟩
  case round =>
    obtain ⟨i, hi1, hin, rfl, hch⟩ := hrel
    have m1 := hch.cell Q1.out.cell (fun h => h)
    by_cases hlt : i < n
    · have m4 := hch.cell Q4.out.cell (fun h => h)
      have hsr := Hs4.out.chg hch (fun h => h)
      obtain ⟨b', o', hb', hcT⟩ := (HA.out _ (HcE.out.step hch)) hn1
      cases hb'
      have ci0 := (hcT i hlt).1
      obtain ⟨e1, e2, e3⟩ := dep_par T n Hok.out hi1 hlt
      obtain ⟨p, hpp⟩ : ∃ p : Nat, (T i).par = p := ⟨(T i).par.toNat, by omega⟩
      rw [hpp] at e3 ci0
      simp only [Int.toNat_natCast] at e3
      have lp := hsr.cell (show p < n by omega)
      have li := hsr.cell hlt
      have hws := wbits_succ Hok.out hi1 hlt
      rw [hpp] at hws
      simp only [Int.toNat_natCast] at hws
      have hwl := wbits_lt Hok.out (show p < n by omega)
      have Hws := Lib.hid hws
      have Hwl := Lib.hid hwl
      have Hpp := Lib.hid hpp
      have hpn : (p : Int) < (n : Int) := by omega
      have hin' : (i : Int) < (n : Int) := by omega
      have n1 := World.new_ne wr _ m1
      have n4 := World.new_ne wr _ m4
      have n5 := World.new_ne wr _ ci0
      have n6 := World.new_ne wr _ lp
      have n7 := World.new_ne wr _ li
      clear e1 e2 hcT hws hwl hpp hsr
      go_wp2_with fail
      go_region_held3 (fun w' => w'.cell? ⟨W.heap.size, 0, none⟩ = some (.slice (some ⟨bA, oA, none⟩) n c) ∧ w'.cell? ⟨b4, 0, none⟩ = some (.slice (some ⟨gl, 0, none⟩) n n) ∧ w'.cell? ⟨bA, oA + i * 3, none⟩ = some (.int .i64 p) ∧ w'.cell? ⟨gl, p, none⟩ = some (.int .u64 (wbits T p))) (go_keep) (fail)
      go_wp2
      have e5 := wrap_two_pow (p := i) (by omega)
      have e6 := u64_or_nat (wbits T p) (2 ^ i) Hwl.out (two_pow_lt (by omega))
      have E5 := Lib.hid e5
      have E6 := Lib.hid e6
      clear e5 e6
      have e5 := E5.out
      have e6 := E6.out
      simp only [e5, e6]
      rw [Hws.out] at li
      have hl1 : W.heap.size < wr.heap.size := blk_lt m1
      have hl4 : b4 < wr.heap.size := blk_lt m4
      have hl5 : gl < wr.heap.size := blk_lt li
      have heq := eq41
      clear e5 e6
      go_quiet (fail)
      rename_i nq
      go_wp2
      exact ⟨⟨i + 1, by omega, by omega, rfl, (hch.alloc _).drewN _⟩, by simp [intOf]; omega⟩
    · obtain rfl : i = n := by omega
      have hl1 : W.heap.size < wr.heap.size := blk_lt m1
      have hchS : Chg NoB W (wr.alloc (.cells #[.int .u64 0] 41)) := (HcE.out.step hch).alloc _
      have hseen : SetsAt (wr.alloc (.cells #[.int .u64 0] 41)) wr.heap.size 1 (fun _ => 0) := ⟨_, World.alloc_heap_new _ _, rfl, fun j hj => by obtain rfl : j = 0 := by omega
                                                                                                                                                 rfl⟩
      have hl4' := ((Hs4.out.chg hch (fun h => h)).chg ((Chg.refl NoB wr).alloc (.cells #[.int .u64 0] 41)) (fun h => h))
      have hq1 := ((boxed_chg Q1.out hch (fun h => h)).alloc (.cells #[.int .u64 0] 41))
      have hq2 := ((boxed_chg Q2.out hch (fun h => h)).alloc (.cells #[.int .u64 0] 41))
      have hq4 := ((boxed_chg Q4.out hch (fun h => h)).alloc (.cells #[.int .u64 0] 41))
      have hsS : wr.heap.size < (wr.alloc (.cells #[.int .u64 0] 41)).heap.size := by simp
      have hglr : gl < wr.heap.size := (Hs4.out.chg hch (fun h => h)).lt
      have hq4r : b4 < wr.heap.size := (boxed_chg Q4.out hch (fun h => h)).lt
      clear hch
      go_wp2_with fail
      refine (copyNodes_any (some ⟨bA, oA, none⟩) i c T _ hn (HA.out _ hchS)).mono ?_
      rintro e w5 ⟨v5, rfl, hown5, hc5⟩
      obtain ⟨k5, hk5⟩ : ∃ k, i = k + 1 := ⟨i - 1, by omega⟩
      obtain ⟨g5, cp5, hv5⟩ : ∃ g cap, v5 = .slice (some ⟨g, 0, none⟩) i cap := by rw [hk5] at hown5 ⊢; exact ownsRow_succ hown5
      subst hv5
      have hg5 := (Row.of_owns hown5).1
      have hr5 := (Row.of_owns hown5).2
      rw [World.size_alloc] at hg5
      have hseen := hseen.chg hc5 (fun h => h)
      have hl5' := hl4'.chg hc5 (fun h => h)
      have hq1 := boxed_chg hq1 hc5 (fun h => h)
      have hq2 := boxed_chg hq2 hc5 (fun h => h)
      have hq4 := boxed_chg hq4 hc5 (fun h => h)
      have hchT := hchS.step hc5
      have hsz5 := hc5.size
      rw [World.size_alloc] at hsz5
      have HchT := Lib.hid hchT
      have Hr5 := Lib.hid hr5
      have Hseen := Lib.hid hseen
      have Hl5 := Lib.hid hl5'
      have HQ1 := Lib.hid hq1
      have HQ2 := Lib.hid hq2
      have HQ4 := Lib.hid hq4
      clear hown5 hk5 hchS hchT hl4' hl5' hq1 hq2 hq4 hc5 hr5 hseen
      generalize wr.heap.size = bs at *
      go_wp2_with fail
      refine (paths_call (some ⟨g5, 0, none⟩) i cp5 _).mono ?_
      rintro e w6 ⟨rfl, rfl⟩
      have hfn := eqlFuncNil
      go_wp2_with fail
      -- what lies at the range
      have w6x := Boxed.new w5 22 (.slice (some ⟨g5, 0, none⟩) i cp5)
      have hr6 := Hr5.out.alloc (.cells #[.slice (some ⟨g5, 0, none⟩) i cp5] 22)
      have hs6 : (w5.alloc (.cells #[.slice (some ⟨g5, 0, none⟩) i cp5] 22)).heap.size = w5.heap.size + 1 := by simp
      have hch6 : Chg NoB W (w5.alloc (.cells #[.slice (some ⟨g5, 0, none⟩) i cp5] 22)) := HchT.out.alloc _
      have k1 := HQ1.out.alloc (.cells #[.slice (some ⟨g5, 0, none⟩) i cp5] 22)
      have k2 := HQ2.out.alloc (.cells #[.slice (some ⟨g5, 0, none⟩) i cp5] 22)
      have k4 := HQ4.out.alloc (.cells #[.slice (some ⟨g5, 0, none⟩) i cp5] 22)
      have kl := Hl5.out.chg ((Chg.refl NoB w5).alloc (.cells #[.slice (some ⟨g5, 0, none⟩) i cp5] 22)) (fun h => h)
      have ks := Hseen.out.chg ((Chg.refl NoB w5).alloc (.cells #[.slice (some ⟨g5, 0, none⟩) i cp5] 22)) (fun h => h)
      have hg5l : g5 < w5.heap.size := Hr5.out.lt
      generalize w5.alloc (.cells #[.slice (some ⟨g5, 0, none⟩) i cp5] 22) = w6 at *
      generalize hbx : w5.heap.size = bx at *
      have Hw6x := Lib.hid w6x
      have Hr6 := Lib.hid hr6
      have Hch6 := Lib.hid hch6
      have K1 := Lib.hid k1
      have K2 := Lib.hid k2
      have K4 := Lib.hid k4
      have Kl := Lib.hid kl
      have Ks := Lib.hid ks
      clear w6x hr6 hch6 k1 k2 k4 kl ks HQ1 HQ2 HQ4 Hl5 Hseen Hr5 HchT hbx
      refine (wpIn_wide (n := 9)).1 ?_
      refine range_out (gf := 16) (lb := #[.pointer (some ⟨bx, 0, none⟩)]) (fun k => k = bx ∨ k = g5) rfl (enters_of Try.func16 (by kernel_rfl) rfl)
        (fun o => paths_iter (some ⟨g5, 0, none⟩) i cp5 bx T _ _ hw ((boxed_chg (boxed_chg Hw6x.out ((Chg.refl NoB _).alloc _) (fun h => h)) ((Chg.refl NoB _).alloc _) (fun h => h)).cell) (treeAt_of_row (xs := []) (by rw [List.append_nil]; exact (Hr6.out.alloc _).alloc _)) (.inl rfl)
          (fun b off e => by cases e; exact .inr rfl) (fun k hk => by simp; omega))
        (fun k hk => by omega) (fun _ => rfl)
        (fun pre Y W' => SetsAt W' bs 1 (fun _ => bitsOf (pre.flatMap fun x => way T x.1)) ∧ Chg (fun k => k = bs) w6 W')
        (fun c pre Y W' => False)
        ?hI ?hIx ?h0
        (fun pre x Y a' W' => a' = { tmps := #[.slice (some ⟨bA, oA, none⟩) i c, .pointer (some ⟨W.heap.size, 0, none⟩), .pointer (some ⟨W.heap.size + 1, 0, none⟩), .bool true, .pointer (some ⟨b4, 0, none⟩), .int .i64 0, .int .i64 i, u7, .pointer (some ⟨bs, 0, none⟩), .func (.func 16) #[] #[.pointer (some ⟨bx, 0, none⟩)], .slice (some ⟨x.2.1, 0, none⟩) (way T x.1).length x.2.2, undef, undef, .bool true, .tuple #[.slice (some ⟨gl, 0, none⟩) i i, .int .i64 0], .slice (some ⟨bA, oA, none⟩) i c, .slice X i cp, .tuple #[.slice (some ⟨gl, 0, none⟩) i i, .int .i64 0], .slice (some ⟨gl, 0, none⟩) i i, .int .i64 0, .bool true, .bool false, .bool false, .int .i64 0, .bool true, .slice (some ⟨bA, oA, none⟩) i c, .int .i64 0, .bool true, .bool false, .bool false, .bool false, .int .i64 0, .bool false, .bool false, undef, undef, undef, undef, undef, undef, undef, undef, undef, undef, .slice (some ⟨gl, 0, none⟩) i i, .int .i64 i, .slice (some ⟨bA, oA, none⟩) i c, .int .i64 i, .bool false, .bool false, .slice (some ⟨gl, 0, none⟩) i i, .pointer (some ⟨gl, 0, none⟩), .agg #[.int .u64 1], .agg #[.int .u64 1], .bool false, .bool false, .int .i64 i, .slice (some ⟨bA, oA, none⟩) i c, .int .i64 i, .bool false, u60, u61, u62, u63, u64, u65, u66, u67, u68, u69, u70, u71, u72, u73, u74, u75, u76, u77, u78, u79, u80, u81, u82, .slice (some ⟨bA, oA, none⟩) i c, .slice (some ⟨g5, 0, none⟩) i cp5, .func (.func 16) #[] #[.pointer (some ⟨bx, 0, none⟩)], .func (.func 16) #[] #[.pointer (some ⟨bx, 0, none⟩)], .bool false, .func (.func 16) #[] #[.pointer (some ⟨bx, 0, none⟩)], .slice (some ⟨x.2.1, 0, none⟩) (way T x.1).length x.2.2, undef, undef, undef, undef, undef, undef, undef, undef, undef, undef, undef, undef, undef, undef, undef, undef, undef, undef, undef, undef, undef, undef, undef, undef, undef, undef, undef, undef, undef, undef, undef, undef, undef, undef, undef, undef, undef, undef, undef, undef, undef, undef, undef, undef, undef, undef, undef, undef, undef, undef, undef, undef, undef, undef, undef, undef, undef, undef, undef, undef, undef, undef, undef, undef, undef, undef, undef, undef, undef, undef, undef, undef, undef, undef, undef, undef, undef, undef, undef, undef, undef, undef, undef, undef], defers := [] } ∧ gvW T x W' ∧ SetsAt W' bs 1 (fun _ => bitsOf (pre.flatMap fun x => way T x.1)) ∧ Chg (fun k => k = bs) w6 W')
        ?hAx ?assign ?body ?done ?stop
      case hI =>
        rintro pre Y A' C ⟨h1, h2⟩ hYA hc
        exact ⟨h1.chg hc (fun h => by omega), h2.trans hc (fun _ _ h => h) (fun i hi h => by omega)⟩
      case hIx => intro c' pre Y A' C h; exact h.elim
      case h0 => exact ⟨Ks.out, Chg.refl _ _⟩
      case hAx =>
        rintro pre x Y a' A' C l' hYA ⟨rec, hlr⟩ ⟨rfl, hgv, h1, h2⟩ hl hnl hc
        refine ⟨rfl, hgv.chg hc (fun h => ?_), h1.chg hc (fun h => by omega), h2.trans hc (fun _ _ h => h) (fun i hi h => by omega)⟩
        obtain ⟨_, cur, hg', _⟩ := hgv
        rw [h, hlr] at hg'
        cases hg'
      case assign =>
        rintro l' pre x Y W' K hi' hgv _ _ _ hK
        unfold encW
        gi_wp2
        exact hK _ _ (Chg.refl _ _) ⟨rfl, hgv, hi'⟩
      case body =>
        rintro l' pre x Y a' W' hl _ ⟨rest, hrest⟩ hszW hYk ⟨rfl, hgv, h1, h2⟩
        have hxn : x.1 < i := by
          have : x.1 ∈ pl T i := by rw [hrest]; simp
          rw [pl, if_pos Hok.out] at this
          unfold leavesL at this
          simpa using (List.mem_filter.1 this).1
        have hseenlt : bitsOf (pre.flatMap fun x => way T x.1) < 18446744073709551616 := by
          have h3 : bitsOf (pre.flatMap fun x => way T x.1) < 2 ^ i := bitsOf_lt fun j hj => by
            obtain ⟨y, hy, hj⟩ := List.mem_flatMap.1 hj
            have hy2 : y.1 ∈ pl T i := by rw [hrest]; exact List.mem_append.2 (.inl (List.mem_map.2 ⟨y, hy, rfl⟩))
            rw [pl, if_pos Hok.out] at hy2
            unfold leavesL at hy2
            have hyn : y.1 < i := by simpa using (List.mem_filter.1 hy2).1
            have := way_mem_lt Hok.out y.1 hyn j hj
            omega
          have h4 := Nat.pow_lt_pow_right (a := 2) (by omega) (show i < 64 by omega)
          have h5 : (2 : Nat) ^ 64 = 18446744073709551616 := by decide
          omega
        have Hsl0 := Lib.hid hseenlt
        clear hseenlt
        have hcw : Chg NoB W W' := Hch6.out.trans h2 (fun _ _ h => h) (fun k hk h => by omega)
        have m1 := (boxed_chg K1.out h2 (fun h => by omega)).cell
        have m4 := (boxed_chg K4.out h2 (fun h => by omega)).cell
        have hsl := Kl.out.chg h2 (fun h => by omega)
        have lx := hsl.cell hxn
        have hs1 : w6.heap.size ≤ W'.heap.size := h2.size
        obtain ⟨x1, x2, x3⟩ := x
        have hxn' : x1 < i := hxn
        have hrow : Row W' x2 3 1 (way T x1).length x3 (wayVals (way T x1)) := hgv
        have hd := dep_of T i Hok.out x1 hxn
        have hlen1 : 1 ≤ (way T x1).length := by omega
        have hlen32 : (way T x1).length ≤ 32 := by omega
        have w0 : W'.cell? ⟨x2, 0, none⟩ = some (.int .i64 0) := hrow.cell (by
          have := way_head Hok.out x1 hxn
          simp [wayVals, this])
        have hlt1 : ¬ ((way T x1).length < 1) := by omega
        have hge1 : decide ((way T x1).length < 1) = false := decide_eq_false (by omega)
        have hpos : (0 : Int) < ((way T x1).length : Int) := by omega
        have Hrow := Lib.hid hrow
        have Hsl := Lib.hid hsl
        have Hgv := Lib.hid hgv
        have H1 := Lib.hid h1
        have H2 := Lib.hid h2
        have Hcw := Lib.hid hcw
        have Hd := Lib.hid hd
        clear hrest hrow hsl hgv h1 h2 hcw hd
        simp only at hxn lx ⊢
        have hx2 : x2 < W'.heap.size := Hrow.out.lt
        have hbl1 : W.heap.size < W'.heap.size := blk_lt m1
        have hbl4 : b4 < W'.heap.size := blk_lt m4
        have hblg : gl < W'.heap.size := blk_lt lx
        generalize hL : (way T x1).length = L at *
        have HL := Lib.hid hL
        clear hL
        gi_wp2
        have hb0 : SetsAt (W'.alloc (.cells #[.int .u64 0] 41)) W'.heap.size 1 (fun _ => bitsOf ((way T x1).take 0)) := ⟨_, World.alloc_heap_new _ _, rfl, fun j hj => by obtain rfl : j = 0 := by omega
                                                                                                                                                                          rfl⟩
        have Hb0 := Lib.hid hb0
        clear hb0
        gi_loopw [12] (fun s12 wz => ∃ k : Nat, k ≤ L ∧ s12 = .int .i64 k ∧ SetsAt wz W'.heap.size 1 (fun _ => bitsOf ((way T x1).take k)) ∧ Chg NoB W' wz) (fun s12 _ => L - (intOf s12).toNat)
        case atStart => exact ⟨0, Nat.zero_le _, rfl, Hb0.out, (Chg.refl _ _).alloc _⟩
        case round =>
          obtain ⟨k, hkL, rfl, hbk, hcz⟩ := hrel
          have Hbk := Lib.hid hbk
          clear hbk
          have bk0 := Hbk.out.cell (i := 0) (by omega)
          have bkf := Hbk.out.free 0
          obtain ⟨bk, hbkE⟩ : ∃ b, b = bitsOf ((way T x1).take k) := ⟨_, rfl⟩
          rw [← hbkE] at bk0
          have HbkE := Lib.hid hbkE
          clear hbkE
          by_cases hk : k < L
          · obtain ⟨a, ha⟩ : ∃ a, (way T x1)[k]? = some a := ⟨_, List.getElem?_eq_getElem (by rw [HL.out]; exact hk)⟩
            have hai : a < i := by
              have := way_mem_lt Hok.out x1 hxn a (List.mem_of_getElem? ha)
              omega
            have wk := (Hrow.out.chg hcz (fun h => h)).cell (j := k) (v := .int .i64 a) (by simp [wayVals, ha])
            have m1z := hcz.cell m1 (fun h => h)
            have htk : bitsOf ((way T x1).take (k + 1)) = bitsOf ((way T x1).take k) ||| 2 ^ a := by
              rw [List.take_add_one, ha, Option.toList_some, bitsOf_snoc]
            have hblt : bitsOf ((way T x1).take k) < 18446744073709551616 := by
              have h1 : bitsOf ((way T x1).take k) < 2 ^ i := bitsOf_lt fun j hj => by have := way_mem_lt Hok.out x1 hxn j (List.mem_of_mem_take hj); omega
              have h2 := two_pow_lt (p := i) (by omega)
              omega
            obtain ⟨b', o', hb', hcT⟩ := (HA.out _ (Hcw.out.step hcz)) hn1
            cases hb'
            have cap := (hcT a hai).1
            have hkl' : (k : Int) < (L : Int) := by omega
            have hai' : (a : Int) < (i : Int) := by omega
            have dai : decide (i ≤ a) = false := by simp; omega
            have dai2 : decide ((i : Int) ≤ (a : Int)) = false := decide_eq_false (by omega)
            have dan : decide ((a : Int) < 0) = false := decide_eq_false (by omega)
            have Htk := Lib.hid htk
            have Hblt := Lib.hid hblt
            have Hha := Lib.hid ha
            clear hcT htk hblt ha
            have hszz : W'.heap.size < wr.heap.size := Hbk.out.lt
            have hmin : min a 64 = a := by omega
            have hF : ∀ wq : World, Chg NoB W' wq → SetsAt wq W'.heap.size 1 (fun _ => bitsOf ((way T x1).take k)) → SetsAt (wq.setCell ⟨W'.heap.size, 0, none⟩ (.int .u64 (bits BinOp.or IntKind.u64 (bk : Int) (IntKind.u64.wrap ((2 : Int) ^ a))))).drew W'.heap.size 1 (fun _ => bitsOf ((way T x1).take (k + 1))) ∧
                Chg NoB W' (wq.setCell ⟨W'.heap.size, 0, none⟩ (.int .u64 (bits BinOp.or IntKind.u64 (bk : Int) (IntKind.u64.wrap ((2 : Int) ^ a))))).drew := by
              intro wq hc hs
              have e5 := wrap_two_pow (p := a) (by omega)
              have e6 := u64_or_nat bk (2 ^ a) (by rw [HbkE.out]; exact Hblt.out) (two_pow_lt (by omega))
              rw [e5, e6]
              refine ⟨?_, (hc.setCell (p := ⟨W'.heap.size, 0, none⟩) (fun h => by simp at h) _).drew⟩
              obtain ⟨cur, g1, g2, g3⟩ := hs.set_ (i := 0) (by omega) (bk ||| 2 ^ a)
              refine ⟨cur, g1, g2, fun j hj => ?_⟩
              obtain rfl : j = 0 := by omega
              rw [g3 0 hj, Htk.out, HbkE.out]
              rfl
            have HF := Lib.hid hF
            clear hF
            rcases Nat.eq_zero_or_pos k with rfl | hkp
            · gi_wp2
              refine quiet_round (by kernel_rfl) (by kernel_rfl) (by kernel_rfl) ?_
              repeat (gi_big_quiet_step (fail))
              refine wpQuietIn_nil ?_
              rintro _ ⟨nq, rfl⟩
              have hfq := HF.out _ (hcz.drewN nq) Hbk.out
              have wkq : (wr.drewN nq).cell? ⟨x2, 0, none⟩ = some (.int .i64 a) := wk
              have bkq : (wr.drewN nq).cell? ⟨W'.heap.size, 0, none⟩ = some (.int .u64 bk) := bk0
              have bfq : (wr.drewN nq).frozen? ⟨W'.heap.size, 0, none⟩ = false := bkf
              have hszq : W'.heap.size < (wr.drewN nq).heap.size := hszz
              have Hfq := Lib.hid hfq
              clear hcz bk0 bkf wk m1z cap hfq Hbk
              gi_wp2
              generalize wr.drewN nq = wq at *
              refine still_round 10 (by kernel_rfl) (by kernel_rfl) (by kernel_rfl) (by rintro ⟨a, w, h⟩; exact h) ?_
              simp only [List.take_succ_cons, List.take_zero, List.drop_succ_cons, List.drop_zero]
              repeat still_step
              try refine wpStill_nil ?_
              change wpList _ _ _ _ _ wq.drew
              go_wp2
              gi_wp2
              exact ⟨⟨0 + 1, by omega, rfl, Hfq.out.1, Hfq.out.2⟩, by simp [intOf]; omega⟩
            · obtain ⟨k', hk'⟩ : ∃ k', k = k' + 1 := ⟨k - 1, by omega⟩
              obtain ⟨q, hq1, hq2⟩ := way_adj Hok.out x1 hxn k' a (by rw [← hk']; exact Hha.out)
              have wk1 := (Hrow.out.chg hcz (fun h => h)).cell (j := k') (v := .int .i64 q) (by simp [wayVals, hq1])
              rw [hq2] at cap
              have hkk1 : (k : Int) - 1 = (k' : Int) := by omega
              have hkw : IntKind.i64.wrap (k' : Int) = (k' : Int) := by rw [IntKind.wrap_i64]; omega
              have hkl1 : (k' : Int) < (L : Int) := by omega
              have dk0 : decide ((0 : Int) < (k : Int)) = true := decide_eq_true (by omega)
              have dk1 : decide (0 < k) = true := decide_eq_true hkp
              have Hq2 := Lib.hid hq2
              have Hk' := Lib.hid hk'
              clear hq1 hq2 hk'
              gi_wp2
              refine quiet_round (by kernel_rfl) (by kernel_rfl) (by kernel_rfl) ?_
              repeat (gi_big_quiet_step (fail))
              refine wpQuietIn_nil ?_
              rintro _ ⟨nq, rfl⟩
              have hfq := HF.out _ (hcz.drewN nq) Hbk.out
              have wkq : (wr.drewN nq).cell? ⟨x2, k, none⟩ = some (.int .i64 a) := wk
              have bkq : (wr.drewN nq).cell? ⟨W'.heap.size, 0, none⟩ = some (.int .u64 bk) := bk0
              have bfq : (wr.drewN nq).frozen? ⟨W'.heap.size, 0, none⟩ = false := bkf
              have hszq : W'.heap.size < (wr.drewN nq).heap.size := hszz
              have Hfq := Lib.hid hfq
              clear hcz bk0 bkf wk m1z cap hfq Hbk
              gi_wp2
              generalize wr.drewN nq = wq at *
              refine still_round 10 (by kernel_rfl) (by kernel_rfl) (by kernel_rfl) (by rintro ⟨a, w, h⟩; exact h) ?_
              simp only [List.take_succ_cons, List.take_zero, List.drop_succ_cons, List.drop_zero]
              repeat still_step
              try refine wpStill_nil ?_
              change wpList _ _ _ _ _ wq.drew
              go_wp2
              gi_wp2
              exact ⟨⟨k + 1, by omega, rfl, Hfq.out.1, Hfq.out.2⟩, by simp [intOf]; omega⟩
          · obtain rfl : k = L := by omega
            obtain ⟨d, hd1⟩ : ∃ d, k = d + 1 := ⟨k - 1, by omega⟩
            have hwl : (way T x1)[d]? = some x1 := by
              have := way_last T x1
              rw [List.getLast?_eq_getElem?, HL.out, hd1] at this
              simpa using this
            have wd := (Hrow.out.chg hcz (fun h => h)).cell (j := d) (v := .int .i64 x1) (by simp [wayVals, hwl])
            have hkd : (k : Int) - 1 = (d : Int) := by omega
            have hdw : IntKind.i64.wrap (d : Int) = (d : Int) := by rw [IntKind.wrap_i64]; omega
            have hdk : (d : Int) < (k : Int) := by omega
            have hxi : (x1 : Int) < (i : Int) := by omega
            have m4z := hcz.cell m4 (fun h => h)
            have lxz := hcz.cell lx (fun h => h)
            have hbw : bk = wbits T x1 := by rw [HbkE.out, ← HL.out, List.take_length]; rfl
            rw [hbw] at bk0
            have hs7 := (H1.out.chg hcz (fun h => h))
            have s70 := hs7.cell (i := 0) (by omega)
            have s7f := hs7.free 0
            have hbsl : bs < wr.heap.size := hs7.lt
            have hbbl : W'.heap.size < wr.heap.size := Hbk.out.lt
            have heq := eq41
            have Hs7 := Lib.hid hs7
            have Hcz := Lib.hid hcz
            have hwlt := wbits_lt Hok.out hxn
            have Hwlt := Lib.hid hwlt
            obtain ⟨sb, hsb⟩ : ∃ s, s = bitsOf (pre.flatMap fun x => way T x.1) := ⟨_, rfl⟩
            rw [← hsb] at s70
            have Hsb := Lib.hid hsb
            clear hwl hd1 hbw hs7 hcz hwlt hsb
            gi_wp2
            refine quiet_round (by kernel_rfl) (by kernel_rfl) (by kernel_rfl) ?_
            repeat (gi_big_quiet_step (fail))
            refine wpQuietIn_nil ?_
            rintro _ ⟨nq, rfl⟩
            gi_wp2
            have e6 := u64_or_nat sb (wbits T x1) (by rw [Hsb.out]; exact Hsl0.out) Hwlt.out
            have hne1 : ¬ (bs = bx ∨ bs = g5) := by omega
            have hchE : Chg NoB W' (wr.drewN nq) := Hcz.out.drewN nq
            have hsE : SetsAt (wr.drewN nq) bs 1 (fun _ => bitsOf (pre.flatMap fun x => way T x.1)) := Hs7.out
            refine ⟨(hchE.mono (fun _ _ h => h.elim)).setCell (p := ⟨bs, 0, none⟩) (fun _ => .inl ⟨by simp only; omega, hne1⟩) _, Y, fun y hy => ⟨.inl hy, by have h1 := (hYk y hy).2; have h2 := hchE.size; simp only [World.setCell, Array.size_modify]; omega⟩, ?_,
              ((H2.out.trans hchE (fun _ _ h => h) (fun _ _ h => h.elim)).setCell (p := ⟨bs, 0, none⟩) (fun _ => rfl) _)⟩
            have hfl : bitsOf ((pre ++ [(x1, x2, x3)]).flatMap fun x => way T x.1) = sb ||| wbits T x1 := by
              rw [List.flatMap_append, bitsOf_append, ← Hsb.out]
              simp [wbits]
            rw [hfl, e6]
            obtain ⟨cur, g1, g2, g3⟩ := hsE.set_ (i := 0) (by omega) (sb ||| wbits T x1)
            refine ⟨cur, g1, g2, fun j hj => ?_⟩
            obtain rfl : j = 0 := by omega
            rw [g3 0 hj]
            rfl
      case done =>
        rintro D xs Y W' hD hYD hYs hS ⟨h1, h2⟩ hK
        have hfull : bitsOf (xs.flatMap fun x => way T x.1) = 2 ^ i - 1 := by
          have e : (xs.flatMap fun x => way T x.1) = (xs.map (·.1)).flatMap (way T) := by rw [List.flatMap_map]
          rw [e, hS, pl, if_pos Hok.out]
          exact all_full Hok.out
        rw [hfull] at h1
        have m8 := h1.cell (i := 0) (by omega)
        have m1 := (boxed_chg K1.out h2 (fun h => by omega)).cell
        have q2 := boxed_chg K2.out h2 (fun h => by omega)
        have m2 := q2.cell
        have f2 := q2.frozen
        have hb : ((((2 ^ i - 1 : Nat) : Int)) == IntKind.u64.wrap (IntKind.u64.wrap ((2 : Int) ^ i) - 1)) = true := by
          rw [wrap_two_pow (by omega), IntKind.wrap_u64]
          have h1 := two_pow_lt (p := i) (by omega)
          have h2 : 0 < 2 ^ i := Nat.pow_pos (by decide)
          generalize 2 ^ i = y at *
          rw [beq_iff_eq]
          omega
        have Hb := Lib.hid hb
        clear hb
        go_wp2
        have q3 := q2.set (.bool ((((2 ^ i - 1 : Nat) : Int)) == IntKind.u64.wrap (IntKind.u64.wrap ((2 : Int) ^ i) - 1)))
        have hcG : Chg NoB W (W'.setCell ⟨W.heap.size + 1, 0, none⟩ (.bool ((((2 ^ i - 1 : Nat) : Int)) == IntKind.u64.wrap (IntKind.u64.wrap ((2 : Int) ^ i) - 1)))) :=
          (Hch6.out.trans h2 (fun _ _ h => h) (fun k hk h => by omega)).setCell (p := ⟨W.heap.size + 1, 0, none⟩) (fun h => by simp only at h; omega) _
        have hDs : W.heap.size + 1 ≠ D := by have := K2.out.lt; omega
        refine leaves_marks (P := Try.prog) [D] _ (by simp) (fun D' hD' => ?_) (fun w'' hc => ?_)
        · obtain rfl : D' = D := by simpa using hD'
          exact ((Chg.refl (fun k => k = W.heap.size + 1) W').setCell (p := ⟨W.heap.size + 1, 0, none⟩) (fun _ => rfl) _).heap hK (fun h => hDs h.symm)
        · have q4 := (boxed_chg q3 hc (fun h => hDs (by simpa using h))).cell
          refine ⟨_, ?_, ret_bool Hb.out, hcG.trans hc (fun _ _ h => h) (fun k hk h => ?_)⟩
          · simp [results, Try.results4, go_sem, q4]
          · have h' : k = D := by simpa using h
            have := Hch6.out.size
            omega
      case stop =>
        rintro D c' pre Y W' hD hYD hYs _ h hK
        exact h.elim
theorem treeMasks_any (A : Option Addr) (n c : Nat) (T : Nat → Nd) (W : World) (hn : n * 24 ≤ 140737488351232) (hw : NdWf T n) (hA : TreeAt W A n T) :
    Calls Try.prog 4 #[.slice A n c] W fun e w' => e = .returned (.bool true) ∧ Chg NoB W w' := by
  by_cases hok : okTree T n
  · exact treeMasks_yes A n c T W hn hw hA hok
  · exact treeMasks_no A n c T W hn hw hA hok
end Go.Proofs.Ytokphbpgblhakaa
