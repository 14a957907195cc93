/- Above (function 11) answers each node's set. -/
import Derived.Test.YtokphbpgblhakaaTn
import Derived.Test.YtokphbpgblhakaaTc
namespace Go.Proofs.Ytokphbpgblhakaa
open Go.RowKit

theorem above_no (A : Option Addr) (n c : Nat) (T : Nat → Nd) (w : World) (hA : TreeAt w A n T) (hw : NdWf T n) (hok : ¬ okTree T n) :
    Calls Try.prog 11 #[.slice A n c] w fun e w' => e = .returned (.tuple #[.slice none 0 0, .int .i64 140]) ∧ Chg NoB w w' := by
  have hk : chk T n = 140 := if_neg hok
  have Hk := Lib.hid hk
  clear hk hok
  go_enter Try.func11, Try.ntmps11
  go_wp2_with fail
  refine (tCheck_any A n c T _ hA hw).mono ?_
  rintro e w1 ⟨rfl, hc1⟩
  rw [Hk.out]
  go_wp2
  exact bodyPost_ret (v := .tuple #[.slice none 0 0, .int .i64 140]) (by simp [results, Try.results11, go_sem]) rfl ⟨rfl, hc1⟩

/-- the sets when the first i nodes are done -/
def upSets (T : Nat → Nd) (i : Nat) : Nat → Nat := fun j => if j < i then wbits T j else 0

theorem upSets_first (T : Nat → Nd) : (fun j => if j = 0 then 0 ||| 2 ^ 0 else upSets T 0 j) = upSets T 1 := by
  funext j
  by_cases h : j = 0
  · subst h; simp [upSets, wbits_zero]
  · have h2 : ¬ j < 1 := by omega
    simp [upSets, h]
theorem upSets_next {T : Nat → Nd} {n i p : Nat} (hok : okTree T n) (hp : 0 < i) (hi : i < n) (hpp : (T i).par = (p : Int)) : (fun j => if j = i then wbits T p ||| 2 ^ i else if j = i then wbits T p else upSets T i j) = upSets T (i + 1) := by
  funext j
  by_cases h : j = i
  · subst h
    have := wbits_succ hok hp hi
    rw [hpp] at this
    simp only [Int.toNat_natCast] at this
    simp [upSets, this]
  · simp only [upSets, if_neg h]
    by_cases h2 : j < i
    · rw [if_pos h2, if_pos (by omega)]
    · rw [if_neg h2, if_neg (by omega)]

set_option maxRecDepth 100000 in
set_option maxHeartbeats 4000000 in
theorem above_yes (A : Option Addr) (n c : Nat) (T : Nat → Nd) (W : World) (hA : TreeAt W A n T) (hw : NdWf T n) (hok : okTree T n) :
    Calls Try.prog 11 #[.slice A n c] W fun e w' => ∃ g, e = .returned (.tuple #[.slice (some ⟨g, 0, none⟩) n n, .int .i64 0]) ∧ W.heap.size ≤ g ∧ SetsAt w' g n (wbits T) ∧ Chg NoB W w' := by
  have hk : chk T n = 0 := if_pos hok
  have hb := hok.2.1
  have hn1 := hok.1
  have Hok := Lib.hid hok
  have Hk := Lib.hid hk
  clear hk hok
  obtain ⟨i0, hi, hz0, hz1, hz2⟩ := info_parts info41
  have hmk : ∀ w : World, (Instr.makeSlice 34 (.int .i64 (n : Int)) (.int .i64 (n : Int))).run Try.prog w = .ok (.slice (some ⟨w.heap.size, 0, none⟩) n n) (w.alloc (.cells (madeCells (Value.agg #[.int .u64 0]).cells (n * 1)) 41)) := fun w => by
    have := run_make (P := Try.prog) w 34 41 i0 _ Try.underlying34 hi hz0 .i64 .i64 n n (by omega) (by omega) (by rw [hz2]; omega) (by omega)
    rw [hz1] at this
    simpa using this
  go_enter Try.func11, Try.ntmps11
  go_wp2_with fail
  refine (tCheck_any A n c T _ hA hw).mono ?_
  rintro e w1 ⟨rfl, hc1⟩
  rw [Hk.out]
  obtain ⟨b, off, rfl, hc⟩ := hA hn1
  have Hc := Lib.hid hc
  clear hc hA
  have hbl : b < W.heap.size := blk_lt (Hc.out 0 (by omega)).1
  have hs0 : SetsAt (w1.alloc (.cells (madeCells #[.int .u64 0] n) 41)) w1.heap.size n (upSets T 0) := by
    have := madeSets n w1
    rw [Nat.mul_one] at this
    have e : upSets T 0 = fun _ => 0 := by funext j; simp [upSets]
    rw [e]
    exact this
  have hch0 : Chg NoB W (w1.alloc (.cells (madeCells #[.int .u64 0] n) 41)) := hc1.alloc _
  have hsz1 := hc1.size
  have Hs0 := Lib.hid hs0
  have Hch0 := Lib.hid hch0
  clear hs0 hch0
  go_wp2
  go_loopw [18] (fun s18 wr => ∃ (i : Nat), i ≤ n ∧ s18 = .int .i64 i ∧ SetsAt wr w1.heap.size n (upSets T i) ∧ Chg NoB W wr) (fun s18 _ => n - (intOf s18).toNat)
  case atStart => exact ⟨0, Nat.zero_le _, rfl, Hs0.out, Hch0.out⟩
  case round =>
    obtain ⟨i, hin, rfl, hs, hch⟩ := hrel
    have Hs := Lib.hid hs
    have Hch := Lib.hid hch
    clear hs
    by_cases hlt : i < n
    · have ci0 := hch.cell (Hc.out i hlt).1 (fun h => h)
      have ci1 := hch.cell (Hc.out i hlt).2.1 (fun h => h)
      have ci2 := hch.cell (Hc.out i hlt).2.2 (fun h => h)
      have hGl : w1.heap.size < wr.heap.size := Hs.out.lt
      have hfr := Hs.out.free i
      have hlti : (i : Int) < (n : Int) := by omega
      rcases Nat.eq_zero_or_pos i with rfl | hp
      · simp only [Nat.zero_mul, Nat.add_zero] at ci0 ci1 ci2
        have cp := Hs.out.cell hn1
        have e0 : upSets T 0 0 = 0 := by simp [upSets]
        rw [e0] at cp
        clear hch
        go_wp2_with fail
        have hsO : SetsAt (wr.alloc (.cells #[.int .i64 (T 0).par, .int .i64 (T 0).tok, .int .i64 (T 0).dep] 43)) w1.heap.size n (upSets T 0) := Hs.out.chg ((Chg.refl NoB _).alloc _) (fun h => h)
        have hchO : Chg NoB W (wr.alloc (.cells #[.int .i64 (T 0).par, .int .i64 (T 0).tok, .int .i64 (T 0).dep] 43)) := Hch.out.alloc _
        refine (with_any 0 0 _ (by omega) (by omega)).mono ?_
        rintro e w9 ⟨rfl, hc9⟩
        have hs9 := hsO.chg hc9 (fun h => h)
        have cp9 := hs9.cell hn1
        rw [e0] at cp9
        have hf9 := hs9.free 0
        have hs10 := hs9.set_ hn1 (0 ||| 2 ^ 0)
        rw [upSets_first] at hs10
        have hch10 := (hchO.step hc9).setCell (p := ⟨w1.heap.size, 0, none⟩) (fun h => by simp only at h; omega) (.int .u64 ((0 ||| 2 ^ 0 : Nat) : Int))
        have Hs10 := Lib.hid hs10
        have Hch10 := Lib.hid hch10
        clear hs9 hs10 hch10 hsO hchO hc9
        go_wp2
        go_roundw
        case rel => exact ⟨1, hn1, rfl, Hs10.out, Hch10.out⟩
        case measure => simp [intOf]; omega
      · obtain ⟨e1, e2, e3⟩ := dep_par T n Hok.out hp hlt
        obtain ⟨p, hpp⟩ : ∃ p : Nat, (T i).par = p := ⟨(T i).par.toNat, by omega⟩
        rw [hpp] at e3 ci0
        simp only [Int.toNat_natCast] at e3
        have hgt : (i : Int) > 0 := by omega
        have cp := Hs.out.cell (show p < n by omega)
        have ci := Hs.out.cell hlt
        have ep : upSets T i p = wbits T p := by simp [upSets, e3]
        rw [ep] at cp
        have hxl := wbits_lt Hok.out (show p < n by omega)
        have hpn : (p : Int) < (n : Int) := by omega
        clear e1 e2 ep
        have Hpp := Lib.hid hpp
        clear hpp hch
        generalize (T i).tok = ti at *
        generalize (T i).dep = di at *
        have hsP : SetsAt ((wr.setCell ⟨w1.heap.size, i, none⟩ (.int .u64 ((wbits T p : Nat) : Int))).alloc (.cells #[.int .i64 p, .int .i64 ti, .int .i64 di] 43)) w1.heap.size n (fun j => if j = i then wbits T p else upSets T i j) := (Hs.out.set_ hlt (wbits T p)).chg ((Chg.refl NoB _).alloc _) (fun h => h)
        have hchP : Chg NoB W ((wr.setCell ⟨w1.heap.size, i, none⟩ (.int .u64 ((wbits T p : Nat) : Int))).alloc (.cells #[.int .i64 p, .int .i64 ti, .int .i64 di] 43)) := (Hch.out.setCell (p := ⟨w1.heap.size, i, none⟩) (fun h => by simp only at h; omega) _).alloc _
        have HsP := Lib.hid hsP
        have HchP := Lib.hid hchP
        clear hsP hchP
        go_wp2_with fail
        refine (with_any (wbits T p) i _ hxl (by omega)).mono ?_
        rintro e w9 ⟨rfl, hc9⟩
        have hs9 := HsP.out.chg hc9 (fun h => h)
        have cp9 := hs9.cell hlt
        simp only [if_true] at cp9
        have hf9 := hs9.free i
        have hs10 := hs9.set_ hlt (wbits T p ||| 2 ^ i)
        rw [upSets_next Hok.out hp hlt Hpp.out] at hs10
        have hch10 := (HchP.out.step hc9).setCell (p := ⟨w1.heap.size, i, none⟩) (fun h => by simp only at h; omega) (.int .u64 ((wbits T p ||| 2 ^ i : Nat) : Int))
        have Hs10 := Lib.hid hs10
        have Hch10 := Lib.hid hch10
        clear hs9 hs10 hch10 hc9
        go_wp2
        go_roundw
        case rel => exact ⟨i + 1, by omega, by go_num, Hs10.out, Hch10.out⟩
        case measure => simp [intOf]; omega
    · obtain rfl : i = n := by omega
      go_wp2
      have hfin : upSets T i = fun j => if j < i then wbits T j else 0 := rfl
      obtain ⟨cur, h1, h2, h3⟩ := Hs.out
      exact bodyPost_ret (v := .tuple #[.slice (some ⟨w1.heap.size, 0, none⟩) i i, .int .i64 0]) (by simp [results, Try.results11, go_sem]) rfl
        ⟨_, rfl, hsz1, ⟨cur, h1, h2, fun j hj => by rw [h3 j hj]; simp [upSets, hj]⟩, Hch.out⟩
end Go.Proofs.Ytokphbpgblhakaa
