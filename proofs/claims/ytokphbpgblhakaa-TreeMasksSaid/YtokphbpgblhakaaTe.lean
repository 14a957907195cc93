/- The sets of bits and the walk over the leaves (functions 21, 22). -/
import Derived.Test.YtokphbpgblhakaaTd
import Derived.Laws.BitsAllLaws
import Derived.Laws.BitsLemmas
import Derived.Deep.RegionHeld3
import Derived.Deep.RegionWith
import Derived.Deep.DeepCutAuto
import Derived.Shelf.Abstract
import Derived.Shelf.RegionOpen
import Derived.OwnWalkIn
import Derived.TacticsInMore
import Derived.LoopNIn
import Derived.LoopIn
namespace Go.Proofs.Ytokphbpgblhakaa
open Go.RowKit

theorem two_pow_lt {p : Nat} (hp : p < 64) : 2 ^ p < 18446744073709551616 := by
  have := Nat.pow_lt_pow_right (a := 2) (by omega) hp
  simpa using this
theorem wrap_two_pow {p : Nat} (hp : p < 64) : IntKind.u64.wrap ((2 : Int) ^ p) = ((2 ^ p : Nat) : Int) := by
  have h := two_pow_lt hp
  have e : ((2 : Int) ^ p) = ((2 ^ p : Nat) : Int) := by simp
  rw [e, IntKind.wrap_u64]
  generalize 2 ^ p = y at *
  omega
theorem or_two_pow_lt {x p : Nat} (hx : x < 18446744073709551616) (hp : p < 64) : x ||| 2 ^ p < 18446744073709551616 := by
  have := Nat.or_lt_two_pow (n := 64) (x := x) (y := 2 ^ p) (by simpa using hx) (by simpa using two_pow_lt hp)
  simpa using this

set_option maxRecDepth 100000 in
set_option maxHeartbeats 1000000 in
theorem with_any (x p : Nat) (w : World) (hx : x < 18446744073709551616) (hp : p < 64) :
    Calls Try.prog 21 #[.agg #[.int .u64 x], .int .i64 p] w fun e w' => e = .returned (.agg #[.int .u64 ((x ||| 2 ^ p : Nat) : Int)]) ∧ Chg NoB w w' := by
  have e1 : p / 64 = 0 := by omega
  have e2 : p % 64 = p := by omega
  have e3 := wrap_two_pow hp
  have e4 := u64_or_nat x (2 ^ p) hx (two_pow_lt hp)
  have E3 := Lib.hid e3
  have E4 := Lib.hid e4
  clear e3 e4
  go_enter Try.func21, Try.ntmps21
  go_wp2
  go_region
  have e5 := E3.out
  have e6 := E4.out
  simp only [e1, e2, e5, e6]
  go_wp2
  exact bodyPost_ret (v := .agg #[.int .u64 ((x ||| 2 ^ p : Nat) : Int)]) (by simp [results, Try.results21, go_sem]) rfl ⟨rfl, (((Chg.refl _ _).alloc _).alloc _).drew⟩

/-- the kids' sets when the first i nodes have been seen: only whether one is empty counts -/
def KidsAt (T : Nat → Nd) (i : Nat) (x : Nat → Nat) : Prop := ∀ p, x p < 18446744073709551616 ∧ (x p = 0 ↔ ∀ j, 1 ≤ j → j < i → (T j).par ≠ (p : Int))

/-- row of n sets at block g -/
def SetsAt (w : World) (g n : Nat) (x : Nat → Nat) : Prop := ∃ cur, w.heap[g]? = some (.cells cur 41 (0, 0)) ∧ cur.size = n ∧ ∀ i, i < n → cur[i]? = some (.int .u64 (x i : Int))
theorem SetsAt.cell {w : World} {g n : Nat} {x : Nat → Nat} (h : SetsAt w g n x) {i : Nat} (hi : i < n) : w.cell? ⟨g, i, none⟩ = some (.int .u64 (x i : Int)) := by
  obtain ⟨cur, hg, _, hx⟩ := h
  unfold World.cell?
  rw [hg]
  simpa using hx i hi
theorem SetsAt.free {w : World} {g n : Nat} {x : Nat → Nat} (h : SetsAt w g n x) (i : Nat) : w.frozen? ⟨g, i, none⟩ = false := by
  obtain ⟨cur, hg, _⟩ := h
  unfold World.frozen?
  rw [hg]; simp
theorem SetsAt.chg {S : Nat → Prop} {w w' : World} {g n : Nat} {x : Nat → Nat} (h : SetsAt w g n x) (hc : Chg S w w') (hS : ¬ S g) : SetsAt w' g n x := by
  obtain ⟨cur, hg, r⟩ := h
  exact ⟨cur, hc.heap hg hS, r⟩
theorem SetsAt.lt {w : World} {g n : Nat} {x : Nat → Nat} (h : SetsAt w g n x) : g < w.heap.size := by
  obtain ⟨cur, hg, _⟩ := h
  exact (Array.getElem?_eq_some_iff.1 hg).1
theorem SetsAt.set_ {w : World} {g n : Nat} {x : Nat → Nat} (h : SetsAt w g n x) {i : Nat} (hi : i < n) (v : Nat) : SetsAt (w.setCell ⟨g, i, none⟩ (.int .u64 (v : Int))) g n (fun j => if j = i then v else x j) := by
  obtain ⟨cur, hg, hs, hx⟩ := h
  refine ⟨cur.setIfInBounds i (.int .u64 (v : Int)), ?_, by simpa using hs, fun j hj => ?_⟩
  · simp [World.setCell, Array.getElem?_modify, hg]
  · rw [Array.getElem?_setIfInBounds]
    by_cases e : i = j
    · subst e; simp [hs, hi]
    · rw [if_neg e]; simp only [if_neg (fun h : j = i => e h.symm)]; exact hx j hj

theorem KidsAt.zero (T : Nat → Nd) : KidsAt T 1 (fun _ => 0) := fun p => ⟨by simp, fun _ j h1 h2 => by omega, fun _ => rfl⟩
theorem KidsAt.step {T : Nat → Nd} {i : Nat} {x : Nat → Nat} (h : KidsAt T i x) (hi1 : 1 ≤ i) (hi : i < 64) {p : Nat} (hp : (T i).par = (p : Int)) : KidsAt T (i + 1) (fun j => if j = p then x p ||| 2 ^ i else x j) := by
  intro q
  by_cases e : q = p
  · subst e
    simp only [if_true]
    refine ⟨or_two_pow_lt (h q).1 hi, ?_⟩
    constructor
    · intro h0
      exfalso
      have hb : (x q ||| 2 ^ i).testBit i = true := by simp
      rw [h0] at hb; simp at hb
    · intro hj
      exact absurd hp (hj i hi1 (by omega))
  · simp only [if_neg e]
    refine ⟨(h q).1, (h q).2.trans ?_⟩
    constructor
    · intro hj j h1 h2
      rcases Nat.lt_or_ge j i with h3 | h3
      · exact hj j h1 h3
      · obtain rfl : j = i := by omega
        rw [hp]; intro he; exact e (by omega)
    · exact fun hj j h1 h2 => hj j h1 (by omega)
theorem KidsAt.leaf {T : Nat → Nd} {n : Nat} {x : Nat → Nat} (h : KidsAt T n x) (h0 : (T 0).par = -1) (p : Nat) : x p = 0 ↔ leafAt T n p = true := by
  rw [(h p).2, leafAt_iff]
  constructor
  · intro hj j hjn
    rcases Nat.eq_zero_or_pos j with rfl | hp
    · rw [h0]; omega
    · exact hj j hp hjn
  · exact fun hj j _ h2 => hj j h2

theorem info41 : (Try.prog.info? 41).map (fun i => (i.zero, i.size, i.bytes)) = some (some (.agg #[.int .u64 0]), 1, 8) := by kernel_rfl

theorem info39 : (Try.prog.info? 39).map (fun i => (i.zero, i.size, i.bytes)) = some (some (.int .u64 0), 1, 8) := by kernel_rfl
theorem eq41' (d : Nat) (a b : Int) (w : World) : (Op.equalIn (d + 1 + 1) 41 (.agg #[.int .u64 a]) (.agg #[.int .u64 b])).run Try.prog w = .ok (a == b) w := by
  obtain ⟨i0, hi, hz0, hz1, hz2⟩ := info_parts info39
  have h := run_equalIn_int (P := Try.prog) w d 39 .u64 .u64 a b Try.underlying39
  rw [Op.equalIn]
  simp [run_underlying Try.underlying41, sizeOf, typeInfo, hi, hz1, part]
  rw [h]
  cases h' : (a == b) <;> rfl
theorem eq41 (a b : Int) (w : World) : (Op.equalIn 10000 41 (.agg #[.int .u64 a]) (.agg #[.int .u64 b])).run Try.prog w = .ok (a == b) w := eq41' 9998 a b w

def leavesL (T : Nat → Nd) (n : Nat) : List Nat := (List.range n).filter (leafAt T n)

theorem leaves_split {T : Nat → Nd} {n k : Nat} (hk : k < n) (h : leafAt T n k = true) : ∃ rest, leavesL T n = (List.range k).filter (leafAt T n) ++ k :: rest := by
  obtain ⟨d, rfl⟩ : ∃ d, n = k + 1 + d := ⟨n - k - 1, by omega⟩
  unfold leavesL
  conv => enter [1, rest, 1]; rw [List.range_add, List.range_succ]
  simp [List.filter_append, h]
theorem filter_yes {T : Nat → Nd} {n k : Nat} (h : leafAt T n k = true) : (List.range (k + 1)).filter (leafAt T n) = (List.range k).filter (leafAt T n) ++ [k] := by
  simp [List.range_succ, List.filter_append, h]
theorem filter_no {T : Nat → Nd} {n k : Nat} (h : leafAt T n k = false) : (List.range (k + 1)).filter (leafAt T n) = (List.range k).filter (leafAt T n) := by
  simp [List.range_succ, List.filter_append, h]

theorem madeSets (n : Nat) (w : World) : SetsAt (w.alloc (.cells (madeCells (Value.agg #[.int .u64 0]).cells (n * 1)) 41)) w.heap.size n (fun _ => 0) := by
  have hl : (madeCells #[Value.int .u64 0] n).toList = List.replicate n (.int .u64 0) := toList_madeCells_one _ _
  have hl2 : madeCells #[Value.int .u64 0] n = (List.replicate n (Value.int .u64 0)).toArray := by rw [← hl]
  refine ⟨_, World.alloc_heap_new w _, ?_, fun i hi => ?_⟩
  · rw [Nat.mul_one, Value.cells, hl2]; simp
  · rw [Nat.mul_one, Value.cells, hl2]; simp [hi]

set_option maxRecDepth 100000 in
set_option maxHeartbeats 4000000 in
theorem leaves_iter (A : Option Addr) (n c Bx : Nat) (T : Nat → Nd) (R : Nat → Prop) (W : World) (hok : okTree T n) (hbx : W.cell? ⟨Bx, 0, none⟩ = some (.slice A n c)) (hA : TreeAt W A n T) :
    Iter Try.prog 22 #[.pointer (some ⟨Bx, 0, none⟩)] (fun i : Nat => #[Value.int .i64 (i : Int)]) (fun _ _ => True) R (fun xs => xs = leavesL T n) (fun _ => True) (fun pre x => ∃ rest, leavesL T n = pre ++ x :: rest) W := by
  intro m l J Jx hJ hJx hY h0
  have hb := hok.2.1
  have hn1 := hok.1
  obtain ⟨b, off, rfl, hc⟩ := hA hn1
  have Hc := Lib.hid hc
  clear hc hA
  refine callsIn_wide.2 ?_
  obtain ⟨i0, hi, hz0, hz1, hz2⟩ := info_parts info41
  have hmk : ∀ w : World, (Instr.makeSlice 34 (.int .i64 (n : Int)) (.int .i64 (n : Int))).run Try.prog w = .ok (.slice (some ⟨w.heap.size, 0, none⟩) n n) (w.alloc (.cells (madeCells (Value.agg #[.int .u64 0]).cells (n * 1)) 41)) := fun w => by
    have := run_make (P := Try.prog) w 34 41 i0 _ Try.underlying34 hi hz0 .i64 .i64 n n (by omega) (by omega) (by rw [hz2]; omega) (by omega)
    rw [hz1] at this
    simpa using this
  have hBl : Bx < W.heap.size := blk_lt hbx
  go_enter Try.func22, Try.ntmps22
  go_wp2
  have hs0 : SetsAt (W.alloc (.cells (madeCells #[.int .u64 0] n) 41)) W.heap.size n (fun _ => 0) := by
    have := madeSets n W
    rw [Nat.mul_one] at this
    exact this
  have hk0 : KidsAt T 0 (fun _ => 0) := fun p => ⟨by simp, fun _ j h1 h2 => by omega, fun _ => rfl⟩
  have hbl : b < W.heap.size := blk_lt (Hc.out 0 (by omega)).1
  have Hs0 := Lib.hid hs0
  have Hk0 := Lib.hid hk0
  clear hs0 hk0
  go_loopw [12] (fun s12 wr => ∃ (i : Nat) (x : Nat → Nat), i ≤ n ∧ s12 = .int .i64 i ∧ KidsAt T i x ∧ SetsAt wr W.heap.size n x ∧ Chg NoB W wr) (fun s12 _ => n - (intOf s12).toNat)
  case atStart => exact ⟨0, _, Nat.zero_le _, rfl, Hk0.out, Hs0.out, (Chg.refl _ _).alloc _⟩
  case round =>
    obtain ⟨i, x, hin, rfl, hk, hs, hch⟩ := hrel
    have Hk := Lib.hid hk
    have Hs := Lib.hid hs
    clear hk hs
    by_cases hlt : i < n
    · have ci0 := hch.cell (Hc.out i hlt).1 (fun h => h)
      have ci1 := hch.cell (Hc.out i hlt).2.1 (fun h => h)
      have ci2 := hch.cell (Hc.out i hlt).2.2 (fun h => h)
      rcases Nat.eq_zero_or_pos i with rfl | hp
      · simp only [Nat.zero_mul, Nat.add_zero] at ci0 ci1 ci2
        go_wp2
        go_roundw
        case rel => exact ⟨1, x, hn1, rfl, fun p => ⟨(Hk.out p).1, (Hk.out p).2.trans ⟨fun _ j h1 h2 => by omega, fun _ j h1 h2 => by omega⟩⟩, Hs.out.chg ((Chg.refl NoB _).alloc _) (fun h => h), hch.alloc _⟩
        case measure => simp [intOf]; omega
      · obtain ⟨e1, e2, e3⟩ := dep_par T n hok hp hlt
        obtain ⟨p, hpp⟩ : ∃ p : Nat, (T i).par = p := ⟨(T i).par.toNat, by omega⟩
        rw [hpp] at e3 ci0
        simp only [Int.toNat_natCast] at e3
        have hgt : (i : Int) > 0 := by omega
        have cp := Hs.out.cell (show p < n by omega)
        have hxl := (Hk.out p).1
        have hpn : (p : Int) < (n : Int) := by omega
        have hGl : W.heap.size < wr.heap.size := Hs.out.lt
        have hfr := Hs.out.free p
        clear e1 e2
        have Hpp := Lib.hid hpp
        clear hpp
        generalize (T i).tok = ti at *
        generalize (T i).dep = di at *
        go_wp2
        have q0 : (wr.alloc (.cells #[.int .i64 p, .int .i64 ti, .int .i64 di] 43)).cell? ⟨wr.heap.size, 0, none⟩ = some (.int .i64 p) := by simp
        have q1 : (wr.alloc (.cells #[.int .i64 p, .int .i64 ti, .int .i64 di] 43)).cell? ⟨W.heap.size, p, none⟩ = some (.int .u64 (x p)) := by
          rw [World.cell?_alloc_lt _ _ _ hGl]; exact cp
        have hsO : SetsAt (wr.alloc (.cells #[.int .i64 p, .int .i64 ti, .int .i64 di] 43)) W.heap.size n x := Hs.out.chg ((Chg.refl NoB _).alloc _) (fun h => h)
        have hchO : Chg NoB W (wr.alloc (.cells #[.int .i64 p, .int .i64 ti, .int .i64 di] 43)) := hch.alloc _
        generalize (wr.alloc (.cells #[.int .i64 p, .int .i64 ti, .int .i64 di] 43)) = wo at *
        have HsO := Lib.hid hsO
        have HchO := Lib.hid hchO
        clear hsO hchO ci0 ci1 ci2 cp hfr hch
        generalize wr.heap.size = g at *
        go_region_with (go_at_call 21; refine (with_any (x p) i _ hxl (by omega)).mono ?_; rintro e w9 ⟨rfl, hc9⟩; have r0 := hc9.cell (v := Value.int .i64 p) q0 (fun h => h); have r1 := hc9.cell (v := Value.int .u64 (x p)) q1 (fun h => h); have r2 := (HsO.out.chg (w' := w9) ⟨hc9.os, hc9.tape, hc9.output, hc9.size, hc9.block⟩ (fun h => h)).free p)
        all_goals
          go_wp2
          go_roundw
          case rel =>
            have hcw : Chg NoB wo w9 := ⟨hc9.os, hc9.tape, hc9.output, hc9.size, hc9.block⟩
            exact ⟨i + 1, _, by omega, by go_num, Hk.out.step hp (by omega) Hpp.out, (HsO.out.chg hcw (fun h => h)).set_ (by omega) _, (HchO.out.step hcw).setCell (p := ⟨W.heap.size, p, none⟩) (fun h => absurd h (by simp)) _⟩
          case measure => simp [intOf]; omega
    · obtain rfl : i = n := by omega
      have hlf : ∀ p, x p = 0 ↔ leafAt T i p = true := fun p => Hk.out.leaf hok.2.2.1 p
      have hbx2 := hch.cell hbx (fun h => h)
      have Hlf := Lib.hid hlf
      have heq := eq41
      have hJ0 : J [] NoB wr := hJ _ _ _ _ h0 (fun _ h => h.elim) (hch.mono (fun _ _ h => h.elim))
      have HJ0 := Lib.hid hJ0
      have HJ := Lib.hid hJ
      have HY := Lib.hid hY
      clear hlf hJ0 hJ hY hbx
      go_wp2
      refine (wpIn_wide (n := m)).1 ?_
      gi_loopw [33] (fun s33 wx => ∃ (k : Nat) (Y : Nat → Prop), k ≤ i ∧ s33 = .int .i64 k ∧ J ((List.range k).filter (leafAt T i)) Y wx ∧ W.heap.size ≤ wx.heap.size ∧ (∀ j, Y j → W.heap.size ≤ j ∧ j < wx.heap.size ∧ j ≠ W.heap.size) ∧ SetsAt wx W.heap.size i x)
        (fun s33 _ => i - (intOf s33).toNat)
      case atStart => exact ⟨0, NoB, Nat.zero_le _, rfl, HJ0.out, hch.size, fun _ h => h.elim, Hs.out⟩
      case round =>
        obtain ⟨k, Y, hki, rfl, hj, hsz, hYk, hs⟩ := hrel
        have Hj := Lib.hid hj
        have Hs2 := Lib.hid hs
        have HYk := Lib.hid hYk
        clear hj hs hYk
        by_cases hlk : k < i
        · have cp := Hs2.out.cell hlk
          have hki' : (k : Int) < (i : Int) := by omega
          have hGl2 : W.heap.size < wr.heap.size := Hs2.out.lt
          cases hleaf : leafAt T i k with
          | true =>
            have hx0 : x k = 0 := (Hlf.out k).2 hleaf
            have cp0 : wr.cell? ⟨W.heap.size, k, none⟩ = some (.int .u64 0) := by rw [cp, hx0]; rfl
            have Hleaf := Lib.hid hleaf
            obtain ⟨fn, tmps, assign, body, hy, hR⟩ := HY.out _ k Y wr Hj.out (leaves_split hlk hleaf) trivial hsz (fun j hj => ⟨(HYk.out j hj).1, (HYk.out j hj).2.1⟩)
            clear cp hx0 hleaf
            gi_wp2
            refine ⟨fun h => absurd h (by simp [Fence.wide]), hR.mono ?_⟩
            rintro e W3 ⟨hc3, Y', hY', h3⟩
            have hsz3 : W.heap.size ≤ W3.heap.size := Nat.le_trans hsz hc3.size
            have hnG : ¬ Y W.heap.size := fun h => (HYk.out _ h).2.2 rfl
            have hs3 := Hs2.out.chg hc3 (fun h => h.elim (fun h => by omega) hnG)
            have hY3 : ∀ j, Y' j → W.heap.size ≤ j ∧ j < W3.heap.size ∧ j ≠ W.heap.size := fun j hj => by
              have := hY' j hj
              rcases this.1 with h | h
              · exact ⟨(HYk.out j h).1, this.2, (HYk.out j h).2.2⟩
              · exact ⟨by omega, this.2, by omega⟩
            have Hs3 := Lib.hid hs3
            have HY3 := Lib.hid hY3
            clear hs3 hY3 hY' hc3 hR hy
            rcases h3 with ⟨rfl, hj3⟩ | ⟨rfl, hj3⟩
            · have Hj3 := Lib.hid hj3
              clear hj3
              gi_wp2
              go_roundw
              case rel => exact ⟨k + 1, Y', by omega, by go_num, by rw [filter_yes Hleaf.out]; exact Hj3.out, hsz3, HY3.out, Hs3.out⟩
              case measure => simp [intOf]; omega
            · have Hj3 := Lib.hid hj3
              clear hj3
              gi_wp2
              refine bodyPost_ret (results_none rfl _ _ _) rfl ?_
              exact ⟨⟨_, rfl⟩, Y', hsz3, fun j hj => ⟨(HY3.out j hj).1, (HY3.out j hj).2.1⟩, .inr ⟨_, trivial, Hj3.out⟩⟩
          | false =>
            have hx0 : x k ≠ 0 := fun h => by have := (Hlf.out k).1 h; rw [this] at hleaf; cases hleaf
            have hd : (((x k : Nat) : Int) == 0) = false := by rw [beq_eq_false_iff_ne]; omega
            have Hleaf := Lib.hid hleaf
            clear hleaf hx0
            gi_wp2
            refine ⟨fun _ _ => trivial, ?_⟩
            gi_wp2
            go_roundw
            case rel => exact ⟨k + 1, Y, by omega, by go_num, by rw [filter_no Hleaf.out]; exact Hj.out, hsz, HYk.out, Hs2.out⟩
            case measure => simp [intOf]; omega
        · obtain rfl : k = i := by omega
          gi_wp2
          go_end0
          exact ⟨⟨_, rfl⟩, Y, hsz, fun j hj => ⟨(HYk.out j hj).1, (HYk.out j hj).2.1⟩, .inl ⟨_, rfl, Hj.out⟩⟩
end Go.Proofs.Ytokphbpgblhakaa
